/- Of our own: an abstract machine beside the model, its soundness, and walks of the program in it. -/
import Derived.Test.YtmjnlbjnmmmlmaaDoorA16
import Derived.Test.YtmjnlbjnmmmlmaaDoorA15
set_option linter.unusedSimpArgs false
set_option linter.unusedVariables false
section
set_option autoImplicit false
set_option maxRecDepth 100000
set_option maxHeartbeats 4000000
set_option linter.unusedSimpArgs false
set_option linter.unusedVariables false
namespace Go.Proofs.YtmjnlbjnmmmlmaaDoor.AS
open Go Go.Proofs Go.RowKit Go.Proofs.YtmjnlbjnmmmlmaaDoor.AS.V

section
variable {P : Program} {T : Nat → CallF} {n : Nat} {F : Fr} {h : Heap} {K : Fr → Heap → Prop} {l : List AOper} {d : Option Nat} {x y : Operand} {i : IntKind} {a b : Int} {t yt ty : TypeId}
theorem WO.andNot (hx : evF F x = .s (.int i a)) (hy : evF F y = .s (.int i b)) (k : WO P T n l (putF d (.s (.int i (Go.bits .andNot i a b))) F) h K) : WO P T n (⟨d, none, .p (.sc (.binOp .andNot t x y yt) ty)⟩ :: l) F h K := WO.bin hx hy (bin_andNot ..) k
end
theorem bad_bits : ∀ p : Fin 256, Go.bits .or .i32 (Go.bits .andNot .i32 (p.val : Int) (-1)) (Go.bits .and .i32 65533 (-1)) = 65533 := by decide +kernel
theorem slowB_FR (h : Heap) (s : ByteArray) (hs : s.size ≤ 140737488355328) (h1 : 1 ≤ s.size) (hx : nth tabFirst (bt s 0) = 241) :
    FR Tryd.prog TT 42 [.s (.string s)] h fun y H => y = .tp [.s (.int .i32 65533), .s (.int .i64 1)] ∧ Grows h H := by
  have b0 := bt_range s 0
  have hl : tabFirst.length = 256 := rfl
  have ht := tab_one gF b0.1 (by omega : bt s 0 < tabFirst.length)
  rw [hx] at ht
  have hbb := bad_bits ⟨(bt s 0).toNat, by omega⟩
  simp only at hbb
  rw [Int.toNat_of_nonneg b0.1] at hbb
  refine FR.of q42 (by kernel_rfl) ?_
  unfold c42
  repeat' (first
    | (refine WO.tabA rfl rfl (by omega) (by omega) ?_)
    | (refine WO.tabL rfl ht ?_)
    | (refine WO.shl (r := -2147483648) rfl rfl (by omega) (by decide) ?_)
    | (refine WO.shr (r := -1) rfl rfl (by omega) (by decide) ?_)
    | (refine WO.andNot rfl rfl ?_)
    | (refine WO.and rfl rfl ?_)
    | (refine WO.or rfl rfl ?_; rw [hbb])
    | (refine LQ.fin ?_)
    | (refine EQ.fin rfl ?_)
    | (refine WO.mvs rfl ?_)
    | (refine WO.mvp rfl ?_)
    | (refine WO.mvt rfl ?_)
    | (refine WO.mv ?_)
    | (refine W.sreg ?_)
    | (refine W.sdraw ?_)
    | (refine W.reg ?_)
    | (refine W.draw ?_)
    | (refine WO.nil ?_)
    | (refine WO.gU rfl ?_)
    | (refine WO.gT rfl rfl ?_)
    | (refine WO.gF rfl rfl ?_)
    | (refine WO.ext rfl rfl ?_)
    | (refine WO.lenR (by assumption) ?_)
    | (refine WO.add rfl rfl (by first | exact wrOK (by simp only [loK, hiK]; omega) | rfl) ?_)
    | (refine WO.sub rfl rfl (by first | exact wrOK (by simp only [loK, hiK]; omega) | rfl) ?_)
    | (refine WO.lss rfl rfl ?_)
    | (refine WO.leq rfl rfl ?_)
    | (refine WO.gtr rfl rfl ?_)
    | (refine WO.geq rfl rfl ?_)
    | (refine WO.eql rfl rfl ?_)
    | (refine WO.neq rfl rfl ?_)
    | (refine WO.seql rfl rfl ?_)
    | (refine WO.sneq rfl rfl ?_)
    | (refine WO.beql rfl rfl (tb rfl) ?_)
    | (refine WO.bneq rfl rfl (tb rfl) ?_)
    | (refine WO.not rfl ?_)
    | (refine WO.not0 rfl ?_)
    | (refine WO.cvi rfl (kd rfl) (kd rfl) (by first | exact wrOK (by simp only [loK, hiK]; omega) | rfl) ?_)
    | (refine WO.cvs rfl (st rfl) (st rfl) ?_)
    | (refine WO.ix rfl rfl (st rfl) (by first | assumption | omega) (by first | assumption | omega) ?_)
    | (refine WO.slen rfl (st rfl) ?_)
    | (refine WO.iaddr (by assumption) rfl rfl (by first | assumption | omega) (by first | assumption | omega) (fun q hq => ?_))
    | (refine WO.load (by assumption) rfl rfl ?_)
    | (refine WO.loadO rfl (by assumption) rfl rfl ?_)
    | (refine WO.faddrP (by assumption) rfl (fun q hq => ?_))
    | (refine WO.nilckP (by assumption) ?_)
    | (refine WO.nilck rfl ?_)
    | (refine WO.faddr rfl ?_)
    | (refine WO.fld rfl rfl rfl ?_)
    | (refine WO.pickT rfl ?_)
    | (refine WO.pickF rfl ?_)
    | (refine WO.sll rfl rfl (st rfl) (by first | assumption | omega) (by first | assumption | omega) ?_)
    | (refine WO.slh rfl rfl (st rfl) (by first | assumption | omega) (by first | assumption | omega) ?_)
    | (refine WO.slb rfl rfl rfl (st rfl) (by first | assumption | omega) (by first | assumption | omega) (by first | assumption | omega) ?_)
    | (refine WO.mul rfl rfl (by first | exact wrOK (by simp only [loK, hiK]; omega) | rfl) ?_)
    | (refine WO.quo rfl rfl (by first | assumption | omega) (by first | exact wrOK (by simp only [loK, hiK]; omega) | rfl) ?_)
    | (refine WO.rem rfl rfl (by first | assumption | omega) ?_)
    | (refine WO.and rfl rfl ?_)
    | (refine WO.or rfl rfl ?_)
    | (refine WO.xor rfl rfl ?_)
    | (refine WO.shl rfl rfl (by first | assumption | omega) (by simp [IntKind.bits]; rfl) ?_)
    | (refine WO.shr rfl rfl (by first | assumption | omega) (by simp [IntKind.bits]; rfl) ?_)
    | (refine WO.build (C := [_]) rfl ?_)
    | (refine WO.build (C := [_, _]) rfl ?_)
    | (refine WO.build (C := [_, _, _]) rfl ?_)
    | (refine WO.build (C := [_, _, _, _]) rfl ?_)
    | (refine WO.build (C := [_, _, _, _, _]) rfl ?_)
    | (refine WO.build (C := [_, _, _, _, _, _]) rfl ?_)
    | (refine WO.build (C := [_, _, _, _, _, _, _]) rfl ?_)
    | (refine WO.eqnil (by assumption) (fun hn1 hn2 => ?_) ?_)
    | (refine W.condT rfl ?_)
    | (refine W.condF rfl ?_)
    | (refine W.condDT rfl (by first | assumption | omega) ?_)
    | (refine W.condDF rfl (by first | assumption | omega) ?_)
    | (refine W.condD rfl (fun hc => ?_) (fun hc => ?_))
    | (refine WO.gS rfl (fun hc => ?_) (fun hc => ?_) <;> try (exfalso; omega))
    | (refine WO.pickS rfl (fun hc => ?_) (fun hc => ?_) <;> try (exfalso; omega))
    | (refine W.skip ?_)
    | (refine W.block ?_)
    | (refine W.drawA rfl ?_)
    | (refine W.sdrawA rfl ?_)
    | (refine And.intro rfl ?_)
    | (refine W.exit ?_)
    | (refine W.ret ?_)
    | (refine W.seq ?_)
    | (refine W.goto ?_)
    | (refine W.label ?_)
    | (refine SQ.nn ?_)
    | (refine SQ.x ?_)
    | (refine SQ.r ?_)
    | (refine SQ.g ?_)
    | (refine BQ.nn ?_)
    | (refine BQ.x ?_)
    | (refine BQ.r ?_)
    | (refine BQ.g ?_)
    | (refine BQ.y rfl ?_)
    | (refine LQ.x ?_)
    | (refine LQ.r ?_)
    | (refine LQ.g ?_)
    | (refine GQ.nn ?_)
    | (refine GQ.x ?_)
    | (refine GQ.r ?_))
  all_goals first
    | exact ⟨rfl, Grows.refl _⟩
theorem slow0_FR (h : Heap) (s : ByteArray) (h1 : s = ⟨#[]⟩) :
    FR Tryd.prog TT 42 [.s (.string s)] h fun y H => y = .tp [.s (.int .i32 65533), .s (.int .i64 0)] ∧ Grows h H := by
  have h0 : s.size = 0 := by rw [h1]; rfl
  refine FR.of q42 (by kernel_rfl) ?_
  unfold c42
  repeat' (first
    | (refine LQ.fin ?_)
    | (refine EQ.fin rfl ?_)
    | (refine WO.mvs rfl ?_)
    | (refine WO.mvp rfl ?_)
    | (refine WO.mvt rfl ?_)
    | (refine WO.mv ?_)
    | (refine W.sreg ?_)
    | (refine W.sdraw ?_)
    | (refine W.reg ?_)
    | (refine W.draw ?_)
    | (refine WO.nil ?_)
    | (refine WO.gU rfl ?_)
    | (refine WO.gT rfl rfl ?_)
    | (refine WO.gF rfl rfl ?_)
    | (refine WO.ext rfl rfl ?_)
    | (refine WO.lenR (by assumption) ?_)
    | (refine WO.add rfl rfl (by first | exact wrOK (by simp only [loK, hiK]; omega) | rfl) ?_)
    | (refine WO.sub rfl rfl (by first | exact wrOK (by simp only [loK, hiK]; omega) | rfl) ?_)
    | (refine WO.lss rfl rfl ?_)
    | (refine WO.leq rfl rfl ?_)
    | (refine WO.gtr rfl rfl ?_)
    | (refine WO.geq rfl rfl ?_)
    | (refine WO.eql rfl rfl ?_)
    | (refine WO.neq rfl rfl ?_)
    | (refine WO.seql rfl rfl ?_)
    | (refine WO.sneq rfl rfl ?_)
    | (refine WO.beql rfl rfl (tb rfl) ?_)
    | (refine WO.bneq rfl rfl (tb rfl) ?_)
    | (refine WO.not rfl ?_)
    | (refine WO.not0 rfl ?_)
    | (refine WO.cvi rfl (kd rfl) (kd rfl) (by first | exact wrOK (by simp only [loK, hiK]; omega) | rfl) ?_)
    | (refine WO.cvs rfl (st rfl) (st rfl) ?_)
    | (refine WO.ix rfl rfl (st rfl) (by first | assumption | omega) (by first | assumption | omega) ?_)
    | (refine WO.slen rfl (st rfl) ?_)
    | (refine WO.iaddr (by assumption) rfl rfl (by first | assumption | omega) (by first | assumption | omega) (fun q hq => ?_))
    | (refine WO.load (by assumption) rfl rfl ?_)
    | (refine WO.loadO rfl (by assumption) rfl rfl ?_)
    | (refine WO.faddrP (by assumption) rfl (fun q hq => ?_))
    | (refine WO.nilckP (by assumption) ?_)
    | (refine WO.nilck rfl ?_)
    | (refine WO.faddr rfl ?_)
    | (refine WO.fld rfl rfl rfl ?_)
    | (refine WO.pickT rfl ?_)
    | (refine WO.pickF rfl ?_)
    | (refine WO.sll rfl rfl (st rfl) (by first | assumption | omega) (by first | assumption | omega) ?_)
    | (refine WO.slh rfl rfl (st rfl) (by first | assumption | omega) (by first | assumption | omega) ?_)
    | (refine WO.slb rfl rfl rfl (st rfl) (by first | assumption | omega) (by first | assumption | omega) (by first | assumption | omega) ?_)
    | (refine WO.mul rfl rfl (by first | exact wrOK (by simp only [loK, hiK]; omega) | rfl) ?_)
    | (refine WO.quo rfl rfl (by first | assumption | omega) (by first | exact wrOK (by simp only [loK, hiK]; omega) | rfl) ?_)
    | (refine WO.rem rfl rfl (by first | assumption | omega) ?_)
    | (refine WO.and rfl rfl ?_)
    | (refine WO.or rfl rfl ?_)
    | (refine WO.xor rfl rfl ?_)
    | (refine WO.shl rfl rfl (by first | assumption | omega) (by simp [IntKind.bits]; rfl) ?_)
    | (refine WO.shr rfl rfl (by first | assumption | omega) (by simp [IntKind.bits]; rfl) ?_)
    | (refine WO.build (C := [_]) rfl ?_)
    | (refine WO.build (C := [_, _]) rfl ?_)
    | (refine WO.build (C := [_, _, _]) rfl ?_)
    | (refine WO.build (C := [_, _, _, _]) rfl ?_)
    | (refine WO.build (C := [_, _, _, _, _]) rfl ?_)
    | (refine WO.build (C := [_, _, _, _, _, _]) rfl ?_)
    | (refine WO.build (C := [_, _, _, _, _, _, _]) rfl ?_)
    | (refine WO.eqnil (by assumption) (fun hn1 hn2 => ?_) ?_)
    | (refine W.condT rfl ?_)
    | (refine W.condF rfl ?_)
    | (refine W.condDT rfl (by first | assumption | omega) ?_)
    | (refine W.condDF rfl (by first | assumption | omega) ?_)
    | (refine W.condD rfl (fun hc => ?_) (fun hc => ?_))
    | (refine WO.gS rfl (fun hc => ?_) (fun hc => ?_) <;> try (exfalso; omega))
    | (refine WO.pickS rfl (fun hc => ?_) (fun hc => ?_) <;> try (exfalso; omega))
    | (refine W.skip ?_)
    | (refine W.block ?_)
    | (refine W.drawA rfl ?_)
    | (refine W.sdrawA rfl ?_)
    | (refine And.intro rfl ?_)
    | (refine W.exit ?_)
    | (refine W.ret ?_)
    | (refine W.seq ?_)
    | (refine W.goto ?_)
    | (refine W.label ?_)
    | (refine SQ.nn ?_)
    | (refine SQ.x ?_)
    | (refine SQ.r ?_)
    | (refine SQ.g ?_)
    | (refine BQ.nn ?_)
    | (refine BQ.x ?_)
    | (refine BQ.r ?_)
    | (refine BQ.g ?_)
    | (refine BQ.y rfl ?_)
    | (refine LQ.x ?_)
    | (refine LQ.r ?_)
    | (refine LQ.g ?_)
    | (refine GQ.nn ?_)
    | (refine GQ.x ?_)
    | (refine GQ.r ?_))
  all_goals first
    | exact ⟨rfl, Grows.refl _⟩
end Go.Proofs.YtmjnlbjnmmmlmaaDoor.AS
end
section
set_option autoImplicit false
set_option maxRecDepth 100000
set_option maxHeartbeats 4000000
set_option linter.unusedSimpArgs false
set_option linter.unusedVariables false
namespace Go.Proofs.YtmjnlbjnmmmlmaaDoor.AS
open Go Go.Proofs Go.RowKit Go.Proofs.YtmjnlbjnmmmlmaaDoor.AS.V

theorem first_cls : ∀ p : Fin 256, 128 ≤ p.val → nth tabFirst (p.val : Int) = (if p.val < 194 ∨ 244 < p.val then 241 else if p.val = 224 then 19 else if p.val = 237 then 35 else if p.val = 240 then 52 else if p.val = 244 then 68 else if p.val < 224 then 2 else if p.val < 240 then 3 else 4) := by decide +kernel
/-- The letter that a text begins with, and how many bytes it has. -/
def decS (s : ByteArray) : Int × Int :=
  if s = ⟨#[]⟩ then (65533, 0) else if bt s 0 < 128 then (bt s 0, 1) else if bt s 0 < 194 ∨ 244 < bt s 0 then (65533, 1) else
  slowS s (if bt s 0 < 224 then 2 else if bt s 0 < 240 then 3 else 4) (if bt s 0 = 224 then 160 else if bt s 0 = 240 then 144 else 128) (if bt s 0 = 237 then 159 else if bt s 0 = 244 then 143 else 191)
theorem size_pos {s : ByteArray} (h : s ≠ ⟨#[]⟩) : 1 ≤ s.size := by
  rcases Nat.eq_zero_or_pos s.size with h0 | h0
  · exfalso
    apply h
    apply ByteArray.ext
    exact Array.size_eq_zero_iff.1 h0
  · exact h0
theorem slowA_FR (h : Heap) (s : ByteArray) (hs : s.size ≤ 140737488355328) (hb : s = ⟨#[]⟩ ∨ 128 ≤ bt s 0) :
    FR Tryd.prog TT 42 [.s (.string s)] h fun y H => y = .tp [.s (.int .i32 (decS s).1), .s (.int .i64 (decS s).2)] ∧ Grows h H := by
  by_cases he : s = ⟨#[]⟩
  · have e : decS s = (65533, 0) := if_pos he
    rw [e]; exact slow0_FR h s he
  · have h128 : 128 ≤ bt s 0 := hb.resolve_left he
    have h1 := size_pos he
    have b0 := bt_range s 0
    have hc := first_cls ⟨(bt s 0).toNat, by omega⟩ (by simp only; omega)
    simp only at hc
    rw [Int.toNat_of_nonneg b0.1] at hc
    have go : ∀ (x sz lo hi : Int), nth tabFirst (bt s 0) = x → (0 ≤ x ∧ x < 240) → x % 8 = sz → (2 ≤ sz ∧ sz ≤ 4) → tabV Tryd.prog true 2 2 (0 + (x / 16).toNat * 2) = some (.ag [.s (.int .u8 lo), .s (.int .u8 hi)]) → decS s = slowS s sz lo hi → FR Tryd.prog TT 42 [.s (.string s)] h fun y H => y = .tp [.s (.int .i32 (decS s).1), .s (.int .i64 (decS s).2)] ∧ Grows h H := by
      intro x sz lo hi g1 g2 g3 g4 g5 g6
      rw [g6]; exact slow_FR h s hs h1 x sz lo hi g1 g2 g3 g4 g5
    split at hc
    · have e : decS s = (65533, 1) := by
        unfold decS
        rw [if_neg he, if_neg (by omega), if_pos (by omega)]
      rw [e]; exact slowB_FR h s hs h1 hc
    split at hc
    · exact go 19 3 160 191 hc (by decide) (by decide) (by decide) (tab_two gA (i := 19 / 16) (by decide) (by decide)) (by
        unfold decS
        (repeat' split) <;> first | rfl | (exfalso; omega) | (exfalso; contradiction))
    split at hc
    · exact go 35 3 128 159 hc (by decide) (by decide) (by decide) (tab_two gA (i := 35 / 16) (by decide) (by decide)) (by
        unfold decS
        (repeat' split) <;> first | rfl | (exfalso; omega) | (exfalso; contradiction))
    split at hc
    · exact go 52 4 144 191 hc (by decide) (by decide) (by decide) (tab_two gA (i := 52 / 16) (by decide) (by decide)) (by
        unfold decS
        (repeat' split) <;> first | rfl | (exfalso; omega) | (exfalso; contradiction))
    split at hc
    · exact go 68 4 128 143 hc (by decide) (by decide) (by decide) (tab_two gA (i := 68 / 16) (by decide) (by decide)) (by
        unfold decS
        (repeat' split) <;> first | rfl | (exfalso; omega) | (exfalso; contradiction))
    split at hc
    · exact go 2 2 128 191 hc (by decide) (by decide) (by decide) (tab_two gA (i := 2 / 16) (by decide) (by decide)) (by
        unfold decS
        (repeat' split) <;> first | rfl | (exfalso; omega) | (exfalso; contradiction))
    split at hc
    · exact go 3 3 128 191 hc (by decide) (by decide) (by decide) (tab_two gA (i := 3 / 16) (by decide) (by decide)) (by
        unfold decS
        (repeat' split) <;> first | rfl | (exfalso; omega) | (exfalso; contradiction))
    exact go 4 4 128 191 hc (by decide) (by decide) (by decide) (tab_two gA (i := 4 / 16) (by decide) (by decide)) (by
      unfold decS
      (repeat' split) <;> first | rfl | (exfalso; omega) | (exfalso; contradiction))
theorem dec_FR (h : Heap) (s : ByteArray) (hs : s.size ≤ 140737488355328) :
    FR Tryd.prog TT 39 [.s (.string s)] h fun y H => y = .tp [.s (.int .i32 (decS s).1), .s (.int .i64 (decS s).2)] ∧ Grows h H := by
  have b0 := bt_range s 0
  have hsl := fun hb => slowA_FR h s hs hb
  have hp := @size_pos s
  refine FR.of q39 (by kernel_rfl) ?_
  unfold c39
  repeat' (first
    | (refine WO.ix rfl rfl (st rfl) (by omega) (by have := hp (by assumption); omega) ?_)
    | (refine WO.call rfl (hsl (by first | (right; omega) | (left; exact Classical.not_not.1 (by assumption)))) ?_; rintro _ H1 ⟨rfl, g1⟩)
    | (refine LQ.fin ?_)
    | (refine EQ.fin rfl ?_)
    | (refine WO.mvs rfl ?_)
    | (refine WO.mvp rfl ?_)
    | (refine WO.mvt rfl ?_)
    | (refine WO.mv ?_)
    | (refine W.sreg ?_)
    | (refine W.sdraw ?_)
    | (refine W.reg ?_)
    | (refine W.draw ?_)
    | (refine WO.nil ?_)
    | (refine WO.gU rfl ?_)
    | (refine WO.gT rfl rfl ?_)
    | (refine WO.gF rfl rfl ?_)
    | (refine WO.ext rfl rfl ?_)
    | (refine WO.lenR (by assumption) ?_)
    | (refine WO.add rfl rfl (by first | exact wrOK (by simp only [loK, hiK]; omega) | rfl) ?_)
    | (refine WO.sub rfl rfl (by first | exact wrOK (by simp only [loK, hiK]; omega) | rfl) ?_)
    | (refine WO.lss rfl rfl ?_)
    | (refine WO.leq rfl rfl ?_)
    | (refine WO.gtr rfl rfl ?_)
    | (refine WO.geq rfl rfl ?_)
    | (refine WO.eql rfl rfl ?_)
    | (refine WO.neq rfl rfl ?_)
    | (refine WO.seql rfl rfl ?_)
    | (refine WO.sneq rfl rfl ?_)
    | (refine WO.beql rfl rfl (tb rfl) ?_)
    | (refine WO.bneq rfl rfl (tb rfl) ?_)
    | (refine WO.not rfl ?_)
    | (refine WO.not0 rfl ?_)
    | (refine WO.cvi rfl (kd rfl) (kd rfl) (by first | exact wrOK (by simp only [loK, hiK]; omega) | rfl) ?_)
    | (refine WO.cvs rfl (st rfl) (st rfl) ?_)
    | (refine WO.ix rfl rfl (st rfl) (by first | assumption | omega) (by first | assumption | omega) ?_)
    | (refine WO.slen rfl (st rfl) ?_)
    | (refine WO.iaddr (by assumption) rfl rfl (by first | assumption | omega) (by first | assumption | omega) (fun q hq => ?_))
    | (refine WO.load (by assumption) rfl rfl ?_)
    | (refine WO.loadO rfl (by assumption) rfl rfl ?_)
    | (refine WO.faddrP (by assumption) rfl (fun q hq => ?_))
    | (refine WO.nilckP (by assumption) ?_)
    | (refine WO.nilck rfl ?_)
    | (refine WO.faddr rfl ?_)
    | (refine WO.fld rfl rfl rfl ?_)
    | (refine WO.pickT rfl ?_)
    | (refine WO.pickF rfl ?_)
    | (refine WO.sll rfl rfl (st rfl) (by first | assumption | omega) (by first | assumption | omega) ?_)
    | (refine WO.slh rfl rfl (st rfl) (by first | assumption | omega) (by first | assumption | omega) ?_)
    | (refine WO.slb rfl rfl rfl (st rfl) (by first | assumption | omega) (by first | assumption | omega) (by first | assumption | omega) ?_)
    | (refine WO.mul rfl rfl (by first | exact wrOK (by simp only [loK, hiK]; omega) | rfl) ?_)
    | (refine WO.quo rfl rfl (by first | assumption | omega) (by first | exact wrOK (by simp only [loK, hiK]; omega) | rfl) ?_)
    | (refine WO.rem rfl rfl (by first | assumption | omega) ?_)
    | (refine WO.and rfl rfl ?_)
    | (refine WO.or rfl rfl ?_)
    | (refine WO.xor rfl rfl ?_)
    | (refine WO.shl rfl rfl (by first | assumption | omega) (by simp [IntKind.bits]; rfl) ?_)
    | (refine WO.shr rfl rfl (by first | assumption | omega) (by simp [IntKind.bits]; rfl) ?_)
    | (refine WO.build (C := [_]) rfl ?_)
    | (refine WO.build (C := [_, _]) rfl ?_)
    | (refine WO.build (C := [_, _, _]) rfl ?_)
    | (refine WO.build (C := [_, _, _, _]) rfl ?_)
    | (refine WO.build (C := [_, _, _, _, _]) rfl ?_)
    | (refine WO.build (C := [_, _, _, _, _, _]) rfl ?_)
    | (refine WO.build (C := [_, _, _, _, _, _, _]) rfl ?_)
    | (refine WO.eqnil (by assumption) (fun hn1 hn2 => ?_) ?_)
    | (refine W.condT rfl ?_)
    | (refine W.condF rfl ?_)
    | (refine W.condDT rfl (by first | assumption | omega) ?_)
    | (refine W.condDF rfl (by first | assumption | omega) ?_)
    | (refine W.condD rfl (fun hc => ?_) (fun hc => ?_))
    | (refine WO.gS rfl (fun hc => ?_) (fun hc => ?_) <;> try (exfalso; omega))
    | (refine WO.pickS rfl (fun hc => ?_) (fun hc => ?_) <;> try (exfalso; omega))
    | (refine W.skip ?_)
    | (refine W.block ?_)
    | (refine W.drawA rfl ?_)
    | (refine W.sdrawA rfl ?_)
    | (refine And.intro rfl ?_)
    | (refine W.exit ?_)
    | (refine W.ret ?_)
    | (refine W.seq ?_)
    | (refine W.goto ?_)
    | (refine W.label ?_)
    | (refine SQ.nn ?_)
    | (refine SQ.x ?_)
    | (refine SQ.r ?_)
    | (refine SQ.g ?_)
    | (refine BQ.nn ?_)
    | (refine BQ.x ?_)
    | (refine BQ.r ?_)
    | (refine BQ.g ?_)
    | (refine BQ.y rfl ?_)
    | (refine LQ.x ?_)
    | (refine LQ.r ?_)
    | (refine LQ.g ?_)
    | (refine GQ.nn ?_)
    | (refine GQ.x ?_)
    | (refine GQ.r ?_))
  all_goals first
    | exact ⟨rfl, g1⟩
    | (refine ⟨?_, Grows.refl _⟩; unfold decS; rw [if_neg (by assumption), if_pos (by omega)]; rfl)
end Go.Proofs.YtmjnlbjnmmmlmaaDoor.AS
end
section
set_option autoImplicit false
set_option maxRecDepth 100000
set_option maxHeartbeats 4000000
set_option linter.unusedSimpArgs false
set_option linter.unusedVariables false
namespace Go.Proofs.YtmjnlbjnmmmlmaaDoor.AS
open Go Go.Proofs Go.RowKit Go.Proofs.YtmjnlbjnmmmlmaaDoor.AS.V

theorem slowS_w {s : ByteArray} {sz lo hi : Int} (h1 : 1 ≤ s.size) (h2 : 2 ≤ sz ∧ sz ≤ 4) : 1 ≤ (slowS s sz lo hi).2 ∧ (slowS s sz lo hi).2 ≤ s.size := by
  unfold slowS
  (repeat' split) <;> simp only <;> omega
theorem decS_w {s : ByteArray} (h : s ≠ ⟨#[]⟩) : 1 ≤ (decS s).2 ∧ (decS s).2 ≤ s.size := by
  have h1 := size_pos h
  unfold decS
  rw [if_neg h]
  split
  · simp only; omega
  · split
    · simp only; omega
    · exact slowS_w h1 (by (repeat' split) <;> omega)
theorem next_FR {h : Heap} {b : Nat} {ad buf : AV} {s : ByteArray} (o : ObjT h b 51 [ad, buf, .s (.string s)]) (hs : s.size ≤ 140737488355328) (hne : s ≠ ⟨#[]⟩) :
    FR Tryd.prog TT 29 [.pt b 0 0] h fun y H => y = .s (.int .i32 (decS s).1) ∧ ∃ H1, Grows h H1 ∧ Upd H1 H b ∧ ObjT H b 51 [ad, buf, .s (.string (s.extract (decS s).2.toNat s.size))] := by
  have hk := dec_FR h s hs
  have hw := decS_w hne
  generalize decS s = ds at *
  have ob := o.o
  refine FR.of q29 (by kernel_rfl) ?_
  unfold c29
  repeat' (first
    | (refine WO.call rfl hk ?_; rintro _ H1 ⟨rfl, g1⟩; have o1 := o.grows g1; have ob1 := o1.o)
    | (refine WO.storeT rfl o1 rfl rfl rfl rfl rfl (fun H4 ot4 u4 => ?_))
    | (refine LQ.fin ?_)
    | (refine EQ.fin rfl ?_)
    | (refine WO.mvs rfl ?_)
    | (refine WO.mvp rfl ?_)
    | (refine WO.mvt rfl ?_)
    | (refine WO.mv ?_)
    | (refine W.sreg ?_)
    | (refine W.sdraw ?_)
    | (refine W.reg ?_)
    | (refine W.draw ?_)
    | (refine WO.nil ?_)
    | (refine WO.gU rfl ?_)
    | (refine WO.gT rfl rfl ?_)
    | (refine WO.gF rfl rfl ?_)
    | (refine WO.ext rfl rfl ?_)
    | (refine WO.lenR (by assumption) ?_)
    | (refine WO.add rfl rfl (by first | exact wrOK (by simp only [loK, hiK]; omega) | rfl) ?_)
    | (refine WO.sub rfl rfl (by first | exact wrOK (by simp only [loK, hiK]; omega) | rfl) ?_)
    | (refine WO.lss rfl rfl ?_)
    | (refine WO.leq rfl rfl ?_)
    | (refine WO.gtr rfl rfl ?_)
    | (refine WO.geq rfl rfl ?_)
    | (refine WO.eql rfl rfl ?_)
    | (refine WO.neq rfl rfl ?_)
    | (refine WO.seql rfl rfl ?_)
    | (refine WO.sneq rfl rfl ?_)
    | (refine WO.beql rfl rfl (tb rfl) ?_)
    | (refine WO.bneq rfl rfl (tb rfl) ?_)
    | (refine WO.not rfl ?_)
    | (refine WO.not0 rfl ?_)
    | (refine WO.cvi rfl (kd rfl) (kd rfl) (by first | exact wrOK (by simp only [loK, hiK]; omega) | rfl) ?_)
    | (refine WO.cvs rfl (st rfl) (st rfl) ?_)
    | (refine WO.ix rfl rfl (st rfl) (by first | assumption | omega) (by first | assumption | omega) ?_)
    | (refine WO.slen rfl (st rfl) ?_)
    | (refine WO.iaddr (by assumption) rfl rfl (by first | assumption | omega) (by first | assumption | omega) (fun q hq => ?_))
    | (refine WO.load (by assumption) rfl rfl ?_)
    | (refine WO.loadO rfl (by assumption) rfl rfl ?_)
    | (refine WO.faddrP (by assumption) rfl (fun q hq => ?_))
    | (refine WO.nilckP (by assumption) ?_)
    | (refine WO.nilck rfl ?_)
    | (refine WO.faddr rfl ?_)
    | (refine WO.fld rfl rfl rfl ?_)
    | (refine WO.pickT rfl ?_)
    | (refine WO.pickF rfl ?_)
    | (refine WO.sll rfl rfl (st rfl) (by first | assumption | omega) (by first | assumption | omega) ?_)
    | (refine WO.slh rfl rfl (st rfl) (by first | assumption | omega) (by first | assumption | omega) ?_)
    | (refine WO.slb rfl rfl rfl (st rfl) (by first | assumption | omega) (by first | assumption | omega) (by first | assumption | omega) ?_)
    | (refine WO.mul rfl rfl (by first | exact wrOK (by simp only [loK, hiK]; omega) | rfl) ?_)
    | (refine WO.quo rfl rfl (by first | assumption | omega) (by first | exact wrOK (by simp only [loK, hiK]; omega) | rfl) ?_)
    | (refine WO.rem rfl rfl (by first | assumption | omega) ?_)
    | (refine WO.and rfl rfl ?_)
    | (refine WO.or rfl rfl ?_)
    | (refine WO.xor rfl rfl ?_)
    | (refine WO.shl rfl rfl (by first | assumption | omega) (by simp [IntKind.bits]; rfl) ?_)
    | (refine WO.shr rfl rfl (by first | assumption | omega) (by simp [IntKind.bits]; rfl) ?_)
    | (refine WO.build (C := [_]) rfl ?_)
    | (refine WO.build (C := [_, _]) rfl ?_)
    | (refine WO.build (C := [_, _, _]) rfl ?_)
    | (refine WO.build (C := [_, _, _, _]) rfl ?_)
    | (refine WO.build (C := [_, _, _, _, _]) rfl ?_)
    | (refine WO.build (C := [_, _, _, _, _, _]) rfl ?_)
    | (refine WO.build (C := [_, _, _, _, _, _, _]) rfl ?_)
    | (refine WO.eqnil (by assumption) (fun hn1 hn2 => ?_) ?_)
    | (refine W.condT rfl ?_)
    | (refine W.condF rfl ?_)
    | (refine W.condDT rfl (by first | assumption | omega) ?_)
    | (refine W.condDF rfl (by first | assumption | omega) ?_)
    | (refine W.condD rfl (fun hc => ?_) (fun hc => ?_))
    | (refine WO.gS rfl (fun hc => ?_) (fun hc => ?_) <;> try (exfalso; omega))
    | (refine WO.pickS rfl (fun hc => ?_) (fun hc => ?_) <;> try (exfalso; omega))
    | (refine W.skip ?_)
    | (refine W.block ?_)
    | (refine W.drawA rfl ?_)
    | (refine W.sdrawA rfl ?_)
    | (refine And.intro rfl ?_)
    | (refine W.exit ?_)
    | (refine W.ret ?_)
    | (refine W.seq ?_)
    | (refine W.goto ?_)
    | (refine W.label ?_)
    | (refine SQ.nn ?_)
    | (refine SQ.x ?_)
    | (refine SQ.r ?_)
    | (refine SQ.g ?_)
    | (refine BQ.nn ?_)
    | (refine BQ.x ?_)
    | (refine BQ.r ?_)
    | (refine BQ.g ?_)
    | (refine BQ.y rfl ?_)
    | (refine LQ.x ?_)
    | (refine LQ.r ?_)
    | (refine LQ.g ?_)
    | (refine GQ.nn ?_)
    | (refine GQ.x ?_)
    | (refine GQ.r ?_))
  · exact ⟨rfl, H1, g1, u4, ot4⟩
def lettersF : Nat → ByteArray → List Int
  | 0, _ => []
  | k + 1, s => if s = ⟨#[]⟩ then [] else (decS s).1 :: lettersF k (s.extract (decS s).2.toNat s.size)
/-- A text's letters. -/
def lettersS (s : ByteArray) : List Int := lettersF s.size s
theorem lettersF_nil (k : Nat) {s : ByteArray} (h : s = ⟨#[]⟩) : lettersF k s = [] := by
  cases k with
  | zero => rfl
  | succ k => rw [lettersF, if_pos h]
theorem letters_FR (h : Heap) (s : ByteArray) (hs : s.size ≤ 35184372088831) :
    FR Tryd.prog TT 17 [.s (.string s)] h fun y H => Out (encI .i32) 21 h H y (lettersS s) := by
  refine FR.of q17 (by kernel_rfl) ?_
  unfold c17
  repeat' (first
    | (refine WO.mvE out rfl ?_)
    | (refine WO.boxT (C := [_, _, _]) rfl (fun b H1 hb g1 ob => ?_))
    | (refine W.loopI (σ := Nat × ByteArray × AV × List Int) (fun σ => [(3, σ.2.2.1), (4, .pt b 0 0)]) (fun σ h' => Out (encI .i32) 21 h h' σ.2.2.1 σ.2.2.2 ∧ ObjT h' b 51 [.s (.pointer none), .s (.slice none 0 0), .s (.string σ.2.1)] ∧ bo σ.2.2.1 ≠ some b ∧ σ.2.2.2 ++ lettersF σ.1 σ.2.1 = lettersS s ∧ σ.2.1.size ≤ σ.1 ∧ σ.2.2.2.length + σ.2.1.size ≤ s.size) (fun σ => σ.1) (s.size, s, .s (.slice none 0 0), []) ⟨rfl, rfl, trivial⟩ ⟨Out.nil g1, ob, (by simp [bo]), rfl, Nat.le_refl _, by simp⟩ ?_; rintro ⟨k, s', out, O⟩ G h' ⟨ho, ot, hbo, hl, hk, hz⟩; dsimp only at ho ot hbo hl hk hz ⊢; have ob' := ot.o)
    | (refine WO.call rfl (next_FR ot (by omega) (by assumption)) ?_; rintro _ H2 ⟨rfl, H1', g1', u1, ot2⟩; have out2 : Out (encI .i32) 21 h H2 out O := ⟨u1.grows (ho.g.trans g1') hb, (ho.o.grows g1').upd u1 hbo, ho.nw⟩)
    | (refine WO.bslI rfl rfl (fun a1 H3 g3 o3 nw3 => ?_))
    | (have hp := size_pos (s := s') (by assumption); refine WO.appO (out2.grows g3) o3.row rfl (encI_ok _ _) (by simp only [List.length_cons, List.length_nil]; omega) (by simp only [List.length_cons, List.length_nil]; omega) (fun a2 H4 out4 ap => ?_))
    | (refine LQ.fin ?_)
    | (refine EQ.fin rfl ?_)
    | (refine WO.mvs rfl ?_)
    | (refine WO.mvp rfl ?_)
    | (refine WO.mvt rfl ?_)
    | (refine WO.mv ?_)
    | (refine W.sreg ?_)
    | (refine W.sdraw ?_)
    | (refine W.reg ?_)
    | (refine W.draw ?_)
    | (refine WO.nil ?_)
    | (refine WO.gU rfl ?_)
    | (refine WO.gT rfl rfl ?_)
    | (refine WO.gF rfl rfl ?_)
    | (refine WO.ext rfl rfl ?_)
    | (refine WO.lenR (by assumption) ?_)
    | (refine WO.add rfl rfl (by first | exact wrOK (by simp only [loK, hiK]; omega) | rfl) ?_)
    | (refine WO.sub rfl rfl (by first | exact wrOK (by simp only [loK, hiK]; omega) | rfl) ?_)
    | (refine WO.lss rfl rfl ?_)
    | (refine WO.leq rfl rfl ?_)
    | (refine WO.gtr rfl rfl ?_)
    | (refine WO.geq rfl rfl ?_)
    | (refine WO.eql rfl rfl ?_)
    | (refine WO.neq rfl rfl ?_)
    | (refine WO.seql rfl rfl ?_)
    | (refine WO.sneq rfl rfl ?_)
    | (refine WO.beql rfl rfl (tb rfl) ?_)
    | (refine WO.bneq rfl rfl (tb rfl) ?_)
    | (refine WO.not rfl ?_)
    | (refine WO.not0 rfl ?_)
    | (refine WO.cvi rfl (kd rfl) (kd rfl) (by first | exact wrOK (by simp only [loK, hiK]; omega) | rfl) ?_)
    | (refine WO.cvs rfl (st rfl) (st rfl) ?_)
    | (refine WO.ix rfl rfl (st rfl) (by first | assumption | omega) (by first | assumption | omega) ?_)
    | (refine WO.slen rfl (st rfl) ?_)
    | (refine WO.iaddr (by assumption) rfl rfl (by first | assumption | omega) (by first | assumption | omega) (fun q hq => ?_))
    | (refine WO.load (by assumption) rfl rfl ?_)
    | (refine WO.loadO rfl (by assumption) rfl rfl ?_)
    | (refine WO.faddrP (by assumption) rfl (fun q hq => ?_))
    | (refine WO.nilckP (by assumption) ?_)
    | (refine WO.nilck rfl ?_)
    | (refine WO.faddr rfl ?_)
    | (refine WO.fld rfl rfl rfl ?_)
    | (refine WO.pickT rfl ?_)
    | (refine WO.pickF rfl ?_)
    | (refine WO.sll rfl rfl (st rfl) (by first | assumption | omega) (by first | assumption | omega) ?_)
    | (refine WO.slh rfl rfl (st rfl) (by first | assumption | omega) (by first | assumption | omega) ?_)
    | (refine WO.slb rfl rfl rfl (st rfl) (by first | assumption | omega) (by first | assumption | omega) (by first | assumption | omega) ?_)
    | (refine WO.mul rfl rfl (by first | exact wrOK (by simp only [loK, hiK]; omega) | rfl) ?_)
    | (refine WO.quo rfl rfl (by first | assumption | omega) (by first | exact wrOK (by simp only [loK, hiK]; omega) | rfl) ?_)
    | (refine WO.rem rfl rfl (by first | assumption | omega) ?_)
    | (refine WO.and rfl rfl ?_)
    | (refine WO.or rfl rfl ?_)
    | (refine WO.xor rfl rfl ?_)
    | (refine WO.shl rfl rfl (by first | assumption | omega) (by simp [IntKind.bits]; rfl) ?_)
    | (refine WO.shr rfl rfl (by first | assumption | omega) (by simp [IntKind.bits]; rfl) ?_)
    | (refine WO.build (C := [_]) rfl ?_)
    | (refine WO.build (C := [_, _]) rfl ?_)
    | (refine WO.build (C := [_, _, _]) rfl ?_)
    | (refine WO.build (C := [_, _, _, _]) rfl ?_)
    | (refine WO.build (C := [_, _, _, _, _]) rfl ?_)
    | (refine WO.build (C := [_, _, _, _, _, _]) rfl ?_)
    | (refine WO.build (C := [_, _, _, _, _, _, _]) rfl ?_)
    | (refine WO.eqnil (by assumption) (fun hn1 hn2 => ?_) ?_)
    | (refine W.condT rfl ?_)
    | (refine W.condF rfl ?_)
    | (refine W.condDT rfl (by first | assumption | omega) ?_)
    | (refine W.condDF rfl (by first | assumption | omega) ?_)
    | (refine W.condD rfl (fun hc => ?_) (fun hc => ?_))
    | (refine WO.gS rfl (fun hc => ?_) (fun hc => ?_) <;> try (exfalso; omega))
    | (refine WO.pickS rfl (fun hc => ?_) (fun hc => ?_) <;> try (exfalso; omega))
    | (refine W.skip ?_)
    | (refine W.block ?_)
    | (refine W.drawA rfl ?_)
    | (refine W.sdrawA rfl ?_)
    | (refine And.intro rfl ?_)
    | (refine W.exit ?_)
    | (refine W.ret ?_)
    | (refine W.seq ?_)
    | (refine W.goto ?_)
    | (refine W.label ?_)
    | (refine SQ.nn ?_)
    | (refine SQ.x ?_)
    | (refine SQ.r ?_)
    | (refine SQ.g ?_)
    | (refine BQ.nn ?_)
    | (refine BQ.x ?_)
    | (refine BQ.r ?_)
    | (refine BQ.g ?_)
    | (refine BQ.y rfl ?_)
    | (refine LQ.x ?_)
    | (refine LQ.r ?_)
    | (refine LQ.g ?_)
    | (refine GQ.nn ?_)
    | (refine GQ.x ?_)
    | (refine GQ.r ?_))
  · have hne : s' ≠ ⟨#[]⟩ := by assumption
    have hw := decS_w hne
    have hlt : b < H3.length := by have := ot2.lt; have := g3.len; omega
    have hnb : bo a2 ≠ some b := ap.ne hlt hbo
    have ot4 : ObjT H4 b 51 _ := (ot2.grows g3).ap ap hbo
    obtain ⟨k, rfl⟩ : ∃ k2, k = k2 + 1 := ⟨k - 1, by omega⟩
    rw [lettersF, if_neg hne] at hl
    have hsz : (s'.extract (decS s').2.toNat s'.size).size = s'.size - (decS s').2.toNat := by rw [ByteArray.size_extract]; omega
    refine ⟨(k, _, a2, O ++ [(decS s').1]), by dsimp only; omega, ⟨rfl, rfl, trivial⟩, out4, ot4, hnb, ?_, ?_, ?_⟩
    · dsimp only; rw [List.append_assoc]; exact hl
    · show (s'.extract (decS s').2.toNat s'.size).size ≤ k
      rw [hsz]; omega
    · show (O ++ [(decS s').1]).length + (s'.extract (decS s').2.toNat s'.size).size ≤ s.size
      rw [hsz, List.length_append, List.length_singleton]; omega
  · rw [lettersF_nil k (Classical.not_not.1 (by assumption)), List.append_nil] at hl
    subst hl
    exact ⟨ho⟩
end Go.Proofs.YtmjnlbjnmmmlmaaDoor.AS
end
section
set_option autoImplicit false
set_option linter.unusedSimpArgs false
namespace Go.Proofs.YtmjnlbjnmmmlmaaDoor.AS
open Go Go.RowKit Go.Proofs.YtmjnlbjnmmmlmaaDoor.AS.V
section
variable {P : Program} {T : Nat → CallF} {n : Nat} {F : Fr} {h H h0 : Heap} {K : Fr → Heap → Prop} {l : List AOper} {d : Option Nat} {x y : Operand} {e : TypeId}
/-- A row made: an object of numbers. -/
theorem WO.makeO {bytes : Nat} {kk j i : IntKind} {m c : Int} {v : Int} (hx : evF F x = .s (.int j m)) (hy : evF F y = .s (.int i c)) (h0 : 0 ≤ m) (h1 : m = c) (h2 : c * bytes ≤ 140737488355328) (h3 : c ≤ 9223372036854775807)
    (k : ∀ b H, h.length ≤ b → Grows h H → Obj H b ((List.replicate m.toNat v).map fun q => .s (.int kk q)) → WO P T n l (putF d (.sl b 0 0 m.toNat 1) F) H K) : WO P T n (⟨d, none, .e (.make e 1 bytes [.int kk v] x y)⟩ :: l) F h K := by
  subst h1
  have hlen : ∀ q : Nat, ((List.replicate q [AV.s (.int kk v)]).flatten) = (List.replicate q v).map fun q => .s (.int kk q) := by
    intro q
    induction q with
    | zero => rfl
    | succ q ih => rw [List.replicate_succ, List.replicate_succ, List.flatten_cons, List.map_cons, ih]; rfl
  refine WO.op (fun ho => ⟨0, fun j _ => ?_⟩) (k h.length (h ++ [⟨0, e, 1, true, (List.replicate m.toNat [AV.s (.int kk v)]).flatten⟩]) (Nat.le_refl _) (Grows.app _ _) ⟨_, bk_new, rfl, rfl, hlen _⟩)
  simp only [opds, opdsE, List.all_cons, List.all_nil, Bool.and_true, Bool.and_eq_true] at ho
  simp only [opV_e, eV, evO_fr ho.1, evO_fr ho.2, hx, hy, Option.bind_some, asI]
  rw [if_pos ⟨h0, Int.le_refl _, h2, h3⟩]
  rfl
theorem flat_map_s {kk : IntKind} : ∀ L : List Int, L.flatMap (encI kk).cells = L.map fun q => .s (.int kk q)
  | [] => rfl
  | x :: L => by rw [List.flatMap_cons, flat_map_s L]; rfl
/-- An object of numbers reads as a row. -/
theorem Obj.rowI {kk : IntKind} {b : Nat} {L : List Int} (o : Obj h b (L.map fun q => .s (.int kk q))) : Row (encI kk) h (.sl b 0 0 L.length 1) L := by
  obtain ⟨k, h1, h2, h3, h4⟩ := o
  refine .inr ⟨b, 0, 0, k, rfl, h1, h2, ?_, ?_⟩
  · rw [h4, List.length_map]; show 0 + L.length * 1 ≤ _; omega
  · rw [h4, flat_map_s, List.drop_zero, List.take_of_length_le (by rw [List.length_map]; show _ ≤ L.length * 1; omega)]
end
end Go.Proofs.YtmjnlbjnmmmlmaaDoor.AS
end
section
set_option autoImplicit false
set_option maxRecDepth 100000
set_option maxHeartbeats 4000000
set_option linter.unusedSimpArgs false
set_option linter.unusedVariables false
namespace Go.Proofs.YtmjnlbjnmmmlmaaDoor.AS
open Go Go.Proofs Go.RowKit Go.Proofs.YtmjnlbjnmmmlmaaDoor.AS.V

theorem fillUp {B : List Int} {f : Int → Int} {i : Nat} (h : i < B.length) :
    ((B.take i).map f ++ List.replicate (B.length - i) 0).take i ++ [f (nth B i)] ++ ((B.take i).map f ++ List.replicate (B.length - i) 0).drop (i + 1) = (B.take (i + 1)).map f ++ List.replicate (B.length - (i + 1)) 0 := by
  have h1 : ((B.take i).map f).length = i := by rw [List.length_map, List.length_take]; omega
  rw [List.take_append_of_le_length (by omega), List.take_of_length_le (by omega), List.drop_append, List.drop_eq_nil_of_le (by omega), h1, take_snoc h, List.map_append, List.map_cons, List.map_nil, List.nil_append, List.drop_replicate]
  congr 2; omega
/-- A text's letters in a charset, and the error. -/
def decodeS (c : Int) (s : ByteArray) : List Int × Int :=
  if (nameS c).2 ≠ 0 then ([], (nameS c).2) else if c = 2 then (lettersS s, 0) else ((bytesOf s).map (letS c), 0)
theorem dcd_FR (h : Heap) (c : Int) (s : ByteArray) (hs : s.size ≤ 35184372088831) :
    FR Tryd.prog TT 14 [.s (.int .u8 c), .s (.string s)] h fun y H => ∃ a, y = .tp [a, .s (.int .i64 (decodeS c s).2)] ∧ Grows h H ∧ Row (encI .i32) H a (decodeS c s).1 := by
  have hlen := bytesOf_length s
  have hk := name_FR h c
  unfold decodeS
  generalize nameS c = nm at *
  have hg := Grows.refl h
  have hbt := bt_range s
  refine FR.of q14 (by kernel_rfl) ?_
  unfold c14
  repeat' (first
    | (refine WO.mvE (.sl b 0 0 s.size 1) rfl ?_)
    | (refine WO.call rfl hk ?_; rintro _ H ⟨rfl, hH⟩; obtain rfl := hH.symm)
    | (refine WO.call rfl (letters_FR _ s hs) ?_; rintro a H out)
    | (refine WO.mvE a rfl ?_)
    | (refine WO.makeO (kk := .i32) (v := 0) rfl rfl (by omega) rfl (by omega) (by omega) (fun b H1 hb g1 ob => ?_))
    | (refine W.loopI (σ := Nat) (fun i => [(0, .s (.int .u8 c)), (1, .s (.string s)), (8, .sl b 0 0 s.size 1), (26, .s (.int .i64 s.size)), (27, .s (.int .i64 i))]) (fun i h' => Obj h' b (((((bytesOf s).take i).map (letS c)) ++ List.replicate ((bytesOf s).length - i) 0).map fun q => .s (.int .i32 q)) ∧ Grows h h' ∧ i ≤ s.size) (fun i => s.size - i) 0 ⟨rfl, rfl, rfl, rfl, rfl, trivial⟩ ⟨(by rw [hlen]; exact ob), g1, Nat.zero_le _⟩ ?_; rintro i G h' ⟨ob2, g2, hi⟩; have hb1 := (hbt (i : Int)).1; have hb2 := (hbt (i : Int)).2)
    | (refine WO.call rfl (let_FR _ c (bt s (i : Int)) hb1 hb2) ?_; rintro _ H ⟨rfl, hH⟩; obtain rfl := hH.symm)
    | (refine WO.iaddrO rfl rfl (by omega) (by omega) ?_)
    | (refine WO.storeO (C' := (((bytesOf s).take (i + 1)).map (letS c) ++ List.replicate ((bytesOf s).length - (i + 1)) 0).map fun q => .s (.int .i32 q)) rfl ob2 rfl rfl rfl (Nat.ble_eq_true_of_le (by simp only [List.length_map, List.length_append, List.length_take, List.length_replicate]; omega)) (by rw [show 0 + ((i : Int)).toNat * 1 = i by simp, ← fillUp (B := bytesOf s) (f := letS c) (i := i) (by omega), nth_bytes (by omega)]; simp only [List.map_append, List.map_cons, List.map_nil, List.map_take, List.map_drop]) (fun H3 ob3 u3 => ?_))
    | (refine LQ.fin ?_)
    | (refine EQ.fin rfl ?_)
    | (refine WO.mvs rfl ?_)
    | (refine WO.mvp rfl ?_)
    | (refine WO.mvt rfl ?_)
    | (refine WO.mv ?_)
    | (refine W.sreg ?_)
    | (refine W.sdraw ?_)
    | (refine W.reg ?_)
    | (refine W.draw ?_)
    | (refine WO.nil ?_)
    | (refine WO.gU rfl ?_)
    | (refine WO.gT rfl rfl ?_)
    | (refine WO.gF rfl rfl ?_)
    | (refine WO.ext rfl rfl ?_)
    | (refine WO.lenR (by assumption) ?_)
    | (refine WO.add rfl rfl (by first | exact wrOK (by simp only [loK, hiK]; omega) | rfl) ?_)
    | (refine WO.sub rfl rfl (by first | exact wrOK (by simp only [loK, hiK]; omega) | rfl) ?_)
    | (refine WO.lss rfl rfl ?_)
    | (refine WO.leq rfl rfl ?_)
    | (refine WO.gtr rfl rfl ?_)
    | (refine WO.geq rfl rfl ?_)
    | (refine WO.eql rfl rfl ?_)
    | (refine WO.neq rfl rfl ?_)
    | (refine WO.seql rfl rfl ?_)
    | (refine WO.sneq rfl rfl ?_)
    | (refine WO.beql rfl rfl (tb rfl) ?_)
    | (refine WO.bneq rfl rfl (tb rfl) ?_)
    | (refine WO.not rfl ?_)
    | (refine WO.not0 rfl ?_)
    | (refine WO.cvi rfl (kd rfl) (kd rfl) (by first | exact wrOK (by simp only [loK, hiK]; omega) | rfl) ?_)
    | (refine WO.cvs rfl (st rfl) (st rfl) ?_)
    | (refine WO.ix rfl rfl (st rfl) (by first | assumption | omega) (by first | assumption | omega) ?_)
    | (refine WO.slen rfl (st rfl) ?_)
    | (refine WO.iaddr (by assumption) rfl rfl (by first | assumption | omega) (by first | assumption | omega) (fun q hq => ?_))
    | (refine WO.load (by assumption) rfl rfl ?_)
    | (refine WO.loadO rfl (by assumption) rfl rfl ?_)
    | (refine WO.faddrP (by assumption) rfl (fun q hq => ?_))
    | (refine WO.nilckP (by assumption) ?_)
    | (refine WO.nilck rfl ?_)
    | (refine WO.faddr rfl ?_)
    | (refine WO.fld rfl rfl rfl ?_)
    | (refine WO.pickT rfl ?_)
    | (refine WO.pickF rfl ?_)
    | (refine WO.sll rfl rfl (st rfl) (by first | assumption | omega) (by first | assumption | omega) ?_)
    | (refine WO.slh rfl rfl (st rfl) (by first | assumption | omega) (by first | assumption | omega) ?_)
    | (refine WO.slb rfl rfl rfl (st rfl) (by first | assumption | omega) (by first | assumption | omega) (by first | assumption | omega) ?_)
    | (refine WO.mul rfl rfl (by first | exact wrOK (by simp only [loK, hiK]; omega) | rfl) ?_)
    | (refine WO.quo rfl rfl (by first | assumption | omega) (by first | exact wrOK (by simp only [loK, hiK]; omega) | rfl) ?_)
    | (refine WO.rem rfl rfl (by first | assumption | omega) ?_)
    | (refine WO.and rfl rfl ?_)
    | (refine WO.or rfl rfl ?_)
    | (refine WO.xor rfl rfl ?_)
    | (refine WO.shl rfl rfl (by first | assumption | omega) (by simp [IntKind.bits]; rfl) ?_)
    | (refine WO.shr rfl rfl (by first | assumption | omega) (by simp [IntKind.bits]; rfl) ?_)
    | (refine WO.build (C := [_]) rfl ?_)
    | (refine WO.build (C := [_, _]) rfl ?_)
    | (refine WO.build (C := [_, _, _]) rfl ?_)
    | (refine WO.build (C := [_, _, _, _]) rfl ?_)
    | (refine WO.build (C := [_, _, _, _, _]) rfl ?_)
    | (refine WO.build (C := [_, _, _, _, _, _]) rfl ?_)
    | (refine WO.build (C := [_, _, _, _, _, _, _]) rfl ?_)
    | (refine WO.eqnil (by assumption) (fun hn1 hn2 => ?_) ?_)
    | (refine W.condT rfl ?_)
    | (refine W.condF rfl ?_)
    | (refine W.condDT rfl (by first | assumption | omega) ?_)
    | (refine W.condDF rfl (by first | assumption | omega) ?_)
    | (refine W.condD rfl (fun hc => ?_) (fun hc => ?_))
    | (refine WO.gS rfl (fun hc => ?_) (fun hc => ?_) <;> try (exfalso; omega))
    | (refine WO.pickS rfl (fun hc => ?_) (fun hc => ?_) <;> try (exfalso; omega))
    | (refine W.skip ?_)
    | (refine W.block ?_)
    | (refine W.drawA rfl ?_)
    | (refine W.sdrawA rfl ?_)
    | (refine And.intro rfl ?_)
    | (refine W.exit ?_)
    | (refine W.ret ?_)
    | (refine W.seq ?_)
    | (refine W.goto ?_)
    | (refine W.label ?_)
    | (refine SQ.nn ?_)
    | (refine SQ.x ?_)
    | (refine SQ.r ?_)
    | (refine SQ.g ?_)
    | (refine BQ.nn ?_)
    | (refine BQ.x ?_)
    | (refine BQ.r ?_)
    | (refine BQ.g ?_)
    | (refine BQ.y rfl ?_)
    | (refine LQ.x ?_)
    | (refine LQ.r ?_)
    | (refine LQ.g ?_)
    | (refine GQ.nn ?_)
    | (refine GQ.x ?_)
    | (refine GQ.r ?_))
  · exact ⟨.s (.slice none 0 0), by rw [if_pos hc]; rfl, hg, by rw [if_pos hc]; exact Or.inl ⟨rfl, rfl⟩⟩
  · have hz : ¬ nm.2 ≠ 0 := by assumption
    exact ⟨a, by rw [if_neg hz, if_pos hc]; rfl, out.g, by rw [if_neg hz, if_pos hc]; exact out.row⟩
  · exact ⟨i + 1, by omega, ⟨rfl, rfl, rfl, rfl, rfl, trivial⟩, ob3, u3.grows g2 hb, by omega⟩
  · have hz : ¬ nm.2 ≠ 0 := by assumption
    have h2 : ¬ c = 2 := by assumption
    obtain rfl : i = s.size := by omega
    rw [← hlen, Nat.sub_self, List.replicate_zero, List.append_nil, List.take_length] at ob2
    have ro := ob2.rowI
    rw [List.length_map, hlen] at ro
    exact ⟨.sl b 0 0 s.size 1, by rw [if_neg hz, if_neg h2]; rfl, g2, by rw [if_neg hz, if_neg h2]; exact ro⟩
end Go.Proofs.YtmjnlbjnmmmlmaaDoor.AS
end
section
set_option autoImplicit false
set_option maxRecDepth 100000
set_option maxHeartbeats 4000000
set_option linter.unusedSimpArgs false
set_option linter.unusedVariables false
namespace Go.Proofs.YtmjnlbjnmmmlmaaDoor.AS
open Go Go.Proofs Go.RowKit Go.Proofs.YtmjnlbjnmmmlmaaDoor.AS.V

section
variable {P : Program} {T : Nat → CallF} {n : Nat} {F : Fr} {h : Heap} {K : Fr → Heap → Prop} {l : List AOper} {d : Option Nat} {x y : Operand} {i : IntKind} {a b : Int} {t yt ty : TypeId}
theorem WO.remP (hx : evF F x = .s (.int i a)) (hy : evF F y = .s (.int i b)) (hb : b ≠ 0) (h0 : 0 ≤ a) (k : WO P T n l (putF d (.s (.int i (a % b))) F) h K) : WO P T n (⟨d, none, .p (.sc (.binOp .rem t x y yt) ty)⟩ :: l) F h K := WO.rem hx hy hb (by rw [Int.tmod_eq_emod_of_nonneg h0]; exact k)
end
theorem one_FR (h : Heap) (n : Int) (hn : isR n = true) :
    FR Tryd.prog TT 36 [.s (.int .i32 n)] h fun x H => x = .s (.string (strOfNums (encR n))) ∧ Grows h H := by
  have hn := of_decide_eq_true hn
  refine FR.of q36 (by kernel_rfl) ?_
  unfold c36
  repeat' (first
    | (refine WO.bsl (E := encI .u8) (C := [_]) rfl [_] rfl rfl rfl (fun a1 H1 g1 o1 nw1 => ?_))
    | (refine WO.bsl (E := encI .u8) (C := [_, _]) rfl [_, _] rfl rfl rfl (fun a1 H1 g1 o1 nw1 => ?_))
    | (refine WO.bsl (E := encI .u8) (C := [_, _, _]) rfl [_, _, _] rfl rfl rfl (fun a1 H1 g1 o1 nw1 => ?_))
    | (refine WO.bsl (E := encI .u8) (C := [_, _, _, _]) rfl [_, _, _, _] rfl rfl rfl (fun a1 H1 g1 o1 nw1 => ?_))
    | (refine WO.remP rfl rfl (by omega) (by omega) ?_)
    | (refine WO.quo (r := _ / _) rfl rfl (by omega) (by rw [Int.tdiv_eq_ediv_of_nonneg (by omega)]; exact wrOK (by simp only [loK, hiK]; omega)) ?_)
    | (refine WO.b2s o1.row ?_)
    | (refine LQ.fin ?_)
    | (refine EQ.fin rfl ?_)
    | (refine WO.mvs rfl ?_)
    | (refine WO.mvp rfl ?_)
    | (refine WO.mvt rfl ?_)
    | (refine WO.mv ?_)
    | (refine W.sreg ?_)
    | (refine W.sdraw ?_)
    | (refine W.reg ?_)
    | (refine W.draw ?_)
    | (refine WO.nil ?_)
    | (refine WO.gU rfl ?_)
    | (refine WO.gT rfl rfl ?_)
    | (refine WO.gF rfl rfl ?_)
    | (refine WO.ext rfl rfl ?_)
    | (refine WO.lenR (by assumption) ?_)
    | (refine WO.add rfl rfl (by first | exact wrOK (by simp only [loK, hiK]; omega) | rfl) ?_)
    | (refine WO.sub rfl rfl (by first | exact wrOK (by simp only [loK, hiK]; omega) | rfl) ?_)
    | (refine WO.lss rfl rfl ?_)
    | (refine WO.leq rfl rfl ?_)
    | (refine WO.gtr rfl rfl ?_)
    | (refine WO.geq rfl rfl ?_)
    | (refine WO.eql rfl rfl ?_)
    | (refine WO.neq rfl rfl ?_)
    | (refine WO.seql rfl rfl ?_)
    | (refine WO.sneq rfl rfl ?_)
    | (refine WO.beql rfl rfl (tb rfl) ?_)
    | (refine WO.bneq rfl rfl (tb rfl) ?_)
    | (refine WO.not rfl ?_)
    | (refine WO.not0 rfl ?_)
    | (refine WO.cvi rfl (kd rfl) (kd rfl) (by first | exact wrOK (by simp only [loK, hiK]; omega) | rfl) ?_)
    | (refine WO.cvs rfl (st rfl) (st rfl) ?_)
    | (refine WO.ix rfl rfl (st rfl) (by first | assumption | omega) (by first | assumption | omega) ?_)
    | (refine WO.slen rfl (st rfl) ?_)
    | (refine WO.iaddr (by assumption) rfl rfl (by first | assumption | omega) (by first | assumption | omega) (fun q hq => ?_))
    | (refine WO.load (by assumption) rfl rfl ?_)
    | (refine WO.loadO rfl (by assumption) rfl rfl ?_)
    | (refine WO.faddrP (by assumption) rfl (fun q hq => ?_))
    | (refine WO.nilckP (by assumption) ?_)
    | (refine WO.nilck rfl ?_)
    | (refine WO.faddr rfl ?_)
    | (refine WO.fld rfl rfl rfl ?_)
    | (refine WO.pickT rfl ?_)
    | (refine WO.pickF rfl ?_)
    | (refine WO.sll rfl rfl (st rfl) (by first | assumption | omega) (by first | assumption | omega) ?_)
    | (refine WO.slh rfl rfl (st rfl) (by first | assumption | omega) (by first | assumption | omega) ?_)
    | (refine WO.slb rfl rfl rfl (st rfl) (by first | assumption | omega) (by first | assumption | omega) (by first | assumption | omega) ?_)
    | (refine WO.mul rfl rfl (by first | exact wrOK (by simp only [loK, hiK]; omega) | rfl) ?_)
    | (refine WO.quo rfl rfl (by first | assumption | omega) (by first | exact wrOK (by simp only [loK, hiK]; omega) | rfl) ?_)
    | (refine WO.rem rfl rfl (by first | assumption | omega) ?_)
    | (refine WO.and rfl rfl ?_)
    | (refine WO.or rfl rfl ?_)
    | (refine WO.xor rfl rfl ?_)
    | (refine WO.shl rfl rfl (by first | assumption | omega) (by simp [IntKind.bits]; rfl) ?_)
    | (refine WO.shr rfl rfl (by first | assumption | omega) (by simp [IntKind.bits]; rfl) ?_)
    | (refine WO.build (C := [_]) rfl ?_)
    | (refine WO.build (C := [_, _]) rfl ?_)
    | (refine WO.build (C := [_, _, _]) rfl ?_)
    | (refine WO.build (C := [_, _, _, _]) rfl ?_)
    | (refine WO.build (C := [_, _, _, _, _]) rfl ?_)
    | (refine WO.build (C := [_, _, _, _, _, _]) rfl ?_)
    | (refine WO.build (C := [_, _, _, _, _, _, _]) rfl ?_)
    | (refine WO.eqnil (by assumption) (fun hn1 hn2 => ?_) ?_)
    | (refine W.condT rfl ?_)
    | (refine W.condF rfl ?_)
    | (refine W.condDT rfl (by first | assumption | omega) ?_)
    | (refine W.condDF rfl (by first | assumption | omega) ?_)
    | (refine W.condD rfl (fun hc => ?_) (fun hc => ?_))
    | (refine WO.gS rfl (fun hc => ?_) (fun hc => ?_) <;> try (exfalso; omega))
    | (refine WO.pickS rfl (fun hc => ?_) (fun hc => ?_) <;> try (exfalso; omega))
    | (refine W.skip ?_)
    | (refine W.block ?_)
    | (refine W.drawA rfl ?_)
    | (refine W.sdrawA rfl ?_)
    | (refine And.intro rfl ?_)
    | (refine W.exit ?_)
    | (refine W.ret ?_)
    | (refine W.seq ?_)
    | (refine W.goto ?_)
    | (refine W.label ?_)
    | (refine SQ.nn ?_)
    | (refine SQ.x ?_)
    | (refine SQ.r ?_)
    | (refine SQ.g ?_)
    | (refine BQ.nn ?_)
    | (refine BQ.x ?_)
    | (refine BQ.r ?_)
    | (refine BQ.g ?_)
    | (refine BQ.y rfl ?_)
    | (refine LQ.x ?_)
    | (refine LQ.r ?_)
    | (refine LQ.g ?_)
    | (refine GQ.nn ?_)
    | (refine GQ.x ?_)
    | (refine GQ.r ?_))
  all_goals first
    | (refine ⟨congrArg (fun M => AV.s (.string (strOfNums M))) ?_, g1⟩; unfold encR; (repeat' split) <;> first | (exfalso; omega) | rfl | (simp only [List.cons.injEq, and_true, true_and]; omega))
end Go.Proofs.YtmjnlbjnmmmlmaaDoor.AS
end
