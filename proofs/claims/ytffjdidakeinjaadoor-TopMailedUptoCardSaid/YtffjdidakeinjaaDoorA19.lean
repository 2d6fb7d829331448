/- Of our own: an abstract machine beside the model, its soundness, and walks of the program in it. -/
import Derived.Test.YtffjdidakeinjaaDoorA18
import Derived.Test.YtffjdidakeinjaaDoorA13
import Derived.Test.YtffjdidakeinjaaDoorA17
import Derived.Test.YtffjdidakeinjaaDoorA15
set_option linter.unusedSimpArgs false
set_option linter.unusedVariables false
section
set_option autoImplicit false
set_option maxRecDepth 100000
set_option maxHeartbeats 4000000
set_option linter.unusedSimpArgs false
set_option linter.unusedVariables false
namespace Go.Proofs.YtffjdidakeinjaaDoor.AS
open Go Go.Proofs Go.RowKit Go.Proofs.YtffjdidakeinjaaDoor.AS.V

theorem first_cls : ∀ p : Fin 256, 128 ≤ p.val → nth tabFirst (p.val : Int) = (if p.val < 194 ∨ 244 < p.val then 241 else if p.val = 224 then 19 else if p.val = 237 then 35 else if p.val = 240 then 52 else if p.val = 244 then 68 else if p.val < 224 then 2 else if p.val < 240 then 3 else 4) := by decide +kernel
/-- The letter that a text begins with, and how many bytes it has. -/
def decS (s : ByteArray) : Int × Int :=
  if s = ⟨#[]⟩ then (65533, 0) else if bt s 0 < 128 then (bt s 0, 1) else if bt s 0 < 194 ∨ 244 < bt s 0 then (65533, 1) else
  slowS s (if bt s 0 < 224 then 2 else if bt s 0 < 240 then 3 else 4) (if bt s 0 = 224 then 160 else if bt s 0 = 240 then 144 else 128) (if bt s 0 = 237 then 159 else if bt s 0 = 244 then 143 else 191)
theorem slowA_FR (h : Heap) (s : ByteArray) (hs : s.size ≤ 140737488355328) (hb : s = ⟨#[]⟩ ∨ 128 ≤ bt s 0) :
    FR Tryd.prog TT 64 [.s (.string s)] h fun y H => y = .tp [.s (.int .i32 (decS s).1), .s (.int .i64 (decS s).2)] ∧ Grows h H := by
  by_cases he : s = ⟨#[]⟩
  · have e : decS s = (65533, 0) := if_pos he
    rw [e]; exact slow0_FR h s he
  · have h128 : 128 ≤ bt s 0 := hb.resolve_left he
    have h1 := size_pos he
    have b0 := bt_range s 0
    have hc := first_cls ⟨(bt s 0).toNat, by omega⟩ (by simp only; omega)
    simp only at hc
    rw [Int.toNat_of_nonneg b0.1] at hc
    have go : ∀ (x sz lo hi : Int), nth tabFirst (bt s 0) = x → (0 ≤ x ∧ x < 240) → x % 8 = sz → (2 ≤ sz ∧ sz ≤ 4) → tabV Tryd.prog true 2 2 (0 + (x / 16).toNat * 2) = some (.ag [.s (.int .u8 lo), .s (.int .u8 hi)]) → decS s = slowS s sz lo hi → FR Tryd.prog TT 64 [.s (.string s)] h fun y H => y = .tp [.s (.int .i32 (decS s).1), .s (.int .i64 (decS s).2)] ∧ Grows h H := by
      intro x sz lo hi g1 g2 g3 g4 g5 g6
      rw [g6]; exact slow_FR h s hs h1 x sz lo hi g1 g2 g3 g4 g5
    split at hc
    · have e : decS s = (65533, 1) := by
        unfold decS
        rw [if_neg he, if_neg (by omega), if_pos (by omega)]
      rw [e]; exact slowB_FR h s hs h1 hc
    split at hc
    · exact go 19 3 160 191 hc (by decide) (by decide) (by decide) (tab_two gA (i := 19 / 16) (by decide) (by decide)) (by
        unfold decS
        (repeat' split) <;> first | rfl | (exfalso; omega) | (exfalso; contradiction))
    split at hc
    · exact go 35 3 128 159 hc (by decide) (by decide) (by decide) (tab_two gA (i := 35 / 16) (by decide) (by decide)) (by
        unfold decS
        (repeat' split) <;> first | rfl | (exfalso; omega) | (exfalso; contradiction))
    split at hc
    · exact go 52 4 144 191 hc (by decide) (by decide) (by decide) (tab_two gA (i := 52 / 16) (by decide) (by decide)) (by
        unfold decS
        (repeat' split) <;> first | rfl | (exfalso; omega) | (exfalso; contradiction))
    split at hc
    · exact go 68 4 128 143 hc (by decide) (by decide) (by decide) (tab_two gA (i := 68 / 16) (by decide) (by decide)) (by
        unfold decS
        (repeat' split) <;> first | rfl | (exfalso; omega) | (exfalso; contradiction))
    split at hc
    · exact go 2 2 128 191 hc (by decide) (by decide) (by decide) (tab_two gA (i := 2 / 16) (by decide) (by decide)) (by
        unfold decS
        (repeat' split) <;> first | rfl | (exfalso; omega) | (exfalso; contradiction))
    split at hc
    · exact go 3 3 128 191 hc (by decide) (by decide) (by decide) (tab_two gA (i := 3 / 16) (by decide) (by decide)) (by
        unfold decS
        (repeat' split) <;> first | rfl | (exfalso; omega) | (exfalso; contradiction))
    exact go 4 4 128 191 hc (by decide) (by decide) (by decide) (tab_two gA (i := 4 / 16) (by decide) (by decide)) (by
      unfold decS
      (repeat' split) <;> first | rfl | (exfalso; omega) | (exfalso; contradiction))
theorem dec_FR (h : Heap) (s : ByteArray) (hs : s.size ≤ 140737488355328) :
    FR Tryd.prog TT 60 [.s (.string s)] h fun y H => y = .tp [.s (.int .i32 (decS s).1), .s (.int .i64 (decS s).2)] ∧ Grows h H := by
  have b0 := bt_range s 0
  have hsl := fun hb => slowA_FR h s hs hb
  have hp := @size_pos s
  refine FR.of q60 (by kernel_rfl) ?_
  unfold c60
  repeat' (first
    | (refine WO.ix rfl rfl (st rfl) (by omega) (by have := hp (by assumption); omega) ?_)
    | (refine WO.call rfl (hsl (by first | (right; omega) | (left; exact Classical.not_not.1 (by assumption)))) ?_; rintro _ H1 ⟨rfl, g1⟩)
    | (refine LQ.fin ?_)
    | (refine EQ.fin rfl ?_)
    | (refine WO.mvs rfl ?_)
    | (refine WO.mvp rfl ?_)
    | (refine WO.mvt rfl ?_)
    | (refine WO.mv ?_)
    | (refine W.sreg ?_)
    | (refine W.sdraw ?_)
    | (refine W.reg ?_)
    | (refine W.draw ?_)
    | (refine WO.nil ?_)
    | (refine WO.gU rfl ?_)
    | (refine WO.gT rfl rfl ?_)
    | (refine WO.gF rfl rfl ?_)
    | (refine WO.ext rfl rfl ?_)
    | (refine WO.lenR (by assumption) ?_)
    | (refine WO.add rfl rfl (by first | exact wrOK (by simp only [loK, hiK]; omega) | rfl) ?_)
    | (refine WO.sub rfl rfl (by first | exact wrOK (by simp only [loK, hiK]; omega) | rfl) ?_)
    | (refine WO.lss rfl rfl ?_)
    | (refine WO.leq rfl rfl ?_)
    | (refine WO.gtr rfl rfl ?_)
    | (refine WO.geq rfl rfl ?_)
    | (refine WO.eql rfl rfl ?_)
    | (refine WO.neq rfl rfl ?_)
    | (refine WO.seql rfl rfl ?_)
    | (refine WO.sneq rfl rfl ?_)
    | (refine WO.beql rfl rfl (tb rfl) ?_)
    | (refine WO.bneq rfl rfl (tb rfl) ?_)
    | (refine WO.not rfl ?_)
    | (refine WO.not0 rfl ?_)
    | (refine WO.cvi rfl (kd rfl) (kd rfl) (by first | exact wrOK (by simp only [loK, hiK]; omega) | rfl) ?_)
    | (refine WO.cvs rfl (st rfl) (st rfl) ?_)
    | (refine WO.ix rfl rfl (st rfl) (by first | assumption | omega) (by first | assumption | omega) ?_)
    | (refine WO.slen rfl (st rfl) ?_)
    | (refine WO.iaddr (by assumption) rfl rfl (by first | assumption | omega) (by first | assumption | omega) (fun q hq => ?_))
    | (refine WO.load (by assumption) rfl rfl ?_)
    | (refine WO.loadO rfl (by assumption) rfl rfl ?_)
    | (refine WO.faddrP (by assumption) rfl (fun q hq => ?_))
    | (refine WO.nilckP (by assumption) ?_)
    | (refine WO.nilck rfl ?_)
    | (refine WO.faddr rfl ?_)
    | (refine WO.fld rfl rfl rfl ?_)
    | (refine WO.pickT rfl ?_)
    | (refine WO.pickF rfl ?_)
    | (refine WO.sll rfl rfl (st rfl) (by first | assumption | omega) (by first | assumption | omega) ?_)
    | (refine WO.slh rfl rfl (st rfl) (by first | assumption | omega) (by first | assumption | omega) ?_)
    | (refine WO.slb rfl rfl rfl (st rfl) (by first | assumption | omega) (by first | assumption | omega) (by first | assumption | omega) ?_)
    | (refine WO.mul rfl rfl (by first | exact wrOK (by simp only [loK, hiK]; omega) | rfl) ?_)
    | (refine WO.quo rfl rfl (by first | assumption | omega) (by first | exact wrOK (by simp only [loK, hiK]; omega) | rfl) ?_)
    | (refine WO.rem rfl rfl (by first | assumption | omega) ?_)
    | (refine WO.and rfl rfl ?_)
    | (refine WO.or rfl rfl ?_)
    | (refine WO.xor rfl rfl ?_)
    | (refine WO.shl rfl rfl (by first | assumption | omega) (by simp [IntKind.bits]; rfl) ?_)
    | (refine WO.shr rfl rfl (by first | assumption | omega) (by simp [IntKind.bits]; rfl) ?_)
    | (refine WO.build (C := [_]) rfl ?_)
    | (refine WO.build (C := [_, _]) rfl ?_)
    | (refine WO.build (C := [_, _, _]) rfl ?_)
    | (refine WO.build (C := [_, _, _, _]) rfl ?_)
    | (refine WO.build (C := [_, _, _, _, _]) rfl ?_)
    | (refine WO.build (C := [_, _, _, _, _, _]) rfl ?_)
    | (refine WO.build (C := [_, _, _, _, _, _, _]) rfl ?_)
    | (refine WO.eqnil (by assumption) (fun hn1 hn2 => ?_) ?_)
    | (refine W.condT rfl ?_)
    | (refine W.condF rfl ?_)
    | (refine W.condDT rfl (by first | assumption | omega) ?_)
    | (refine W.condDF rfl (by first | assumption | omega) ?_)
    | (refine W.condD rfl (fun hc => ?_) (fun hc => ?_))
    | (refine WO.gS rfl (fun hc => ?_) (fun hc => ?_) <;> try (exfalso; omega))
    | (refine WO.pickS rfl (fun hc => ?_) (fun hc => ?_) <;> try (exfalso; omega))
    | (refine W.skip ?_)
    | (refine W.block ?_)
    | (refine W.drawA rfl ?_)
    | (refine W.sdrawA rfl ?_)
    | (refine And.intro rfl ?_)
    | (refine W.exit ?_)
    | (refine W.ret ?_)
    | (refine W.seq ?_)
    | (refine W.goto ?_)
    | (refine W.label ?_)
    | (refine SQ.nn ?_)
    | (refine SQ.x ?_)
    | (refine SQ.r ?_)
    | (refine SQ.g ?_)
    | (refine BQ.nn ?_)
    | (refine BQ.x ?_)
    | (refine BQ.r ?_)
    | (refine BQ.g ?_)
    | (refine BQ.y rfl ?_)
    | (refine LQ.x ?_)
    | (refine LQ.r ?_)
    | (refine LQ.g ?_)
    | (refine GQ.nn ?_)
    | (refine GQ.x ?_)
    | (refine GQ.r ?_))
  all_goals first
    | exact ⟨rfl, g1⟩
    | (refine ⟨?_, Grows.refl _⟩; unfold decS; rw [if_neg (by assumption), if_pos (by omega)]; rfl)
end Go.Proofs.YtffjdidakeinjaaDoor.AS
end
section
set_option autoImplicit false
set_option maxRecDepth 100000
set_option maxHeartbeats 4000000
set_option linter.unusedSimpArgs false
set_option linter.unusedVariables false
namespace Go.Proofs.YtffjdidakeinjaaDoor.AS
open Go Go.Proofs Go.RowKit Go.Proofs.YtffjdidakeinjaaDoor.AS.V

theorem slowS_w {s : ByteArray} {sz lo hi : Int} (h1 : 1 ≤ s.size) (h2 : 2 ≤ sz ∧ sz ≤ 4) : 1 ≤ (slowS s sz lo hi).2 ∧ (slowS s sz lo hi).2 ≤ s.size := by
  unfold slowS
  (repeat' split) <;> simp only <;> omega
theorem decS_w {s : ByteArray} (h : s ≠ ⟨#[]⟩) : 1 ≤ (decS s).2 ∧ (decS s).2 ≤ s.size := by
  have h1 := size_pos h
  unfold decS
  rw [if_neg h]
  split
  · simp only; omega
  · split
    · simp only; omega
    · exact slowS_w h1 (by (repeat' split) <;> omega)
theorem next_FR {h : Heap} {b : Nat} {ad buf : AV} {s : ByteArray} (o : ObjT h b 66 [ad, buf, .s (.string s)]) (hs : s.size ≤ 140737488355328) (hne : s ≠ ⟨#[]⟩) :
    FR Tryd.prog TT 54 [.pt b 0 0] h fun y H => y = .s (.int .i32 (decS s).1) ∧ ∃ H1, Grows h H1 ∧ Upd H1 H b ∧ ObjT H b 66 [ad, buf, .s (.string (s.extract (decS s).2.toNat s.size))] := by
  have hk := dec_FR h s hs
  have hw := decS_w hne
  generalize decS s = ds at *
  have ob := o.o
  refine FR.of q54 (by kernel_rfl) ?_
  unfold c54
  repeat' (first
    | (refine WO.call rfl hk ?_; rintro _ H1 ⟨rfl, g1⟩; have o1 := o.grows g1; have ob1 := o1.o)
    | (refine WO.storeT rfl o1 rfl rfl rfl rfl rfl (fun H4 ot4 u4 => ?_))
    | (refine LQ.fin ?_)
    | (refine EQ.fin rfl ?_)
    | (refine WO.mvs rfl ?_)
    | (refine WO.mvp rfl ?_)
    | (refine WO.mvt rfl ?_)
    | (refine WO.mv ?_)
    | (refine W.sreg ?_)
    | (refine W.sdraw ?_)
    | (refine W.reg ?_)
    | (refine W.draw ?_)
    | (refine WO.nil ?_)
    | (refine WO.gU rfl ?_)
    | (refine WO.gT rfl rfl ?_)
    | (refine WO.gF rfl rfl ?_)
    | (refine WO.ext rfl rfl ?_)
    | (refine WO.lenR (by assumption) ?_)
    | (refine WO.add rfl rfl (by first | exact wrOK (by simp only [loK, hiK]; omega) | rfl) ?_)
    | (refine WO.sub rfl rfl (by first | exact wrOK (by simp only [loK, hiK]; omega) | rfl) ?_)
    | (refine WO.lss rfl rfl ?_)
    | (refine WO.leq rfl rfl ?_)
    | (refine WO.gtr rfl rfl ?_)
    | (refine WO.geq rfl rfl ?_)
    | (refine WO.eql rfl rfl ?_)
    | (refine WO.neq rfl rfl ?_)
    | (refine WO.seql rfl rfl ?_)
    | (refine WO.sneq rfl rfl ?_)
    | (refine WO.beql rfl rfl (tb rfl) ?_)
    | (refine WO.bneq rfl rfl (tb rfl) ?_)
    | (refine WO.not rfl ?_)
    | (refine WO.not0 rfl ?_)
    | (refine WO.cvi rfl (kd rfl) (kd rfl) (by first | exact wrOK (by simp only [loK, hiK]; omega) | rfl) ?_)
    | (refine WO.cvs rfl (st rfl) (st rfl) ?_)
    | (refine WO.ix rfl rfl (st rfl) (by first | assumption | omega) (by first | assumption | omega) ?_)
    | (refine WO.slen rfl (st rfl) ?_)
    | (refine WO.iaddr (by assumption) rfl rfl (by first | assumption | omega) (by first | assumption | omega) (fun q hq => ?_))
    | (refine WO.load (by assumption) rfl rfl ?_)
    | (refine WO.loadO rfl (by assumption) rfl rfl ?_)
    | (refine WO.faddrP (by assumption) rfl (fun q hq => ?_))
    | (refine WO.nilckP (by assumption) ?_)
    | (refine WO.nilck rfl ?_)
    | (refine WO.faddr rfl ?_)
    | (refine WO.fld rfl rfl rfl ?_)
    | (refine WO.pickT rfl ?_)
    | (refine WO.pickF rfl ?_)
    | (refine WO.sll rfl rfl (st rfl) (by first | assumption | omega) (by first | assumption | omega) ?_)
    | (refine WO.slh rfl rfl (st rfl) (by first | assumption | omega) (by first | assumption | omega) ?_)
    | (refine WO.slb rfl rfl rfl (st rfl) (by first | assumption | omega) (by first | assumption | omega) (by first | assumption | omega) ?_)
    | (refine WO.mul rfl rfl (by first | exact wrOK (by simp only [loK, hiK]; omega) | rfl) ?_)
    | (refine WO.quo rfl rfl (by first | assumption | omega) (by first | exact wrOK (by simp only [loK, hiK]; omega) | rfl) ?_)
    | (refine WO.rem rfl rfl (by first | assumption | omega) ?_)
    | (refine WO.and rfl rfl ?_)
    | (refine WO.or rfl rfl ?_)
    | (refine WO.xor rfl rfl ?_)
    | (refine WO.shl rfl rfl (by first | assumption | omega) (by simp [IntKind.bits]; rfl) ?_)
    | (refine WO.shr rfl rfl (by first | assumption | omega) (by simp [IntKind.bits]; rfl) ?_)
    | (refine WO.build (C := [_]) rfl ?_)
    | (refine WO.build (C := [_, _]) rfl ?_)
    | (refine WO.build (C := [_, _, _]) rfl ?_)
    | (refine WO.build (C := [_, _, _, _]) rfl ?_)
    | (refine WO.build (C := [_, _, _, _, _]) rfl ?_)
    | (refine WO.build (C := [_, _, _, _, _, _]) rfl ?_)
    | (refine WO.build (C := [_, _, _, _, _, _, _]) rfl ?_)
    | (refine WO.eqnil (by assumption) (fun hn1 hn2 => ?_) ?_)
    | (refine W.condT rfl ?_)
    | (refine W.condF rfl ?_)
    | (refine W.condDT rfl (by first | assumption | omega) ?_)
    | (refine W.condDF rfl (by first | assumption | omega) ?_)
    | (refine W.condD rfl (fun hc => ?_) (fun hc => ?_))
    | (refine WO.gS rfl (fun hc => ?_) (fun hc => ?_) <;> try (exfalso; omega))
    | (refine WO.pickS rfl (fun hc => ?_) (fun hc => ?_) <;> try (exfalso; omega))
    | (refine W.skip ?_)
    | (refine W.block ?_)
    | (refine W.drawA rfl ?_)
    | (refine W.sdrawA rfl ?_)
    | (refine And.intro rfl ?_)
    | (refine W.exit ?_)
    | (refine W.ret ?_)
    | (refine W.seq ?_)
    | (refine W.goto ?_)
    | (refine W.label ?_)
    | (refine SQ.nn ?_)
    | (refine SQ.x ?_)
    | (refine SQ.r ?_)
    | (refine SQ.g ?_)
    | (refine BQ.nn ?_)
    | (refine BQ.x ?_)
    | (refine BQ.r ?_)
    | (refine BQ.g ?_)
    | (refine BQ.y rfl ?_)
    | (refine LQ.x ?_)
    | (refine LQ.r ?_)
    | (refine LQ.g ?_)
    | (refine GQ.nn ?_)
    | (refine GQ.x ?_)
    | (refine GQ.r ?_))
  · exact ⟨rfl, H1, g1, u4, ot4⟩
def lettersF : Nat → ByteArray → List Int
  | 0, _ => []
  | k + 1, s => if s = ⟨#[]⟩ then [] else (decS s).1 :: lettersF k (s.extract (decS s).2.toNat s.size)
/-- A text's letters. -/
def lettersS (s : ByteArray) : List Int := lettersF s.size s
theorem lettersF_nil (k : Nat) {s : ByteArray} (h : s = ⟨#[]⟩) : lettersF k s = [] := by
  cases k with
  | zero => rfl
  | succ k => rw [lettersF, if_pos h]
theorem letters_FR (h : Heap) (s : ByteArray) (hs : s.size ≤ 35184372088831) :
    FR Tryd.prog TT 42 [.s (.string s)] h fun y H => Out (encI .i32) 21 h H y (lettersS s) := by
  refine FR.of q42 (by kernel_rfl) ?_
  unfold c42
  repeat' (first
    | (refine WO.mvE out rfl ?_)
    | (refine WO.boxT (C := [_, _, _]) rfl (fun b H1 hb g1 ob => ?_))
    | (refine W.loopI (σ := Nat × ByteArray × AV × List Int) (fun σ => [(3, σ.2.2.1), (4, .pt b 0 0)]) (fun σ h' => Out (encI .i32) 21 h h' σ.2.2.1 σ.2.2.2 ∧ ObjT h' b 66 [.s (.pointer none), .s (.slice none 0 0), .s (.string σ.2.1)] ∧ bo σ.2.2.1 ≠ some b ∧ σ.2.2.2 ++ lettersF σ.1 σ.2.1 = lettersS s ∧ σ.2.1.size ≤ σ.1 ∧ σ.2.2.2.length + σ.2.1.size ≤ s.size) (fun σ => σ.1) (s.size, s, .s (.slice none 0 0), []) ⟨rfl, rfl, trivial⟩ ⟨Out.nil g1, ob, (by simp [bo]), rfl, Nat.le_refl _, by simp⟩ ?_; rintro ⟨k, s', out, O⟩ G h' ⟨ho, ot, hbo, hl, hk, hz⟩; dsimp only at ho ot hbo hl hk hz ⊢; have ob' := ot.o)
    | (refine WO.call rfl (next_FR ot (by omega) (by assumption)) ?_; rintro _ H2 ⟨rfl, H1', g1', u1, ot2⟩; have out2 : Out (encI .i32) 21 h H2 out O := ⟨u1.grows (ho.g.trans g1') hb, (ho.o.grows g1').upd u1 hbo, ho.nw⟩)
    | (refine WO.bslI rfl rfl (fun a1 H3 g3 o3 nw3 => ?_))
    | (have hp := size_pos (s := s') (by assumption); refine WO.appO (out2.grows g3) o3.row rfl (encI_ok _ _) (by simp only [List.length_cons, List.length_nil]; omega) (by simp only [List.length_cons, List.length_nil]; omega) (fun a2 H4 out4 ap => ?_))
    | (refine LQ.fin ?_)
    | (refine EQ.fin rfl ?_)
    | (refine WO.mvs rfl ?_)
    | (refine WO.mvp rfl ?_)
    | (refine WO.mvt rfl ?_)
    | (refine WO.mv ?_)
    | (refine W.sreg ?_)
    | (refine W.sdraw ?_)
    | (refine W.reg ?_)
    | (refine W.draw ?_)
    | (refine WO.nil ?_)
    | (refine WO.gU rfl ?_)
    | (refine WO.gT rfl rfl ?_)
    | (refine WO.gF rfl rfl ?_)
    | (refine WO.ext rfl rfl ?_)
    | (refine WO.lenR (by assumption) ?_)
    | (refine WO.add rfl rfl (by first | exact wrOK (by simp only [loK, hiK]; omega) | rfl) ?_)
    | (refine WO.sub rfl rfl (by first | exact wrOK (by simp only [loK, hiK]; omega) | rfl) ?_)
    | (refine WO.lss rfl rfl ?_)
    | (refine WO.leq rfl rfl ?_)
    | (refine WO.gtr rfl rfl ?_)
    | (refine WO.geq rfl rfl ?_)
    | (refine WO.eql rfl rfl ?_)
    | (refine WO.neq rfl rfl ?_)
    | (refine WO.seql rfl rfl ?_)
    | (refine WO.sneq rfl rfl ?_)
    | (refine WO.beql rfl rfl (tb rfl) ?_)
    | (refine WO.bneq rfl rfl (tb rfl) ?_)
    | (refine WO.not rfl ?_)
    | (refine WO.not0 rfl ?_)
    | (refine WO.cvi rfl (kd rfl) (kd rfl) (by first | exact wrOK (by simp only [loK, hiK]; omega) | rfl) ?_)
    | (refine WO.cvs rfl (st rfl) (st rfl) ?_)
    | (refine WO.ix rfl rfl (st rfl) (by first | assumption | omega) (by first | assumption | omega) ?_)
    | (refine WO.slen rfl (st rfl) ?_)
    | (refine WO.iaddr (by assumption) rfl rfl (by first | assumption | omega) (by first | assumption | omega) (fun q hq => ?_))
    | (refine WO.load (by assumption) rfl rfl ?_)
    | (refine WO.loadO rfl (by assumption) rfl rfl ?_)
    | (refine WO.faddrP (by assumption) rfl (fun q hq => ?_))
    | (refine WO.nilckP (by assumption) ?_)
    | (refine WO.nilck rfl ?_)
    | (refine WO.faddr rfl ?_)
    | (refine WO.fld rfl rfl rfl ?_)
    | (refine WO.pickT rfl ?_)
    | (refine WO.pickF rfl ?_)
    | (refine WO.sll rfl rfl (st rfl) (by first | assumption | omega) (by first | assumption | omega) ?_)
    | (refine WO.slh rfl rfl (st rfl) (by first | assumption | omega) (by first | assumption | omega) ?_)
    | (refine WO.slb rfl rfl rfl (st rfl) (by first | assumption | omega) (by first | assumption | omega) (by first | assumption | omega) ?_)
    | (refine WO.mul rfl rfl (by first | exact wrOK (by simp only [loK, hiK]; omega) | rfl) ?_)
    | (refine WO.quo rfl rfl (by first | assumption | omega) (by first | exact wrOK (by simp only [loK, hiK]; omega) | rfl) ?_)
    | (refine WO.rem rfl rfl (by first | assumption | omega) ?_)
    | (refine WO.and rfl rfl ?_)
    | (refine WO.or rfl rfl ?_)
    | (refine WO.xor rfl rfl ?_)
    | (refine WO.shl rfl rfl (by first | assumption | omega) (by simp [IntKind.bits]; rfl) ?_)
    | (refine WO.shr rfl rfl (by first | assumption | omega) (by simp [IntKind.bits]; rfl) ?_)
    | (refine WO.build (C := [_]) rfl ?_)
    | (refine WO.build (C := [_, _]) rfl ?_)
    | (refine WO.build (C := [_, _, _]) rfl ?_)
    | (refine WO.build (C := [_, _, _, _]) rfl ?_)
    | (refine WO.build (C := [_, _, _, _, _]) rfl ?_)
    | (refine WO.build (C := [_, _, _, _, _, _]) rfl ?_)
    | (refine WO.build (C := [_, _, _, _, _, _, _]) rfl ?_)
    | (refine WO.eqnil (by assumption) (fun hn1 hn2 => ?_) ?_)
    | (refine W.condT rfl ?_)
    | (refine W.condF rfl ?_)
    | (refine W.condDT rfl (by first | assumption | omega) ?_)
    | (refine W.condDF rfl (by first | assumption | omega) ?_)
    | (refine W.condD rfl (fun hc => ?_) (fun hc => ?_))
    | (refine WO.gS rfl (fun hc => ?_) (fun hc => ?_) <;> try (exfalso; omega))
    | (refine WO.pickS rfl (fun hc => ?_) (fun hc => ?_) <;> try (exfalso; omega))
    | (refine W.skip ?_)
    | (refine W.block ?_)
    | (refine W.drawA rfl ?_)
    | (refine W.sdrawA rfl ?_)
    | (refine And.intro rfl ?_)
    | (refine W.exit ?_)
    | (refine W.ret ?_)
    | (refine W.seq ?_)
    | (refine W.goto ?_)
    | (refine W.label ?_)
    | (refine SQ.nn ?_)
    | (refine SQ.x ?_)
    | (refine SQ.r ?_)
    | (refine SQ.g ?_)
    | (refine BQ.nn ?_)
    | (refine BQ.x ?_)
    | (refine BQ.r ?_)
    | (refine BQ.g ?_)
    | (refine BQ.y rfl ?_)
    | (refine LQ.x ?_)
    | (refine LQ.r ?_)
    | (refine LQ.g ?_)
    | (refine GQ.nn ?_)
    | (refine GQ.x ?_)
    | (refine GQ.r ?_))
  · have hne : s' ≠ ⟨#[]⟩ := by assumption
    have hw := decS_w hne
    have hlt : b < H3.length := by have := ot2.lt; have := g3.len; omega
    have hnb : bo a2 ≠ some b := ap.ne hlt hbo
    have ot4 : ObjT H4 b 66 _ := (ot2.grows g3).ap ap hbo
    obtain ⟨k, rfl⟩ : ∃ k2, k = k2 + 1 := ⟨k - 1, by omega⟩
    rw [lettersF, if_neg hne] at hl
    have hsz : (s'.extract (decS s').2.toNat s'.size).size = s'.size - (decS s').2.toNat := by rw [ByteArray.size_extract]; omega
    refine ⟨(k, _, a2, O ++ [(decS s').1]), by dsimp only; omega, ⟨rfl, rfl, trivial⟩, out4, ot4, hnb, ?_, ?_, ?_⟩
    · dsimp only; rw [List.append_assoc]; exact hl
    · show (s'.extract (decS s').2.toNat s'.size).size ≤ k
      rw [hsz]; omega
    · show (O ++ [(decS s').1]).length + (s'.extract (decS s').2.toNat s'.size).size ≤ s.size
      rw [hsz, List.length_append, List.length_singleton]; omega
  · rw [lettersF_nil k (Classical.not_not.1 (by assumption)), List.append_nil] at hl
    subst hl
    exact ⟨ho⟩
end Go.Proofs.YtffjdidakeinjaaDoor.AS
end
section
set_option autoImplicit false
set_option maxRecDepth 100000
set_option maxHeartbeats 4000000
set_option linter.unusedSimpArgs false
set_option linter.unusedVariables false
namespace Go.Proofs.YtffjdidakeinjaaDoor.AS
open Go Go.Proofs Go.RowKit Go.Proofs.YtffjdidakeinjaaDoor.AS.V

theorem fillUp {B : List Int} {f : Int → Int} {i : Nat} (h : i < B.length) :
    ((B.take i).map f ++ List.replicate (B.length - i) 0).take i ++ [f (nth B i)] ++ ((B.take i).map f ++ List.replicate (B.length - i) 0).drop (i + 1) = (B.take (i + 1)).map f ++ List.replicate (B.length - (i + 1)) 0 := by
  have h1 : ((B.take i).map f).length = i := by rw [List.length_map, List.length_take]; omega
  rw [List.take_append_of_le_length (by omega), List.take_of_length_le (by omega), List.drop_append, List.drop_eq_nil_of_le (by omega), h1, take_snoc h, List.map_append, List.map_cons, List.map_nil, List.nil_append, List.drop_replicate]
  congr 2; omega
/-- A text's letters in a charset, and the error. -/
def decodeS (c : Int) (s : ByteArray) : List Int × Int :=
  if (nameS c).2 ≠ 0 then ([], (nameS c).2) else if c = 2 then (lettersS s, 0) else ((bytesOf s).map (letS c), 0)
theorem dcd_FR (h : Heap) (c : Int) (s : ByteArray) (hs : s.size ≤ 35184372088831) :
    FR Tryd.prog TT 22 [.s (.int .u8 c), .s (.string s)] h fun y H => ∃ a, y = .tp [a, .s (.int .i64 (decodeS c s).2)] ∧ Grows h H ∧ Row (encI .i32) H a (decodeS c s).1 := by
  have hlen := bytesOf_length s
  have hk := name_FR h c
  unfold decodeS
  generalize nameS c = nm at *
  have hg := Grows.refl h
  have hbt := bt_range s
  refine FR.of q22 (by kernel_rfl) ?_
  unfold c22
  repeat' (first
    | (refine WO.mvE (.sl b 0 0 s.size 1) rfl ?_)
    | (refine WO.call rfl hk ?_; rintro _ H ⟨rfl, hH⟩; obtain rfl := hH.symm)
    | (refine WO.call rfl (letters_FR _ s hs) ?_; rintro a H out)
    | (refine WO.mvE a rfl ?_)
    | (refine WO.makeO (kk := .i32) (v := 0) rfl rfl (by omega) rfl (by omega) (by omega) (fun b H1 hb g1 ob => ?_))
    | (refine W.loopI (σ := Nat) (fun i => [(0, .s (.int .u8 c)), (1, .s (.string s)), (8, .sl b 0 0 s.size 1), (26, .s (.int .i64 s.size)), (27, .s (.int .i64 i))]) (fun i h' => Obj h' b (((((bytesOf s).take i).map (letS c)) ++ List.replicate ((bytesOf s).length - i) 0).map fun q => .s (.int .i32 q)) ∧ Grows h h' ∧ i ≤ s.size) (fun i => s.size - i) 0 ⟨rfl, rfl, rfl, rfl, rfl, trivial⟩ ⟨(by rw [hlen]; exact ob), g1, Nat.zero_le _⟩ ?_; rintro i G h' ⟨ob2, g2, hi⟩; have hb1 := (hbt (i : Int)).1; have hb2 := (hbt (i : Int)).2)
    | (refine WO.call rfl (let_FR _ c (bt s (i : Int)) hb1 hb2) ?_; rintro _ H ⟨rfl, hH⟩; obtain rfl := hH.symm)
    | (refine WO.iaddrO rfl rfl (by omega) (by omega) ?_)
    | (refine WO.storeO (C' := (((bytesOf s).take (i + 1)).map (letS c) ++ List.replicate ((bytesOf s).length - (i + 1)) 0).map fun q => .s (.int .i32 q)) rfl ob2 rfl rfl rfl (Nat.ble_eq_true_of_le (by simp only [List.length_map, List.length_append, List.length_take, List.length_replicate]; omega)) (by rw [show 0 + ((i : Int)).toNat * 1 = i by simp, ← fillUp (B := bytesOf s) (f := letS c) (i := i) (by omega), nth_bytes (by omega)]; simp only [List.map_append, List.map_cons, List.map_nil, List.map_take, List.map_drop]) (fun H3 ob3 u3 => ?_))
    | (refine LQ.fin ?_)
    | (refine EQ.fin rfl ?_)
    | (refine WO.mvs rfl ?_)
    | (refine WO.mvp rfl ?_)
    | (refine WO.mvt rfl ?_)
    | (refine WO.mv ?_)
    | (refine W.sreg ?_)
    | (refine W.sdraw ?_)
    | (refine W.reg ?_)
    | (refine W.draw ?_)
    | (refine WO.nil ?_)
    | (refine WO.gU rfl ?_)
    | (refine WO.gT rfl rfl ?_)
    | (refine WO.gF rfl rfl ?_)
    | (refine WO.ext rfl rfl ?_)
    | (refine WO.lenR (by assumption) ?_)
    | (refine WO.add rfl rfl (by first | exact wrOK (by simp only [loK, hiK]; omega) | rfl) ?_)
    | (refine WO.sub rfl rfl (by first | exact wrOK (by simp only [loK, hiK]; omega) | rfl) ?_)
    | (refine WO.lss rfl rfl ?_)
    | (refine WO.leq rfl rfl ?_)
    | (refine WO.gtr rfl rfl ?_)
    | (refine WO.geq rfl rfl ?_)
    | (refine WO.eql rfl rfl ?_)
    | (refine WO.neq rfl rfl ?_)
    | (refine WO.seql rfl rfl ?_)
    | (refine WO.sneq rfl rfl ?_)
    | (refine WO.beql rfl rfl (tb rfl) ?_)
    | (refine WO.bneq rfl rfl (tb rfl) ?_)
    | (refine WO.not rfl ?_)
    | (refine WO.not0 rfl ?_)
    | (refine WO.cvi rfl (kd rfl) (kd rfl) (by first | exact wrOK (by simp only [loK, hiK]; omega) | rfl) ?_)
    | (refine WO.cvs rfl (st rfl) (st rfl) ?_)
    | (refine WO.ix rfl rfl (st rfl) (by first | assumption | omega) (by first | assumption | omega) ?_)
    | (refine WO.slen rfl (st rfl) ?_)
    | (refine WO.iaddr (by assumption) rfl rfl (by first | assumption | omega) (by first | assumption | omega) (fun q hq => ?_))
    | (refine WO.load (by assumption) rfl rfl ?_)
    | (refine WO.loadO rfl (by assumption) rfl rfl ?_)
    | (refine WO.faddrP (by assumption) rfl (fun q hq => ?_))
    | (refine WO.nilckP (by assumption) ?_)
    | (refine WO.nilck rfl ?_)
    | (refine WO.faddr rfl ?_)
    | (refine WO.fld rfl rfl rfl ?_)
    | (refine WO.pickT rfl ?_)
    | (refine WO.pickF rfl ?_)
    | (refine WO.sll rfl rfl (st rfl) (by first | assumption | omega) (by first | assumption | omega) ?_)
    | (refine WO.slh rfl rfl (st rfl) (by first | assumption | omega) (by first | assumption | omega) ?_)
    | (refine WO.slb rfl rfl rfl (st rfl) (by first | assumption | omega) (by first | assumption | omega) (by first | assumption | omega) ?_)
    | (refine WO.mul rfl rfl (by first | exact wrOK (by simp only [loK, hiK]; omega) | rfl) ?_)
    | (refine WO.quo rfl rfl (by first | assumption | omega) (by first | exact wrOK (by simp only [loK, hiK]; omega) | rfl) ?_)
    | (refine WO.rem rfl rfl (by first | assumption | omega) ?_)
    | (refine WO.and rfl rfl ?_)
    | (refine WO.or rfl rfl ?_)
    | (refine WO.xor rfl rfl ?_)
    | (refine WO.shl rfl rfl (by first | assumption | omega) (by simp [IntKind.bits]; rfl) ?_)
    | (refine WO.shr rfl rfl (by first | assumption | omega) (by simp [IntKind.bits]; rfl) ?_)
    | (refine WO.build (C := [_]) rfl ?_)
    | (refine WO.build (C := [_, _]) rfl ?_)
    | (refine WO.build (C := [_, _, _]) rfl ?_)
    | (refine WO.build (C := [_, _, _, _]) rfl ?_)
    | (refine WO.build (C := [_, _, _, _, _]) rfl ?_)
    | (refine WO.build (C := [_, _, _, _, _, _]) rfl ?_)
    | (refine WO.build (C := [_, _, _, _, _, _, _]) rfl ?_)
    | (refine WO.eqnil (by assumption) (fun hn1 hn2 => ?_) ?_)
    | (refine W.condT rfl ?_)
    | (refine W.condF rfl ?_)
    | (refine W.condDT rfl (by first | assumption | omega) ?_)
    | (refine W.condDF rfl (by first | assumption | omega) ?_)
    | (refine W.condD rfl (fun hc => ?_) (fun hc => ?_))
    | (refine WO.gS rfl (fun hc => ?_) (fun hc => ?_) <;> try (exfalso; omega))
    | (refine WO.pickS rfl (fun hc => ?_) (fun hc => ?_) <;> try (exfalso; omega))
    | (refine W.skip ?_)
    | (refine W.block ?_)
    | (refine W.drawA rfl ?_)
    | (refine W.sdrawA rfl ?_)
    | (refine And.intro rfl ?_)
    | (refine W.exit ?_)
    | (refine W.ret ?_)
    | (refine W.seq ?_)
    | (refine W.goto ?_)
    | (refine W.label ?_)
    | (refine SQ.nn ?_)
    | (refine SQ.x ?_)
    | (refine SQ.r ?_)
    | (refine SQ.g ?_)
    | (refine BQ.nn ?_)
    | (refine BQ.x ?_)
    | (refine BQ.r ?_)
    | (refine BQ.g ?_)
    | (refine BQ.y rfl ?_)
    | (refine LQ.x ?_)
    | (refine LQ.r ?_)
    | (refine LQ.g ?_)
    | (refine GQ.nn ?_)
    | (refine GQ.x ?_)
    | (refine GQ.r ?_))
  · exact ⟨.s (.slice none 0 0), by rw [if_pos hc]; rfl, hg, by rw [if_pos hc]; exact Or.inl ⟨rfl, rfl⟩⟩
  · have hz : ¬ nm.2 ≠ 0 := by assumption
    exact ⟨a, by rw [if_neg hz, if_pos hc]; rfl, out.g, by rw [if_neg hz, if_pos hc]; exact out.row⟩
  · exact ⟨i + 1, by omega, ⟨rfl, rfl, rfl, rfl, rfl, trivial⟩, ob3, u3.grows g2 hb, by omega⟩
  · have hz : ¬ nm.2 ≠ 0 := by assumption
    have h2 : ¬ c = 2 := by assumption
    obtain rfl : i = s.size := by omega
    rw [← hlen, Nat.sub_self, List.replicate_zero, List.append_nil, List.take_length] at ob2
    have ro := ob2.rowI
    rw [List.length_map, hlen] at ro
    exact ⟨.sl b 0 0 s.size 1, by rw [if_neg hz, if_neg h2]; rfl, g2, by rw [if_neg hz, if_neg h2]; exact ro⟩
end Go.Proofs.YtffjdidakeinjaaDoor.AS
end
section
set_option autoImplicit false
set_option maxRecDepth 100000
set_option maxHeartbeats 4000000
set_option linter.unusedSimpArgs false
set_option linter.unusedVariables false
namespace Go.Proofs.YtffjdidakeinjaaDoor.AS
open Go Go.Proofs Go.RowKit Go.Proofs.YtffjdidakeinjaaDoor.AS.V

/-- A number and the bytes behind it. -/
def ctS (s : ByteArray) (n : Int) : Nat → Int
  | 0 => n
  | k + 1 => 64 * ctS s n k + bt s ((k + 1 : Nat) : Int) % 64
theorem ctS_le {s : ByteArray} {n : Int} (h0 : 0 ≤ n) (h1 : n ≤ 255) : ∀ k : Nat, 0 ≤ ctS s n k ∧ (k ≤ 1 → ctS s n k ≤ 16383) ∧ (k ≤ 2 → ctS s n k ≤ 1048575) ∧ (k ≤ 3 → ctS s n k ≤ 67108863)
  | 0 => by unfold ctS; omega
  | k + 1 => by
    have ih := ctS_le (s := s) h0 h1 k
    have hb := bt_range s ((k + 1 : Nat) : Int)
    unfold ctS
    refine ⟨by omega, fun h => ?_, fun h => by omega, fun h => by omega⟩
    obtain rfl : k = 0 := by omega
    unfold ctS
    omega
def nextF (s : ByteArray) (n : Int) (m : Nat) : Int × Int :=
  if s.size < m then (65533, 1) else if isR (ctS s n (m - 1)) = true ∧ strOfNums (encR (ctS s n (m - 1))) = s.extract 0 m then (ctS s n (m - 1), m) else (65533, 1)
/-- The letter that a text begins with, by definition. -/
def rnextS (s : ByteArray) : Int × Int :=
  if 192 ≤ bt s 0 ∧ bt s 0 < 224 then nextF s (bt s 0 - 192) 2 else if 224 ≤ bt s 0 ∧ bt s 0 < 240 then nextF s (bt s 0 - 224) 3 else if 240 ≤ bt s 0 ∧ bt s 0 < 248 then nextF s (bt s 0 - 240) 4 else nextF s (bt s 0) 1
theorem nextF_short {s : ByteArray} {n : Int} {m : Nat} (h : s.size < m) : nextF s n m = (65533, 1) := if_pos h
theorem nextF_no {s : ByteArray} {n : Int} {m : Nat} (h : ¬ s.size < m) (hn : isR (ctS s n (m - 1)) = false) : nextF s n m = (65533, 1) := by
  unfold nextF; rw [if_neg h, if_neg (by rw [hn]; simp)]
theorem nextF_ne {s : ByteArray} {n : Int} {m : Nat} (h : ¬ s.size < m) (hn : strOfNums (encR (ctS s n (m - 1))) ≠ s.extract 0 m) : nextF s n m = (65533, 1) := by
  unfold nextF; rw [if_neg h, if_neg (fun e => hn e.2)]
theorem nextF_ok {s : ByteArray} {n : Int} {m : Nat} (h : ¬ s.size < m) (h1 : isR (ctS s n (m - 1)) = true) (hn : ¬ strOfNums (encR (ctS s n (m - 1))) ≠ s.extract 0 m) : nextF s n m = (ctS s n (m - 1), (m : Int)) := by
  unfold nextF; rw [if_neg h, if_pos ⟨h1, Classical.not_not.1 hn⟩]
theorem leaf_no {s : ByteArray} {n : Int} {m i : Nat} (he : rnextS s = nextF s n m) (hz : ¬ s.size < m) (hv : isR (ctS s n i) = false) (hi : i = m - 1) : rnextS s = (65533, 1) := by
  subst hi; exact he.trans (nextF_no hz hv)
theorem leaf_ne {s : ByteArray} {n : Int} {m i : Nat} (he : rnextS s = nextF s n m) (hz : ¬ s.size < m) (hn : strOfNums (encR (ctS s n i)) ≠ s.extract 0 m) (hi : i = m - 1) : rnextS s = (65533, 1) := by
  subst hi; exact he.trans (nextF_ne hz hn)
theorem leaf_ok {s : ByteArray} {n : Int} {m i : Nat} (he : rnextS s = nextF s n m) (hz : ¬ s.size < m) (hv : isR (ctS s n i) = true) (hn : ¬ strOfNums (encR (ctS s n i)) ≠ s.extract 0 m) (hi : i = m - 1) : rnextS s = (ctS s n i, (m : Int)) := by
  subst hi; exact he.trans (nextF_ok hz hv hn)
end Go.Proofs.YtffjdidakeinjaaDoor.AS
end
section
set_option autoImplicit false
set_option maxRecDepth 100000
set_option maxHeartbeats 4000000
set_option linter.unusedSimpArgs false
set_option linter.unusedVariables false
namespace Go.Proofs.YtffjdidakeinjaaDoor.AS
open Go Go.Proofs Go.RowKit Go.Proofs.YtffjdidakeinjaaDoor.AS.V
theorem encR_range {n : Int} (h : isR n = true) : ∀ c ∈ encR n, 0 ≤ c ∧ c ≤ 255 := by
  have h := of_decide_eq_true h
  unfold encR
  intro c hc
  (repeat' split at hc) <;> simp only [List.mem_cons, List.not_mem_nil, or_false] at hc <;> omega
theorem ct1 {s : ByteArray} {n : Int} : ctS s n (1 - 1) = n := rfl
theorem ct2 {s : ByteArray} {n : Int} : ctS s n (2 - 1) = 64 * n + bt s 1 % 64 := rfl
theorem ct3 {s : ByteArray} {n : Int} : ctS s n (3 - 1) = 64 * (64 * n + bt s 1 % 64) + bt s 2 % 64 := rfl
theorem ct4 {s : ByteArray} {n : Int} : ctS s n (4 - 1) = 64 * (64 * (64 * n + bt s 1 % 64) + bt s 2 % 64) + bt s 3 % 64 := rfl
theorem bytes3 {s : ByteArray} (h : 3 ≤ s.size) : bytesOf s = bt s 0 :: bt s 1 :: bt s 2 :: (bytesOf s).drop 3 := (bytes2 (by omega)).trans (congrArg (fun l => bt s 0 :: bt s 1 :: l) (bytesOf_drop_cons s 2 h))
theorem bytes4 {s : ByteArray} (h : 4 ≤ s.size) : bytesOf s = bt s 0 :: bt s 1 :: bt s 2 :: bt s 3 :: (bytesOf s).drop 4 := (bytes3 (by omega)).trans (congrArg (fun l => bt s 0 :: bt s 1 :: bt s 2 :: l) (bytesOf_drop_cons s 3 h))
theorem cond_eq {s : ByteArray} {n : Int} {m : Nat} (h : m ≤ s.size) : (isR n = true ∧ strOfNums (encR n) = s.extract 0 m) ↔ (isR n = true ∧ encR n = (bytesOf s).take m) := by
  refine and_congr_right fun hn => ?_
  have e := bytesOf_extract s 0 m h
  rw [List.drop_zero] at e
  constructor
  · intro hh
    rw [← e, ← hh, bytesOf_strOf (encR_range hn)]
  · intro hh
    apply bytesOf_inj
    rw [e, bytesOf_strOf (encR_range hn), hh]
theorem two_ok {b0 b1 : Int} (h0 : 192 ≤ b0 ∧ b0 < 224) (h1 : 0 ≤ b1 ∧ b1 ≤ 255) : (isR (64 * (b0 - 192) + b1 % 64) = true ∧ encR (64 * (b0 - 192) + b1 % 64) = [b0, b1]) ↔ (194 ≤ b0 ∧ 128 ≤ b1 ∧ b1 ≤ 191) := by
  constructor
  · rintro ⟨-, h2⟩
    unfold encR at h2
    (repeat' split at h2) <;> simp only [List.cons.injEq, reduceCtorEq, and_false, and_true] at h2 <;> omega
  · intro h2
    refine ⟨decide_eq_true (by omega), ?_⟩
    unfold encR
    rw [if_neg (by omega), if_pos (by omega)]
    simp only [List.cons.injEq, and_true]; omega
theorem three_ok {b0 b1 b2 : Int} (h0 : 224 ≤ b0 ∧ b0 < 240) (h1 : 0 ≤ b1 ∧ b1 ≤ 255) (h2 : 0 ≤ b2 ∧ b2 ≤ 255) : (isR (64 * (64 * (b0 - 224) + b1 % 64) + b2 % 64) = true ∧ encR (64 * (64 * (b0 - 224) + b1 % 64) + b2 % 64) = [b0, b1, b2]) ↔ (128 ≤ b1 ∧ b1 ≤ 191 ∧ 128 ≤ b2 ∧ b2 ≤ 191 ∧ (b0 = 224 → 160 ≤ b1) ∧ (b0 = 237 → b1 ≤ 159)) := by
  constructor
  · rintro ⟨h, h2⟩
    have h := of_decide_eq_true h
    unfold encR at h2
    (repeat' split at h2) <;> simp only [List.cons.injEq, reduceCtorEq, and_false, and_true] at h2 <;> omega
  · intro h2
    refine ⟨decide_eq_true (by omega), ?_⟩
    unfold encR
    rw [if_neg (by omega), if_neg (by omega), if_pos (by omega)]
    simp only [List.cons.injEq, and_true]; omega
theorem four_ok {b0 b1 b2 b3 : Int} (h0 : 240 ≤ b0 ∧ b0 < 248) (h1 : 0 ≤ b1 ∧ b1 ≤ 255) (h2 : 0 ≤ b2 ∧ b2 ≤ 255) (h3 : 0 ≤ b3 ∧ b3 ≤ 255) : (isR (64 * (64 * (64 * (b0 - 240) + b1 % 64) + b2 % 64) + b3 % 64) = true ∧ encR (64 * (64 * (64 * (b0 - 240) + b1 % 64) + b2 % 64) + b3 % 64) = [b0, b1, b2, b3]) ↔ (128 ≤ b1 ∧ b1 ≤ 191 ∧ 128 ≤ b2 ∧ b2 ≤ 191 ∧ 128 ≤ b3 ∧ b3 ≤ 191 ∧ (b0 = 240 → 144 ≤ b1) ∧ (b0 = 244 → b1 ≤ 143) ∧ b0 ≤ 244) := by
  constructor
  · rintro ⟨h, h2⟩
    have h := of_decide_eq_true h
    unfold encR at h2
    (repeat' split at h2) <;> simp only [List.cons.injEq, reduceCtorEq, and_false, and_true] at h2 <;> omega
  · intro h2
    refine ⟨decide_eq_true (by omega), ?_⟩
    unfold encR
    rw [if_neg (by omega), if_neg (by omega), if_neg (by omega)]
    simp only [List.cons.injEq, and_true]; omega
theorem ifc {α : Type} {p q : Prop} [Decidable p] [Decidable q] {a b : α} (h : p ↔ q) : (if p then a else b) = if q then a else b := by
  by_cases hp : p
  · rw [if_pos hp, if_pos (h.1 hp)]
  · rw [if_neg hp, if_neg (fun e => hp (h.2 e))]
theorem pair_eq {a b c d : Int} (h1 : a = c) (h2 : b = d) : (a, b) = (c, d) := by rw [h1, h2]
/-- The letter that a text begins with is the document's. -/
theorem rnext_eq {s : ByteArray} (h1 : 1 ≤ s.size) : rnextS s = decS s := by
  have hne : s ≠ ⟨#[]⟩ := by rintro rfl; simp [ByteArray.size] at h1
  have r0 := bt_range s 0
  have r1 := bt_range s 1
  have r2 := bt_range s 2
  have r3 := bt_range s 3
  unfold rnextS decS
  rw [if_neg hne]
  obtain ⟨sz, hsz, ez⟩ : ∃ z : Int, (if bt s 0 < 224 then (2 : Int) else if bt s 0 < 240 then 3 else 4) = z ∧ ((bt s 0 < 224 ∧ z = 2) ∨ (224 ≤ bt s 0 ∧ bt s 0 < 240 ∧ z = 3) ∨ (240 ≤ bt s 0 ∧ z = 4)) := ⟨_, rfl, by (repeat' split) <;> omega⟩
  obtain ⟨lo, hlo, el⟩ : ∃ z : Int, (if bt s 0 = 224 then (160 : Int) else if bt s 0 = 240 then 144 else 128) = z ∧ ((bt s 0 = 224 ∧ z = 160) ∨ (bt s 0 = 240 ∧ z = 144) ∨ (bt s 0 ≠ 224 ∧ bt s 0 ≠ 240 ∧ z = 128)) := ⟨_, rfl, by (repeat' split) <;> omega⟩
  obtain ⟨hi, hhi, eh⟩ : ∃ z : Int, (if bt s 0 = 237 then (159 : Int) else if bt s 0 = 244 then 143 else 191) = z ∧ ((bt s 0 = 237 ∧ z = 159) ∨ (bt s 0 = 244 ∧ z = 143) ∨ (bt s 0 ≠ 237 ∧ bt s 0 ≠ 244 ∧ z = 191)) := ⟨_, rfl, by (repeat' split) <;> omega⟩
  rw [hsz, hlo, hhi]
  by_cases c2 : 192 ≤ bt s 0 ∧ bt s 0 < 224
  · rw [if_pos c2, if_neg (show ¬ bt s 0 < 128 by omega)]
    unfold nextF slowS
    by_cases hz : s.size < 2
    · rw [if_pos hz]
      by_cases q : bt s 0 < 194 ∨ 244 < bt s 0
      · rw [if_pos q]
      · rw [if_neg q, if_pos (by omega)]
    · rw [if_neg hz, ct2]
      have e := cond_eq (s := s) (n := 64 * (bt s 0 - 192) + bt s 1 % 64) (m := 2) (by omega)
      rw [bytes2 (by omega)] at e
      have e' := e.trans (two_ok c2 r1)
      rw [ifc e']
      by_cases p : 194 ≤ bt s 0 ∧ 128 ≤ bt s 1 ∧ bt s 1 ≤ 191
      · rw [if_pos p, if_neg (show ¬ (bt s 0 < 194 ∨ 244 < bt s 0) by omega), if_neg (by omega), if_neg (by omega), if_pos (by omega)]
        apply pair_eq <;> omega
      · rw [if_neg p]
        by_cases q : bt s 0 < 194 ∨ 244 < bt s 0
        · rw [if_pos q]
        · rw [if_neg q, if_neg (by omega), if_pos (by omega)]
  · rw [if_neg c2]
    by_cases c3 : 224 ≤ bt s 0 ∧ bt s 0 < 240
    · rw [if_pos c3, if_neg (show ¬ bt s 0 < 128 by omega), if_neg (show ¬ (bt s 0 < 194 ∨ 244 < bt s 0) by omega)]
      unfold nextF slowS
      by_cases hz : s.size < 3
      · rw [if_pos hz, if_pos (by omega)]
      · rw [if_neg hz, ct3]
        have e := cond_eq (s := s) (n := 64 * (64 * (bt s 0 - 224) + bt s 1 % 64) + bt s 2 % 64) (m := 3) (by omega)
        rw [bytes3 (by omega)] at e
        have e' := e.trans (three_ok c3 r1 r2)
        rw [ifc e', if_neg (show ¬ (s.size : Int) < sz by omega)]
        by_cases p : 128 ≤ bt s 1 ∧ bt s 1 ≤ 191 ∧ 128 ≤ bt s 2 ∧ bt s 2 ≤ 191 ∧ (bt s 0 = 224 → 160 ≤ bt s 1) ∧ (bt s 0 = 237 → bt s 1 ≤ 159)
        · rw [if_pos p, if_neg (by omega), if_neg (by omega), if_neg (by omega), if_pos (by omega)]
          apply pair_eq <;> omega
        · rw [if_neg p]
          by_cases q : bt s 1 < lo ∨ hi < bt s 1
          · rw [if_pos q]
          · rw [if_neg q, if_neg (by omega), if_pos (by omega)]
    · rw [if_neg c3]
      by_cases c4 : 240 ≤ bt s 0 ∧ bt s 0 < 248
      · rw [if_pos c4, if_neg (show ¬ bt s 0 < 128 by omega)]
        unfold nextF slowS
        by_cases hz : s.size < 4
        · rw [if_pos hz]
          by_cases q : bt s 0 < 194 ∨ 244 < bt s 0
          · rw [if_pos q]
          · rw [if_neg q, if_pos (by omega)]
        · rw [if_neg hz, ct4]
          have e := cond_eq (s := s) (n := 64 * (64 * (64 * (bt s 0 - 240) + bt s 1 % 64) + bt s 2 % 64) + bt s 3 % 64) (m := 4) (by omega)
          rw [bytes4 (by omega)] at e
          have e' := e.trans (four_ok c4 r1 r2 r3)
          rw [ifc e', if_neg (show ¬ (s.size : Int) < sz by omega)]
          by_cases p : 128 ≤ bt s 1 ∧ bt s 1 ≤ 191 ∧ 128 ≤ bt s 2 ∧ bt s 2 ≤ 191 ∧ 128 ≤ bt s 3 ∧ bt s 3 ≤ 191 ∧ (bt s 0 = 240 → 144 ≤ bt s 1) ∧ (bt s 0 = 244 → bt s 1 ≤ 143) ∧ bt s 0 ≤ 244
          · rw [if_pos p, if_neg (show ¬ (bt s 0 < 194 ∨ 244 < bt s 0) by omega), if_neg (by omega), if_neg (by omega), if_neg (by omega), if_neg (by omega), if_neg (by omega)]
            apply pair_eq <;> omega
          · rw [if_neg p]
            by_cases q0 : bt s 0 < 194 ∨ 244 < bt s 0
            · rw [if_pos q0]
            · rw [if_neg q0]
              by_cases q : bt s 1 < lo ∨ hi < bt s 1
              · rw [if_pos q]
              · rw [if_neg q, if_neg (by omega)]
                by_cases q2 : bt s 2 < 128 ∨ 191 < bt s 2
                · rw [if_pos q2]
                · rw [if_neg q2, if_neg (by omega), if_pos (by omega)]
      · rw [if_neg c4]
        unfold nextF
        rw [if_neg (by omega)]
        have e := cond_eq (s := s) (n := bt s 0) (m := 1) (by omega)
        rw [ct1]
        rw [bytes1 (by omega)] at e
        have e' : (isR (bt s 0) = true ∧ encR (bt s 0) = [bt s 0]) ↔ bt s 0 < 128 := by
          constructor
          · rintro ⟨-, h2⟩
            unfold encR at h2
            (repeat' split at h2) <;> simp only [List.cons.injEq, reduceCtorEq, and_false, and_true] at h2 <;> omega
          · intro h2
            exact ⟨decide_eq_true (by omega), by unfold encR; rw [if_pos h2]⟩
        have e'' := e.trans e'
        rw [ifc e'']
        by_cases h : bt s 0 < 128
        · rw [if_pos h, if_pos h]; rfl
        · rw [if_neg h, if_neg h]
          by_cases h2 : bt s 0 < 194 ∨ 244 < bt s 0
          · rw [if_pos h2]
          · exfalso; omega
end Go.Proofs.YtffjdidakeinjaaDoor.AS
end
section
set_option autoImplicit false
set_option maxRecDepth 100000
set_option maxHeartbeats 4000000
set_option linter.unusedSimpArgs false
set_option linter.unusedVariables false
namespace Go.Proofs.YtffjdidakeinjaaDoor.AS
open Go Go.Proofs Go.RowKit Go.Proofs.YtffjdidakeinjaaDoor.AS.V
theorem tab_inj : ∀ i j : Fin 32, nth tabWin (i.val : Int) = nth tabWin (j.val : Int) → nth tabWin (i.val : Int) = 65533 ∨ i.val = j.val := by decide +kernel
theorem tab_big : ∀ i : Fin 32, 256 ≤ nth tabWin (i.val : Int) := by decide +kernel
theorem let1 (b : Int) : letS 1 b = if b < 128 then b else 65533 := by unfold letS; (repeat' split) <;> omega
theorem let4 (b : Int) : letS 4 b = if b < 128 then b else lat9 b := by
  unfold letS
  by_cases h : b < 128
  · rw [if_pos h, if_pos h]
  · rw [if_neg h, if_neg h, if_neg (by omega), if_neg (by omega), if_pos rfl]
theorem let5 (b : Int) : letS 5 b = if b < 128 then b else if b < 160 then nth tabWin (b - 128) else b := by
  unfold letS
  by_cases h : b < 128
  · rw [if_pos h, if_pos h]
  · rw [if_neg h, if_neg h, if_neg (by omega)]
    by_cases h2 : b < 160
    · rw [if_pos ⟨rfl, h2⟩, if_pos h2]
    · rw [if_neg (by omega), if_neg h2, if_neg (by omega)]
theorem letO (c b : Int) (h1 : c ≠ 1) (h4 : c ≠ 4) (h5 : c ≠ 5) : letS c b = b := by unfold letS; (repeat' split) <;> omega
theorem lat9_inj {a b : Int} (ha : 128 ≤ a ∧ a ≤ 255) (hb : 128 ≤ b ∧ b ≤ 255) (h : lat9 a = lat9 b) : a = b := by
  have key : ∀ x : Int, 128 ≤ x ∧ x ≤ 255 → ((x = 164 ∧ lat9 x = 8364) ∨ (x = 166 ∧ lat9 x = 352) ∨ (x = 168 ∧ lat9 x = 353) ∨ (x = 180 ∧ lat9 x = 381) ∨ (x = 184 ∧ lat9 x = 382) ∨ (x = 188 ∧ lat9 x = 338) ∨ (x = 189 ∧ lat9 x = 339) ∨ (x = 190 ∧ lat9 x = 376) ∨ lat9 x = x) := by
    intro x hx
    unfold lat9
    (repeat' split) <;> omega
  have ka := key a ha
  have kb := key b hb
  omega
theorem lat9_ge {a : Int} (ha : 128 ≤ a) : 128 ≤ lat9 a := by
  unfold lat9
  (repeat' split) <;> omega
theorem win_ge {a : Int} (ha : 128 ≤ a ∧ a < 160) : 256 ≤ nth tabWin (a - 128) := by
  have := tab_big ⟨(a - 128).toNat, by omega⟩
  rwa [show (((a - 128).toNat : Nat) : Int) = a - 128 by omega] at this
theorem win_inj {a b : Int} (ha : 128 ≤ a ∧ a < 160) (hb : 128 ≤ b ∧ b < 160) (h : nth tabWin (a - 128) = nth tabWin (b - 128)) : nth tabWin (a - 128) = 65533 ∨ a = b := by
  have := tab_inj ⟨(a - 128).toNat, by omega⟩ ⟨(b - 128).toNat, by omega⟩
  simp only at this
  rw [show (((a - 128).toNat : Nat) : Int) = a - 128 by omega, show (((b - 128).toNat : Nat) : Int) = b - 128 by omega] at this
  rcases this h with h | h
  · exact .inl h
  · right; omega
theorem letS_inj {c a b : Int} (ha : 0 ≤ a ∧ a ≤ 255) (hb : 0 ≤ b ∧ b ≤ 255) (h : letS c a = letS c b) (hn : letS c a ≠ 65533) : a = b := by
  by_cases h1 : c = 1
  · subst h1
    rw [let1] at h hn
    rw [let1] at h
    (repeat' split at h) <;> (try rw [if_neg (by assumption)] at hn) <;> omega
  · by_cases h4 : c = 4
    · subst h4
      rw [let4, let4] at h
      by_cases ha1 : a < 128
      · rw [if_pos ha1] at h
        by_cases hb1 : b < 128
        · rwa [if_pos hb1] at h
        · rw [if_neg hb1] at h
          have := lat9_ge (a := b) (by omega)
          omega
      · rw [if_neg ha1] at h
        by_cases hb1 : b < 128
        · rw [if_pos hb1] at h
          have := lat9_ge (a := a) (by omega)
          omega
        · rw [if_neg hb1] at h
          exact lat9_inj (by omega) (by omega) h
    · by_cases h5 : c = 5
      · subst h5
        rw [let5] at hn
        rw [let5, let5] at h
        have wa := win_ge (a := a)
        have wb := win_ge (a := b)
        have wi := win_inj (a := a) (b := b)
        by_cases ha1 : a < 128
        · rw [if_pos ha1] at h
          by_cases hb1 : b < 128
          · rwa [if_pos hb1] at h
          · rw [if_neg hb1] at h
            by_cases hb2 : b < 160
            · rw [if_pos hb2] at h
              have := wb (by omega)
              omega
            · rw [if_neg hb2] at h; exact h
        · rw [if_neg ha1] at h hn
          by_cases ha2 : a < 160
          · rw [if_pos ha2] at h hn
            have := wa (by omega)
            by_cases hb1 : b < 128
            · rw [if_pos hb1] at h; omega
            · rw [if_neg hb1] at h
              by_cases hb2 : b < 160
              · rw [if_pos hb2] at h
                rcases wi (by omega) (by omega) h with h | h
                · exact absurd h hn
                · exact h
              · rw [if_neg hb2] at h; omega
          · rw [if_neg ha2] at h
            by_cases hb1 : b < 128
            · rw [if_pos hb1] at h; omega
            · rw [if_neg hb1] at h
              by_cases hb2 : b < 160
              · rw [if_pos hb2] at h
                have := wb (by omega)
                omega
              · rw [if_neg hb2] at h; exact h
      · rwa [letO c a h1 h4 h5, letO c b h1 h4 h5] at h
/-- The last byte that is a letter's, of some. -/
def atF (c n : Int) : Nat → Int
  | 0 => -1
  | k + 1 => if letS c (k : Int) = n ∧ n ≠ 65533 then (k : Int) else atF c n k
theorem atF_bad (c : Int) : ∀ k : Nat, atF c 65533 k = -1
  | 0 => rfl
  | k + 1 => by rw [atF, if_neg (by omega), atF_bad c k]
theorem atF_no (c n : Int) : ∀ k : Nat, (∀ j : Nat, j < k → letS c (j : Int) ≠ n) → atF c n k = -1
  | 0, _ => rfl
  | k + 1, h => by rw [atF, if_neg (fun e => h k (by omega) e.1), atF_no c n k (fun j hj => h j (by omega))]
theorem atF_is (c n : Int) (hn : n ≠ 65533) (b : Nat) (hb : letS c (b : Int) = n) (hb2 : b < 256) : ∀ k : Nat, k ≤ 256 → b < k → atF c n k = (b : Int)
  | 0, _, h => absurd h (by omega)
  | k + 1, hk, h => by
    rw [atF]
    by_cases e : letS c (k : Int) = n
    · rw [if_pos ⟨e, hn⟩]
      exact letS_inj (c := c) (by omega) (by omega) (e.trans hb.symm) (by rw [e]; exact hn)
    · rw [if_neg (fun x => e x.1)]
      have : b ≠ k := by rintro rfl; exact e hb
      exact atF_is c n hn b hb hb2 k (by omega) (by omega)
/-- The first one and the last one are one. -/
theorem at_eq {c n b1 : Int} {k1 : Bool} (h : byS c n = (b1, k1)) : (atF c n 256 = -1 ∧ k1 = false) ∨ (atF c n 256 = b1 ∧ 0 ≤ b1 ∧ b1 ≤ 255 ∧ letS c b1 = n ∧ k1 = true) := by
  unfold byS at h
  cases hf : (List.range 256).find? (fun b : Nat => decide (letS c (b : Int) = n)) with
  | none =>
    rw [hf] at h
    simp only [Prod.mk.injEq] at h
    rw [List.find?_eq_none] at hf
    refine .inl ⟨atF_no c n 256 fun j hj e => hf j (List.mem_range.2 hj) (decide_eq_true e), h.2.symm⟩
  | some b =>
    rw [hf] at h
    simp only [Prod.mk.injEq] at h
    have hb := List.find?_some hf
    have hm := List.mem_range.1 (List.mem_of_find?_eq_some hf)
    have hb := of_decide_eq_true hb
    by_cases hn : n = 65533
    · subst hn
      exact .inl ⟨atF_bad c 256, by rw [← h.2]; rfl⟩
    · refine .inr ⟨(atF_is c n hn b hb hm 256 (by omega) hm).trans h.1, by omega, by omega, by rw [← h.1]; exact hb, by rw [← h.2]; exact decide_eq_true hn⟩
end Go.Proofs.YtffjdidakeinjaaDoor.AS
end
section
set_option autoImplicit false
set_option maxRecDepth 100000
set_option maxHeartbeats 4000000
set_option linter.unusedSimpArgs false
set_option linter.unusedVariables false
namespace Go.Proofs.YtffjdidakeinjaaDoor.AS
open Go Go.Proofs Go.RowKit Go.Proofs.YtffjdidakeinjaaDoor.AS.V
theorem bt_of {s : ByteArray} {l : List Int} (h : bytesOf s = l) {i : Nat} (hi : i < l.length) : bt s (i : Int) = l[i] := by
  subst h
  exact (bytesOf_get s i (by rwa [bytesOf_length] at hi)).symm
theorem size_of {s : ByteArray} {l : List Int} (h : bytesOf s = l) : s.size = l.length := by rw [← h, bytesOf_length]
/-- A letter's bytes, whatever stands behind them, begin with it. -/
theorem decS_enc {s : ByteArray} {n : Int} {R : List Int} (hn : isR n = true) (h : bytesOf s = encR n ++ R) : decS s = (n, ((encR n).length : Int)) := by
  have hr := of_decide_eq_true hn
  have hl := encR_len n
  have hsz := size_of h
  rw [List.length_append] at hsz
  have hex : strOfNums (encR n) = s.extract 0 (encR n).length := by
    apply bytesOf_inj
    rw [bytesOf_strOf (encR_range hn), bytesOf_extract s 0 _ (by omega), List.drop_zero, h, List.take_append_of_le_length (Nat.le_refl _), List.take_length]
  have key : ∀ (b : Int) (m : Nat), (encR n).length = m → ctS s b (m - 1) = n → nextF s b m = (n, (m : Int)) := by
    intro b m hm hc
    subst hm
    rw [nextF_ok (by omega) (by rw [hc]; exact hn) (by rw [hc]; exact fun e => e hex), hc]
  rw [← rnext_eq (by omega)]
  unfold rnextS
  by_cases h1 : n < 128
  · have e : encR n = [n] := by unfold encR; rw [if_pos h1]
    rw [e] at h key ⊢
    have b0 : bt s 0 = n := bt_of h (i := 0) (by simp)
    rw [if_neg (by omega), if_neg (by omega), if_neg (by omega), b0]
    exact key n 1 rfl rfl
  · by_cases h2 : n < 2048
    · have e : encR n = [192 + n / 64, 128 + n % 64] := by unfold encR; rw [if_neg h1, if_pos h2]
      rw [e] at h key ⊢
      have b0 : bt s 0 = 192 + n / 64 := bt_of h (i := 0) (by simp)
      have b1 : bt s 1 = 128 + n % 64 := bt_of h (i := 1) (by simp)
      rw [if_pos (by omega)]
      exact key _ 2 rfl (by rw [ct2, b0, b1]; omega)
    · by_cases h3 : n < 65536
      · have e : encR n = [224 + n / 4096, 128 + n / 64 % 64, 128 + n % 64] := by unfold encR; rw [if_neg h1, if_neg h2, if_pos h3]
        rw [e] at h key ⊢
        have b0 : bt s 0 = 224 + n / 4096 := bt_of h (i := 0) (by simp)
        have b1 : bt s 1 = 128 + n / 64 % 64 := bt_of h (i := 1) (by simp)
        have b2 : bt s 2 = 128 + n % 64 := bt_of h (i := 2) (by simp)
        rw [if_neg (by omega), if_pos (by omega)]
        exact key _ 3 rfl (by rw [ct3, b0, b1, b2]; omega)
      · have e : encR n = [240 + n / 262144, 128 + n / 4096 % 64, 128 + n / 64 % 64, 128 + n % 64] := by unfold encR; rw [if_neg h1, if_neg h2, if_neg h3]
        rw [e] at h key ⊢
        have b0 : bt s 0 = 240 + n / 262144 := bt_of h (i := 0) (by simp)
        have b1 : bt s 1 = 128 + n / 4096 % 64 := bt_of h (i := 1) (by simp)
        have b2 : bt s 2 = 128 + n / 64 % 64 := bt_of h (i := 2) (by simp)
        have b3 : bt s 3 = 128 + n % 64 := bt_of h (i := 3) (by simp)
        rw [if_neg (by omega), if_neg (by omega), if_pos (by omega)]
        exact key _ 4 rfl (by rw [ct4, b0, b1, b2, b3]; omega)
theorem encs_range : ∀ {L : List Int}, L.all isR = true → ∀ c ∈ L.flatMap encR, 0 ≤ c ∧ c ≤ 255
  | [], _ => by simp
  | x :: L, h => by
    simp only [List.all_cons, Bool.and_eq_true] at h
    intro c hc
    rw [List.flatMap_cons, List.mem_append] at hc
    rcases hc with hc | hc
    · exact encR_range h.1 c hc
    · exact encs_range h.2 c hc
theorem lettersF_enc : ∀ (L : List Int) (k : Nat) (s : ByteArray), L.all isR = true → bytesOf s = L.flatMap encR → s.size ≤ k → lettersF k s = L
  | [], k, s, _, h, _ => lettersF_nil k (bytesOf_inj (by rw [h]; rfl))
  | x :: L, k, s, hL, h, hk => by
    simp only [List.all_cons, Bool.and_eq_true] at hL
    rw [List.flatMap_cons] at h
    have hl := encR_len x
    have hsz := size_of h
    rw [List.length_append] at hsz
    have hne : s ≠ ⟨#[]⟩ := by rintro rfl; simp [ByteArray.size] at hsz; omega
    have hd := decS_enc hL.1 h
    obtain ⟨k, rfl⟩ : ∃ k2, k = k2 + 1 := ⟨k - 1, by omega⟩
    rw [lettersF, if_neg hne, hd]
    congr 1
    refine lettersF_enc L k _ hL.2 ?_ ?_
    · simp only
      rw [bytesOf_extract s _ s.size (Nat.le_refl _), List.take_of_length_le (by rw [bytesOf_length]; exact Nat.le_refl _), h]
      exact List.drop_left' (by omega)
    · rw [ByteArray.size_extract]; simp only; omega
/-- Letters' bytes have the letters. -/
theorem lettersS_enc {L : List Int} (h : L.all isR = true) : lettersS (strOfNums (L.flatMap encR)) = L :=
  lettersF_enc L _ _ h (bytesOf_strOf (encs_range h)) (Nat.le_refl _)
theorem putR_map : ∀ L : List Int, L.flatMap putR = (L.map okR).flatMap encR
  | [] => rfl
  | x :: L => by rw [List.flatMap_cons, putR_map L, List.map_cons, List.flatMap_cons]; rfl
theorem okR_all (L : List Int) : (L.map okR).all isR = true := by
  rw [List.all_eq_true]
  intro x hx
  obtain ⟨y, _, rfl⟩ := List.mem_map.1 hx
  exact okR_ok y
theorem letters_utf8 (L : List Int) : lettersS (utf8S L) = L.map okR := by
  unfold utf8S
  rw [putR_map]
  exact lettersS_enc (okR_all L)
theorem strOf_size (L : List Int) : (strOfNums L).size = L.length := strOfNums_size L
theorem utf8S_size (L : List Int) : (utf8S L).size ≤ 4 * L.length := by
  unfold utf8S
  rw [strOf_size]
  exact flat_le putR_le L
theorem name_cases (c : Int) : (nameS c).2 = 0 ∨ (nameS c).2 = 14 := by
  unfold nameS; split
  · right; rfl
  · left; rfl
theorem enc1 {c : Int} (h2 : c ≠ 2) : ∀ {L : List Int}, L.all (okE c) = true → (L.flatMap (bytE c)).length = L.length ∧ (∀ x ∈ L.flatMap (bytE c), 0 ≤ x ∧ x ≤ 255) ∧ (L.flatMap (bytE c)).map (letS c) = L
  | [], _ => ⟨rfl, by simp, rfl⟩
  | x :: L, h => by
    simp only [List.all_cons, Bool.and_eq_true] at h
    obtain ⟨i1, i2, i3⟩ := enc1 h2 h.2
    obtain ⟨b1, k1, hb1⟩ : ∃ b1 k1, byS c x = (b1, k1) := ⟨_, _, rfl⟩
    have hk : k1 = true := by
      have := h.1
      unfold okE at this
      rw [hb1] at this
      simpa [h2] using (Bool.and_eq_true_iff.1 this).2
    rcases at_eq hb1 with ⟨_, e⟩ | ⟨_, e1, e2, e3, _⟩
    · rw [hk] at e; cases e
    · have hb : bytE c x = [b1] := by unfold bytE; rw [if_neg h2, hb1]
      rw [List.flatMap_cons, hb]
      refine ⟨by rw [List.length_append, i1, List.length_cons, List.length_nil, List.length_cons]; omega, ?_, ?_⟩
      · intro y hy
        rcases List.mem_append.1 hy with hy | hy
        · simp at hy; subst hy; exact ⟨e1, e2⟩
        · exact i2 y hy
      · rw [List.map_append, i3, List.map_cons, List.map_nil, e3]; rfl
theorem enc2 : ∀ {L : List Int}, L.all (okE 2) = true → L.all isR = true ∧ L.flatMap (bytE 2) = L.flatMap encR
  | [], _ => ⟨rfl, rfl⟩
  | x :: L, h => by
    simp only [List.all_cons, Bool.and_eq_true] at h
    obtain ⟨i1, i2⟩ := enc2 h.2
    have hx : isR x = true := by
      have := h.1
      unfold okE at this
      exact (Bool.and_eq_true_iff.1 this).1
    exact ⟨by simp only [List.all_cons, hx, i1, Bool.and_self], by rw [List.flatMap_cons, i2, List.flatMap_cons]; rfl⟩
/-- What is encoded is decoded. -/
theorem dec_enc {c : Int} {L : List Int} (h : (encoS c L).2 = 0) : decodeS c (encoS c L).1 = (L, 0) ∧ (c ≠ 2 → (encoS c L).1.size = L.length) ∧ (c = 2 → lettersS (encoS c L).1 = L) ∧ (encoS c L).1.size ≤ 4 * L.length := by
  unfold encoS at h ⊢
  by_cases hz : (nameS c).2 ≠ 0
  · rw [if_pos hz] at h; exact absurd h hz
  · rw [if_neg hz] at h ⊢
    by_cases ha : L.all (okE c) = true
    · rw [if_pos ha]
      simp only
      unfold decodeS
      rw [if_neg hz]
      by_cases h2 : c = 2
      · subst h2
        obtain ⟨e1, e2⟩ := enc2 ha
        rw [if_pos rfl, e2, lettersS_enc e1]
        exact ⟨rfl, fun e => absurd rfl e, fun _ => rfl, by rw [strOf_size]; exact flat_le (fun n => (encR_len n).2) L⟩
      · obtain ⟨i1, i2, i3⟩ := enc1 h2 ha
        rw [if_neg h2, bytesOf_strOf i2, i3]
        exact ⟨rfl, fun _ => by rw [strOf_size, i1], fun e => absurd e h2, by rw [strOf_size, i1]; omega⟩
    · rw [if_neg ha] at h; cases h
end Go.Proofs.YtffjdidakeinjaaDoor.AS
end
section
set_option autoImplicit false
set_option maxHeartbeats 1000000
set_option linter.unusedSimpArgs false
set_option linter.unusedVariables false
namespace Go.Proofs.YtffjdidakeinjaaDoor.AS
open Go Go.Proofs Go.RowKit Go.Proofs.YtffjdidakeinjaaDoor.AS.V
theorem HX_print : ∀ i : Fin 16, 48 ≤ bt HX (i.val : Int) ∧ bt HX (i.val : Int) ≤ 70 := by decide +kernel
theorem HX_print' {x : Int} (h0 : 0 ≤ x) (h1 : x < 16) : 48 ≤ bt HX x ∧ bt HX x ≤ 70 := by
  have := HX_print ⟨x.toNat, by omega⟩
  rwa [show ((x.toNat : Nat) : Int) = x by omega] at this
theorem qc_print {c : Int} (h : 0 ≤ c ∧ c ≤ 255) (l : Bool) : ∀ x ∈ qc c l, (32 ≤ x ∧ x ≤ 126) ∨ x = 10 := by
  intro x hx
  have h1 := HX_print' (x := c / 16) (by omega) (by omega)
  have h2 := HX_print' (x := c % 16) (by omega) (by omega)
  unfold qc at hx
  split at hx
  · simp only [List.mem_singleton] at hx
    subst hx
    omega
  · simp only [List.mem_cons, List.not_mem_nil, or_false] at hx
    omega
/-- What is written quoted-printable is printable. -/
theorem qpL_print : ∀ L : List Int, (∀ c ∈ L, 0 ≤ c ∧ c ≤ 255) → ∀ x ∈ qpL L, (32 ≤ x ∧ x ≤ 126) ∨ x = 10
  | [], _, x, hx => by rw [qpL] at hx; cases hx
  | c :: r, h, x, hx => by
    rw [qpL] at hx
    rcases List.mem_append.1 hx with hx | hx
    · exact qc_print (h c (by simp)) _ x hx
    · exact qpL_print r (fun d hd => h d (by simp [hd])) x hx
theorem qc_len1 (c : Int) (l : Bool) : 1 ≤ (qc c l).length := by unfold qc; split <;> simp
theorem qpL_len : ∀ L : List Int, L.length ≤ (qpL L).length ∧ (qpL L).length ≤ 3 * L.length
  | [] => by rw [qpL]; simp
  | c :: r => by
    have ih := qpL_len r
    have h1 := qc_len1 c (lastL r)
    have h2 := qc_len c (lastL r)
    rw [qpL, List.length_append, List.length_cons]; omega
end Go.Proofs.YtffjdidakeinjaaDoor.AS
end
