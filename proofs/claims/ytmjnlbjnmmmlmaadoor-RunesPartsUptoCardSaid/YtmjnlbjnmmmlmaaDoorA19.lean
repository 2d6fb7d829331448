/- Of our own: an abstract machine beside the model, its soundness, and walks of the program in it. -/
import Derived.Test.YtmjnlbjnmmmlmaaDoorA18
import Derived.Test.YtmjnlbjnmmmlmaaDoorA8
import Derived.Deep.DeepHandedRow
import Derived.Lib.LaidTab
import Derived.Test.YtmjnlbjnmmmlmaaDoorA13
import Derived.Test.YtmjnlbjnmmmlmaaDoorRows
set_option linter.unusedSimpArgs false
set_option linter.unusedVariables false
section
set_option autoImplicit false
set_option maxRecDepth 100000
set_option maxHeartbeats 4000000
set_option linter.unusedSimpArgs false
set_option linter.unusedVariables false
namespace Go.Proofs.YtmjnlbjnmmmlmaaDoor.AS
open Go Go.Proofs Go.RowKit Go.Proofs.YtmjnlbjnmmmlmaaDoor.AS.V

theorem lettersF_more {s : ByteArray} {k : Nat} {s' : ByteArray} {O : List Int} (hl : O ++ lettersF k s' = lettersS s) (hne : s' ≠ ⟨#[]⟩) (hk : 1 ≤ k) : O.length + 1 ≤ (lettersS s).length := by
  obtain ⟨k, rfl⟩ : ∃ k2, k = k2 + 1 := ⟨k - 1, by omega⟩
  rw [lettersF, if_neg hne] at hl
  rw [← hl, List.length_append, List.length_cons]; omega
theorem lettersF_len : ∀ (k : Nat) (s : ByteArray), s.size ≤ k → (lettersF k s).length ≤ s.size
  | 0, s, _ => by rw [lettersF]; exact Nat.zero_le _
  | k + 1, s, h => by
    rw [lettersF]
    by_cases he : s = ⟨#[]⟩
    · rw [if_pos he]; exact Nat.zero_le _
    · rw [if_neg he, List.length_cons]
      have hw := decS_w he
      have hsz : (s.extract (decS s).2.toNat s.size).size = s.size - (decS s).2.toNat := by rw [ByteArray.size_extract]; omega
      have := lettersF_len k (s.extract (decS s).2.toNat s.size) (by omega)
      omega
theorem lettersS_len (s : ByteArray) : (lettersS s).length ≤ s.size := lettersF_len _ s (Nat.le_refl _)
theorem letters2_FR (h : Heap) (s : ByteArray) (hs : s.size ≤ 140737488355328) (hll : (lettersS s).length ≤ 35184372088831) :
    FR Tryd.prog TT 17 [.s (.string s)] h fun y H => Out (encI .i32) 21 h H y (lettersS s) := by
  refine FR.of q17 (by kernel_rfl) ?_
  unfold c17
  repeat' (first
    | (refine WO.mvE out rfl ?_)
    | (refine WO.boxT (C := [_, _, _]) rfl (fun b H1 hb g1 ob => ?_))
    | (refine W.loopI (σ := Nat × ByteArray × AV × List Int) (fun σ => [(3, σ.2.2.1), (4, .pt b 0 0)]) (fun σ h' => Out (encI .i32) 21 h h' σ.2.2.1 σ.2.2.2 ∧ ObjT h' b 51 [.s (.pointer none), .s (.slice none 0 0), .s (.string σ.2.1)] ∧ bo σ.2.2.1 ≠ some b ∧ σ.2.2.2 ++ lettersF σ.1 σ.2.1 = lettersS s ∧ σ.2.1.size ≤ σ.1 ∧ σ.2.1.size ≤ s.size) (fun σ => σ.1) (s.size, s, .s (.slice none 0 0), []) ⟨rfl, rfl, trivial⟩ ⟨Out.nil g1, ob, (by simp [bo]), rfl, Nat.le_refl _, Nat.le_refl _⟩ ?_; rintro ⟨k, s', out, O⟩ G h' ⟨ho, ot, hbo, hl, hk, hz⟩; dsimp only at ho ot hbo hl hk hz ⊢; have ob' := ot.o)
    | (refine WO.call rfl (next_FR ot (by omega) (by assumption)) ?_; rintro _ H2 ⟨rfl, H1', g1', u1, ot2⟩; have out2 : Out (encI .i32) 21 h H2 out O := ⟨u1.grows (ho.g.trans g1') hb, (ho.o.grows g1').upd u1 hbo, ho.nw⟩)
    | (refine WO.bslI rfl rfl (fun a1 H3 g3 o3 nw3 => ?_))
    | (have hp := size_pos (s := s') (by assumption); have hol : O.length + 1 ≤ (lettersS s).length := lettersF_more hl (by assumption) (by omega); refine WO.appO (out2.grows g3) o3.row rfl (encI_ok _ _) (by simp only [List.length_cons, List.length_nil]; omega) (by simp only [List.length_cons, List.length_nil]; omega) (fun a2 H4 out4 ap => ?_))
    | (refine LQ.fin ?_)
    | (refine EQ.fin rfl ?_)
    | (refine WO.mvs rfl ?_)
    | (refine WO.mvp rfl ?_)
    | (refine WO.mvt rfl ?_)
    | (refine WO.mv ?_)
    | (refine W.sreg ?_)
    | (refine W.sdraw ?_)
    | (refine W.reg ?_)
    | (refine W.draw ?_)
    | (refine WO.nil ?_)
    | (refine WO.gU rfl ?_)
    | (refine WO.gT rfl rfl ?_)
    | (refine WO.gF rfl rfl ?_)
    | (refine WO.ext rfl rfl ?_)
    | (refine WO.lenR (by assumption) ?_)
    | (refine WO.add rfl rfl (by first | exact wrOK (by simp only [loK, hiK]; omega) | rfl) ?_)
    | (refine WO.sub rfl rfl (by first | exact wrOK (by simp only [loK, hiK]; omega) | rfl) ?_)
    | (refine WO.lss rfl rfl ?_)
    | (refine WO.leq rfl rfl ?_)
    | (refine WO.gtr rfl rfl ?_)
    | (refine WO.geq rfl rfl ?_)
    | (refine WO.eql rfl rfl ?_)
    | (refine WO.neq rfl rfl ?_)
    | (refine WO.seql rfl rfl ?_)
    | (refine WO.sneq rfl rfl ?_)
    | (refine WO.beql rfl rfl (tb rfl) ?_)
    | (refine WO.bneq rfl rfl (tb rfl) ?_)
    | (refine WO.not rfl ?_)
    | (refine WO.not0 rfl ?_)
    | (refine WO.cvi rfl (kd rfl) (kd rfl) (by first | exact wrOK (by simp only [loK, hiK]; omega) | rfl) ?_)
    | (refine WO.cvs rfl (st rfl) (st rfl) ?_)
    | (refine WO.ix rfl rfl (st rfl) (by first | assumption | omega) (by first | assumption | omega) ?_)
    | (refine WO.slen rfl (st rfl) ?_)
    | (refine WO.iaddr (by assumption) rfl rfl (by first | assumption | omega) (by first | assumption | omega) (fun q hq => ?_))
    | (refine WO.load (by assumption) rfl rfl ?_)
    | (refine WO.loadO rfl (by assumption) rfl rfl ?_)
    | (refine WO.faddrP (by assumption) rfl (fun q hq => ?_))
    | (refine WO.nilckP (by assumption) ?_)
    | (refine WO.nilck rfl ?_)
    | (refine WO.faddr rfl ?_)
    | (refine WO.fld rfl rfl rfl ?_)
    | (refine WO.pickT rfl ?_)
    | (refine WO.pickF rfl ?_)
    | (refine WO.sll rfl rfl (st rfl) (by first | assumption | omega) (by first | assumption | omega) ?_)
    | (refine WO.slh rfl rfl (st rfl) (by first | assumption | omega) (by first | assumption | omega) ?_)
    | (refine WO.slb rfl rfl rfl (st rfl) (by first | assumption | omega) (by first | assumption | omega) (by first | assumption | omega) ?_)
    | (refine WO.mul rfl rfl (by first | exact wrOK (by simp only [loK, hiK]; omega) | rfl) ?_)
    | (refine WO.quo rfl rfl (by first | assumption | omega) (by first | exact wrOK (by simp only [loK, hiK]; omega) | rfl) ?_)
    | (refine WO.rem rfl rfl (by first | assumption | omega) ?_)
    | (refine WO.and rfl rfl ?_)
    | (refine WO.or rfl rfl ?_)
    | (refine WO.xor rfl rfl ?_)
    | (refine WO.shl rfl rfl (by first | assumption | omega) (by simp [IntKind.bits]; rfl) ?_)
    | (refine WO.shr rfl rfl (by first | assumption | omega) (by simp [IntKind.bits]; rfl) ?_)
    | (refine WO.build (C := [_]) rfl ?_)
    | (refine WO.build (C := [_, _]) rfl ?_)
    | (refine WO.build (C := [_, _, _]) rfl ?_)
    | (refine WO.build (C := [_, _, _, _]) rfl ?_)
    | (refine WO.build (C := [_, _, _, _, _]) rfl ?_)
    | (refine WO.build (C := [_, _, _, _, _, _]) rfl ?_)
    | (refine WO.build (C := [_, _, _, _, _, _, _]) rfl ?_)
    | (refine WO.eqnil (by assumption) (fun hn1 hn2 => ?_) ?_)
    | (refine W.condT rfl ?_)
    | (refine W.condF rfl ?_)
    | (refine W.condDT rfl (by first | assumption | omega) ?_)
    | (refine W.condDF rfl (by first | assumption | omega) ?_)
    | (refine W.condD rfl (fun hc => ?_) (fun hc => ?_))
    | (refine WO.gS rfl (fun hc => ?_) (fun hc => ?_) <;> try (exfalso; omega))
    | (refine WO.pickS rfl (fun hc => ?_) (fun hc => ?_) <;> try (exfalso; omega))
    | (refine W.skip ?_)
    | (refine W.block ?_)
    | (refine W.drawA rfl ?_)
    | (refine W.sdrawA rfl ?_)
    | (refine And.intro rfl ?_)
    | (refine W.exit ?_)
    | (refine W.ret ?_)
    | (refine W.seq ?_)
    | (refine W.goto ?_)
    | (refine W.label ?_)
    | (refine SQ.nn ?_)
    | (refine SQ.x ?_)
    | (refine SQ.r ?_)
    | (refine SQ.g ?_)
    | (refine BQ.nn ?_)
    | (refine BQ.x ?_)
    | (refine BQ.r ?_)
    | (refine BQ.g ?_)
    | (refine BQ.y rfl ?_)
    | (refine LQ.x ?_)
    | (refine LQ.r ?_)
    | (refine LQ.g ?_)
    | (refine GQ.nn ?_)
    | (refine GQ.x ?_)
    | (refine GQ.r ?_))
  · have hne : s' ≠ ⟨#[]⟩ := by assumption
    have hw := decS_w hne
    have hlt : b < H3.length := by have := ot2.lt; have := g3.len; omega
    have hnb : bo a2 ≠ some b := ap.ne hlt hbo
    have ot4 : ObjT H4 b 51 _ := (ot2.grows g3).ap ap hbo
    obtain ⟨k, rfl⟩ : ∃ k2, k = k2 + 1 := ⟨k - 1, by omega⟩
    rw [lettersF, if_neg hne] at hl
    have hsz : (s'.extract (decS s').2.toNat s'.size).size = s'.size - (decS s').2.toNat := by rw [ByteArray.size_extract]; omega
    refine ⟨(k, _, a2, O ++ [(decS s').1]), by dsimp only; omega, ⟨rfl, rfl, trivial⟩, out4, ot4, hnb, ?_, ?_, ?_⟩
    · dsimp only; rw [List.append_assoc]; exact hl
    · show (s'.extract (decS s').2.toNat s'.size).size ≤ k
      rw [hsz]; omega
    · show (s'.extract (decS s').2.toNat s'.size).size ≤ s.size
      rw [hsz]; omega
  · rw [lettersF_nil k (Classical.not_not.1 (by assumption)), List.append_nil] at hl
    subst hl
    exact ⟨ho⟩
theorem dcd2_FR (h : Heap) (c : Int) (s : ByteArray) (hs : s.size ≤ 140737488355328) (h2 : c ≠ 2 → s.size ≤ 35184372088831) (hll : c = 2 → (lettersS s).length ≤ 35184372088831) :
    FR Tryd.prog TT 14 [.s (.int .u8 c), .s (.string s)] h fun y H => ∃ a, y = .tp [a, .s (.int .i64 (decodeS c s).2)] ∧ Grows h H ∧ Row (encI .i32) H a (decodeS c s).1 := by
  have hlen := bytesOf_length s
  have hk := name_FR h c
  unfold decodeS
  generalize nameS c = nm at *
  have hg := Grows.refl h
  have hbt := bt_range s
  refine FR.of q14 (by kernel_rfl) ?_
  unfold c14
  repeat' (first
    | (refine WO.mvE (.sl b 0 0 s.size 1) rfl ?_)
    | (refine WO.call rfl hk ?_; rintro _ H ⟨rfl, hH⟩; obtain rfl := hH.symm)
    | (refine WO.call rfl (letters2_FR _ s hs (hll (by assumption))) ?_; rintro a H out)
    | (refine WO.mvE a rfl ?_)
    | (have hs2 := h2 (by assumption); refine WO.makeO (kk := .i32) (v := 0) rfl rfl (by omega) rfl (by omega) (by omega) (fun b H1 hb g1 ob => ?_))
    | (refine W.loopI (σ := Nat) (fun i => [(0, .s (.int .u8 c)), (1, .s (.string s)), (8, .sl b 0 0 s.size 1), (26, .s (.int .i64 s.size)), (27, .s (.int .i64 i))]) (fun i h' => Obj h' b (((((bytesOf s).take i).map (letS c)) ++ List.replicate ((bytesOf s).length - i) 0).map fun q => .s (.int .i32 q)) ∧ Grows h h' ∧ i ≤ s.size) (fun i => s.size - i) 0 ⟨rfl, rfl, rfl, rfl, rfl, trivial⟩ ⟨(by rw [hlen]; exact ob), g1, Nat.zero_le _⟩ ?_; rintro i G h' ⟨ob2, g2, hi⟩; have hb1 := (hbt (i : Int)).1; have hb2 := (hbt (i : Int)).2)
    | (refine WO.call rfl (let_FR _ c (bt s (i : Int)) hb1 hb2) ?_; rintro _ H ⟨rfl, hH⟩; obtain rfl := hH.symm)
    | (refine WO.iaddrO rfl rfl (by omega) (by omega) ?_)
    | (refine WO.storeO (C' := (((bytesOf s).take (i + 1)).map (letS c) ++ List.replicate ((bytesOf s).length - (i + 1)) 0).map fun q => .s (.int .i32 q)) rfl ob2 rfl rfl rfl (Nat.ble_eq_true_of_le (by simp only [List.length_map, List.length_append, List.length_take, List.length_replicate]; omega)) (by rw [show 0 + ((i : Int)).toNat * 1 = i by simp, ← fillUp (B := bytesOf s) (f := letS c) (i := i) (by omega), nth_bytes (by omega)]; simp only [List.map_append, List.map_cons, List.map_nil, List.map_take, List.map_drop]) (fun H3 ob3 u3 => ?_))
    | (refine LQ.fin ?_)
    | (refine EQ.fin rfl ?_)
    | (refine WO.mvs rfl ?_)
    | (refine WO.mvp rfl ?_)
    | (refine WO.mvt rfl ?_)
    | (refine WO.mv ?_)
    | (refine W.sreg ?_)
    | (refine W.sdraw ?_)
    | (refine W.reg ?_)
    | (refine W.draw ?_)
    | (refine WO.nil ?_)
    | (refine WO.gU rfl ?_)
    | (refine WO.gT rfl rfl ?_)
    | (refine WO.gF rfl rfl ?_)
    | (refine WO.ext rfl rfl ?_)
    | (refine WO.lenR (by assumption) ?_)
    | (refine WO.add rfl rfl (by first | exact wrOK (by simp only [loK, hiK]; omega) | rfl) ?_)
    | (refine WO.sub rfl rfl (by first | exact wrOK (by simp only [loK, hiK]; omega) | rfl) ?_)
    | (refine WO.lss rfl rfl ?_)
    | (refine WO.leq rfl rfl ?_)
    | (refine WO.gtr rfl rfl ?_)
    | (refine WO.geq rfl rfl ?_)
    | (refine WO.eql rfl rfl ?_)
    | (refine WO.neq rfl rfl ?_)
    | (refine WO.seql rfl rfl ?_)
    | (refine WO.sneq rfl rfl ?_)
    | (refine WO.beql rfl rfl (tb rfl) ?_)
    | (refine WO.bneq rfl rfl (tb rfl) ?_)
    | (refine WO.not rfl ?_)
    | (refine WO.not0 rfl ?_)
    | (refine WO.cvi rfl (kd rfl) (kd rfl) (by first | exact wrOK (by simp only [loK, hiK]; omega) | rfl) ?_)
    | (refine WO.cvs rfl (st rfl) (st rfl) ?_)
    | (refine WO.ix rfl rfl (st rfl) (by first | assumption | omega) (by first | assumption | omega) ?_)
    | (refine WO.slen rfl (st rfl) ?_)
    | (refine WO.iaddr (by assumption) rfl rfl (by first | assumption | omega) (by first | assumption | omega) (fun q hq => ?_))
    | (refine WO.load (by assumption) rfl rfl ?_)
    | (refine WO.loadO rfl (by assumption) rfl rfl ?_)
    | (refine WO.faddrP (by assumption) rfl (fun q hq => ?_))
    | (refine WO.nilckP (by assumption) ?_)
    | (refine WO.nilck rfl ?_)
    | (refine WO.faddr rfl ?_)
    | (refine WO.fld rfl rfl rfl ?_)
    | (refine WO.pickT rfl ?_)
    | (refine WO.pickF rfl ?_)
    | (refine WO.sll rfl rfl (st rfl) (by first | assumption | omega) (by first | assumption | omega) ?_)
    | (refine WO.slh rfl rfl (st rfl) (by first | assumption | omega) (by first | assumption | omega) ?_)
    | (refine WO.slb rfl rfl rfl (st rfl) (by first | assumption | omega) (by first | assumption | omega) (by first | assumption | omega) ?_)
    | (refine WO.mul rfl rfl (by first | exact wrOK (by simp only [loK, hiK]; omega) | rfl) ?_)
    | (refine WO.quo rfl rfl (by first | assumption | omega) (by first | exact wrOK (by simp only [loK, hiK]; omega) | rfl) ?_)
    | (refine WO.rem rfl rfl (by first | assumption | omega) ?_)
    | (refine WO.and rfl rfl ?_)
    | (refine WO.or rfl rfl ?_)
    | (refine WO.xor rfl rfl ?_)
    | (refine WO.shl rfl rfl (by first | assumption | omega) (by simp [IntKind.bits]; rfl) ?_)
    | (refine WO.shr rfl rfl (by first | assumption | omega) (by simp [IntKind.bits]; rfl) ?_)
    | (refine WO.build (C := [_]) rfl ?_)
    | (refine WO.build (C := [_, _]) rfl ?_)
    | (refine WO.build (C := [_, _, _]) rfl ?_)
    | (refine WO.build (C := [_, _, _, _]) rfl ?_)
    | (refine WO.build (C := [_, _, _, _, _]) rfl ?_)
    | (refine WO.build (C := [_, _, _, _, _, _]) rfl ?_)
    | (refine WO.build (C := [_, _, _, _, _, _, _]) rfl ?_)
    | (refine WO.eqnil (by assumption) (fun hn1 hn2 => ?_) ?_)
    | (refine W.condT rfl ?_)
    | (refine W.condF rfl ?_)
    | (refine W.condDT rfl (by first | assumption | omega) ?_)
    | (refine W.condDF rfl (by first | assumption | omega) ?_)
    | (refine W.condD rfl (fun hc => ?_) (fun hc => ?_))
    | (refine WO.gS rfl (fun hc => ?_) (fun hc => ?_) <;> try (exfalso; omega))
    | (refine WO.pickS rfl (fun hc => ?_) (fun hc => ?_) <;> try (exfalso; omega))
    | (refine W.skip ?_)
    | (refine W.block ?_)
    | (refine W.drawA rfl ?_)
    | (refine W.sdrawA rfl ?_)
    | (refine And.intro rfl ?_)
    | (refine W.exit ?_)
    | (refine W.ret ?_)
    | (refine W.seq ?_)
    | (refine W.goto ?_)
    | (refine W.label ?_)
    | (refine SQ.nn ?_)
    | (refine SQ.x ?_)
    | (refine SQ.r ?_)
    | (refine SQ.g ?_)
    | (refine BQ.nn ?_)
    | (refine BQ.x ?_)
    | (refine BQ.r ?_)
    | (refine BQ.g ?_)
    | (refine BQ.y rfl ?_)
    | (refine LQ.x ?_)
    | (refine LQ.r ?_)
    | (refine LQ.g ?_)
    | (refine GQ.nn ?_)
    | (refine GQ.x ?_)
    | (refine GQ.r ?_))
  · exact ⟨.s (.slice none 0 0), by rw [if_pos hc]; rfl, hg, by rw [if_pos hc]; exact Or.inl ⟨rfl, rfl⟩⟩
  · have hz : ¬ nm.2 ≠ 0 := by assumption
    exact ⟨a, by rw [if_neg hz, if_pos hc]; rfl, out.g, by rw [if_neg hz, if_pos hc]; exact out.row⟩
  · exact ⟨i + 1, by omega, ⟨rfl, rfl, rfl, rfl, rfl, trivial⟩, ob3, u3.grows g2 hb, by omega⟩
  · have hz : ¬ nm.2 ≠ 0 := by assumption
    have h2' : ¬ c = 2 := by assumption
    obtain rfl : i = s.size := by omega
    rw [← hlen, Nat.sub_self, List.replicate_zero, List.append_nil, List.take_length] at ob2
    have ro := ob2.rowI
    rw [List.length_map, hlen] at ro
    exact ⟨.sl b 0 0 s.size 1, by rw [if_neg hz, if_neg h2']; rfl, g2, by rw [if_neg hz, if_neg h2']; exact ro⟩
end Go.Proofs.YtmjnlbjnmmmlmaaDoor.AS
end
section
set_option autoImplicit false
set_option maxRecDepth 100000
set_option maxHeartbeats 4000000
set_option linter.unusedSimpArgs false
set_option linter.unusedVariables false
namespace Go.Proofs.YtmjnlbjnmmmlmaaDoor.AS
open Go Go.Proofs Go.RowKit Go.Proofs.YtmjnlbjnmmmlmaaDoor.AS.V

theorem v9 : namedS (greatS ⟨#[76, 97, 116, 105, 110, 57]⟩) = (4, 0) := by decide +kernel
theorem vk : namedS (greatS ⟨#[107, 111, 105, 56, 45, 114]⟩) = (0, 14) := by decide +kernel
theorem v11 : nameS 4 = (⟨#[73, 83, 79, 45, 56, 56, 53, 57, 45, 49, 53]⟩, 0) := by decide +kernel
theorem v14 : decodeS 5 ⟨#[97, 128, 129]⟩ = ([97, 8364, 65533], 0) := by decide +kernel
theorem v19 : encoS 4 [8364, 233] = (⟨#[164, 233]⟩, 0) := by decide +kernel
theorem v19b : encoS 4 [945] = (⟨#[]⟩, 7) := by decide +kernel
theorem v21 : utf8S [233, -1] = ⟨#[195, 169, 239, 191, 189]⟩ := by decide +kernel
theorem v17 : lettersS ⟨#[195, 169, 255]⟩ = [233, 65533] := by decide +kernel
theorem l9 (h : Heap) : FR Tryd.prog TT 9 [.s (.string ⟨#[76, 97, 116, 105, 110, 57]⟩)] h fun x H => x = .tp [.s (.int .u8 4), .s (.int .i64 0)] ∧ Grows h H := by
  have k := named_FR h ⟨#[76, 97, 116, 105, 110, 57]⟩ (by decide)
  rwa [v9] at k
theorem lk (h : Heap) : FR Tryd.prog TT 9 [.s (.string ⟨#[107, 111, 105, 56, 45, 114]⟩)] h fun x H => x = .tp [.s (.int .u8 0), .s (.int .i64 14)] ∧ Grows h H := by
  have k := named_FR h ⟨#[107, 111, 105, 56, 45, 114]⟩ (by decide)
  rwa [vk] at k
theorem l11 (h : Heap) : FR Tryd.prog TT 11 [.s (.int .u8 4)] h fun x H => x = .tp [.s (.string ⟨#[73, 83, 79, 45, 56, 56, 53, 57, 45, 49, 53]⟩), .s (.int .i64 0)] ∧ H = h := by
  have k := name_FR h 4
  rwa [v11] at k
theorem l14 (h : Heap) : FR Tryd.prog TT 14 [.s (.int .u8 5), .s (.string ⟨#[97, 128, 129]⟩)] h fun y H => ∃ a, y = .tp [a, .s (.int .i64 0)] ∧ Grows h H ∧ Row (encI .i32) H a [97, 8364, 65533] := by
  have k := dcd_FR h 5 ⟨#[97, 128, 129]⟩ (by decide)
  rwa [v14] at k
theorem l19 (h : Heap) (a : AV) (r : Row (encI .i32) h a [8364, 233]) : FR Tryd.prog TT 19 [.s (.int .u8 4), a] h fun x H => x = .tp [.s (.string ⟨#[164, 233]⟩), .s (.int .i64 0)] ∧ Grows h H := by
  have k := encode_FR h 4 a _ r (by decide)
  rwa [v19] at k
theorem l19b (h : Heap) (a : AV) (r : Row (encI .i32) h a [945]) : FR Tryd.prog TT 19 [.s (.int .u8 4), a] h fun x H => x = .tp [.s (.string ⟨#[]⟩), .s (.int .i64 7)] ∧ Grows h H := by
  have k := encode_FR h 4 a _ r (by decide)
  rwa [v19b] at k
theorem l21 (h : Heap) (a : AV) (r : Row (encI .i32) h a [233, -1]) : FR Tryd.prog TT 21 [a] h fun x H => x = .s (.string ⟨#[195, 169, 239, 191, 189]⟩) ∧ Grows h H := by
  have k := utf8_FR h a _ r (by decide)
  rwa [v21] at k
theorem l17 (h : Heap) : FR Tryd.prog TT 17 [.s (.string ⟨#[195, 169, 255]⟩)] h fun y H => Grows h H ∧ Row (encI .i32) H y [233, 65533] := by
  have k := letters_FR h ⟨#[195, 169, 255]⟩ (by decide)
  rw [v17] at k
  exact k.mono fun y H o => ⟨o.g, o.row⟩
theorem l16 (h : Heap) (a b : AV) (A : List Int) (ra : Row (encI .i32) h a A) (rb : Row (encI .i32) h b A) (hl : A.length ≤ 4611686018427387903) : FR Tryd.prog TT 16 [a, b] h fun x H => x = .s (.bool true) ∧ H = h := by
  have k := same_FR h a b A A ra rb hl hl
  rwa [decide_eq_true rfl] at k
theorem lives_FR (h : Heap) : FR Tryd.prog TT 13 [] h fun x H => x = .s (.bool true) ∧ Grows h H := by
  refine FR.of q13 (by kernel_rfl) ?_
  unfold c13
  repeat' (first
    | (refine WO.mvE ra rfl ?_)
    | (refine WO.mvE a3 rfl ?_)
    | (refine WO.mvE a5 rfl ?_)
    | (refine WO.mvE a8 rfl ?_)
    | (refine WO.mvE a9 rfl ?_)
    | (refine WO.mvE la rfl ?_)
    | (refine WO.mvE a12 rfl ?_)
    | (refine WO.call rfl (l9 _) ?_; rintro _ H1 ⟨rfl, g1⟩)
    | (refine WO.call rfl (l11 _) ?_; rintro _ H ⟨rfl, hH⟩; obtain rfl := hH.symm)
    | (refine WO.call rfl (l14 _) ?_; rintro _ H2 ⟨ra, rfl, g2, rr⟩)
    | (refine WO.bsl (E := encI .i32) (C := [_, _]) rfl [8364, 233] rfl rfl rfl (fun a3 H3 g3 o3 nw3 => ?_))
    | (refine WO.call rfl (l19 _ _ o3.row) ?_; rintro _ H4 ⟨rfl, g4⟩)
    | (refine WO.bsl (E := encI .i32) (C := [_]) rfl [945] rfl rfl rfl (fun a5 H5 g5 o5 nw5 => ?_))
    | (refine WO.call rfl (l19b _ _ o5.row) ?_; rintro _ H6 ⟨rfl, g6⟩)
    | (refine WO.call rfl (lk _) ?_; rintro _ H7 ⟨rfl, g7⟩)
    | (refine WO.bsl (E := encI .i32) (C := [_, _, _]) rfl [97, 8364, 65533] rfl rfl rfl (fun a8 H8 g8 o8 nw8 => ?_))
    | (refine WO.call rfl (l16 _ ra _ _ (rr.grows (g3.trans (g4.trans (g5.trans (g6.trans (g7.trans g8)))))) o8.row (by decide)) ?_; rintro _ H ⟨rfl, hH⟩; obtain rfl := hH.symm)
    | (refine WO.bsl (E := encI .i32) (C := [_, _]) rfl [233, -1] rfl rfl rfl (fun a9 H9 g9 o9 nw9 => ?_))
    | (refine WO.call rfl (l21 _ _ o9.row) ?_; rintro _ H10 ⟨rfl, g10⟩)
    | (refine WO.call rfl (l17 _) ?_; rintro la H11 ⟨g11, rl⟩)
    | (refine WO.bsl (E := encI .i32) (C := [_, _]) rfl [233, 65533] rfl rfl rfl (fun a12 H12 g12 o12 nw12 => ?_))
    | (refine WO.call rfl (l16 _ la _ _ (rl.grows g12) o12.row (by decide)) ?_; rintro _ H ⟨rfl, hH⟩; obtain rfl := hH.symm)
    | (refine LQ.fin ?_)
    | (refine EQ.fin rfl ?_)
    | (refine WO.mvs rfl ?_)
    | (refine WO.mvp rfl ?_)
    | (refine WO.mvt rfl ?_)
    | (refine WO.mv ?_)
    | (refine W.sreg ?_)
    | (refine W.sdraw ?_)
    | (refine W.reg ?_)
    | (refine W.draw ?_)
    | (refine WO.nil ?_)
    | (refine WO.gU rfl ?_)
    | (refine WO.gT rfl rfl ?_)
    | (refine WO.gF rfl rfl ?_)
    | (refine WO.ext rfl rfl ?_)
    | (refine WO.lenR (by assumption) ?_)
    | (refine WO.add rfl rfl (by first | exact wrOK (by simp only [loK, hiK]; omega) | rfl) ?_)
    | (refine WO.sub rfl rfl (by first | exact wrOK (by simp only [loK, hiK]; omega) | rfl) ?_)
    | (refine WO.lss rfl rfl ?_)
    | (refine WO.leq rfl rfl ?_)
    | (refine WO.gtr rfl rfl ?_)
    | (refine WO.geq rfl rfl ?_)
    | (refine WO.eql rfl rfl ?_)
    | (refine WO.neq rfl rfl ?_)
    | (refine WO.seql rfl rfl ?_)
    | (refine WO.sneq rfl rfl ?_)
    | (refine WO.beql rfl rfl (tb rfl) ?_)
    | (refine WO.bneq rfl rfl (tb rfl) ?_)
    | (refine WO.not rfl ?_)
    | (refine WO.not0 rfl ?_)
    | (refine WO.cvi rfl (kd rfl) (kd rfl) (by first | exact wrOK (by simp only [loK, hiK]; omega) | rfl) ?_)
    | (refine WO.cvs rfl (st rfl) (st rfl) ?_)
    | (refine WO.ix rfl rfl (st rfl) (by first | assumption | omega) (by first | assumption | omega) ?_)
    | (refine WO.slen rfl (st rfl) ?_)
    | (refine WO.iaddr (by assumption) rfl rfl (by first | assumption | omega) (by first | assumption | omega) (fun q hq => ?_))
    | (refine WO.load (by assumption) rfl rfl ?_)
    | (refine WO.loadO rfl (by assumption) rfl rfl ?_)
    | (refine WO.faddrP (by assumption) rfl (fun q hq => ?_))
    | (refine WO.nilckP (by assumption) ?_)
    | (refine WO.nilck rfl ?_)
    | (refine WO.faddr rfl ?_)
    | (refine WO.fld rfl rfl rfl ?_)
    | (refine WO.pickT rfl ?_)
    | (refine WO.pickF rfl ?_)
    | (refine WO.sll rfl rfl (st rfl) (by first | assumption | omega) (by first | assumption | omega) ?_)
    | (refine WO.slh rfl rfl (st rfl) (by first | assumption | omega) (by first | assumption | omega) ?_)
    | (refine WO.slb rfl rfl rfl (st rfl) (by first | assumption | omega) (by first | assumption | omega) (by first | assumption | omega) ?_)
    | (refine WO.mul rfl rfl (by first | exact wrOK (by simp only [loK, hiK]; omega) | rfl) ?_)
    | (refine WO.quo rfl rfl (by first | assumption | omega) (by first | exact wrOK (by simp only [loK, hiK]; omega) | rfl) ?_)
    | (refine WO.rem rfl rfl (by first | assumption | omega) ?_)
    | (refine WO.and rfl rfl ?_)
    | (refine WO.or rfl rfl ?_)
    | (refine WO.xor rfl rfl ?_)
    | (refine WO.shl rfl rfl (by first | assumption | omega) (by simp [IntKind.bits]; rfl) ?_)
    | (refine WO.shr rfl rfl (by first | assumption | omega) (by simp [IntKind.bits]; rfl) ?_)
    | (refine WO.build (C := [_]) rfl ?_)
    | (refine WO.build (C := [_, _]) rfl ?_)
    | (refine WO.build (C := [_, _, _]) rfl ?_)
    | (refine WO.build (C := [_, _, _, _]) rfl ?_)
    | (refine WO.build (C := [_, _, _, _, _]) rfl ?_)
    | (refine WO.build (C := [_, _, _, _, _, _]) rfl ?_)
    | (refine WO.build (C := [_, _, _, _, _, _, _]) rfl ?_)
    | (refine WO.eqnil (by assumption) (fun hn1 hn2 => ?_) ?_)
    | (refine W.condT rfl ?_)
    | (refine W.condF rfl ?_)
    | (refine W.condDT rfl (by first | assumption | omega) ?_)
    | (refine W.condDF rfl (by first | assumption | omega) ?_)
    | (refine W.condD rfl (fun hc => ?_) (fun hc => ?_))
    | (refine WO.gS rfl (fun hc => ?_) (fun hc => ?_) <;> try (exfalso; omega))
    | (refine WO.pickS rfl (fun hc => ?_) (fun hc => ?_) <;> try (exfalso; omega))
    | (refine W.skip ?_)
    | (refine W.block ?_)
    | (refine W.drawA rfl ?_)
    | (refine W.sdrawA rfl ?_)
    | (refine And.intro rfl ?_)
    | (refine W.exit ?_)
    | (refine W.ret ?_)
    | (refine W.seq ?_)
    | (refine W.goto ?_)
    | (refine W.label ?_)
    | (refine SQ.nn ?_)
    | (refine SQ.x ?_)
    | (refine SQ.r ?_)
    | (refine SQ.g ?_)
    | (refine BQ.nn ?_)
    | (refine BQ.x ?_)
    | (refine BQ.r ?_)
    | (refine BQ.g ?_)
    | (refine BQ.y rfl ?_)
    | (refine LQ.x ?_)
    | (refine LQ.r ?_)
    | (refine LQ.g ?_)
    | (refine GQ.nn ?_)
    | (refine GQ.x ?_)
    | (refine GQ.r ?_))
  exact ⟨rfl, g1.trans (g2.trans (g3.trans (g4.trans (g5.trans (g6.trans (g7.trans (g8.trans (g9.trans (g10.trans (g11.trans g12))))))))))⟩
end Go.Proofs.YtmjnlbjnmmmlmaaDoor.AS
end
section
set_option autoImplicit false
set_option maxRecDepth 100000
set_option maxHeartbeats 4000000
set_option linter.unusedSimpArgs false
set_option linter.unusedVariables false
namespace Go.Proofs.YtmjnlbjnmmmlmaaDoor.AS
open Go Go.Proofs Go.RowKit Go.Proofs.YtmjnlbjnmmmlmaaDoor.AS.V

theorem law3_FR (h : Heap) (s : ByteArray) (c : Int) (hs : s.size ≤ 140737488355328) : FR Tryd.prog TT 3 [.s (.string s), .s (.int .u8 c)] h fun x H => x = .s (.bool true) ∧ Grows h H := by
  have ka := fun h => named_FR h s hs
  have kb := fun h => rnamed_FR h s hs
  have kc := fun h => name_FR h c
  have kd := fun h => rname_FR h c
  generalize namedS (greatS s) = nd at *
  generalize nameS c = nm at *
  refine FR.of q3 (by kernel_rfl) ?_
  unfold c3
  repeat' (first
    | (refine WO.call rfl (lives_FR _) ?_; rintro _ HL ⟨rfl, gL⟩)
    | (refine WO.call rfl (ka _) ?_; rintro _ H1 ⟨rfl, g1⟩)
    | (refine WO.call rfl (kb _) ?_; rintro _ H2 ⟨rfl, g2⟩)
    | (refine WO.call rfl (kc _) ?_; rintro _ H ⟨rfl, hH⟩; obtain rfl := hH.symm)
    | (refine WO.call rfl (kd _) ?_; rintro _ H ⟨rfl, hH⟩; obtain rfl := hH.symm)
    | (refine LQ.fin ?_)
    | (refine EQ.fin rfl ?_)
    | (refine WO.mvs rfl ?_)
    | (refine WO.mvp rfl ?_)
    | (refine WO.mvt rfl ?_)
    | (refine WO.mv ?_)
    | (refine W.sreg ?_)
    | (refine W.sdraw ?_)
    | (refine W.reg ?_)
    | (refine W.draw ?_)
    | (refine WO.nil ?_)
    | (refine WO.gU rfl ?_)
    | (refine WO.gT rfl rfl ?_)
    | (refine WO.gF rfl rfl ?_)
    | (refine WO.ext rfl rfl ?_)
    | (refine WO.lenR (by assumption) ?_)
    | (refine WO.add rfl rfl (by first | exact wrOK (by simp only [loK, hiK]; omega) | rfl) ?_)
    | (refine WO.sub rfl rfl (by first | exact wrOK (by simp only [loK, hiK]; omega) | rfl) ?_)
    | (refine WO.lss rfl rfl ?_)
    | (refine WO.leq rfl rfl ?_)
    | (refine WO.gtr rfl rfl ?_)
    | (refine WO.geq rfl rfl ?_)
    | (refine WO.eql rfl rfl ?_)
    | (refine WO.neq rfl rfl ?_)
    | (refine WO.seql rfl rfl ?_)
    | (refine WO.sneq rfl rfl ?_)
    | (refine WO.beql rfl rfl (tb rfl) ?_)
    | (refine WO.bneq rfl rfl (tb rfl) ?_)
    | (refine WO.not rfl ?_)
    | (refine WO.not0 rfl ?_)
    | (refine WO.cvi rfl (kd rfl) (kd rfl) (by first | exact wrOK (by simp only [loK, hiK]; omega) | rfl) ?_)
    | (refine WO.cvs rfl (st rfl) (st rfl) ?_)
    | (refine WO.ix rfl rfl (st rfl) (by first | assumption | omega) (by first | assumption | omega) ?_)
    | (refine WO.slen rfl (st rfl) ?_)
    | (refine WO.iaddr (by assumption) rfl rfl (by first | assumption | omega) (by first | assumption | omega) (fun q hq => ?_))
    | (refine WO.load (by assumption) rfl rfl ?_)
    | (refine WO.loadO rfl (by assumption) rfl rfl ?_)
    | (refine WO.faddrP (by assumption) rfl (fun q hq => ?_))
    | (refine WO.nilckP (by assumption) ?_)
    | (refine WO.nilck rfl ?_)
    | (refine WO.faddr rfl ?_)
    | (refine WO.fld rfl rfl rfl ?_)
    | (refine WO.pickT rfl ?_)
    | (refine WO.pickF rfl ?_)
    | (refine WO.sll rfl rfl (st rfl) (by first | assumption | omega) (by first | assumption | omega) ?_)
    | (refine WO.slh rfl rfl (st rfl) (by first | assumption | omega) (by first | assumption | omega) ?_)
    | (refine WO.slb rfl rfl rfl (st rfl) (by first | assumption | omega) (by first | assumption | omega) (by first | assumption | omega) ?_)
    | (refine WO.mul rfl rfl (by first | exact wrOK (by simp only [loK, hiK]; omega) | rfl) ?_)
    | (refine WO.quo rfl rfl (by first | assumption | omega) (by first | exact wrOK (by simp only [loK, hiK]; omega) | rfl) ?_)
    | (refine WO.rem rfl rfl (by first | assumption | omega) ?_)
    | (refine WO.and rfl rfl ?_)
    | (refine WO.or rfl rfl ?_)
    | (refine WO.xor rfl rfl ?_)
    | (refine WO.shl rfl rfl (by first | assumption | omega) (by simp [IntKind.bits]; rfl) ?_)
    | (refine WO.shr rfl rfl (by first | assumption | omega) (by simp [IntKind.bits]; rfl) ?_)
    | (refine WO.build (C := [_]) rfl ?_)
    | (refine WO.build (C := [_, _]) rfl ?_)
    | (refine WO.build (C := [_, _, _]) rfl ?_)
    | (refine WO.build (C := [_, _, _, _]) rfl ?_)
    | (refine WO.build (C := [_, _, _, _, _]) rfl ?_)
    | (refine WO.build (C := [_, _, _, _, _, _]) rfl ?_)
    | (refine WO.build (C := [_, _, _, _, _, _, _]) rfl ?_)
    | (refine WO.eqnil (by assumption) (fun hn1 hn2 => ?_) ?_)
    | (refine W.condT rfl ?_)
    | (refine W.condF rfl ?_)
    | (refine W.condDT rfl (by first | assumption | omega) ?_)
    | (refine W.condDF rfl (by first | assumption | omega) ?_)
    | (refine W.condD rfl (fun hc => ?_) (fun hc => ?_))
    | (refine WO.gS rfl (fun hc => ?_) (fun hc => ?_) <;> try (exfalso; omega))
    | (refine WO.pickS rfl (fun hc => ?_) (fun hc => ?_) <;> try (exfalso; omega))
    | (refine W.skip ?_)
    | (refine W.block ?_)
    | (refine W.drawA rfl ?_)
    | (refine W.sdrawA rfl ?_)
    | (refine And.intro rfl ?_)
    | (refine W.exit ?_)
    | (refine W.ret ?_)
    | (refine W.seq ?_)
    | (refine W.goto ?_)
    | (refine W.label ?_)
    | (refine SQ.nn ?_)
    | (refine SQ.x ?_)
    | (refine SQ.r ?_)
    | (refine SQ.g ?_)
    | (refine BQ.nn ?_)
    | (refine BQ.x ?_)
    | (refine BQ.r ?_)
    | (refine BQ.g ?_)
    | (refine BQ.y rfl ?_)
    | (refine LQ.x ?_)
    | (refine LQ.r ?_)
    | (refine LQ.g ?_)
    | (refine GQ.nn ?_)
    | (refine GQ.x ?_)
    | (refine GQ.r ?_))
  all_goals first
    | exact ⟨congrArg (fun b => AV.s (.bool b)) (decide_eq_true rfl), g1.trans (g2.trans gL)⟩
    | exact absurd rfl (by assumption)
theorem law4_FR (h : Heap) (c : Int) (s : ByteArray) (hs : s.size ≤ 35184372088831) : FR Tryd.prog TT 4 [.s (.int .u8 c), .s (.string s)] h fun x H => x = .s (.bool true) ∧ Grows h H := by
  have ka := fun h => dcd_FR h c s hs
  have kb := fun h => rdcd_FR h c s hs
  have kc := fun h => letters_FR h s hs
  have kd := fun h => rletters_FR h s hs
  have hl1 : (decodeS c s).1.length ≤ 35184372088831 := by
    have := bytesOf_length s
    have := lettersS_len s
    unfold decodeS
    (repeat' split) <;> simp only [List.length_nil, List.length_map] <;> omega
  have hl2 : (lettersS s).length ≤ 35184372088831 := by have := lettersS_len s; omega
  generalize decodeS c s = ds at *
  generalize lettersS s = ls at *
  refine FR.of q4 (by kernel_rfl) ?_
  unfold c4
  repeat' (first
    | (refine WO.call rfl (lives_FR _) ?_; rintro _ HL ⟨rfl, gL⟩)
    | (refine WO.mvE ra rfl ?_)
    | (refine WO.mvE rb rfl ?_)
    | (refine WO.mvE la rfl ?_)
    | (refine WO.mvE lb rfl ?_)
    | (refine WO.call rfl (ka _) ?_; rintro _ H1 ⟨ra, rfl, g1, r1⟩)
    | (refine WO.call rfl (kb _) ?_; rintro _ H2 ⟨rb, rfl, g2, r2⟩)
    | (refine WO.call rfl (l16 _ ra rb _ (r1.grows (g2.trans gL)) (r2.grows gL) (by omega)) ?_; rintro _ H ⟨rfl, hH⟩; obtain rfl := hH.symm)
    | (refine WO.call rfl (kc _) ?_; rintro la H3 o3)
    | (refine WO.call rfl (kd _) ?_; rintro lb H4 o4)
    | (refine WO.call rfl (l16 _ la lb _ (o3.row.grows o4.g) o4.row (by omega)) ?_; rintro _ H ⟨rfl, hH⟩; obtain rfl := hH.symm)
    | (refine LQ.fin ?_)
    | (refine EQ.fin rfl ?_)
    | (refine WO.mvs rfl ?_)
    | (refine WO.mvp rfl ?_)
    | (refine WO.mvt rfl ?_)
    | (refine WO.mv ?_)
    | (refine W.sreg ?_)
    | (refine W.sdraw ?_)
    | (refine W.reg ?_)
    | (refine W.draw ?_)
    | (refine WO.nil ?_)
    | (refine WO.gU rfl ?_)
    | (refine WO.gT rfl rfl ?_)
    | (refine WO.gF rfl rfl ?_)
    | (refine WO.ext rfl rfl ?_)
    | (refine WO.lenR (by assumption) ?_)
    | (refine WO.add rfl rfl (by first | exact wrOK (by simp only [loK, hiK]; omega) | rfl) ?_)
    | (refine WO.sub rfl rfl (by first | exact wrOK (by simp only [loK, hiK]; omega) | rfl) ?_)
    | (refine WO.lss rfl rfl ?_)
    | (refine WO.leq rfl rfl ?_)
    | (refine WO.gtr rfl rfl ?_)
    | (refine WO.geq rfl rfl ?_)
    | (refine WO.eql rfl rfl ?_)
    | (refine WO.neq rfl rfl ?_)
    | (refine WO.seql rfl rfl ?_)
    | (refine WO.sneq rfl rfl ?_)
    | (refine WO.beql rfl rfl (tb rfl) ?_)
    | (refine WO.bneq rfl rfl (tb rfl) ?_)
    | (refine WO.not rfl ?_)
    | (refine WO.not0 rfl ?_)
    | (refine WO.cvi rfl (kd rfl) (kd rfl) (by first | exact wrOK (by simp only [loK, hiK]; omega) | rfl) ?_)
    | (refine WO.cvs rfl (st rfl) (st rfl) ?_)
    | (refine WO.ix rfl rfl (st rfl) (by first | assumption | omega) (by first | assumption | omega) ?_)
    | (refine WO.slen rfl (st rfl) ?_)
    | (refine WO.iaddr (by assumption) rfl rfl (by first | assumption | omega) (by first | assumption | omega) (fun q hq => ?_))
    | (refine WO.load (by assumption) rfl rfl ?_)
    | (refine WO.loadO rfl (by assumption) rfl rfl ?_)
    | (refine WO.faddrP (by assumption) rfl (fun q hq => ?_))
    | (refine WO.nilckP (by assumption) ?_)
    | (refine WO.nilck rfl ?_)
    | (refine WO.faddr rfl ?_)
    | (refine WO.fld rfl rfl rfl ?_)
    | (refine WO.pickT rfl ?_)
    | (refine WO.pickF rfl ?_)
    | (refine WO.sll rfl rfl (st rfl) (by first | assumption | omega) (by first | assumption | omega) ?_)
    | (refine WO.slh rfl rfl (st rfl) (by first | assumption | omega) (by first | assumption | omega) ?_)
    | (refine WO.slb rfl rfl rfl (st rfl) (by first | assumption | omega) (by first | assumption | omega) (by first | assumption | omega) ?_)
    | (refine WO.mul rfl rfl (by first | exact wrOK (by simp only [loK, hiK]; omega) | rfl) ?_)
    | (refine WO.quo rfl rfl (by first | assumption | omega) (by first | exact wrOK (by simp only [loK, hiK]; omega) | rfl) ?_)
    | (refine WO.rem rfl rfl (by first | assumption | omega) ?_)
    | (refine WO.and rfl rfl ?_)
    | (refine WO.or rfl rfl ?_)
    | (refine WO.xor rfl rfl ?_)
    | (refine WO.shl rfl rfl (by first | assumption | omega) (by simp [IntKind.bits]; rfl) ?_)
    | (refine WO.shr rfl rfl (by first | assumption | omega) (by simp [IntKind.bits]; rfl) ?_)
    | (refine WO.build (C := [_]) rfl ?_)
    | (refine WO.build (C := [_, _]) rfl ?_)
    | (refine WO.build (C := [_, _, _]) rfl ?_)
    | (refine WO.build (C := [_, _, _, _]) rfl ?_)
    | (refine WO.build (C := [_, _, _, _, _]) rfl ?_)
    | (refine WO.build (C := [_, _, _, _, _, _]) rfl ?_)
    | (refine WO.build (C := [_, _, _, _, _, _, _]) rfl ?_)
    | (refine WO.eqnil (by assumption) (fun hn1 hn2 => ?_) ?_)
    | (refine W.condT rfl ?_)
    | (refine W.condF rfl ?_)
    | (refine W.condDT rfl (by first | assumption | omega) ?_)
    | (refine W.condDF rfl (by first | assumption | omega) ?_)
    | (refine W.condD rfl (fun hc => ?_) (fun hc => ?_))
    | (refine WO.gS rfl (fun hc => ?_) (fun hc => ?_) <;> try (exfalso; omega))
    | (refine WO.pickS rfl (fun hc => ?_) (fun hc => ?_) <;> try (exfalso; omega))
    | (refine W.skip ?_)
    | (refine W.block ?_)
    | (refine W.drawA rfl ?_)
    | (refine W.sdrawA rfl ?_)
    | (refine And.intro rfl ?_)
    | (refine W.exit ?_)
    | (refine W.ret ?_)
    | (refine W.seq ?_)
    | (refine W.goto ?_)
    | (refine W.label ?_)
    | (refine SQ.nn ?_)
    | (refine SQ.x ?_)
    | (refine SQ.r ?_)
    | (refine SQ.g ?_)
    | (refine BQ.nn ?_)
    | (refine BQ.x ?_)
    | (refine BQ.r ?_)
    | (refine BQ.g ?_)
    | (refine BQ.y rfl ?_)
    | (refine LQ.x ?_)
    | (refine LQ.r ?_)
    | (refine LQ.g ?_)
    | (refine GQ.nn ?_)
    | (refine GQ.x ?_)
    | (refine GQ.r ?_))
  all_goals first
    | exact ⟨rfl, g1.trans (g2.trans (gL.trans (o3.g.trans o4.g)))⟩
    | exact absurd rfl (by assumption)
theorem law5_FR (h : Heap) (c : Int) (a : AV) (L : List Int) (r : Row (encI .i32) h a L) (hl : L.length ≤ 35184372088831) : FR Tryd.prog TT 5 [.s (.int .u8 c), a] h fun x H => x = .s (.bool true) ∧ Grows h H := by
  have ka := fun h r => encode_FR h c a L r hl
  have kb := fun h r => rencode_FR h c a L r hl
  have kc := fun h r => utf8_FR h a L r hl
  have kd := fun h r => rutf8_FR h a L r hl
  generalize encoS c L = es at *
  generalize utf8S L = us at *
  refine FR.of q5 (by kernel_rfl) ?_
  unfold c5
  repeat' (first
    | (refine WO.call rfl (lives_FR _) ?_; rintro _ HL ⟨rfl, gL⟩)
    | (refine WO.mvE a rfl ?_)
    | (refine WO.call rfl (ka _ r) ?_; rintro _ H1 ⟨rfl, g1⟩)
    | (refine WO.call rfl (kb _ (r.grows g1)) ?_; rintro _ H2 ⟨rfl, g2⟩)
    | (refine WO.call rfl (kc _ (r.grows (g1.trans (g2.trans gL)))) ?_; rintro _ H3 ⟨rfl, g3⟩)
    | (refine WO.call rfl (kd _ (r.grows (g1.trans (g2.trans (gL.trans g3))))) ?_; rintro _ H4 ⟨rfl, g4⟩)
    | (refine LQ.fin ?_)
    | (refine EQ.fin rfl ?_)
    | (refine WO.mvs rfl ?_)
    | (refine WO.mvp rfl ?_)
    | (refine WO.mvt rfl ?_)
    | (refine WO.mv ?_)
    | (refine W.sreg ?_)
    | (refine W.sdraw ?_)
    | (refine W.reg ?_)
    | (refine W.draw ?_)
    | (refine WO.nil ?_)
    | (refine WO.gU rfl ?_)
    | (refine WO.gT rfl rfl ?_)
    | (refine WO.gF rfl rfl ?_)
    | (refine WO.ext rfl rfl ?_)
    | (refine WO.lenR (by assumption) ?_)
    | (refine WO.add rfl rfl (by first | exact wrOK (by simp only [loK, hiK]; omega) | rfl) ?_)
    | (refine WO.sub rfl rfl (by first | exact wrOK (by simp only [loK, hiK]; omega) | rfl) ?_)
    | (refine WO.lss rfl rfl ?_)
    | (refine WO.leq rfl rfl ?_)
    | (refine WO.gtr rfl rfl ?_)
    | (refine WO.geq rfl rfl ?_)
    | (refine WO.eql rfl rfl ?_)
    | (refine WO.neq rfl rfl ?_)
    | (refine WO.seql rfl rfl ?_)
    | (refine WO.sneq rfl rfl ?_)
    | (refine WO.beql rfl rfl (tb rfl) ?_)
    | (refine WO.bneq rfl rfl (tb rfl) ?_)
    | (refine WO.not rfl ?_)
    | (refine WO.not0 rfl ?_)
    | (refine WO.cvi rfl (kd rfl) (kd rfl) (by first | exact wrOK (by simp only [loK, hiK]; omega) | rfl) ?_)
    | (refine WO.cvs rfl (st rfl) (st rfl) ?_)
    | (refine WO.ix rfl rfl (st rfl) (by first | assumption | omega) (by first | assumption | omega) ?_)
    | (refine WO.slen rfl (st rfl) ?_)
    | (refine WO.iaddr (by assumption) rfl rfl (by first | assumption | omega) (by first | assumption | omega) (fun q hq => ?_))
    | (refine WO.load (by assumption) rfl rfl ?_)
    | (refine WO.loadO rfl (by assumption) rfl rfl ?_)
    | (refine WO.faddrP (by assumption) rfl (fun q hq => ?_))
    | (refine WO.nilckP (by assumption) ?_)
    | (refine WO.nilck rfl ?_)
    | (refine WO.faddr rfl ?_)
    | (refine WO.fld rfl rfl rfl ?_)
    | (refine WO.pickT rfl ?_)
    | (refine WO.pickF rfl ?_)
    | (refine WO.sll rfl rfl (st rfl) (by first | assumption | omega) (by first | assumption | omega) ?_)
    | (refine WO.slh rfl rfl (st rfl) (by first | assumption | omega) (by first | assumption | omega) ?_)
    | (refine WO.slb rfl rfl rfl (st rfl) (by first | assumption | omega) (by first | assumption | omega) (by first | assumption | omega) ?_)
    | (refine WO.mul rfl rfl (by first | exact wrOK (by simp only [loK, hiK]; omega) | rfl) ?_)
    | (refine WO.quo rfl rfl (by first | assumption | omega) (by first | exact wrOK (by simp only [loK, hiK]; omega) | rfl) ?_)
    | (refine WO.rem rfl rfl (by first | assumption | omega) ?_)
    | (refine WO.and rfl rfl ?_)
    | (refine WO.or rfl rfl ?_)
    | (refine WO.xor rfl rfl ?_)
    | (refine WO.shl rfl rfl (by first | assumption | omega) (by simp [IntKind.bits]; rfl) ?_)
    | (refine WO.shr rfl rfl (by first | assumption | omega) (by simp [IntKind.bits]; rfl) ?_)
    | (refine WO.build (C := [_]) rfl ?_)
    | (refine WO.build (C := [_, _]) rfl ?_)
    | (refine WO.build (C := [_, _, _]) rfl ?_)
    | (refine WO.build (C := [_, _, _, _]) rfl ?_)
    | (refine WO.build (C := [_, _, _, _, _]) rfl ?_)
    | (refine WO.build (C := [_, _, _, _, _, _]) rfl ?_)
    | (refine WO.build (C := [_, _, _, _, _, _, _]) rfl ?_)
    | (refine WO.eqnil (by assumption) (fun hn1 hn2 => ?_) ?_)
    | (refine W.condT rfl ?_)
    | (refine W.condF rfl ?_)
    | (refine W.condDT rfl (by first | assumption | omega) ?_)
    | (refine W.condDF rfl (by first | assumption | omega) ?_)
    | (refine W.condD rfl (fun hc => ?_) (fun hc => ?_))
    | (refine WO.gS rfl (fun hc => ?_) (fun hc => ?_) <;> try (exfalso; omega))
    | (refine WO.pickS rfl (fun hc => ?_) (fun hc => ?_) <;> try (exfalso; omega))
    | (refine W.skip ?_)
    | (refine W.block ?_)
    | (refine W.drawA rfl ?_)
    | (refine W.sdrawA rfl ?_)
    | (refine And.intro rfl ?_)
    | (refine W.exit ?_)
    | (refine W.ret ?_)
    | (refine W.seq ?_)
    | (refine W.goto ?_)
    | (refine W.label ?_)
    | (refine SQ.nn ?_)
    | (refine SQ.x ?_)
    | (refine SQ.r ?_)
    | (refine SQ.g ?_)
    | (refine BQ.nn ?_)
    | (refine BQ.x ?_)
    | (refine BQ.r ?_)
    | (refine BQ.g ?_)
    | (refine BQ.y rfl ?_)
    | (refine LQ.x ?_)
    | (refine LQ.r ?_)
    | (refine LQ.g ?_)
    | (refine GQ.nn ?_)
    | (refine GQ.x ?_)
    | (refine GQ.r ?_))
  all_goals first
    | exact ⟨congrArg (fun b => AV.s (.bool b)) (decide_eq_true rfl), g1.trans (g2.trans (gL.trans (g3.trans g4)))⟩
    | exact absurd rfl (by assumption)
end Go.Proofs.YtmjnlbjnmmmlmaaDoor.AS
end
section
set_option autoImplicit false
set_option linter.unusedVariables false
namespace Go.Proofs.YtmjnlbjnmmmlmaaDoor.AS
open Go Go.RowKit
/-! What a row's list of variables gives: their cells. -/
mutual
def flatD {H : Type} : DataW H → List Value
  | .lit (.int k z) => [.int k z]
  | .lit (.bool b) => [.bool b]
  | .lit (.string l) => [.string ⟨l.toArray⟩]
  | .agg ds => flatDs ds
  | _ => []
def flatDs {H : Type} : List (DataW H) → List Value
  | [] => []
  | d :: ds => flatD d ++ flatDs ds
end
/-- Pieces that stand one behind the other. -/
def Contig {ι : Type} (off len : ι → Nat) : List ι → Nat → Nat → Prop
  | [], o, n => o = n
  | i :: l, o, n => off i = o ∧ Contig off len l (o + len i) n
theorem Contig.le {ι : Type} {off len : ι → Nat} : ∀ {l : List ι} {o n : Nat}, Contig off len l o n → o ≤ n
  | [], _, _, h => Nat.le_of_eq h
  | _ :: _, _, _, h => Nat.le_trans (Nat.le_add_right _ _) (Contig.le h.2)
theorem contig_range (c : Nat) : ∀ (m s : Nat), Contig (fun i => i * c) (fun _ => c) (List.range' s m) (s * c) ((s + m) * c)
  | 0, s => by show s * c = (s + 0) * c; simp
  | m + 1, s => by
    rw [List.range'_succ]
    refine ⟨rfl, ?_⟩
    have := contig_range c m (s + 1)
    rw [show (s + 1) * c = s * c + c from by rw [Nat.add_mul, Nat.one_mul], show s + 1 + m = s + (m + 1) by omega] at this
    exact this
theorem pieces {ι H α : Type} {off len : ι → Nat} {f : ι → Option (DataW H × α)} {cs : List Value} :
    ∀ (l : List ι) (o n : Nat) (xs : List (DataW H × α)), Contig off len l o n → l.mapM f = some xs → (∀ i ∈ l, ∀ b, f i = some b → (cs.drop (off i)).take (len i) = flatD b.1) →
      (cs.drop o).take (n - o) = flatDs (xs.map (·.1))
  | [], o, n, xs, hc, hm, _ => by
    simp only [List.mapM_nil] at hm
    obtain rfl : xs = [] := by cases hm; rfl
    have : o = n := hc
    subst this
    simp [flatDs]
  | i :: l, o, n, xs, hc, hm, hf => by
    simp only [List.mapM_cons, Option.bind_eq_bind, Option.bind_eq_some_iff, Option.pure_def, Option.some.injEq] at hm
    obtain ⟨b, hb, r', hr', rfl⟩ := hm
    obtain ⟨ho, hc2⟩ := hc
    have ih := pieces l _ n r' hc2 hr' (fun j hj => hf j (List.mem_cons_of_mem _ hj))
    have hle := hc2.le
    have hi := hf i List.mem_cons_self b hb
    rw [ho] at hi
    rw [List.map_cons, flatDs, ← hi, ← ih, show n - o = len i + (n - (o + len i)) by omega, List.take_add, List.drop_drop]
def offs (P : Program) : List Field → Nat → Nat → Bool
  | [], o, n => o == n
  | f :: fs, o, n => f.offset == o && offs P fs (o + P.cellsOf f.type) n
theorem offs_contig {P : Program} : ∀ {fs : List Field} {o n : Nat}, offs P fs o n = true → Contig (fun f : Field => f.offset) (fun f => P.cellsOf f.type) fs o n
  | [], o, n, h => by
    have h : (o == n) = true := h
    have h : o = n := by simpa using h
    exact h
  | f :: fs, o, n, h => by
    simp only [offs, Bool.and_eq_true, beq_iff_eq] at h
    exact ⟨h.1, offs_contig h.2⟩
/-- Types of numbers, bools and texts alone. -/
def plainT (P : Program) : Nat → TypeId → Bool
  | 0, _ => false
  | k + 1, t => match P.underlying t with
    | some (.int _) => true
    | some .string => true
    | some .bool => true
    | some (.array n e) => plainT P k e && P.cellsOf t == n * P.cellsOf e
    | some (.struct fs) => fs.toList.all (fun f => plainT P k f.type) && offs P fs.toList 0 (P.cellsOf t)
    | _ => false
theorem flat_of {H : Type} {enc : TypeId × Value → H} {P : Program} {w : World} {base : Nat} {sp : Nat → Bool} {held : Bool} :
    ∀ (k fuel : Nat) (t : TypeId) (cs : List Value) (d : DataW H) (p : List MemPlace), plainT P k t = true → DataW.trod enc P w base sp held fuel t cs = some (d, p) → cs = flatD d
  | 0, _, _, _, _, _, h, _ => by cases h
  | k + 1, 0, _, _, _, _, _, h => by simp [DataW.trod] at h
  | k + 1, fuel + 1, t, cs, d, p, hp, h => by
    unfold plainT at hp
    split at hp
    · rename_i kk ht
      obtain ⟨z, hc, he, _⟩ := DataW.trod_int ht h
      cases he
      rw [hc]; rfl
    · rename_i ht
      simp only [DataW.trod, ht] at h
      split at h
      all_goals (try (rename_i hu; cases hu))
      all_goals (try (split at h))
      all_goals (try cases h)
      all_goals (try rfl)
      all_goals (try (rename_i hu _ _; cases hu))
    · rename_i ht
      simp only [DataW.trod, ht] at h
      split at h
      all_goals (try (rename_i hu; cases hu))
      all_goals (try cases h)
      all_goals (try rfl)
    · rename_i n e ht
      simp only [Bool.and_eq_true, beq_iff_eq] at hp
      simp only [DataW.trod, ht] at h
      split at h
      · rename_i hl
        obtain ⟨xs, hm, hx⟩ := Option.map_eq_some_iff.1 h
        cases hx
        rw [List.range_eq_range'] at hm
        have c := contig_range (P.cellsOf e) n 0
        rw [Nat.zero_mul, Nat.zero_add] at c
        have := pieces _ _ _ xs c hm (fun i _ b hb => flat_of k fuel e _ b.1 b.2 hp.1 hb)
        rw [List.drop_zero, Nat.sub_zero, List.take_of_length_le (by rw [hl, hp.2]; exact Nat.le_refl _)] at this
        exact this
      · cases h
    · rename_i fs ht
      simp only [Bool.and_eq_true] at hp
      simp only [DataW.trod, ht] at h
      split at h
      · rename_i hl
        obtain ⟨xs, hm, hx⟩ := Option.map_eq_some_iff.1 h
        cases hx
        have := pieces _ _ _ xs (offs_contig hp.2) hm (fun f hf b hb => flat_of k fuel f.type _ b.1 b.2 (List.all_eq_true.1 hp.1 f hf) hb)
        rw [List.drop_zero, Nat.sub_zero, List.take_of_length_le (by rw [hl]; exact Nat.le_refl _)] at this
        exact this
      · cases h
    · cases hp
theorem laid_cells {P : Program} {W : World} : ∀ {laid : List (String × DataW Unit)} {ps : List MemPlace}, DataW.LaidVars P W laid ps → ∀ n d, (n, d) ∈ laid → ∀ g t, P.globalNamed n = some g → (P.globals[g]?).map (·.type) = some t → plainT P 8 t = true →
      ∀ j v, (flatD d)[j]? = some v → W.cell? ⟨g, j, none⟩ = some v
  | [], _, _, n, d, hm, _, _, _, _, _, _, _, _ => by cases hm
  | (n', d') :: r, ps, h, n, d, hm, g, t, hg, ht, hp, j, v, hj => by
    obtain ⟨g', t', cs, fuel, p, q, hg', ht', hvar, hd, hr, _⟩ := h
    rcases List.mem_cons.1 hm with hm | hm
    · cases hm
      obtain rfl := Option.some.inj (hg.symm.trans hg')
      obtain rfl := Option.some.inj (ht.symm.trans ht')
      rw [World.var?_cell hg hvar, ← hj, ← flat_of _ _ _ _ _ _ hp hd, Array.getElem?_toList]
    · exact laid_cells hr n d hm g t hg ht hp j v hj
theorem cell_lt {W : World} {g j : Nat} {v : Value} (h : W.cell? ⟨g, j, none⟩ = some v) : g < W.heap.size := by
  rcases Nat.lt_or_ge g W.heap.size with h1 | h1
  · exact h1
  · simp [World.cell?, Array.getElem?_eq_none h1] at h
end Go.Proofs.YtmjnlbjnmmmlmaaDoor.AS
end
section
set_option maxRecDepth 100000
set_option linter.unusedVariables false
namespace Go.Proofs.YtmjnlbjnmmmlmaaDoor.AS
open Go Go.Proofs Go.RowKit Go.Proofs.YtmjnlbjnmmmlmaaDoor
theorem gn0 : Tryd.prog.globalNamed "missive/runes.windows" = some 0 := by kernel_rfl
theorem gn1 : Tryd.prog.globalNamed "unicode/utf8.first" = some 1 := by kernel_rfl
theorem gn2 : Tryd.prog.globalNamed "unicode/utf8.acceptRanges" = some 2 := by kernel_rfl
noncomputable def gt (g : Nat) : Nat := ((Tryd.prog.globals[g]?).map (·.type)).getD 0
theorem gt0 : (Tryd.prog.globals[0]?).map (·.type) = some (gt 0) := by kernel_rfl
theorem gt1 : (Tryd.prog.globals[1]?).map (·.type) = some (gt 1) := by kernel_rfl
theorem gt2 : (Tryd.prog.globals[2]?).map (·.type) = some (gt 2) := by kernel_rfl
theorem pl0 : plainT Tryd.prog 8 (gt 0) = true := by kernel_rfl
theorem pl1 : plainT Tryd.prog 8 (gt 1) = true := by kernel_rfl
theorem pl2 : plainT Tryd.prog 8 (gt 2) = true := by kernel_rfl
theorem fl0 : flatD (Rows.laid_missive_runes_windows (H := Unit)) = tabWin.map (.int .i32) := by kernel_rfl
theorem fl1 : flatD Rows.laid_unicode_utf8_first = tabFirst.map (.int .u8) := by kernel_rfl
theorem fl2 : flatD (Rows.laid_unicode_utf8_acceptRanges (H := Unit)) = tabAcc.map (.int .u8) := by kernel_rfl
theorem gsz : Tryd.prog.globals.size = 3 := by kernel_rfl
/-- What the row's list gives. -/
theorem laid6 {W : World} (h : laidMetH Tryd.prog [("unicode/utf8.acceptRanges", Rows.laid_unicode_utf8_acceptRanges), ("missive/runes.windows", Rows.laid_missive_runes_windows), ("unicode/utf8.first", Rows.laid_unicode_utf8_first)] W) : Laid Tryd.prog W.heap.size W := by
  have h : laidMet Tryd.prog [("unicode/utf8.acceptRanges", Rows.laid_unicode_utf8_acceptRanges), ("missive/runes.windows", Rows.laid_missive_runes_windows), ("unicode/utf8.first", Rows.laid_unicode_utf8_first)] W := h
  obtain ⟨ps, hv, _⟩ := h
  have a0 := laid_cells hv "missive/runes.windows" _ (.tail _ (.head _)) 0 _ gn0 gt0 pl0
  have a1 := laid_cells hv "unicode/utf8.first" _ (.tail _ (.tail _ (.head _))) 1 _ gn1 gt1 pl1
  have a2 := laid_cells hv "unicode/utf8.acceptRanges" _ (.head _) 2 _ gn2 gt2 pl2
  rw [fl0] at a0
  rw [fl1] at a1
  rw [fl2] at a2
  intro g C hC
  have hg : g = 0 ∨ g = 1 ∨ g = 2 ∨ 3 ≤ g := by omega
  rcases hg with rfl | rfl | rfl | hg
  · obtain rfl := Option.some.inj (gW.symm.trans hC)
    exact ⟨cell_lt (a0 0 _ rfl), a0⟩
  · obtain rfl := Option.some.inj (gF.symm.trans hC)
    exact ⟨cell_lt (a1 0 _ rfl), a1⟩
  · obtain rfl := Option.some.inj (gA.symm.trans hC)
    exact ⟨cell_lt (a2 0 _ rfl), a2⟩
  · unfold globC at hC
    rw [Array.getElem?_eq_none (by rw [gsz]; exact hg)] at hC
    cases hC
end Go.Proofs.YtmjnlbjnmmmlmaaDoor.AS
end
