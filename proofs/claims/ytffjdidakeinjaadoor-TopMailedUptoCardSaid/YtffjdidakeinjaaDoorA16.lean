/- Of our own: an abstract machine beside the model, its soundness, and walks of the program in it. -/
import Derived.Test.YtffjdidakeinjaaDoorA15
set_option linter.unusedSimpArgs false
set_option linter.unusedVariables false
section
set_option autoImplicit false
set_option maxRecDepth 100000
set_option maxHeartbeats 4000000
set_option linter.unusedSimpArgs false
set_option linter.unusedVariables false
namespace Go.Proofs.YtffjdidakeinjaaDoor.AS
open Go Go.Proofs Go.RowKit Go.Proofs.YtffjdidakeinjaaDoor.AS.V

theorem st4 : (boolC B0).take 0 ++ boolC B2 ++ (boolC B0).drop (0 + 256) = boolC B2 := by kernel_rfl
def blnB (c : Int) : Bool := decide (c = 32 ∨ c = 9)
theorem ld59 {c : Int} (h0 : 0 ≤ c) (h1 : c ≤ 255) : oneOr false (((boolC B2).drop (0 + c.toNat * 1)).take 1) = some (.s (.bool (blnB c))) := by
  have e := B2_at ⟨c.toNat, by omega⟩
  simp only at e
  rw [show ((c.toNat : Nat) : Int) = c by omega] at e
  rw [show 0 + c.toNat * 1 = c.toNat by omega]
  unfold boolC
  rw [← List.map_drop, ← List.map_take, e]
  rfl
theorem has59_FR {h : Heap} {b : Nat} (ob : Obj h b (boolC B2)) (c : Int) (h0 : 0 ≤ c) (h1 : c ≤ 255) : FR Tryd.prog TT 59 [.pt b 0 0, .s (.int .u8 c)] h fun x H => x = .s (.bool (blnB c)) ∧ H = h := by
  have hl := ld59 h0 h1
  have hn : (boolC B2).length = 256 := (boolC_len _).trans B2_len
  generalize blnB c = v at *
  refine FR.of q59 (by kernel_rfl) ?_
  unfold c59
  repeat' (first
    | (refine WO.iaddrA rfl rfl (by omega) (by omega) ?_)
    | (refine WO.loadO rfl ob (Nat.ble_eq_true_of_le (by omega)) hl ?_)
    | (refine LQ.fin ?_)
    | (refine EQ.fin rfl ?_)
    | (refine WO.mvs rfl ?_)
    | (refine WO.mvp rfl ?_)
    | (refine WO.mvt rfl ?_)
    | (refine WO.mv ?_)
    | (refine W.sreg ?_)
    | (refine W.sdraw ?_)
    | (refine W.reg ?_)
    | (refine W.draw ?_)
    | (refine WO.nil ?_)
    | (refine WO.gU rfl ?_)
    | (refine WO.gT rfl rfl ?_)
    | (refine WO.gF rfl rfl ?_)
    | (refine WO.ext rfl rfl ?_)
    | (refine WO.lenR (by assumption) ?_)
    | (refine WO.add rfl rfl (by first | exact wrOK (by simp only [loK, hiK]; omega) | rfl) ?_)
    | (refine WO.sub rfl rfl (by first | exact wrOK (by simp only [loK, hiK]; omega) | rfl) ?_)
    | (refine WO.lss rfl rfl ?_)
    | (refine WO.leq rfl rfl ?_)
    | (refine WO.gtr rfl rfl ?_)
    | (refine WO.geq rfl rfl ?_)
    | (refine WO.eql rfl rfl ?_)
    | (refine WO.neq rfl rfl ?_)
    | (refine WO.seql rfl rfl ?_)
    | (refine WO.sneq rfl rfl ?_)
    | (refine WO.beql rfl rfl (tb rfl) ?_)
    | (refine WO.bneq rfl rfl (tb rfl) ?_)
    | (refine WO.not rfl ?_)
    | (refine WO.not0 rfl ?_)
    | (refine WO.cvi rfl (kd rfl) (kd rfl) (by first | exact wrOK (by simp only [loK, hiK]; omega) | rfl) ?_)
    | (refine WO.cvs rfl (st rfl) (st rfl) ?_)
    | (refine WO.ix rfl rfl (st rfl) (by first | assumption | omega) (by first | assumption | omega) ?_)
    | (refine WO.slen rfl (st rfl) ?_)
    | (refine WO.iaddr (by assumption) rfl rfl (by first | assumption | omega) (by first | assumption | omega) (fun q hq => ?_))
    | (refine WO.load (by assumption) rfl rfl ?_)
    | (refine WO.loadO rfl (by assumption) rfl rfl ?_)
    | (refine WO.faddrP (by assumption) rfl (fun q hq => ?_))
    | (refine WO.nilckP (by assumption) ?_)
    | (refine WO.nilck rfl ?_)
    | (refine WO.faddr rfl ?_)
    | (refine WO.fld rfl rfl rfl ?_)
    | (refine WO.pickT rfl ?_)
    | (refine WO.pickF rfl ?_)
    | (refine WO.sll rfl rfl (st rfl) (by first | assumption | omega) (by first | assumption | omega) ?_)
    | (refine WO.slh rfl rfl (st rfl) (by first | assumption | omega) (by first | assumption | omega) ?_)
    | (refine WO.slb rfl rfl rfl (st rfl) (by first | assumption | omega) (by first | assumption | omega) (by first | assumption | omega) ?_)
    | (refine WO.mul rfl rfl (by first | exact wrOK (by simp only [loK, hiK]; omega) | rfl) ?_)
    | (refine WO.quo rfl rfl (by first | assumption | omega) (by first | exact wrOK (by simp only [loK, hiK]; omega) | rfl) ?_)
    | (refine WO.rem rfl rfl (by first | assumption | omega) ?_)
    | (refine WO.and rfl rfl ?_)
    | (refine WO.or rfl rfl ?_)
    | (refine WO.xor rfl rfl ?_)
    | (refine WO.shl rfl rfl (by first | assumption | omega) (by simp [IntKind.bits]; rfl) ?_)
    | (refine WO.shr rfl rfl (by first | assumption | omega) (by simp [IntKind.bits]; rfl) ?_)
    | (refine WO.build (C := [_]) rfl ?_)
    | (refine WO.build (C := [_, _]) rfl ?_)
    | (refine WO.build (C := [_, _, _]) rfl ?_)
    | (refine WO.build (C := [_, _, _, _]) rfl ?_)
    | (refine WO.build (C := [_, _, _, _, _]) rfl ?_)
    | (refine WO.build (C := [_, _, _, _, _, _]) rfl ?_)
    | (refine WO.build (C := [_, _, _, _, _, _, _]) rfl ?_)
    | (refine WO.eqnil (by assumption) (fun hn1 hn2 => ?_) ?_)
    | (refine W.condT rfl ?_)
    | (refine W.condF rfl ?_)
    | (refine W.condDT rfl (by first | assumption | omega) ?_)
    | (refine W.condDF rfl (by first | assumption | omega) ?_)
    | (refine W.condD rfl (fun hc => ?_) (fun hc => ?_))
    | (refine WO.gS rfl (fun hc => ?_) (fun hc => ?_) <;> try (exfalso; omega))
    | (refine WO.pickS rfl (fun hc => ?_) (fun hc => ?_) <;> try (exfalso; omega))
    | (refine W.skip ?_)
    | (refine W.block ?_)
    | (refine W.drawA rfl ?_)
    | (refine W.sdrawA rfl ?_)
    | (refine And.intro rfl ?_)
    | (refine W.exit ?_)
    | (refine W.ret ?_)
    | (refine W.seq ?_)
    | (refine W.goto ?_)
    | (refine W.label ?_)
    | (refine SQ.nn ?_)
    | (refine SQ.x ?_)
    | (refine SQ.r ?_)
    | (refine SQ.g ?_)
    | (refine BQ.nn ?_)
    | (refine BQ.x ?_)
    | (refine BQ.r ?_)
    | (refine BQ.g ?_)
    | (refine BQ.y rfl ?_)
    | (refine LQ.x ?_)
    | (refine LQ.r ?_)
    | (refine LQ.g ?_)
    | (refine GQ.nn ?_)
    | (refine GQ.x ?_)
    | (refine GQ.r ?_))
  exact ⟨rfl, rfl⟩
/-- The rest of a text. -/
def sfx (s : ByteArray) (k : Nat) : ByteArray := s.extract k s.size
theorem sfx_size (s : ByteArray) (k : Nat) : (sfx s k).size = s.size - k := by unfold sfx; rw [ByteArray.size_extract]; omega
theorem sfx_bytes (s : ByteArray) (k : Nat) : bytesOf (sfx s k) = (bytesOf s).drop k := by
  unfold sfx
  rw [bytesOf_extract s k s.size (Nat.le_refl _), List.take_of_length_le (by rw [bytesOf_length]; exact Nat.le_refl _)]
theorem sfx_0 (s : ByteArray) : sfx s 0 = s := bytesOf_inj (by rw [sfx_bytes, List.drop_zero])
theorem sfx_sfx (s : ByteArray) (k j : Nat) : (sfx s k).extract j (sfx s k).size = sfx s (k + j) := by
  apply bytesOf_inj
  show bytesOf (sfx (sfx s k) j) = _
  rw [sfx_bytes, sfx_bytes, sfx_bytes, List.drop_drop]
theorem sfx_bt (s : ByteArray) (k j : Nat) : bt (sfx s k) (j : Int) = bt s ((k + j : Nat) : Int) := by
  have hz := sfx_size s k
  by_cases h : k + j < s.size
  · rw [← bytesOf_get (sfx s k) j (by omega), ← bytesOf_get s (k + j) h]
    simp only [sfx_bytes, List.getElem_drop]
  · unfold bt
    rw [dif_neg (by simp; omega), dif_neg (by simp; omega)]
def Trm (s : ByteArray) (k : Nat) : Prop := k ≤ s.size ∧ (∀ j : Nat, j < k → blnB (bt s (j : Int)) = true) ∧ (k < s.size → blnB (bt s (k : Int)) = false)
theorem trim49_FR {h : Heap} {b : Nat} (ob : Obj h b (boolC B2)) (s : ByteArray) (hs : s.size ≤ 140737488355328) : FR Tryd.prog TT 49 [.s (.string s), .pt b 0 0] h fun x H => ∃ k, x = .s (.string (sfx s k)) ∧ Trm s k ∧ H = h := by
  refine FR.of q49 (by kernel_rfl) ?_
  unfold c49
  repeat' (first
    | (refine W.loopI (σ := Nat) (fun k => [(0, .s (.string (sfx s k))), (1, .pt b 0 0)]) (fun k h' => h' = h ∧ k ≤ s.size ∧ ∀ j : Nat, j < k → blnB (bt s (j : Int)) = true) (fun k => s.size - k) 0 ⟨by rw [sfx_0]; rfl, rfl, trivial⟩ ⟨rfl, Nat.zero_le _, fun j hj => absurd hj (by omega)⟩ ?_; rintro k G h' ⟨rfl, hk, hb⟩; have hz := sfx_size s k; have hbt : bt (sfx s k) 0 = bt s (k : Int) := sfx_bt s k 0; have hr := bt_range (sfx s k) 0; have hc := fun hp (o : Obj hp b (boolC B2)) => has59_FR o (bt (sfx s k) 0) hr.1 hr.2; have hsf : (sfx s k).extract (1 : Int).toNat (sfx s k).size = sfx s (k + 1) := sfx_sfx s k 1; obtain ⟨vb, hvb⟩ : ∃ vb, blnB (bt s (k : Int)) = vb := ⟨_, rfl⟩; rw [hbt, hvb] at hc; generalize hsk : sfx s k = sk at *)
    | (refine WO.call rfl (hc _ ob) ?_; rintro _ H ⟨rfl, hH⟩; obtain rfl := hH.symm)
    | (refine WO.ix rfl rfl (st rfl) (by omega) (by omega) ?_; rw [hbt])
    | (refine LQ.fin ?_)
    | (refine EQ.fin rfl ?_)
    | (refine WO.mvs rfl ?_)
    | (refine WO.mvp rfl ?_)
    | (refine WO.mvt rfl ?_)
    | (refine WO.mv ?_)
    | (refine W.sreg ?_)
    | (refine W.sdraw ?_)
    | (refine W.reg ?_)
    | (refine W.draw ?_)
    | (refine WO.nil ?_)
    | (refine WO.gU rfl ?_)
    | (refine WO.gT rfl rfl ?_)
    | (refine WO.gF rfl rfl ?_)
    | (refine WO.ext rfl rfl ?_)
    | (refine WO.lenR (by assumption) ?_)
    | (refine WO.add rfl rfl (by first | exact wrOK (by simp only [loK, hiK]; omega) | rfl) ?_)
    | (refine WO.sub rfl rfl (by first | exact wrOK (by simp only [loK, hiK]; omega) | rfl) ?_)
    | (refine WO.lss rfl rfl ?_)
    | (refine WO.leq rfl rfl ?_)
    | (refine WO.gtr rfl rfl ?_)
    | (refine WO.geq rfl rfl ?_)
    | (refine WO.eql rfl rfl ?_)
    | (refine WO.neq rfl rfl ?_)
    | (refine WO.seql rfl rfl ?_)
    | (refine WO.sneq rfl rfl ?_)
    | (refine WO.beql rfl rfl (tb rfl) ?_)
    | (refine WO.bneq rfl rfl (tb rfl) ?_)
    | (refine WO.not rfl ?_)
    | (refine WO.not0 rfl ?_)
    | (refine WO.cvi rfl (kd rfl) (kd rfl) (by first | exact wrOK (by simp only [loK, hiK]; omega) | rfl) ?_)
    | (refine WO.cvs rfl (st rfl) (st rfl) ?_)
    | (refine WO.ix rfl rfl (st rfl) (by first | assumption | omega) (by first | assumption | omega) ?_)
    | (refine WO.slen rfl (st rfl) ?_)
    | (refine WO.iaddr (by assumption) rfl rfl (by first | assumption | omega) (by first | assumption | omega) (fun q hq => ?_))
    | (refine WO.load (by assumption) rfl rfl ?_)
    | (refine WO.loadO rfl (by assumption) rfl rfl ?_)
    | (refine WO.faddrP (by assumption) rfl (fun q hq => ?_))
    | (refine WO.nilckP (by assumption) ?_)
    | (refine WO.nilck rfl ?_)
    | (refine WO.faddr rfl ?_)
    | (refine WO.fld rfl rfl rfl ?_)
    | (refine WO.pickT rfl ?_)
    | (refine WO.pickF rfl ?_)
    | (refine WO.sll rfl rfl (st rfl) (by first | assumption | omega) (by first | assumption | omega) ?_)
    | (refine WO.slh rfl rfl (st rfl) (by first | assumption | omega) (by first | assumption | omega) ?_)
    | (refine WO.slb rfl rfl rfl (st rfl) (by first | assumption | omega) (by first | assumption | omega) (by first | assumption | omega) ?_)
    | (refine WO.mul rfl rfl (by first | exact wrOK (by simp only [loK, hiK]; omega) | rfl) ?_)
    | (refine WO.quo rfl rfl (by first | assumption | omega) (by first | exact wrOK (by simp only [loK, hiK]; omega) | rfl) ?_)
    | (refine WO.rem rfl rfl (by first | assumption | omega) ?_)
    | (refine WO.and rfl rfl ?_)
    | (refine WO.or rfl rfl ?_)
    | (refine WO.xor rfl rfl ?_)
    | (refine WO.shl rfl rfl (by first | assumption | omega) (by simp [IntKind.bits]; rfl) ?_)
    | (refine WO.shr rfl rfl (by first | assumption | omega) (by simp [IntKind.bits]; rfl) ?_)
    | (refine WO.build (C := [_]) rfl ?_)
    | (refine WO.build (C := [_, _]) rfl ?_)
    | (refine WO.build (C := [_, _, _]) rfl ?_)
    | (refine WO.build (C := [_, _, _, _]) rfl ?_)
    | (refine WO.build (C := [_, _, _, _, _]) rfl ?_)
    | (refine WO.build (C := [_, _, _, _, _, _]) rfl ?_)
    | (refine WO.build (C := [_, _, _, _, _, _, _]) rfl ?_)
    | (refine WO.eqnil (by assumption) (fun hn1 hn2 => ?_) ?_)
    | (refine W.condT rfl ?_)
    | (refine W.condF rfl ?_)
    | (refine W.condDT rfl (by first | assumption | omega) ?_)
    | (refine W.condDF rfl (by first | assumption | omega) ?_)
    | (refine W.condD rfl (fun hc => ?_) (fun hc => ?_))
    | (refine WO.gS rfl (fun hc => ?_) (fun hc => ?_) <;> try (exfalso; omega))
    | (refine WO.pickS rfl (fun hc => ?_) (fun hc => ?_) <;> try (exfalso; omega))
    | (refine W.skip ?_)
    | (refine W.block ?_)
    | (refine W.drawA rfl ?_)
    | (refine W.sdrawA rfl ?_)
    | (refine And.intro rfl ?_)
    | (refine W.exit ?_)
    | (refine W.ret ?_)
    | (refine W.seq ?_)
    | (refine W.goto ?_)
    | (refine W.label ?_)
    | (refine SQ.nn ?_)
    | (refine SQ.x ?_)
    | (refine SQ.r ?_)
    | (refine SQ.g ?_)
    | (refine BQ.nn ?_)
    | (refine BQ.x ?_)
    | (refine BQ.r ?_)
    | (refine BQ.g ?_)
    | (refine BQ.y rfl ?_)
    | (refine LQ.x ?_)
    | (refine LQ.r ?_)
    | (refine LQ.g ?_)
    | (refine GQ.nn ?_)
    | (refine GQ.x ?_)
    | (refine GQ.r ?_)
    | (cases vb))
  · exact ⟨k, by rw [hsk]; rfl, ⟨hk, hb, fun _ => hvb⟩, rfl⟩
  · refine ⟨k + 1, by omega, ⟨by rw [← hsf]; rfl, rfl, trivial⟩, rfl, by omega, fun j hj => ?_⟩
    rcases Nat.lt_or_ge j k with h | h
    · exact hb j h
    · obtain rfl : j = k := by omega
      exact hvb
  all_goals exact ⟨k, by rw [hsk]; rfl, ⟨hk, hb, fun h => absurd h (by omega)⟩, rfl⟩
theorem trim32_FR (h : Heap) (s : ByteArray) (hs : s.size ≤ 140737488355328) : FR Tryd.prog TT 32 [.s (.string s), .s (.string BT)] h fun x H => ∃ k, x = .s (.string (sfx s k)) ∧ Trm s k ∧ Grows h H := by
  have h2 := BT_size
  have hne : BT ≠ ⟨#[]⟩ := by decide
  refine FR.of q32 (by kernel_rfl) ?_
  unfold c32
  repeat' (first
    | (refine WO.call rfl (set48_FR _) ?_; rintro _ H1 ⟨rfl, g1⟩)
    | (refine WO.mvE (.ag (boolC B2)) rfl ?_)
    | (refine WO.new (fun b H2 hb g2 ob => ?_); rw [z256] at ob)
    | (refine WO.storeO (C' := boolC B2) (lv := boolC B2) rfl ob rfl (by kernel_rfl) (boolC_cell _) (by kernel_rfl) st4 (fun H3 ob3 u3 => ?_); have k9 := trim49_FR ob3 s hs; have g3 := u3.grows g2 hb)
    | (refine WO.call rfl k9 ?_; rintro _ H ⟨k, rfl, hk, hH⟩; obtain rfl := hH.symm)
    | (refine LQ.fin ?_)
    | (refine EQ.fin rfl ?_)
    | (refine WO.mvs rfl ?_)
    | (refine WO.mvp rfl ?_)
    | (refine WO.mvt rfl ?_)
    | (refine WO.mv ?_)
    | (refine W.sreg ?_)
    | (refine W.sdraw ?_)
    | (refine W.reg ?_)
    | (refine W.draw ?_)
    | (refine WO.nil ?_)
    | (refine WO.gU rfl ?_)
    | (refine WO.gT rfl rfl ?_)
    | (refine WO.gF rfl rfl ?_)
    | (refine WO.ext rfl rfl ?_)
    | (refine WO.lenR (by assumption) ?_)
    | (refine WO.add rfl rfl (by first | exact wrOK (by simp only [loK, hiK]; omega) | rfl) ?_)
    | (refine WO.sub rfl rfl (by first | exact wrOK (by simp only [loK, hiK]; omega) | rfl) ?_)
    | (refine WO.lss rfl rfl ?_)
    | (refine WO.leq rfl rfl ?_)
    | (refine WO.gtr rfl rfl ?_)
    | (refine WO.geq rfl rfl ?_)
    | (refine WO.eql rfl rfl ?_)
    | (refine WO.neq rfl rfl ?_)
    | (refine WO.seql rfl rfl ?_)
    | (refine WO.sneq rfl rfl ?_)
    | (refine WO.beql rfl rfl (tb rfl) ?_)
    | (refine WO.bneq rfl rfl (tb rfl) ?_)
    | (refine WO.not rfl ?_)
    | (refine WO.not0 rfl ?_)
    | (refine WO.cvi rfl (kd rfl) (kd rfl) (by first | exact wrOK (by simp only [loK, hiK]; omega) | rfl) ?_)
    | (refine WO.cvs rfl (st rfl) (st rfl) ?_)
    | (refine WO.ix rfl rfl (st rfl) (by first | assumption | omega) (by first | assumption | omega) ?_)
    | (refine WO.slen rfl (st rfl) ?_)
    | (refine WO.iaddr (by assumption) rfl rfl (by first | assumption | omega) (by first | assumption | omega) (fun q hq => ?_))
    | (refine WO.load (by assumption) rfl rfl ?_)
    | (refine WO.loadO rfl (by assumption) rfl rfl ?_)
    | (refine WO.faddrP (by assumption) rfl (fun q hq => ?_))
    | (refine WO.nilckP (by assumption) ?_)
    | (refine WO.nilck rfl ?_)
    | (refine WO.faddr rfl ?_)
    | (refine WO.fld rfl rfl rfl ?_)
    | (refine WO.pickT rfl ?_)
    | (refine WO.pickF rfl ?_)
    | (refine WO.sll rfl rfl (st rfl) (by first | assumption | omega) (by first | assumption | omega) ?_)
    | (refine WO.slh rfl rfl (st rfl) (by first | assumption | omega) (by first | assumption | omega) ?_)
    | (refine WO.slb rfl rfl rfl (st rfl) (by first | assumption | omega) (by first | assumption | omega) (by first | assumption | omega) ?_)
    | (refine WO.mul rfl rfl (by first | exact wrOK (by simp only [loK, hiK]; omega) | rfl) ?_)
    | (refine WO.quo rfl rfl (by first | assumption | omega) (by first | exact wrOK (by simp only [loK, hiK]; omega) | rfl) ?_)
    | (refine WO.rem rfl rfl (by first | assumption | omega) ?_)
    | (refine WO.and rfl rfl ?_)
    | (refine WO.or rfl rfl ?_)
    | (refine WO.xor rfl rfl ?_)
    | (refine WO.shl rfl rfl (by first | assumption | omega) (by simp [IntKind.bits]; rfl) ?_)
    | (refine WO.shr rfl rfl (by first | assumption | omega) (by simp [IntKind.bits]; rfl) ?_)
    | (refine WO.build (C := [_]) rfl ?_)
    | (refine WO.build (C := [_, _]) rfl ?_)
    | (refine WO.build (C := [_, _, _]) rfl ?_)
    | (refine WO.build (C := [_, _, _, _]) rfl ?_)
    | (refine WO.build (C := [_, _, _, _, _]) rfl ?_)
    | (refine WO.build (C := [_, _, _, _, _, _]) rfl ?_)
    | (refine WO.build (C := [_, _, _, _, _, _, _]) rfl ?_)
    | (refine WO.eqnil (by assumption) (fun hn1 hn2 => ?_) ?_)
    | (refine W.condT rfl ?_)
    | (refine W.condF rfl ?_)
    | (refine W.condDT rfl (by first | assumption | omega) ?_)
    | (refine W.condDF rfl (by first | assumption | omega) ?_)
    | (refine W.condD rfl (fun hc => ?_) (fun hc => ?_))
    | (refine WO.gS rfl (fun hc => ?_) (fun hc => ?_) <;> try (exfalso; omega))
    | (refine WO.pickS rfl (fun hc => ?_) (fun hc => ?_) <;> try (exfalso; omega))
    | (refine W.skip ?_)
    | (refine W.block ?_)
    | (refine W.drawA rfl ?_)
    | (refine W.sdrawA rfl ?_)
    | (refine And.intro rfl ?_)
    | (refine W.exit ?_)
    | (refine W.ret ?_)
    | (refine W.seq ?_)
    | (refine W.goto ?_)
    | (refine W.label ?_)
    | (refine SQ.nn ?_)
    | (refine SQ.x ?_)
    | (refine SQ.r ?_)
    | (refine SQ.g ?_)
    | (refine BQ.nn ?_)
    | (refine BQ.x ?_)
    | (refine BQ.r ?_)
    | (refine BQ.g ?_)
    | (refine BQ.y rfl ?_)
    | (refine LQ.x ?_)
    | (refine LQ.r ?_)
    | (refine LQ.g ?_)
    | (refine GQ.nn ?_)
    | (refine GQ.x ?_)
    | (refine GQ.r ?_))
  · exact ⟨0, by rw [sfx_0]; rfl, ⟨Nat.zero_le _, fun j hj => absurd hj (by omega), fun h => absurd h (by rw [hc]; decide)⟩, Grows.refl _⟩
  · exact ⟨k, rfl, hk, g1.trans g3⟩
end Go.Proofs.YtffjdidakeinjaaDoor.AS
end
section
set_option autoImplicit false
set_option maxRecDepth 100000
set_option maxHeartbeats 4000000
set_option linter.unusedSimpArgs false
set_option linter.unusedVariables false
namespace Go.Proofs.YtffjdidakeinjaaDoor.AS
open Go Go.Proofs Go.RowKit Go.Proofs.YtffjdidakeinjaaDoor.AS.V

def numC (L : List Int) : List AV := L.map fun m => .s (.int .u8 m)
theorem numC_len (L : List Int) : (numC L).length = L.length := List.length_map _
theorem numC_cell : ∀ L : List Int, (numC L).all isCell = true
  | [] => rfl
  | _ :: L => numC_cell L
theorem set_eq {α : Type} : ∀ (L : List α) (o : Nat) (v : α), o < L.length → L.take o ++ [v] ++ L.drop (o + 1) = L.set o v
  | [], o, v, h => absurd h (by simp)
  | x :: L, 0, v, _ => rfl
  | x :: L, o + 1, v, h => by
    have := set_eq L o v (by simpa using h)
    rw [List.take_succ_cons, List.drop_succ_cons, List.set_cons_succ, ← this]; rfl
theorem numC_set (L : List Int) (o : Nat) (v : Int) (h : o < L.length) : (numC L).take o ++ [.s (.int .u8 v)] ++ (numC L).drop (o + 1) = numC (L.set o v) := by
  rw [set_eq _ _ _ (by rw [numC_len]; exact h)]
  unfold numC
  rw [List.map_set]
def fillT : Nat → List Int
  | 0 => List.replicate 256 0
  | k + 1 => (fillT k).set k 255
def numT : Nat → List Int
  | 0 => fillT 256
  | k + 1 => (numT k).set (bt LT (k : Int)).toNat (k : Int)
theorem fillT_len : ∀ k, (fillT k).length = 256
  | 0 => List.length_replicate
  | k + 1 => by rw [fillT, List.length_set, fillT_len k]
theorem numT_len : ∀ k, (numT k).length = 256
  | 0 => fillT_len 256
  | k + 1 => by rw [numT, List.length_set, numT_len k]
/-- The table of letters' numbers. -/
def NT : List Int := numT 64
theorem NT_len : NT.length = 256 := numT_len 64
theorem NT_at : ∀ c : Fin 256, (NT.drop c.val).take 1 = [if findS (c.val : Int) = -1 then 255 else findS (c.val : Int)] := by decide +kernel
theorem z256n : (List.replicate 256 (Value.int .u8 0)).map AV.s = numC (fillT 0) := by kernel_rfl
theorem stN (L : List Int) (h : L.length = 256) : (numC (fillT 0)).take 0 ++ numC L ++ (numC (fillT 0)).drop (0 + 256) = numC L := by
  rw [List.take_zero, List.nil_append, List.drop_eq_nil_of_le (by rw [numC_len, fillT_len]; exact Nat.le_refl _), List.append_nil]
theorem ldN (L : List Int) (h : L.length = 256) : oneOr true (((numC L).drop 0).take 256) = some (.ag (numC L)) := by
  rw [List.drop_zero, List.take_of_length_le (by rw [numC_len]; omega)]; rfl
theorem nums_FR (h : Heap) : FR Tryd.prog TT 24 [] h fun x H => x = .ag (numC NT) ∧ Grows h H := by
  have hs := LT_size
  have hn := NT_len
  refine FR.of q24 (by kernel_rfl) ?_
  unfold c24
  repeat' (first
    | (refine WO.mvE (.ag (numC NT)) rfl ?_)
    | ((first | (have := tag0; refine WO.new (fun b1 H1 hb1 g1 ob1 => ?_); rw [z256n] at ob1) | (refine WO.new (fun b0 H0 hb0 g0 ob0 => ?_); rw [z256n] at ob0; have tag0 : True := trivial)))
    | (refine W.loopI (σ := Nat) (fun k => [(0, .pt b0 0 0), (1, .pt b1 0 0), (4, .s (.int .i64 k))]) (fun k h' => Obj h' b1 (numC (fillT k)) ∧ Obj h' b0 (numC (fillT 0)) ∧ Grows h h' ∧ k ≤ 256) (fun k => 256 - k) 0 ⟨rfl, rfl, rfl, trivial⟩ ⟨ob1, ob0.grows g1, g0.trans g1, by omega⟩ ?_; rintro k G h' ⟨o1, o0, gg, hk⟩; have hl := fillT_len k)
    | (have hk256 : k = 256 := (by omega); refine W.loopI (σ := Nat) (fun k => [(0, .pt b0 0 0), (1, .pt b1 0 0), (10, .s (.int .i64 k))]) (fun k h' => Obj h' b1 (numC (numT k)) ∧ Obj h' b0 (numC (fillT 0)) ∧ Grows h h' ∧ k ≤ 64) (fun k => 64 - k) 0 ⟨rfl, rfl, rfl, trivial⟩ ⟨(by subst hk256; exact o1), o0, gg, by omega⟩ ?_; rintro k2 G2 h2 ⟨o1', o0', gg', hk2⟩; have hl2 := numT_len k2; have hb := bt_range LT (k2 : Int))
    | (refine WO.ix (s := LT) rfl rfl (st rfl) (by omega) (by omega) ?_)
    | (refine WO.iaddrA rfl rfl (by omega) (by omega) ?_)
    | (refine WO.storeO (C' := numC (fillT (k + 1))) rfl o1 rfl rfl rfl (Nat.ble_eq_true_of_le (by rw [numC_len]; omega)) (by rw [show 0 + ((k : Nat) : Int).toNat * 1 = k by omega]; exact numC_set _ _ _ (by omega)) (fun H3 o1b u1 => ?_))
    | (refine WO.storeO (C' := numC (numT (k2 + 1))) rfl o1' rfl rfl rfl (Nat.ble_eq_true_of_le (by rw [numC_len]; omega)) (by rw [show 0 + (bt LT (k2 : Int)).toNat * 1 = (bt LT (k2 : Int)).toNat by omega]; exact numC_set _ _ _ (by omega)) (fun H3 o1b u1 => ?_))
    | (have e64 : k2 = 64 := (by omega); subst e64; refine WO.loadO rfl o1' (Nat.ble_eq_true_of_le (by rw [numC_len]; omega)) (ldN _ (by omega)) ?_)
    | (refine WO.storeO (C' := numC NT) (lv := numC NT) rfl o0' rfl (by rw [numC_len, hn]; rfl) (numC_cell _) (Nat.ble_eq_true_of_le (by rw [numC_len, fillT_len]; omega)) (stN _ hn) (fun H4 o4 u4 => ?_))
    | (refine EQ.fin (resC (v := .ag (numC NT)) rfl o4 (by rw [numC_len]; omega) (ldN _ hn) rfl) ?_)
    | (refine LQ.fin ?_)
    | (refine WO.mvs rfl ?_)
    | (refine WO.mvp rfl ?_)
    | (refine WO.mvt rfl ?_)
    | (refine WO.mv ?_)
    | (refine W.sreg ?_)
    | (refine W.sdraw ?_)
    | (refine W.reg ?_)
    | (refine W.draw ?_)
    | (refine WO.nil ?_)
    | (refine WO.gU rfl ?_)
    | (refine WO.gT rfl rfl ?_)
    | (refine WO.gF rfl rfl ?_)
    | (refine WO.ext rfl rfl ?_)
    | (refine WO.lenR (by assumption) ?_)
    | (refine WO.add rfl rfl (by first | exact wrOK (by simp only [loK, hiK]; omega) | rfl) ?_)
    | (refine WO.sub rfl rfl (by first | exact wrOK (by simp only [loK, hiK]; omega) | rfl) ?_)
    | (refine WO.lss rfl rfl ?_)
    | (refine WO.leq rfl rfl ?_)
    | (refine WO.gtr rfl rfl ?_)
    | (refine WO.geq rfl rfl ?_)
    | (refine WO.eql rfl rfl ?_)
    | (refine WO.neq rfl rfl ?_)
    | (refine WO.seql rfl rfl ?_)
    | (refine WO.sneq rfl rfl ?_)
    | (refine WO.beql rfl rfl (tb rfl) ?_)
    | (refine WO.bneq rfl rfl (tb rfl) ?_)
    | (refine WO.not rfl ?_)
    | (refine WO.not0 rfl ?_)
    | (refine WO.cvi rfl (kd rfl) (kd rfl) (by first | exact wrOK (by simp only [loK, hiK]; omega) | rfl) ?_)
    | (refine WO.cvs rfl (st rfl) (st rfl) ?_)
    | (refine WO.ix rfl rfl (st rfl) (by first | assumption | omega) (by first | assumption | omega) ?_)
    | (refine WO.slen rfl (st rfl) ?_)
    | (refine WO.iaddr (by assumption) rfl rfl (by first | assumption | omega) (by first | assumption | omega) (fun q hq => ?_))
    | (refine WO.load (by assumption) rfl rfl ?_)
    | (refine WO.loadO rfl (by assumption) rfl rfl ?_)
    | (refine WO.faddrP (by assumption) rfl (fun q hq => ?_))
    | (refine WO.nilckP (by assumption) ?_)
    | (refine WO.nilck rfl ?_)
    | (refine WO.faddr rfl ?_)
    | (refine WO.fld rfl rfl rfl ?_)
    | (refine WO.pickT rfl ?_)
    | (refine WO.pickF rfl ?_)
    | (refine WO.sll rfl rfl (st rfl) (by first | assumption | omega) (by first | assumption | omega) ?_)
    | (refine WO.slh rfl rfl (st rfl) (by first | assumption | omega) (by first | assumption | omega) ?_)
    | (refine WO.slb rfl rfl rfl (st rfl) (by first | assumption | omega) (by first | assumption | omega) (by first | assumption | omega) ?_)
    | (refine WO.mul rfl rfl (by first | exact wrOK (by simp only [loK, hiK]; omega) | rfl) ?_)
    | (refine WO.quo rfl rfl (by first | assumption | omega) (by first | exact wrOK (by simp only [loK, hiK]; omega) | rfl) ?_)
    | (refine WO.rem rfl rfl (by first | assumption | omega) ?_)
    | (refine WO.and rfl rfl ?_)
    | (refine WO.or rfl rfl ?_)
    | (refine WO.xor rfl rfl ?_)
    | (refine WO.shl rfl rfl (by first | assumption | omega) (by simp [IntKind.bits]; rfl) ?_)
    | (refine WO.shr rfl rfl (by first | assumption | omega) (by simp [IntKind.bits]; rfl) ?_)
    | (refine WO.build (C := [_]) rfl ?_)
    | (refine WO.build (C := [_, _]) rfl ?_)
    | (refine WO.build (C := [_, _, _]) rfl ?_)
    | (refine WO.build (C := [_, _, _, _]) rfl ?_)
    | (refine WO.build (C := [_, _, _, _, _]) rfl ?_)
    | (refine WO.build (C := [_, _, _, _, _, _]) rfl ?_)
    | (refine WO.build (C := [_, _, _, _, _, _, _]) rfl ?_)
    | (refine WO.eqnil (by assumption) (fun hn1 hn2 => ?_) ?_)
    | (refine W.condT rfl ?_)
    | (refine W.condF rfl ?_)
    | (refine W.condDT rfl (by first | assumption | omega) ?_)
    | (refine W.condDF rfl (by first | assumption | omega) ?_)
    | (refine W.condD rfl (fun hc => ?_) (fun hc => ?_))
    | (refine WO.gS rfl (fun hc => ?_) (fun hc => ?_) <;> try (exfalso; omega))
    | (refine WO.pickS rfl (fun hc => ?_) (fun hc => ?_) <;> try (exfalso; omega))
    | (refine W.skip ?_)
    | (refine W.block ?_)
    | (refine W.drawA rfl ?_)
    | (refine W.sdrawA rfl ?_)
    | (refine And.intro rfl ?_)
    | (refine W.exit ?_)
    | (refine W.ret ?_)
    | (refine W.seq ?_)
    | (refine W.goto ?_)
    | (refine W.label ?_)
    | (refine SQ.nn ?_)
    | (refine SQ.x ?_)
    | (refine SQ.r ?_)
    | (refine SQ.g ?_)
    | (refine BQ.nn ?_)
    | (refine BQ.x ?_)
    | (refine BQ.r ?_)
    | (refine BQ.g ?_)
    | (refine BQ.y rfl ?_)
    | (refine LQ.x ?_)
    | (refine LQ.r ?_)
    | (refine LQ.g ?_)
    | (refine GQ.nn ?_)
    | (refine GQ.x ?_)
    | (refine GQ.r ?_))
  · exact ⟨k + 1, by omega, ⟨rfl, rfl, rfl, trivial⟩, o1b, o0.upd u1 (by have := ob0.lt; omega), u1.grows gg (by have := g0.len; omega), by omega⟩
  · exact ⟨k2 + 1, by omega, ⟨rfl, rfl, rfl, trivial⟩, o1b, o0'.upd u1 (by have := ob0.lt; omega), u1.grows gg' (by have := g0.len; omega), by omega⟩
  · exact ⟨rfl, u4.grows gg' hb0⟩
end Go.Proofs.YtffjdidakeinjaaDoor.AS
end
section
set_option autoImplicit false
set_option maxRecDepth 100000
set_option maxHeartbeats 4000000
set_option linter.unusedSimpArgs false
set_option linter.unusedVariables false
namespace Go.Proofs.YtffjdidakeinjaaDoor.AS
open Go Go.Proofs Go.RowKit Go.Proofs.YtffjdidakeinjaaDoor.AS.V

/-- What letters in base64 say, behind bits that are left. -/
def fb : List Int → Int → Nat → List Int × Int
  | [], _, _ => ([], 0)
  | c :: r, v, m => if c = 61 then ([], 0) else if findS c = -1 then ((fb r v m).1, (if blkS c = true then 0 else 1) + (fb r v m).2)
    else if m = 0 then fb r (v * 64 + findS c) 6 else ((v * 64 + findS c) / 2 ^ (m - 2) :: (fb r ((v * 64 + findS c) % 2 ^ (m - 2)) (m - 2)).1, (fb r ((v * 64 + findS c) % 2 ^ (m - 2)) (m - 2)).2)
def fbS (s : ByteArray) : List Int × Int := fb (bytesOf s) 0 0
theorem fb_end {c v : Int} {r : List Int} {m : Nat} (h : c = 61) : fb (c :: r) v m = ([], 0) := by rw [fb, if_pos h]
theorem fb_skip {c v : Int} {r : List Int} {m : Nat} (h : ¬ c = 61) (h2 : findS c = -1) : fb (c :: r) v m = ((fb r v m).1, (if blkS c = true then 0 else 1) + (fb r v m).2) := by rw [fb, if_neg h, if_pos h2]
theorem fb_0 {c v : Int} {r : List Int} (h : ¬ c = 61) (h2 : ¬ findS c = -1) : fb (c :: r) v 0 = fb r (v * 64 + findS c) 6 := by rw [fb, if_neg h, if_neg h2, if_pos rfl]
theorem fb_m {c v : Int} {r : List Int} {m : Nat} (h : ¬ c = 61) (h2 : ¬ findS c = -1) (hm : m ≠ 0) : fb (c :: r) v m = ((v * 64 + findS c) / 2 ^ (m - 2) :: (fb r ((v * 64 + findS c) % 2 ^ (m - 2)) (m - 2)).1, (fb r ((v * 64 + findS c) % 2 ^ (m - 2)) (m - 2)).2) := by rw [fb, if_neg h, if_neg h2, if_neg hm]
/-- What stands, and what is still to come. -/
def FbI (R : List Int × Int) (O : List Int) (bad : Int) (D : List Int) (v : Int) (m : Nat) : Prop := O ++ (fb D v m).1 = R.1 ∧ bad + (fb D v m).2 = R.2
section
variable {R : List Int × Int} {O D : List Int} {bad c v : Int} {m : Nat}
theorem FbI.ini (s : ByteArray) : FbI (fbS s) [] 0 ((bytesOf s).drop 0) ((0 : Int) % 2 ^ 0) 0 := ⟨by rw [List.drop_zero]; rfl, by rw [List.drop_zero]; exact Int.zero_add _⟩
theorem FbI.nil (h : FbI R O bad [] v m) : R = (O, bad) := by
  obtain ⟨h1, h2⟩ := h
  rw [fb] at h1 h2
  simp only [List.append_nil, Int.add_zero] at h1 h2
  rw [h1, h2]
theorem FbI.fin (h : FbI R O bad (c :: D) v m) (hc : c = 61) : R = (O, bad) := by
  obtain ⟨h1, h2⟩ := h
  rw [fb_end hc] at h1 h2
  simp only [List.append_nil, Int.add_zero] at h1 h2
  rw [h1, h2]
theorem FbI.skip {k : Int} (h : FbI R O bad (c :: D) v m) (hc : ¬ c = 61) (hf : findS c = -1) (hk : (if blkS c = true then 0 else 1) = k) : FbI R O (bad + k) D v m := by
  obtain ⟨h1, h2⟩ := h
  rw [fb_skip hc hf] at h1 h2
  exact ⟨h1, by rw [← h2, ← hk]; simp only; omega⟩
theorem FbI.z {w : Int} (h : FbI R O bad (c :: D) v 0) (hc : ¬ c = 61) (hf : ¬ findS c = -1) (hw : v * 64 + findS c = w) : FbI R O bad D w 6 := by
  subst hw
  obtain ⟨h1, h2⟩ := h
  rw [fb_0 hc hf] at h1 h2
  exact ⟨h1, h2⟩
theorem FbI.more {w x : Int} {m' : Nat} (h : FbI R O bad (c :: D) v m) (hc : ¬ c = 61) (hf : ¬ findS c = -1) (hm : m ≠ 0) (hm' : m - 2 = m') (hw : (v * 64 + findS c) % 2 ^ m' = w) (hx : (v * 64 + findS c) / 2 ^ m' = x) : FbI R (O ++ [x]) bad D w m' := by
  subst hw hx hm'
  obtain ⟨h1, h2⟩ := h
  rw [fb_m hc hf hm] at h1 h2
  exact ⟨by rw [← h1, List.append_assoc]; rfl, h2⟩
end
theorem ldT {c : Int} (h0 : 0 ≤ c) (h1 : c ≤ 255) : ∃ tv, oneOr false (((numC NT).drop (0 + c.toNat * 1)).take 1) = some (.s (.int .u8 tv)) ∧ ((findS c = -1 ∧ tv = 255) ∨ (0 ≤ findS c ∧ findS c < 64 ∧ tv = findS c)) := by
  have e := NT_at ⟨c.toNat, by omega⟩
  have hf := find2' h0 h1
  simp only at e
  rw [show ((c.toNat : Nat) : Int) = c by omega] at e
  refine ⟨if findS c = -1 then 255 else findS c, ?_, ?_⟩
  · rw [show 0 + c.toNat * 1 = c.toNat by omega]
    unfold numC
    rw [← List.map_drop, ← List.map_take, e]
    rfl
  · split <;> omega
theorem ntle {c : Int} (h0 : 0 ≤ c) (h1 : c ≤ 255) : Nat.ble (0 + c.toNat * 1 + 1) (numC NT).length = true := by
  rw [numC_len, NT_len]; exact Nat.ble_eq_true_of_le (by omega)
theorem from9_FR (h : Heap) (s : ByteArray) (hs : s.size ≤ 140737488355328) : FR Tryd.prog TT 9 [.s (.string s)] h fun x H => x = .tp [.s (.string (strOfNums (fbS s).1)), .s (.int .i64 (fbS s).2)] ∧ Grows h H := by
  refine FR.of q9 (by kernel_rfl) ?_
  unfold c9
  repeat' (first
    | (refine WO.mvE out rfl ?_)
    | (refine WO.mvE (.ag (numC NT)) rfl ?_)
    | (refine WO.iaddrA rfl rfl (by omega) (by omega) ?_)
    | (refine WO.loadO rfl ob (ntle hr.1 hr.2) htv ?_)
    | (refine WO.shl (r := (bits * 64) % 4294967296) rfl rfl (by omega) (by rw [show (2 : Int) ^ (min (6 : Int).toNat IntKind.u32.bits) = 64 from rfl]; exact wrapU _) ?_)
    | (refine WO.orU 6 rfl rfl (by omega) (by omega) (by omega) (by omega) (by omega) (by omega) ?_)
    | (refine WO.shr (r := _ / 2 ^ _) rfl rfl (by omega) rfl ?_)
    | (refine WO.cvi rfl (kd rfl) (kd rfl) (wrap8 _) ?_)
    | (refine LQ.fin ?_)
    | (refine EQ.fin rfl ?_)
    | (refine WO.mvs rfl ?_)
    | (refine WO.mvp rfl ?_)
    | (refine WO.mvt rfl ?_)
    | (refine WO.mv ?_)
    | (refine W.sreg ?_)
    | (refine W.sdraw ?_)
    | (refine W.reg ?_)
    | (refine W.draw ?_)
    | (refine WO.nil ?_)
    | (refine WO.gU rfl ?_)
    | (refine WO.gT rfl rfl ?_)
    | (refine WO.gF rfl rfl ?_)
    | (refine WO.ext rfl rfl ?_)
    | (refine WO.lenR (by assumption) ?_)
    | (refine WO.add rfl rfl (by first | exact wrOK (by simp only [loK, hiK]; omega) | rfl) ?_)
    | (refine WO.sub rfl rfl (by first | exact wrOK (by simp only [loK, hiK]; omega) | rfl) ?_)
    | (refine WO.lss rfl rfl ?_)
    | (refine WO.leq rfl rfl ?_)
    | (refine WO.gtr rfl rfl ?_)
    | (refine WO.geq rfl rfl ?_)
    | (refine WO.eql rfl rfl ?_)
    | (refine WO.neq rfl rfl ?_)
    | (refine WO.seql rfl rfl ?_)
    | (refine WO.sneq rfl rfl ?_)
    | (refine WO.beql rfl rfl (tb rfl) ?_)
    | (refine WO.bneq rfl rfl (tb rfl) ?_)
    | (refine WO.not rfl ?_)
    | (refine WO.not0 rfl ?_)
    | (refine WO.cvi rfl (kd rfl) (kd rfl) (by first | exact wrOK (by simp only [loK, hiK]; omega) | rfl) ?_)
    | (refine WO.cvs rfl (st rfl) (st rfl) ?_)
    | (refine WO.ix rfl rfl (st rfl) (by first | assumption | omega) (by first | assumption | omega) ?_)
    | (refine WO.slen rfl (st rfl) ?_)
    | (refine WO.iaddr (by assumption) rfl rfl (by first | assumption | omega) (by first | assumption | omega) (fun q hq => ?_))
    | (refine WO.load (by assumption) rfl rfl ?_)
    | (refine WO.loadO rfl (by assumption) rfl rfl ?_)
    | (refine WO.faddrP (by assumption) rfl (fun q hq => ?_))
    | (refine WO.nilckP (by assumption) ?_)
    | (refine WO.nilck rfl ?_)
    | (refine WO.faddr rfl ?_)
    | (refine WO.fld rfl rfl rfl ?_)
    | (refine WO.pickT rfl ?_)
    | (refine WO.pickF rfl ?_)
    | (refine WO.sll rfl rfl (st rfl) (by first | assumption | omega) (by first | assumption | omega) ?_)
    | (refine WO.slh rfl rfl (st rfl) (by first | assumption | omega) (by first | assumption | omega) ?_)
    | (refine WO.slb rfl rfl rfl (st rfl) (by first | assumption | omega) (by first | assumption | omega) (by first | assumption | omega) ?_)
    | (refine WO.mul rfl rfl (by first | exact wrOK (by simp only [loK, hiK]; omega) | rfl) ?_)
    | (refine WO.quo rfl rfl (by first | assumption | omega) (by first | exact wrOK (by simp only [loK, hiK]; omega) | rfl) ?_)
    | (refine WO.rem rfl rfl (by first | assumption | omega) ?_)
    | (refine WO.and rfl rfl ?_)
    | (refine WO.or rfl rfl ?_)
    | (refine WO.xor rfl rfl ?_)
    | (refine WO.shl rfl rfl (by first | assumption | omega) (by simp [IntKind.bits]; rfl) ?_)
    | (refine WO.shr rfl rfl (by first | assumption | omega) (by simp [IntKind.bits]; rfl) ?_)
    | (refine WO.build (C := [_]) rfl ?_)
    | (refine WO.build (C := [_, _]) rfl ?_)
    | (refine WO.build (C := [_, _, _]) rfl ?_)
    | (refine WO.build (C := [_, _, _, _]) rfl ?_)
    | (refine WO.build (C := [_, _, _, _, _]) rfl ?_)
    | (refine WO.build (C := [_, _, _, _, _, _]) rfl ?_)
    | (refine WO.build (C := [_, _, _, _, _, _, _]) rfl ?_)
    | (refine WO.eqnil (by assumption) (fun hn1 hn2 => ?_) ?_)
    | (refine W.condT rfl ?_)
    | (refine W.condF rfl ?_)
    | (refine W.condDT rfl (by first | assumption | omega) ?_)
    | (refine W.condDF rfl (by first | assumption | omega) ?_)
    | (refine W.condD rfl (fun hc => ?_) (fun hc => ?_))
    | (refine WO.gS rfl (fun hc => ?_) (fun hc => ?_) <;> try (exfalso; omega))
    | (refine WO.pickS rfl (fun hc => ?_) (fun hc => ?_) <;> try (exfalso; omega))
    | (refine W.skip ?_)
    | (refine W.block ?_)
    | (refine W.drawA rfl ?_)
    | (refine W.sdrawA rfl ?_)
    | (refine And.intro rfl ?_)
    | (refine W.exit ?_)
    | (refine W.ret ?_)
    | (refine W.seq ?_)
    | (refine W.goto ?_)
    | (refine W.label ?_)
    | (refine SQ.nn ?_)
    | (refine SQ.x ?_)
    | (refine SQ.r ?_)
    | (refine SQ.g ?_)
    | (refine BQ.nn ?_)
    | (refine BQ.x ?_)
    | (refine BQ.r ?_)
    | (refine BQ.g ?_)
    | (refine BQ.y rfl ?_)
    | (refine LQ.x ?_)
    | (refine LQ.r ?_)
    | (refine LQ.g ?_)
    | (refine GQ.nn ?_)
    | (refine GQ.x ?_)
    | (refine GQ.r ?_)
    | (refine WO.call rfl (hbl _) ?_; rintro _ H ⟨rfl, hH⟩; obtain rfl := hH.symm)
    | (refine WO.b2s ho.row ?_)
    | (refine WO.bslI rfl rfl (fun a1 H3 g3 o3 nw3 => ?_))
    | (refine WO.appO (ho.grows g3) o3.row rfl (encI_ok _ _) (by simp only [List.length_cons, List.length_nil]; omega) (by simp only [List.length_cons, List.length_nil]; omega) (fun a2 H4 out4 ap => ?_))
    | (cases vb)
    | (refine W.loopI (σ := Nat × Int × Nat × Int × AV × List Int) (fun σ => [(0, .s (.string s)), (4, .pt bb 0 0), (5, σ.2.2.2.2.1), (6, .s (.int .u32 σ.2.1)), (7, .s (.int .i64 σ.2.2.1)), (8, .s (.int .i64 σ.2.2.2.1)), (14, .s (.int .i64 s.size)), (15, .s (.int .i64 σ.1))]) (fun σ h' => Obj h' bb (numC NT) ∧ Out (encI .u8) 5 Hb h' σ.2.2.2.2.1 σ.2.2.2.2.2 ∧ σ.1 ≤ s.size ∧ (0 ≤ σ.2.1 ∧ σ.2.1 < 4294967296) ∧ (σ.2.2.1 = 0 ∨ σ.2.2.1 = 2 ∨ σ.2.2.1 = 4 ∨ σ.2.2.1 = 6) ∧ σ.2.2.2.2.2.length ≤ σ.1 ∧ (0 ≤ σ.2.2.2.1 ∧ σ.2.2.2.1 ≤ σ.1) ∧ FbI (fbS s) σ.2.2.2.2.2 σ.2.2.2.1 ((bytesOf s).drop σ.1) (σ.2.1 % 2 ^ σ.2.2.1) σ.2.2.1) (fun σ => s.size - σ.1) (0, 0, 0, 0, .s (.slice none 0 0), []) ⟨rfl, rfl, rfl, rfl, rfl, rfl, rfl, rfl, trivial⟩ ⟨obN, Out.nil (Grows.refl _), Nat.zero_le _, ⟨by decide, by decide⟩, .inl rfl, Nat.zero_le _, ⟨Int.le_refl _, Int.le_refl _⟩, FbI.ini s⟩ ?_; rintro ⟨i, bits, m, bad, out, O⟩ G h' ⟨ob, ho, hi, hbt, hm, hO, hbad, hF⟩; dsimp only at ob ho hi hbt hm hO hbad hF ⊢; have hr := bt_range s (i : Int); obtain ⟨tv, htv, htw⟩ := ldT hr.1 hr.2; obtain ⟨vb, hvb⟩ : ∃ vb, blkS (bt s (i : Int)) = vb := ⟨_, rfl⟩; have hbl := fun hp => blank_FR hp (bt s (i : Int)); rw [hvb] at hbl; have hdr := bytesOf_drop_cons s i; generalize fbS s = R at *)
    | (refine WO.call rfl (nums_FR _) ?_; rintro _ Ha ⟨rfl, ga⟩)
    | (refine WO.new (fun bb Hn hb gn ob0 => ?_); rw [z256n] at ob0)
    | (refine WO.storeO (C' := numC NT) (lv := numC NT) rfl ob0 rfl (by rw [numC_len, NT_len]; rfl) (numC_cell _) (Nat.ble_eq_true_of_le (by rw [numC_len, fillT_len]; omega)) (stN _ NT_len) (fun Hb obN uN => ?_); have gb := uN.grows (ga.trans gn) (by have := ga.len; omega)))
  · rw [hdr (by omega)] at hF
    have e := hF.fin (by assumption)
    exact ⟨by rw [e]; rfl, gb.trans ho.g⟩
  · rw [hdr (by omega)] at hF
    have e := hF.fin (by assumption)
    exact ⟨by rw [e]; rfl, gb.trans ho.g⟩
  · rw [hdr (by omega)] at hF
    have e := hF.skip (k := 1) (by assumption) (by omega) (by rw [hvb]; rfl)
    exact ⟨(i + 1, bits, m, bad + 1, out, O), by dsimp only; omega, ⟨rfl, rfl, rfl, rfl, rfl, rfl, rfl, rfl, trivial⟩, ob, ho, by dsimp only; omega, hbt, hm, by dsimp only; omega, by dsimp only; omega, e⟩
  · rw [hdr (by omega)] at hF
    have e := hF.skip (k := 0) (by assumption) (by omega) (by rw [hvb]; rfl)
    rw [Int.add_zero] at e
    exact ⟨(i + 1, bits, m, bad, out, O), by dsimp only; omega, ⟨rfl, rfl, rfl, rfl, rfl, rfl, rfl, rfl, trivial⟩, ob, ho, by dsimp only; omega, hbt, hm, by dsimp only; omega, by dsimp only; omega, e⟩
  · rw [hdr (by omega)] at hF
    have hne : bo out ≠ some bb := by
      intro hx
      have h1 := ho.nw bb hx
      have h2 := obN.lt
      omega
    rcases hm with rfl | rfl | rfl | rfl
    · exfalso; omega
    · have hp : (2 : Int) ^ (min (((2 : Nat) : Int) + 6 - 8).toNat IntKind.u32.bits) = 1 := rfl
      rw [hp] at out4
      have e := hF.more (m' := 0) (w := (bits * 64 % 4294967296 + tv) % 2 ^ 0) (x := (bits * 64 % 4294967296 + tv) / 1 % 256) (by assumption) (by omega) (by decide) rfl (by omega) (by omega)
      exact ⟨(i + 1, bits * 64 % 4294967296 + tv, 0, bad, a2, _), by dsimp only; omega, ⟨rfl, rfl, rfl, rfl, rfl, rfl, rfl, rfl, trivial⟩, (ob.grows g3).ap ap hne, out4, by dsimp only; omega, ⟨by dsimp only; omega, by dsimp only; omega⟩, by dsimp only; omega, by dsimp only; rw [List.length_append, List.length_singleton]; omega, by dsimp only; omega, e⟩
    · have hp : (2 : Int) ^ (min (((4 : Nat) : Int) + 6 - 8).toNat IntKind.u32.bits) = 4 := rfl
      rw [hp] at out4
      have e := hF.more (m' := 2) (w := (bits * 64 % 4294967296 + tv) % 2 ^ 2) (x := (bits * 64 % 4294967296 + tv) / 4 % 256) (by assumption) (by omega) (by decide) rfl (by omega) (by omega)
      exact ⟨(i + 1, bits * 64 % 4294967296 + tv, 2, bad, a2, _), by dsimp only; omega, ⟨rfl, rfl, rfl, rfl, rfl, rfl, rfl, rfl, trivial⟩, (ob.grows g3).ap ap hne, out4, by dsimp only; omega, ⟨by dsimp only; omega, by dsimp only; omega⟩, by dsimp only; omega, by dsimp only; rw [List.length_append, List.length_singleton]; omega, by dsimp only; omega, e⟩
    · have hp : (2 : Int) ^ (min (((6 : Nat) : Int) + 6 - 8).toNat IntKind.u32.bits) = 16 := rfl
      rw [hp] at out4
      have e := hF.more (m' := 4) (w := (bits * 64 % 4294967296 + tv) % 2 ^ 4) (x := (bits * 64 % 4294967296 + tv) / 16 % 256) (by assumption) (by omega) (by decide) rfl (by omega) (by omega)
      exact ⟨(i + 1, bits * 64 % 4294967296 + tv, 4, bad, a2, _), by dsimp only; omega, ⟨rfl, rfl, rfl, rfl, rfl, rfl, rfl, rfl, trivial⟩, (ob.grows g3).ap ap hne, out4, by dsimp only; omega, ⟨by dsimp only; omega, by dsimp only; omega⟩, by dsimp only; omega, by dsimp only; rw [List.length_append, List.length_singleton]; omega, by dsimp only; omega, e⟩
  · rw [hdr (by omega)] at hF
    have hne : bo out ≠ some bb := by
      intro hx
      have h1 := ho.nw bb hx
      have h2 := obN.lt
      omega
    rcases hm with rfl | rfl | rfl | rfl
    · exfalso; omega
    · have hp : (2 : Int) ^ (min (((2 : Nat) : Int) + 6 - 8).toNat IntKind.u32.bits) = 1 := rfl
      rw [hp] at out4
      have e := hF.more (m' := 0) (w := (bits * 64 % 4294967296 + tv) % 2 ^ 0) (x := (bits * 64 % 4294967296 + tv) / 1 % 256) (by assumption) (by omega) (by decide) rfl (by omega) (by omega)
      exact ⟨(i + 1, bits * 64 % 4294967296 + tv, 0, bad, a2, _), by dsimp only; omega, ⟨rfl, rfl, rfl, rfl, rfl, rfl, rfl, rfl, trivial⟩, (ob.grows g3).ap ap hne, out4, by dsimp only; omega, ⟨by dsimp only; omega, by dsimp only; omega⟩, by dsimp only; omega, by dsimp only; rw [List.length_append, List.length_singleton]; omega, by dsimp only; omega, e⟩
    · have hp : (2 : Int) ^ (min (((4 : Nat) : Int) + 6 - 8).toNat IntKind.u32.bits) = 4 := rfl
      rw [hp] at out4
      have e := hF.more (m' := 2) (w := (bits * 64 % 4294967296 + tv) % 2 ^ 2) (x := (bits * 64 % 4294967296 + tv) / 4 % 256) (by assumption) (by omega) (by decide) rfl (by omega) (by omega)
      exact ⟨(i + 1, bits * 64 % 4294967296 + tv, 2, bad, a2, _), by dsimp only; omega, ⟨rfl, rfl, rfl, rfl, rfl, rfl, rfl, rfl, trivial⟩, (ob.grows g3).ap ap hne, out4, by dsimp only; omega, ⟨by dsimp only; omega, by dsimp only; omega⟩, by dsimp only; omega, by dsimp only; rw [List.length_append, List.length_singleton]; omega, by dsimp only; omega, e⟩
    · have hp : (2 : Int) ^ (min (((6 : Nat) : Int) + 6 - 8).toNat IntKind.u32.bits) = 16 := rfl
      rw [hp] at out4
      have e := hF.more (m' := 4) (w := (bits * 64 % 4294967296 + tv) % 2 ^ 4) (x := (bits * 64 % 4294967296 + tv) / 16 % 256) (by assumption) (by omega) (by decide) rfl (by omega) (by omega)
      exact ⟨(i + 1, bits * 64 % 4294967296 + tv, 4, bad, a2, _), by dsimp only; omega, ⟨rfl, rfl, rfl, rfl, rfl, rfl, rfl, rfl, trivial⟩, (ob.grows g3).ap ap hne, out4, by dsimp only; omega, ⟨by dsimp only; omega, by dsimp only; omega⟩, by dsimp only; omega, by dsimp only; rw [List.length_append, List.length_singleton]; omega, by dsimp only; omega, e⟩
  · rw [hdr (by omega)] at hF
    obtain rfl : m = 0 := by omega
    have e := hF.z (w := (bits * 64 % 4294967296 + tv) % 2 ^ 6) (by assumption) (by omega) (by omega)
    exact ⟨(i + 1, bits * 64 % 4294967296 + tv, 6, bad, out, O), by dsimp only; omega, ⟨rfl, rfl, rfl, rfl, rfl, rfl, rfl, rfl, trivial⟩, ob, ho, by dsimp only; omega, ⟨by dsimp only; omega, by dsimp only; omega⟩, by dsimp only; omega, by dsimp only; omega, by dsimp only; omega, e⟩
  · rw [hdr (by omega)] at hF
    obtain rfl : m = 0 := by omega
    have e := hF.z (w := (bits * 64 % 4294967296 + tv) % 2 ^ 6) (by assumption) (by omega) (by omega)
    exact ⟨(i + 1, bits * 64 % 4294967296 + tv, 6, bad, out, O), by dsimp only; omega, ⟨rfl, rfl, rfl, rfl, rfl, rfl, rfl, rfl, trivial⟩, ob, ho, by dsimp only; omega, ⟨by dsimp only; omega, by dsimp only; omega⟩, by dsimp only; omega, by dsimp only; omega, by dsimp only; omega, e⟩
  · rw [List.drop_eq_nil_of_le (by rw [bytesOf_length]; omega)] at hF
    have e := hF.nil
    exact ⟨by rw [e]; rfl, gb.trans ho.g⟩
  · rw [List.drop_eq_nil_of_le (by rw [bytesOf_length]; omega)] at hF
    have e := hF.nil
    exact ⟨by rw [e]; rfl, gb.trans ho.g⟩
end Go.Proofs.YtffjdidakeinjaaDoor.AS
end
section
set_option autoImplicit false
set_option maxRecDepth 100000
set_option maxHeartbeats 4000000
set_option linter.unusedSimpArgs false
set_option linter.unusedVariables false
namespace Go.Proofs.YtffjdidakeinjaaDoor.AS
open Go Go.Proofs Go.RowKit Go.Proofs.YtffjdidakeinjaaDoor.AS.V

/-- Bytes in base64. -/
def b64 : List Int → List Int
  | [] => []
  | [a] => [bt LT (a / 4), bt LT (a % 4 * 16), 61, 61]
  | [a, b] => [bt LT (a / 4), bt LT (a % 4 * 16 + b / 16), bt LT (b % 16 * 4), 61]
  | a :: b :: c :: r => bt LT (a / 4) :: bt LT (a % 4 * 16 + b / 16) :: bt LT (b % 16 * 4 + c / 64) :: bt LT (c % 64) :: b64 r
def b64S (s : ByteArray) : ByteArray := strOfNums (b64 (bytesOf s))
/-- What is still to come behind some bits: nothing, two or four of them. -/
def bTo : Nat → Int → List Int → List Int
  | 0, _, L => b64 L
  | 2, v, [] => [bt LT (v * 16), 61, 61]
  | 2, v, [b] => [bt LT (v * 16 + b / 16), bt LT (b % 16 * 4), 61]
  | 2, v, b :: c :: r => bt LT (v * 16 + b / 16) :: bt LT (b % 16 * 4 + c / 64) :: bt LT (c % 64) :: b64 r
  | 4, v, [] => [bt LT (v * 4), 61]
  | 4, v, c :: r => bt LT (v * 4 + c / 64) :: bt LT (c % 64) :: b64 r
  | _, _, _ => []
theorem bTo_0 (v a : Int) (r : List Int) : bTo 0 v (a :: r) = bt LT (a / 4) :: bTo 2 (a % 4) r := by
  match r with
  | [] => rfl
  | [b] => rfl
  | b :: c :: r => rfl
theorem bTo_2 (v b : Int) (r : List Int) : bTo 2 v (b :: r) = bt LT (v * 16 + b / 16) :: bTo 4 (b % 16) r := by
  match r with
  | [] => rfl
  | c :: r => rfl
theorem bTo_4 (v c : Int) (r : List Int) : bTo 4 v (c :: r) = bt LT (v * 4 + c / 64) :: bt LT (c % 64) :: bTo 0 0 r := rfl
/-- What stands, and what is still to come. -/
def BI (R O : List Int) (m : Nat) (v : Int) (D : List Int) : Prop := O ++ bTo m v D = R
theorem BI.ini (s : ByteArray) : BI (b64 (bytesOf s)) [] 0 ((0 : Int) % 2 ^ 0) ((bytesOf s).drop 0) := by rw [List.drop_zero]; rfl
section
variable {R O D : List Int} {v c w x y : Int}
theorem BI.s0 (h : BI R O 0 v (c :: D)) (hx : bt LT (c / 4) = x) (hw : c % 4 = w) : BI R (O ++ [x]) 2 w D := by
  subst hx hw; unfold BI at *; rw [bTo_0] at h; rw [← h, List.append_assoc]; rfl
theorem BI.s2 (h : BI R O 2 v (c :: D)) (hx : bt LT (v * 16 + c / 16) = x) (hw : c % 16 = w) : BI R (O ++ [x]) 4 w D := by
  subst hx hw; unfold BI at *; rw [bTo_2] at h; rw [← h, List.append_assoc]; rfl
theorem BI.s4 (h : BI R O 4 v (c :: D)) (hx : bt LT (v * 4 + c / 64) = x) (hy : bt LT (c % 64) = y) : BI R (O ++ [x] ++ [y]) 0 w D := by
  subst hx hy; unfold BI at *; rw [bTo_4] at h; rw [← h, List.append_assoc, List.append_assoc]; rfl
theorem BI.e0 (h : BI R O 0 v []) : R = O := by unfold BI at h; rw [← h]; exact (List.append_nil O).symm ▸ rfl
theorem BI.e2 (h : BI R O 2 v []) (hx : bt LT (v * 16) = x) : R = O ++ [x] ++ [61] ++ [61] := by
  subst hx; unfold BI at h; rw [← h, List.append_assoc, List.append_assoc]; rfl
theorem BI.e4 (h : BI R O 4 v []) (hx : bt LT (v * 4) = x) : R = O ++ [x] ++ [61] := by
  subst hx; unfold BI at h; rw [← h, List.append_assoc]; rfl
end
end Go.Proofs.YtffjdidakeinjaaDoor.AS
end
section
set_option autoImplicit false
set_option maxHeartbeats 1000000
set_option linter.unusedSimpArgs false
set_option linter.unusedVariables false
namespace Go.Proofs.YtffjdidakeinjaaDoor.AS
open Go Go.Proofs Go.RowKit Go.Proofs.YtffjdidakeinjaaDoor.AS.V
/-- A line's end at the head of bytes; -1: there is none. -/
def endL : List Int → Int
  | [] => 0
  | c :: r => if c = 10 then 1 else if c = 13 ∧ r.head? = some 10 then 2 else -1
def dropB (L : List Int) : List Int := L.dropWhile fun c => decide (c = 32 ∨ c = 9)
def hex2 : List Int → Bool
  | a :: b :: _ => decide (0 ≤ digS a ∧ 0 ≤ digS b)
  | _ => false
def val2 : List Int → Int
  | a :: b :: _ => 16 * digS a + digS b
  | _ => 0
/-- What quoted-printable bytes say, and how many of them are wrong. -/
def fq : Nat → List Int → List Int × Int
  | 0, _ => ([], 0)
  | _ + 1, [] => ([], 0)
  | k + 1, c :: r =>
    if c = 61 ∧ hex2 r = true then (val2 r :: (fq k (r.drop 2)).1, (fq k (r.drop 2)).2)
    else if c = 61 ∧ 0 ≤ endL r then fq k (r.drop (endL r).toNat)
    else if (c = 32 ∨ c = 9) ∧ 0 ≤ endL (dropB r) then fq k (dropB r)
    else (c :: (fq k r).1, (if c = 61 then 1 else 0) + (fq k r).2)
def fqS (s : ByteArray) : List Int × Int := fq s.size (bytesOf s)
end Go.Proofs.YtffjdidakeinjaaDoor.AS
end
section
set_option autoImplicit false
set_option maxHeartbeats 1000000
set_option linter.unusedSimpArgs false
set_option linter.unusedVariables false
namespace Go.Proofs.YtffjdidakeinjaaDoor.AS
open Go Go.Proofs Go.RowKit Go.Proofs.YtffjdidakeinjaaDoor.AS.V
theorem dropB_le (L : List Int) : (dropB L).length ≤ L.length := by
  unfold dropB
  induction L with
  | nil => simp
  | cons a L ih =>
    rw [List.dropWhile_cons]
    split
    · simp only [List.length_cons]; omega
    · exact Nat.le_refl _
/-- What is read is no more than there was, and no more of it is wrong. -/
theorem fq_len : ∀ (k : Nat) (L : List Int), (fq k L).1.length ≤ L.length ∧ 0 ≤ (fq k L).2 ∧ (fq k L).2 ≤ L.length
  | 0, L => by rw [fq]; simp
  | k + 1, [] => by rw [fq]; simp
  | k + 1, c :: r => by
    rw [fq]
    split
    · have := fq_len k (r.drop 2)
      simp only [List.length_drop, List.length_cons] at this ⊢
      omega
    · split
      · have := fq_len k (r.drop (endL r).toNat)
        simp only [List.length_drop, List.length_cons] at this ⊢
        omega
      · split
        · have := fq_len k (dropB r)
          have := dropB_le r
          simp only [List.length_cons] at *
          omega
        · have := fq_len k r
          simp only [List.length_cons]
          split <;> omega
end Go.Proofs.YtffjdidakeinjaaDoor.AS
end
section
set_option autoImplicit false
set_option maxHeartbeats 1000000
set_option linter.unusedSimpArgs false
set_option linter.unusedVariables false
namespace Go.Proofs.YtffjdidakeinjaaDoor.AS
open Go Go.Proofs Go.RowKit Go.Proofs.YtffjdidakeinjaaDoor.AS.V
/-- With more rounds than bytes it says the same. -/
theorem fq_more : ∀ (k j : Nat) (L : List Int), L.length ≤ k → L.length ≤ j → fq k L = fq j L
  | 0, 0, L, _, _ => rfl
  | 0, j + 1, L, h, _ => by
    obtain rfl : L = [] := List.length_eq_zero_iff.1 (by omega)
    rw [fq, fq]
  | k + 1, 0, L, _, h => by
    obtain rfl : L = [] := List.length_eq_zero_iff.1 (by omega)
    rw [fq, fq]
  | k + 1, j + 1, [], _, _ => by rw [fq, fq]
  | k + 1, j + 1, c :: r, h1, h2 => by
    simp only [List.length_cons] at h1 h2
    rw [fq, fq]
    rw [fq_more k j (r.drop 2) (by rw [List.length_drop]; omega) (by rw [List.length_drop]; omega),
      fq_more k j (r.drop (endL r).toNat) (by rw [List.length_drop]; omega) (by rw [List.length_drop]; omega),
      fq_more k j (dropB r) (by have := dropB_le r; omega) (by have := dropB_le r; omega),
      fq_more k j r (by omega) (by omega)]
def fqL (L : List Int) : List Int × Int := fq L.length L
theorem fqL_nil : fqL [] = ([], 0) := rfl
theorem fqL_code {r : List Int} (h : hex2 r = true) : fqL (61 :: r) = (val2 r :: (fqL (r.drop 2)).1, (fqL (r.drop 2)).2) := by
  unfold fqL
  rw [List.length_cons, fq, if_pos ⟨rfl, h⟩, fq_more r.length (r.drop 2).length (r.drop 2) (by rw [List.length_drop]; omega) (Nat.le_refl _)]
theorem fqL_end {r : List Int} (h : hex2 r = false) (he : 0 ≤ endL r) : fqL (61 :: r) = fqL (r.drop (endL r).toNat) := by
  unfold fqL
  rw [List.length_cons, fq, if_neg (fun e => by rw [h] at e; cases e.2), if_pos ⟨rfl, he⟩, fq_more r.length (r.drop (endL r).toNat).length _ (by rw [List.length_drop]; omega) (Nat.le_refl _)]
theorem fqL_bad {r : List Int} (h : hex2 r = false) (he : ¬ 0 ≤ endL r) : fqL (61 :: r) = (61 :: (fqL r).1, 1 + (fqL r).2) := by
  unfold fqL
  rw [List.length_cons, fq, if_neg (fun e => by rw [h] at e; cases e.2), if_neg (fun e => he e.2), if_neg (fun e => by omega), if_pos rfl]
theorem fqL_bl {c : Int} {r : List Int} (hc : c = 32 ∨ c = 9) (he : 0 ≤ endL (dropB r)) : fqL (c :: r) = fqL (dropB r) := by
  unfold fqL
  rw [List.length_cons, fq, if_neg (fun e => by omega), if_neg (fun e => by omega), if_pos ⟨hc, he⟩, fq_more r.length (dropB r).length _ (dropB_le r) (Nat.le_refl _)]
theorem fqL_one {c : Int} {r : List Int} (hc : c ≠ 61) (he : ¬ ((c = 32 ∨ c = 9) ∧ 0 ≤ endL (dropB r))) : fqL (c :: r) = (c :: (fqL r).1, (fqL r).2) := by
  unfold fqL
  rw [List.length_cons, fq, if_neg (fun e => hc e.1), if_neg (fun e => hc e.1), if_neg he, if_neg hc, Int.zero_add]
/-- What stands, and what is still to come. -/
def FqI (R : List Int × Int) (O : List Int) (bad : Int) (D : List Int) : Prop := O ++ (fqL D).1 = R.1 ∧ bad + (fqL D).2 = R.2
section
variable {R : List Int × Int} {O D : List Int} {bad c : Int}
theorem FqI.ini (s : ByteArray) : FqI (fqS s) [] 0 (bytesOf s) := by
  unfold FqI fqS fqL
  rw [bytesOf_length]
  exact ⟨rfl, Int.zero_add _⟩
theorem FqI.nil (h : FqI R O bad []) : R = (O, bad) := by
  obtain ⟨h1, h2⟩ := h
  rw [fqL_nil] at h1 h2
  simp only [List.append_nil, Int.add_zero] at h1 h2
  rw [h1, h2]
theorem FqI.code (h : FqI R O bad (c :: D)) (hc : c = 61) (hx : hex2 D = true) {v : Int} (hv : v = val2 D) : FqI R (O ++ [v]) bad (D.drop 2) := by
  subst hc hv
  obtain ⟨h1, h2⟩ := h
  rw [fqL_code hx] at h1 h2
  exact ⟨by rw [← h1, List.append_assoc]; rfl, h2⟩
theorem FqI.en (h : FqI R O bad (c :: D)) (hc : c = 61) (hx : hex2 D = false) (he : 0 ≤ endL D) : FqI R O bad (D.drop (endL D).toNat) := by
  subst hc
  obtain ⟨h1, h2⟩ := h
  rw [fqL_end hx he] at h1 h2
  exact ⟨h1, h2⟩
theorem FqI.wrong (h : FqI R O bad (c :: D)) (hc : c = 61) (hx : hex2 D = false) (he : ¬ 0 ≤ endL D) : FqI R (O ++ [c]) (bad + 1) D := by
  subst hc
  obtain ⟨h1, h2⟩ := h
  rw [fqL_bad hx he] at h1 h2
  exact ⟨by rw [← h1, List.append_assoc]; rfl, by rw [← h2]; simp only; omega⟩
theorem FqI.bl (h : FqI R O bad (c :: D)) (hc : c = 32 ∨ c = 9) (he : 0 ≤ endL (dropB D)) : FqI R O bad (dropB D) := by
  obtain ⟨h1, h2⟩ := h
  rw [fqL_bl hc he] at h1 h2
  exact ⟨h1, h2⟩
theorem FqI.one (h : FqI R O bad (c :: D)) (hc : c ≠ 61) (he : ¬ ((c = 32 ∨ c = 9) ∧ 0 ≤ endL (dropB D))) : FqI R (O ++ [c]) bad D := by
  obtain ⟨h1, h2⟩ := h
  rw [fqL_one hc he] at h1 h2
  exact ⟨by rw [← h1, List.append_assoc]; rfl, h2⟩
end
theorem dropB_cons {c : Int} {r : List Int} (h : c = 32 ∨ c = 9) : dropB (c :: r) = dropB r := by
  unfold dropB
  rw [List.dropWhile_cons, if_pos (decide_eq_true h)]
theorem dropB_stop {c : Int} {r : List Int} (h : ¬ (c = 32 ∨ c = 9)) : dropB (c :: r) = c :: r := by
  unfold dropB
  rw [List.dropWhile_cons, if_neg (by rw [decide_eq_false h]; decide)]
/-- Behind blanks. -/
theorem blnk_drop {s : ByteArray} {i k : Int} (h0 : 0 ≤ i) (h : Blnk s i k) : (bytesOf s).drop k.toNat = dropB ((bytesOf s).drop i.toNat) := by
  obtain ⟨h1, h2, h3, h4⟩ := h
  have key : ∀ n : Nat, ∀ i : Int, 0 ≤ i → i ≤ k → k - i = n → (∀ j : Int, i ≤ j → j < k → bt s j = 32 ∨ bt s j = 9) → (bytesOf s).drop k.toNat = dropB ((bytesOf s).drop i.toNat) := by
    intro n
    induction n with
    | zero =>
      intro i hi hk e _
      obtain rfl : i = k := by omega
      rcases Int.lt_or_le i s.size with hl | hl
      · have hd := bytesOf_drop_cons s i.toNat (by omega)
        rw [show ((i.toNat : Nat) : Int) = i by omega] at hd
        rw [hd, dropB_stop (h4 hl)]
      · rw [List.drop_eq_nil_of_le (by rw [bytesOf_length]; omega)]; rfl
    | succ n ih =>
      intro i hi hk e hb
      have hd := bytesOf_drop_cons s i.toNat (by omega)
      rw [show ((i.toNat : Nat) : Int) = i by omega] at hd
      rw [hd, dropB_cons (hb i (Int.le_refl _) (by omega)), ih (i + 1) (by omega) (by omega) (by omega) (fun j h1 h2 => hb j (by omega) h2)]
      rw [show (i + 1).toNat = i.toNat + 1 by omega]
  exact key (k - i).toNat i h0 h1 (by omega) h3
theorem trm_blnk {s : ByteArray} {k : Nat} (h : Trm s k) : Blnk s 0 k := by
  obtain ⟨h1, h2, h3⟩ := h
  refine ⟨by omega, by omega, fun j hj hk => ?_, fun hk => ?_⟩
  · have := h2 j.toNat (by omega)
    rw [show ((j.toNat : Nat) : Int) = j by omega] at this
    exact of_decide_eq_true this
  · exact of_decide_eq_false (h3 (by omega))
theorem trm_drop {s : ByteArray} {k : Nat} (h : Trm s k) : bytesOf (sfx s k) = dropB (bytesOf s) := by
  have := blnk_drop (Int.le_refl 0) (trm_blnk h)
  rw [sfx_bytes]
  simpa using this
theorem endL_pos (s : ByteArray) : endL (bytesOf s) = if (s.size : Int) = 0 then 0 else if bt s 0 = 10 then 1 else if bt s 0 = 13 ∧ 2 ≤ s.size ∧ bt s 1 = 10 then 2 else -1 := by
  by_cases h0 : s.size = 0
  · rw [if_pos (by omega), List.length_eq_zero_iff.1 (show (bytesOf s).length = 0 by rw [bytesOf_length]; exact h0)]; rfl
  · rw [if_neg (by omega), bytes1 (by omega)]
    rw [endL]
    by_cases h1 : 2 ≤ s.size
    · have := bytesOf_drop_cons s 1 (by omega)
      rw [this]
      simp only [List.head?_cons, Option.some.injEq, h1, true_and]
      rfl
    · rw [List.drop_eq_nil_of_le (by rw [bytesOf_length]; omega)]
      simp [h1]
theorem endP_L (s : ByteArray) : ((endP s).2 = true ↔ 0 ≤ endL (bytesOf s)) ∧ ((endP s).2 = true → (endP s).1 = endL (bytesOf s)) := by
  rw [endL_pos]
  unfold endP
  by_cases h0 : s.size = 0
  · have : s = ⟨#[]⟩ := ByteArray.ext (Array.size_eq_zero_iff.1 h0)
    rw [if_pos this, if_pos (by omega)]; simp
  · have : s ≠ ⟨#[]⟩ := fun e => h0 (by rw [e]; rfl)
    have hz : ¬ (s.size : Int) = 0 := by omega
    simp only [if_neg this, if_neg hz]
    by_cases h1 : bt s 0 = 10
    · simp only [if_pos h1]; simp
    · simp only [if_neg h1]
      by_cases h2 : crlf s
      · have h3 : bt s 0 = 13 ∧ 2 ≤ s.size ∧ bt s 1 = 10 := ⟨h2.2.1, h2.1, h2.2.2⟩
        simp only [decide_eq_true h2, if_pos h3]; simp
      · have h3 : ¬ (bt s 0 = 13 ∧ 2 ≤ s.size ∧ bt s 1 = 10) := fun e => h2 ⟨e.2.1, e.1, e.2.2⟩
        simp only [decide_eq_false h2, if_neg h3]; simp
theorem endP_le (s : ByteArray) : 0 ≤ (endP s).1 ∧ (endP s).1 ≤ s.size := by
  unfold endP
  by_cases h0 : s.size = 0
  · have : s = ⟨#[]⟩ := ByteArray.ext (Array.size_eq_zero_iff.1 h0)
    rw [if_pos this]; simp
  · have : s ≠ ⟨#[]⟩ := fun e => h0 (by rw [e]; rfl)
    simp only [if_neg this]
    by_cases h1 : bt s 0 = 10
    · simp only [if_pos h1]; omega
    · simp only [if_neg h1]
      by_cases h2 : crlf s
      · have := h2.1
        simp only [decide_eq_true h2]; simp; omega
      · simp only [decide_eq_false h2]; simp
theorem codS_hex (s : ByteArray) : codS s = hex2 (bytesOf s) := by
  unfold codS
  by_cases h : 2 ≤ s.size
  · rw [bytes2 h, hex2]
    simp [h]
  · by_cases h1 : s.size = 1
    · have : (bytesOf s) = [bt s 0] := by
        rw [bytes1 (by omega), List.drop_eq_nil_of_le (by rw [bytesOf_length]; omega)]
      rw [this, hex2, decide_eq_false (fun e => h e.1)]
      simp
    · rw [List.length_eq_zero_iff.1 (show (bytesOf s).length = 0 by rw [bytesOf_length]; omega), hex2, decide_eq_false (fun e => h e.1)]
      simp
theorem val2_eq {s : ByteArray} (h : codS s = true) : val2 (bytesOf s) = 16 * digS (bt s 0) + digS (bt s 1) := by
  have := (of_decide_eq_true h).1
  rw [bytes2 this, val2]
theorem endA_L (s : ByteArray) {i : Int} (h0 : 0 ≤ i) : endA s i = endL ((bytesOf s).drop i.toNat) := by
  unfold endA
  by_cases h : (s.size : Int) ≤ i
  · rw [if_pos h, List.drop_eq_nil_of_le (by rw [bytesOf_length]; omega)]; rfl
  · rw [if_neg h]
    have hd := bytesOf_drop_cons s i.toNat (by omega)
    rw [show ((i.toNat : Nat) : Int) = i by omega] at hd
    rw [hd, endL]
    by_cases h1 : i + 1 < s.size
    · have hd2 := bytesOf_drop_cons s (i.toNat + 1) (by omega)
      rw [show ((i.toNat + 1 : Nat) : Int) = i + 1 by omega] at hd2
      rw [hd2]
      simp [h1]
    · rw [List.drop_eq_nil_of_le (by rw [bytesOf_length]; omega)]
      simp [h1]
end Go.Proofs.YtffjdidakeinjaaDoor.AS
end
