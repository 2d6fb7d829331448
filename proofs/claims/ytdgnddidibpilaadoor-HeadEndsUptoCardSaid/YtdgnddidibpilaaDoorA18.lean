/- Of our own: an abstract machine beside the model, its soundness, and walks of the program in it. -/
import Derived.Test.YtdgnddidibpilaaDoorA17
import Derived.Test.YtdgnddidibpilaaDoorA13
set_option linter.unusedSimpArgs false
set_option linter.unusedVariables false
section
set_option autoImplicit false
set_option maxRecDepth 100000
set_option maxHeartbeats 4000000
set_option linter.unusedSimpArgs false
set_option linter.unusedVariables false
namespace Go.Proofs.YtdgnddidibpilaaDoor.AS
open Go Go.Proofs Go.RowKit Go.Proofs.YtdgnddidibpilaaDoor.AS.V

theorem nl_eq {s : ByteArray} {i : Nat} (hi : i ≤ s.size) (h1 : ∀ j : Nat, j < i → bt s (j : Int) ≠ 10) (h2 : i < s.size → bt s (i : Int) = 10) : nlP s = i :=
  cntU_eq hi (fun j h => decide_eq_false (h1 j h)) (fun h => decide_eq_true (h2 h))
theorem pfx_0 (s : ByteArray) : pfx s 0 = ⟨#[]⟩ := bytesOf_inj (by rw [pfx_bytes s 0 (Nat.zero_le _), List.take_zero]; rfl)
theorem line35_FR (h : Heap) (s : ByteArray) (hs : s.size ≤ 140737488355328) : FR Tryd.prog TT 35 [.s (.string s)] h fun x H => x = .tp [.s (.string (lineT s)), .s (.string (moreT s))] ∧ H = h := by
  refine FR.of q35 (by kernel_rfl) ?_
  unfold c35
  repeat' (first
    | (refine WO.slP k rfl rfl (st rfl) (by omega) (by omega) ?_)
    | (refine WO.slP (k - 1) rfl rfl (st rfl) (by omega) (by omega) ?_)
    | (refine WO.slS (k + 1) rfl rfl (st rfl) (by omega) (by omega) ?_)
    | (refine LQ.fin ?_)
    | (refine EQ.fin rfl ?_)
    | (refine EQ.finN rfl ?_)
    | (refine WO.mvs rfl ?_)
    | (refine WO.mvp rfl ?_)
    | (refine WO.mvt rfl ?_)
    | (refine WO.mv ?_)
    | (refine W.sreg ?_)
    | (refine W.sdraw ?_)
    | (refine W.reg ?_)
    | (refine W.draw ?_)
    | (refine WO.nil ?_)
    | (refine WO.gU rfl ?_)
    | (refine WO.gT rfl rfl ?_)
    | (refine WO.gF rfl rfl ?_)
    | (refine WO.ext rfl rfl ?_)
    | (refine WO.lenR (by assumption) ?_)
    | (refine WO.add rfl rfl (by first | exact wrOK (by simp only [loK, hiK]; omega) | rfl) ?_)
    | (refine WO.sub rfl rfl (by first | exact wrOK (by simp only [loK, hiK]; omega) | rfl) ?_)
    | (refine WO.lss rfl rfl ?_)
    | (refine WO.leq rfl rfl ?_)
    | (refine WO.gtr rfl rfl ?_)
    | (refine WO.geq rfl rfl ?_)
    | (refine WO.eql rfl rfl ?_)
    | (refine WO.neq rfl rfl ?_)
    | (refine WO.seql rfl rfl ?_)
    | (refine WO.sneq rfl rfl ?_)
    | (refine WO.beql rfl rfl (tb rfl) ?_)
    | (refine WO.bneq rfl rfl (tb rfl) ?_)
    | (refine WO.not rfl ?_)
    | (refine WO.not0 rfl ?_)
    | (refine WO.cvi rfl (kd rfl) (kd rfl) (by first | exact wrOK (by simp only [loK, hiK]; omega) | rfl) ?_)
    | (refine WO.cvs rfl (st rfl) (st rfl) ?_)
    | (refine WO.ix rfl rfl (st rfl) (by first | assumption | omega) (by first | assumption | omega) ?_)
    | (refine WO.slen rfl (st rfl) ?_)
    | (refine WO.iaddr (by assumption) rfl rfl (by first | assumption | omega) (by first | assumption | omega) (fun q hq => ?_))
    | (refine WO.load (by assumption) rfl rfl ?_)
    | (refine WO.loadO rfl (by assumption) rfl rfl ?_)
    | (refine WO.faddrP (by assumption) rfl (fun q hq => ?_))
    | (refine WO.nilckP (by assumption) ?_)
    | (refine WO.nilck rfl ?_)
    | (refine WO.faddr rfl ?_)
    | (refine WO.fld rfl rfl rfl ?_)
    | (refine WO.pickT rfl ?_)
    | (refine WO.pickF rfl ?_)
    | (refine WO.sll rfl rfl (st rfl) (by first | assumption | omega) (by first | assumption | omega) ?_)
    | (refine WO.slh rfl rfl (st rfl) (by first | assumption | omega) (by first | assumption | omega) ?_)
    | (refine WO.slb rfl rfl rfl (st rfl) (by first | assumption | omega) (by first | assumption | omega) (by first | assumption | omega) ?_)
    | (refine WO.mul rfl rfl (by first | exact wrOK (by simp only [loK, hiK]; omega) | rfl) ?_)
    | (refine WO.quo rfl rfl (by first | assumption | omega) (by first | exact wrOK (by simp only [loK, hiK]; omega) | rfl) ?_)
    | (refine WO.rem rfl rfl (by first | assumption | omega) ?_)
    | (refine WO.and rfl rfl ?_)
    | (refine WO.or rfl rfl ?_)
    | (refine WO.xor rfl rfl ?_)
    | (refine WO.shl rfl rfl (by first | assumption | omega) (by simp [IntKind.bits]; rfl) ?_)
    | (refine WO.shr rfl rfl (by first | assumption | omega) (by simp [IntKind.bits]; rfl) ?_)
    | (refine WO.build (C := [_]) rfl ?_)
    | (refine WO.build (C := [_, _]) rfl ?_)
    | (refine WO.build (C := [_, _, _]) rfl ?_)
    | (refine WO.build (C := [_, _, _, _]) rfl ?_)
    | (refine WO.build (C := [_, _, _, _, _]) rfl ?_)
    | (refine WO.build (C := [_, _, _, _, _, _]) rfl ?_)
    | (refine WO.build (C := [_, _, _, _, _, _, _]) rfl ?_)
    | (refine WO.eqnil (by assumption) (fun hn1 hn2 => ?_) ?_)
    | (refine W.condT rfl ?_)
    | (refine W.condF rfl ?_)
    | (refine W.condDT rfl (by first | assumption | omega) ?_)
    | (refine W.condDF rfl (by first | assumption | omega) ?_)
    | (refine W.condD rfl (fun hc => ?_) (fun hc => ?_))
    | (refine WO.gS rfl (fun hc => ?_) (fun hc => ?_) <;> try (exfalso; omega))
    | (refine WO.pickS rfl (fun hc => ?_) (fun hc => ?_) <;> try (exfalso; omega))
    | (refine W.skip ?_)
    | (refine W.block ?_)
    | (refine W.drawA rfl ?_)
    | (refine W.sdrawA rfl ?_)
    | (refine And.intro rfl ?_)
    | (refine W.exit ?_)
    | (refine W.ret ?_)
    | (refine W.seq ?_)
    | (refine W.goto ?_)
    | (refine W.label ?_)
    | (refine SQ.nn ?_)
    | (refine SQ.x ?_)
    | (refine SQ.r ?_)
    | (refine SQ.g ?_)
    | (refine BQ.nn ?_)
    | (refine BQ.x ?_)
    | (refine BQ.r ?_)
    | (refine BQ.g ?_)
    | (refine BQ.y rfl ?_)
    | (refine LQ.x ?_)
    | (refine LQ.r ?_)
    | (refine LQ.g ?_)
    | (refine GQ.nn ?_)
    | (refine GQ.x ?_)
    | (refine GQ.r ?_)
    | (refine W.loopI (σ := Nat) (fun k => [(0, .s (.string s)), (4, .s (.int .i64 k))]) (fun k h' => h' = h ∧ k ≤ s.size ∧ ∀ j : Nat, j < k → bt s (j : Int) ≠ 10) (fun k => s.size - k) 0 ⟨rfl, rfl, trivial⟩ ⟨rfl, Nat.zero_le _, fun j hj => absurd hj (Nat.not_lt_zero _)⟩ ?_; rintro k G h' ⟨rfl, hk, hall⟩; (try dsimp only); have hall := (fun _ : Unit => hall)))
  all_goals first
    | (refine ⟨k + 1, by omega, ⟨rfl, rfl, trivial⟩, rfl, by omega, fun j hj => ?_⟩
       rcases Nat.lt_or_ge j k with h1 | h1
       · exact hall () j h1
       · rw [show j = k by omega]; assumption)
    | (have hl : nlP s = k := nl_eq hk (hall ()) (fun h => by first | assumption | (exfalso; omega))
       refine ⟨?_, rfl⟩
       unfold lineT moreT eolN nxtN
       rw [hl]
       first
         | (rw [if_pos (show k < s.size by omega), if_pos ⟨by omega, by omega, by assumption⟩]; rfl)
         | (rw [if_pos (show k < s.size by omega), if_neg (fun e => by omega)]; rfl)
         | (rw [if_neg (show ¬ k < s.size by omega), if_neg (fun e => by omega), show k = s.size by omega, pfx_all, sfx_all (Nat.le_refl _)]; rfl))
theorem nam36_FR (h : Heap) (s : ByteArray) (hs : s.size ≤ 140737488355328) : FR Tryd.prog TT 36 [.s (.string s)] h fun x H => x = .s (.string (pfx s (namN s))) ∧ H = h := by
  refine FR.of q36 (by kernel_rfl) ?_
  unfold c36
  repeat' (first
    | (refine WO.slP k rfl rfl (st rfl) (by omega) (by omega) ?_)
    | (refine LQ.fin ?_)
    | (refine EQ.fin rfl ?_)
    | (refine EQ.finN rfl ?_)
    | (refine WO.mvs rfl ?_)
    | (refine WO.mvp rfl ?_)
    | (refine WO.mvt rfl ?_)
    | (refine WO.mv ?_)
    | (refine W.sreg ?_)
    | (refine W.sdraw ?_)
    | (refine W.reg ?_)
    | (refine W.draw ?_)
    | (refine WO.nil ?_)
    | (refine WO.gU rfl ?_)
    | (refine WO.gT rfl rfl ?_)
    | (refine WO.gF rfl rfl ?_)
    | (refine WO.ext rfl rfl ?_)
    | (refine WO.lenR (by assumption) ?_)
    | (refine WO.add rfl rfl (by first | exact wrOK (by simp only [loK, hiK]; omega) | rfl) ?_)
    | (refine WO.sub rfl rfl (by first | exact wrOK (by simp only [loK, hiK]; omega) | rfl) ?_)
    | (refine WO.lss rfl rfl ?_)
    | (refine WO.leq rfl rfl ?_)
    | (refine WO.gtr rfl rfl ?_)
    | (refine WO.geq rfl rfl ?_)
    | (refine WO.eql rfl rfl ?_)
    | (refine WO.neq rfl rfl ?_)
    | (refine WO.seql rfl rfl ?_)
    | (refine WO.sneq rfl rfl ?_)
    | (refine WO.beql rfl rfl (tb rfl) ?_)
    | (refine WO.bneq rfl rfl (tb rfl) ?_)
    | (refine WO.not rfl ?_)
    | (refine WO.not0 rfl ?_)
    | (refine WO.cvi rfl (kd rfl) (kd rfl) (by first | exact wrOK (by simp only [loK, hiK]; omega) | rfl) ?_)
    | (refine WO.cvs rfl (st rfl) (st rfl) ?_)
    | (refine WO.ix rfl rfl (st rfl) (by first | assumption | omega) (by first | assumption | omega) ?_)
    | (refine WO.slen rfl (st rfl) ?_)
    | (refine WO.iaddr (by assumption) rfl rfl (by first | assumption | omega) (by first | assumption | omega) (fun q hq => ?_))
    | (refine WO.load (by assumption) rfl rfl ?_)
    | (refine WO.loadO rfl (by assumption) rfl rfl ?_)
    | (refine WO.faddrP (by assumption) rfl (fun q hq => ?_))
    | (refine WO.nilckP (by assumption) ?_)
    | (refine WO.nilck rfl ?_)
    | (refine WO.faddr rfl ?_)
    | (refine WO.fld rfl rfl rfl ?_)
    | (refine WO.pickT rfl ?_)
    | (refine WO.pickF rfl ?_)
    | (refine WO.sll rfl rfl (st rfl) (by first | assumption | omega) (by first | assumption | omega) ?_)
    | (refine WO.slh rfl rfl (st rfl) (by first | assumption | omega) (by first | assumption | omega) ?_)
    | (refine WO.slb rfl rfl rfl (st rfl) (by first | assumption | omega) (by first | assumption | omega) (by first | assumption | omega) ?_)
    | (refine WO.mul rfl rfl (by first | exact wrOK (by simp only [loK, hiK]; omega) | rfl) ?_)
    | (refine WO.quo rfl rfl (by first | assumption | omega) (by first | exact wrOK (by simp only [loK, hiK]; omega) | rfl) ?_)
    | (refine WO.rem rfl rfl (by first | assumption | omega) ?_)
    | (refine WO.and rfl rfl ?_)
    | (refine WO.or rfl rfl ?_)
    | (refine WO.xor rfl rfl ?_)
    | (refine WO.shl rfl rfl (by first | assumption | omega) (by simp [IntKind.bits]; rfl) ?_)
    | (refine WO.shr rfl rfl (by first | assumption | omega) (by simp [IntKind.bits]; rfl) ?_)
    | (refine WO.build (C := [_]) rfl ?_)
    | (refine WO.build (C := [_, _]) rfl ?_)
    | (refine WO.build (C := [_, _, _]) rfl ?_)
    | (refine WO.build (C := [_, _, _, _]) rfl ?_)
    | (refine WO.build (C := [_, _, _, _, _]) rfl ?_)
    | (refine WO.build (C := [_, _, _, _, _, _]) rfl ?_)
    | (refine WO.build (C := [_, _, _, _, _, _, _]) rfl ?_)
    | (refine WO.eqnil (by assumption) (fun hn1 hn2 => ?_) ?_)
    | (refine W.condT rfl ?_)
    | (refine W.condF rfl ?_)
    | (refine W.condDT rfl (by first | assumption | omega) ?_)
    | (refine W.condDF rfl (by first | assumption | omega) ?_)
    | (refine W.condD rfl (fun hc => ?_) (fun hc => ?_))
    | (refine WO.gS rfl (fun hc => ?_) (fun hc => ?_) <;> try (exfalso; omega))
    | (refine WO.pickS rfl (fun hc => ?_) (fun hc => ?_) <;> try (exfalso; omega))
    | (refine W.skip ?_)
    | (refine W.block ?_)
    | (refine W.drawA rfl ?_)
    | (refine W.sdrawA rfl ?_)
    | (refine And.intro rfl ?_)
    | (refine W.exit ?_)
    | (refine W.ret ?_)
    | (refine W.seq ?_)
    | (refine W.goto ?_)
    | (refine W.label ?_)
    | (refine SQ.nn ?_)
    | (refine SQ.x ?_)
    | (refine SQ.r ?_)
    | (refine SQ.g ?_)
    | (refine BQ.nn ?_)
    | (refine BQ.x ?_)
    | (refine BQ.r ?_)
    | (refine BQ.g ?_)
    | (refine BQ.y rfl ?_)
    | (refine LQ.x ?_)
    | (refine LQ.r ?_)
    | (refine LQ.g ?_)
    | (refine GQ.nn ?_)
    | (refine GQ.x ?_)
    | (refine GQ.r ?_)
    | (refine W.loopI (σ := Nat) (fun k => [(0, .s (.string s)), (3, .s (.int .i64 k))]) (fun k h' => h' = h ∧ k ≤ s.size ∧ ∀ j : Nat, j < k → letB (bt s (j : Int)) = true) (fun k => s.size - k) 0 ⟨rfl, rfl, trivial⟩ ⟨rfl, Nat.zero_le _, fun j hj => absurd hj (Nat.not_lt_zero _)⟩ ?_; rintro k G h' ⟨rfl, hk, hall⟩; (try dsimp only); have hall := (fun _ : Unit => hall)))
  all_goals first
    | (refine ⟨k + 1, by omega, ⟨rfl, rfl, trivial⟩, rfl, by omega, fun j hj => ?_⟩
       rcases Nat.lt_or_ge j k with h1 | h1
       · exact hall () j h1
       · rw [show j = k by omega]; exact decide_eq_true (by omega))
    | (have hl : letN s = k := cntU_eq hk (fun j h => by rw [hall () j h]; rfl) (fun h => by
         first
           | (exfalso; omega)
           | (have : letB (bt s (k : Int)) = false := decide_eq_false (by omega)
              rw [this]; rfl))
       refine ⟨congrArg (fun s : ByteArray => AV.s (.string s)) ?_, rfl⟩
       unfold namN
       rw [hl]
       first
         | (rw [if_pos ⟨by omega, by omega⟩])
         | (rw [if_neg (fun e => by omega), pfx_0]))
theorem bl37_FR (h : Heap) (c : Int) : FR Tryd.prog TT 37 [.s (.int .u8 c)] h fun x H => x = .s (.bool (blB c)) ∧ H = h := by
  unfold blB
  refine FR.of q37 (by kernel_rfl) ?_
  unfold c37
  repeat' (first
    | (refine LQ.fin ?_)
    | (refine EQ.fin rfl ?_)
    | (refine EQ.finN rfl ?_)
    | (refine WO.mvs rfl ?_)
    | (refine WO.mvp rfl ?_)
    | (refine WO.mvt rfl ?_)
    | (refine WO.mv ?_)
    | (refine W.sreg ?_)
    | (refine W.sdraw ?_)
    | (refine W.reg ?_)
    | (refine W.draw ?_)
    | (refine WO.nil ?_)
    | (refine WO.gU rfl ?_)
    | (refine WO.gT rfl rfl ?_)
    | (refine WO.gF rfl rfl ?_)
    | (refine WO.ext rfl rfl ?_)
    | (refine WO.lenR (by assumption) ?_)
    | (refine WO.add rfl rfl (by first | exact wrOK (by simp only [loK, hiK]; omega) | rfl) ?_)
    | (refine WO.sub rfl rfl (by first | exact wrOK (by simp only [loK, hiK]; omega) | rfl) ?_)
    | (refine WO.lss rfl rfl ?_)
    | (refine WO.leq rfl rfl ?_)
    | (refine WO.gtr rfl rfl ?_)
    | (refine WO.geq rfl rfl ?_)
    | (refine WO.eql rfl rfl ?_)
    | (refine WO.neq rfl rfl ?_)
    | (refine WO.seql rfl rfl ?_)
    | (refine WO.sneq rfl rfl ?_)
    | (refine WO.beql rfl rfl (tb rfl) ?_)
    | (refine WO.bneq rfl rfl (tb rfl) ?_)
    | (refine WO.not rfl ?_)
    | (refine WO.not0 rfl ?_)
    | (refine WO.cvi rfl (kd rfl) (kd rfl) (by first | exact wrOK (by simp only [loK, hiK]; omega) | rfl) ?_)
    | (refine WO.cvs rfl (st rfl) (st rfl) ?_)
    | (refine WO.ix rfl rfl (st rfl) (by first | assumption | omega) (by first | assumption | omega) ?_)
    | (refine WO.slen rfl (st rfl) ?_)
    | (refine WO.iaddr (by assumption) rfl rfl (by first | assumption | omega) (by first | assumption | omega) (fun q hq => ?_))
    | (refine WO.load (by assumption) rfl rfl ?_)
    | (refine WO.loadO rfl (by assumption) rfl rfl ?_)
    | (refine WO.faddrP (by assumption) rfl (fun q hq => ?_))
    | (refine WO.nilckP (by assumption) ?_)
    | (refine WO.nilck rfl ?_)
    | (refine WO.faddr rfl ?_)
    | (refine WO.fld rfl rfl rfl ?_)
    | (refine WO.pickT rfl ?_)
    | (refine WO.pickF rfl ?_)
    | (refine WO.sll rfl rfl (st rfl) (by first | assumption | omega) (by first | assumption | omega) ?_)
    | (refine WO.slh rfl rfl (st rfl) (by first | assumption | omega) (by first | assumption | omega) ?_)
    | (refine WO.slb rfl rfl rfl (st rfl) (by first | assumption | omega) (by first | assumption | omega) (by first | assumption | omega) ?_)
    | (refine WO.mul rfl rfl (by first | exact wrOK (by simp only [loK, hiK]; omega) | rfl) ?_)
    | (refine WO.quo rfl rfl (by first | assumption | omega) (by first | exact wrOK (by simp only [loK, hiK]; omega) | rfl) ?_)
    | (refine WO.rem rfl rfl (by first | assumption | omega) ?_)
    | (refine WO.and rfl rfl ?_)
    | (refine WO.or rfl rfl ?_)
    | (refine WO.xor rfl rfl ?_)
    | (refine WO.shl rfl rfl (by first | assumption | omega) (by simp [IntKind.bits]; rfl) ?_)
    | (refine WO.shr rfl rfl (by first | assumption | omega) (by simp [IntKind.bits]; rfl) ?_)
    | (refine WO.build (C := [_]) rfl ?_)
    | (refine WO.build (C := [_, _]) rfl ?_)
    | (refine WO.build (C := [_, _, _]) rfl ?_)
    | (refine WO.build (C := [_, _, _, _]) rfl ?_)
    | (refine WO.build (C := [_, _, _, _, _]) rfl ?_)
    | (refine WO.build (C := [_, _, _, _, _, _]) rfl ?_)
    | (refine WO.build (C := [_, _, _, _, _, _, _]) rfl ?_)
    | (refine WO.eqnil (by assumption) (fun hn1 hn2 => ?_) ?_)
    | (refine W.condT rfl ?_)
    | (refine W.condF rfl ?_)
    | (refine W.condDT rfl (by first | assumption | omega) ?_)
    | (refine W.condDF rfl (by first | assumption | omega) ?_)
    | (refine W.condD rfl (fun hc => ?_) (fun hc => ?_))
    | (refine WO.gS rfl (fun hc => ?_) (fun hc => ?_) <;> try (exfalso; omega))
    | (refine WO.pickS rfl (fun hc => ?_) (fun hc => ?_) <;> try (exfalso; omega))
    | (refine W.skip ?_)
    | (refine W.block ?_)
    | (refine W.drawA rfl ?_)
    | (refine W.sdrawA rfl ?_)
    | (refine And.intro rfl ?_)
    | (refine W.exit ?_)
    | (refine W.ret ?_)
    | (refine W.seq ?_)
    | (refine W.goto ?_)
    | (refine W.label ?_)
    | (refine SQ.nn ?_)
    | (refine SQ.x ?_)
    | (refine SQ.r ?_)
    | (refine SQ.g ?_)
    | (refine BQ.nn ?_)
    | (refine BQ.x ?_)
    | (refine BQ.r ?_)
    | (refine BQ.g ?_)
    | (refine BQ.y rfl ?_)
    | (refine LQ.x ?_)
    | (refine LQ.r ?_)
    | (refine LQ.g ?_)
    | (refine GQ.nn ?_)
    | (refine GQ.x ?_)
    | (refine GQ.r ?_))
  all_goals first
    | exact ⟨congrArg (fun b : Bool => AV.s (.bool b)) (decide_eq_true (by omega)).symm, rfl⟩
    | exact ⟨congrArg (fun b : Bool => AV.s (.bool b)) (decide_eq_decide.2 (by omega)), rfl⟩
/-- It does not matter which end is trimmed first. -/
theorem trim_eq (p : Int → Bool) (s : ByteArray) : pfx (sfx s (trL p s)) (trR p (sfx s (trL p s))) = trimS p s := by
  have hL := trL_le p s
  have hR := trR_le p s
  obtain ⟨l1, l2⟩ := trL_at p s
  obtain ⟨r1, r2⟩ := trR_at p s
  unfold trimS
  generalize hk : trL p s = k at *
  generalize hm : trR p s = m at *
  have zs := sfx_size s k
  have zp := pfx_size s m hR
  by_cases hz : k < s.size
  · -- a byte that is not so: it is ahead of the end
    have hkm : k < m := by
      rcases Nat.lt_or_ge k m with h | h
      · exact h
      · exfalso
        have := r1 k h hz
        rw [l2 hz] at this; cases this
    have e1 : trR p (sfx s k) = m - k := trR_eq (by omega) (fun j h1 h2 => by rw [sfx_bt s (by omega)]; exact r1 _ (by omega) (by omega)) (fun h => by
      have := sfx_bt s (k := k) (i := m - k - 1) (by omega)
      rw [show ((m - k : Nat) : Int) - 1 = ((m - k - 1 : Nat) : Int) by omega, this, show ((k + (m - k - 1) : Nat) : Int) = (m : Int) - 1 by omega]
      exact r2 (by omega))
    have e2 : trL p (pfx s m) = k := trL_eq (by omega) (fun j h => by rw [pfx_bt s hR (by omega)]; exact l1 j h) (fun h => by rw [pfx_bt s hR (by omega)]; exact l2 hz)
    rw [e1, e2]
    apply bytesOf_inj
    rw [pfx_bytes _ _ (by omega), sfx_bytes, sfx_bytes, pfx_bytes s m hR, List.drop_take]
  · -- all of it is so
    have hm0 : m = 0 := by
      rcases Nat.eq_zero_or_pos m with h | h
      · exact h
      · exfalso
        have h1 := r2 h
        have h2 := l1 (m - 1) (by omega)
        rw [show ((m - 1 : Nat) : Int) = (m : Int) - 1 by omega, h1] at h2
        cases h2
    subst hm0
    have e1 : (pfx (sfx s k) (trR p (sfx s k))).size = 0 := by
      have := trR_le p (sfx s k)
      rw [pfx_size _ _ this]; omega
    have e2 : (sfx (pfx s 0) (trL p (pfx s 0))).size = 0 := by rw [sfx_size]; omega
    exact (ByteArray.ext (Array.size_eq_zero_iff.1 e1)).trans (ByteArray.ext (Array.size_eq_zero_iff.1 e2)).symm
theorem ne_size {s : ByteArray} (h : s ≠ ⟨#[]⟩) : 1 ≤ s.size := by
  rcases Nat.eq_zero_or_pos s.size with h0 | h0
  · exact absurd (ByteArray.ext (Array.size_eq_zero_iff.1 h0)) h
  · exact h0
theorem size0 {s : ByteArray} (h : s = ⟨#[]⟩) : s.size = 0 := by rw [h]; rfl
theorem trim38_FR (h : Heap) (s : ByteArray) (hs : s.size ≤ 140737488355328) : FR Tryd.prog TT 38 [.s (.string s)] h fun x H => x = .s (.string (trimS blB s)) ∧ H = h := by
  have hte := trim_eq blB s
  obtain ⟨kk, hkk⟩ : ∃ k, trL blB s = k := ⟨_, rfl⟩
  have hkl := trL_le blB s
  rw [hkk] at hte hkl
  generalize trimS blB s = res at *
  subst hte
  have hfirst : True := trivial
  refine FR.of q38 (by kernel_rfl) ?_
  unfold c38
  repeat' (first
    | (refine WO.ix rfl rfl (st rfl) (by first | omega | (have := hne () (by assumption); omega) | (have := hne2 () (by assumption); omega)) (by first | omega | (have := hne () (by assumption); omega) | (have := hne2 () (by assumption); omega)) ?_)
    | (refine WO.slS 1 rfl rfl (st rfl) (by omega) (by have := hne () (by assumption); omega) ?_; rw [sfx_sfx])
    | (refine WO.slP (m - 1) rfl rfl (st rfl) (by have := hne2 () (by assumption); omega) (by omega) ?_; rw [pfx_pfx (sfx s k) (by omega) hm])
    | (refine LQ.fin ?_)
    | (refine EQ.fin rfl ?_)
    | (refine EQ.finN rfl ?_)
    | (refine WO.mvs rfl ?_)
    | (refine WO.mvp rfl ?_)
    | (refine WO.mvt rfl ?_)
    | (refine WO.mv ?_)
    | (refine W.sreg ?_)
    | (refine W.sdraw ?_)
    | (refine W.reg ?_)
    | (refine W.draw ?_)
    | (refine WO.nil ?_)
    | (refine WO.gU rfl ?_)
    | (refine WO.gT rfl rfl ?_)
    | (refine WO.gF rfl rfl ?_)
    | (refine WO.ext rfl rfl ?_)
    | (refine WO.lenR (by assumption) ?_)
    | (refine WO.add rfl rfl (by first | exact wrOK (by simp only [loK, hiK]; omega) | rfl) ?_)
    | (refine WO.sub rfl rfl (by first | exact wrOK (by simp only [loK, hiK]; omega) | rfl) ?_)
    | (refine WO.lss rfl rfl ?_)
    | (refine WO.leq rfl rfl ?_)
    | (refine WO.gtr rfl rfl ?_)
    | (refine WO.geq rfl rfl ?_)
    | (refine WO.eql rfl rfl ?_)
    | (refine WO.neq rfl rfl ?_)
    | (refine WO.seql rfl rfl ?_)
    | (refine WO.sneq rfl rfl ?_)
    | (refine WO.beql rfl rfl (tb rfl) ?_)
    | (refine WO.bneq rfl rfl (tb rfl) ?_)
    | (refine WO.not rfl ?_)
    | (refine WO.not0 rfl ?_)
    | (refine WO.cvi rfl (kd rfl) (kd rfl) (by first | exact wrOK (by simp only [loK, hiK]; omega) | rfl) ?_)
    | (refine WO.cvs rfl (st rfl) (st rfl) ?_)
    | (refine WO.ix rfl rfl (st rfl) (by first | assumption | omega) (by first | assumption | omega) ?_)
    | (refine WO.slen rfl (st rfl) ?_)
    | (refine WO.iaddr (by assumption) rfl rfl (by first | assumption | omega) (by first | assumption | omega) (fun q hq => ?_))
    | (refine WO.load (by assumption) rfl rfl ?_)
    | (refine WO.loadO rfl (by assumption) rfl rfl ?_)
    | (refine WO.faddrP (by assumption) rfl (fun q hq => ?_))
    | (refine WO.nilckP (by assumption) ?_)
    | (refine WO.nilck rfl ?_)
    | (refine WO.faddr rfl ?_)
    | (refine WO.fld rfl rfl rfl ?_)
    | (refine WO.pickT rfl ?_)
    | (refine WO.pickF rfl ?_)
    | (refine WO.sll rfl rfl (st rfl) (by first | assumption | omega) (by first | assumption | omega) ?_)
    | (refine WO.slh rfl rfl (st rfl) (by first | assumption | omega) (by first | assumption | omega) ?_)
    | (refine WO.slb rfl rfl rfl (st rfl) (by first | assumption | omega) (by first | assumption | omega) (by first | assumption | omega) ?_)
    | (refine WO.mul rfl rfl (by first | exact wrOK (by simp only [loK, hiK]; omega) | rfl) ?_)
    | (refine WO.quo rfl rfl (by first | assumption | omega) (by first | exact wrOK (by simp only [loK, hiK]; omega) | rfl) ?_)
    | (refine WO.rem rfl rfl (by first | assumption | omega) ?_)
    | (refine WO.and rfl rfl ?_)
    | (refine WO.or rfl rfl ?_)
    | (refine WO.xor rfl rfl ?_)
    | (refine WO.shl rfl rfl (by first | assumption | omega) (by simp [IntKind.bits]; rfl) ?_)
    | (refine WO.shr rfl rfl (by first | assumption | omega) (by simp [IntKind.bits]; rfl) ?_)
    | (refine WO.build (C := [_]) rfl ?_)
    | (refine WO.build (C := [_, _]) rfl ?_)
    | (refine WO.build (C := [_, _, _]) rfl ?_)
    | (refine WO.build (C := [_, _, _, _]) rfl ?_)
    | (refine WO.build (C := [_, _, _, _, _]) rfl ?_)
    | (refine WO.build (C := [_, _, _, _, _, _]) rfl ?_)
    | (refine WO.build (C := [_, _, _, _, _, _, _]) rfl ?_)
    | (refine WO.eqnil (by assumption) (fun hn1 hn2 => ?_) ?_)
    | (refine W.condT rfl ?_)
    | (refine W.condF rfl ?_)
    | (refine W.condDT rfl (by first | assumption | omega) ?_)
    | (refine W.condDF rfl (by first | assumption | omega) ?_)
    | (refine W.condD rfl (fun hc => ?_) (fun hc => ?_))
    | (refine WO.gS rfl (fun hc => ?_) (fun hc => ?_) <;> try (exfalso; omega))
    | (refine WO.pickS rfl (fun hc => ?_) (fun hc => ?_) <;> try (exfalso; omega))
    | (refine W.skip ?_)
    | (refine W.block ?_)
    | (refine W.drawA rfl ?_)
    | (refine W.sdrawA rfl ?_)
    | (refine And.intro rfl ?_)
    | (refine W.exit ?_)
    | (refine W.ret ?_)
    | (refine W.seq ?_)
    | (refine W.goto ?_)
    | (refine W.label ?_)
    | (refine SQ.nn ?_)
    | (refine SQ.x ?_)
    | (refine SQ.r ?_)
    | (refine SQ.g ?_)
    | (refine BQ.nn ?_)
    | (refine BQ.x ?_)
    | (refine BQ.r ?_)
    | (refine BQ.g ?_)
    | (refine BQ.y rfl ?_)
    | (refine LQ.x ?_)
    | (refine LQ.r ?_)
    | (refine LQ.g ?_)
    | (refine GQ.nn ?_)
    | (refine GQ.x ?_)
    | (refine GQ.r ?_)
    | (refine WO.call rfl (hbl _) ?_; rintro _ H ⟨rfl, hH⟩; obtain rfl := hH.symm; cases pv)
    | (refine WO.call rfl (hbl2 _) ?_; rintro _ H ⟨rfl, hH⟩; obtain rfl := hH.symm; cases pw)
    | (clear hbl; have hkq : k = kk   := hend () (fun e => by first | exact hpv | (exfalso; have hq := hze () (Classical.not_not.1 (by assumption)); omega)); clear hc hne hze hb hpv; refine W.loopI (σ := Nat) (fun m => [(0, .s (.string (pfx (sfx s k) m)))]) (fun m h2 => h2 = h' ∧ m ≤ (sfx s k).size ∧ ∀ j : Nat, m ≤ j → j < (sfx s k).size → blB (bt (sfx s k) (j : Int)) = true) (fun m => m) (sfx s k).size ⟨congrArg (fun x => AV.s (.string x)) pfx_all.symm, trivial⟩ ⟨rfl, Nat.le_refl _, fun j hj hl => absurd hl (by omega)⟩ ?_; rintro m G2 h2 ⟨rfl, hm, hall2⟩; (try dsimp only); have hall2 := (fun _ : Unit => hall2); have hsz2 := pfx_size (sfx s k) m hm; have hr2 := bt_range (pfx (sfx s k) m) (((pfx (sfx s k) m).size : Int) - 1); have hb2 := (fun (_ : Unit) (e : 0 < m) => pfx_bt (sfx s k) (k := m) (i := m - 1) hm (by omega)); have hbl2 := fun h => bl37_FR h (bt (pfx (sfx s k) m) (((pfx (sfx s k) m).size : Int) - 1)); have hne2 := (fun (_ : Unit) (e : pfx (sfx s k) m ≠ ⟨#[]⟩) => ne_size e); have hze2 := (fun (_ : Unit) (e : pfx (sfx s k) m = ⟨#[]⟩) => size0 e); obtain ⟨pw, hpw⟩ : ∃ v, blB (bt (pfx (sfx s k) m) (((pfx (sfx s k) m).size : Int) - 1)) = v := ⟨_, rfl⟩; rw [hpw] at hbl2)
    | (clear hfirst; refine W.loopI (σ := Nat) (fun k => [(0, .s (.string (sfx s k)))]) (fun k h' => h' = h ∧ k ≤ s.size ∧ ∀ j : Nat, j < k → blB (bt s (j : Int)) = true) (fun k => s.size - k) 0 ⟨congrArg (fun x => AV.s (.string x)) (sfx_0 s).symm, trivial⟩ ⟨rfl, Nat.zero_le _, fun j hj => absurd hj (Nat.not_lt_zero _)⟩ ?_; rintro k G h' ⟨rfl, hk, hall⟩; (try dsimp only); have hsz := sfx_size s k; have hr := bt_range (sfx s k) 0; have hb := (fun (_ : Unit) (e : k < s.size) => sfx_bt s (k := k) (i := 0) (by omega)); have hbl := fun h => bl37_FR h (bt (sfx s k) 0); have hall := (fun _ : Unit => hall); have hne := (fun (_ : Unit) (e : sfx s k ≠ ⟨#[]⟩) => ne_size e); have hze := (fun (_ : Unit) (e : sfx s k = ⟨#[]⟩) => size0 e); obtain ⟨pv, hpv⟩ : ∃ v, blB (bt (sfx s k) 0) = v := ⟨_, rfl⟩; rw [hpv] at hbl; have hend : Unit → (k < s.size → blB (bt (sfx s k) 0) = false) → k = kk := (fun (_ : Unit) e => hkk ▸ (trL_eq hk (hall ()) (fun h => by have h2 := hb () h; simp only [Nat.add_zero] at h2; rw [show ((0 : Nat) : Int) = 0 from rfl] at h2; rw [← h2]; exact e h)).symm)))
  · refine ⟨congrArg (fun s : ByteArray => AV.s (.string s)) ?_, rfl⟩
    subst hkq
    refine congrArg (pfx (sfx s k)) (trR_eq hm (hall2 ()) (fun h => ?_)).symm
    have hb := hb2 () (by omega)
    rw [show ((m - 1 : Nat) : Int) = (m : Int) - 1 by omega] at hb
    rw [← hb]
    rwa [hsz2] at hpw
  · have hq := hne2 () hc
    refine ⟨m - 1, by omega, ⟨rfl, trivial⟩, rfl, by omega, fun j hj hl => ?_⟩
    have hb := hb2 () (by omega)
    rcases Nat.lt_or_ge j m with h1 | h1
    · rw [show j = m - 1 by omega, ← hb, show ((m - 1 : Nat) : Int) = (m : Int) - 1 by omega]
      rwa [hsz2] at hpw
    · exact hall2 () j h1 hl
  · refine ⟨congrArg (fun s : ByteArray => AV.s (.string s)) ?_, rfl⟩
    subst hkq
    refine congrArg (pfx (sfx s k)) (trR_eq hm (hall2 ()) (fun h => ?_)).symm
    exfalso
    have := hze2 () (Classical.not_not.1 hc)
    omega
  · have hq := hne () hc
    refine ⟨k + 1, by omega, ⟨rfl, trivial⟩, rfl, by omega, fun j hj => ?_⟩
    have hb := hb () (by omega)
    simp only [Nat.add_zero] at hb
    rw [show ((0 : Nat) : Int) = 0 from rfl] at hb
    rcases Nat.lt_or_ge j k with h1 | h1
    · exact hall () j h1
    · rw [show j = k by omega, ← hb]; exact hpv
  · refine ⟨congrArg (fun s : ByteArray => AV.s (.string s)) ?_, rfl⟩
    subst hkq
    refine congrArg (pfx (sfx s k)) (trR_eq hm (hall2 ()) (fun h => ?_)).symm
    have hb := hb2 () (by omega)
    rw [show ((m - 1 : Nat) : Int) = (m : Int) - 1 by omega] at hb
    rw [← hb]
    rwa [hsz2] at hpw
  · have hq := hne2 () hc
    refine ⟨m - 1, by omega, ⟨rfl, trivial⟩, rfl, by omega, fun j hj hl => ?_⟩
    have hb := hb2 () (by omega)
    rcases Nat.lt_or_ge j m with h1 | h1
    · rw [show j = m - 1 by omega, ← hb, show ((m - 1 : Nat) : Int) = (m : Int) - 1 by omega]
      rwa [hsz2] at hpw
    · exact hall2 () j h1 hl
  · refine ⟨congrArg (fun s : ByteArray => AV.s (.string s)) ?_, rfl⟩
    subst hkq
    refine congrArg (pfx (sfx s k)) (trR_eq hm (hall2 ()) (fun h => ?_)).symm
    exfalso
    have := hze2 () (Classical.not_not.1 hc)
    omega
end Go.Proofs.YtdgnddidibpilaaDoor.AS
end
section
set_option autoImplicit false
set_option maxRecDepth 100000
set_option maxHeartbeats 4000000
set_option linter.unusedSimpArgs false
set_option linter.unusedVariables false
namespace Go.Proofs.YtdgnddidibpilaaDoor.AS
open Go Go.Proofs Go.RowKit Go.Proofs.YtdgnddidibpilaaDoor.AS.V

theorem sm_next {B L : List Int} {i : Nat} (h : i < B.length) (hL : L = (B.take i).map smB ++ B.drop i) : nth L i = nth B i ∧ L.take i = (B.take i).map smB ∧ L.drop (i + 1) = B.drop (i + 1) ∧ L = (B.take i).map smB ++ ([nth B i] ++ B.drop (i + 1)) := by
  have hl : ((B.take i).map smB).length = i := by rw [List.length_map, List.length_take]; omega
  have hd : B.drop i = [nth B i] ++ B.drop (i + 1) := by
    rw [List.drop_eq_getElem_cons h, nth_eq (by simpa using h)]; simp
  rw [hd] at hL
  subst hL
  generalize (B.take i).map smB = A at hl
  subst hl
  refine ⟨?_, List.take_left, ?_, rfl⟩
  · rw [nth_eq (by simp)]
    simp
  · rw [← List.drop_drop, List.drop_left]; rfl
theorem nth_rng {B : List Int} {i : Nat} (h : ∀ c ∈ B, 0 ≤ c ∧ c ≤ 255) (hi : i < B.length) : 0 ≤ nth B (i : Int) ∧ nth B (i : Int) ≤ 255 := by
  rw [nth_eq (by simpa using hi)]
  exact h _ (List.getElem_mem _)
theorem small42_FR (h : Heap) (s : ByteArray) (hs : s.size ≤ 140737488355328) : FR Tryd.prog TT 42 [.s (.string s)] h fun x H => x = .s (.string (strOfNums ((bytesOf s).map smB))) ∧ Grows h H := by
  have hlen := bytesOf_length s
  have hrg := bytesOf_range s
  refine FR.of q42 (by kernel_rfl) ?_
  unfold c42
  repeat' (first
    | (refine WO.mvE (.sl b 0 0 (bytesOf s).length 1) rfl ?_)
    | (refine WO.s2bO rfl hs (fun b H1 hb g1 ob => ?_))
    | (refine WO.lenO rfl ?_)
    | (refine W.loopI (σ := Nat × List Int) (fun s' => [(3, .sl b 0 0 (bytesOf s).length 1), (8, .sl b 0 0 (bytesOf s).length 1), (9, .s (.int .i64 (bytesOf s).length)), (10, .s (.int .i64 s'.1))]) (fun s' h' => Obj h' b (s'.2.map fun m => .s (.int .u8 m)) ∧ Grows h h' ∧ s'.2 = ((bytesOf s).take s'.1).map smB ++ (bytesOf s).drop s'.1 ∧ s'.1 ≤ (bytesOf s).length) (fun s' => (bytesOf s).length - s'.1) (0, bytesOf s) ⟨rfl, rfl, rfl, rfl, trivial⟩ ⟨ob, g1, rfl, Nat.zero_le _⟩ ?_; rintro ⟨i, L⟩ G h' ⟨ob2, g2, hL, hi⟩; dsimp only at ob2 g2 hL hi ⊢; have hll : L.length = (bytesOf s).length := (by rw [hL, List.length_append, List.length_map, List.length_take, List.length_drop]; omega); have hnr := fun (e : i < (bytesOf s).length) => (sm_next e hL).1 ▸ nth_rng hrg e)
    | (refine WO.iaddrO rfl rfl (by omega) (by omega) ?_)
    | (refine WO.loadO rfl ob2 (Nat.ble_eq_true_of_le (by simp; omega)) (by rw [show 0 + ((i : Int)).toNat * 1 = i by simp]; exact cells_at (by omega)) ?_)
    | (refine WO.storeO (C' := (L.take i ++ [nth L i + 32] ++ L.drop (i + 1)).map fun m => .s (.int .u8 m)) rfl ob2 rfl rfl rfl (Nat.ble_eq_true_of_le (by simp; omega)) (by rw [show 0 + ((i : Int)).toNat * 1 = i by simp]; simp [List.map_take, List.map_drop]) (fun H3 ob3 u3 => ?_))
    | (refine WO.b2sO (by rw [← hll]; rfl) ob2 ?_)
    | (refine LQ.fin ?_)
    | (refine EQ.fin rfl ?_)
    | (refine EQ.finN rfl ?_)
    | (refine WO.mvs rfl ?_)
    | (refine WO.mvp rfl ?_)
    | (refine WO.mvt rfl ?_)
    | (refine WO.mv ?_)
    | (refine W.sreg ?_)
    | (refine W.sdraw ?_)
    | (refine W.reg ?_)
    | (refine W.draw ?_)
    | (refine WO.nil ?_)
    | (refine WO.gU rfl ?_)
    | (refine WO.gT rfl rfl ?_)
    | (refine WO.gF rfl rfl ?_)
    | (refine WO.ext rfl rfl ?_)
    | (refine WO.lenR (by assumption) ?_)
    | (refine WO.add rfl rfl (by first | exact wrOK (by simp only [loK, hiK]; omega) | rfl) ?_)
    | (refine WO.sub rfl rfl (by first | exact wrOK (by simp only [loK, hiK]; omega) | rfl) ?_)
    | (refine WO.lss rfl rfl ?_)
    | (refine WO.leq rfl rfl ?_)
    | (refine WO.gtr rfl rfl ?_)
    | (refine WO.geq rfl rfl ?_)
    | (refine WO.eql rfl rfl ?_)
    | (refine WO.neq rfl rfl ?_)
    | (refine WO.seql rfl rfl ?_)
    | (refine WO.sneq rfl rfl ?_)
    | (refine WO.beql rfl rfl (tb rfl) ?_)
    | (refine WO.bneq rfl rfl (tb rfl) ?_)
    | (refine WO.not rfl ?_)
    | (refine WO.not0 rfl ?_)
    | (refine WO.cvi rfl (kd rfl) (kd rfl) (by first | exact wrOK (by simp only [loK, hiK]; omega) | rfl) ?_)
    | (refine WO.cvs rfl (st rfl) (st rfl) ?_)
    | (refine WO.ix rfl rfl (st rfl) (by first | assumption | omega) (by first | assumption | omega) ?_)
    | (refine WO.slen rfl (st rfl) ?_)
    | (refine WO.iaddr (by assumption) rfl rfl (by first | assumption | omega) (by first | assumption | omega) (fun q hq => ?_))
    | (refine WO.load (by assumption) rfl rfl ?_)
    | (refine WO.loadO rfl (by assumption) rfl rfl ?_)
    | (refine WO.faddrP (by assumption) rfl (fun q hq => ?_))
    | (refine WO.nilckP (by assumption) ?_)
    | (refine WO.nilck rfl ?_)
    | (refine WO.faddr rfl ?_)
    | (refine WO.fld rfl rfl rfl ?_)
    | (refine WO.pickT rfl ?_)
    | (refine WO.pickF rfl ?_)
    | (refine WO.sll rfl rfl (st rfl) (by first | assumption | omega) (by first | assumption | omega) ?_)
    | (refine WO.slh rfl rfl (st rfl) (by first | assumption | omega) (by first | assumption | omega) ?_)
    | (refine WO.slb rfl rfl rfl (st rfl) (by first | assumption | omega) (by first | assumption | omega) (by first | assumption | omega) ?_)
    | (refine WO.mul rfl rfl (by first | exact wrOK (by simp only [loK, hiK]; omega) | rfl) ?_)
    | (refine WO.quo rfl rfl (by first | assumption | omega) (by first | exact wrOK (by simp only [loK, hiK]; omega) | rfl) ?_)
    | (refine WO.rem rfl rfl (by first | assumption | omega) ?_)
    | (refine WO.and rfl rfl ?_)
    | (refine WO.or rfl rfl ?_)
    | (refine WO.xor rfl rfl ?_)
    | (refine WO.shl rfl rfl (by first | assumption | omega) (by simp [IntKind.bits]; rfl) ?_)
    | (refine WO.shr rfl rfl (by first | assumption | omega) (by simp [IntKind.bits]; rfl) ?_)
    | (refine WO.build (C := [_]) rfl ?_)
    | (refine WO.build (C := [_, _]) rfl ?_)
    | (refine WO.build (C := [_, _, _]) rfl ?_)
    | (refine WO.build (C := [_, _, _, _]) rfl ?_)
    | (refine WO.build (C := [_, _, _, _, _]) rfl ?_)
    | (refine WO.build (C := [_, _, _, _, _, _]) rfl ?_)
    | (refine WO.build (C := [_, _, _, _, _, _, _]) rfl ?_)
    | (refine WO.eqnil (by assumption) (fun hn1 hn2 => ?_) ?_)
    | (refine W.condT rfl ?_)
    | (refine W.condF rfl ?_)
    | (refine W.condDT rfl (by first | assumption | omega) ?_)
    | (refine W.condDF rfl (by first | assumption | omega) ?_)
    | (refine W.condD rfl (fun hc => ?_) (fun hc => ?_))
    | (refine WO.gS rfl (fun hc => ?_) (fun hc => ?_) <;> try (exfalso; omega))
    | (refine WO.pickS rfl (fun hc => ?_) (fun hc => ?_) <;> try (exfalso; omega))
    | (refine W.skip ?_)
    | (refine W.block ?_)
    | (refine W.drawA rfl ?_)
    | (refine W.sdrawA rfl ?_)
    | (refine And.intro rfl ?_)
    | (refine W.exit ?_)
    | (refine W.ret ?_)
    | (refine W.seq ?_)
    | (refine W.goto ?_)
    | (refine W.label ?_)
    | (refine SQ.nn ?_)
    | (refine SQ.x ?_)
    | (refine SQ.r ?_)
    | (refine SQ.g ?_)
    | (refine BQ.nn ?_)
    | (refine BQ.x ?_)
    | (refine BQ.r ?_)
    | (refine BQ.g ?_)
    | (refine BQ.y rfl ?_)
    | (refine LQ.x ?_)
    | (refine LQ.r ?_)
    | (refine LQ.g ?_)
    | (refine GQ.nn ?_)
    | (refine GQ.x ?_)
    | (refine GQ.r ?_))
  all_goals first
    | (obtain ⟨e1, e2, e3, e4⟩ := sm_next (by omega) hL
       have e : smB (nth (bytesOf s) i) = nth (bytesOf s) i + 32 := if_pos ⟨by rw [← e1]; assumption, by rw [← e1]; assumption⟩
       exact ⟨(i + 1, _), by dsimp only; omega, ⟨rfl, rfl, rfl, rfl, trivial⟩, ob3, u3.grows g2 hb, by dsimp only; rw [e1, e2, e3, take_snoc (by omega), List.map_append, List.map_cons, List.map_nil, e], by dsimp only; omega⟩)
    | (obtain ⟨e1, e2, e3, e4⟩ := sm_next (by omega) hL
       have e : smB (nth (bytesOf s) i) = nth (bytesOf s) i := if_neg (by rw [← e1]; omega)
       exact ⟨(i + 1, L), by dsimp only; omega, ⟨rfl, rfl, rfl, rfl, trivial⟩, ob2, g2, by dsimp only; rw [take_snoc (by omega), List.map_append, List.map_cons, List.map_nil, e, List.append_assoc]; exact e4, by dsimp only; omega⟩)
    | (refine ⟨?_, g2⟩
       have : L = (bytesOf s).map smB := by rw [hL, List.take_of_length_le (by omega), List.drop_eq_nil_of_le (by omega), List.append_nil]
       rw [this]; rfl)
theorem sm_range (s : ByteArray) : ∀ c ∈ (bytesOf s).map smB, 0 ≤ c ∧ c ≤ 255 := by
  intro c hc
  obtain ⟨d, hd, rfl⟩ := List.mem_map.1 hc
  have := bytesOf_range s d hd
  unfold smB
  split <;> omega
theorem like_str (a b : ByteArray) : decide (strOfNums ((bytesOf a).map smB) = strOfNums ((bytesOf b).map smB)) = likeS a b := by
  refine decide_eq_decide.2 ⟨fun e => ?_, fun e => by rw [e]⟩
  have := congrArg bytesOf e
  rwa [bytesOf_strOf (sm_range a), bytesOf_strOf (sm_range b)] at this
theorem like21_FR (h : Heap) (a b : ByteArray) (ha : a.size ≤ 140737488355328) (hb : b.size ≤ 140737488355328) : FR Tryd.prog TT 21 [.s (.string a), .s (.string b)] h fun x H => x = .s (.bool (likeS a b)) ∧ Grows h H := by
  have ka := fun h => small42_FR h a ha
  have kb := fun h => small42_FR h b hb
  have hl := like_str a b
  generalize strOfNums ((bytesOf a).map smB) = x at *
  generalize strOfNums ((bytesOf b).map smB) = y at *
  refine FR.of q21 (by kernel_rfl) ?_
  unfold c21
  repeat' (first
    | (refine LQ.fin ?_)
    | (refine EQ.fin rfl ?_)
    | (refine EQ.finN rfl ?_)
    | (refine WO.mvs rfl ?_)
    | (refine WO.mvp rfl ?_)
    | (refine WO.mvt rfl ?_)
    | (refine WO.mv ?_)
    | (refine W.sreg ?_)
    | (refine W.sdraw ?_)
    | (refine W.reg ?_)
    | (refine W.draw ?_)
    | (refine WO.nil ?_)
    | (refine WO.gU rfl ?_)
    | (refine WO.gT rfl rfl ?_)
    | (refine WO.gF rfl rfl ?_)
    | (refine WO.ext rfl rfl ?_)
    | (refine WO.lenR (by assumption) ?_)
    | (refine WO.add rfl rfl (by first | exact wrOK (by simp only [loK, hiK]; omega) | rfl) ?_)
    | (refine WO.sub rfl rfl (by first | exact wrOK (by simp only [loK, hiK]; omega) | rfl) ?_)
    | (refine WO.lss rfl rfl ?_)
    | (refine WO.leq rfl rfl ?_)
    | (refine WO.gtr rfl rfl ?_)
    | (refine WO.geq rfl rfl ?_)
    | (refine WO.eql rfl rfl ?_)
    | (refine WO.neq rfl rfl ?_)
    | (refine WO.seql rfl rfl ?_)
    | (refine WO.sneq rfl rfl ?_)
    | (refine WO.beql rfl rfl (tb rfl) ?_)
    | (refine WO.bneq rfl rfl (tb rfl) ?_)
    | (refine WO.not rfl ?_)
    | (refine WO.not0 rfl ?_)
    | (refine WO.cvi rfl (kd rfl) (kd rfl) (by first | exact wrOK (by simp only [loK, hiK]; omega) | rfl) ?_)
    | (refine WO.cvs rfl (st rfl) (st rfl) ?_)
    | (refine WO.ix rfl rfl (st rfl) (by first | assumption | omega) (by first | assumption | omega) ?_)
    | (refine WO.slen rfl (st rfl) ?_)
    | (refine WO.iaddr (by assumption) rfl rfl (by first | assumption | omega) (by first | assumption | omega) (fun q hq => ?_))
    | (refine WO.load (by assumption) rfl rfl ?_)
    | (refine WO.loadO rfl (by assumption) rfl rfl ?_)
    | (refine WO.faddrP (by assumption) rfl (fun q hq => ?_))
    | (refine WO.nilckP (by assumption) ?_)
    | (refine WO.nilck rfl ?_)
    | (refine WO.faddr rfl ?_)
    | (refine WO.fld rfl rfl rfl ?_)
    | (refine WO.pickT rfl ?_)
    | (refine WO.pickF rfl ?_)
    | (refine WO.sll rfl rfl (st rfl) (by first | assumption | omega) (by first | assumption | omega) ?_)
    | (refine WO.slh rfl rfl (st rfl) (by first | assumption | omega) (by first | assumption | omega) ?_)
    | (refine WO.slb rfl rfl rfl (st rfl) (by first | assumption | omega) (by first | assumption | omega) (by first | assumption | omega) ?_)
    | (refine WO.mul rfl rfl (by first | exact wrOK (by simp only [loK, hiK]; omega) | rfl) ?_)
    | (refine WO.quo rfl rfl (by first | assumption | omega) (by first | exact wrOK (by simp only [loK, hiK]; omega) | rfl) ?_)
    | (refine WO.rem rfl rfl (by first | assumption | omega) ?_)
    | (refine WO.and rfl rfl ?_)
    | (refine WO.or rfl rfl ?_)
    | (refine WO.xor rfl rfl ?_)
    | (refine WO.shl rfl rfl (by first | assumption | omega) (by simp [IntKind.bits]; rfl) ?_)
    | (refine WO.shr rfl rfl (by first | assumption | omega) (by simp [IntKind.bits]; rfl) ?_)
    | (refine WO.build (C := [_]) rfl ?_)
    | (refine WO.build (C := [_, _]) rfl ?_)
    | (refine WO.build (C := [_, _, _]) rfl ?_)
    | (refine WO.build (C := [_, _, _, _]) rfl ?_)
    | (refine WO.build (C := [_, _, _, _, _]) rfl ?_)
    | (refine WO.build (C := [_, _, _, _, _, _]) rfl ?_)
    | (refine WO.build (C := [_, _, _, _, _, _, _]) rfl ?_)
    | (refine WO.eqnil (by assumption) (fun hn1 hn2 => ?_) ?_)
    | (refine W.condT rfl ?_)
    | (refine W.condF rfl ?_)
    | (refine W.condDT rfl (by first | assumption | omega) ?_)
    | (refine W.condDF rfl (by first | assumption | omega) ?_)
    | (refine W.condD rfl (fun hc => ?_) (fun hc => ?_))
    | (refine WO.gS rfl (fun hc => ?_) (fun hc => ?_) <;> try (exfalso; omega))
    | (refine WO.pickS rfl (fun hc => ?_) (fun hc => ?_) <;> try (exfalso; omega))
    | (refine W.skip ?_)
    | (refine W.block ?_)
    | (refine W.drawA rfl ?_)
    | (refine W.sdrawA rfl ?_)
    | (refine And.intro rfl ?_)
    | (refine W.exit ?_)
    | (refine W.ret ?_)
    | (refine W.seq ?_)
    | (refine W.goto ?_)
    | (refine W.label ?_)
    | (refine SQ.nn ?_)
    | (refine SQ.x ?_)
    | (refine SQ.r ?_)
    | (refine SQ.g ?_)
    | (refine BQ.nn ?_)
    | (refine BQ.x ?_)
    | (refine BQ.r ?_)
    | (refine BQ.g ?_)
    | (refine BQ.y rfl ?_)
    | (refine LQ.x ?_)
    | (refine LQ.r ?_)
    | (refine LQ.g ?_)
    | (refine GQ.nn ?_)
    | (refine GQ.x ?_)
    | (refine GQ.r ?_)
    | (refine WO.call rfl (ka _) ?_; rintro _ H1 ⟨rfl, g1⟩)
    | (refine WO.call rfl (kb _) ?_; rintro _ H2 ⟨rfl, g2⟩))
  all_goals exact ⟨congrArg (fun b : Bool => AV.s (.bool b)) hl, g1.trans g2⟩
theorem all19_FR (h : Heap) (l : AV) (L : List (ByteArray × ByteArray)) (nm : ByteArray) (r : Row encF h l L) (hL : L.length ≤ 4398046511103) (hz : szF L) (hn : nm.size ≤ 140737488355328) : FR Tryd.prog TT 19 [l, .s (.string nm)] h fun x H => Out encS 9 h H x (allS L nm) := by
  refine FR.of q19 (by kernel_rfl) ?_
  unfold c19
  repeat' (first
    | (refine WO.mvE out rfl ?_)
    | (refine WO.mvE a2 rfl ?_)
    | (refine WO.mvE l rfl ?_)
    | (refine WO.lenR r ?_)
    | (refine WO.iaddr hr rfl rfl (by omega) (by omega) (fun q hq => ?_); rw [hf] at hq)
    | (refine LQ.fin ?_)
    | (refine EQ.fin rfl ?_)
    | (refine EQ.finN rfl ?_)
    | (refine WO.mvs rfl ?_)
    | (refine WO.mvp rfl ?_)
    | (refine WO.mvt rfl ?_)
    | (refine WO.mv ?_)
    | (refine W.sreg ?_)
    | (refine W.sdraw ?_)
    | (refine W.reg ?_)
    | (refine W.draw ?_)
    | (refine WO.nil ?_)
    | (refine WO.gU rfl ?_)
    | (refine WO.gT rfl rfl ?_)
    | (refine WO.gF rfl rfl ?_)
    | (refine WO.ext rfl rfl ?_)
    | (refine WO.lenR (by assumption) ?_)
    | (refine WO.add rfl rfl (by first | exact wrOK (by simp only [loK, hiK]; omega) | rfl) ?_)
    | (refine WO.sub rfl rfl (by first | exact wrOK (by simp only [loK, hiK]; omega) | rfl) ?_)
    | (refine WO.lss rfl rfl ?_)
    | (refine WO.leq rfl rfl ?_)
    | (refine WO.gtr rfl rfl ?_)
    | (refine WO.geq rfl rfl ?_)
    | (refine WO.eql rfl rfl ?_)
    | (refine WO.neq rfl rfl ?_)
    | (refine WO.seql rfl rfl ?_)
    | (refine WO.sneq rfl rfl ?_)
    | (refine WO.beql rfl rfl (tb rfl) ?_)
    | (refine WO.bneq rfl rfl (tb rfl) ?_)
    | (refine WO.not rfl ?_)
    | (refine WO.not0 rfl ?_)
    | (refine WO.cvi rfl (kd rfl) (kd rfl) (by first | exact wrOK (by simp only [loK, hiK]; omega) | rfl) ?_)
    | (refine WO.cvs rfl (st rfl) (st rfl) ?_)
    | (refine WO.ix rfl rfl (st rfl) (by first | assumption | omega) (by first | assumption | omega) ?_)
    | (refine WO.slen rfl (st rfl) ?_)
    | (refine WO.iaddr (by assumption) rfl rfl (by first | assumption | omega) (by first | assumption | omega) (fun q hq => ?_))
    | (refine WO.load (by assumption) rfl rfl ?_)
    | (refine WO.loadO rfl (by assumption) rfl rfl ?_)
    | (refine WO.faddrP (by assumption) rfl (fun q hq => ?_))
    | (refine WO.nilckP (by assumption) ?_)
    | (refine WO.nilck rfl ?_)
    | (refine WO.faddr rfl ?_)
    | (refine WO.fld rfl rfl rfl ?_)
    | (refine WO.pickT rfl ?_)
    | (refine WO.pickF rfl ?_)
    | (refine WO.sll rfl rfl (st rfl) (by first | assumption | omega) (by first | assumption | omega) ?_)
    | (refine WO.slh rfl rfl (st rfl) (by first | assumption | omega) (by first | assumption | omega) ?_)
    | (refine WO.slb rfl rfl rfl (st rfl) (by first | assumption | omega) (by first | assumption | omega) (by first | assumption | omega) ?_)
    | (refine WO.mul rfl rfl (by first | exact wrOK (by simp only [loK, hiK]; omega) | rfl) ?_)
    | (refine WO.quo rfl rfl (by first | assumption | omega) (by first | exact wrOK (by simp only [loK, hiK]; omega) | rfl) ?_)
    | (refine WO.rem rfl rfl (by first | assumption | omega) ?_)
    | (refine WO.and rfl rfl ?_)
    | (refine WO.or rfl rfl ?_)
    | (refine WO.xor rfl rfl ?_)
    | (refine WO.shl rfl rfl (by first | assumption | omega) (by simp [IntKind.bits]; rfl) ?_)
    | (refine WO.shr rfl rfl (by first | assumption | omega) (by simp [IntKind.bits]; rfl) ?_)
    | (refine WO.build (C := [_]) rfl ?_)
    | (refine WO.build (C := [_, _]) rfl ?_)
    | (refine WO.build (C := [_, _, _]) rfl ?_)
    | (refine WO.build (C := [_, _, _, _]) rfl ?_)
    | (refine WO.build (C := [_, _, _, _, _]) rfl ?_)
    | (refine WO.build (C := [_, _, _, _, _, _]) rfl ?_)
    | (refine WO.build (C := [_, _, _, _, _, _, _]) rfl ?_)
    | (refine WO.eqnil (by assumption) (fun hn1 hn2 => ?_) ?_)
    | (refine W.condT rfl ?_)
    | (refine W.condF rfl ?_)
    | (refine W.condDT rfl (by first | assumption | omega) ?_)
    | (refine W.condDF rfl (by first | assumption | omega) ?_)
    | (refine W.condD rfl (fun hc => ?_) (fun hc => ?_))
    | (refine WO.gS rfl (fun hc => ?_) (fun hc => ?_) <;> try (exfalso; omega))
    | (refine WO.pickS rfl (fun hc => ?_) (fun hc => ?_) <;> try (exfalso; omega))
    | (refine W.skip ?_)
    | (refine W.block ?_)
    | (refine W.drawA rfl ?_)
    | (refine W.sdrawA rfl ?_)
    | (refine And.intro rfl ?_)
    | (refine W.exit ?_)
    | (refine W.ret ?_)
    | (refine W.seq ?_)
    | (refine W.goto ?_)
    | (refine W.label ?_)
    | (refine SQ.nn ?_)
    | (refine SQ.x ?_)
    | (refine SQ.r ?_)
    | (refine SQ.g ?_)
    | (refine BQ.nn ?_)
    | (refine BQ.x ?_)
    | (refine BQ.r ?_)
    | (refine BQ.g ?_)
    | (refine BQ.y rfl ?_)
    | (refine LQ.x ?_)
    | (refine LQ.r ?_)
    | (refine LQ.g ?_)
    | (refine GQ.nn ?_)
    | (refine GQ.x ?_)
    | (refine GQ.r ?_)
    | (refine WO.new (fun b H1 hb g1 ob => ?_))
    | (refine WO.storeO (C' := [_, _]) rfl ob rfl rfl rfl rfl rfl (fun H2 ob2 u2 => ?_); have g2 := u2.grows g1 hb)
    | (refine WO.call rfl (hc (by omega) _) ?_; rintro _ Hc ⟨rfl, gc⟩; replace g2 := g2.trans gc; replace ob2 := ob2.grows gc)
    | (cases lb)
    | (refine WO.bslS rfl rfl (fun a1 H3 g3 o3 nw3 => ?_))
    | (refine WO.appO (ho.grows (g2.trans g3)) o3.row rfl (encS_ok _) (by simp only [List.length_cons, List.length_nil]; omega) (by simp only [List.length_cons, List.length_nil]; omega) (fun a2 H4 out4 ap => ?_))
    | (refine W.loopI (σ := Nat × AV × List ByteArray) (fun σ => [(1, .s (.string nm)), (5, σ.2.1), (8, l), (9, .s (.int .i64 L.length)), (10, .s (.int .i64 σ.1))]) (fun σ h' => Out encS 9 h h' σ.2.1 σ.2.2 ∧ σ.1 ≤ L.length ∧ σ.2.2 = allS (L.take σ.1) nm) (fun σ => L.length - σ.1) (0, .s (.slice none 0 0), []) ⟨rfl, rfl, rfl, rfl, rfl, trivial⟩ ⟨Out.nil (Grows.refl _), Nat.zero_le _, rfl⟩ ?_; rintro ⟨i, out, O⟩ G h' ⟨ho, hi, hO⟩; dsimp only at ho hi hO ⊢; have hr := r.grows ho.g; have hzi := hz i; obtain ⟨fn, fv, hf⟩ : ∃ fn fv, nth L (i : Int) = (fn, fv) := ⟨_, _, rfl⟩; have hsn := allS_snoc (L := L) (nm := nm) (i := i); have hle := allS_le (L.take i) nm; have htk : (L.take i).length = i := (by rw [List.length_take]; omega); rw [← hO] at hle hsn; rw [hf] at hzi hsn; have hc := fun (e : i < L.length) h => like21_FR h fn nm (hzi e).1 hn; obtain ⟨lb, hlb⟩ : ∃ v, likeS fn nm = v := ⟨_, rfl⟩; rw [hlb] at hc; have hsn := (fun _ : Unit => hsn); have hOl : O.length ≤ i := (by omega)))
  all_goals first
    | (refine ⟨(i + 1, a2, O ++ [fv]), by dsimp only; omega, ⟨rfl, rfl, rfl, rfl, rfl, trivial⟩, out4, by dsimp only; omega, ?_⟩
       rw [hsn () (by omega), if_pos hlb])
    | (refine ⟨(i + 1, out, O), by dsimp only; omega, ⟨rfl, rfl, rfl, rfl, rfl, trivial⟩, ho.grows g2, by dsimp only; omega, ?_⟩
       rw [hsn () (by omega), if_neg (by rw [hlb]; decide), List.append_nil])
    | (have e : allS L nm = O := by rw [hO, List.take_of_length_le (by omega)]
       rw [e]
       exact ⟨ho⟩)
end Go.Proofs.YtdgnddidibpilaaDoor.AS
end
