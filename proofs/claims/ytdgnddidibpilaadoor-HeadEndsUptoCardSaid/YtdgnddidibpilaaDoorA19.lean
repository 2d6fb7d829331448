/- Of our own: an abstract machine beside the model, its soundness, and walks of the program in it. -/
import Derived.Test.YtdgnddidibpilaaDoorA18
import Derived.Test.YtdgnddidibpilaaDoorA13
set_option linter.unusedSimpArgs false
set_option linter.unusedVariables false
section
set_option autoImplicit false
set_option maxRecDepth 100000
set_option maxHeartbeats 4000000
set_option linter.unusedSimpArgs false
set_option linter.unusedVariables false
namespace Go.Proofs.YtdgnddidibpilaaDoor.AS
open Go Go.Proofs Go.RowKit Go.Proofs.YtdgnddidibpilaaDoor.AS.V

theorem find16_FR (h : Heap) (l : AV) (L : List (ByteArray × ByteArray)) (nm : ByteArray) (r : Row encF h l L) (hL : L.length ≤ 4398046511103) (hz : szF L) (hn : nm.size ≤ 140737488355328) : FR Tryd.prog TT 16 [l, .s (.string nm)] h fun x H => x = .tp [.s (.string (findF L nm).1), .s (.int .i64 (findF L nm).2)] ∧ Grows h H := by
  have ka := all19_FR h l L nm r hL hz hn
  have hf : ∀ v V, allS L nm = v :: V → findF L nm = (v, 0) := fun v V e => by unfold findF; rw [e]
  have hf0 : allS L nm = [] → findF L nm = (⟨#[]⟩, 3) := fun e => by unfold findF; rw [e]
  generalize findF L nm = res at *
  generalize allS L nm = A at *
  refine FR.of q16 (by kernel_rfl) ?_
  unfold c16
  repeat' (first
    | (refine WO.mvE l rfl ?_)
    | (refine WO.mvE aa rfl ?_)
    | (refine WO.lenR oa.row ?_)
    | (refine WO.iaddr oa.row rfl rfl (by omega) (by omega) (fun q hq => ?_))
    | (refine LQ.fin ?_)
    | (refine EQ.fin rfl ?_)
    | (refine EQ.finN rfl ?_)
    | (refine WO.mvs rfl ?_)
    | (refine WO.mvp rfl ?_)
    | (refine WO.mvt rfl ?_)
    | (refine WO.mv ?_)
    | (refine W.sreg ?_)
    | (refine W.sdraw ?_)
    | (refine W.reg ?_)
    | (refine W.draw ?_)
    | (refine WO.nil ?_)
    | (refine WO.gU rfl ?_)
    | (refine WO.gT rfl rfl ?_)
    | (refine WO.gF rfl rfl ?_)
    | (refine WO.ext rfl rfl ?_)
    | (refine WO.lenR (by assumption) ?_)
    | (refine WO.add rfl rfl (by first | exact wrOK (by simp only [loK, hiK]; omega) | rfl) ?_)
    | (refine WO.sub rfl rfl (by first | exact wrOK (by simp only [loK, hiK]; omega) | rfl) ?_)
    | (refine WO.lss rfl rfl ?_)
    | (refine WO.leq rfl rfl ?_)
    | (refine WO.gtr rfl rfl ?_)
    | (refine WO.geq rfl rfl ?_)
    | (refine WO.eql rfl rfl ?_)
    | (refine WO.neq rfl rfl ?_)
    | (refine WO.seql rfl rfl ?_)
    | (refine WO.sneq rfl rfl ?_)
    | (refine WO.beql rfl rfl (tb rfl) ?_)
    | (refine WO.bneq rfl rfl (tb rfl) ?_)
    | (refine WO.not rfl ?_)
    | (refine WO.not0 rfl ?_)
    | (refine WO.cvi rfl (kd rfl) (kd rfl) (by first | exact wrOK (by simp only [loK, hiK]; omega) | rfl) ?_)
    | (refine WO.cvs rfl (st rfl) (st rfl) ?_)
    | (refine WO.ix rfl rfl (st rfl) (by first | assumption | omega) (by first | assumption | omega) ?_)
    | (refine WO.slen rfl (st rfl) ?_)
    | (refine WO.iaddr (by assumption) rfl rfl (by first | assumption | omega) (by first | assumption | omega) (fun q hq => ?_))
    | (refine WO.load (by assumption) rfl rfl ?_)
    | (refine WO.loadO rfl (by assumption) rfl rfl ?_)
    | (refine WO.faddrP (by assumption) rfl (fun q hq => ?_))
    | (refine WO.nilckP (by assumption) ?_)
    | (refine WO.nilck rfl ?_)
    | (refine WO.faddr rfl ?_)
    | (refine WO.fld rfl rfl rfl ?_)
    | (refine WO.pickT rfl ?_)
    | (refine WO.pickF rfl ?_)
    | (refine WO.sll rfl rfl (st rfl) (by first | assumption | omega) (by first | assumption | omega) ?_)
    | (refine WO.slh rfl rfl (st rfl) (by first | assumption | omega) (by first | assumption | omega) ?_)
    | (refine WO.slb rfl rfl rfl (st rfl) (by first | assumption | omega) (by first | assumption | omega) (by first | assumption | omega) ?_)
    | (refine WO.mul rfl rfl (by first | exact wrOK (by simp only [loK, hiK]; omega) | rfl) ?_)
    | (refine WO.quo rfl rfl (by first | assumption | omega) (by first | exact wrOK (by simp only [loK, hiK]; omega) | rfl) ?_)
    | (refine WO.rem rfl rfl (by first | assumption | omega) ?_)
    | (refine WO.and rfl rfl ?_)
    | (refine WO.or rfl rfl ?_)
    | (refine WO.xor rfl rfl ?_)
    | (refine WO.shl rfl rfl (by first | assumption | omega) (by simp [IntKind.bits]; rfl) ?_)
    | (refine WO.shr rfl rfl (by first | assumption | omega) (by simp [IntKind.bits]; rfl) ?_)
    | (refine WO.build (C := [_]) rfl ?_)
    | (refine WO.build (C := [_, _]) rfl ?_)
    | (refine WO.build (C := [_, _, _]) rfl ?_)
    | (refine WO.build (C := [_, _, _, _]) rfl ?_)
    | (refine WO.build (C := [_, _, _, _, _]) rfl ?_)
    | (refine WO.build (C := [_, _, _, _, _, _]) rfl ?_)
    | (refine WO.build (C := [_, _, _, _, _, _, _]) rfl ?_)
    | (refine WO.eqnil (by assumption) (fun hn1 hn2 => ?_) ?_)
    | (refine W.condT rfl ?_)
    | (refine W.condF rfl ?_)
    | (refine W.condDT rfl (by first | assumption | omega) ?_)
    | (refine W.condDF rfl (by first | assumption | omega) ?_)
    | (refine W.condD rfl (fun hc => ?_) (fun hc => ?_))
    | (refine WO.gS rfl (fun hc => ?_) (fun hc => ?_) <;> try (exfalso; omega))
    | (refine WO.pickS rfl (fun hc => ?_) (fun hc => ?_) <;> try (exfalso; omega))
    | (refine W.skip ?_)
    | (refine W.block ?_)
    | (refine W.drawA rfl ?_)
    | (refine W.sdrawA rfl ?_)
    | (refine And.intro rfl ?_)
    | (refine W.exit ?_)
    | (refine W.ret ?_)
    | (refine W.seq ?_)
    | (refine W.goto ?_)
    | (refine W.label ?_)
    | (refine SQ.nn ?_)
    | (refine SQ.x ?_)
    | (refine SQ.r ?_)
    | (refine SQ.g ?_)
    | (refine BQ.nn ?_)
    | (refine BQ.x ?_)
    | (refine BQ.r ?_)
    | (refine BQ.g ?_)
    | (refine BQ.y rfl ?_)
    | (refine LQ.x ?_)
    | (refine LQ.r ?_)
    | (refine LQ.g ?_)
    | (refine GQ.nn ?_)
    | (refine GQ.x ?_)
    | (refine GQ.r ?_)
    | (refine WO.call rfl ka ?_; rintro aa Ha oa))
  all_goals first
    | (have e := List.length_eq_zero_iff.1 (show A.length = 0 by omega)
       exact ⟨by rw [hf0 e]; rfl, oa.g⟩)
    | (obtain ⟨v, V, e⟩ : ∃ v V, A = v :: V := by
         cases A with
         | nil => exfalso; simp at *
         | cons v V => exact ⟨v, V, rfl⟩
       refine ⟨?_, oa.g⟩
       rw [hf v V e]
       subst e
       rfl)
theorem ext_nth {α : Type} [Inhabited α] {A B : List α} (h : A.length = B.length) (hh : ∀ j : Nat, j < A.length → nth A (j : Int) = nth B (j : Int)) : A = B := by
  apply List.ext_getElem h
  intro i h1 h2
  have := hh i h1
  rwa [nth_eq (by simpa using h1), nth_eq (by simpa using h2)] at this
theorem ne_nth {α : Type} [Inhabited α] {A B : List α} {j : Nat} (hh : nth A (j : Int) ≠ nth B (j : Int)) : A ≠ B := fun e => hh (by rw [e])
theorem ne_len {α : Type} {A B : List α} (h : A.length ≠ B.length) : A ≠ B := fun e => h (by rw [e])
theorem samef14_FR (h : Heap) (a b : AV) (A B : List (ByteArray × ByteArray)) (ra : Row encF h a A) (rb : Row encF h b B) (hA : A.length ≤ 4611686018427387903) (hB : B.length ≤ 4611686018427387903) : FR Tryd.prog TT 14 [a, b] h fun x H => x = .s (.bool (decide (A = B))) ∧ H = h := by
  refine FR.of q14 (by kernel_rfl) ?_
  unfold c14
  repeat' (first
    | (refine WO.mvE a rfl ?_)
    | (refine WO.mvE b rfl ?_)
    | (refine WO.neqF rfl rfl ?_)
    | (refine WO.lenR ra ?_)
    | (refine WO.lenR rb ?_)
    | (refine WO.iaddr ra rfl rfl (by omega) (by omega) (fun q hq => ?_); rw [hpa] at hq)
    | (refine WO.iaddr rb rfl rfl (by omega) (by omega) (fun q hq => ?_); rw [hpb] at hq)
    | (refine LQ.fin ?_)
    | (refine EQ.fin rfl ?_)
    | (refine EQ.finN rfl ?_)
    | (refine WO.mvs rfl ?_)
    | (refine WO.mvp rfl ?_)
    | (refine WO.mvt rfl ?_)
    | (refine WO.mv ?_)
    | (refine W.sreg ?_)
    | (refine W.sdraw ?_)
    | (refine W.reg ?_)
    | (refine W.draw ?_)
    | (refine WO.nil ?_)
    | (refine WO.gU rfl ?_)
    | (refine WO.gT rfl rfl ?_)
    | (refine WO.gF rfl rfl ?_)
    | (refine WO.ext rfl rfl ?_)
    | (refine WO.lenR (by assumption) ?_)
    | (refine WO.add rfl rfl (by first | exact wrOK (by simp only [loK, hiK]; omega) | rfl) ?_)
    | (refine WO.sub rfl rfl (by first | exact wrOK (by simp only [loK, hiK]; omega) | rfl) ?_)
    | (refine WO.lss rfl rfl ?_)
    | (refine WO.leq rfl rfl ?_)
    | (refine WO.gtr rfl rfl ?_)
    | (refine WO.geq rfl rfl ?_)
    | (refine WO.eql rfl rfl ?_)
    | (refine WO.neq rfl rfl ?_)
    | (refine WO.seql rfl rfl ?_)
    | (refine WO.sneq rfl rfl ?_)
    | (refine WO.beql rfl rfl (tb rfl) ?_)
    | (refine WO.bneq rfl rfl (tb rfl) ?_)
    | (refine WO.not rfl ?_)
    | (refine WO.not0 rfl ?_)
    | (refine WO.cvi rfl (kd rfl) (kd rfl) (by first | exact wrOK (by simp only [loK, hiK]; omega) | rfl) ?_)
    | (refine WO.cvs rfl (st rfl) (st rfl) ?_)
    | (refine WO.ix rfl rfl (st rfl) (by first | assumption | omega) (by first | assumption | omega) ?_)
    | (refine WO.slen rfl (st rfl) ?_)
    | (refine WO.iaddr (by assumption) rfl rfl (by first | assumption | omega) (by first | assumption | omega) (fun q hq => ?_))
    | (refine WO.load (by assumption) rfl rfl ?_)
    | (refine WO.loadO rfl (by assumption) rfl rfl ?_)
    | (refine WO.faddrP (by assumption) rfl (fun q hq => ?_))
    | (refine WO.nilckP (by assumption) ?_)
    | (refine WO.nilck rfl ?_)
    | (refine WO.faddr rfl ?_)
    | (refine WO.fld rfl rfl rfl ?_)
    | (refine WO.pickT rfl ?_)
    | (refine WO.pickF rfl ?_)
    | (refine WO.sll rfl rfl (st rfl) (by first | assumption | omega) (by first | assumption | omega) ?_)
    | (refine WO.slh rfl rfl (st rfl) (by first | assumption | omega) (by first | assumption | omega) ?_)
    | (refine WO.slb rfl rfl rfl (st rfl) (by first | assumption | omega) (by first | assumption | omega) (by first | assumption | omega) ?_)
    | (refine WO.mul rfl rfl (by first | exact wrOK (by simp only [loK, hiK]; omega) | rfl) ?_)
    | (refine WO.quo rfl rfl (by first | assumption | omega) (by first | exact wrOK (by simp only [loK, hiK]; omega) | rfl) ?_)
    | (refine WO.rem rfl rfl (by first | assumption | omega) ?_)
    | (refine WO.and rfl rfl ?_)
    | (refine WO.or rfl rfl ?_)
    | (refine WO.xor rfl rfl ?_)
    | (refine WO.shl rfl rfl (by first | assumption | omega) (by simp [IntKind.bits]; rfl) ?_)
    | (refine WO.shr rfl rfl (by first | assumption | omega) (by simp [IntKind.bits]; rfl) ?_)
    | (refine WO.build (C := [_]) rfl ?_)
    | (refine WO.build (C := [_, _]) rfl ?_)
    | (refine WO.build (C := [_, _, _]) rfl ?_)
    | (refine WO.build (C := [_, _, _, _]) rfl ?_)
    | (refine WO.build (C := [_, _, _, _, _]) rfl ?_)
    | (refine WO.build (C := [_, _, _, _, _, _]) rfl ?_)
    | (refine WO.build (C := [_, _, _, _, _, _, _]) rfl ?_)
    | (refine WO.eqnil (by assumption) (fun hn1 hn2 => ?_) ?_)
    | (refine W.condT rfl ?_)
    | (refine W.condF rfl ?_)
    | (refine W.condDT rfl (by first | assumption | omega) ?_)
    | (refine W.condDF rfl (by first | assumption | omega) ?_)
    | (refine W.condD rfl (fun hc => ?_) (fun hc => ?_))
    | (refine WO.gS rfl (fun hc => ?_) (fun hc => ?_) <;> try (exfalso; omega))
    | (refine WO.pickS rfl (fun hc => ?_) (fun hc => ?_) <;> try (exfalso; omega))
    | (refine W.skip ?_)
    | (refine W.block ?_)
    | (refine W.drawA rfl ?_)
    | (refine W.sdrawA rfl ?_)
    | (refine And.intro rfl ?_)
    | (refine W.exit ?_)
    | (refine W.ret ?_)
    | (refine W.seq ?_)
    | (refine W.goto ?_)
    | (refine W.label ?_)
    | (refine SQ.nn ?_)
    | (refine SQ.x ?_)
    | (refine SQ.r ?_)
    | (refine SQ.g ?_)
    | (refine BQ.nn ?_)
    | (refine BQ.x ?_)
    | (refine BQ.r ?_)
    | (refine BQ.g ?_)
    | (refine BQ.y rfl ?_)
    | (refine LQ.x ?_)
    | (refine LQ.r ?_)
    | (refine LQ.g ?_)
    | (refine GQ.nn ?_)
    | (refine GQ.x ?_)
    | (refine GQ.r ?_)
    | (refine W.loopI (σ := Nat) (fun k => [(0, a), (1, b), (12, .s (.int .i64 A.length)), (13, .s (.int .i64 k))]) (fun k h' => h' = h ∧ k ≤ A.length ∧ ∀ j : Nat, j < k → nth A (j : Int) = nth B (j : Int)) (fun k => A.length - k) 0 ⟨rfl, rfl, rfl, rfl, trivial⟩ ⟨rfl, Nat.zero_le _, fun j hj => absurd hj (Nat.not_lt_zero _)⟩ ?_; rintro k G h' ⟨rfl, hk, hall⟩; (try dsimp only); have hall := (fun _ : Unit => hall); obtain ⟨pa, hpa⟩ : ∃ v, nth A (k : Int) = v := ⟨_, rfl⟩; obtain ⟨pb, hpb⟩ : ∃ v, nth B (k : Int) = v := ⟨_, rfl⟩; obtain ⟨a1, a2⟩ := pa; obtain ⟨b1, b2⟩ := pb))
  all_goals first
    | exact ⟨congrArg (fun b : Bool => AV.s (.bool b)) (decide_eq_false (ne_len (by omega))).symm, rfl⟩
    | exact ⟨congrArg (fun b : Bool => AV.s (.bool b)) (decide_eq_false (ne_nth (j := k) (by rw [hpa, hpb]; assumption))).symm, rfl⟩
    | (refine ⟨k + 1, by omega, ⟨rfl, rfl, rfl, rfl, trivial⟩, rfl, by omega, fun j hj => ?_⟩
       rcases Nat.lt_or_ge j k with h1 | h1
       · exact hall () j h1
       · rw [show j = k by omega, hpa, hpb]; exact Classical.not_not.1 (by assumption))
    | exact ⟨congrArg (fun b : Bool => AV.s (.bool b)) (decide_eq_true (ext_nth (by omega) (fun j hj => hall () j (by omega)))).symm, rfl⟩
theorem sames17_FR (h : Heap) (a b : AV) (A B : List (ByteArray)) (ra : Row encS h a A) (rb : Row encS h b B) (hA : A.length ≤ 4611686018427387903) (hB : B.length ≤ 4611686018427387903) : FR Tryd.prog TT 17 [a, b] h fun x H => x = .s (.bool (decide (A = B))) ∧ H = h := by
  refine FR.of q17 (by kernel_rfl) ?_
  unfold c17
  repeat' (first
    | (refine WO.mvE a rfl ?_)
    | (refine WO.mvE b rfl ?_)
    | (refine WO.lenR ra ?_)
    | (refine WO.lenR rb ?_)
    | (refine WO.iaddr ra rfl rfl (by omega) (by omega) (fun q hq => ?_); rw [hpa] at hq)
    | (refine WO.iaddr rb rfl rfl (by omega) (by omega) (fun q hq => ?_); rw [hpb] at hq)
    | (refine LQ.fin ?_)
    | (refine EQ.fin rfl ?_)
    | (refine EQ.finN rfl ?_)
    | (refine WO.mvs rfl ?_)
    | (refine WO.mvp rfl ?_)
    | (refine WO.mvt rfl ?_)
    | (refine WO.mv ?_)
    | (refine W.sreg ?_)
    | (refine W.sdraw ?_)
    | (refine W.reg ?_)
    | (refine W.draw ?_)
    | (refine WO.nil ?_)
    | (refine WO.gU rfl ?_)
    | (refine WO.gT rfl rfl ?_)
    | (refine WO.gF rfl rfl ?_)
    | (refine WO.ext rfl rfl ?_)
    | (refine WO.lenR (by assumption) ?_)
    | (refine WO.add rfl rfl (by first | exact wrOK (by simp only [loK, hiK]; omega) | rfl) ?_)
    | (refine WO.sub rfl rfl (by first | exact wrOK (by simp only [loK, hiK]; omega) | rfl) ?_)
    | (refine WO.lss rfl rfl ?_)
    | (refine WO.leq rfl rfl ?_)
    | (refine WO.gtr rfl rfl ?_)
    | (refine WO.geq rfl rfl ?_)
    | (refine WO.eql rfl rfl ?_)
    | (refine WO.neq rfl rfl ?_)
    | (refine WO.seql rfl rfl ?_)
    | (refine WO.sneq rfl rfl ?_)
    | (refine WO.beql rfl rfl (tb rfl) ?_)
    | (refine WO.bneq rfl rfl (tb rfl) ?_)
    | (refine WO.not rfl ?_)
    | (refine WO.not0 rfl ?_)
    | (refine WO.cvi rfl (kd rfl) (kd rfl) (by first | exact wrOK (by simp only [loK, hiK]; omega) | rfl) ?_)
    | (refine WO.cvs rfl (st rfl) (st rfl) ?_)
    | (refine WO.ix rfl rfl (st rfl) (by first | assumption | omega) (by first | assumption | omega) ?_)
    | (refine WO.slen rfl (st rfl) ?_)
    | (refine WO.iaddr (by assumption) rfl rfl (by first | assumption | omega) (by first | assumption | omega) (fun q hq => ?_))
    | (refine WO.load (by assumption) rfl rfl ?_)
    | (refine WO.loadO rfl (by assumption) rfl rfl ?_)
    | (refine WO.faddrP (by assumption) rfl (fun q hq => ?_))
    | (refine WO.nilckP (by assumption) ?_)
    | (refine WO.nilck rfl ?_)
    | (refine WO.faddr rfl ?_)
    | (refine WO.fld rfl rfl rfl ?_)
    | (refine WO.pickT rfl ?_)
    | (refine WO.pickF rfl ?_)
    | (refine WO.sll rfl rfl (st rfl) (by first | assumption | omega) (by first | assumption | omega) ?_)
    | (refine WO.slh rfl rfl (st rfl) (by first | assumption | omega) (by first | assumption | omega) ?_)
    | (refine WO.slb rfl rfl rfl (st rfl) (by first | assumption | omega) (by first | assumption | omega) (by first | assumption | omega) ?_)
    | (refine WO.mul rfl rfl (by first | exact wrOK (by simp only [loK, hiK]; omega) | rfl) ?_)
    | (refine WO.quo rfl rfl (by first | assumption | omega) (by first | exact wrOK (by simp only [loK, hiK]; omega) | rfl) ?_)
    | (refine WO.rem rfl rfl (by first | assumption | omega) ?_)
    | (refine WO.and rfl rfl ?_)
    | (refine WO.or rfl rfl ?_)
    | (refine WO.xor rfl rfl ?_)
    | (refine WO.shl rfl rfl (by first | assumption | omega) (by simp [IntKind.bits]; rfl) ?_)
    | (refine WO.shr rfl rfl (by first | assumption | omega) (by simp [IntKind.bits]; rfl) ?_)
    | (refine WO.build (C := [_]) rfl ?_)
    | (refine WO.build (C := [_, _]) rfl ?_)
    | (refine WO.build (C := [_, _, _]) rfl ?_)
    | (refine WO.build (C := [_, _, _, _]) rfl ?_)
    | (refine WO.build (C := [_, _, _, _, _]) rfl ?_)
    | (refine WO.build (C := [_, _, _, _, _, _]) rfl ?_)
    | (refine WO.build (C := [_, _, _, _, _, _, _]) rfl ?_)
    | (refine WO.eqnil (by assumption) (fun hn1 hn2 => ?_) ?_)
    | (refine W.condT rfl ?_)
    | (refine W.condF rfl ?_)
    | (refine W.condDT rfl (by first | assumption | omega) ?_)
    | (refine W.condDF rfl (by first | assumption | omega) ?_)
    | (refine W.condD rfl (fun hc => ?_) (fun hc => ?_))
    | (refine WO.gS rfl (fun hc => ?_) (fun hc => ?_) <;> try (exfalso; omega))
    | (refine WO.pickS rfl (fun hc => ?_) (fun hc => ?_) <;> try (exfalso; omega))
    | (refine W.skip ?_)
    | (refine W.block ?_)
    | (refine W.drawA rfl ?_)
    | (refine W.sdrawA rfl ?_)
    | (refine And.intro rfl ?_)
    | (refine W.exit ?_)
    | (refine W.ret ?_)
    | (refine W.seq ?_)
    | (refine W.goto ?_)
    | (refine W.label ?_)
    | (refine SQ.nn ?_)
    | (refine SQ.x ?_)
    | (refine SQ.r ?_)
    | (refine SQ.g ?_)
    | (refine BQ.nn ?_)
    | (refine BQ.x ?_)
    | (refine BQ.r ?_)
    | (refine BQ.g ?_)
    | (refine BQ.y rfl ?_)
    | (refine LQ.x ?_)
    | (refine LQ.r ?_)
    | (refine LQ.g ?_)
    | (refine GQ.nn ?_)
    | (refine GQ.x ?_)
    | (refine GQ.r ?_)
    | (refine W.loopI (σ := Nat) (fun k => [(0, a), (1, b), (12, .s (.int .i64 A.length)), (13, .s (.int .i64 k))]) (fun k h' => h' = h ∧ k ≤ A.length ∧ ∀ j : Nat, j < k → nth A (j : Int) = nth B (j : Int)) (fun k => A.length - k) 0 ⟨rfl, rfl, rfl, rfl, trivial⟩ ⟨rfl, Nat.zero_le _, fun j hj => absurd hj (Nat.not_lt_zero _)⟩ ?_; rintro k G h' ⟨rfl, hk, hall⟩; (try dsimp only); have hall := (fun _ : Unit => hall); obtain ⟨pa, hpa⟩ : ∃ v, nth A (k : Int) = v := ⟨_, rfl⟩; obtain ⟨pb, hpb⟩ : ∃ v, nth B (k : Int) = v := ⟨_, rfl⟩))
  all_goals first
    | exact ⟨congrArg (fun b : Bool => AV.s (.bool b)) (decide_eq_false (ne_len (by omega))).symm, rfl⟩
    | exact ⟨congrArg (fun b : Bool => AV.s (.bool b)) (decide_eq_false (ne_nth (j := k) (by rw [hpa, hpb]; assumption))).symm, rfl⟩
    | (refine ⟨k + 1, by omega, ⟨rfl, rfl, rfl, rfl, trivial⟩, rfl, by omega, fun j hj => ?_⟩
       rcases Nat.lt_or_ge j k with h1 | h1
       · exact hall () j h1
       · rw [show j = k by omega, hpa, hpb]; exact Classical.not_not.1 (by assumption))
    | exact ⟨congrArg (fun b : Bool => AV.s (.bool b)) (decide_eq_true (ext_nth (by omega) (fun j hj => hall () j (by omega)))).symm, rfl⟩
end Go.Proofs.YtdgnddidibpilaaDoor.AS
end
section
set_option autoImplicit false
set_option maxHeartbeats 1000000
set_option linter.unusedSimpArgs false
set_option linter.unusedVariables false
namespace Go.Proofs.YtdgnddidibpilaaDoor.AS
open Go Go.Proofs Go.RowKit Go.Proofs.YtdgnddidibpilaaDoor.AS.V
def colon : ByteArray := ⟨#[58]⟩
/-- Whether a field may be written. -/
def okF (f : ByteArray × ByteArray) : Bool := decide (f.1.size ≠ 0) && decide (namN (f.1 ++ colon) = f.1.size) && decide (trimS blB f.2 = f.2) && !hasB f.2 10 && !hasB f.2 13
/-- A field's line. -/
def lnF (f : ByteArray × ByteArray) : List Int := bytesOf f.1 ++ [58] ++ (if f.2.size = 0 then [] else 32 :: bytesOf f.2) ++ [10]
def writeS (L : List (ByteArray × ByteArray)) : ByteArray × Int :=
  if L.all okF = true then if 1024 < L.length then (⟨#[]⟩, 15) else (strOfNums (L.flatMap lnF ++ [10]), 0) else (⟨#[]⟩, 2)
/-- What has no carriage return and no line feed is trimmed of them already. -/
theorem trim_cr {v : ByteArray} (h1 : hasB v 10 = false) (h2 : hasB v 13 = false) : trimS crB v = v := by
  have hn : ∀ c : Int, hasB v c = false → ∀ j : Nat, j < v.size → bt v (j : Int) ≠ c := by
    intro c hc j hj e
    have hle := cntU_le (isB c) (bytesOf v)
    rw [bytesOf_length] at hle
    have hz : ¬ cntU (isB c) (bytesOf v) < v.size := of_decide_eq_false hc
    have := (cntU_at (p := isB c) v).1 j (by omega)
    rw [isB, decide_eq_false_iff_not] at this
    exact this e
  have hcr : ∀ j : Nat, j < v.size → crB (bt v (j : Int)) = false := fun j hj => decide_eq_false (fun e => e.elim (hn 13 h2 j hj) (hn 10 h1 j hj))
  have e1 : trR crB v = v.size := trR_eq (Nat.le_refl _) (fun j h1 h2 => absurd h2 (by omega)) (fun h => by
    rw [show (v.size : Int) - 1 = ((v.size - 1 : Nat) : Int) by omega]; exact hcr _ (by omega))
  have e2 : trL crB v = 0 := trL_eq (Nat.zero_le _) (fun j h => absurd h (Nat.not_lt_zero _)) (fun h => hcr 0 h)
  unfold trimS
  rw [e1, pfx_all, e2, sfx_0]
/-- A name is the beginning of its line just if it is as long. -/
theorem pfx_name {a : ByteArray} : pfx (a ++ colon) (namN (a ++ colon)) = a ↔ namN (a ++ colon) = a.size := by
  have hsz : (a ++ colon).size = a.size + 1 := by rw [ByteArray.size_append]; rfl
  have hle : namN (a ++ colon) ≤ (a ++ colon).size := by
    unfold namN
    split
    · rename_i h; omega
    · omega
  constructor
  · intro e
    have := pfx_size (a ++ colon) _ hle
    rw [e] at this
    exact this.symm
  · intro e
    rw [e]
    apply bytesOf_inj
    rw [pfx_bytes _ _ (by omega), bytesOf_append, List.take_left' (bytesOf_length a)]
end Go.Proofs.YtdgnddidibpilaaDoor.AS
end
section
set_option autoImplicit false
set_option maxRecDepth 100000
set_option maxHeartbeats 4000000
set_option linter.unusedSimpArgs false
set_option linter.unusedVariables false
namespace Go.Proofs.YtdgnddidibpilaaDoor.AS
open Go Go.Proofs Go.RowKit Go.Proofs.YtdgnddidibpilaaDoor.AS.V

theorem okF_no {f : ByteArray × ByteArray} (h : f.1.size = 0 ∨ namN (f.1 ++ colon) ≠ f.1.size ∨ trimS blB f.2 ≠ f.2 ∨ hasB f.2 10 = true ∨ hasB f.2 13 = true) : okF f = false := by
  unfold okF
  rcases h with h | h | h | h | h
  · simp [h]
  · simp [h]
  · simp [h]
  · simp [h]
  · simp [h]
theorem okF_yes {f : ByteArray × ByteArray} (h1 : f.1.size ≠ 0) (h2 : namN (f.1 ++ colon) = f.1.size) (h3 : trimS blB f.2 = f.2) (h4 : hasB f.2 10 = false) (h5 : hasB f.2 13 = false) : okF f = true := by
  unfold okF
  simp [h1, h2, h3, h4, h5]
theorem has_yes {v : ByteArray} {c : Int} {j : Nat} (hj : j < v.size) (h : bt v (j : Int) = c) : hasB v c = true := by
  refine decide_eq_true ?_
  rcases Nat.lt_or_ge (cntU (isB c) (bytesOf v)) v.size with h1 | h1
  · exact h1
  · exfalso
    have := (cntU_at (p := isB c) v).1 j (by omega)
    rw [isB, decide_eq_false_iff_not] at this
    exact this h
theorem has_no {v : ByteArray} {c : Int} (h : ∀ j : Nat, j < v.size → bt v (j : Int) ≠ c) : hasB v c = false := by
  refine decide_eq_false (fun e => ?_)
  have := (cntU_at (p := isB c) v).2 e
  rw [isB, decide_eq_true_iff] at this
  exact h _ e this
theorem ln_str (O : List Int) (f : ByteArray × ByteArray) : strOfNums O ++ (f.1 ++ ⟨#[58]⟩) ++ (if f.2.size = 0 then ⟨#[]⟩ else ⟨#[32]⟩ ++ f.2) ++ ⟨#[10]⟩ = strOfNums (O ++ lnF f) := by
  unfold lnF
  rw [strOf_append, strOf_append, strOf_append, strOf_append, strOf_bytesOf]
  have e1 : strOfNums [58] = ⟨#[58]⟩ := by decide
  have e2 : strOfNums [10] = ⟨#[10]⟩ := by decide
  rw [e1, e2]
  split
  · rw [show strOfNums [] = ⟨#[]⟩ by decide]
    apply bytesOf_inj
    simp only [bytesOf_append, List.append_assoc]
  · rw [show (32 :: bytesOf f.2) = [32] ++ bytesOf f.2 from rfl, strOf_append, strOf_bytesOf, show strOfNums [32] = ⟨#[32]⟩ by decide]
    apply bytesOf_inj
    simp only [bytesOf_append, List.append_assoc]
theorem ln_len (f : ByteArray × ByteArray) : f.1.size + f.2.size + 2 ≤ (lnF f).length ∧ (lnF f).length ≤ f.1.size + f.2.size + 3 := by
  unfold lnF
  split
  · simp [bytesOf_length]; omega
  · simp [bytesOf_length]; omega
theorem flat_snoc {L : List (ByteArray × ByteArray)} {i : Nat} (h : i < L.length) : (L.take (i + 1)).flatMap lnF = (L.take i).flatMap lnF ++ lnF (nth L (i : Int)) := by
  rw [take_snoc h, List.flatMap_append]; simp
theorem flat_pre {L : List (ByteArray × ByteArray)} {i : Nat} (h : i < L.length) : ((L.take i).flatMap lnF).length + (lnF (nth L (i : Int))).length ≤ (L.flatMap lnF).length := by
  have e : L = L.take (i + 1) ++ L.drop (i + 1) := (List.take_append_drop _ _).symm
  have := congrArg (fun X => (X.flatMap lnF).length) e
  simp only [List.flatMap_append, List.length_append] at this
  rw [flat_snoc h, List.length_append] at this
  omega
theorem all_snoc {L : List (ByteArray × ByteArray)} {i : Nat} (h : i < L.length) (h1 : (L.take i).all okF = true) (h2 : okF (nth L (i : Int)) = true) : (L.take (i + 1)).all okF = true := by
  rw [take_snoc h, List.all_append, h1]; simp [h2]
theorem all_no {L : List (ByteArray × ByteArray)} {i : Nat} (h : i < L.length) (h2 : okF (nth L (i : Int)) = false) : writeS L = (⟨#[]⟩, 2) := by
  unfold writeS
  refine if_neg (fun e => ?_)
  have := List.all_eq_true.1 e (nth L (i : Int)) (by rw [nth_eq (by simpa using h)]; exact List.getElem_mem _)
  rw [h2] at this; cases this
end Go.Proofs.YtdgnddidibpilaaDoor.AS
end
section
set_option autoImplicit false
set_option linter.unusedSimpArgs false
namespace Go.Proofs.YtdgnddidibpilaaDoor.AS
open Go Go.RowKit Go.Proofs.YtdgnddidibpilaaDoor.AS.V
/-! Regions whose order is open: a read may also be made ahead of effects that stand before it. -/
def okSu (k : Nat) (al : List AOper) : List (Nat × Nat × Nat) → Bool
  | [] => true
  | (i, lo, hi) :: l => (match al[i]? with
    | some ⟨some d, gd, .r (.load _ _ (.tmp t))⟩ => (match gd with | some (s, _) => ((List.range al.length).all fun j => !decide (i ≤ j) || (match al[j]? with | some o => (match o.dst with | some d' => !Nat.beq d' s | none => true) | none => true)) | none => true) && Nat.ble lo ((effs al).filter fun e => decide (e < i)).length && Nat.ble ((effs al).filter fun e => decide (e < i)).length hi && Nat.ble hi k &&
        ((List.range al.length).all fun j => !decide (i < j) || (match al[j]? with | some o => (match o.dst with | some d' => !Nat.beq d' d | none => true) | none => true)) &&
        ((List.range al.length).all fun j => !decide (i ≤ j) || (match al[j]? with | some o => (match o.dst with | some d' => !Nat.beq d' t | none => true) | none => true))
    | _ => false) && okSu k al l
def chkG (al : List AOper) : List (Nat × Nat × Nat) → List (Nat × Option (Nat × Bool))
  | [] => []
  | (i, _, _) :: l => (match al[i]? with | some ⟨some d, gd, _⟩ => [(d, gd)] | _ => []) ++ chkG al l
def okGd (f : Nat → Option AV) (p : Nat × Option (Nat × Bool)) : Prop := (∀ x, f p.1 = some x → avEq x x = true) ∨ ∃ s w, p.2 = some (s, w) ∧ ((∃ vs, f s = some (.s (.tuple vs))) ∨ f s = some (.s (.bool (!w))))
section
variable {P : Program} {g : CallF}
theorem rV_else {tm : List AV} {h h1 : Heap} {agg : Bool} {n : Nat} {x : Operand} (hx : ∀ b v o, evO tm x ≠ some (.pt b v o)) : rV P tm h1 (.load agg n x) = rV P tm h (.load agg n x) := by
  simp only [rV]
  split
  · rename_i b v o e; exact absurd e (hx b v o)
  · rfl
  · rfl
theorem chk_su {k : Nat} {S : List Nat} {al : List AOper} {tm tm' : List AV} {h h' : Heap} {hs : List Heap} {xs : List (List AV × AV × Bool)} (he : runDraw P g al tm h = some (hs, xs, tm', h')) (hok : ∀ o ∈ al, okD tm.length o.dst = true) (hgr : ∀ m, m < k → ∀ a b, hs[m]? = some a → hs[m + 1]? = some b → ∀ c ∈ S, bk b c = bk a c) :
    ∀ (chk : List (Nat × Nat × Nat)), okSu k al chk = true → (∀ t ∈ chkT al chk, ∀ b v o, tm'[t]? = some (.pt b v o) → b ∈ S) → (∀ d ∈ chkG al chk, okGd (fun i => tm'[i]?) d) → chkDraw P al hs xs chk = true := by
  obtain ⟨tmF, hF, xF, rF, e1, e2, e3, e4, e5, e6, e7⟩ := runDraw_trace al tm tm' h h' hs xs he
  have hlen : ∀ j, j ≤ al.length → (tmF j).length = tm.length := by
    intro j
    induction j with
    | zero => intro _; rw [e1]
    | succ j ih =>
      intro hj
      obtain ⟨_, _, _, _, h5⟩ := e5 j _ (List.getElem?_eq_getElem (by omega))
      rw [h5, ← ih (by omega)]
      cases (al[j]).dst <;> simp [putA]
  intro chk
  induction chk with
  | nil => intro _ _ _; rfl
  | cons c chk ih =>
    obtain ⟨i, lo, hi⟩ := c
    intro hst hpt hrf
    simp only [okSu, Bool.and_eq_true] at hst
    simp only [chkDraw, Bool.and_eq_true]
    refine ⟨?_, ih hst.2 (fun t ht => hpt t (by simp only [chkT]; exact List.mem_append_right _ ht)) (fun d hd => hrf d (by simp only [chkG]; exact List.mem_append_right _ hd))⟩
    have h1 := hst.1
    cases ha : al[i]? with
    | none => rw [ha] at h1; simp at h1
    | some o =>
      obtain ⟨d, gd, op⟩ := o
      rw [ha] at h1
      cases d with
      | none => simp at h1
      | some d =>
        cases op with
        | p _ => simp at h1
        | e _ => simp at h1
        | r q =>
          cases q with
          | b2s _ => simp at h1
          | load agg n x =>
          cases x with
          | const _ => simp at h1
          | global _ => simp at h1
          | func _ => simp at h1
          | tmp t =>
          simp only [Bool.and_eq_true] at h1
          obtain ⟨⟨⟨⟨⟨h5g, h2⟩, h2b⟩, h3⟩, h4⟩, h5t⟩ := h1
          have h2 := Nat.le_of_ble_eq_true h2
          have h2b := Nat.le_of_ble_eq_true h2b
          have hin := (List.getElem?_eq_some_iff.1 ha).1
          obtain ⟨f1, f2, f3, f4, f5⟩ := e5 i _ ha
          rw [f1]
          simp only
          cases hr : rF i with
          | false => rfl
          | true =>
            simp only [Bool.not_true, Bool.false_or, List.all_eq_true]
            have hop := f3 hr
            simp only [opV, Option.map_eq_some_iff, Prod.mk.injEq] at hop
            obtain ⟨y, hy1, rfl, hy2⟩ := hop
            have hx : tm'[d]? = some (xF i) := by
              have hdlt : d < tm.length := by
                have := hok _ (List.mem_iff_getElem?.2 ⟨i, ha⟩)
                simpa [okD] using this
              have key : ∀ j, i < j → j ≤ al.length → (tmF j)[d]? = some (xF i) := by
                intro j
                induction j with
                | zero => intro h; omega
                | succ j ihj =>
                  intro h5 h6
                  rcases Nat.lt_or_ge i j with h7 | h7
                  · have h8 := ihj h7 (by omega)
                    obtain ⟨_, _, _, _, h9⟩ := e5 j _ (List.getElem?_eq_getElem (by omega : j < al.length))
                    rw [h9]
                    have h10 := List.all_eq_true.1 h4 j (List.mem_range.2 (by omega))
                    rw [List.getElem?_eq_getElem (by omega : j < al.length)] at h10
                    simp only [decide_eq_true h7, Bool.not_true, Bool.false_or] at h10
                    cases hd' : (al[j]).dst with
                    | none => exact h8
                    | some d' =>
                      rw [hd'] at h10
                      simp only [Bool.not_eq_true'] at h10
                      show ((tmF j).set d' _)[d]? = _
                      rw [List.getElem?_set_ne (fun e => by subst e; simp at h10)]
                      exact h8
                  · obtain rfl : j = i := by omega
                    rw [f5]
                    show ((tmF j).set d _)[d]? = _
                    rw [List.getElem?_set_self (by rw [hlen j (by omega)]; exact hdlt)]
              rw [← e3]; exact key al.length hin (Nat.le_refl _)
            have hstay : ∀ t : Nat, ((List.range al.length).all fun j => !decide (i ≤ j) || (match al[j]? with | some o => (match o.dst with | some d' => !Nat.beq d' t | none => true) | none => true)) = true → (tmF i)[t]? = tm'[t]? := by
              intro t h5t
              have key : ∀ q j, i ≤ j → j + q = al.length → (tmF j)[t]? = (tmF al.length)[t]? := by
                intro q
                induction q with
                | zero => intro j _ hj; rw [show j = al.length by omega]
                | succ q ihq =>
                  intro j hij hj
                  rw [← ihq (j + 1) (by omega) (by omega)]
                  obtain ⟨_, _, _, _, h9⟩ := e5 j _ (List.getElem?_eq_getElem (by omega : j < al.length))
                  rw [h9]
                  have h10 := List.all_eq_true.1 h5t j (List.mem_range.2 (by omega))
                  rw [List.getElem?_eq_getElem (by omega : j < al.length)] at h10
                  simp only [decide_eq_true hij, Bool.not_true, Bool.false_or] at h10
                  cases hd' : (al[j]).dst with
                  | none => rfl
                  | some d' =>
                    rw [hd'] at h10
                    simp only [Bool.not_eq_true'] at h10
                    show _ = ((tmF j).set d' _)[t]?
                    rw [List.getElem?_set_ne (fun e => by subst e; simp at h10)]
              rw [key (al.length - i) i (Nat.le_refl _) (by omega), e3]
            have hti := hstay t h5t
            have hrefl : avEq (xF i) (xF i) = true := by
              rcases hrf (d, gd) (by simp only [chkG, ha]; simp) with h9 | ⟨s, w, rfl, h9⟩
              · exact h9 _ hx
              · exfalso
                have h10 := hstay s h5g
                rw [hr] at f2
                simp only [wantA] at f2
                rcases h9 with ⟨vs, h9⟩ | h9
                · simp only at h9
                  rw [h10, h9] at f2
                  cases f2
                · simp only at h9
                  rw [h10, h9] at f2
                  simp at f2
            have hpS := hpt t (by simp only [chkT, ha]; simp)
            have hrank : ((effs al).filter fun e => decide (e < i)).length = cnt (isEi al) (fun _ => true) i := by
              rw [effs, cnt_filter, cnt_lt _ _ _ (by omega)]
            rw [hrank] at h2 h2b
            have hcE : ∀ j, j ≤ al.length → hs[cnt (isEi al) (fun _ => true) j]? = some (hF j) := fun j hj => by rw [← cntE_take al j hj]; exact e6 j hj
            have hri : hs[cnt (isEi al) (fun _ => true) i]? = some (hF i) := hcE i (by omega)
            have hllt : lo < hs.length := by have := (List.getElem?_eq_some_iff.1 hri).1; omega
            obtain ⟨h0, hlo⟩ : ∃ h0, hs[lo]? = some h0 := ⟨_, List.getElem?_eq_getElem hllt⟩
            have h3 := Nat.le_of_ble_eq_true h3
            have hsame : ∀ hh, (∀ b ∈ S, bk hh b = bk (hF i) b) → rV P (tmF i) hh (.load agg n (.tmp t)) = rV P (tmF i) (hF i) (.load agg n (.tmp t)) := by
              intro hh hbk
              by_cases hq : ∃ b v o, evO (tmF i) (.tmp t) = some (.pt b v o)
              · obtain ⟨b, v, o, hq⟩ := hq
                exact rV_same hq (hbk b (hpS b v o (by rw [← hti]; exact hq)))
              · exact rV_else (fun b v o e => hq ⟨b, v, o, e⟩)
            have grow : ∀ b ∈ S, ∀ q, lo + q ≤ hi → ∀ hk, hs[lo + q]? = some hk → bk hk b = bk h0 b := by
              intro b hbS q
              induction q with
              | zero =>
                intro _ hk h5
                rw [Nat.add_zero, hlo] at h5
                cases h5
                rfl
              | succ q ihq =>
                intro h5 hk h6
                have hlt : lo + q < hs.length := by
                  have := (List.getElem?_eq_some_iff.1 h6).1; omega
                have h7 := List.getElem?_eq_getElem hlt
                exact (hgr (lo + q) (by omega) _ _ h7 (by rw [Nat.add_assoc]; exact h6) b hbS).trans (ihq (by omega) _ h7)
            intro hh hmem
            obtain ⟨m, hm⟩ := List.mem_iff_getElem?.1 hmem
            have hmlt : m < hi + 1 - lo := by
              have := (List.getElem?_eq_some_iff.1 hm).1
              rw [List.length_take] at this
              omega
            rw [List.getElem?_take_of_lt hmlt, List.getElem?_drop] at hm
            have hgi := fun b hb => grow b hb (cnt (isEi al) (fun _ => true) i - lo) (by omega) (hF i) (by rw [show lo + (cnt (isEi al) (fun _ => true) i - lo) = cnt (isEi al) (fun _ => true) i by omega]; exact hri)
            have hg := fun b hb => (grow b hb m (by omega) hh hm).trans (hgi b hb).symm
            unfold okAt
            rw [hsame hh hg, hy1]
            exact hrefl
end
section
variable {P : Program} {T : Nat → CallF} {n : Nat} {F : Fr} {h : Heap} {Q : Ex → Fr → Heap → Prop} {K : Fr → Heap → Prop} {ops l : List AOper} {o : AOper} {b : ACode} {S : List Nat}
/-- The slots that hold places hold such in some blocks. -/
def allQ (S : List Nat) : List Nat → Fr → Prop
  | [], _ => True
  | t :: l, F => (∀ b v o, F t = .pt b v o → b ∈ S) ∧ allQ S l F
theorem allQ_get : ∀ {l : List Nat} {F : Fr}, allQ S l F → ∀ t ∈ l, ∀ b v o, F t = .pt b v o → b ∈ S
  | t :: l, F, h, t', ht => by
    rcases List.mem_cons.1 ht with rfl | ht
    · exact h.1
    · exact allQ_get h.2 t' ht
/-- What was read can be compared, or was not read. -/
def allG : List (Nat × Option (Nat × Bool)) → Fr → Prop
  | [], _ => True
  | p :: l, F => (avEq (F p.1) (F p.1) = true ∨ ∃ s w, p.2 = some (s, w) ∧ ((∃ vs, F s = .s (.tuple vs)) ∨ F s = .s (.bool (!w)))) ∧ allG l F
theorem allG_get : ∀ {l : List (Nat × Option (Nat × Bool))} {F : Fr}, allG l F → ∀ p ∈ l, avEq (F p.1) (F p.1) = true ∨ ∃ s w, p.2 = some (s, w) ∧ ((∃ vs, F s = .s (.tuple vs)) ∨ F s = .s (.bool (!w)))
  | d :: l, F, h, d', hd => by
    rcases List.mem_cons.1 hd with rfl | hd
    · exact h.1
    · exact allG_get h.2 d' hd
theorem allG_s {l : List (Nat × Option (Nat × Bool))} {F : Fr} {d : Nat} {g : Option (Nat × Bool)} {s : ByteArray} (hx : F d = .s (.string s)) (h : allG l F) : allG ((d, g) :: l) F := ⟨.inl (by rw [hx]; simp [avEq, vEq]), h⟩
theorem allG_i {l : List (Nat × Option (Nat × Bool))} {F : Fr} {d : Nat} {g : Option (Nat × Bool)} {k : IntKind} {s : Int} (hx : F d = .s (.int k s)) (h : allG l F) : allG ((d, g) :: l) F := ⟨.inl (by rw [hx]; simp [avEq, vEq]), h⟩
theorem allG_t {l : List (Nat × Option (Nat × Bool))} {F : Fr} {d s : Nat} {w : Bool} {vs : Array Value} (hx : F s = .s (.tuple vs)) (h : allG l F) : allG ((d, some (s, w)) :: l) F := ⟨.inr ⟨s, w, rfl, .inl ⟨vs, hx⟩⟩, h⟩
theorem allG_b {l : List (Nat × Option (Nat × Bool))} {F : Fr} {d s : Nat} {w : Bool} (hx : F s = .s (.bool (!w))) (h : allG l F) : allG ((d, some (s, w)) :: l) F := ⟨.inr ⟨s, w, rfl, .inr hx⟩, h⟩
theorem W.drawU (S : List Nat) {k : Nat} {chk : List (Nat × Nat × Nat)} (hst : (okSu k ops chk && ((chkT ops chk).all fun t => decide (t < n)) && ((chkG ops chk).all fun p => match p.2 with | some (s, _) => decide (s < n) | none => true)) = true) (H : WS P T n k S ops F h (fun F' h' => allQ S (chkT ops chk) F' ∧ allG (chkG ops chk) F' ∧ Q .normal F' h')) : W P T n (.draw ops chk) F h Q := .of fun ho => by
  simp only [Bool.and_eq_true] at hst
  obtain ⟨F', h', ⟨K, r⟩, hP, hR, q⟩ := H.go ho
  refine ⟨_, F', h', ⟨K + 1, fun k j hk hj => ?_⟩, q⟩
  obtain ⟨k, rfl⟩ : ∃ k', k = k' + 1 := ⟨k - 1, by omega⟩
  obtain ⟨hs, xs, hr, hg⟩ := r j (by omega)
  have hc : chkDraw P ops hs xs chk = true := by
    refine chk_su hr (fun o hm => ?_) hg chk hst.1.1 (fun t ht => ?_) (fun p hd => ?_)
    · have : okAO n o = true := List.all_eq_true.1 ho o hm
      simp only [okAO, Bool.and_eq_true] at this
      rw [fr_len]; exact this.1.2
    · intro b v o h1
      have hlt : t < n := by simpa using List.all_eq_true.1 hst.1.2 t ht
      rw [fr_get hlt] at h1
      exact allQ_get hP t ht b v o (Option.some.inj h1)
    · rcases allG_get hR p hd with h1 | ⟨s, w, h1, h2⟩
      · refine .inl fun x hx => ?_
        have hlt : p.1 < n := by
          have := (List.getElem?_eq_some_iff.1 hx).1
          rwa [fr_len] at this
        simp only at hx
        rw [fr_get hlt] at hx
        cases hx
        exact h1
      · have hlt : s < n := by
          have := List.all_eq_true.1 hst.2 p hd
          rw [h1] at this
          simpa using this
        refine .inr ⟨s, w, h1, ?_⟩
        rcases h2 with ⟨vs, h2⟩ | h2
        · exact .inl ⟨vs, by simp only; rw [fr_get hlt, h2]⟩
        · exact .inr (by simp only; rw [fr_get hlt, h2])
  simp only [evC, hr, hc, if_true]
theorem W.sdrawU (S : List Nat) {k : Nat} {chk : List (Nat × Nat × Nat)} (hst : (okSu k ops chk && ((chkT ops chk).all fun t => decide (t < n)) && ((chkG ops chk).all fun p => match p.2 with | some (s, _) => decide (s < n) | none => true)) = true) (H : WS P T n k S ops F h (fun F' h' => allQ S (chkT ops chk) F' ∧ allG (chkG ops chk) F' ∧ W P T n b F' h' Q)) : W P T n (.seq (.draw ops chk) b) F h Q :=
  W.seq (W.drawU S hst (by
    refine .of fun ho => ?_
    obtain ⟨F', h', r, h1, h2, h3⟩ := H.go ho
    exact ⟨F', h', r, h1, h2, ⟨h3⟩⟩))
end
end Go.Proofs.YtdgnddidibpilaaDoor.AS
end
section
set_option autoImplicit false
set_option maxRecDepth 100000
set_option maxHeartbeats 4000000
set_option linter.unusedSimpArgs false
set_option linter.unusedVariables false
namespace Go.Proofs.YtdgnddidibpilaaDoor.AS
open Go Go.Proofs Go.RowKit Go.Proofs.YtdgnddidibpilaaDoor.AS.V

theorem sz10 : (⟨#[10]⟩ : ByteArray).size = 1 := rfl
theorem sz58 : (⟨#[58]⟩ : ByteArray).size = 1 := rfl
theorem sz32 : (⟨#[32]⟩ : ByteArray).size = 1 := rfl
section
variable {S : List Nat} {l : List Nat} {F : Fr} {t b v o : Nat} {u : Value}
theorem allQ_p (hx : F t = .pt b v o) (hb : b ∈ S) (h : allQ S l F) : allQ S (t :: l) F := ⟨fun b' v' o' e => (by rw [hx] at e; cases e; exact hb), h⟩
theorem allQ_s (hx : F t = .s u) (h : allQ S l F) : allQ S (t :: l) F := ⟨fun b' v' o' e => (by rw [hx] at e; cases e), h⟩
end
theorem app_nil (s : ByteArray) : s ++ (⟨#[]⟩ : ByteArray) = s := by
  apply bytesOf_inj
  rw [bytesOf_append]
  exact List.append_nil _
theorem flat_tot (L : List (ByteArray × ByteArray)) (i : Nat) : ((L.take i).flatMap lnF).length ≤ (L.flatMap lnF).length := by
  have e : L = L.take i ++ L.drop i := (List.take_append_drop _ _).symm
  have := congrArg (fun X => (X.flatMap lnF).length) e
  simp only [List.flatMap_append, List.length_append] at this
  omega
theorem write12_FR (h : Heap) (l : AV) (L : List (ByteArray × ByteArray)) (r : Row encF h l L) (hL : L.length ≤ 1048576) (hT : (L.flatMap lnF).length ≤ 8388608) : FR Tryd.prog TT 12 [l] h fun x H => x = .tp [.s (.string (writeS L).1), .s (.int .i64 (writeS L).2)] ∧ Grows h H := by
  have h10 := sz10
  have h58 := sz58
  have h32 := sz32
  refine FR.of q12 (by kernel_rfl) ?_
  unfold c12
  repeat' (first
    | (refine WO.mvE l rfl ?_)
    | (refine WO.lenR r ?_)
    | (refine WO.iaddr hr rfl rfl (by omega) (by omega) (fun q hq => ?_); rw [hf] at hq)
    | (refine LQ.fin ?_)
    | (refine EQ.fin rfl ?_)
    | (refine EQ.finN rfl ?_)
    | (refine WO.mvs rfl ?_)
    | (refine WO.mvp rfl ?_)
    | (refine WO.mvt rfl ?_)
    | (refine WO.mv ?_)
    | (refine W.sreg ?_)
    | (refine W.sdraw ?_)
    | (refine W.reg ?_)
    | (refine W.draw ?_)
    | (refine WO.nil ?_)
    | (refine WO.gU rfl ?_)
    | (refine WO.gT rfl rfl ?_)
    | (refine WO.gF rfl rfl ?_)
    | (refine WO.ext rfl rfl ?_)
    | (refine WO.lenR (by assumption) ?_)
    | (refine WO.add rfl rfl (by first | exact wrOK (by simp only [loK, hiK]; omega) | rfl) ?_)
    | (refine WO.sub rfl rfl (by first | exact wrOK (by simp only [loK, hiK]; omega) | rfl) ?_)
    | (refine WO.lss rfl rfl ?_)
    | (refine WO.leq rfl rfl ?_)
    | (refine WO.gtr rfl rfl ?_)
    | (refine WO.geq rfl rfl ?_)
    | (refine WO.eql rfl rfl ?_)
    | (refine WO.neq rfl rfl ?_)
    | (refine WO.seql rfl rfl ?_)
    | (refine WO.sneq rfl rfl ?_)
    | (refine WO.beql rfl rfl (tb rfl) ?_)
    | (refine WO.bneq rfl rfl (tb rfl) ?_)
    | (refine WO.not rfl ?_)
    | (refine WO.not0 rfl ?_)
    | (refine WO.cvi rfl (kd rfl) (kd rfl) (by first | exact wrOK (by simp only [loK, hiK]; omega) | rfl) ?_)
    | (refine WO.cvs rfl (st rfl) (st rfl) ?_)
    | (refine WO.ix rfl rfl (st rfl) (by first | assumption | omega) (by first | assumption | omega) ?_)
    | (refine WO.slen rfl (st rfl) ?_)
    | (refine WO.iaddr (by assumption) rfl rfl (by first | assumption | omega) (by first | assumption | omega) (fun q hq => ?_))
    | (refine WO.load (by assumption) rfl rfl ?_)
    | (refine WO.loadO rfl (by assumption) rfl rfl ?_)
    | (refine WO.faddrP (by assumption) rfl (fun q hq => ?_))
    | (refine WO.nilckP (by assumption) ?_)
    | (refine WO.nilck rfl ?_)
    | (refine WO.faddr rfl ?_)
    | (refine WO.fld rfl rfl rfl ?_)
    | (refine WO.pickT rfl ?_)
    | (refine WO.pickF rfl ?_)
    | (refine WO.sll rfl rfl (st rfl) (by first | assumption | omega) (by first | assumption | omega) ?_)
    | (refine WO.slh rfl rfl (st rfl) (by first | assumption | omega) (by first | assumption | omega) ?_)
    | (refine WO.slb rfl rfl rfl (st rfl) (by first | assumption | omega) (by first | assumption | omega) (by first | assumption | omega) ?_)
    | (refine WO.mul rfl rfl (by first | exact wrOK (by simp only [loK, hiK]; omega) | rfl) ?_)
    | (refine WO.quo rfl rfl (by first | assumption | omega) (by first | exact wrOK (by simp only [loK, hiK]; omega) | rfl) ?_)
    | (refine WO.rem rfl rfl (by first | assumption | omega) ?_)
    | (refine WO.and rfl rfl ?_)
    | (refine WO.or rfl rfl ?_)
    | (refine WO.xor rfl rfl ?_)
    | (refine WO.shl rfl rfl (by first | assumption | omega) (by simp [IntKind.bits]; rfl) ?_)
    | (refine WO.shr rfl rfl (by first | assumption | omega) (by simp [IntKind.bits]; rfl) ?_)
    | (refine WO.build (C := [_]) rfl ?_)
    | (refine WO.build (C := [_, _]) rfl ?_)
    | (refine WO.build (C := [_, _, _]) rfl ?_)
    | (refine WO.build (C := [_, _, _, _]) rfl ?_)
    | (refine WO.build (C := [_, _, _, _, _]) rfl ?_)
    | (refine WO.build (C := [_, _, _, _, _, _]) rfl ?_)
    | (refine WO.build (C := [_, _, _, _, _, _, _]) rfl ?_)
    | (refine WO.eqnil (by assumption) (fun hn1 hn2 => ?_) ?_)
    | (refine W.condT rfl ?_)
    | (refine W.condF rfl ?_)
    | (refine W.condDT rfl (by first | assumption | omega) ?_)
    | (refine W.condDF rfl (by first | assumption | omega) ?_)
    | (refine W.condD rfl (fun hc => ?_) (fun hc => ?_))
    | (refine WO.gS rfl (fun hc => ?_) (fun hc => ?_) <;> try (exfalso; omega))
    | (refine WO.pickS rfl (fun hc => ?_) (fun hc => ?_) <;> try (exfalso; omega))
    | (refine W.skip ?_)
    | (refine W.block ?_)
    | (refine W.drawA rfl ?_)
    | (refine W.sdrawA rfl ?_)
    | (refine And.intro rfl ?_)
    | (refine W.exit ?_)
    | (refine W.ret ?_)
    | (refine W.seq ?_)
    | (refine W.goto ?_)
    | (refine W.label ?_)
    | (refine SQ.nn ?_)
    | (refine SQ.x ?_)
    | (refine SQ.r ?_)
    | (refine SQ.g ?_)
    | (refine BQ.nn ?_)
    | (refine BQ.x ?_)
    | (refine BQ.r ?_)
    | (refine BQ.g ?_)
    | (refine BQ.y rfl ?_)
    | (refine LQ.x ?_)
    | (refine LQ.r ?_)
    | (refine LQ.g ?_)
    | (refine GQ.nn ?_)
    | (refine GQ.x ?_)
    | (refine GQ.r ?_)
    | (refine WO.new (fun b H1 hb g1 ob => ?_))
    | (refine WO.storeO (C' := [_, _]) rfl ob rfl rfl rfl rfl rfl (fun H2 ob2 u2 => ?_); have g2 := u2.grows g1 hb)
    | (refine W.drawU [b] (k := 2) rfl ?_)
    | (refine WS.zero ?_)
    | (refine WS.ee rfl ?_)
    | (refine WS.nn rfl ?_)
    | (refine ⟨fun _ _ => rfl, ?_⟩)
    | (refine And.intro (allQ_p rfl (by simp) (allQ_p rfl (by simp) trivial)) ?_)
    | (refine And.intro (allQ_p rfl (by simp) (allQ_s rfl trivial)) ?_)
    | (refine And.intro (allQ_s rfl (allQ_s rfl trivial)) ?_)
    | (refine And.intro (allG_b rfl (allG_b rfl trivial)) ?_)
    | (refine And.intro (allG_s (d := 23) (s := fn) rfl (allG_b rfl trivial)) ?_)
    | (refine And.intro (allG_s (d := 23) (s := fn) rfl (allG_s (d := 31) (s := fv) rfl trivial)) ?_)
    | (refine WO.call rfl (k36 _ (by omega)) ?_; rintro _ H ⟨rfl, hH⟩; obtain rfl := hH.symm)
    | (refine WO.call rfl (k38 _ (by omega)) ?_; rintro _ H ⟨rfl, hH⟩; obtain rfl := hH.symm)
    | (refine WO.sadd rfl rfl (by simp only [ByteArray.size_append, strOfNums_size, sz10, sz58, sz32]; omega) ?_)
    | (refine W.loopI (σ := Nat) (fun j => [(0, l), (4, .s (.string (strOfNums O))), (6, .pt b 0 0), (7, .s (.int .i64 j)), (8, l), (9, .s (.int .i64 L.length)), (10, .s (.int .i64 i))]) (fun j h3 => h3 = H2 ∧ j ≤ fv.size ∧ ∀ k : Nat, k < j → bt fv (k : Int) ≠ 10 ∧ bt fv (k : Int) ≠ 13) (fun j => fv.size - j) 0 ⟨rfl, rfl, rfl, rfl, rfl, rfl, rfl, trivial⟩ ⟨rfl, Nat.zero_le _, fun k hk => absurd hk (Nat.not_lt_zero _)⟩ ?_; rintro j G2 h3 ⟨rfl, hj, hnb⟩; (try dsimp only); have hnb := (fun _ : Unit => hnb))
    | ((fail_if_success (have hos' := hos)); refine W.loopI (σ := Nat × List Int) (fun σ => [(0, l), (4, .s (.string (strOfNums σ.2))), (8, l), (9, .s (.int .i64 L.length)), (10, .s (.int .i64 σ.1))]) (fun σ h' => Grows h h' ∧ σ.1 ≤ L.length ∧ σ.2 = (L.take σ.1).flatMap lnF ∧ (L.take σ.1).all okF = true) (fun σ => L.length - σ.1) (0, []) ⟨rfl, rfl, rfl, rfl, rfl, trivial⟩ ⟨Grows.refl _, Nat.zero_le _, rfl, rfl⟩ ?_; rintro ⟨i, O⟩ G h' ⟨ho, hi, hO, hok⟩; dsimp only at ho hi hO hok ⊢; have hr := r.grows ho; have hfs := fun (_ : Unit) => flat_snoc (L := L) (i := i); have hfp := flat_pre (L := L) (i := i); have has := fun (_ : Unit) => all_snoc (L := L) (i := i); have hft := flat_tot L i; rw [← hO] at hft; have hno := fun (_ : Unit) => all_no (L := L) (i := i); have hok := (fun _ : Unit => hok); obtain ⟨fn, fv, hf⟩ : ∃ fn fv, nth L (i : Int) = (fn, fv) := ⟨_, _, rfl⟩; rw [hf] at hfs hfp has hno; have hll := ln_len (fn, fv); dsimp only at hll; rw [← hO] at hfs hfp; have hos : (strOfNums O).size = O.length := strOfNums_size O; have hcs : (fn ++ colon).size = fn.size + 1 := ByteArray.size_append; generalize (lnF (fn, fv)).length = ll at hfp hll; have hpn := fun (_ : Unit) => pfx_name (a := fn); obtain ⟨tv, htv⟩ : ∃ t, trimS blB fv = t := ⟨_, rfl⟩; have k38 := fun (hp : Heap) (hz : fv.size ≤ 140737488355328) => trim38_FR hp fv hz; simp only [htv] at k38; obtain ⟨pn, hpe⟩ : ∃ t, pfx (fn ++ colon) (namN (fn ++ colon)) = t := ⟨_, rfl⟩; have k36 := fun (hp : Heap) (hz : (fn ++ colon).size ≤ 140737488355328) => nam36_FR hp (fn ++ colon) hz; simp only [hpe] at k36 hpn; have htv := fun _ : Unit => htv; clear hpe))
  all_goals try have hfn := fun _ : Unit => okF_no (f := (fn, fv))
  all_goals first
    | exact ⟨by rw [hno () (by omega) (hfn () (.inl (congrArg ByteArray.size hc)))]; rfl, ho.trans g2⟩
    | exact ⟨by rw [hno () (by omega) (hfn () (.inr (.inl (fun e => hc ((hpn ()).2 e)))))]; rfl, ho.trans g2⟩
    | exact ⟨by rw [hno () (by omega) (hfn () (.inr (.inr (.inl (fun e => hc ((htv ()).symm.trans e))))))]; rfl, ho.trans g2⟩
    | exact ⟨by rw [hno () (by omega) (hfn () (.inr (.inr (.inr (.inl (has_yes (j := j) (by omega) hc))))))]; rfl, ho.trans g2⟩
    | exact ⟨by rw [hno () (by omega) (hfn () (.inr (.inr (.inr (.inr (has_yes (j := j) (by omega) hc))))))]; rfl, ho.trans g2⟩
    | (rename_i hb1 hb2
       have hb1' : (j : Int) < (fv.size : Int) := hb1
       have hb2' : ¬ bt fv (j : Int) = 10 := hb2
       have hb3' : ¬ bt fv (j : Int) = 13 := hc
       refine ⟨j + 1, by omega, ⟨rfl, rfl, rfl, rfl, rfl, rfl, rfl, trivial⟩, rfl, by omega, fun k hk => ?_⟩
       rcases Nat.lt_or_ge k j with h1 | h1
       · exact hnb () k h1
       · rw [show k = j by omega]; exact ⟨hb2', hb3'⟩)
    | (have hz : fv.size ≠ 0 := fun e => hc (bytesOf_inj (List.length_eq_zero_iff.1 ((bytesOf_length fv).trans e)))
       have hl := ln_str O (fn, fv)
       rw [if_neg hz] at hl
       have e1 := hfs () (by omega)
       refine ⟨(i + 1, O ++ lnF (fn, fv)), by omega, ⟨rfl, congrArg (fun s => AV.s (Value.string s)) hl, rfl, rfl, rfl, trivial⟩, ho.trans g2, by omega, e1.symm, has () (by omega) (hok ()) (okF_yes (fun e => by rename_i hc1 _ _ _ _ _; exact hc1 (bytesOf_inj (List.length_eq_zero_iff.1 ((bytesOf_length fn).trans e)))) ((hpn ()).1 (Classical.not_not.1 (by assumption))) ((htv ()).trans (Classical.not_not.1 (by assumption))) (has_no (fun k hk => (hnb () k (by omega)).1)) (has_no (fun k hk => (hnb () k (by omega)).2)))⟩)
    | (have hz : fv.size = 0 := congrArg ByteArray.size (Classical.not_not.1 hc)
       have hl := ln_str O (fn, fv)
       rw [if_pos hz, app_nil] at hl
       have e1 := hfs () (by omega)
       refine ⟨(i + 1, O ++ lnF (fn, fv)), by omega, ⟨rfl, congrArg (fun s => AV.s (Value.string s)) hl, rfl, rfl, rfl, trivial⟩, ho.trans g2, by omega, e1.symm, has () (by omega) (hok ()) (okF_yes (fun e => by rename_i hc1 _ _ _ _ _; exact hc1 (bytesOf_inj (List.length_eq_zero_iff.1 ((bytesOf_length fn).trans e)))) ((hpn ()).1 (Classical.not_not.1 (by assumption))) ((htv ()).trans (Classical.not_not.1 (by assumption))) (has_no (fun k hk => (hnb () k (by omega)).1)) (has_no (fun k hk => (hnb () k (by omega)).2)))⟩)
    | (have e1 := hok ()
       rw [List.take_of_length_le (by omega)] at e1
       refine ⟨?_, ho⟩
       unfold writeS
       rw [if_pos e1, if_pos (by omega)]; rfl)
    | (have e1 := hok ()
       rw [List.take_of_length_le (by omega)] at e1 hO
       refine ⟨?_, ho⟩
       unfold writeS
       rw [if_pos e1, if_neg (by omega), ← hO, strOf_append]
       rfl)
end Go.Proofs.YtdgnddidibpilaaDoor.AS
end
section
set_option autoImplicit false
set_option maxHeartbeats 1000000
set_option linter.unusedSimpArgs false
set_option linter.unusedVariables false
namespace Go.Proofs.YtdgnddidibpilaaDoor.AS
open Go Go.Proofs Go.RowKit Go.Proofs.YtdgnddidibpilaaDoor.AS.V
theorem Obj.at {h H : Heap} {b : Nat} {C : List AV} (r : Obj h b C) (hk : bk H b = bk h b) : Obj H b C := by
  obtain ⟨k, h2, r⟩ := r
  exact ⟨k, hk.trans h2, r⟩
/-- A strings.Builder of one's own that leaves some blocks alone. -/
structure BW (h0 h : Heap) (b : Nat) (S : List Nat) (L : List Int) : Prop where
  x : ∃ buf, Bld h b 49 [] buf L ∧ ∀ c, bo buf = some c → h0.length ≤ c ∧ c ∉ S
  n : h0.length ≤ b
  g : Grows h0 h
  s : ∀ c ∈ S, c < h.length ∧ c ≠ b
section
variable {h0 h H : Heap} {b : Nat} {S S' : List Nat} {L : List Int}
theorem BW.ini {ad buf : AV} (o : ObjT h b 49 [.s (.pointer none), .s (.slice none 0 0)]) (hb : h0.length ≤ b) (g : Grows h0 h) : BW h0 h b [] [] :=
  ⟨⟨.s (.slice none 0 0), ⟨⟨_, o, .inl rfl⟩, Own.nil, by simp [bo], fun _ => rfl, .inl ⟨rfl, rfl⟩⟩, fun c hc => by simp [bo] at hc⟩, hb, g, fun c hc => by cases hc⟩
theorem Bld.grows {e : Nat} {xs : List AV} {buf : AV} (B : Bld h b e xs buf L) (g : Grows h H) : Bld H b e xs buf L := B.at (g.bk B.lt) (fun c hc => g.bk (B.o.row.lt hc))
theorem BW.grows (B : BW h0 h b S L) (g : Grows h H) : BW h0 H b S L := by
  obtain ⟨⟨buf, B1, B2⟩, n, g0, s⟩ := B
  exact ⟨⟨buf, B1.grows g, B2⟩, n, g0.trans g, fun c hc => ⟨by have := g.len; have := (s c hc).1; omega, (s c hc).2⟩⟩
theorem BW.sub (B : BW h0 h b S L) (hs : ∀ c ∈ S', c ∈ S) : BW h0 h b S' L := by
  obtain ⟨⟨buf, B1, B2⟩, n, g0, s⟩ := B
  exact ⟨⟨buf, B1, fun c hc => ⟨(B2 c hc).1, fun hm => (B2 c hc).2 (hs c hm)⟩⟩, n, g0, fun c hc => s c (hs c hc)⟩
theorem BW.lt (B : BW h0 h b S L) : b < h.length := by obtain ⟨⟨buf, B1, _⟩, _⟩ := B; exact B1.lt
/-- A block that is new beside it. -/
theorem BW.add {c : Nat} (B : BW h0 h b S L) (g : Grows h H) (hc : h.length ≤ c) (hl : c < H.length) : BW h0 H b (c :: S) L := by
  have hb := B.lt
  have B' := B.grows g
  obtain ⟨⟨buf, B1, B2⟩, n, g0, s⟩ := B
  obtain ⟨_, n', g', s'⟩ := B'
  refine ⟨⟨buf, B1.grows g, fun d hd => ⟨(B2 d hd).1, fun hm => ?_⟩⟩, n', g', fun d hd => ?_⟩
  · have := B1.o.row.lt hd
    rcases List.mem_cons.1 hm with rfl | hm
    · omega
    · exact (B2 d hd).2 hm
  · rcases List.mem_cons.1 hd with rfl | hd
    · exact ⟨hl, by omega⟩
    · exact s' d hd
theorem BW.upd {c : Nat} (B : BW h0 h b S L) (u : Upd h H c) (hc : c ∈ S) (hn : h0.length ≤ c) : BW h0 H b S L := by
  have hb := B.lt
  obtain ⟨⟨buf, B1, B2⟩, n, g0, s⟩ := B
  refine ⟨⟨buf, B1.at (u.keep b (fun e => (s c hc).2 e.symm)) (fun d hd => u.keep d (fun e => (B2 d hd).2 (e ▸ hc))), B2⟩, n, u.grows g0 hn, fun d hd => ⟨by rw [u.len]; exact (s d hd).1, (s d hd).2⟩⟩
/-- Another object's row grew. -/
theorem BW.ap {a a' : AV} (B : BW h0 h b S L) (u : ApF h H a a') (hn : ∀ c, bo a = some c → c ∈ S ∧ h0.length ≤ c) : BW h0 H b S L := by
  have hb := B.lt
  obtain ⟨⟨buf, B1, B2⟩, n, g0, s⟩ := B
  refine ⟨⟨buf, B1.at (u.keep b hb (fun e => (s b (hn b e).1).2 rfl)) (fun d hd => u.keep d (B1.o.row.lt hd) (fun e => (B2 d hd).2 (hn d e).1)), B2⟩, n, fun d hd => ?_, fun d hd => ⟨by have := u.len; have := (s d hd).1; omega, (s d hd).2⟩⟩
  exact (u.keep d (by have := g0.len; omega) (fun e => by have := (hn d e).2; omega)).trans (g0 d hd)
theorem BW.frm {buf buf' : AV} {L' : List Int} (B1 : Bld h b 49 [] buf L) (B2 : ∀ c, bo buf = some c → h0.length ≤ c ∧ c ∉ S) (n : h0.length ≤ b) (g : Grows h0 h) (s : ∀ c ∈ S, c < h.length ∧ c ≠ b) (B' : Bld H b 49 [] buf' L') (f : Frm h H b buf buf') : BW h0 H b S L' ∧ ∀ c ∈ S, bk H c = bk h c := by
  have hb := B1.lt
  have hgl := g.len
  refine ⟨⟨⟨buf', B', fun c hc => ?_⟩, n, fun d hd => ?_, fun c hc => ⟨by have := f.len; have := (s c hc).1; omega, (s c hc).2⟩⟩, fun c hc => f.keep c (s c hc).1 (s c hc).2 (fun e => (B2 c e).2 hc)⟩
  · rcases f.nw c hc with h1 | h1
    · exact B2 c h1
    · exact ⟨by omega, fun hm => by have := (s c hm).1; omega⟩
  · exact (f.keep d (by omega) (by omega) (fun e => by have := (B2 d e).1; omega)).trans (g d hd)
theorem wbW_FR (c : Int) (B : BW h0 h b S L) (hl : L.length ≤ 140737488355327) : FR Tryd.prog TT 40 [.pt b 0 0, .s (.int .u8 c)] h fun x H => x = .s .nilIface ∧ BW h0 H b S (L ++ [c]) ∧ ∀ d ∈ S, bk H d = bk h d := by
  obtain ⟨⟨buf, B1, B2⟩, n, g0, s⟩ := B
  refine FR.mono (wb_FR c B1 hl) (fun a H => ?_)
  rintro ⟨rfl, buf', B', f⟩
  obtain ⟨k1, k2⟩ := BW.frm B1 B2 n g0 s B' f
  exact ⟨rfl, k1, k2⟩
theorem wsW_FR (t : ByteArray) (B : BW h0 h b S L) (hl : L.length + t.size ≤ 140737488355328) : FR Tryd.prog TT 34 [.pt b 0 0, .s (.string t)] h fun x H => x = .tp [.s (.int .i64 t.size), .s .nilIface] ∧ BW h0 H b S (L ++ bytesOf t) ∧ ∀ d ∈ S, bk H d = bk h d := by
  obtain ⟨⟨buf, B1, B2⟩, n, g0, s⟩ := B
  refine FR.mono (ws_FR t B1 hl) (fun a H => ?_)
  rintro ⟨rfl, buf', B', f⟩
  obtain ⟨k1, k2⟩ := BW.frm B1 B2 n g0 s B' f
  exact ⟨rfl, k1, k2⟩
/-- Behind String: the bytes are nobody's. -/
structure BX (h0 h : Heap) (b : Nat) (S : List Nat) : Prop where
  x : ∃ ad buf, ObjT h b 49 [ad, buf]
  n : h0.length ≤ b
  g : Grows h0 h
  s : ∀ c ∈ S, c < h.length ∧ c ≠ b
theorem BX.grows (B : BX h0 h b S) (g : Grows h H) : BX h0 H b S := by
  obtain ⟨⟨ad, buf, o⟩, n, g0, s⟩ := B
  exact ⟨⟨ad, buf, o.grows g⟩, n, g0.trans g, fun c hc => ⟨by have := g.len; have := (s c hc).1; omega, (s c hc).2⟩⟩
theorem BX.upd {c : Nat} (B : BX h0 h b S) (u : Upd h H c) (hc : c ∈ S) (hn : h0.length ≤ c) : BX h0 H b S := by
  obtain ⟨⟨ad, buf, o⟩, n, g0, s⟩ := B
  exact ⟨⟨ad, buf, o.upd u (fun e => (s c hc).2 e.symm)⟩, n, u.grows g0 hn, fun d hd => ⟨by rw [u.len]; exact (s d hd).1, (s d hd).2⟩⟩
theorem BW.bx (B : BW h0 h b S L) : BX h0 h b S := by
  obtain ⟨⟨buf, B1, B2⟩, n, g0, s⟩ := B
  obtain ⟨ad, o, _⟩ := B1.x
  exact ⟨⟨ad, buf, o⟩, n, g0, s⟩
theorem strW_FR (B : BW h0 h b S L) (hl : L.length ≤ 140737488355328) : FR Tryd.prog TT 29 [.pt b 0 0] h fun x H => x = .s (.string (strOfNums L)) ∧ BX h0 H b S ∧ ∀ c ∈ S, bk H c = bk h c := by
  obtain ⟨⟨buf, B1, B2⟩, n, g0, s⟩ := B
  refine FR.mono (str_FR B1 hl) (fun a H => ?_)
  rintro ⟨rfl, ⟨ad, o⟩, k, hlen⟩
  refine ⟨rfl, ⟨⟨ad, buf, o⟩, n, fun d hd => ?_, fun c hc => ⟨by rw [hlen]; exact (s c hc).1, (s c hc).2⟩⟩, fun c hc => k c (fun e => (B2 c e).2 hc)⟩
  exact (k d (fun e => by have := (B2 d e).1; omega)).trans (g0 d hd)
theorem resW_FR (B : BX h0 h b S) : FR Tryd.prog TT 30 [.pt b 0 0] h fun x H => x = .tp [] ∧ BW h0 H b S [] ∧ ∀ c ∈ S, bk H c = bk h c := by
  obtain ⟨⟨ad, buf, o⟩, n, g0, s⟩ := B
  refine FR.mono (reset_FR o (.inl ⟨rfl, rfl⟩)) (fun a H => ?_)
  rintro ⟨rfl, B', u⟩
  exact ⟨rfl, ⟨⟨_, B', fun c hc => by simp [bo] at hc⟩, n, u.grows g0 n, fun c hc => ⟨by rw [u.len]; exact (s c hc).1, (s c hc).2⟩⟩, fun c hc => u.keep c (s c hc).2⟩
end
end Go.Proofs.YtdgnddidibpilaaDoor.AS
end
