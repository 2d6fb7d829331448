/- Of our own: an abstract machine beside the model, its soundness, and walks of the program in it. -/
import Derived.Test.YtdgnddidibpilaaDoorA16
import Derived.Test.YtdgnddidibpilaaDoorA15
import Derived.Laws.StructEq
set_option linter.unusedSimpArgs false
set_option linter.unusedVariables false
section
set_option autoImplicit false
set_option maxRecDepth 100000
set_option maxHeartbeats 4000000
set_option linter.unusedSimpArgs false
set_option linter.unusedVariables false
namespace Go.Proofs.YtdgnddidibpilaaDoor.AS
open Go Go.Proofs Go.RowKit Go.Proofs.YtdgnddidibpilaaDoor.AS.V

theorem let57_FR (h : Heap) (c : Int) : FR Tryd.prog TT 57 [.s (.int .u8 c)] h fun x H => x = .s (.bool (letB c)) ∧ H = h := by
  unfold letB
  refine FR.of q57 (by kernel_rfl) ?_
  unfold c57
  repeat' (first
    | (refine LQ.fin ?_)
    | (refine EQ.fin rfl ?_)
    | (refine EQ.finN rfl ?_)
    | (refine WO.mvs rfl ?_)
    | (refine WO.mvp rfl ?_)
    | (refine WO.mvt rfl ?_)
    | (refine WO.mv ?_)
    | (refine W.sreg ?_)
    | (refine W.sdraw ?_)
    | (refine W.reg ?_)
    | (refine W.draw ?_)
    | (refine WO.nil ?_)
    | (refine WO.gU rfl ?_)
    | (refine WO.gT rfl rfl ?_)
    | (refine WO.gF rfl rfl ?_)
    | (refine WO.ext rfl rfl ?_)
    | (refine WO.lenR (by assumption) ?_)
    | (refine WO.add rfl rfl (by first | exact wrOK (by simp only [loK, hiK]; omega) | rfl) ?_)
    | (refine WO.sub rfl rfl (by first | exact wrOK (by simp only [loK, hiK]; omega) | rfl) ?_)
    | (refine WO.lss rfl rfl ?_)
    | (refine WO.leq rfl rfl ?_)
    | (refine WO.gtr rfl rfl ?_)
    | (refine WO.geq rfl rfl ?_)
    | (refine WO.eql rfl rfl ?_)
    | (refine WO.neq rfl rfl ?_)
    | (refine WO.seql rfl rfl ?_)
    | (refine WO.sneq rfl rfl ?_)
    | (refine WO.beql rfl rfl (tb rfl) ?_)
    | (refine WO.bneq rfl rfl (tb rfl) ?_)
    | (refine WO.not rfl ?_)
    | (refine WO.not0 rfl ?_)
    | (refine WO.cvi rfl (kd rfl) (kd rfl) (by first | exact wrOK (by simp only [loK, hiK]; omega) | rfl) ?_)
    | (refine WO.cvs rfl (st rfl) (st rfl) ?_)
    | (refine WO.ix rfl rfl (st rfl) (by first | assumption | omega) (by first | assumption | omega) ?_)
    | (refine WO.slen rfl (st rfl) ?_)
    | (refine WO.iaddr (by assumption) rfl rfl (by first | assumption | omega) (by first | assumption | omega) (fun q hq => ?_))
    | (refine WO.load (by assumption) rfl rfl ?_)
    | (refine WO.loadO rfl (by assumption) rfl rfl ?_)
    | (refine WO.faddrP (by assumption) rfl (fun q hq => ?_))
    | (refine WO.nilckP (by assumption) ?_)
    | (refine WO.nilck rfl ?_)
    | (refine WO.faddr rfl ?_)
    | (refine WO.fld rfl rfl rfl ?_)
    | (refine WO.pickT rfl ?_)
    | (refine WO.pickF rfl ?_)
    | (refine WO.sll rfl rfl (st rfl) (by first | assumption | omega) (by first | assumption | omega) ?_)
    | (refine WO.slh rfl rfl (st rfl) (by first | assumption | omega) (by first | assumption | omega) ?_)
    | (refine WO.slb rfl rfl rfl (st rfl) (by first | assumption | omega) (by first | assumption | omega) (by first | assumption | omega) ?_)
    | (refine WO.mul rfl rfl (by first | exact wrOK (by simp only [loK, hiK]; omega) | rfl) ?_)
    | (refine WO.quo rfl rfl (by first | assumption | omega) (by first | exact wrOK (by simp only [loK, hiK]; omega) | rfl) ?_)
    | (refine WO.rem rfl rfl (by first | assumption | omega) ?_)
    | (refine WO.and rfl rfl ?_)
    | (refine WO.or rfl rfl ?_)
    | (refine WO.xor rfl rfl ?_)
    | (refine WO.shl rfl rfl (by first | assumption | omega) (by simp [IntKind.bits]; rfl) ?_)
    | (refine WO.shr rfl rfl (by first | assumption | omega) (by simp [IntKind.bits]; rfl) ?_)
    | (refine WO.build (C := [_]) rfl ?_)
    | (refine WO.build (C := [_, _]) rfl ?_)
    | (refine WO.build (C := [_, _, _]) rfl ?_)
    | (refine WO.build (C := [_, _, _, _]) rfl ?_)
    | (refine WO.build (C := [_, _, _, _, _]) rfl ?_)
    | (refine WO.build (C := [_, _, _, _, _, _]) rfl ?_)
    | (refine WO.build (C := [_, _, _, _, _, _, _]) rfl ?_)
    | (refine WO.eqnil (by assumption) (fun hn1 hn2 => ?_) ?_)
    | (refine W.condT rfl ?_)
    | (refine W.condF rfl ?_)
    | (refine W.condDT rfl (by first | assumption | omega) ?_)
    | (refine W.condDF rfl (by first | assumption | omega) ?_)
    | (refine W.condD rfl (fun hc => ?_) (fun hc => ?_))
    | (refine WO.gS rfl (fun hc => ?_) (fun hc => ?_) <;> try (exfalso; omega))
    | (refine WO.pickS rfl (fun hc => ?_) (fun hc => ?_) <;> try (exfalso; omega))
    | (refine W.skip ?_)
    | (refine W.block ?_)
    | (refine W.drawA rfl ?_)
    | (refine W.sdrawA rfl ?_)
    | (refine And.intro rfl ?_)
    | (refine W.exit ?_)
    | (refine W.ret ?_)
    | (refine W.seq ?_)
    | (refine W.goto ?_)
    | (refine W.label ?_)
    | (refine SQ.nn ?_)
    | (refine SQ.x ?_)
    | (refine SQ.r ?_)
    | (refine SQ.g ?_)
    | (refine BQ.nn ?_)
    | (refine BQ.x ?_)
    | (refine BQ.r ?_)
    | (refine BQ.g ?_)
    | (refine BQ.y rfl ?_)
    | (refine LQ.x ?_)
    | (refine LQ.r ?_)
    | (refine LQ.g ?_)
    | (refine GQ.nn ?_)
    | (refine GQ.x ?_)
    | (refine GQ.r ?_))
  all_goals first
    | exact ⟨congrArg (fun b : Bool => AV.s (.bool b)) (decide_eq_decide.2 (by omega)), rfl⟩
    | exact ⟨congrArg (fun b : Bool => AV.s (.bool b)) (decide_eq_false (by omega)).symm, rfl⟩
theorem sm41_FR (h : Heap) (c : Int) (h0 : 0 ≤ c) (h1 : c ≤ 255) : FR Tryd.prog TT 41 [.s (.int .u8 c)] h fun x H => x = .s (.int .u8 (smB c)) ∧ H = h := by
  unfold smB
  refine FR.of q41 (by kernel_rfl) ?_
  unfold c41
  repeat' (first
    | (refine LQ.fin ?_)
    | (refine EQ.fin rfl ?_)
    | (refine EQ.finN rfl ?_)
    | (refine WO.mvs rfl ?_)
    | (refine WO.mvp rfl ?_)
    | (refine WO.mvt rfl ?_)
    | (refine WO.mv ?_)
    | (refine W.sreg ?_)
    | (refine W.sdraw ?_)
    | (refine W.reg ?_)
    | (refine W.draw ?_)
    | (refine WO.nil ?_)
    | (refine WO.gU rfl ?_)
    | (refine WO.gT rfl rfl ?_)
    | (refine WO.gF rfl rfl ?_)
    | (refine WO.ext rfl rfl ?_)
    | (refine WO.lenR (by assumption) ?_)
    | (refine WO.add rfl rfl (by first | exact wrOK (by simp only [loK, hiK]; omega) | rfl) ?_)
    | (refine WO.sub rfl rfl (by first | exact wrOK (by simp only [loK, hiK]; omega) | rfl) ?_)
    | (refine WO.lss rfl rfl ?_)
    | (refine WO.leq rfl rfl ?_)
    | (refine WO.gtr rfl rfl ?_)
    | (refine WO.geq rfl rfl ?_)
    | (refine WO.eql rfl rfl ?_)
    | (refine WO.neq rfl rfl ?_)
    | (refine WO.seql rfl rfl ?_)
    | (refine WO.sneq rfl rfl ?_)
    | (refine WO.beql rfl rfl (tb rfl) ?_)
    | (refine WO.bneq rfl rfl (tb rfl) ?_)
    | (refine WO.not rfl ?_)
    | (refine WO.not0 rfl ?_)
    | (refine WO.cvi rfl (kd rfl) (kd rfl) (by first | exact wrOK (by simp only [loK, hiK]; omega) | rfl) ?_)
    | (refine WO.cvs rfl (st rfl) (st rfl) ?_)
    | (refine WO.ix rfl rfl (st rfl) (by first | assumption | omega) (by first | assumption | omega) ?_)
    | (refine WO.slen rfl (st rfl) ?_)
    | (refine WO.iaddr (by assumption) rfl rfl (by first | assumption | omega) (by first | assumption | omega) (fun q hq => ?_))
    | (refine WO.load (by assumption) rfl rfl ?_)
    | (refine WO.loadO rfl (by assumption) rfl rfl ?_)
    | (refine WO.faddrP (by assumption) rfl (fun q hq => ?_))
    | (refine WO.nilckP (by assumption) ?_)
    | (refine WO.nilck rfl ?_)
    | (refine WO.faddr rfl ?_)
    | (refine WO.fld rfl rfl rfl ?_)
    | (refine WO.pickT rfl ?_)
    | (refine WO.pickF rfl ?_)
    | (refine WO.sll rfl rfl (st rfl) (by first | assumption | omega) (by first | assumption | omega) ?_)
    | (refine WO.slh rfl rfl (st rfl) (by first | assumption | omega) (by first | assumption | omega) ?_)
    | (refine WO.slb rfl rfl rfl (st rfl) (by first | assumption | omega) (by first | assumption | omega) (by first | assumption | omega) ?_)
    | (refine WO.mul rfl rfl (by first | exact wrOK (by simp only [loK, hiK]; omega) | rfl) ?_)
    | (refine WO.quo rfl rfl (by first | assumption | omega) (by first | exact wrOK (by simp only [loK, hiK]; omega) | rfl) ?_)
    | (refine WO.rem rfl rfl (by first | assumption | omega) ?_)
    | (refine WO.and rfl rfl ?_)
    | (refine WO.or rfl rfl ?_)
    | (refine WO.xor rfl rfl ?_)
    | (refine WO.shl rfl rfl (by first | assumption | omega) (by simp [IntKind.bits]; rfl) ?_)
    | (refine WO.shr rfl rfl (by first | assumption | omega) (by simp [IntKind.bits]; rfl) ?_)
    | (refine WO.build (C := [_]) rfl ?_)
    | (refine WO.build (C := [_, _]) rfl ?_)
    | (refine WO.build (C := [_, _, _]) rfl ?_)
    | (refine WO.build (C := [_, _, _, _]) rfl ?_)
    | (refine WO.build (C := [_, _, _, _, _]) rfl ?_)
    | (refine WO.build (C := [_, _, _, _, _, _]) rfl ?_)
    | (refine WO.build (C := [_, _, _, _, _, _, _]) rfl ?_)
    | (refine WO.eqnil (by assumption) (fun hn1 hn2 => ?_) ?_)
    | (refine W.condT rfl ?_)
    | (refine W.condF rfl ?_)
    | (refine W.condDT rfl (by first | assumption | omega) ?_)
    | (refine W.condDF rfl (by first | assumption | omega) ?_)
    | (refine W.condD rfl (fun hc => ?_) (fun hc => ?_))
    | (refine WO.gS rfl (fun hc => ?_) (fun hc => ?_) <;> try (exfalso; omega))
    | (refine WO.pickS rfl (fun hc => ?_) (fun hc => ?_) <;> try (exfalso; omega))
    | (refine W.skip ?_)
    | (refine W.block ?_)
    | (refine W.drawA rfl ?_)
    | (refine W.sdrawA rfl ?_)
    | (refine And.intro rfl ?_)
    | (refine W.exit ?_)
    | (refine W.ret ?_)
    | (refine W.seq ?_)
    | (refine W.goto ?_)
    | (refine W.label ?_)
    | (refine SQ.nn ?_)
    | (refine SQ.x ?_)
    | (refine SQ.r ?_)
    | (refine SQ.g ?_)
    | (refine BQ.nn ?_)
    | (refine BQ.x ?_)
    | (refine BQ.r ?_)
    | (refine BQ.g ?_)
    | (refine BQ.y rfl ?_)
    | (refine LQ.x ?_)
    | (refine LQ.r ?_)
    | (refine LQ.g ?_)
    | (refine GQ.nn ?_)
    | (refine GQ.x ?_)
    | (refine GQ.r ?_))
  all_goals first
    | exact ⟨congrArg (fun n : Int => AV.s (.int .u8 n)) (if_pos (by omega)).symm, rfl⟩
    | exact ⟨congrArg (fun n : Int => AV.s (.int .u8 n)) (if_neg (by omega)).symm, rfl⟩
/-- How long the name is that a line begins with. -/
theorem nam32_FR (h : Heap) (s : ByteArray) (hs : s.size ≤ 140737488355328) : FR Tryd.prog TT 32 [.s (.string s)] h fun x H => x = .s (.int .i64 (namN s)) ∧ H = h := by
  refine FR.of q32 (by kernel_rfl) ?_
  unfold c32
  repeat' (first
    | (refine LQ.fin ?_)
    | (refine EQ.fin rfl ?_)
    | (refine EQ.finN rfl ?_)
    | (refine WO.mvs rfl ?_)
    | (refine WO.mvp rfl ?_)
    | (refine WO.mvt rfl ?_)
    | (refine WO.mv ?_)
    | (refine W.sreg ?_)
    | (refine W.sdraw ?_)
    | (refine W.reg ?_)
    | (refine W.draw ?_)
    | (refine WO.nil ?_)
    | (refine WO.gU rfl ?_)
    | (refine WO.gT rfl rfl ?_)
    | (refine WO.gF rfl rfl ?_)
    | (refine WO.ext rfl rfl ?_)
    | (refine WO.lenR (by assumption) ?_)
    | (refine WO.add rfl rfl (by first | exact wrOK (by simp only [loK, hiK]; omega) | rfl) ?_)
    | (refine WO.sub rfl rfl (by first | exact wrOK (by simp only [loK, hiK]; omega) | rfl) ?_)
    | (refine WO.lss rfl rfl ?_)
    | (refine WO.leq rfl rfl ?_)
    | (refine WO.gtr rfl rfl ?_)
    | (refine WO.geq rfl rfl ?_)
    | (refine WO.eql rfl rfl ?_)
    | (refine WO.neq rfl rfl ?_)
    | (refine WO.seql rfl rfl ?_)
    | (refine WO.sneq rfl rfl ?_)
    | (refine WO.beql rfl rfl (tb rfl) ?_)
    | (refine WO.bneq rfl rfl (tb rfl) ?_)
    | (refine WO.not rfl ?_)
    | (refine WO.not0 rfl ?_)
    | (refine WO.cvi rfl (kd rfl) (kd rfl) (by first | exact wrOK (by simp only [loK, hiK]; omega) | rfl) ?_)
    | (refine WO.cvs rfl (st rfl) (st rfl) ?_)
    | (refine WO.ix rfl rfl (st rfl) (by first | assumption | omega) (by first | assumption | omega) ?_)
    | (refine WO.slen rfl (st rfl) ?_)
    | (refine WO.iaddr (by assumption) rfl rfl (by first | assumption | omega) (by first | assumption | omega) (fun q hq => ?_))
    | (refine WO.load (by assumption) rfl rfl ?_)
    | (refine WO.loadO rfl (by assumption) rfl rfl ?_)
    | (refine WO.faddrP (by assumption) rfl (fun q hq => ?_))
    | (refine WO.nilckP (by assumption) ?_)
    | (refine WO.nilck rfl ?_)
    | (refine WO.faddr rfl ?_)
    | (refine WO.fld rfl rfl rfl ?_)
    | (refine WO.pickT rfl ?_)
    | (refine WO.pickF rfl ?_)
    | (refine WO.sll rfl rfl (st rfl) (by first | assumption | omega) (by first | assumption | omega) ?_)
    | (refine WO.slh rfl rfl (st rfl) (by first | assumption | omega) (by first | assumption | omega) ?_)
    | (refine WO.slb rfl rfl rfl (st rfl) (by first | assumption | omega) (by first | assumption | omega) (by first | assumption | omega) ?_)
    | (refine WO.mul rfl rfl (by first | exact wrOK (by simp only [loK, hiK]; omega) | rfl) ?_)
    | (refine WO.quo rfl rfl (by first | assumption | omega) (by first | exact wrOK (by simp only [loK, hiK]; omega) | rfl) ?_)
    | (refine WO.rem rfl rfl (by first | assumption | omega) ?_)
    | (refine WO.and rfl rfl ?_)
    | (refine WO.or rfl rfl ?_)
    | (refine WO.xor rfl rfl ?_)
    | (refine WO.shl rfl rfl (by first | assumption | omega) (by simp [IntKind.bits]; rfl) ?_)
    | (refine WO.shr rfl rfl (by first | assumption | omega) (by simp [IntKind.bits]; rfl) ?_)
    | (refine WO.build (C := [_]) rfl ?_)
    | (refine WO.build (C := [_, _]) rfl ?_)
    | (refine WO.build (C := [_, _, _]) rfl ?_)
    | (refine WO.build (C := [_, _, _, _]) rfl ?_)
    | (refine WO.build (C := [_, _, _, _, _]) rfl ?_)
    | (refine WO.build (C := [_, _, _, _, _, _]) rfl ?_)
    | (refine WO.build (C := [_, _, _, _, _, _, _]) rfl ?_)
    | (refine WO.eqnil (by assumption) (fun hn1 hn2 => ?_) ?_)
    | (refine W.condT rfl ?_)
    | (refine W.condF rfl ?_)
    | (refine W.condDT rfl (by first | assumption | omega) ?_)
    | (refine W.condDF rfl (by first | assumption | omega) ?_)
    | (refine W.condD rfl (fun hc => ?_) (fun hc => ?_))
    | (refine WO.gS rfl (fun hc => ?_) (fun hc => ?_) <;> try (exfalso; omega))
    | (refine WO.pickS rfl (fun hc => ?_) (fun hc => ?_) <;> try (exfalso; omega))
    | (refine W.skip ?_)
    | (refine W.block ?_)
    | (refine W.drawA rfl ?_)
    | (refine W.sdrawA rfl ?_)
    | (refine And.intro rfl ?_)
    | (refine W.exit ?_)
    | (refine W.ret ?_)
    | (refine W.seq ?_)
    | (refine W.goto ?_)
    | (refine W.label ?_)
    | (refine SQ.nn ?_)
    | (refine SQ.x ?_)
    | (refine SQ.r ?_)
    | (refine SQ.g ?_)
    | (refine BQ.nn ?_)
    | (refine BQ.x ?_)
    | (refine BQ.r ?_)
    | (refine BQ.g ?_)
    | (refine BQ.y rfl ?_)
    | (refine LQ.x ?_)
    | (refine LQ.r ?_)
    | (refine LQ.g ?_)
    | (refine GQ.nn ?_)
    | (refine GQ.x ?_)
    | (refine GQ.r ?_)
    | (refine WO.call rfl (hlet _) ?_; rintro _ H ⟨rfl, hH⟩; obtain rfl := hH.symm)
    | (cases pv)
    | (refine W.loopI (σ := Nat) (fun k => [(0, .s (.string s)), (3, .s (.int .i64 k))]) (fun k h' => h' = h ∧ k ≤ s.size ∧ ∀ j : Nat, j < k → letB (bt s (j : Int)) = true) (fun k => s.size - k) 0 ⟨rfl, rfl, trivial⟩ ⟨rfl, Nat.zero_le _, fun j hj => absurd hj (Nat.not_lt_zero _)⟩ ?_; rintro k G h' ⟨rfl, hk, hall⟩; (try dsimp only); have hr := bt_range s (k : Int); have hlet := fun h => let57_FR h (bt s (k : Int)); have hall := (fun _ : Unit => hall); obtain ⟨pv, hpv⟩ : ∃ v, letB (bt s (k : Int)) = v := ⟨_, rfl⟩; rw [hpv] at hlet))
  all_goals first
    | (refine ⟨k + 1, by omega, ⟨rfl, rfl, trivial⟩, rfl, by omega, fun j hj => ?_⟩
       rcases Nat.lt_or_ge j k with h1 | h1
       · exact hall () j h1
       · rw [show j = k by omega]; exact hpv)
    | (have hl : letN s = k := cntU_eq hk (fun j h => by rw [hall () j h]; rfl) (fun h => by first | (exfalso; omega) | (rw [hpv]; rfl))
       refine ⟨congrArg (fun n : Int => AV.s (.int .i64 n)) ?_, rfl⟩
       unfold namN
       rw [hl]
       first
         | (rw [if_pos ⟨by omega, by omega⟩])
         | (rw [if_neg (fun e => by omega)]; rfl))
theorem like_len {a b : ByteArray} (h : a.size ≠ b.size) : likeS a b = false := by
  refine decide_eq_false (fun e => h ?_)
  have := congrArg List.length e
  simpa [bytesOf_length] using this
theorem like_at {a b : ByteArray} {i : Nat} (hi : i < a.size) (hb : i < b.size) (h : smB (bt a (i : Int)) ≠ smB (bt b (i : Int))) : likeS a b = false := by
  refine decide_eq_false (fun e => h ?_)
  have e2 : ((bytesOf a).map smB)[i]'(by simpa [bytesOf_length] using hi) = ((bytesOf b).map smB)[i]'(by simpa [bytesOf_length] using hb) := by simp only [e]
  simp only [List.getElem_map] at e2
  rwa [bt_elem hi, bt_elem hb] at e2
theorem like_all {a b : ByteArray} (h : a.size = b.size) (h1 : ∀ i : Nat, i < a.size → smB (bt a (i : Int)) = smB (bt b (i : Int))) : likeS a b = true := by
  refine decide_eq_true ?_
  apply List.ext_getElem
  · simp [bytesOf_length, h]
  · intro i hi hb
    simp only [List.length_map, bytesOf_length] at hi hb
    simp only [List.getElem_map]
    rw [bt_elem hi, bt_elem hb]
    exact h1 i hi
theorem like20_FR (h : Heap) (a b : ByteArray) (ha : a.size ≤ 140737488355328) (hb : b.size ≤ 140737488355328) : FR Tryd.prog TT 20 [.s (.string a), .s (.string b)] h fun x H => x = .s (.bool (likeS a b)) ∧ H = h := by
  refine FR.of q20 (by kernel_rfl) ?_
  unfold c20
  repeat' (first
    | (refine LQ.fin ?_)
    | (refine EQ.fin rfl ?_)
    | (refine EQ.finN rfl ?_)
    | (refine WO.mvs rfl ?_)
    | (refine WO.mvp rfl ?_)
    | (refine WO.mvt rfl ?_)
    | (refine WO.mv ?_)
    | (refine W.sreg ?_)
    | (refine W.sdraw ?_)
    | (refine W.reg ?_)
    | (refine W.draw ?_)
    | (refine WO.nil ?_)
    | (refine WO.gU rfl ?_)
    | (refine WO.gT rfl rfl ?_)
    | (refine WO.gF rfl rfl ?_)
    | (refine WO.ext rfl rfl ?_)
    | (refine WO.lenR (by assumption) ?_)
    | (refine WO.add rfl rfl (by first | exact wrOK (by simp only [loK, hiK]; omega) | rfl) ?_)
    | (refine WO.sub rfl rfl (by first | exact wrOK (by simp only [loK, hiK]; omega) | rfl) ?_)
    | (refine WO.lss rfl rfl ?_)
    | (refine WO.leq rfl rfl ?_)
    | (refine WO.gtr rfl rfl ?_)
    | (refine WO.geq rfl rfl ?_)
    | (refine WO.eql rfl rfl ?_)
    | (refine WO.neq rfl rfl ?_)
    | (refine WO.seql rfl rfl ?_)
    | (refine WO.sneq rfl rfl ?_)
    | (refine WO.beql rfl rfl (tb rfl) ?_)
    | (refine WO.bneq rfl rfl (tb rfl) ?_)
    | (refine WO.not rfl ?_)
    | (refine WO.not0 rfl ?_)
    | (refine WO.cvi rfl (kd rfl) (kd rfl) (by first | exact wrOK (by simp only [loK, hiK]; omega) | rfl) ?_)
    | (refine WO.cvs rfl (st rfl) (st rfl) ?_)
    | (refine WO.ix rfl rfl (st rfl) (by first | assumption | omega) (by first | assumption | omega) ?_)
    | (refine WO.slen rfl (st rfl) ?_)
    | (refine WO.iaddr (by assumption) rfl rfl (by first | assumption | omega) (by first | assumption | omega) (fun q hq => ?_))
    | (refine WO.load (by assumption) rfl rfl ?_)
    | (refine WO.loadO rfl (by assumption) rfl rfl ?_)
    | (refine WO.faddrP (by assumption) rfl (fun q hq => ?_))
    | (refine WO.nilckP (by assumption) ?_)
    | (refine WO.nilck rfl ?_)
    | (refine WO.faddr rfl ?_)
    | (refine WO.fld rfl rfl rfl ?_)
    | (refine WO.pickT rfl ?_)
    | (refine WO.pickF rfl ?_)
    | (refine WO.sll rfl rfl (st rfl) (by first | assumption | omega) (by first | assumption | omega) ?_)
    | (refine WO.slh rfl rfl (st rfl) (by first | assumption | omega) (by first | assumption | omega) ?_)
    | (refine WO.slb rfl rfl rfl (st rfl) (by first | assumption | omega) (by first | assumption | omega) (by first | assumption | omega) ?_)
    | (refine WO.mul rfl rfl (by first | exact wrOK (by simp only [loK, hiK]; omega) | rfl) ?_)
    | (refine WO.quo rfl rfl (by first | assumption | omega) (by first | exact wrOK (by simp only [loK, hiK]; omega) | rfl) ?_)
    | (refine WO.rem rfl rfl (by first | assumption | omega) ?_)
    | (refine WO.and rfl rfl ?_)
    | (refine WO.or rfl rfl ?_)
    | (refine WO.xor rfl rfl ?_)
    | (refine WO.shl rfl rfl (by first | assumption | omega) (by simp [IntKind.bits]; rfl) ?_)
    | (refine WO.shr rfl rfl (by first | assumption | omega) (by simp [IntKind.bits]; rfl) ?_)
    | (refine WO.build (C := [_]) rfl ?_)
    | (refine WO.build (C := [_, _]) rfl ?_)
    | (refine WO.build (C := [_, _, _]) rfl ?_)
    | (refine WO.build (C := [_, _, _, _]) rfl ?_)
    | (refine WO.build (C := [_, _, _, _, _]) rfl ?_)
    | (refine WO.build (C := [_, _, _, _, _, _]) rfl ?_)
    | (refine WO.build (C := [_, _, _, _, _, _, _]) rfl ?_)
    | (refine WO.eqnil (by assumption) (fun hn1 hn2 => ?_) ?_)
    | (refine W.condT rfl ?_)
    | (refine W.condF rfl ?_)
    | (refine W.condDT rfl (by first | assumption | omega) ?_)
    | (refine W.condDF rfl (by first | assumption | omega) ?_)
    | (refine W.condD rfl (fun hc => ?_) (fun hc => ?_))
    | (refine WO.gS rfl (fun hc => ?_) (fun hc => ?_) <;> try (exfalso; omega))
    | (refine WO.pickS rfl (fun hc => ?_) (fun hc => ?_) <;> try (exfalso; omega))
    | (refine W.skip ?_)
    | (refine W.block ?_)
    | (refine W.drawA rfl ?_)
    | (refine W.sdrawA rfl ?_)
    | (refine And.intro rfl ?_)
    | (refine W.exit ?_)
    | (refine W.ret ?_)
    | (refine W.seq ?_)
    | (refine W.goto ?_)
    | (refine W.label ?_)
    | (refine SQ.nn ?_)
    | (refine SQ.x ?_)
    | (refine SQ.r ?_)
    | (refine SQ.g ?_)
    | (refine BQ.nn ?_)
    | (refine BQ.x ?_)
    | (refine BQ.r ?_)
    | (refine BQ.g ?_)
    | (refine BQ.y rfl ?_)
    | (refine LQ.x ?_)
    | (refine LQ.r ?_)
    | (refine LQ.g ?_)
    | (refine GQ.nn ?_)
    | (refine GQ.x ?_)
    | (refine GQ.r ?_)
    | (refine WO.call rfl (hca _) ?_; rintro _ H ⟨rfl, hH⟩; obtain rfl := hH.symm)
    | (refine WO.call rfl (hcb _) ?_; rintro _ H ⟨rfl, hH⟩; obtain rfl := hH.symm)
    | (refine W.loopI (σ := Nat) (fun k => [(0, .s (.string a)), (1, .s (.string b)), (12, .s (.int .i64 a.size)), (13, .s (.int .i64 k))]) (fun k h' => h' = h ∧ k ≤ a.size ∧ ∀ j : Nat, j < k → smB (bt a (j : Int)) = smB (bt b (j : Int))) (fun k => a.size - k) 0 ⟨rfl, rfl, rfl, rfl, trivial⟩ ⟨rfl, Nat.zero_le _, fun j hj => absurd hj (Nat.not_lt_zero _)⟩ ?_; rintro k G h' ⟨rfl, hk, hall⟩; (try dsimp only); have hra := bt_range a (k : Int); have hrb := bt_range b (k : Int); have hca := fun h => sm41_FR h (bt a (k : Int)) hra.1 hra.2; have hcb := fun h => sm41_FR h (bt b (k : Int)) hrb.1 hrb.2; have hall := (fun _ : Unit => hall); obtain ⟨pa, hpa⟩ : ∃ v, smB (bt a (k : Int)) = v := ⟨_, rfl⟩; obtain ⟨pb, hpb⟩ : ∃ v, smB (bt b (k : Int)) = v := ⟨_, rfl⟩; rw [hpa] at hca; rw [hpb] at hcb; have hpa := (fun _ : Unit => hpa); have hpb := (fun _ : Unit => hpb)))
  all_goals first
    | exact ⟨congrArg (fun b : Bool => AV.s (.bool b)) (like_len (by omega)).symm, rfl⟩
    | (refine ⟨congrArg (fun b : Bool => AV.s (.bool b)) (like_at (i := k) (by omega) (by omega) ?_).symm, rfl⟩
       rw [hpa (), hpb ()]; assumption)
    | (refine ⟨k + 1, by omega, ⟨rfl, rfl, rfl, rfl, trivial⟩, rfl, by omega, fun j hj => ?_⟩
       rcases Nat.lt_or_ge j k with h1 | h1
       · exact hall () j h1
       · rw [show j = k by omega, hpa (), hpb ()]; omega)
    | exact ⟨congrArg (fun b : Bool => AV.s (.bool b)) (like_all (by omega) (fun i hi => hall () i (by omega))).symm, rfl⟩
/-- Fields in cells. -/
def encF : Enc (ByteArray × ByteArray) := ⟨fun f => [.s (.string f.1), .s (.string f.2)], 2, fun _ => rfl⟩
theorem encF_ok : ∀ L : List (ByteArray × ByteArray), L.all encF.ok = true
  | [] => rfl
  | _ :: L => encF_ok L
def szF (L : List (ByteArray × ByteArray)) : Prop := ∀ i : Nat, i < L.length → (nth L (i : Int)).1.size ≤ 140737488355328 ∧ (nth L (i : Int)).2.size ≤ 140737488355328
/-- Some fields' values. -/
def allS (L : List (ByteArray × ByteArray)) (nm : ByteArray) : List ByteArray := (L.filter fun f => likeS f.1 nm).map (·.2)
theorem take_snoc {α : Type} [Inhabited α] {L : List α} {i : Nat} (h : i < L.length) : L.take (i + 1) = L.take i ++ [nth L (i : Int)] := by
  rw [nth_eq (by simpa using h)]
  simp
theorem allS_snoc {L : List (ByteArray × ByteArray)} {nm : ByteArray} {i : Nat} (h : i < L.length) : allS (L.take (i + 1)) nm = allS (L.take i) nm ++ (if likeS (nth L (i : Int)).1 nm = true then [(nth L (i : Int)).2] else []) := by
  rw [take_snoc h]
  unfold allS
  rw [List.filter_append, List.map_append]
  congr 1
  rw [List.filter_cons, List.filter_nil]
  split <;> rfl
theorem allS_le (L : List (ByteArray × ByteArray)) (nm : ByteArray) : (allS L nm).length ≤ L.length := by
  unfold allS
  rw [List.length_map]
  exact List.length_filter_le _ _
theorem all18_FR (h : Heap) (l : AV) (L : List (ByteArray × ByteArray)) (nm : ByteArray) (r : Row encF h l L) (hL : L.length ≤ 4398046511103) (hz : szF L) (hn : nm.size ≤ 140737488355328) : FR Tryd.prog TT 18 [l, .s (.string nm)] h fun x H => Out encS 9 h H x (allS L nm) := by
  refine FR.of q18 (by kernel_rfl) ?_
  unfold c18
  repeat' (first
    | (refine WO.mvE out rfl ?_)
    | (refine WO.mvE a2 rfl ?_)
    | (refine WO.mvE l rfl ?_)
    | (refine WO.lenR r ?_)
    | (refine WO.iaddr hr rfl rfl (by omega) (by omega) (fun q hq => ?_); rw [hf] at hq)
    | (refine LQ.fin ?_)
    | (refine EQ.fin rfl ?_)
    | (refine EQ.finN rfl ?_)
    | (refine WO.mvs rfl ?_)
    | (refine WO.mvp rfl ?_)
    | (refine WO.mvt rfl ?_)
    | (refine WO.mv ?_)
    | (refine W.sreg ?_)
    | (refine W.sdraw ?_)
    | (refine W.reg ?_)
    | (refine W.draw ?_)
    | (refine WO.nil ?_)
    | (refine WO.gU rfl ?_)
    | (refine WO.gT rfl rfl ?_)
    | (refine WO.gF rfl rfl ?_)
    | (refine WO.ext rfl rfl ?_)
    | (refine WO.lenR (by assumption) ?_)
    | (refine WO.add rfl rfl (by first | exact wrOK (by simp only [loK, hiK]; omega) | rfl) ?_)
    | (refine WO.sub rfl rfl (by first | exact wrOK (by simp only [loK, hiK]; omega) | rfl) ?_)
    | (refine WO.lss rfl rfl ?_)
    | (refine WO.leq rfl rfl ?_)
    | (refine WO.gtr rfl rfl ?_)
    | (refine WO.geq rfl rfl ?_)
    | (refine WO.eql rfl rfl ?_)
    | (refine WO.neq rfl rfl ?_)
    | (refine WO.seql rfl rfl ?_)
    | (refine WO.sneq rfl rfl ?_)
    | (refine WO.beql rfl rfl (tb rfl) ?_)
    | (refine WO.bneq rfl rfl (tb rfl) ?_)
    | (refine WO.not rfl ?_)
    | (refine WO.not0 rfl ?_)
    | (refine WO.cvi rfl (kd rfl) (kd rfl) (by first | exact wrOK (by simp only [loK, hiK]; omega) | rfl) ?_)
    | (refine WO.cvs rfl (st rfl) (st rfl) ?_)
    | (refine WO.ix rfl rfl (st rfl) (by first | assumption | omega) (by first | assumption | omega) ?_)
    | (refine WO.slen rfl (st rfl) ?_)
    | (refine WO.iaddr (by assumption) rfl rfl (by first | assumption | omega) (by first | assumption | omega) (fun q hq => ?_))
    | (refine WO.load (by assumption) rfl rfl ?_)
    | (refine WO.loadO rfl (by assumption) rfl rfl ?_)
    | (refine WO.faddrP (by assumption) rfl (fun q hq => ?_))
    | (refine WO.nilckP (by assumption) ?_)
    | (refine WO.nilck rfl ?_)
    | (refine WO.faddr rfl ?_)
    | (refine WO.fld rfl rfl rfl ?_)
    | (refine WO.pickT rfl ?_)
    | (refine WO.pickF rfl ?_)
    | (refine WO.sll rfl rfl (st rfl) (by first | assumption | omega) (by first | assumption | omega) ?_)
    | (refine WO.slh rfl rfl (st rfl) (by first | assumption | omega) (by first | assumption | omega) ?_)
    | (refine WO.slb rfl rfl rfl (st rfl) (by first | assumption | omega) (by first | assumption | omega) (by first | assumption | omega) ?_)
    | (refine WO.mul rfl rfl (by first | exact wrOK (by simp only [loK, hiK]; omega) | rfl) ?_)
    | (refine WO.quo rfl rfl (by first | assumption | omega) (by first | exact wrOK (by simp only [loK, hiK]; omega) | rfl) ?_)
    | (refine WO.rem rfl rfl (by first | assumption | omega) ?_)
    | (refine WO.and rfl rfl ?_)
    | (refine WO.or rfl rfl ?_)
    | (refine WO.xor rfl rfl ?_)
    | (refine WO.shl rfl rfl (by first | assumption | omega) (by simp [IntKind.bits]; rfl) ?_)
    | (refine WO.shr rfl rfl (by first | assumption | omega) (by simp [IntKind.bits]; rfl) ?_)
    | (refine WO.build (C := [_]) rfl ?_)
    | (refine WO.build (C := [_, _]) rfl ?_)
    | (refine WO.build (C := [_, _, _]) rfl ?_)
    | (refine WO.build (C := [_, _, _, _]) rfl ?_)
    | (refine WO.build (C := [_, _, _, _, _]) rfl ?_)
    | (refine WO.build (C := [_, _, _, _, _, _]) rfl ?_)
    | (refine WO.build (C := [_, _, _, _, _, _, _]) rfl ?_)
    | (refine WO.eqnil (by assumption) (fun hn1 hn2 => ?_) ?_)
    | (refine W.condT rfl ?_)
    | (refine W.condF rfl ?_)
    | (refine W.condDT rfl (by first | assumption | omega) ?_)
    | (refine W.condDF rfl (by first | assumption | omega) ?_)
    | (refine W.condD rfl (fun hc => ?_) (fun hc => ?_))
    | (refine WO.gS rfl (fun hc => ?_) (fun hc => ?_) <;> try (exfalso; omega))
    | (refine WO.pickS rfl (fun hc => ?_) (fun hc => ?_) <;> try (exfalso; omega))
    | (refine W.skip ?_)
    | (refine W.block ?_)
    | (refine W.drawA rfl ?_)
    | (refine W.sdrawA rfl ?_)
    | (refine And.intro rfl ?_)
    | (refine W.exit ?_)
    | (refine W.ret ?_)
    | (refine W.seq ?_)
    | (refine W.goto ?_)
    | (refine W.label ?_)
    | (refine SQ.nn ?_)
    | (refine SQ.x ?_)
    | (refine SQ.r ?_)
    | (refine SQ.g ?_)
    | (refine BQ.nn ?_)
    | (refine BQ.x ?_)
    | (refine BQ.r ?_)
    | (refine BQ.g ?_)
    | (refine BQ.y rfl ?_)
    | (refine LQ.x ?_)
    | (refine LQ.r ?_)
    | (refine LQ.g ?_)
    | (refine GQ.nn ?_)
    | (refine GQ.x ?_)
    | (refine GQ.r ?_)
    | (refine WO.new (fun b H1 hb g1 ob => ?_))
    | (refine WO.storeO (C' := [_, _]) rfl ob rfl rfl rfl rfl rfl (fun H2 ob2 u2 => ?_); have g2 := u2.grows g1 hb)
    | (refine WO.call rfl (hc (by omega) _) ?_; rintro _ H ⟨rfl, hH⟩; obtain rfl := hH.symm)
    | (cases lb)
    | (refine WO.bslS rfl rfl (fun a1 H3 g3 o3 nw3 => ?_))
    | (refine WO.appO (ho.grows (g2.trans g3)) o3.row rfl (encS_ok _) (by simp only [List.length_cons, List.length_nil]; omega) (by simp only [List.length_cons, List.length_nil]; omega) (fun a2 H4 out4 ap => ?_))
    | (refine W.loopI (σ := Nat × AV × List ByteArray) (fun σ => [(1, .s (.string nm)), (5, σ.2.1), (8, l), (9, .s (.int .i64 L.length)), (10, .s (.int .i64 σ.1))]) (fun σ h' => Out encS 9 h h' σ.2.1 σ.2.2 ∧ σ.1 ≤ L.length ∧ σ.2.2 = allS (L.take σ.1) nm) (fun σ => L.length - σ.1) (0, .s (.slice none 0 0), []) ⟨rfl, rfl, rfl, rfl, rfl, trivial⟩ ⟨Out.nil (Grows.refl _), Nat.zero_le _, rfl⟩ ?_; rintro ⟨i, out, O⟩ G h' ⟨ho, hi, hO⟩; dsimp only at ho hi hO ⊢; have hr := r.grows ho.g; have hzi := hz i; obtain ⟨fn, fv, hf⟩ : ∃ fn fv, nth L (i : Int) = (fn, fv) := ⟨_, _, rfl⟩; have hsn := allS_snoc (L := L) (nm := nm) (i := i); have hle := allS_le (L.take i) nm; have htk : (L.take i).length = i := (by rw [List.length_take]; omega); rw [← hO] at hle hsn; rw [hf] at hzi hsn; have hc := fun (e : i < L.length) h => like20_FR h fn nm (hzi e).1 hn; obtain ⟨lb, hlb⟩ : ∃ v, likeS fn nm = v := ⟨_, rfl⟩; rw [hlb] at hc; have hsn := (fun _ : Unit => hsn); have hOl : O.length ≤ i := (by omega)))
  all_goals first
    | (refine ⟨(i + 1, a2, O ++ [fv]), by dsimp only; omega, ⟨rfl, rfl, rfl, rfl, rfl, trivial⟩, out4, by dsimp only; omega, ?_⟩
       rw [hsn () (by omega), if_pos hlb])
    | (refine ⟨(i + 1, out, O), by dsimp only; omega, ⟨rfl, rfl, rfl, rfl, rfl, trivial⟩, ho.grows g2, by dsimp only; omega, ?_⟩
       rw [hsn () (by omega), if_neg (by rw [hlb]; decide), List.append_nil])
    | (have e : allS L nm = O := by rw [hO, List.take_of_length_le (by omega)]
       rw [e]
       exact ⟨ho⟩)
/-- The first one's, or the error. -/
def findF (L : List (ByteArray × ByteArray)) (nm : ByteArray) : ByteArray × Int := match allS L nm with
  | [] => (⟨#[]⟩, 3)
  | v :: _ => (v, 0)
theorem find15_FR (h : Heap) (l : AV) (L : List (ByteArray × ByteArray)) (nm : ByteArray) (r : Row encF h l L) (hL : L.length ≤ 4398046511103) (hz : szF L) (hn : nm.size ≤ 140737488355328) : FR Tryd.prog TT 15 [l, .s (.string nm)] h fun x H => x = .tp [.s (.string (findF L nm).1), .s (.int .i64 (findF L nm).2)] ∧ Grows h H := by
  refine FR.of q15 (by kernel_rfl) ?_
  unfold c15
  repeat' (first
    | (refine WO.mvE l rfl ?_)
    | (refine WO.lenR r ?_)
    | (refine WO.iaddr hr rfl rfl (by omega) (by omega) (fun q hq => ?_); rw [hf] at hq)
    | (refine LQ.fin ?_)
    | (refine EQ.fin rfl ?_)
    | (refine EQ.finN rfl ?_)
    | (refine WO.mvs rfl ?_)
    | (refine WO.mvp rfl ?_)
    | (refine WO.mvt rfl ?_)
    | (refine WO.mv ?_)
    | (refine W.sreg ?_)
    | (refine W.sdraw ?_)
    | (refine W.reg ?_)
    | (refine W.draw ?_)
    | (refine WO.nil ?_)
    | (refine WO.gU rfl ?_)
    | (refine WO.gT rfl rfl ?_)
    | (refine WO.gF rfl rfl ?_)
    | (refine WO.ext rfl rfl ?_)
    | (refine WO.lenR (by assumption) ?_)
    | (refine WO.add rfl rfl (by first | exact wrOK (by simp only [loK, hiK]; omega) | rfl) ?_)
    | (refine WO.sub rfl rfl (by first | exact wrOK (by simp only [loK, hiK]; omega) | rfl) ?_)
    | (refine WO.lss rfl rfl ?_)
    | (refine WO.leq rfl rfl ?_)
    | (refine WO.gtr rfl rfl ?_)
    | (refine WO.geq rfl rfl ?_)
    | (refine WO.eql rfl rfl ?_)
    | (refine WO.neq rfl rfl ?_)
    | (refine WO.seql rfl rfl ?_)
    | (refine WO.sneq rfl rfl ?_)
    | (refine WO.beql rfl rfl (tb rfl) ?_)
    | (refine WO.bneq rfl rfl (tb rfl) ?_)
    | (refine WO.not rfl ?_)
    | (refine WO.not0 rfl ?_)
    | (refine WO.cvi rfl (kd rfl) (kd rfl) (by first | exact wrOK (by simp only [loK, hiK]; omega) | rfl) ?_)
    | (refine WO.cvs rfl (st rfl) (st rfl) ?_)
    | (refine WO.ix rfl rfl (st rfl) (by first | assumption | omega) (by first | assumption | omega) ?_)
    | (refine WO.slen rfl (st rfl) ?_)
    | (refine WO.iaddr (by assumption) rfl rfl (by first | assumption | omega) (by first | assumption | omega) (fun q hq => ?_))
    | (refine WO.load (by assumption) rfl rfl ?_)
    | (refine WO.loadO rfl (by assumption) rfl rfl ?_)
    | (refine WO.faddrP (by assumption) rfl (fun q hq => ?_))
    | (refine WO.nilckP (by assumption) ?_)
    | (refine WO.nilck rfl ?_)
    | (refine WO.faddr rfl ?_)
    | (refine WO.fld rfl rfl rfl ?_)
    | (refine WO.pickT rfl ?_)
    | (refine WO.pickF rfl ?_)
    | (refine WO.sll rfl rfl (st rfl) (by first | assumption | omega) (by first | assumption | omega) ?_)
    | (refine WO.slh rfl rfl (st rfl) (by first | assumption | omega) (by first | assumption | omega) ?_)
    | (refine WO.slb rfl rfl rfl (st rfl) (by first | assumption | omega) (by first | assumption | omega) (by first | assumption | omega) ?_)
    | (refine WO.mul rfl rfl (by first | exact wrOK (by simp only [loK, hiK]; omega) | rfl) ?_)
    | (refine WO.quo rfl rfl (by first | assumption | omega) (by first | exact wrOK (by simp only [loK, hiK]; omega) | rfl) ?_)
    | (refine WO.rem rfl rfl (by first | assumption | omega) ?_)
    | (refine WO.and rfl rfl ?_)
    | (refine WO.or rfl rfl ?_)
    | (refine WO.xor rfl rfl ?_)
    | (refine WO.shl rfl rfl (by first | assumption | omega) (by simp [IntKind.bits]; rfl) ?_)
    | (refine WO.shr rfl rfl (by first | assumption | omega) (by simp [IntKind.bits]; rfl) ?_)
    | (refine WO.build (C := [_]) rfl ?_)
    | (refine WO.build (C := [_, _]) rfl ?_)
    | (refine WO.build (C := [_, _, _]) rfl ?_)
    | (refine WO.build (C := [_, _, _, _]) rfl ?_)
    | (refine WO.build (C := [_, _, _, _, _]) rfl ?_)
    | (refine WO.build (C := [_, _, _, _, _, _]) rfl ?_)
    | (refine WO.build (C := [_, _, _, _, _, _, _]) rfl ?_)
    | (refine WO.eqnil (by assumption) (fun hn1 hn2 => ?_) ?_)
    | (refine W.condT rfl ?_)
    | (refine W.condF rfl ?_)
    | (refine W.condDT rfl (by first | assumption | omega) ?_)
    | (refine W.condDF rfl (by first | assumption | omega) ?_)
    | (refine W.condD rfl (fun hc => ?_) (fun hc => ?_))
    | (refine WO.gS rfl (fun hc => ?_) (fun hc => ?_) <;> try (exfalso; omega))
    | (refine WO.pickS rfl (fun hc => ?_) (fun hc => ?_) <;> try (exfalso; omega))
    | (refine W.skip ?_)
    | (refine W.block ?_)
    | (refine W.drawA rfl ?_)
    | (refine W.sdrawA rfl ?_)
    | (refine And.intro rfl ?_)
    | (refine W.exit ?_)
    | (refine W.ret ?_)
    | (refine W.seq ?_)
    | (refine W.goto ?_)
    | (refine W.label ?_)
    | (refine SQ.nn ?_)
    | (refine SQ.x ?_)
    | (refine SQ.r ?_)
    | (refine SQ.g ?_)
    | (refine BQ.nn ?_)
    | (refine BQ.x ?_)
    | (refine BQ.r ?_)
    | (refine BQ.g ?_)
    | (refine BQ.y rfl ?_)
    | (refine LQ.x ?_)
    | (refine LQ.r ?_)
    | (refine LQ.g ?_)
    | (refine GQ.nn ?_)
    | (refine GQ.x ?_)
    | (refine GQ.r ?_)
    | (refine WO.new (fun b H1 hb g1 ob => ?_))
    | (refine WO.storeO (C' := [_, _]) rfl ob rfl rfl rfl rfl rfl (fun H2 ob2 u2 => ?_); have g2 := u2.grows g1 hb)
    | (refine WO.call rfl (hc (by omega) _) ?_; rintro _ H ⟨rfl, hH⟩; obtain rfl := hH.symm)
    | (cases lb)
    | (refine W.loopI (σ := Nat) (fun σ => [(1, .s (.string nm)), (8, l), (9, .s (.int .i64 L.length)), (10, .s (.int .i64 σ))]) (fun σ h' => Grows h h' ∧ σ ≤ L.length ∧ allS (L.take σ) nm = []) (fun σ => L.length - σ) 0 ⟨rfl, rfl, rfl, rfl, trivial⟩ ⟨Grows.refl _, Nat.zero_le _, rfl⟩ ?_; rintro i G h' ⟨ho, hi, hO⟩; (try dsimp only); have hr := r.grows ho; have hzi := hz i; obtain ⟨fn, fv, hf⟩ : ∃ fn fv, nth L (i : Int) = (fn, fv) := ⟨_, _, rfl⟩; have hsn := allS_snoc (L := L) (nm := nm) (i := i); rw [hf] at hzi hsn; have hc := fun (e : i < L.length) h => like20_FR h fn nm (hzi e).1 hn; obtain ⟨lb, hlb⟩ : ∃ v, likeS fn nm = v := ⟨_, rfl⟩; rw [hlb] at hc; have hsn := (fun _ : Unit => hsn); have hO := (fun _ : Unit => hO)))
  all_goals first
    | (have e : ∃ R, allS L nm = fv :: R := by
         have h1 := hsn () (by omega)
         rw [hO (), if_pos hlb, List.nil_append] at h1
         have h2 : allS L nm = allS (L.take (i + 1)) nm ++ allS (L.drop (i + 1)) nm := by
           unfold allS
           rw [← List.map_append, ← List.filter_append, List.take_append_drop]
         rw [h1] at h2
         exact ⟨_, h2⟩
       obtain ⟨R, e⟩ := e
       refine ⟨?_, ho.trans g2⟩
       unfold findF
       rw [e]; rfl)
    | (refine ⟨i + 1, by omega, ⟨rfl, rfl, rfl, rfl, trivial⟩, ho.trans g2, by omega, ?_⟩
       rw [hsn () (by omega), if_neg (by rw [hlb]; decide), hO ()]; rfl)
    | (have e : allS L nm = [] := by have := hO (); rwa [List.take_of_length_le (by omega)] at this
       refine ⟨?_, ho⟩
       unfold findF
       rw [e]; rfl)
end Go.Proofs.YtdgnddidibpilaaDoor.AS
end
section
set_option autoImplicit false
set_option maxRecDepth 100000
set_option maxHeartbeats 1000000
namespace Go.Proofs.YtdgnddidibpilaaDoor.AS
open Go Go.Proofs Go.RowKit
theorem eqIn_str (P : Program) (d : Nat) (t : TypeId) (a b : ByteArray) (h : P.underlying t = some .string) : semv P (Op.equalIn (d + 1) t (.string a) (.string b)) = some (a.toList == b.toList) := by
  simp [Op.equalIn, semv_bind, semv_pure, underlying, program, semv, h]
  exact beq_toListBytes a b
theorem neq_fld (x y : Operand) (n n' d d' : ByteArray) :
    bin2 Tryd.prog .neq 41 x y (some (.ag [.s (.string n), .s (.string d)])) (some (.ag [.s (.string n'), .s (.string d')])) = some (.s (.bool (decide ((n, d) ≠ (n', d'))))) := by
  have hg : Tryd.prog.eqGuardType Tryd.prog.depth 41 = false := by kernel_rfl
  have hs : Tryd.prog.stoodInHeld 41 = false := by kernel_rfl
  have e2 := fun dd (d d' : ByteArray) => eqIn_str Tryd.prog dd 9 d d' Tryd.underlying9
  simp [bin2, toV, toVs, eqGuard, binOp, Op.equal, Op.maxDepth, semv_bind, semv_pure, program, semv, hg]
  rw [show (10000 : Nat) = 9999 + 1 from rfl, Op.equalIn]
  simp [semv_bind, semv_pure, program, semv, underlying, Tryd.underlying41, hs]
  have p1 : ∀ (k d : ByteArray), semv Tryd.prog (part 9 #[Value.string k, Value.string d] 0) = some (Value.string k) := fun k d => by kernel_rfl
  have p2 : ∀ (k d : ByteArray), semv Tryd.prog (part 9 #[Value.string k, Value.string d] 1) = some (Value.string d) := fun k d => by kernel_rfl
  rw [p1, p1]
  simp only [Option.bind_some]
  rw [e2 9998]
  simp only [Option.bind_some]
  have hb : ∀ a b : ByteArray, (a.toList == b.toList) = decide (a = b) := fun a b => by rw [Bool.eq_iff_iff]; simp [toList_eq_iff]
  rw [hb]
  by_cases hk : n = n'
  · simp [semv_bind, semv_pure, hk]
    rw [p2, p2]
    simp only [Option.bind_some]
    rw [e2 9998]
    simp only [Option.bind_some]
    rw [hb]
    by_cases hd : d = d' <;> simp [semv_bind, semv_pure, hd]
  · simp [semv_bind, semv_pure, hk]
section
variable {T : Nat → CallF} {n : Nat} {F : Fr} {h : Heap} {K : Fr → Heap → Prop} {l : List AOper} {d : Option Nat} {x y : Operand} {yt ty : TypeId} {a b a' b' : ByteArray}
theorem WO.neqF (hx : evF F x = .ag [.s (.string a), .s (.string b)]) (hy : evF F y = .ag [.s (.string a'), .s (.string b')]) (k : WO Tryd.prog T n l (putF d (.s (.bool (decide ((a, b) ≠ (a', b'))))) F) h K) : WO Tryd.prog T n (⟨d, none, .p (.sc (.binOp .neq 41 x y yt) ty)⟩ :: l) F h K :=
  WO.pv (fun ho => by
    simp only [opds, opdsP, Op.operands, List.all_cons, List.all_nil, Bool.and_true, Bool.and_eq_true] at ho
    rw [pV_sc, sc_bin, evO_fr ho.1, evO_fr ho.2, hx, hy, neq_fld]) k
end
end Go.Proofs.YtdgnddidibpilaaDoor.AS
end
