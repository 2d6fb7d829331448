/- Of our own: an abstract machine beside the model, its soundness, and walks of the program in it. -/
import Derived.Test.YtpmoellbfgcefaaA14
import Derived.Test.YtpmoellbfgcefaaA8
import Derived.ChangeArms
import Derived.ChangeSame
import Derived.DataReads
import Derived.WideShapes
set_option linter.unusedSimpArgs false
set_option linter.unusedVariables false
section
set_option autoImplicit false
set_option maxRecDepth 100000
set_option maxHeartbeats 4000000
set_option linter.unusedSimpArgs false
set_option linter.unusedVariables false
namespace Go.Proofs.Ytpmoellbfgcefaa.AS
open Go Go.Proofs Go.RowKit

theorem okW_of_pw : ∀ {L : List Int}, L.Pairwise (· < ·) → okW L = true
  | [], _ => rfl
  | [x], _ => rfl
  | x :: y :: l, h => by
    have h1 := List.pairwise_cons.1 h
    rw [okW, okW_of_pw h1.2, decide_eq_true (h1.1 y (by simp))]; rfl
theorem pw_ext : ∀ {A B : List Int}, A.Pairwise (· < ·) → B.Pairwise (· < ·) → (∀ x, x ∈ A ↔ x ∈ B) → A = B
  | [], [], _, _, _ => rfl
  | [], b :: B, _, _, h => by have := (h b).2 (by simp); simp at this
  | a :: A, [], _, _, h => by have := (h a).1 (by simp); simp at this
  | a :: A, b :: B, ha, hb, h => by
    have ha1 := List.pairwise_cons.1 ha
    have hb1 := List.pairwise_cons.1 hb
    have hab : a = b := by
      have h1 := (h a).1 (by simp)
      have h2 := (h b).2 (by simp)
      rcases List.mem_cons.1 h1 with e | h1
      · exact e
      rcases List.mem_cons.1 h2 with e | h2
      · exact e.symm
      have := ha1.1 b h2; have := hb1.1 a h1; omega
    subst hab
    rw [pw_ext ha1.2 hb1.2 fun x => ⟨fun hx => by
      have := (h x).1 (List.mem_cons_of_mem _ hx)
      rcases List.mem_cons.1 this with rfl | h3
      · have := ha1.1 x hx; omega
      · exact h3, fun hx => by
      have := (h x).2 (List.mem_cons_of_mem _ hx)
      rcases List.mem_cons.1 this with rfl | h3
      · have := hb1.1 x hx; omega
      · exact h3⟩]
theorem mergeS_mem (A B : List Int) (x : Int) : x ∈ mergeS A B ↔ x ∈ A ∨ x ∈ B := by
  induction A, B using mergeS.induct with
  | case1 B => rw [mergeS]; simp
  | case2 a A => rw [mergeS]; simp
  | case3 a A b B hab ih => rw [mergeS, if_pos hab, List.mem_cons, ih]; simp only [List.mem_cons, or_assoc]
  | case4 a A b B hab hba ih => rw [mergeS, if_neg hab, if_pos hba, List.mem_cons, ih]; simp only [List.mem_cons]; grind
  | case5 a A b B hab hba ih =>
    obtain rfl : a = b := by omega
    rw [mergeS, if_neg hab, if_neg hba, List.mem_cons, ih]; simp only [List.mem_cons]; grind
theorem mergeS_pw {A B : List Int} (ha : A.Pairwise (· < ·)) (hb : B.Pairwise (· < ·)) : (mergeS A B).Pairwise (· < ·) := by
  induction A, B using mergeS.induct with
  | case1 B => rw [mergeS]; exact hb
  | case2 a A => rw [mergeS]; exact ha
  | case3 a A b B hab ih =>
    have ha1 := List.pairwise_cons.1 ha
    have hb1 := List.pairwise_cons.1 hb
    rw [mergeS, if_pos hab]
    refine List.pairwise_cons.2 ⟨fun y hy => ?_, ih ha1.2 hb⟩
    rcases (mergeS_mem _ _ _).1 hy with h | h
    · exact ha1.1 y h
    · rcases List.mem_cons.1 h with rfl | h
      · exact hab
      · have := hb1.1 y h; omega
  | case4 a A b B hab hba ih =>
    have ha1 := List.pairwise_cons.1 ha
    have hb1 := List.pairwise_cons.1 hb
    rw [mergeS, if_neg hab, if_pos hba]
    refine List.pairwise_cons.2 ⟨fun y hy => ?_, ih ha hb1.2⟩
    rcases (mergeS_mem _ _ _).1 hy with h | h
    · rcases List.mem_cons.1 h with rfl | h
      · exact hba
      · have := ha1.1 y h; omega
    · exact hb1.1 y h
  | case5 a A b B hab hba ih =>
    obtain rfl : a = b := by omega
    have ha1 := List.pairwise_cons.1 ha
    have hb1 := List.pairwise_cons.1 hb
    rw [mergeS, if_neg hab, if_neg hba]
    refine List.pairwise_cons.2 ⟨fun y hy => ?_, ih ha1.2 hb1.2⟩
    rcases (mergeS_mem _ _ _).1 hy with h | h
    · exact ha1.1 y h
    · exact hb1.1 y h
theorem filter_cong {p q : Int → Bool} : ∀ {L : List Int}, (∀ x ∈ L, p x = q x) → L.filter p = L.filter q
  | [], _ => rfl
  | x :: L, h => by
    rw [List.filter_cons, List.filter_cons, h x (by simp), filter_cong fun y hy => h y (List.mem_cons_of_mem _ hy)]
theorem mergeS_cnt {A B : List Int} (ha : A.Pairwise (· < ·)) (hb : B.Pairwise (· < ·)) : (mergeS A B).length = (withoutS A B).length + B.length := by
  unfold withoutS
  induction A, B using mergeS.induct with
  | case1 B => rw [mergeS]; simp
  | case2 a A =>
    rw [mergeS]
    have : (a :: A).filter (fun x => decide (x ∉ ([] : List Int))) = a :: A := by simp
    rw [this]; simp
  | case3 a A b B hab ih =>
    have ha1 := List.pairwise_cons.1 ha
    have hb1 := List.pairwise_cons.1 hb
    have hn : a ∉ b :: B := fun h => by
      rcases List.mem_cons.1 h with rfl | h
      · omega
      · have := hb1.1 a h; omega
    rw [mergeS, if_pos hab, List.filter_cons, decide_eq_true hn, if_pos rfl, List.length_cons, ih ha1.2 hb]
    simp only [List.length_cons]; omega
  | case4 a A b B hab hba ih =>
    have ha1 := List.pairwise_cons.1 ha
    have hb1 := List.pairwise_cons.1 hb
    have e : (a :: A).filter (fun x => decide (x ∉ b :: B)) = (a :: A).filter (fun x => decide (x ∉ B)) := filter_cong fun x hx => by
      have : x ≠ b := fun e => by
        subst e
        rcases List.mem_cons.1 hx with rfl | hx
        · omega
        · have := ha1.1 _ hx; omega
      simp [this]
    rw [mergeS, if_neg hab, if_pos hba, e, List.length_cons, ih ha hb1.2]
    simp only [List.length_cons]; omega
  | case5 a A b B hab hba ih =>
    obtain rfl : a = b := by omega
    have ha1 := List.pairwise_cons.1 ha
    have hb1 := List.pairwise_cons.1 hb
    have e : (a :: A).filter (fun x => decide (x ∉ a :: B)) = A.filter (fun x => decide (x ∉ B)) := by
      rw [List.filter_cons, decide_eq_false (by simp), if_neg (by simp)]
      exact filter_cong fun x hx => by
        have : x ≠ a := fun e => by subst e; have := ha1.1 _ hx; omega
        simp [this]
    rw [mergeS, if_neg hab, if_neg hba, e, List.length_cons, ih ha1.2 hb1.2]
    simp only [List.length_cons]; omega
theorem filt_split {p : Int → Bool} : ∀ (L : List Int), (L.filter p).length + (L.filter (fun x => !p x)).length = L.length
  | [] => rfl
  | x :: L => by
    have := filt_split (p := p) L
    rw [List.filter_cons, List.filter_cons]
    cases p x <;> simp at * <;> omega
theorem bothX_cnt {A B : List Int} (ha : A.Pairwise (· < ·)) (hb : B.Pairwise (· < ·)) : (bothX A B).length + (withoutS A B).length = A.length := by
  have e : bothX A B = A.filter (fun x => decide (x ∈ B)) := pw_ext (bothX_pw ha hb).1 (ha.filter _) fun x => by rw [bothX_mem]; simp
  have := filt_split (p := fun x => decide (x ∈ B)) A
  rw [e, withoutS]
  simpa using this
/-- What law 4 asks of the lists. -/
theorem sets_facts (A B : List Int) (n : Int) : (checkedS [A, B] ≠ 0 → orW [A, B] = checkedS [A, B]) ∧ (checkedS [A, B] = 0 → orW [A, B] = 0 ∨ orW [A, B] = 15) ∧
    (checkedS [A, B] = 0 → orW [A, B] = 0 → (n ∈ andS [A, B] ↔ n ∈ A ∧ n ∈ B) ∧ (n ∈ orM [A, B] ↔ n ∈ A ∨ n ∈ B) ∧ (n ∈ withoutS A B ↔ n ∈ A ∧ n ∉ B) ∧ (andS [A, B]).length + (withoutS A B).length = A.length ∧ (orM [A, B]).length = (withoutS A B).length + B.length ∧ chkS (orM [A, B]) = 0) := by
  have eo : orM [A, B] = mergeS A B := by simp [orM, orF, orR]
  refine ⟨fun h => by rw [orW, if_pos h], fun h => ?_, fun h h2 => ?_⟩
  · rw [orW, if_neg (by simpa using h)]; split <;> simp
  · have pA := (chkS_ok (checkedS_ok h A (by simp))).1
    have pB := (chkS_ok (checkedS_ok h B (by simp))).1
    rw [orW, if_neg (by simpa using h)] at h2
    have h3 : ¬ 65536 < (orM [A, B]).length := fun h4 => by rw [if_pos h4] at h2; omega
    rw [eo] at h3 ⊢
    refine ⟨bothX_mem n, mergeS_mem A B n, by simp [withoutS], bothX_cnt pA pB, mergeS_cnt pA pB, ?_⟩
    rw [chkS, if_neg (by rw [okW_of_pw (mergeS_pw pA pB)]; simp), if_neg h3]
theorem and_bad (h : Heap) (a : AV) (LL : List (List Int)) (r : Rows2 h a LL) (hl : ∀ L ∈ LL, L.length ≤ 4611686018427387903) (hn : LL.length ≤ 1099511627776) (hb : checkedS LL ≠ 0) :
    FR Try.prog TT 12 [a] h fun x H => ∃ c, x = .tp [c, .s (.int .i64 (checkedS LL))] ∧ Out (encI .u32) 32 h H c [] := by
  have hk := checked_FR h a LL r hl (by omega)
  generalize checkedS LL = why at *
  refine FR.of p12 (by kernel_rfl) ?_
  unfold c12
  repeat' (first
    | (refine WO.call rfl hk ?_; rintro _ H ⟨rfl, hH⟩; obtain rfl := hH.symm)
    | (refine EQ.fin rfl ?_)
    | (refine WO.mvs rfl ?_)
    | (refine WO.mvp rfl ?_)
    | (refine WO.mvt rfl ?_)
    | (refine WO.mv ?_)
    | (refine W.sreg ?_)
    | (refine W.sdraw ?_)
    | (refine W.reg ?_)
    | (refine W.draw ?_)
    | (refine WO.nil ?_)
    | (refine WO.gU rfl ?_)
    | (refine WO.gT rfl rfl ?_)
    | (refine WO.gF rfl rfl ?_)
    | (refine WO.ext rfl rfl ?_)
    | (refine WO.lenR (by assumption) ?_)
    | (refine WO.add rfl rfl (by first | exact wrOK (by simp only [loK, hiK]; omega) | rfl) ?_)
    | (refine WO.sub rfl rfl (by first | exact wrOK (by simp only [loK, hiK]; omega) | rfl) ?_)
    | (refine WO.lss rfl rfl ?_)
    | (refine WO.leq rfl rfl ?_)
    | (refine WO.gtr rfl rfl ?_)
    | (refine WO.geq rfl rfl ?_)
    | (refine WO.eql rfl rfl ?_)
    | (refine WO.neq rfl rfl ?_)
    | (refine WO.seql rfl rfl ?_)
    | (refine WO.sneq rfl rfl ?_)
    | (refine WO.beql rfl rfl (tb rfl) ?_)
    | (refine WO.bneq rfl rfl (tb rfl) ?_)
    | (refine WO.not rfl ?_)
    | (refine WO.not0 rfl ?_)
    | (refine WO.cvi rfl (kd rfl) (kd rfl) (by first | exact wrOK (by simp only [loK, hiK]; omega) | rfl) ?_)
    | (refine WO.cvs rfl (st rfl) (st rfl) ?_)
    | (refine WO.ix rfl rfl (st rfl) (by first | assumption | omega) (by first | assumption | omega) ?_)
    | (refine WO.slen rfl (st rfl) ?_)
    | (refine WO.iaddr (by assumption) rfl rfl (by first | assumption | omega) (by first | assumption | omega) (fun q hq => ?_))
    | (refine WO.load (by assumption) rfl rfl ?_)
    | (refine WO.loadO rfl (by assumption) rfl rfl ?_)
    | (refine WO.faddrP (by assumption) rfl (fun q hq => ?_))
    | (refine WO.nilckP (by assumption) ?_)
    | (refine WO.nilck rfl ?_)
    | (refine WO.faddr rfl ?_)
    | (refine WO.fld rfl rfl rfl ?_)
    | (refine WO.pickT rfl ?_)
    | (refine WO.pickF rfl ?_)
    | (refine WO.sll rfl rfl (st rfl) (by first | assumption | omega) (by first | assumption | omega) ?_)
    | (refine WO.slh rfl rfl (st rfl) (by first | assumption | omega) (by first | assumption | omega) ?_)
    | (refine WO.slb rfl rfl rfl (st rfl) (by first | assumption | omega) (by first | assumption | omega) (by first | assumption | omega) ?_)
    | (refine WO.mul rfl rfl (by first | exact wrOK (by simp only [loK, hiK]; omega) | rfl) ?_)
    | (refine WO.quo rfl rfl (by first | assumption | omega) (by first | exact wrOK (by simp only [loK, hiK]; omega) | rfl) ?_)
    | (refine WO.rem rfl rfl (by first | assumption | omega) ?_)
    | (refine WO.and rfl rfl ?_)
    | (refine WO.or rfl rfl ?_)
    | (refine WO.xor rfl rfl ?_)
    | (refine WO.shl rfl rfl (by first | assumption | omega) (by simp [IntKind.bits]; rfl) ?_)
    | (refine WO.shr rfl rfl (by first | assumption | omega) (by simp [IntKind.bits]; rfl) ?_)
    | (refine WO.build (C := [_]) rfl ?_)
    | (refine WO.build (C := [_, _]) rfl ?_)
    | (refine WO.build (C := [_, _, _]) rfl ?_)
    | (refine WO.build (C := [_, _, _, _]) rfl ?_)
    | (refine WO.build (C := [_, _, _, _, _]) rfl ?_)
    | (refine WO.build (C := [_, _, _, _, _, _]) rfl ?_)
    | (refine WO.build (C := [_, _, _, _, _, _, _]) rfl ?_)
    | (refine WO.eqnil (by assumption) (fun hn1 hn2 => ?_) ?_)
    | (refine W.condT rfl ?_)
    | (refine W.condF rfl ?_)
    | (refine W.condDT rfl (by first | assumption | omega) ?_)
    | (refine W.condDF rfl (by first | assumption | omega) ?_)
    | (refine W.condD rfl (fun hc => ?_) (fun hc => ?_))
    | (refine WO.gS rfl (fun hc => ?_) (fun hc => ?_) <;> try (exfalso; omega))
    | (refine WO.pickS rfl (fun hc => ?_) (fun hc => ?_) <;> try (exfalso; omega))
    | (refine W.skip ?_)
    | (refine W.block ?_)
    | (refine W.drawA rfl ?_)
    | (refine W.sdrawA rfl ?_)
    | (refine And.intro rfl ?_)
    | (refine W.exit ?_)
    | (refine W.ret ?_)
    | (refine W.seq ?_)
    | (refine W.goto ?_)
    | (refine W.label ?_)
    | (refine SQ.nn ?_)
    | (refine SQ.x ?_)
    | (refine SQ.r ?_)
    | (refine SQ.g ?_)
    | (refine BQ.nn ?_)
    | (refine BQ.x ?_)
    | (refine BQ.r ?_)
    | (refine BQ.g ?_)
    | (refine BQ.y rfl ?_)
    | (refine LQ.x ?_)
    | (refine LQ.r ?_)
    | (refine LQ.g ?_)
    | (refine GQ.nn ?_)
    | (refine GQ.x ?_)
    | (refine GQ.r ?_))
  · exact ⟨.s (.slice none 0 0), rfl, Out.nil (Grows.refl _)⟩
theorem or_bad (h : Heap) (a : AV) (LL : List (List Int)) (r : Rows2 h a LL) (hl : ∀ L ∈ LL, L.length ≤ 4611686018427387903) (hn : LL.length ≤ 1099511627776) (hb : checkedS LL ≠ 0) :
    FR Try.prog TT 14 [a] h fun x H => ∃ c, x = .tp [c, .s (.int .i64 (checkedS LL))] ∧ Out (encI .u32) 32 h H c [] := by
  have hk := checked_FR h a LL r hl (by omega)
  generalize checkedS LL = why at *
  refine FR.of p14 (by kernel_rfl) ?_
  unfold c14
  repeat' (first
    | (refine WO.call rfl hk ?_; rintro _ H ⟨rfl, hH⟩; obtain rfl := hH.symm)
    | (refine EQ.fin rfl ?_)
    | (refine WO.mvs rfl ?_)
    | (refine WO.mvp rfl ?_)
    | (refine WO.mvt rfl ?_)
    | (refine WO.mv ?_)
    | (refine W.sreg ?_)
    | (refine W.sdraw ?_)
    | (refine W.reg ?_)
    | (refine W.draw ?_)
    | (refine WO.nil ?_)
    | (refine WO.gU rfl ?_)
    | (refine WO.gT rfl rfl ?_)
    | (refine WO.gF rfl rfl ?_)
    | (refine WO.ext rfl rfl ?_)
    | (refine WO.lenR (by assumption) ?_)
    | (refine WO.add rfl rfl (by first | exact wrOK (by simp only [loK, hiK]; omega) | rfl) ?_)
    | (refine WO.sub rfl rfl (by first | exact wrOK (by simp only [loK, hiK]; omega) | rfl) ?_)
    | (refine WO.lss rfl rfl ?_)
    | (refine WO.leq rfl rfl ?_)
    | (refine WO.gtr rfl rfl ?_)
    | (refine WO.geq rfl rfl ?_)
    | (refine WO.eql rfl rfl ?_)
    | (refine WO.neq rfl rfl ?_)
    | (refine WO.seql rfl rfl ?_)
    | (refine WO.sneq rfl rfl ?_)
    | (refine WO.beql rfl rfl (tb rfl) ?_)
    | (refine WO.bneq rfl rfl (tb rfl) ?_)
    | (refine WO.not rfl ?_)
    | (refine WO.not0 rfl ?_)
    | (refine WO.cvi rfl (kd rfl) (kd rfl) (by first | exact wrOK (by simp only [loK, hiK]; omega) | rfl) ?_)
    | (refine WO.cvs rfl (st rfl) (st rfl) ?_)
    | (refine WO.ix rfl rfl (st rfl) (by first | assumption | omega) (by first | assumption | omega) ?_)
    | (refine WO.slen rfl (st rfl) ?_)
    | (refine WO.iaddr (by assumption) rfl rfl (by first | assumption | omega) (by first | assumption | omega) (fun q hq => ?_))
    | (refine WO.load (by assumption) rfl rfl ?_)
    | (refine WO.loadO rfl (by assumption) rfl rfl ?_)
    | (refine WO.faddrP (by assumption) rfl (fun q hq => ?_))
    | (refine WO.nilckP (by assumption) ?_)
    | (refine WO.nilck rfl ?_)
    | (refine WO.faddr rfl ?_)
    | (refine WO.fld rfl rfl rfl ?_)
    | (refine WO.pickT rfl ?_)
    | (refine WO.pickF rfl ?_)
    | (refine WO.sll rfl rfl (st rfl) (by first | assumption | omega) (by first | assumption | omega) ?_)
    | (refine WO.slh rfl rfl (st rfl) (by first | assumption | omega) (by first | assumption | omega) ?_)
    | (refine WO.slb rfl rfl rfl (st rfl) (by first | assumption | omega) (by first | assumption | omega) (by first | assumption | omega) ?_)
    | (refine WO.mul rfl rfl (by first | exact wrOK (by simp only [loK, hiK]; omega) | rfl) ?_)
    | (refine WO.quo rfl rfl (by first | assumption | omega) (by first | exact wrOK (by simp only [loK, hiK]; omega) | rfl) ?_)
    | (refine WO.rem rfl rfl (by first | assumption | omega) ?_)
    | (refine WO.and rfl rfl ?_)
    | (refine WO.or rfl rfl ?_)
    | (refine WO.xor rfl rfl ?_)
    | (refine WO.shl rfl rfl (by first | assumption | omega) (by simp [IntKind.bits]; rfl) ?_)
    | (refine WO.shr rfl rfl (by first | assumption | omega) (by simp [IntKind.bits]; rfl) ?_)
    | (refine WO.build (C := [_]) rfl ?_)
    | (refine WO.build (C := [_, _]) rfl ?_)
    | (refine WO.build (C := [_, _, _]) rfl ?_)
    | (refine WO.build (C := [_, _, _, _]) rfl ?_)
    | (refine WO.build (C := [_, _, _, _, _]) rfl ?_)
    | (refine WO.build (C := [_, _, _, _, _, _]) rfl ?_)
    | (refine WO.build (C := [_, _, _, _, _, _, _]) rfl ?_)
    | (refine WO.eqnil (by assumption) (fun hn1 hn2 => ?_) ?_)
    | (refine W.condT rfl ?_)
    | (refine W.condF rfl ?_)
    | (refine W.condDT rfl (by first | assumption | omega) ?_)
    | (refine W.condDF rfl (by first | assumption | omega) ?_)
    | (refine W.condD rfl (fun hc => ?_) (fun hc => ?_))
    | (refine WO.gS rfl (fun hc => ?_) (fun hc => ?_) <;> try (exfalso; omega))
    | (refine WO.pickS rfl (fun hc => ?_) (fun hc => ?_) <;> try (exfalso; omega))
    | (refine W.skip ?_)
    | (refine W.block ?_)
    | (refine W.drawA rfl ?_)
    | (refine W.sdrawA rfl ?_)
    | (refine And.intro rfl ?_)
    | (refine W.exit ?_)
    | (refine W.ret ?_)
    | (refine W.seq ?_)
    | (refine W.goto ?_)
    | (refine W.label ?_)
    | (refine SQ.nn ?_)
    | (refine SQ.x ?_)
    | (refine SQ.r ?_)
    | (refine SQ.g ?_)
    | (refine BQ.nn ?_)
    | (refine BQ.x ?_)
    | (refine BQ.r ?_)
    | (refine BQ.g ?_)
    | (refine BQ.y rfl ?_)
    | (refine LQ.x ?_)
    | (refine LQ.r ?_)
    | (refine LQ.g ?_)
    | (refine GQ.nn ?_)
    | (refine GQ.x ?_)
    | (refine GQ.r ?_))
  · exact ⟨.s (.slice none 0 0), rfl, Out.nil (Grows.refl _)⟩
theorem without_bad (h : Heap) (a b : AV) (A B : List Int) (ra : Row (encI .u32) h a A) (rb : Row (encI .u32) h b B) (hla : A.length ≤ 4611686018427387903) (hlb : B.length ≤ 4611686018427387903) (hb : checkedS [A, B] ≠ 0) :
    FR Try.prog TT 16 [a, b] h fun x H => ∃ c, x = .tp [c, .s (.int .i64 (checkedS [A, B]))] ∧ Out (encI .u32) 32 h H c [] := by
  have hk : ∀ {h1 : Heap} {c : AV}, Rows2 h1 c [A, B] → FR Try.prog TT 45 [c] h1 fun x H => x = .s (.int .i64 (checkedS [A, B])) ∧ H = h1 := fun r => checked_FR _ _ _ r (by simp; omega) (by simp)
  generalize checkedS [A, B] = why at *
  refine FR.of p16 (by kernel_rfl) ?_
  unfold c16
  repeat' (first
    | (refine WO.bsl (E := encA) (C := [a, b]) (by show fillA [_, _] [(0, 1, a), (1, 1, b)] = some [a, b]; simp [fillA, ra.cellsOf, rb.cellsOf]) [a, b] rfl rfl rfl (fun a1 H1 g1 o1 nw1 => ?_))
    | (refine WO.call rfl (hk (rows2_two o1 (ra.grows g1) (rb.grows g1))) ?_; rintro _ _ ⟨rfl, rfl⟩)
    | (refine EQ.fin rfl ?_)
    | (refine WO.mvs rfl ?_)
    | (refine WO.mvp rfl ?_)
    | (refine WO.mvt rfl ?_)
    | (refine WO.mv ?_)
    | (refine W.sreg ?_)
    | (refine W.sdraw ?_)
    | (refine W.reg ?_)
    | (refine W.draw ?_)
    | (refine WO.nil ?_)
    | (refine WO.gU rfl ?_)
    | (refine WO.gT rfl rfl ?_)
    | (refine WO.gF rfl rfl ?_)
    | (refine WO.ext rfl rfl ?_)
    | (refine WO.lenR (by assumption) ?_)
    | (refine WO.add rfl rfl (by first | exact wrOK (by simp only [loK, hiK]; omega) | rfl) ?_)
    | (refine WO.sub rfl rfl (by first | exact wrOK (by simp only [loK, hiK]; omega) | rfl) ?_)
    | (refine WO.lss rfl rfl ?_)
    | (refine WO.leq rfl rfl ?_)
    | (refine WO.gtr rfl rfl ?_)
    | (refine WO.geq rfl rfl ?_)
    | (refine WO.eql rfl rfl ?_)
    | (refine WO.neq rfl rfl ?_)
    | (refine WO.seql rfl rfl ?_)
    | (refine WO.sneq rfl rfl ?_)
    | (refine WO.beql rfl rfl (tb rfl) ?_)
    | (refine WO.bneq rfl rfl (tb rfl) ?_)
    | (refine WO.not rfl ?_)
    | (refine WO.not0 rfl ?_)
    | (refine WO.cvi rfl (kd rfl) (kd rfl) (by first | exact wrOK (by simp only [loK, hiK]; omega) | rfl) ?_)
    | (refine WO.cvs rfl (st rfl) (st rfl) ?_)
    | (refine WO.ix rfl rfl (st rfl) (by first | assumption | omega) (by first | assumption | omega) ?_)
    | (refine WO.slen rfl (st rfl) ?_)
    | (refine WO.iaddr (by assumption) rfl rfl (by first | assumption | omega) (by first | assumption | omega) (fun q hq => ?_))
    | (refine WO.load (by assumption) rfl rfl ?_)
    | (refine WO.loadO rfl (by assumption) rfl rfl ?_)
    | (refine WO.faddrP (by assumption) rfl (fun q hq => ?_))
    | (refine WO.nilckP (by assumption) ?_)
    | (refine WO.nilck rfl ?_)
    | (refine WO.faddr rfl ?_)
    | (refine WO.fld rfl rfl rfl ?_)
    | (refine WO.pickT rfl ?_)
    | (refine WO.pickF rfl ?_)
    | (refine WO.sll rfl rfl (st rfl) (by first | assumption | omega) (by first | assumption | omega) ?_)
    | (refine WO.slh rfl rfl (st rfl) (by first | assumption | omega) (by first | assumption | omega) ?_)
    | (refine WO.slb rfl rfl rfl (st rfl) (by first | assumption | omega) (by first | assumption | omega) (by first | assumption | omega) ?_)
    | (refine WO.mul rfl rfl (by first | exact wrOK (by simp only [loK, hiK]; omega) | rfl) ?_)
    | (refine WO.quo rfl rfl (by first | assumption | omega) (by first | exact wrOK (by simp only [loK, hiK]; omega) | rfl) ?_)
    | (refine WO.rem rfl rfl (by first | assumption | omega) ?_)
    | (refine WO.and rfl rfl ?_)
    | (refine WO.or rfl rfl ?_)
    | (refine WO.xor rfl rfl ?_)
    | (refine WO.shl rfl rfl (by first | assumption | omega) (by simp [IntKind.bits]; rfl) ?_)
    | (refine WO.shr rfl rfl (by first | assumption | omega) (by simp [IntKind.bits]; rfl) ?_)
    | (refine WO.build (C := [_]) rfl ?_)
    | (refine WO.build (C := [_, _]) rfl ?_)
    | (refine WO.build (C := [_, _, _]) rfl ?_)
    | (refine WO.build (C := [_, _, _, _]) rfl ?_)
    | (refine WO.build (C := [_, _, _, _, _]) rfl ?_)
    | (refine WO.build (C := [_, _, _, _, _, _]) rfl ?_)
    | (refine WO.build (C := [_, _, _, _, _, _, _]) rfl ?_)
    | (refine WO.eqnil (by assumption) (fun hn1 hn2 => ?_) ?_)
    | (refine W.condT rfl ?_)
    | (refine W.condF rfl ?_)
    | (refine W.condDT rfl (by first | assumption | omega) ?_)
    | (refine W.condDF rfl (by first | assumption | omega) ?_)
    | (refine W.condD rfl (fun hc => ?_) (fun hc => ?_))
    | (refine WO.gS rfl (fun hc => ?_) (fun hc => ?_) <;> try (exfalso; omega))
    | (refine WO.pickS rfl (fun hc => ?_) (fun hc => ?_) <;> try (exfalso; omega))
    | (refine W.skip ?_)
    | (refine W.block ?_)
    | (refine W.drawA rfl ?_)
    | (refine W.sdrawA rfl ?_)
    | (refine And.intro rfl ?_)
    | (refine W.exit ?_)
    | (refine W.ret ?_)
    | (refine W.seq ?_)
    | (refine W.goto ?_)
    | (refine W.label ?_)
    | (refine SQ.nn ?_)
    | (refine SQ.x ?_)
    | (refine SQ.r ?_)
    | (refine SQ.g ?_)
    | (refine BQ.nn ?_)
    | (refine BQ.x ?_)
    | (refine BQ.r ?_)
    | (refine BQ.g ?_)
    | (refine BQ.y rfl ?_)
    | (refine LQ.x ?_)
    | (refine LQ.r ?_)
    | (refine LQ.g ?_)
    | (refine GQ.nn ?_)
    | (refine GQ.x ?_)
    | (refine GQ.r ?_))
  · exact ⟨.s (.slice none 0 0), rfl, Out.nil g1⟩
theorem checked_len {A B : List Int} (h : checkedS [A, B] = 0) : A.length ≤ 65536 ∧ B.length ≤ 65536 := ⟨(chkS_ok (checkedS_ok h A (by simp))).2, (chkS_ok (checkedS_ok h B (by simp))).2⟩
theorem law4_FR (h : Heap) (a b : AV) (A B : List Int) (n : Int) (ra : Row (encI .u32) h a A) (rb : Row (encI .u32) h b B) (hla : A.length ≤ 140737488355328) (hlb : B.length ≤ 140737488355328) :
    FR Try.prog TT 4 [a, b, .s (.int .u32 n)] h fun x H => x = .s (.bool true) := by
  have hand : ∀ {H : Heap} {c : AV}, Rows2 H c [A, B] → FR Try.prog TT 12 [c] H fun x H' => ∃ c', x = .tp [c', .s (.int .i64 (checkedS [A, B]))] ∧ Out (encI .u32) 32 H H' c' (if checkedS [A, B] ≠ 0 then [] else andS [A, B]) := fun r => by
    by_cases hc : checkedS [A, B] = 0
    · have := checked_len hc
      exact and_FR _ _ _ r (by simp; omega) (by simp)
    · have := and_bad _ _ _ r (by simp; omega) (by simp) hc
      rwa [if_pos hc]
  have hor : ∀ {H : Heap} {c : AV}, Rows2 H c [A, B] → FR Try.prog TT 14 [c] H fun x H' => ∃ c', x = .tp [c', .s (.int .i64 (orW [A, B]))] ∧ Out (encI .u32) 32 H H' c' (if orW [A, B] ≠ 0 then [] else orM [A, B]) := fun r => by
    by_cases hc : checkedS [A, B] = 0
    · have := checked_len hc
      exact or_FR _ _ _ r (by simp; omega) (by simp; omega) (by simp)
    · have := or_bad _ _ _ r (by simp; omega) (by simp) hc
      have e : orW [A, B] = checkedS [A, B] := by rw [orW, if_pos hc]
      rwa [e, if_pos hc]
  have hwo : ∀ {H : Heap}, Row (encI .u32) H a A → Row (encI .u32) H b B → FR Try.prog TT 16 [a, b] H fun x H' => ∃ c', x = .tp [c', .s (.int .i64 (checkedS [A, B]))] ∧ Out (encI .u32) 32 H H' c' (if checkedS [A, B] ≠ 0 then [] else withoutS A B) := fun r1 r2 => by
    by_cases hc : checkedS [A, B] = 0
    · have := checked_len hc
      exact without_FR _ _ _ _ _ r1 r2 (by omega) (by omega)
    · have := without_bad _ _ _ _ _ r1 r2 (by omega) (by omega) hc
      rwa [if_pos hc]
  obtain ⟨f1, f2, f3⟩ := sets_facts A B n
  generalize checkedS [A, B] = w1 at *
  generalize orW [A, B] = w2 at *
  generalize andS [A, B] = X0 at *
  generalize orM [A, B] = Y0 at *
  generalize withoutS A B = Z0 at *
  have f3' : w1 = 0 → w2 = 0 → X0.length + Z0.length = A.length ∧ Y0.length = Z0.length + B.length := fun h1 h2 => ⟨(f3 h1 h2).2.2.2.1, (f3 h1 h2).2.2.2.2.1⟩
  have hin : ∀ {H : Heap} {c : AV} {E : List Int}, Row (encI .u32) H c E → E.length ≤ 4611686018427387903 → FR Try.prog TT 22 [c, .s (.int .u32 n)] H fun x H' => x = .s (.bool (decide (n ∈ E))) ∧ H' = H := fun r hl => in_FR _ _ n _ r hl
  refine FR.of p4 (by kernel_rfl) ?_
  unfold c4
  repeat' (first
    | (refine WO.call rfl (lists_FR _) ?_; rintro _ H0 ⟨rfl, g0⟩)
    | (refine WO.bsl (E := encA) (C := [a, b]) (by show fillA [_, _] [(0, 1, a), (1, 1, b)] = some [a, b]; simp [fillA, ra.cellsOf, rb.cellsOf]) [a, b] rfl rfl rfl (fun a1 H1 g1 o1 nw1 => ?_))
    | (refine WO.call rfl (hand (rows2_two o1 ((ra.grows g0).grows g1) ((rb.grows g0).grows g1))) ?_; rintro _ Hx1 ⟨x1, rfl, ox1⟩; have gx1 := (g0.trans g1).trans ox1.g)
    | (refine WO.call rfl (hor (rows2_two o1 (ra.grows (gx1.trans g1)) (rb.grows (gx1.trans g1)))) ?_; rintro _ Hx2 ⟨x2, rfl, ox2⟩; have gx2 := (gx1.trans g1).trans ox2.g)
    | (refine WO.call rfl (hwo (ra.grows gx2) (rb.grows gx2)) ?_; rintro _ Hx3 ⟨x3, rfl, ox3⟩; have gx3 := gx2.trans ox3.g; have gxa := (g1.trans ox2.g).trans ox3.g)
    | (refine EQ.fin rfl ?_)
    | (refine WO.mvs rfl ?_)
    | (refine WO.mvp rfl ?_)
    | (refine WO.mvt rfl ?_)
    | (refine WO.mv ?_)
    | (refine W.sreg ?_)
    | (refine W.sdraw ?_)
    | (refine W.reg ?_)
    | (refine W.draw ?_)
    | (refine WO.nil ?_)
    | (refine WO.gU rfl ?_)
    | (refine WO.gT rfl rfl ?_)
    | (refine WO.gF rfl rfl ?_)
    | (refine WO.ext rfl rfl ?_)
    | (refine WO.lenR (by assumption) ?_)
    | (refine WO.add rfl rfl (by first | exact wrOK (by simp only [loK, hiK]; omega) | rfl) ?_)
    | (refine WO.sub rfl rfl (by first | exact wrOK (by simp only [loK, hiK]; omega) | rfl) ?_)
    | (refine WO.lss rfl rfl ?_)
    | (refine WO.leq rfl rfl ?_)
    | (refine WO.gtr rfl rfl ?_)
    | (refine WO.geq rfl rfl ?_)
    | (refine WO.eql rfl rfl ?_)
    | (refine WO.neq rfl rfl ?_)
    | (refine WO.seql rfl rfl ?_)
    | (refine WO.sneq rfl rfl ?_)
    | (refine WO.beql rfl rfl (tb rfl) ?_)
    | (refine WO.bneq rfl rfl (tb rfl) ?_)
    | (refine WO.not rfl ?_)
    | (refine WO.not0 rfl ?_)
    | (refine WO.cvi rfl (kd rfl) (kd rfl) (by first | exact wrOK (by simp only [loK, hiK]; omega) | rfl) ?_)
    | (refine WO.cvs rfl (st rfl) (st rfl) ?_)
    | (refine WO.ix rfl rfl (st rfl) (by first | assumption | omega) (by first | assumption | omega) ?_)
    | (refine WO.slen rfl (st rfl) ?_)
    | (refine WO.iaddr (by assumption) rfl rfl (by first | assumption | omega) (by first | assumption | omega) (fun q hq => ?_))
    | (refine WO.load (by assumption) rfl rfl ?_)
    | (refine WO.loadO rfl (by assumption) rfl rfl ?_)
    | (refine WO.faddrP (by assumption) rfl (fun q hq => ?_))
    | (refine WO.nilckP (by assumption) ?_)
    | (refine WO.nilck rfl ?_)
    | (refine WO.faddr rfl ?_)
    | (refine WO.fld rfl rfl rfl ?_)
    | (refine WO.pickT rfl ?_)
    | (refine WO.pickF rfl ?_)
    | (refine WO.sll rfl rfl (st rfl) (by first | assumption | omega) (by first | assumption | omega) ?_)
    | (refine WO.slh rfl rfl (st rfl) (by first | assumption | omega) (by first | assumption | omega) ?_)
    | (refine WO.slb rfl rfl rfl (st rfl) (by first | assumption | omega) (by first | assumption | omega) (by first | assumption | omega) ?_)
    | (refine WO.mul rfl rfl (by first | exact wrOK (by simp only [loK, hiK]; omega) | rfl) ?_)
    | (refine WO.quo rfl rfl (by first | assumption | omega) (by first | exact wrOK (by simp only [loK, hiK]; omega) | rfl) ?_)
    | (refine WO.rem rfl rfl (by first | assumption | omega) ?_)
    | (refine WO.and rfl rfl ?_)
    | (refine WO.or rfl rfl ?_)
    | (refine WO.xor rfl rfl ?_)
    | (refine WO.shl rfl rfl (by first | assumption | omega) (by simp [IntKind.bits]; rfl) ?_)
    | (refine WO.shr rfl rfl (by first | assumption | omega) (by simp [IntKind.bits]; rfl) ?_)
    | (refine WO.build (C := [_]) rfl ?_)
    | (refine WO.build (C := [_, _]) rfl ?_)
    | (refine WO.build (C := [_, _, _]) rfl ?_)
    | (refine WO.build (C := [_, _, _, _]) rfl ?_)
    | (refine WO.build (C := [_, _, _, _, _]) rfl ?_)
    | (refine WO.build (C := [_, _, _, _, _, _]) rfl ?_)
    | (refine WO.build (C := [_, _, _, _, _, _, _]) rfl ?_)
    | (refine WO.eqnil (by assumption) (fun hn1 hn2 => ?_) ?_)
    | (refine W.condT rfl ?_)
    | (refine W.condF rfl ?_)
    | (refine W.condDT rfl (by first | assumption | omega) ?_)
    | (refine W.condDF rfl (by first | assumption | omega) ?_)
    | (refine W.condD rfl (fun hc => ?_) (fun hc => ?_))
    | (refine WO.gS rfl (fun hc => ?_) (fun hc => ?_) <;> try (exfalso; omega))
    | (refine WO.pickS rfl (fun hc => ?_) (fun hc => ?_) <;> try (exfalso; omega))
    | (refine W.skip ?_)
    | (refine W.block ?_)
    | (refine W.drawA rfl ?_)
    | (refine W.sdrawA rfl ?_)
    | (refine And.intro rfl ?_)
    | (refine W.exit ?_)
    | (refine W.ret ?_)
    | (refine W.seq ?_)
    | (refine W.goto ?_)
    | (refine W.label ?_)
    | (refine SQ.nn ?_)
    | (refine SQ.x ?_)
    | (refine SQ.r ?_)
    | (refine SQ.g ?_)
    | (refine BQ.nn ?_)
    | (refine BQ.x ?_)
    | (refine BQ.r ?_)
    | (refine BQ.g ?_)
    | (refine BQ.y rfl ?_)
    | (refine LQ.x ?_)
    | (refine LQ.r ?_)
    | (refine LQ.g ?_)
    | (refine GQ.nn ?_)
    | (refine GQ.x ?_)
    | (refine GQ.r ?_))
  · exact ⟨rfl⟩
  · have h15 : w2 = 15 := by have := f2 (by omega); omega
    subst h15
    exact ⟨rfl⟩
  obtain rfl : w1 = 0 := by omega
  obtain rfl : w2 = 0 := by omega
  rw [if_neg (by simp)] at ox1 ox2 ox3
  have hx := ox1.row.grows gxa
  have hy := ox2.row.grows ox3.g
  have hz := ox3.row
  obtain ⟨m1, m2, m3, m4, m5, m6⟩ := f3 rfl rfl
  have hA : ∀ {H : Heap}, Row (encI .u32) H a A → FR Try.prog TT 22 [a, .s (.int .u32 n)] H fun x H' => x = .s (.bool (decide (n ∈ A))) ∧ H' = H := fun r => hin r (by omega)
  have hB : ∀ {H : Heap}, Row (encI .u32) H b B → FR Try.prog TT 22 [b, .s (.int .u32 n)] H fun x H' => x = .s (.bool (decide (n ∈ B))) ∧ H' = H := fun r => hin r (by omega)
  have hX := hin hx (by omega)
  have hY := hin hy (by omega)
  have hZ := hin hz (by omega)
  rw [show decide (n ∈ X0) = (decide (n ∈ A) && decide (n ∈ B)) by simp [m1]] at hX
  rw [show decide (n ∈ Y0) = (decide (n ∈ A) || decide (n ∈ B)) by simp [m2]] at hY
  rw [show decide (n ∈ Z0) = (decide (n ∈ A) && !decide (n ∈ B)) by simp [m3]] at hZ
  generalize decide (n ∈ A) = pa at *
  generalize decide (n ∈ B) = pb at *
  have hk := chk_FR hy (by omega)
  rw [m6] at hk
  clear f3 f3' f1 f2 hin hand hor hwo
  cases pa <;> cases pb
  all_goals (
    repeat' (first
      | (refine WO.call rfl (hA (ra.grows gx3)) ?_; rintro _ _ ⟨rfl, rfl⟩)
      | (refine WO.call rfl (hB (rb.grows gx3)) ?_; rintro _ _ ⟨rfl, rfl⟩)
      | (refine WO.call rfl hX ?_; rintro _ _ ⟨rfl, rfl⟩)
      | (refine WO.call rfl hY ?_; rintro _ _ ⟨rfl, rfl⟩)
      | (refine WO.call rfl hZ ?_; rintro _ _ ⟨rfl, rfl⟩)
      | (refine WO.lenR hx ?_)
      | (refine WO.lenR hz ?_)
      | (refine WO.lenR hy ?_)
      | (refine WO.call rfl hk ?_; rintro _ _ ⟨rfl, rfl⟩)
      | (refine EQ.fin rfl ?_)
      | (refine WO.mvs rfl ?_)
      | (refine WO.mvp rfl ?_)
      | (refine WO.mvt rfl ?_)
      | (refine WO.mv ?_)
      | (refine W.sreg ?_)
      | (refine W.sdraw ?_)
      | (refine W.reg ?_)
      | (refine W.draw ?_)
      | (refine WO.nil ?_)
      | (refine WO.gU rfl ?_)
      | (refine WO.gT rfl rfl ?_)
      | (refine WO.gF rfl rfl ?_)
      | (refine WO.ext rfl rfl ?_)
      | (refine WO.lenR (by assumption) ?_)
      | (refine WO.add rfl rfl (by first | exact wrOK (by simp only [loK, hiK]; omega) | rfl) ?_)
      | (refine WO.sub rfl rfl (by first | exact wrOK (by simp only [loK, hiK]; omega) | rfl) ?_)
      | (refine WO.lss rfl rfl ?_)
      | (refine WO.leq rfl rfl ?_)
      | (refine WO.gtr rfl rfl ?_)
      | (refine WO.geq rfl rfl ?_)
      | (refine WO.eql rfl rfl ?_)
      | (refine WO.neq rfl rfl ?_)
      | (refine WO.seql rfl rfl ?_)
      | (refine WO.sneq rfl rfl ?_)
      | (refine WO.beql rfl rfl (tb rfl) ?_)
      | (refine WO.bneq rfl rfl (tb rfl) ?_)
      | (refine WO.not rfl ?_)
      | (refine WO.not0 rfl ?_)
      | (refine WO.cvi rfl (kd rfl) (kd rfl) (by first | exact wrOK (by simp only [loK, hiK]; omega) | rfl) ?_)
      | (refine WO.cvs rfl (st rfl) (st rfl) ?_)
      | (refine WO.ix rfl rfl (st rfl) (by first | assumption | omega) (by first | assumption | omega) ?_)
      | (refine WO.slen rfl (st rfl) ?_)
      | (refine WO.iaddr (by assumption) rfl rfl (by first | assumption | omega) (by first | assumption | omega) (fun q hq => ?_))
      | (refine WO.load (by assumption) rfl rfl ?_)
      | (refine WO.loadO rfl (by assumption) rfl rfl ?_)
      | (refine WO.faddrP (by assumption) rfl (fun q hq => ?_))
      | (refine WO.nilckP (by assumption) ?_)
      | (refine WO.nilck rfl ?_)
      | (refine WO.faddr rfl ?_)
      | (refine WO.fld rfl rfl rfl ?_)
      | (refine WO.pickT rfl ?_)
      | (refine WO.pickF rfl ?_)
      | (refine WO.sll rfl rfl (st rfl) (by first | assumption | omega) (by first | assumption | omega) ?_)
      | (refine WO.slh rfl rfl (st rfl) (by first | assumption | omega) (by first | assumption | omega) ?_)
      | (refine WO.slb rfl rfl rfl (st rfl) (by first | assumption | omega) (by first | assumption | omega) (by first | assumption | omega) ?_)
      | (refine WO.mul rfl rfl (by first | exact wrOK (by simp only [loK, hiK]; omega) | rfl) ?_)
      | (refine WO.quo rfl rfl (by first | assumption | omega) (by first | exact wrOK (by simp only [loK, hiK]; omega) | rfl) ?_)
      | (refine WO.rem rfl rfl (by first | assumption | omega) ?_)
      | (refine WO.and rfl rfl ?_)
      | (refine WO.or rfl rfl ?_)
      | (refine WO.xor rfl rfl ?_)
      | (refine WO.shl rfl rfl (by first | assumption | omega) (by simp [IntKind.bits]; rfl) ?_)
      | (refine WO.shr rfl rfl (by first | assumption | omega) (by simp [IntKind.bits]; rfl) ?_)
      | (refine WO.build (C := [_]) rfl ?_)
      | (refine WO.build (C := [_, _]) rfl ?_)
      | (refine WO.build (C := [_, _, _]) rfl ?_)
      | (refine WO.build (C := [_, _, _, _]) rfl ?_)
      | (refine WO.build (C := [_, _, _, _, _]) rfl ?_)
      | (refine WO.build (C := [_, _, _, _, _, _]) rfl ?_)
      | (refine WO.build (C := [_, _, _, _, _, _, _]) rfl ?_)
      | (refine WO.eqnil (by assumption) (fun hn1 hn2 => ?_) ?_)
      | (refine W.condT rfl ?_)
      | (refine W.condF rfl ?_)
      | (refine W.condDT rfl (by first | assumption | omega) ?_)
      | (refine W.condDF rfl (by first | assumption | omega) ?_)
      | (refine W.condD rfl (fun hc => ?_) (fun hc => ?_))
      | (refine WO.gS rfl (fun hc => ?_) (fun hc => ?_) <;> try (exfalso; omega))
      | (refine WO.pickS rfl (fun hc => ?_) (fun hc => ?_) <;> try (exfalso; omega))
      | (refine W.skip ?_)
      | (refine W.block ?_)
      | (refine W.drawA rfl ?_)
      | (refine W.sdrawA rfl ?_)
      | (refine And.intro rfl ?_)
      | (refine W.exit ?_)
      | (refine W.ret ?_)
      | (refine W.seq ?_)
      | (refine W.goto ?_)
      | (refine W.label ?_)
      | (refine SQ.nn ?_)
      | (refine SQ.x ?_)
      | (refine SQ.r ?_)
      | (refine SQ.g ?_)
      | (refine BQ.nn ?_)
      | (refine BQ.x ?_)
      | (refine BQ.r ?_)
      | (refine BQ.g ?_)
      | (refine BQ.y rfl ?_)
      | (refine LQ.x ?_)
      | (refine LQ.r ?_)
      | (refine LQ.g ?_)
      | (refine GQ.nn ?_)
      | (refine GQ.x ?_)
      | (refine GQ.r ?_)))
  all_goals exact ⟨rfl⟩
end Go.Proofs.Ytpmoellbfgcefaa.AS
end
section
set_option autoImplicit false
namespace Go.Proofs.Ytpmoellbfgcefaa.AS
open Go Go.RowKit Go.ChangeShapes Go.WideShapes

/-- An argument's memory as a block of the abstract heap, to be read alone. -/
theorem HR.arg {P : Program} {W : World} {ρ : PM} {h : Heap} (H : HR P W.heap.size W ρ h W) (B off : Nat) (e : TypeId) (sz : Nat) (l : List AV) (hB : B < W.heap.size)
    (hl : ∀ (j : Nat) (x : AV), l[j]? = some x → ∃ v, W.cell? ⟨B, off + j, none⟩ = some v ∧ RV ρ W x v) :
    HR P W.heap.size W (upd ρ h.length 0 ⟨B, off, e, sz, false⟩) (h ++ [⟨0, e, sz, false, l⟩]) W ∧ Ext ρ (upd ρ h.length 0 ⟨B, off, e, sz, false⟩) := by
  have hx : Ext ρ (upd ρ h.length 0 ⟨B, off, e, sz, false⟩) := upd_ext _ (H.fresh _ _ (Nat.le_refl _))
  refine ⟨⟨H.below, H.hbase, ?_, ?_, ?_⟩, hx⟩
  · intro b ver hlen
    simp only [List.length_append, List.length_cons, List.length_nil] at hlen
    unfold upd
    rw [if_neg (by omega)]
    exact H.fresh _ _ (by omega)
  · intro b k hbk
    rcases Nat.lt_or_ge b h.length with hlt | hge
    · rw [List.getElem?_append_left hlt] at hbk
      obtain ⟨p, h1, h2, h3, h4, h5, h6, h7, h8⟩ := H.blk b k hbk
      refine ⟨p, hx _ _ _ h1, ?_, h3, h4, h5, h6, fun j x hj => ?_, h8⟩
      · intro v hv
        unfold upd
        rw [if_neg (by omega)]
        exact h2 v hv
      · obtain ⟨v, hv, hr⟩ := h7 j x hj
        exact ⟨v, hv, RV_mono hx (Keep.refl _) _ _ hr⟩
    · have hbe : b = h.length := by
        have := (List.getElem?_eq_some_iff.1 hbk).1
        simp at this
        omega
      subst hbe
      simp at hbk
      subst hbk
      refine ⟨⟨B, off, e, sz, false⟩, upd_same _ _ _ _, ?_, rfl, rfl, rfl, hB, ?_, fun h => by cases h⟩
      · intro v hv
        unfold upd
        rw [if_neg (by simp at hv; omega)]
        exact H.fresh _ _ (Nat.le_refl _)
      · intro j x hj
        obtain ⟨v, hv, hr⟩ := hl j x hj
        exact ⟨v, hv, RV_mono hx (Keep.refl _) _ _ hr⟩
  · intro b b' k k' p p' hbk hbk' hp hp' hrw heq
    have lt_old : ∀ b k p, h[b]? = some k → ρ b k.ver = some p → k.rw = true → W.heap.size ≤ p.blk := by
      intro b k p hb hp hr
      obtain ⟨q, h1, _, _, _, _, _, _, h8⟩ := H.blk b k hb
      rw [hp] at h1; cases h1; exact (h8 hr).1
    rcases Nat.lt_or_ge b h.length with hlt | hge
    · rw [List.getElem?_append_left hlt] at hbk
      unfold upd at hp
      rw [if_neg (by omega)] at hp
      rcases Nat.lt_or_ge b' h.length with hlt' | hge'
      · rw [List.getElem?_append_left hlt'] at hbk'
        unfold upd at hp'
        rw [if_neg (by omega)] at hp'
        exact H.inj b b' k k' p p' hbk hbk' hp hp' hrw heq
      · have hbe : b' = h.length := by
          have := (List.getElem?_eq_some_iff.1 hbk').1
          simp at this
          omega
        subst hbe
        simp at hbk'
        subst hbk'
        rw [upd_same] at hp'
        cases hp'
        have := lt_old b k p hbk hp hrw
        simp only at heq
        omega
    · have hbe : b = h.length := by
        have := (List.getElem?_eq_some_iff.1 hbk).1
        simp at this
        omega
      subst hbe
      simp at hbk
      subst hbk
      cases hrw

/-- Values of a type without memory behind them: their cells, and what is known of them. -/
structure Flat (P : Program) (t : TypeId) (α : Type) (bulk : (H : Type) → DataW H → Nat) where
  cells : α → List Value
  sz : Nat
  size : α → Nat
  wf : α → Prop
  len : ∀ a, (cells a).length = sz
  cellsOf : P.cellsOf t = sz
  opens : ∀ (H : Type) (enc : TypeId × Value → H) (W : World) (fuel : Nat) (cs : List Value) (x : DataW H × List MemPlace), DataW.trod enc P W 0 (fun _ => true) true fuel t cs = some x → ∃ a, cs = cells a ∧ size a ≤ bulk H x.1 ∧ wf a
def sizes {α : Type} (size : α → Nat) : List α → Nat
  | [] => 0
  | a :: l => size a + sizes size l
theorem sizes_append {α : Type} (size : α → Nat) (l r : List α) : sizes size (l ++ r) = sizes size l + sizes size r := by
  induction l with
  | nil => simp [sizes]
  | cons a l ih => simp only [List.cons_append, sizes, ih]; omega
theorem flat_len {α : Type} {cells : α → List Value} {sz : Nat} (h : ∀ a, (cells a).length = sz) : ∀ l : List α, (l.flatMap cells).length = l.length * sz
  | [] => by simp
  | a :: l => by rw [List.flatMap_cons, List.length_append, h, flat_len h l, List.length_cons, Nat.succ_mul]; omega
/-- A slice of such values. -/
theorem open_flat {P : Program} {bulk : (H : Type) → DataW H → Nat} {bulks : (H : Type) → List (DataW H) → Nat} (hb0 : ∀ H, bulks H [] = 0) (hb1 : ∀ H d l, bulks H (d :: l) = bulk H d + bulks H l) (hb2 : ∀ H e s, bulks H e + 1 ≤ bulk H (.slice e s))
    {t e : TypeId} {α : Type} (F : Flat P e α bulk) (hu : P.underlying t = some (.slice e)) {H : Type} {enc : TypeId × Value → H} {W : World} {a : Option Addr} {len cap : Nat} {D : DataW H} {ps : List MemPlace}
    (hD : DataW.Trod enc P W 0 (fun _ => true) true t (.slice a len cap) D ps) :
    ∃ l : List α, len = l.length ∧ len ≤ cap ∧ cap ≤ maxLen ∧ (a = none → len = 0 ∧ cap = 0) ∧ (∀ x, a = some x → ∀ j v, (l.flatMap F.cells)[j]? = some v → W.cell? (x.add j) = some v) ∧ sizes F.size l ≤ bulk H D ∧ ∀ y ∈ l, F.wf y := by
  obtain ⟨fuel, hf⟩ := hD
  rcases DataW.trod_slice hu hf with ⟨hcs, hx⟩ | ⟨x, len', cap', elems, rest, n, rfl, hcs, hx, hb, hl, hm, hlen, hel, hsp, hns⟩
  · simp [Value.cells] at hcs
    obtain ⟨rfl, rfl, rfl⟩ := hcs
    exact ⟨[], rfl, Nat.le_refl _, by simp [maxLen], fun _ => ⟨rfl, rfl⟩, fun x hx => (by cases hx), by simp [sizes], by simp⟩
  · simp [Value.cells] at hcs
    obtain ⟨rfl, rfl, rfl⟩ := hcs
    cases hx
    have key : ∀ m, m ≤ len → ∃ l : List α, l.length = m ∧ (∀ j v, (l.flatMap F.cells)[j]? = some v → W.cell? (x.add j) = some v) ∧ sizes F.size l ≤ bulks H ((elems.take m).map (·.1)) ∧ ∀ y ∈ l, F.wf y := by
      intro m
      induction m with
      | zero => intro _; exact ⟨[], rfl, by simp, by simp [sizes], by simp⟩
      | succ m ih =>
        intro hm'
        obtain ⟨l, hl1, hl2, hl3, hl4⟩ := ih (by omega)
        have hlt : m < elems.length := by omega
        have he := hel m (by omega)
        rw [List.getElem?_eq_getElem hlt, Option.bind_eq_some_iff] at he
        obtain ⟨c, hcs, htr⟩ := he
        obtain ⟨p, hK, hbk, hwf⟩ := F.opens H enc W n c _ htr
        refine ⟨l ++ [p], by simp [hl1], ?_, ?_, ?_⟩
        · intro j v hj
          have hfl := flat_len F.len l
          rw [List.flatMap_append] at hj
          rcases Nat.lt_or_ge j (l.flatMap F.cells).length with hjl | hjl
          · rw [List.getElem?_append_left hjl] at hj
            exact hl2 j v hj
          · rw [List.getElem?_append_right hjl] at hj
            obtain ⟨_, hcl, hce⟩ := World.cells?_some hcs
            simp only [List.flatMap_cons, List.flatMap_nil, List.append_nil] at hj
            rw [← hK] at hj
            have hlt2 : j - (l.flatMap F.cells).length < P.cellsOf e := by rw [← hcl]; exact (List.getElem?_eq_some_iff.1 hj).1
            have := hce _ hlt2
            rw [hj, Addr.add_add, F.cellsOf, hfl, hl1] at this
            rw [hfl, hl1] at hjl
            rw [show m * F.sz + (j - m * F.sz) = j by omega] at this
            exact this
        · rw [List.take_succ_eq_append_getElem hlt, List.map_append, sizes_append]
          have happ : ∀ a b : List (DataW H), bulks H (a ++ b) = bulks H a + bulks H b := by
            intro a b
            induction a with
            | nil => simp [hb0]
            | cons d a ih => simp only [List.cons_append, hb1, ih]; omega
          rw [happ]
          simp only [sizes, List.map_cons, List.map_nil, hb1, hb0]
          omega
        · intro y hy
          rcases List.mem_append.1 hy with h | h
          · exact hl4 y h
          · simp at h; subst h; exact hwf
    obtain ⟨l, hl1, hl2, hl3, hl4⟩ := key len (Nat.le_refl _)
    refine ⟨l, hl1.symm, hl, hm, fun h => (by cases h), fun y hy => ?_, ?_, hl4⟩
    · cases hy; exact hl2
    · rw [List.take_of_length_le (by omega)] at hl3
      exact Nat.le_trans hl3 (Nat.le_trans (Nat.le_succ _) (hb2 H _ _))
/-- A slice's place. -/
theorem okWide_place {P : Program} {t e : TypeId} {W : World} {r : Reach} {base : Nat} {x : Addr} {len cap : Nat} (hu : P.underlying t = some (.slice e)) (h : Value.okWide P W r base t (.slice (some x) len cap)) : ∃ B off, x = ⟨B, off, none⟩ ∧ B < W.heap.size := by
  simp only [Value.okWide, hu, Cell.okWide, Cell.ok, World.has] at h
  obtain ⟨_, _, _, hs, row, cells, hsh, _⟩ := h
  obtain ⟨B, off, spot⟩ := x
  simp only at hs hsh
  subst hs
  refine ⟨B, off, rfl, ?_⟩
  rcases Nat.lt_or_ge B W.heap.size with h | h
  · exact h
  · simp [World.shape?, Array.getElem?_eq_none h] at hsh
/-- An argument that is a slice, in the abstract heap. -/
theorem slice_arg {P : Program} {W : World} {ρ : PM} {h : Heap} (H : HR P W.heap.size W ρ h W) {t e : TypeId} {sz : Nat} {l : List Value} {a : Option Addr} {len cap : Nat} {r : Reach} {base : Nat} (hu : P.underlying t = some (.slice e)) (hok : Value.okWide P W r base t (.slice a len cap))
    (hl : len ≤ cap) (h0 : a = none → len = 0 ∧ cap = 0) (hc : ∀ x, a = some x → ∀ j v, l[j]? = some v → W.cell? (x.add j) = some v) :
    ∃ ρ' x bs, HR P W.heap.size W ρ' (h ++ bs) W ∧ Ext ρ ρ' ∧ RV ρ' W x (.slice a len cap) ∧ ((x = .s (.slice none 0 0) ∧ bs = [] ∧ len = 0) ∨ (x = .sl h.length 0 0 len sz ∧ bs = [⟨0, e, sz, false, l.map .s⟩])) := by
  cases a with
  | none =>
    obtain ⟨rfl, rfl⟩ := h0 rfl
    exact ⟨ρ, .s (.slice none 0 0), [], by simpa using H, Ext.refl _, rfl, Or.inl ⟨rfl, rfl, rfl⟩⟩
  | some x =>
    obtain ⟨B, off, rfl, hB⟩ := okWide_place hu hok
    obtain ⟨H', hx⟩ := H.arg B off e sz (l.map .s) hB (by
      intro j x hj
      rw [List.getElem?_map, Option.map_eq_some_iff] at hj
      obtain ⟨v, hv, rfl⟩ := hj
      refine ⟨v, ?_, rfl⟩
      have := hc _ rfl j v hv
      unfold Addr.add at this
      split at this
      · rename_i h0; subst h0; exact this
      · exact this)
    refine ⟨_, .sl h.length 0 0 len sz, _, H', hx, ⟨_, cap, _, ⟨upd_same _ _ _ _, rfl⟩, rfl, hl, Or.inr rfl, fun h => by cases h⟩, Or.inr ⟨rfl, rfl⟩⟩
end Go.Proofs.Ytpmoellbfgcefaa.AS
end
section
set_option autoImplicit false
namespace Go.Proofs.Ytpmoellbfgcefaa.AS
open Go Go.RowKit Go.ChangeShapes Go.WideShapes
/-- A slice's reading has as many elements. -/
theorem slice_len {P : Program} {t e : TypeId} (hu : P.underlying t = some (.slice e)) {H : Type} {enc : TypeId × Value → H} {W : World} {a : Option Addr} {len cap : Nat} {D : DataW H} {ps : List MemPlace}
    (hD : DataW.Trod enc P W 0 (fun _ => true) true t (.slice a len cap) D ps) : len = 0 ∨ ∃ el sp, D = .slice el sp ∧ el.length = len := by
  obtain ⟨fuel, hf⟩ := hD
  rcases DataW.trod_slice hu hf with ⟨hcs, hx⟩ | ⟨x, len', cap', elems, rest, n, rfl, hcs, hx, hb, hl, hm, hlen, hel, hsp, hns⟩
  · simp [Value.cells] at hcs
    exact .inl hcs.2.1
  · simp [Value.cells] at hcs
    obtain ⟨rfl, rfl, rfl⟩ := hcs
    cases hx
    exact .inr ⟨_, _, rfl, by simp [hlen]⟩
end Go.Proofs.Ytpmoellbfgcefaa.AS
end
