/- Of our own: an abstract machine beside the model, its soundness, and walks of the program in it. -/
import Derived.Test.YtpmoellbfgcefaaA12
set_option linter.unusedSimpArgs false
set_option linter.unusedVariables false
section
set_option autoImplicit false
set_option maxRecDepth 100000
set_option maxHeartbeats 4000000
set_option linter.unusedSimpArgs false
set_option linter.unusedVariables false
namespace Go.Proofs.Ytpmoellbfgcefaa.AS
open Go Go.Proofs Go.RowKit

theorem in_FR (h : Heap) (a : AV) (n : Int) (E : List Int) (r : Row (encI .u32) h a E) (hl : E.length ≤ 4611686018427387903) :
    FR Try.prog TT 22 [a, .s (.int .u32 n)] h fun x H => x = .s (.bool (decide (n ∈ E))) ∧ H = h := by
  refine FR.of p22 (by kernel_rfl) ?_
  unfold c22
  repeat' (first
    | (refine W.loopI (σ := Nat) (fun i => [(1, .s (.int .u32 n)), (7, a), (8, .s (.int .i64 E.length)), (9, .s (.int .i64 i))]) (fun i h' => h' = h ∧ i ≤ E.length ∧ n ∉ E.take i) (fun i => E.length - i) 0 ⟨rfl, rfl, rfl, rfl, trivial⟩ ⟨rfl, Nat.zero_le _, by simp⟩ ?_; rintro i G h' ⟨rfl, hi, hm⟩)
    | (refine LQ.nn ⟨i + 1, by omega, ⟨rfl, rfl, rfl, rfl, trivial⟩, rfl, by omega, ?_⟩)
    | (refine EQ.r rfl ⟨?_, rfl⟩)
    | (refine WO.mvs rfl ?_)
    | (refine WO.mvp rfl ?_)
    | (refine WO.mvt rfl ?_)
    | (refine WO.mv ?_)
    | (refine W.sreg ?_)
    | (refine W.sdraw ?_)
    | (refine W.reg ?_)
    | (refine W.draw ?_)
    | (refine WO.nil ?_)
    | (refine WO.gU rfl ?_)
    | (refine WO.gT rfl rfl ?_)
    | (refine WO.gF rfl rfl ?_)
    | (refine WO.ext rfl rfl ?_)
    | (refine WO.lenR (by assumption) ?_)
    | (refine WO.add rfl rfl (by first | exact wrOK (by simp only [loK, hiK]; omega) | rfl) ?_)
    | (refine WO.sub rfl rfl (by first | exact wrOK (by simp only [loK, hiK]; omega) | rfl) ?_)
    | (refine WO.lss rfl rfl ?_)
    | (refine WO.leq rfl rfl ?_)
    | (refine WO.gtr rfl rfl ?_)
    | (refine WO.geq rfl rfl ?_)
    | (refine WO.eql rfl rfl ?_)
    | (refine WO.neq rfl rfl ?_)
    | (refine WO.seql rfl rfl ?_)
    | (refine WO.sneq rfl rfl ?_)
    | (refine WO.beql rfl rfl (tb rfl) ?_)
    | (refine WO.bneq rfl rfl (tb rfl) ?_)
    | (refine WO.not rfl ?_)
    | (refine WO.not0 rfl ?_)
    | (refine WO.cvi rfl (kd rfl) (kd rfl) (by first | exact wrOK (by simp only [loK, hiK]; omega) | rfl) ?_)
    | (refine WO.cvs rfl (st rfl) (st rfl) ?_)
    | (refine WO.ix rfl rfl (st rfl) (by first | assumption | omega) (by first | assumption | omega) ?_)
    | (refine WO.slen rfl (st rfl) ?_)
    | (refine WO.iaddr (by assumption) rfl rfl (by first | assumption | omega) (by first | assumption | omega) (fun q hq => ?_))
    | (refine WO.load (by assumption) rfl rfl ?_)
    | (refine WO.loadO rfl (by assumption) rfl rfl ?_)
    | (refine WO.faddrP (by assumption) rfl (fun q hq => ?_))
    | (refine WO.nilckP (by assumption) ?_)
    | (refine WO.nilck rfl ?_)
    | (refine WO.faddr rfl ?_)
    | (refine WO.fld rfl rfl rfl ?_)
    | (refine WO.pickT rfl ?_)
    | (refine WO.pickF rfl ?_)
    | (refine WO.sll rfl rfl (st rfl) (by first | assumption | omega) (by first | assumption | omega) ?_)
    | (refine WO.slh rfl rfl (st rfl) (by first | assumption | omega) (by first | assumption | omega) ?_)
    | (refine WO.slb rfl rfl rfl (st rfl) (by first | assumption | omega) (by first | assumption | omega) (by first | assumption | omega) ?_)
    | (refine WO.mul rfl rfl (by first | exact wrOK (by simp only [loK, hiK]; omega) | rfl) ?_)
    | (refine WO.quo rfl rfl (by first | assumption | omega) (by first | exact wrOK (by simp only [loK, hiK]; omega) | rfl) ?_)
    | (refine WO.rem rfl rfl (by first | assumption | omega) ?_)
    | (refine WO.and rfl rfl ?_)
    | (refine WO.or rfl rfl ?_)
    | (refine WO.xor rfl rfl ?_)
    | (refine WO.shl rfl rfl (by first | assumption | omega) (by simp [IntKind.bits]; rfl) ?_)
    | (refine WO.shr rfl rfl (by first | assumption | omega) (by simp [IntKind.bits]; rfl) ?_)
    | (refine WO.build (C := [_]) rfl ?_)
    | (refine WO.build (C := [_, _]) rfl ?_)
    | (refine WO.build (C := [_, _, _]) rfl ?_)
    | (refine WO.build (C := [_, _, _, _]) rfl ?_)
    | (refine WO.build (C := [_, _, _, _, _]) rfl ?_)
    | (refine WO.build (C := [_, _, _, _, _, _]) rfl ?_)
    | (refine WO.build (C := [_, _, _, _, _, _, _]) rfl ?_)
    | (refine WO.eqnil (by assumption) (fun hn1 hn2 => ?_) ?_)
    | (refine W.condT rfl ?_)
    | (refine W.condF rfl ?_)
    | (refine W.condDT rfl (by first | assumption | omega) ?_)
    | (refine W.condDF rfl (by first | assumption | omega) ?_)
    | (refine W.condD rfl (fun hc => ?_) (fun hc => ?_))
    | (refine WO.gS rfl (fun hc => ?_) (fun hc => ?_) <;> try (exfalso; omega))
    | (refine WO.pickS rfl (fun hc => ?_) (fun hc => ?_) <;> try (exfalso; omega))
    | (refine W.skip ?_)
    | (refine W.block ?_)
    | (refine W.drawA rfl ?_)
    | (refine W.sdrawA rfl ?_)
    | (refine And.intro rfl ?_)
    | (refine W.exit ?_)
    | (refine W.ret ?_)
    | (refine W.seq ?_)
    | (refine W.goto ?_)
    | (refine W.label ?_)
    | (refine SQ.nn ?_)
    | (refine SQ.x ?_)
    | (refine SQ.r ?_)
    | (refine SQ.g ?_)
    | (refine BQ.nn ?_)
    | (refine BQ.x ?_)
    | (refine BQ.r ?_)
    | (refine BQ.g ?_)
    | (refine BQ.y rfl ?_)
    | (refine LQ.x ?_)
    | (refine LQ.r ?_)
    | (refine LQ.g ?_)
    | (refine GQ.nn ?_)
    | (refine GQ.x ?_)
    | (refine GQ.r ?_))
  · exact congrArg (fun b => AV.s (.bool b)) (decide_eq_true (hc ▸ nth_mem (by omega) (by omega))).symm
  · rw [take_snoc (by omega)]; simp only [List.mem_append, List.mem_singleton, not_or]; exact ⟨hm, fun e => hc e.symm⟩
  · rw [List.take_of_length_le (by omega)] at hm
    exact congrArg (fun b => AV.s (.bool b)) (decide_eq_false hm).symm
theorem okW_pw : ∀ {L : List Int}, okW L = true → L.Pairwise (· < ·)
  | [], _ => List.Pairwise.nil
  | [x], _ => List.pairwise_singleton _ _
  | x :: y :: l, h => by
    simp only [okW, Bool.and_eq_true, decide_eq_true_eq] at h
    have ih := okW_pw h.2
    refine List.pairwise_cons.2 ⟨fun z hz => ?_, ih⟩
    rcases List.mem_cons.1 hz with rfl | hz
    · exact h.1
    · have := (List.pairwise_cons.1 ih).1 z hz; omega
theorem chkS_ok {L : List Int} (h : chkS L = 0) : L.Pairwise (· < ·) ∧ L.length ≤ 65536 := by
  unfold chkS at h
  split at h
  · simp at h
  · rename_i h1
    split at h
    · simp at h
    · exact ⟨okW_pw (by simpa using h1), by omega⟩
theorem checkedS_ok : ∀ {LL : List (List Int)}, checkedS LL = 0 → ∀ L ∈ LL, chkS L = 0
  | [], _, L, h => by cases h
  | M :: LL, h, L, hL => by
    simp only [checkedS] at h
    split at h
    · rename_i h1; exact absurd h h1
    · rename_i h1
      rcases List.mem_cons.1 hL with rfl | hL
      · omega
      · exact checkedS_ok h L hL
/-- Two rows as a row of rows. -/
theorem rows2_two {h : Heap} {e : TypeId} {a x y : AV} {A B : List Int} (o : Own encA e h a [x, y]) (rx : Row (encI .u32) h x A) (ry : Row (encI .u32) h y B) : Rows2 h a [A, B] :=
  ⟨⟨[x, y], o.row, rfl, fun i hi => by
    match i, hi with
    | 0, _ => exact rx
    | 1, _ => exact ry⟩⟩
def withoutS (A B : List Int) : List Int := A.filter fun x => decide (x ∉ B)
theorem without_FR (h : Heap) (a b : AV) (A B : List Int) (ra : Row (encI .u32) h a A) (rb : Row (encI .u32) h b B) (hla : A.length ≤ 1099511627776) (hlb : B.length ≤ 1099511627776) :
    FR Try.prog TT 16 [a, b] h fun x H => ∃ c, x = .tp [c, .s (.int .i64 (checkedS [A, B]))] ∧ Out (encI .u32) 32 h H c (if checkedS [A, B] ≠ 0 then [] else withoutS A B) := by
  have hk : ∀ {h1 : Heap} {c : AV}, Rows2 h1 c [A, B] → FR Try.prog TT 45 [c] h1 fun x H => x = .s (.int .i64 (checkedS [A, B])) ∧ H = h1 := fun r => checked_FR _ _ _ r (by simp; omega) (by simp)
  have hok : checkedS [A, B] = 0 → B.Pairwise (· < ·) := fun h => (chkS_ok (checkedS_ok h B (by simp))).1
  generalize checkedS [A, B] = why at *
  refine FR.of p16 (by kernel_rfl) ?_
  unfold c16
  repeat' (first
    | (refine WO.bsl (E := encA) (C := [a, b]) (by show fillA [_, _] [(0, 1, a), (1, 1, b)] = some [a, b]; simp [fillA, ra.cellsOf, rb.cellsOf]) [a, b] rfl rfl rfl (fun a1 H1 g1 o1 nw1 => ?_))
    | (refine WO.call rfl (hk (rows2_two o1 (ra.grows g1) (rb.grows g1))) ?_; rintro _ _ ⟨rfl, rfl⟩)
    | (obtain rfl : why = 0 := (by omega); refine W.loopI (σ := Nat × AV) (fun s => [(1, b), (7, s.2), (19, a), (20, .s (.int .i64 A.length)), (21, .s (.int .i64 s.1))]) (fun s h' => Out (encI .u32) 32 h h' s.2 ((A.take s.1).filter fun x => decide (x ∉ B)) ∧ s.1 ≤ A.length) (fun s => A.length - s.1) (0, .s (.slice none 0 0)) ⟨rfl, rfl, rfl, rfl, rfl, trivial⟩ ⟨Out.nil g1, Nat.zero_le _⟩ ?_; rintro ⟨i, out⟩ G h' ⟨ho, hi⟩; dsimp only at hi ho ⊢; have hra := ho.old ra)
    | (refine WO.call rfl (bs_FR h' b _ _ (ho.old rb) (hok rfl) (by omega)) ?_; rintro _ _ ⟨rfl, m, rfl, _, _, _⟩)
    | (refine WO.bslI rfl rfl (fun a1 H1 g1 o1 nw1 => ?_))
    | (refine WO.appO (ho.grows g1) o1.row rfl (encI_ok _ _) (by have := List.length_filter_le (fun x => decide (x ∉ B)) (A.take i); simp only [List.length_take, List.length_cons, List.length_nil] at *; omega) (by have := List.length_filter_le (fun x => decide (x ∉ B)) (A.take i); simp only [List.length_take, List.length_cons, List.length_nil] at *; omega) (fun a2 H2 out2 ap2 => ?_))
    | (refine LQ.fin ?_)
    | (refine EQ.fin rfl ?_)
    | (refine WO.mvs rfl ?_)
    | (refine WO.mvp rfl ?_)
    | (refine WO.mvt rfl ?_)
    | (refine WO.mv ?_)
    | (refine W.sreg ?_)
    | (refine W.sdraw ?_)
    | (refine W.reg ?_)
    | (refine W.draw ?_)
    | (refine WO.nil ?_)
    | (refine WO.gU rfl ?_)
    | (refine WO.gT rfl rfl ?_)
    | (refine WO.gF rfl rfl ?_)
    | (refine WO.ext rfl rfl ?_)
    | (refine WO.lenR (by assumption) ?_)
    | (refine WO.add rfl rfl (by first | exact wrOK (by simp only [loK, hiK]; omega) | rfl) ?_)
    | (refine WO.sub rfl rfl (by first | exact wrOK (by simp only [loK, hiK]; omega) | rfl) ?_)
    | (refine WO.lss rfl rfl ?_)
    | (refine WO.leq rfl rfl ?_)
    | (refine WO.gtr rfl rfl ?_)
    | (refine WO.geq rfl rfl ?_)
    | (refine WO.eql rfl rfl ?_)
    | (refine WO.neq rfl rfl ?_)
    | (refine WO.seql rfl rfl ?_)
    | (refine WO.sneq rfl rfl ?_)
    | (refine WO.beql rfl rfl (tb rfl) ?_)
    | (refine WO.bneq rfl rfl (tb rfl) ?_)
    | (refine WO.not rfl ?_)
    | (refine WO.not0 rfl ?_)
    | (refine WO.cvi rfl (kd rfl) (kd rfl) (by first | exact wrOK (by simp only [loK, hiK]; omega) | rfl) ?_)
    | (refine WO.cvs rfl (st rfl) (st rfl) ?_)
    | (refine WO.ix rfl rfl (st rfl) (by first | assumption | omega) (by first | assumption | omega) ?_)
    | (refine WO.slen rfl (st rfl) ?_)
    | (refine WO.iaddr (by assumption) rfl rfl (by first | assumption | omega) (by first | assumption | omega) (fun q hq => ?_))
    | (refine WO.load (by assumption) rfl rfl ?_)
    | (refine WO.loadO rfl (by assumption) rfl rfl ?_)
    | (refine WO.faddrP (by assumption) rfl (fun q hq => ?_))
    | (refine WO.nilckP (by assumption) ?_)
    | (refine WO.nilck rfl ?_)
    | (refine WO.faddr rfl ?_)
    | (refine WO.fld rfl rfl rfl ?_)
    | (refine WO.pickT rfl ?_)
    | (refine WO.pickF rfl ?_)
    | (refine WO.sll rfl rfl (st rfl) (by first | assumption | omega) (by first | assumption | omega) ?_)
    | (refine WO.slh rfl rfl (st rfl) (by first | assumption | omega) (by first | assumption | omega) ?_)
    | (refine WO.slb rfl rfl rfl (st rfl) (by first | assumption | omega) (by first | assumption | omega) (by first | assumption | omega) ?_)
    | (refine WO.mul rfl rfl (by first | exact wrOK (by simp only [loK, hiK]; omega) | rfl) ?_)
    | (refine WO.quo rfl rfl (by first | assumption | omega) (by first | exact wrOK (by simp only [loK, hiK]; omega) | rfl) ?_)
    | (refine WO.rem rfl rfl (by first | assumption | omega) ?_)
    | (refine WO.and rfl rfl ?_)
    | (refine WO.or rfl rfl ?_)
    | (refine WO.xor rfl rfl ?_)
    | (refine WO.shl rfl rfl (by first | assumption | omega) (by simp [IntKind.bits]; rfl) ?_)
    | (refine WO.shr rfl rfl (by first | assumption | omega) (by simp [IntKind.bits]; rfl) ?_)
    | (refine WO.build (C := [_]) rfl ?_)
    | (refine WO.build (C := [_, _]) rfl ?_)
    | (refine WO.build (C := [_, _, _]) rfl ?_)
    | (refine WO.build (C := [_, _, _, _]) rfl ?_)
    | (refine WO.build (C := [_, _, _, _, _]) rfl ?_)
    | (refine WO.build (C := [_, _, _, _, _, _]) rfl ?_)
    | (refine WO.build (C := [_, _, _, _, _, _, _]) rfl ?_)
    | (refine WO.eqnil (by assumption) (fun hn1 hn2 => ?_) ?_)
    | (refine W.condT rfl ?_)
    | (refine W.condF rfl ?_)
    | (refine W.condDT rfl (by first | assumption | omega) ?_)
    | (refine W.condDF rfl (by first | assumption | omega) ?_)
    | (refine W.condD rfl (fun hc => ?_) (fun hc => ?_))
    | (refine WO.gS rfl (fun hc => ?_) (fun hc => ?_) <;> try (exfalso; omega))
    | (refine WO.pickS rfl (fun hc => ?_) (fun hc => ?_) <;> try (exfalso; omega))
    | (refine W.skip ?_)
    | (refine W.block ?_)
    | (refine W.drawA rfl ?_)
    | (refine W.sdrawA rfl ?_)
    | (refine And.intro rfl ?_)
    | (refine W.exit ?_)
    | (refine W.ret ?_)
    | (refine W.seq ?_)
    | (refine W.goto ?_)
    | (refine W.label ?_)
    | (refine SQ.nn ?_)
    | (refine SQ.x ?_)
    | (refine SQ.r ?_)
    | (refine SQ.g ?_)
    | (refine BQ.nn ?_)
    | (refine BQ.x ?_)
    | (refine BQ.r ?_)
    | (refine BQ.g ?_)
    | (refine BQ.y rfl ?_)
    | (refine LQ.x ?_)
    | (refine LQ.r ?_)
    | (refine LQ.g ?_)
    | (refine GQ.nn ?_)
    | (refine GQ.x ?_)
    | (refine GQ.r ?_))
  · exact ⟨.s (.slice none 0 0), rfl, by rw [if_pos hc]; exact Out.nil g1⟩
  · refine ⟨(i + 1, a2), by dsimp only; omega, ⟨rfl, rfl, rfl, rfl, rfl, trivial⟩, ?_, by dsimp only; omega⟩
    rw [filt_snoc _ (by omega), if_pos (decide_eq_true hc)]; exact out2
  · refine ⟨(i + 1, out), by dsimp only; omega, ⟨rfl, rfl, rfl, rfl, rfl, trivial⟩, ?_, by dsimp only; omega⟩
    rw [filt_snoc _ (by omega), if_neg (by simpa using hc), List.append_nil]; exact ho
  · refine ⟨out, rfl, ?_⟩
    rw [if_neg (by simp), withoutS]
    have e : A.take i = A := List.take_of_length_le (by omega)
    rw [e] at ho; exact ho
def mergeS : List Int → List Int → List Int
  | [], B => B
  | a :: A, [] => a :: A
  | a :: A, b :: B => if a < b then a :: mergeS A (b :: B) else if b < a then b :: mergeS (a :: A) B else a :: mergeS A B
termination_by A B => A.length + B.length
theorem mergeS_nil (A : List Int) : mergeS A [] = A := by cases A <;> simp [mergeS]
theorem mergeS_at {A B : List Int} (ha : 0 < A.length) (hb : 0 < B.length) : mergeS A B = if nth A 0 < nth B 0 then nth A 0 :: mergeS (A.drop 1) B else if nth B 0 < nth A 0 then nth B 0 :: mergeS A (B.drop 1) else nth A 0 :: mergeS (A.drop 1) (B.drop 1) := by
  match A, B, ha, hb with
  | a :: A, b :: B, _, _ => rw [mergeS]; rfl
theorem either_FR (h : Heap) (a b : AV) (A B : List Int) (ra : Row (encI .u32) h a A) (rb : Row (encI .u32) h b B) (hla : A.length ≤ 1099511627776) (hlb : B.length ≤ 1099511627776) :
    FR Try.prog TT 51 [a, b] h fun x H => Out (encI .u32) 32 h H x (mergeS A B) := by
  refine FR.of p51 (by kernel_rfl) ?_
  unfold c51
  repeat' (first
    | (refine WO.make (E := encI .u32) (z := 0) rfl rfl rfl rfl (by omega) (by omega) (by omega) (by omega) (fun a0 H0 g0 o0 nw0 => ?_))
    | (refine W.loopI (σ := AV × AV × AV × List Int × List Int × List Int) (fun s => [(5, s.1), (0, s.2.1), (1, s.2.2.1)]) (fun s h' => Out (encI .u32) 32 h h' s.1 s.2.2.2.1 ∧ Row (encI .u32) h s.2.1 s.2.2.2.2.1 ∧ Row (encI .u32) h s.2.2.1 s.2.2.2.2.2 ∧ s.2.2.2.1 ++ mergeS s.2.2.2.2.1 s.2.2.2.2.2 = mergeS A B ∧ s.2.2.2.1.length + s.2.2.2.2.1.length + s.2.2.2.2.2.length ≤ A.length + B.length) (fun s => s.2.2.2.2.1.length + s.2.2.2.2.2.length) (a0, a, b, [], A, B) ⟨rfl, rfl, rfl, trivial⟩ ⟨⟨g0, o0, nw0⟩, ra, rb, rfl, by simp⟩ ?_; rintro ⟨out, ca, cb, O, A', B'⟩ G h' ⟨ho, ra1, rb1, hme, hle⟩; dsimp only at ho ra1 rb1 hme hle ⊢; have ra2 := ho.old ra1; have rb2 := ho.old rb1)
    | (refine WO.bslI rfl rfl (fun a1 H1 g1 o1 nw1 => ?_))
    | (refine WO.appO (ho.grows g1) o1.row rfl (encI_ok _ _) (by simp only [List.length_cons, List.length_nil]; omega) (by simp only [List.length_cons, List.length_nil]; omega) (fun a2 H2 out2 ap2 => ?_))
    | (refine WO.slc ra1 rfl rfl (by omega) (by omega) (fun cu2 hcu2 _ => ?_))
    | (refine WO.slc rb1 rfl rfl (by omega) (by omega) (fun cv2 hcv2 _ => ?_))
    | (refine WO.appO ho ra2 rfl (encI_ok _ _) (by omega) (by omega) (fun a3 H3 out3 ap3 => ?_))
    | (refine WO.appO out3 (out3.old rb1) rfl (encI_ok _ _) (by rw [List.length_append]; omega) (by rw [List.length_append]; omega) (fun a4 H4 out4 ap4 => ?_))
    | (refine LQ.fin ?_)
    | (refine EQ.fin rfl ?_)
    | (refine WO.mvs rfl ?_)
    | (refine WO.mvp rfl ?_)
    | (refine WO.mvt rfl ?_)
    | (refine WO.mv ?_)
    | (refine W.sreg ?_)
    | (refine W.sdraw ?_)
    | (refine W.reg ?_)
    | (refine W.draw ?_)
    | (refine WO.nil ?_)
    | (refine WO.gU rfl ?_)
    | (refine WO.gT rfl rfl ?_)
    | (refine WO.gF rfl rfl ?_)
    | (refine WO.ext rfl rfl ?_)
    | (refine WO.lenR (by assumption) ?_)
    | (refine WO.add rfl rfl (by first | exact wrOK (by simp only [loK, hiK]; omega) | rfl) ?_)
    | (refine WO.sub rfl rfl (by first | exact wrOK (by simp only [loK, hiK]; omega) | rfl) ?_)
    | (refine WO.lss rfl rfl ?_)
    | (refine WO.leq rfl rfl ?_)
    | (refine WO.gtr rfl rfl ?_)
    | (refine WO.geq rfl rfl ?_)
    | (refine WO.eql rfl rfl ?_)
    | (refine WO.neq rfl rfl ?_)
    | (refine WO.seql rfl rfl ?_)
    | (refine WO.sneq rfl rfl ?_)
    | (refine WO.beql rfl rfl (tb rfl) ?_)
    | (refine WO.bneq rfl rfl (tb rfl) ?_)
    | (refine WO.not rfl ?_)
    | (refine WO.not0 rfl ?_)
    | (refine WO.cvi rfl (kd rfl) (kd rfl) (by first | exact wrOK (by simp only [loK, hiK]; omega) | rfl) ?_)
    | (refine WO.cvs rfl (st rfl) (st rfl) ?_)
    | (refine WO.ix rfl rfl (st rfl) (by first | assumption | omega) (by first | assumption | omega) ?_)
    | (refine WO.slen rfl (st rfl) ?_)
    | (refine WO.iaddr (by assumption) rfl rfl (by first | assumption | omega) (by first | assumption | omega) (fun q hq => ?_))
    | (refine WO.load (by assumption) rfl rfl ?_)
    | (refine WO.loadO rfl (by assumption) rfl rfl ?_)
    | (refine WO.faddrP (by assumption) rfl (fun q hq => ?_))
    | (refine WO.nilckP (by assumption) ?_)
    | (refine WO.nilck rfl ?_)
    | (refine WO.faddr rfl ?_)
    | (refine WO.fld rfl rfl rfl ?_)
    | (refine WO.pickT rfl ?_)
    | (refine WO.pickF rfl ?_)
    | (refine WO.sll rfl rfl (st rfl) (by first | assumption | omega) (by first | assumption | omega) ?_)
    | (refine WO.slh rfl rfl (st rfl) (by first | assumption | omega) (by first | assumption | omega) ?_)
    | (refine WO.slb rfl rfl rfl (st rfl) (by first | assumption | omega) (by first | assumption | omega) (by first | assumption | omega) ?_)
    | (refine WO.mul rfl rfl (by first | exact wrOK (by simp only [loK, hiK]; omega) | rfl) ?_)
    | (refine WO.quo rfl rfl (by first | assumption | omega) (by first | exact wrOK (by simp only [loK, hiK]; omega) | rfl) ?_)
    | (refine WO.rem rfl rfl (by first | assumption | omega) ?_)
    | (refine WO.and rfl rfl ?_)
    | (refine WO.or rfl rfl ?_)
    | (refine WO.xor rfl rfl ?_)
    | (refine WO.shl rfl rfl (by first | assumption | omega) (by simp [IntKind.bits]; rfl) ?_)
    | (refine WO.shr rfl rfl (by first | assumption | omega) (by simp [IntKind.bits]; rfl) ?_)
    | (refine WO.build (C := [_]) rfl ?_)
    | (refine WO.build (C := [_, _]) rfl ?_)
    | (refine WO.build (C := [_, _, _]) rfl ?_)
    | (refine WO.build (C := [_, _, _, _]) rfl ?_)
    | (refine WO.build (C := [_, _, _, _, _]) rfl ?_)
    | (refine WO.build (C := [_, _, _, _, _, _]) rfl ?_)
    | (refine WO.build (C := [_, _, _, _, _, _, _]) rfl ?_)
    | (refine WO.eqnil (by assumption) (fun hn1 hn2 => ?_) ?_)
    | (refine W.condT rfl ?_)
    | (refine W.condF rfl ?_)
    | (refine W.condDT rfl (by first | assumption | omega) ?_)
    | (refine W.condDF rfl (by first | assumption | omega) ?_)
    | (refine W.condD rfl (fun hc => ?_) (fun hc => ?_))
    | (refine WO.gS rfl (fun hc => ?_) (fun hc => ?_) <;> try (exfalso; omega))
    | (refine WO.pickS rfl (fun hc => ?_) (fun hc => ?_) <;> try (exfalso; omega))
    | (refine W.skip ?_)
    | (refine W.block ?_)
    | (refine W.drawA rfl ?_)
    | (refine W.sdrawA rfl ?_)
    | (refine And.intro rfl ?_)
    | (refine W.exit ?_)
    | (refine W.ret ?_)
    | (refine W.seq ?_)
    | (refine W.goto ?_)
    | (refine W.label ?_)
    | (refine SQ.nn ?_)
    | (refine SQ.x ?_)
    | (refine SQ.r ?_)
    | (refine SQ.g ?_)
    | (refine BQ.nn ?_)
    | (refine BQ.x ?_)
    | (refine BQ.r ?_)
    | (refine BQ.g ?_)
    | (refine BQ.y rfl ?_)
    | (refine LQ.x ?_)
    | (refine LQ.r ?_)
    | (refine LQ.g ?_)
    | (refine GQ.nn ?_)
    | (refine GQ.x ?_)
    | (refine GQ.r ?_))
  · rw [mergeS_at (by omega) (by omega), if_pos hc] at hme
    exact ⟨(a2, cu2, cb, O ++ [nth A' 0], A'.drop 1, B'), by simp only [List.length_drop]; omega, ⟨rfl, rfl, rfl, trivial⟩, out2, hcu2, rb1, by rw [List.append_assoc]; exact hme, by simp only [List.length_append, List.length_cons, List.length_nil, List.length_drop]; omega⟩
  · rw [mergeS_at (by omega) (by omega), if_neg (by omega), if_pos hc] at hme
    exact ⟨(a2, ca, cv2, O ++ [nth B' 0], A', B'.drop 1), by simp only [List.length_drop]; omega, ⟨rfl, rfl, rfl, trivial⟩, out2, ra1, hcv2, by rw [List.append_assoc]; exact hme, by simp only [List.length_append, List.length_cons, List.length_nil, List.length_drop]; omega⟩
  · rw [mergeS_at (by omega) (by omega), if_neg (by omega), if_neg (by omega)] at hme
    exact ⟨(a2, cu2, cv2, O ++ [nth A' 0], A'.drop 1, B'.drop 1), by simp only [List.length_drop]; omega, ⟨rfl, rfl, rfl, trivial⟩, out2, hcu2, hcv2, by rw [List.append_assoc]; exact hme, by simp only [List.length_append, List.length_cons, List.length_nil, List.length_drop]; omega⟩
  · obtain rfl : B' = [] := List.length_eq_zero_iff.1 (by omega)
    rw [mergeS_nil] at hme
    rw [List.append_nil, hme] at out4
    exact ⟨out4⟩
  · obtain rfl : A' = [] := List.length_eq_zero_iff.1 (by omega)
    rw [mergeS] at hme
    rw [List.append_nil, hme] at out4
    exact ⟨out4⟩
/-- slices.Grow of nothing. -/
theorem grow_FR (h : Heap) (m : Int) (h0 : 0 ≤ m) (hm : m ≤ 1099511627776) : FR Try.prog TT 69 [.s (.slice none 0 0), .s (.int .i64 m)] h fun x H => Out (encI .u32) 32 h H x [] := by
  refine FR.of p69 (by kernel_rfl) ?_
  unfold c69
  repeat' (first
    | (refine WO.lenN rfl ?_)
    | (refine WO.capN rfl ?_)
    | (refine WO.slN rfl rfl ?_)
    | (refine WO.appz (E := encI .u32) (z := 0) rfl rfl rfl rfl (by omega) (by omega) (by omega) (fun a1 H1 g1 o1 nw1 => ?_))
    | (refine WO.slO o1 rfl rfl (by omega) (by omega) (fun a2 o2 hb2 => ?_))
    | (refine EQ.fin rfl ?_)
    | (refine WO.mvs rfl ?_)
    | (refine WO.mvp rfl ?_)
    | (refine WO.mvt rfl ?_)
    | (refine WO.mv ?_)
    | (refine W.sreg ?_)
    | (refine W.sdraw ?_)
    | (refine W.reg ?_)
    | (refine W.draw ?_)
    | (refine WO.nil ?_)
    | (refine WO.gU rfl ?_)
    | (refine WO.gT rfl rfl ?_)
    | (refine WO.gF rfl rfl ?_)
    | (refine WO.ext rfl rfl ?_)
    | (refine WO.lenR (by assumption) ?_)
    | (refine WO.add rfl rfl (by first | exact wrOK (by simp only [loK, hiK]; omega) | rfl) ?_)
    | (refine WO.sub rfl rfl (by first | exact wrOK (by simp only [loK, hiK]; omega) | rfl) ?_)
    | (refine WO.lss rfl rfl ?_)
    | (refine WO.leq rfl rfl ?_)
    | (refine WO.gtr rfl rfl ?_)
    | (refine WO.geq rfl rfl ?_)
    | (refine WO.eql rfl rfl ?_)
    | (refine WO.neq rfl rfl ?_)
    | (refine WO.seql rfl rfl ?_)
    | (refine WO.sneq rfl rfl ?_)
    | (refine WO.beql rfl rfl (tb rfl) ?_)
    | (refine WO.bneq rfl rfl (tb rfl) ?_)
    | (refine WO.not rfl ?_)
    | (refine WO.not0 rfl ?_)
    | (refine WO.cvi rfl (kd rfl) (kd rfl) (by first | exact wrOK (by simp only [loK, hiK]; omega) | rfl) ?_)
    | (refine WO.cvs rfl (st rfl) (st rfl) ?_)
    | (refine WO.ix rfl rfl (st rfl) (by first | assumption | omega) (by first | assumption | omega) ?_)
    | (refine WO.slen rfl (st rfl) ?_)
    | (refine WO.iaddr (by assumption) rfl rfl (by first | assumption | omega) (by first | assumption | omega) (fun q hq => ?_))
    | (refine WO.load (by assumption) rfl rfl ?_)
    | (refine WO.loadO rfl (by assumption) rfl rfl ?_)
    | (refine WO.faddrP (by assumption) rfl (fun q hq => ?_))
    | (refine WO.nilckP (by assumption) ?_)
    | (refine WO.nilck rfl ?_)
    | (refine WO.faddr rfl ?_)
    | (refine WO.fld rfl rfl rfl ?_)
    | (refine WO.pickT rfl ?_)
    | (refine WO.pickF rfl ?_)
    | (refine WO.sll rfl rfl (st rfl) (by first | assumption | omega) (by first | assumption | omega) ?_)
    | (refine WO.slh rfl rfl (st rfl) (by first | assumption | omega) (by first | assumption | omega) ?_)
    | (refine WO.slb rfl rfl rfl (st rfl) (by first | assumption | omega) (by first | assumption | omega) (by first | assumption | omega) ?_)
    | (refine WO.mul rfl rfl (by first | exact wrOK (by simp only [loK, hiK]; omega) | rfl) ?_)
    | (refine WO.quo rfl rfl (by first | assumption | omega) (by first | exact wrOK (by simp only [loK, hiK]; omega) | rfl) ?_)
    | (refine WO.rem rfl rfl (by first | assumption | omega) ?_)
    | (refine WO.and rfl rfl ?_)
    | (refine WO.or rfl rfl ?_)
    | (refine WO.xor rfl rfl ?_)
    | (refine WO.shl rfl rfl (by first | assumption | omega) (by simp [IntKind.bits]; rfl) ?_)
    | (refine WO.shr rfl rfl (by first | assumption | omega) (by simp [IntKind.bits]; rfl) ?_)
    | (refine WO.build (C := [_]) rfl ?_)
    | (refine WO.build (C := [_, _]) rfl ?_)
    | (refine WO.build (C := [_, _, _]) rfl ?_)
    | (refine WO.build (C := [_, _, _, _]) rfl ?_)
    | (refine WO.build (C := [_, _, _, _, _]) rfl ?_)
    | (refine WO.build (C := [_, _, _, _, _, _]) rfl ?_)
    | (refine WO.build (C := [_, _, _, _, _, _, _]) rfl ?_)
    | (refine WO.eqnil (by assumption) (fun hn1 hn2 => ?_) ?_)
    | (refine W.condT rfl ?_)
    | (refine W.condF rfl ?_)
    | (refine W.condDT rfl (by first | assumption | omega) ?_)
    | (refine W.condDF rfl (by first | assumption | omega) ?_)
    | (refine W.condD rfl (fun hc => ?_) (fun hc => ?_))
    | (refine WO.gS rfl (fun hc => ?_) (fun hc => ?_) <;> try (exfalso; omega))
    | (refine WO.pickS rfl (fun hc => ?_) (fun hc => ?_) <;> try (exfalso; omega))
    | (refine W.skip ?_)
    | (refine W.block ?_)
    | (refine W.drawA rfl ?_)
    | (refine W.sdrawA rfl ?_)
    | (refine And.intro rfl ?_)
    | (refine W.exit ?_)
    | (refine W.ret ?_)
    | (refine W.seq ?_)
    | (refine W.goto ?_)
    | (refine W.label ?_)
    | (refine SQ.nn ?_)
    | (refine SQ.x ?_)
    | (refine SQ.r ?_)
    | (refine SQ.g ?_)
    | (refine BQ.nn ?_)
    | (refine BQ.x ?_)
    | (refine BQ.r ?_)
    | (refine BQ.g ?_)
    | (refine BQ.y rfl ?_)
    | (refine LQ.x ?_)
    | (refine LQ.r ?_)
    | (refine LQ.g ?_)
    | (refine GQ.nn ?_)
    | (refine GQ.x ?_)
    | (refine GQ.r ?_))
  · exact ⟨⟨g1, o2, fun c hc => nw1 c (hb2.symm.trans hc)⟩⟩
  · exact ⟨Out.nil (Grows.refl _)⟩
theorem flat_snoc {LL : List (List Int)} {i : Nat} (h : i < LL.length) : (LL.take (i + 1)).flatten = (LL.take i).flatten ++ nth LL i := by
  rw [take_snoc h, List.flatten_append]; simp
theorem flat_len_le (LL : List (List Int)) (i : Nat) : (LL.take i).flatten.length ≤ LL.flatten.length := by
  have : LL.flatten = (LL.take i).flatten ++ (LL.drop i).flatten := by rw [← List.flatten_append, List.take_append_drop]
  rw [this, List.length_append]; omega
theorem concat_FR (h : Heap) (a : AV) (LL : List (List Int)) (r : Rows2 h a LL) (hl : LL.flatten.length ≤ 1099511627776) (hn : LL.length ≤ 1099511627776) :
    FR Try.prog TT 52 [a] h fun x H => Out (encI .u32) 32 h H x LL.flatten := by
  obtain ⟨az, ra, hlen, hr⟩ := r.x
  refine FR.of p52 (by kernel_rfl) ?_
  unfold c52
  repeat' (first
    | (refine W.loopI (σ := Nat) (fun i => [(0, a), (9, a), (10, .s (.int .i64 az.length)), (11, .s (.int .i64 i)), (3, .s (.int .i64 (LL.take i).flatten.length))]) (fun i h' => h' = h ∧ i ≤ LL.length) (fun i => LL.length - i) 0 ⟨rfl, rfl, rfl, rfl, rfl, trivial⟩ ⟨rfl, Nat.zero_le _⟩ ?_; rintro i G h' ⟨rfl, hi⟩; have hfs := fun h => congrArg List.length (flat_snoc (LL := LL) (i := i) h); have hle := flat_len_le LL (i + 1); have hle0 := flat_len_le LL i; simp only [List.length_append] at hfs)
    | (refine W.loopI (σ := Nat × AV) (fun s => [(25, a), (26, .s (.int .i64 az.length)), (27, .s (.int .i64 s.1)), (6, s.2)]) (fun s hh => Out (encI .u32) 32 h' hh s.2 (LL.take s.1).flatten ∧ s.1 ≤ LL.length) (fun s => LL.length - s.1) (0, x6) ⟨rfl, rfl, rfl, rfl, trivial⟩ ⟨o6, Nat.zero_le _⟩ ?_; rintro ⟨j, out⟩ G h2 ⟨ho, hj⟩; dsimp only at ho hj ⊢; have raj := ho.old ra; have hfs := fun h => congrArg List.length (flat_snoc (LL := LL) (i := j) h); have hle := flat_len_le LL (j + 1); simp only [List.length_append] at hfs)
    | (refine WO.lenR (hr i (by omega)) ?_)
    | (have hfs := hfs (by omega); refine WO.add rfl rfl (wrOK (x := ((LL.take i).flatten.length : Int) + (nth LL i).length) (by simp only [loK, hiK]; omega)) ?_)
    | (refine WO.call rfl (grow_FR _ _ (by omega) (by omega)) ?_; rintro x6 H6 o6)
    | (have hfs := hfs (by omega); refine WO.appO ho ((hr j (by omega)).grows ho.g) rfl (encI_ok _ _) (by omega) (by omega) (fun a2 H2 out2 ap2 => ?_))
    | (refine LQ.fin ?_)
    | (refine EQ.fin rfl ?_)
    | (refine WO.mvs rfl ?_)
    | (refine WO.mvp rfl ?_)
    | (refine WO.mvt rfl ?_)
    | (refine WO.mv ?_)
    | (refine W.sreg ?_)
    | (refine W.sdraw ?_)
    | (refine W.reg ?_)
    | (refine W.draw ?_)
    | (refine WO.nil ?_)
    | (refine WO.gU rfl ?_)
    | (refine WO.gT rfl rfl ?_)
    | (refine WO.gF rfl rfl ?_)
    | (refine WO.ext rfl rfl ?_)
    | (refine WO.lenR (by assumption) ?_)
    | (refine WO.add rfl rfl (by first | exact wrOK (by simp only [loK, hiK]; omega) | rfl) ?_)
    | (refine WO.sub rfl rfl (by first | exact wrOK (by simp only [loK, hiK]; omega) | rfl) ?_)
    | (refine WO.lss rfl rfl ?_)
    | (refine WO.leq rfl rfl ?_)
    | (refine WO.gtr rfl rfl ?_)
    | (refine WO.geq rfl rfl ?_)
    | (refine WO.eql rfl rfl ?_)
    | (refine WO.neq rfl rfl ?_)
    | (refine WO.seql rfl rfl ?_)
    | (refine WO.sneq rfl rfl ?_)
    | (refine WO.beql rfl rfl (tb rfl) ?_)
    | (refine WO.bneq rfl rfl (tb rfl) ?_)
    | (refine WO.not rfl ?_)
    | (refine WO.not0 rfl ?_)
    | (refine WO.cvi rfl (kd rfl) (kd rfl) (by first | exact wrOK (by simp only [loK, hiK]; omega) | rfl) ?_)
    | (refine WO.cvs rfl (st rfl) (st rfl) ?_)
    | (refine WO.ix rfl rfl (st rfl) (by first | assumption | omega) (by first | assumption | omega) ?_)
    | (refine WO.slen rfl (st rfl) ?_)
    | (refine WO.iaddr (by assumption) rfl rfl (by first | assumption | omega) (by first | assumption | omega) (fun q hq => ?_))
    | (refine WO.load (by assumption) rfl rfl ?_)
    | (refine WO.loadO rfl (by assumption) rfl rfl ?_)
    | (refine WO.faddrP (by assumption) rfl (fun q hq => ?_))
    | (refine WO.nilckP (by assumption) ?_)
    | (refine WO.nilck rfl ?_)
    | (refine WO.faddr rfl ?_)
    | (refine WO.fld rfl rfl rfl ?_)
    | (refine WO.pickT rfl ?_)
    | (refine WO.pickF rfl ?_)
    | (refine WO.sll rfl rfl (st rfl) (by first | assumption | omega) (by first | assumption | omega) ?_)
    | (refine WO.slh rfl rfl (st rfl) (by first | assumption | omega) (by first | assumption | omega) ?_)
    | (refine WO.slb rfl rfl rfl (st rfl) (by first | assumption | omega) (by first | assumption | omega) (by first | assumption | omega) ?_)
    | (refine WO.mul rfl rfl (by first | exact wrOK (by simp only [loK, hiK]; omega) | rfl) ?_)
    | (refine WO.quo rfl rfl (by first | assumption | omega) (by first | exact wrOK (by simp only [loK, hiK]; omega) | rfl) ?_)
    | (refine WO.rem rfl rfl (by first | assumption | omega) ?_)
    | (refine WO.and rfl rfl ?_)
    | (refine WO.or rfl rfl ?_)
    | (refine WO.xor rfl rfl ?_)
    | (refine WO.shl rfl rfl (by first | assumption | omega) (by simp [IntKind.bits]; rfl) ?_)
    | (refine WO.shr rfl rfl (by first | assumption | omega) (by simp [IntKind.bits]; rfl) ?_)
    | (refine WO.build (C := [_]) rfl ?_)
    | (refine WO.build (C := [_, _]) rfl ?_)
    | (refine WO.build (C := [_, _, _]) rfl ?_)
    | (refine WO.build (C := [_, _, _, _]) rfl ?_)
    | (refine WO.build (C := [_, _, _, _, _]) rfl ?_)
    | (refine WO.build (C := [_, _, _, _, _, _]) rfl ?_)
    | (refine WO.build (C := [_, _, _, _, _, _, _]) rfl ?_)
    | (refine WO.eqnil (by assumption) (fun hn1 hn2 => ?_) ?_)
    | (refine W.condT rfl ?_)
    | (refine W.condF rfl ?_)
    | (refine W.condDT rfl (by first | assumption | omega) ?_)
    | (refine W.condDF rfl (by first | assumption | omega) ?_)
    | (refine W.condD rfl (fun hc => ?_) (fun hc => ?_))
    | (refine WO.gS rfl (fun hc => ?_) (fun hc => ?_) <;> try (exfalso; omega))
    | (refine WO.pickS rfl (fun hc => ?_) (fun hc => ?_) <;> try (exfalso; omega))
    | (refine W.skip ?_)
    | (refine W.block ?_)
    | (refine W.drawA rfl ?_)
    | (refine W.sdrawA rfl ?_)
    | (refine And.intro rfl ?_)
    | (refine W.exit ?_)
    | (refine W.ret ?_)
    | (refine W.seq ?_)
    | (refine W.goto ?_)
    | (refine W.label ?_)
    | (refine SQ.nn ?_)
    | (refine SQ.x ?_)
    | (refine SQ.r ?_)
    | (refine SQ.g ?_)
    | (refine BQ.nn ?_)
    | (refine BQ.x ?_)
    | (refine BQ.r ?_)
    | (refine BQ.g ?_)
    | (refine BQ.y rfl ?_)
    | (refine LQ.x ?_)
    | (refine LQ.r ?_)
    | (refine LQ.g ?_)
    | (refine GQ.nn ?_)
    | (refine GQ.x ?_)
    | (refine GQ.r ?_))
  · exact ⟨i + 1, by omega, ⟨rfl, rfl, rfl, rfl, int_eq (by omega), trivial⟩, rfl, by omega⟩
  · exact ⟨(j + 1, a2), by dsimp only; omega, ⟨rfl, rfl, rfl, rfl, trivial⟩, by rw [flat_snoc (by omega)]; exact out2, by dsimp only; omega⟩
  · have e : LL.take j = LL := List.take_of_length_le (by omega)
    rw [e] at ho
    exact ⟨ho⟩
end Go.Proofs.Ytpmoellbfgcefaa.AS
end
section
set_option autoImplicit false
set_option maxRecDepth 100000
set_option maxHeartbeats 4000000
set_option linter.unusedSimpArgs false
set_option linter.unusedVariables false
namespace Go.Proofs.Ytpmoellbfgcefaa.AS
open Go Go.Proofs Go.RowKit

def bothX (A B : List Int) : List Int := if B.length < A.length then bothS B A else bothS A B
theorem bothX_pw {A B : List Int} (ha : A.Pairwise (· < ·)) (hb : B.Pairwise (· < ·)) : (bothX A B).Pairwise (· < ·) ∧ (bothX A B).length ≤ A.length := by
  unfold bothX
  split
  · refine ⟨hb.filter _, ?_⟩
    have := List.length_filter_le (fun x => decide (x ∈ A)) B
    unfold bothS; omega
  · exact ⟨ha.filter _, List.length_filter_le _ _⟩
theorem bothX_mem {A B : List Int} (x : Int) : x ∈ bothX A B ↔ x ∈ A ∧ x ∈ B := by
  unfold bothX bothS
  split <;> simp [and_comm]
def andS : List (List Int) → List Int
  | [] => []
  | L :: r => r.foldl bothX L
theorem Out.trans {α : Type} {E : Enc α} {e : TypeId} {h0 h h1 : Heap} {a : AV} {L : List α} (g : Grows h0 h) (o : Out E e h h1 a L) : Out E e h0 h1 a L := ⟨g.trans o.g, o.o, o.nw.mono g.len⟩
theorem nth_drop {α : Type} [Inhabited α] {L : List α} {i : Nat} (k : Nat) (h : k + i < L.length) : nth (L.drop k) i = nth L ((k + i : Nat) : Int) := by
  rw [nth_eq (by rw [Int.toNat_natCast, List.length_drop]; omega), nth_eq (by rw [Int.toNat_natCast]; exact h)]
  simp only [Int.toNat_natCast, List.getElem_drop]
theorem foldX_ok : ∀ (M : List (List Int)) (L : List Int), L.Pairwise (· < ·) → (∀ K ∈ M, K.Pairwise (· < ·)) → (M.foldl bothX L).Pairwise (· < ·) ∧ (M.foldl bothX L).length ≤ L.length
  | [], L, h, _ => ⟨h, Nat.le_refl _⟩
  | K :: M, L, h, hM => by
    have h1 := bothX_pw h (hM K (by simp))
    have := foldX_ok M (bothX L K) h1.1 (fun K hK => hM K (by simp [hK]))
    exact ⟨this.1, by rw [List.foldl_cons]; omega⟩
theorem and_FR (h : Heap) (a : AV) (LL : List (List Int)) (r : Rows2 h a LL) (hl : ∀ L ∈ LL, L.length ≤ 1099511627776) (hn : LL.length ≤ 1099511627776) :
    FR Try.prog TT 12 [a] h fun x H => ∃ c, x = .tp [c, .s (.int .i64 (checkedS LL))] ∧ Out (encI .u32) 32 h H c (if checkedS LL ≠ 0 then [] else andS LL) := by
  have hk := checked_FR h a LL r (fun L hL => by have := hl L hL; omega) (by omega)
  have hok : checkedS LL = 0 → ∀ L ∈ LL, L.Pairwise (· < ·) := fun h L hL => (chkS_ok (checkedS_ok h L hL)).1
  obtain ⟨az, ra, hlen, hr⟩ := r.x
  generalize checkedS LL = why at *
  refine FR.of p12 (by kernel_rfl) ?_
  unfold c12
  repeat' (first
    | (refine WO.call rfl hk ?_; rintro _ H ⟨rfl, hH⟩; obtain rfl := hH.symm)
    | (refine WO.call rfl (clone_FR _ _ _ (hr 0 (by omega)) (hl _ (nth_mem (by omega) (by omega)))) ?_; rintro x1 H1 o1)
    | (refine WO.slc ra rfl rfl (by omega) (by omega) (fun a' ra' _ => ?_))
    | (obtain rfl : why = 0 := (by omega); have hp := hok rfl; refine W.loopI (σ := Nat × AV) (fun s => [(5, s.2), (23, a'), (24, .s (.int .i64 (az.drop 1).length)), (25, .s (.int .i64 s.1))]) (fun s hh => Out (encI .u32) 32 h hh s.2 (((LL.drop 1).take s.1).foldl bothX (nth LL 0)) ∧ s.1 ≤ (LL.drop 1).length) (fun s => (LL.drop 1).length - s.1) (0, x1) ⟨rfl, rfl, rfl, rfl, trivial⟩ ⟨o1, Nat.zero_le _⟩ ?_; rintro ⟨i, out⟩ G hh ⟨ho, hi⟩; dsimp only at ho hi ⊢; have raj := ho.old ra'; rw [List.length_drop] at hi; have hdl : (az.drop 1).length = az.length - 1 := List.length_drop)
    | (have hi2 : 1 + i < LL.length := (by omega); have hnd := nth_drop (L := az) 1 (i := i) (by omega); have hp0 := hp _ (nth_mem (L := LL) (i := 0) (by omega) (by omega)); have hp1 := hp _ (nth_mem (L := LL) (i := ((1 + i : Nat) : Int)) (by omega) (by omega)); have hl0 := hl _ (nth_mem (L := LL) (i := 0) (by omega) (by omega)); have hl1 := hl _ (nth_mem (L := LL) (i := ((1 + i : Nat) : Int)) (by omega) (by omega)); have hfx := foldX_ok ((LL.drop 1).take i) _ hp0 (fun K hK => hp K (List.mem_of_mem_drop (List.mem_of_mem_take hK))); refine WO.call (vs := [out, nth az ((1 + i : Nat) : Int)]) (by rw [← hnd]; rfl) (both_FR hh out _ _ (nth LL ((1 + i : Nat) : Int)) ho.row ((hr (1 + i) hi2).grows ho.g) hfx.1 hp1 (by omega) hl1) ?_; rintro x2 H2 o2)
    | (refine LQ.fin ?_)
    | (refine EQ.fin rfl ?_)
    | (refine WO.mvs rfl ?_)
    | (refine WO.mvp rfl ?_)
    | (refine WO.mvt rfl ?_)
    | (refine WO.mv ?_)
    | (refine W.sreg ?_)
    | (refine W.sdraw ?_)
    | (refine W.reg ?_)
    | (refine W.draw ?_)
    | (refine WO.nil ?_)
    | (refine WO.gU rfl ?_)
    | (refine WO.gT rfl rfl ?_)
    | (refine WO.gF rfl rfl ?_)
    | (refine WO.ext rfl rfl ?_)
    | (refine WO.lenR (by assumption) ?_)
    | (refine WO.add rfl rfl (by first | exact wrOK (by simp only [loK, hiK]; omega) | rfl) ?_)
    | (refine WO.sub rfl rfl (by first | exact wrOK (by simp only [loK, hiK]; omega) | rfl) ?_)
    | (refine WO.lss rfl rfl ?_)
    | (refine WO.leq rfl rfl ?_)
    | (refine WO.gtr rfl rfl ?_)
    | (refine WO.geq rfl rfl ?_)
    | (refine WO.eql rfl rfl ?_)
    | (refine WO.neq rfl rfl ?_)
    | (refine WO.seql rfl rfl ?_)
    | (refine WO.sneq rfl rfl ?_)
    | (refine WO.beql rfl rfl (tb rfl) ?_)
    | (refine WO.bneq rfl rfl (tb rfl) ?_)
    | (refine WO.not rfl ?_)
    | (refine WO.not0 rfl ?_)
    | (refine WO.cvi rfl (kd rfl) (kd rfl) (by first | exact wrOK (by simp only [loK, hiK]; omega) | rfl) ?_)
    | (refine WO.cvs rfl (st rfl) (st rfl) ?_)
    | (refine WO.ix rfl rfl (st rfl) (by first | assumption | omega) (by first | assumption | omega) ?_)
    | (refine WO.slen rfl (st rfl) ?_)
    | (refine WO.iaddr (by assumption) rfl rfl (by first | assumption | omega) (by first | assumption | omega) (fun q hq => ?_))
    | (refine WO.load (by assumption) rfl rfl ?_)
    | (refine WO.loadO rfl (by assumption) rfl rfl ?_)
    | (refine WO.faddrP (by assumption) rfl (fun q hq => ?_))
    | (refine WO.nilckP (by assumption) ?_)
    | (refine WO.nilck rfl ?_)
    | (refine WO.faddr rfl ?_)
    | (refine WO.fld rfl rfl rfl ?_)
    | (refine WO.pickT rfl ?_)
    | (refine WO.pickF rfl ?_)
    | (refine WO.sll rfl rfl (st rfl) (by first | assumption | omega) (by first | assumption | omega) ?_)
    | (refine WO.slh rfl rfl (st rfl) (by first | assumption | omega) (by first | assumption | omega) ?_)
    | (refine WO.slb rfl rfl rfl (st rfl) (by first | assumption | omega) (by first | assumption | omega) (by first | assumption | omega) ?_)
    | (refine WO.mul rfl rfl (by first | exact wrOK (by simp only [loK, hiK]; omega) | rfl) ?_)
    | (refine WO.quo rfl rfl (by first | assumption | omega) (by first | exact wrOK (by simp only [loK, hiK]; omega) | rfl) ?_)
    | (refine WO.rem rfl rfl (by first | assumption | omega) ?_)
    | (refine WO.and rfl rfl ?_)
    | (refine WO.or rfl rfl ?_)
    | (refine WO.xor rfl rfl ?_)
    | (refine WO.shl rfl rfl (by first | assumption | omega) (by simp [IntKind.bits]; rfl) ?_)
    | (refine WO.shr rfl rfl (by first | assumption | omega) (by simp [IntKind.bits]; rfl) ?_)
    | (refine WO.build (C := [_]) rfl ?_)
    | (refine WO.build (C := [_, _]) rfl ?_)
    | (refine WO.build (C := [_, _, _]) rfl ?_)
    | (refine WO.build (C := [_, _, _, _]) rfl ?_)
    | (refine WO.build (C := [_, _, _, _, _]) rfl ?_)
    | (refine WO.build (C := [_, _, _, _, _, _]) rfl ?_)
    | (refine WO.build (C := [_, _, _, _, _, _, _]) rfl ?_)
    | (refine WO.eqnil (by assumption) (fun hn1 hn2 => ?_) ?_)
    | (refine W.condT rfl ?_)
    | (refine W.condF rfl ?_)
    | (refine W.condDT rfl (by first | assumption | omega) ?_)
    | (refine W.condDF rfl (by first | assumption | omega) ?_)
    | (refine W.condD rfl (fun hc => ?_) (fun hc => ?_))
    | (refine WO.gS rfl (fun hc => ?_) (fun hc => ?_) <;> try (exfalso; omega))
    | (refine WO.pickS rfl (fun hc => ?_) (fun hc => ?_) <;> try (exfalso; omega))
    | (refine W.skip ?_)
    | (refine W.block ?_)
    | (refine W.drawA rfl ?_)
    | (refine W.sdrawA rfl ?_)
    | (refine And.intro rfl ?_)
    | (refine W.exit ?_)
    | (refine W.ret ?_)
    | (refine W.seq ?_)
    | (refine W.goto ?_)
    | (refine W.label ?_)
    | (refine SQ.nn ?_)
    | (refine SQ.x ?_)
    | (refine SQ.r ?_)
    | (refine SQ.g ?_)
    | (refine BQ.nn ?_)
    | (refine BQ.x ?_)
    | (refine BQ.r ?_)
    | (refine BQ.g ?_)
    | (refine BQ.y rfl ?_)
    | (refine LQ.x ?_)
    | (refine LQ.r ?_)
    | (refine LQ.g ?_)
    | (refine GQ.nn ?_)
    | (refine GQ.x ?_)
    | (refine GQ.r ?_))
  · exact ⟨.s (.slice none 0 0), rfl, by rw [if_pos hc]; exact Out.nil (Grows.refl _)⟩
  · obtain rfl : LL = [] := List.length_eq_zero_iff.1 (by omega)
    refine ⟨.s (.slice none 0 0), rfl, ?_⟩
    rw [if_neg (by assumption)]; exact Out.nil (Grows.refl _)
  · refine ⟨(i + 1, x2), by dsimp only; rw [List.length_drop]; omega, ⟨rfl, rfl, rfl, rfl, trivial⟩, ?_, by dsimp only; rw [List.length_drop]; omega⟩
    have e : (LL.drop 1).take (i + 1) = (LL.drop 1).take i ++ [nth LL ((1 + i : Nat) : Int)] := by
      rw [take_snoc (by rw [List.length_drop]; omega), nth_drop 1 hi2]
    rw [e, List.foldl_append]
    exact Out.trans ho.g o2
  · refine ⟨out, rfl, ?_⟩
    rw [if_neg (by simp)]
    have e : (LL.drop 1).take i = LL.drop 1 := List.take_of_length_le (by rw [List.length_drop]; omega)
    rw [e] at ho
    have hne : ¬ LL = [] := fun e => by subst e; simp at hlen; simp_all
    cases LL with
    | nil => exact absurd rfl hne
    | cons L r => exact ho
end Go.Proofs.Ytpmoellbfgcefaa.AS
end
section
set_option autoImplicit false
set_option maxRecDepth 100000
set_option maxHeartbeats 4000000
set_option linter.unusedSimpArgs false
set_option linter.unusedVariables false
namespace Go.Proofs.Ytpmoellbfgcefaa.AS
open Go Go.Proofs Go.RowKit

theorem chunk_FR {α : Type} {E : Enc α} {L : List α} (h : Heap) (a : AV) (m : Int) (r : Row E h a L) (hm : 1 ≤ m) :
    FR Try.prog TT 50 [a, .s (.int .i64 m)] h fun x H => ∃ b1 b2, x = .fn (.func 68) [] [.pt b1 0 0, .pt b2 0 0] ∧ h.length ≤ b1 ∧ h.length ≤ b2 ∧ b1 ≠ b2 ∧ Grows h H ∧ Obj H b1 [a] ∧ Obj H b2 [.s (.int .i64 m)] := by
  refine FR.of p50 (by kernel_rfl) ?_
  unfold c50
  repeat' (first
    | (refine WO.box (C := [a]) r.cellsOf (fun b1 H1 hb1 g1 o1 => ?_))
    | (refine WO.box (C := [_]) rfl (fun b2 H2 hb2 g2 o2 => ?_); have o1 := o1.grows g2)
    | (refine WO.mkfn rfl rfl ?_)
    | (refine EQ.fin rfl ?_)
    | (refine WO.mvs rfl ?_)
    | (refine WO.mvp rfl ?_)
    | (refine WO.mvt rfl ?_)
    | (refine WO.mv ?_)
    | (refine W.sreg ?_)
    | (refine W.sdraw ?_)
    | (refine W.reg ?_)
    | (refine W.draw ?_)
    | (refine WO.nil ?_)
    | (refine WO.gU rfl ?_)
    | (refine WO.gT rfl rfl ?_)
    | (refine WO.gF rfl rfl ?_)
    | (refine WO.ext rfl rfl ?_)
    | (refine WO.lenR (by assumption) ?_)
    | (refine WO.add rfl rfl (by first | exact wrOK (by simp only [loK, hiK]; omega) | rfl) ?_)
    | (refine WO.sub rfl rfl (by first | exact wrOK (by simp only [loK, hiK]; omega) | rfl) ?_)
    | (refine WO.lss rfl rfl ?_)
    | (refine WO.leq rfl rfl ?_)
    | (refine WO.gtr rfl rfl ?_)
    | (refine WO.geq rfl rfl ?_)
    | (refine WO.eql rfl rfl ?_)
    | (refine WO.neq rfl rfl ?_)
    | (refine WO.seql rfl rfl ?_)
    | (refine WO.sneq rfl rfl ?_)
    | (refine WO.beql rfl rfl (tb rfl) ?_)
    | (refine WO.bneq rfl rfl (tb rfl) ?_)
    | (refine WO.not rfl ?_)
    | (refine WO.not0 rfl ?_)
    | (refine WO.cvi rfl (kd rfl) (kd rfl) (by first | exact wrOK (by simp only [loK, hiK]; omega) | rfl) ?_)
    | (refine WO.cvs rfl (st rfl) (st rfl) ?_)
    | (refine WO.ix rfl rfl (st rfl) (by first | assumption | omega) (by first | assumption | omega) ?_)
    | (refine WO.slen rfl (st rfl) ?_)
    | (refine WO.iaddr (by assumption) rfl rfl (by first | assumption | omega) (by first | assumption | omega) (fun q hq => ?_))
    | (refine WO.load (by assumption) rfl rfl ?_)
    | (refine WO.loadO rfl (by assumption) rfl rfl ?_)
    | (refine WO.faddrP (by assumption) rfl (fun q hq => ?_))
    | (refine WO.nilckP (by assumption) ?_)
    | (refine WO.nilck rfl ?_)
    | (refine WO.faddr rfl ?_)
    | (refine WO.fld rfl rfl rfl ?_)
    | (refine WO.pickT rfl ?_)
    | (refine WO.pickF rfl ?_)
    | (refine WO.sll rfl rfl (st rfl) (by first | assumption | omega) (by first | assumption | omega) ?_)
    | (refine WO.slh rfl rfl (st rfl) (by first | assumption | omega) (by first | assumption | omega) ?_)
    | (refine WO.slb rfl rfl rfl (st rfl) (by first | assumption | omega) (by first | assumption | omega) (by first | assumption | omega) ?_)
    | (refine WO.mul rfl rfl (by first | exact wrOK (by simp only [loK, hiK]; omega) | rfl) ?_)
    | (refine WO.quo rfl rfl (by first | assumption | omega) (by first | exact wrOK (by simp only [loK, hiK]; omega) | rfl) ?_)
    | (refine WO.rem rfl rfl (by first | assumption | omega) ?_)
    | (refine WO.and rfl rfl ?_)
    | (refine WO.or rfl rfl ?_)
    | (refine WO.xor rfl rfl ?_)
    | (refine WO.shl rfl rfl (by first | assumption | omega) (by simp [IntKind.bits]; rfl) ?_)
    | (refine WO.shr rfl rfl (by first | assumption | omega) (by simp [IntKind.bits]; rfl) ?_)
    | (refine WO.build (C := [_]) rfl ?_)
    | (refine WO.build (C := [_, _]) rfl ?_)
    | (refine WO.build (C := [_, _, _]) rfl ?_)
    | (refine WO.build (C := [_, _, _, _]) rfl ?_)
    | (refine WO.build (C := [_, _, _, _, _]) rfl ?_)
    | (refine WO.build (C := [_, _, _, _, _, _]) rfl ?_)
    | (refine WO.build (C := [_, _, _, _, _, _, _]) rfl ?_)
    | (refine WO.eqnil (by assumption) (fun hn1 hn2 => ?_) ?_)
    | (refine W.condT rfl ?_)
    | (refine W.condF rfl ?_)
    | (refine W.condDT rfl (by first | assumption | omega) ?_)
    | (refine W.condDF rfl (by first | assumption | omega) ?_)
    | (refine W.condD rfl (fun hc => ?_) (fun hc => ?_))
    | (refine WO.gS rfl (fun hc => ?_) (fun hc => ?_) <;> try (exfalso; omega))
    | (refine WO.pickS rfl (fun hc => ?_) (fun hc => ?_) <;> try (exfalso; omega))
    | (refine W.skip ?_)
    | (refine W.block ?_)
    | (refine W.drawA rfl ?_)
    | (refine W.sdrawA rfl ?_)
    | (refine And.intro rfl ?_)
    | (refine W.exit ?_)
    | (refine W.ret ?_)
    | (refine W.seq ?_)
    | (refine W.goto ?_)
    | (refine W.label ?_)
    | (refine SQ.nn ?_)
    | (refine SQ.x ?_)
    | (refine SQ.r ?_)
    | (refine SQ.g ?_)
    | (refine BQ.nn ?_)
    | (refine BQ.x ?_)
    | (refine BQ.r ?_)
    | (refine BQ.g ?_)
    | (refine BQ.y rfl ?_)
    | (refine LQ.x ?_)
    | (refine LQ.r ?_)
    | (refine LQ.g ?_)
    | (refine GQ.nn ?_)
    | (refine GQ.x ?_)
    | (refine GQ.r ?_))
  · have := o1.lt
    have l1 := g1.len
    exact ⟨b1, b2, rfl, hb1, by omega, by rename_i o0; have := o0.lt; omega, g1.trans g2, o1, o2⟩
end Go.Proofs.Ytpmoellbfgcefaa.AS
end
