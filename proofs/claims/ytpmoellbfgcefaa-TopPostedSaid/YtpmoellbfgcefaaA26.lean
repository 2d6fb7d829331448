/- Of our own: an abstract machine beside the model, its soundness, and walks of the program in it. -/
import Derived.Test.YtpmoellbfgcefaaA25
import Derived.Test.YtpmoellbfgcefaaA11
import Derived.Test.YtpmoellbfgcefaaA8
import Derived.ChangeArms
import Derived.ChangeSame
import Derived.DataReads
import Derived.WideShapes
set_option linter.unusedSimpArgs false
set_option linter.unusedVariables false
section
set_option autoImplicit false
set_option maxRecDepth 100000
set_option maxHeartbeats 4000000
set_option linter.unusedSimpArgs false
set_option linter.unusedVariables false
namespace Go.Proofs.Ytpmoellbfgcefaa.AS
open Go Go.Proofs Go.RowKit Go.Proofs.Ytpmoellbfgcefaa.AS.V

theorem in_FR (h : Heap) (a : AV) (n : Int) (E : List Int) (r : Row (encI .u32) h a E) (hl : E.length ≤ 4611686018427387903) :
    FR Try.prog TT 22 [a, .s (.int .u32 n)] h fun x H => x = .s (.bool (decide (n ∈ E))) ∧ H = h := by
  refine FR.of q22 (by kernel_rfl) ?_
  unfold c22
  repeat' (first
    | (refine W.loopI (σ := Nat) (fun i => [(1, .s (.int .u32 n)), (7, a), (8, .s (.int .i64 E.length)), (9, .s (.int .i64 i))]) (fun i h' => h' = h ∧ i ≤ E.length ∧ n ∉ E.take i) (fun i => E.length - i) 0 ⟨rfl, rfl, rfl, rfl, trivial⟩ ⟨rfl, Nat.zero_le _, by simp⟩ ?_; rintro i G h' ⟨rfl, hi, hm⟩)
    | (refine LQ.nn ⟨i + 1, by omega, ⟨rfl, rfl, rfl, rfl, trivial⟩, rfl, by omega, ?_⟩)
    | (refine EQ.r rfl ⟨?_, rfl⟩)
    | (refine WO.mvs rfl ?_)
    | (refine WO.mvp rfl ?_)
    | (refine WO.mvt rfl ?_)
    | (refine WO.mv ?_)
    | (refine W.sreg ?_)
    | (refine W.sdraw ?_)
    | (refine W.reg ?_)
    | (refine W.draw ?_)
    | (refine WO.nil ?_)
    | (refine WO.gU rfl ?_)
    | (refine WO.gT rfl rfl ?_)
    | (refine WO.gF rfl rfl ?_)
    | (refine WO.ext rfl rfl ?_)
    | (refine WO.lenR (by assumption) ?_)
    | (refine WO.add rfl rfl (by first | exact wrOK (by simp only [loK, hiK]; omega) | rfl) ?_)
    | (refine WO.sub rfl rfl (by first | exact wrOK (by simp only [loK, hiK]; omega) | rfl) ?_)
    | (refine WO.lss rfl rfl ?_)
    | (refine WO.leq rfl rfl ?_)
    | (refine WO.gtr rfl rfl ?_)
    | (refine WO.geq rfl rfl ?_)
    | (refine WO.eql rfl rfl ?_)
    | (refine WO.neq rfl rfl ?_)
    | (refine WO.seql rfl rfl ?_)
    | (refine WO.sneq rfl rfl ?_)
    | (refine WO.beql rfl rfl (tb rfl) ?_)
    | (refine WO.bneq rfl rfl (tb rfl) ?_)
    | (refine WO.not rfl ?_)
    | (refine WO.not0 rfl ?_)
    | (refine WO.cvi rfl (kd rfl) (kd rfl) (by first | exact wrOK (by simp only [loK, hiK]; omega) | rfl) ?_)
    | (refine WO.cvs rfl (st rfl) (st rfl) ?_)
    | (refine WO.ix rfl rfl (st rfl) (by first | assumption | omega) (by first | assumption | omega) ?_)
    | (refine WO.slen rfl (st rfl) ?_)
    | (refine WO.iaddr (by assumption) rfl rfl (by first | assumption | omega) (by first | assumption | omega) (fun q hq => ?_))
    | (refine WO.load (by assumption) rfl rfl ?_)
    | (refine WO.loadO rfl (by assumption) rfl rfl ?_)
    | (refine WO.faddrP (by assumption) rfl (fun q hq => ?_))
    | (refine WO.nilckP (by assumption) ?_)
    | (refine WO.nilck rfl ?_)
    | (refine WO.faddr rfl ?_)
    | (refine WO.fld rfl rfl rfl ?_)
    | (refine WO.pickT rfl ?_)
    | (refine WO.pickF rfl ?_)
    | (refine WO.sll rfl rfl (st rfl) (by first | assumption | omega) (by first | assumption | omega) ?_)
    | (refine WO.slh rfl rfl (st rfl) (by first | assumption | omega) (by first | assumption | omega) ?_)
    | (refine WO.slb rfl rfl rfl (st rfl) (by first | assumption | omega) (by first | assumption | omega) (by first | assumption | omega) ?_)
    | (refine WO.mul rfl rfl (by first | exact wrOK (by simp only [loK, hiK]; omega) | rfl) ?_)
    | (refine WO.quo rfl rfl (by first | assumption | omega) (by first | exact wrOK (by simp only [loK, hiK]; omega) | rfl) ?_)
    | (refine WO.rem rfl rfl (by first | assumption | omega) ?_)
    | (refine WO.and rfl rfl ?_)
    | (refine WO.or rfl rfl ?_)
    | (refine WO.xor rfl rfl ?_)
    | (refine WO.shl rfl rfl (by first | assumption | omega) (by simp [IntKind.bits]; rfl) ?_)
    | (refine WO.shr rfl rfl (by first | assumption | omega) (by simp [IntKind.bits]; rfl) ?_)
    | (refine WO.build (C := [_]) rfl ?_)
    | (refine WO.build (C := [_, _]) rfl ?_)
    | (refine WO.build (C := [_, _, _]) rfl ?_)
    | (refine WO.build (C := [_, _, _, _]) rfl ?_)
    | (refine WO.build (C := [_, _, _, _, _]) rfl ?_)
    | (refine WO.build (C := [_, _, _, _, _, _]) rfl ?_)
    | (refine WO.build (C := [_, _, _, _, _, _, _]) rfl ?_)
    | (refine WO.eqnil (by assumption) (fun hn1 hn2 => ?_) ?_)
    | (refine W.condT rfl ?_)
    | (refine W.condF rfl ?_)
    | (refine W.condDT rfl (by first | assumption | omega) ?_)
    | (refine W.condDF rfl (by first | assumption | omega) ?_)
    | (refine W.condD rfl (fun hc => ?_) (fun hc => ?_))
    | (refine WO.gS rfl (fun hc => ?_) (fun hc => ?_) <;> try (exfalso; omega))
    | (refine WO.pickS rfl (fun hc => ?_) (fun hc => ?_) <;> try (exfalso; omega))
    | (refine W.skip ?_)
    | (refine W.block ?_)
    | (refine W.drawA rfl ?_)
    | (refine W.sdrawA rfl ?_)
    | (refine And.intro rfl ?_)
    | (refine W.exit ?_)
    | (refine W.ret ?_)
    | (refine W.seq ?_)
    | (refine W.goto ?_)
    | (refine W.label ?_)
    | (refine SQ.nn ?_)
    | (refine SQ.x ?_)
    | (refine SQ.r ?_)
    | (refine SQ.g ?_)
    | (refine BQ.nn ?_)
    | (refine BQ.x ?_)
    | (refine BQ.r ?_)
    | (refine BQ.g ?_)
    | (refine BQ.y rfl ?_)
    | (refine LQ.x ?_)
    | (refine LQ.r ?_)
    | (refine LQ.g ?_)
    | (refine GQ.nn ?_)
    | (refine GQ.x ?_)
    | (refine GQ.r ?_))
  · exact congrArg (fun b => AV.s (.bool b)) (decide_eq_true (hc ▸ nth_mem (by omega) (by omega))).symm
  · rw [take_snoc (by omega)]; simp only [List.mem_append, List.mem_singleton, not_or]; exact ⟨hm, fun e => hc e.symm⟩
  · rw [List.take_of_length_le (by omega)] at hm
    exact congrArg (fun b => AV.s (.bool b)) (decide_eq_false hm).symm
theorem okW_pw : ∀ {L : List Int}, okW L = true → L.Pairwise (· < ·)
  | [], _ => List.Pairwise.nil
  | [x], _ => List.pairwise_singleton _ _
  | x :: y :: l, h => by
    simp only [okW, Bool.and_eq_true, decide_eq_true_eq] at h
    have ih := okW_pw h.2
    refine List.pairwise_cons.2 ⟨fun z hz => ?_, ih⟩
    rcases List.mem_cons.1 hz with rfl | hz
    · exact h.1
    · have := (List.pairwise_cons.1 ih).1 z hz; omega
theorem chkS_ok {L : List Int} (h : chkS L = 0) : L.Pairwise (· < ·) ∧ L.length ≤ 65536 := by
  unfold chkS at h
  split at h
  · simp at h
  · rename_i h1
    split at h
    · simp at h
    · exact ⟨okW_pw (by simpa using h1), by omega⟩
theorem checkedS_ok : ∀ {LL : List (List Int)}, checkedS LL = 0 → ∀ L ∈ LL, chkS L = 0
  | [], _, L, h => by cases h
  | M :: LL, h, L, hL => by
    simp only [checkedS] at h
    split at h
    · rename_i h1; exact absurd h h1
    · rename_i h1
      rcases List.mem_cons.1 hL with rfl | hL
      · omega
      · exact checkedS_ok h L hL
/-- Two rows as a row of rows. -/
theorem rows2_two {h : Heap} {e : TypeId} {a x y : AV} {A B : List Int} (o : Own encA e h a [x, y]) (rx : Row (encI .u32) h x A) (ry : Row (encI .u32) h y B) : Rows2 h a [A, B] :=
  ⟨⟨[x, y], o.row, rfl, fun i hi => by
    match i, hi with
    | 0, _ => exact rx
    | 1, _ => exact ry⟩⟩
def bothX (A B : List Int) : List Int := if B.length < A.length then bothS B A else bothS A B
theorem bothX_pw {A B : List Int} (ha : A.Pairwise (· < ·)) (hb : B.Pairwise (· < ·)) : (bothX A B).Pairwise (· < ·) ∧ (bothX A B).length ≤ A.length := by
  unfold bothX
  split
  · refine ⟨hb.filter _, ?_⟩
    have := List.length_filter_le (fun x => decide (x ∈ A)) B
    unfold bothS; omega
  · exact ⟨ha.filter _, List.length_filter_le _ _⟩
theorem bothX_mem {A B : List Int} (x : Int) : x ∈ bothX A B ↔ x ∈ A ∧ x ∈ B := by
  unfold bothX bothS
  split <;> simp [and_comm]
def andS : List (List Int) → List Int
  | [] => []
  | L :: r => r.foldl bothX L
theorem Out.trans {α : Type} {E : Enc α} {e : TypeId} {h0 h h1 : Heap} {a : AV} {L : List α} (g : Grows h0 h) (o : Out E e h h1 a L) : Out E e h0 h1 a L := ⟨g.trans o.g, o.o, o.nw.mono g.len⟩
theorem nth_drop {α : Type} [Inhabited α] {L : List α} {i : Nat} (k : Nat) (h : k + i < L.length) : nth (L.drop k) i = nth L ((k + i : Nat) : Int) := by
  rw [nth_eq (by rw [Int.toNat_natCast, List.length_drop]; omega), nth_eq (by rw [Int.toNat_natCast]; exact h)]
  simp only [Int.toNat_natCast, List.getElem_drop]
theorem foldX_ok : ∀ (M : List (List Int)) (L : List Int), L.Pairwise (· < ·) → (∀ K ∈ M, K.Pairwise (· < ·)) → (M.foldl bothX L).Pairwise (· < ·) ∧ (M.foldl bothX L).length ≤ L.length
  | [], L, h, _ => ⟨h, Nat.le_refl _⟩
  | K :: M, L, h, hM => by
    have h1 := bothX_pw h (hM K (by simp))
    have := foldX_ok M (bothX L K) h1.1 (fun K hK => hM K (by simp [hK]))
    exact ⟨this.1, by rw [List.foldl_cons]; omega⟩
theorem and_FR (h : Heap) (a : AV) (LL : List (List Int)) (r : Rows2 h a LL) (hl : ∀ L ∈ LL, L.length ≤ 1099511627776) (hn : LL.length ≤ 1099511627776) :
    FR Try.prog TT 12 [a] h fun x H => ∃ c, x = .tp [c, .s (.int .i64 (checkedS LL))] ∧ Out (encI .u32) 32 h H c (if checkedS LL ≠ 0 then [] else andS LL) := by
  have hk := checked_FR h a LL r (fun L hL => by have := hl L hL; omega) (by omega)
  have hok : checkedS LL = 0 → ∀ L ∈ LL, L.Pairwise (· < ·) := fun h L hL => (chkS_ok (checkedS_ok h L hL)).1
  obtain ⟨az, ra, hlen, hr⟩ := r.x
  generalize checkedS LL = why at *
  refine FR.of q12 (by kernel_rfl) ?_
  unfold c12
  repeat' (first
    | (refine WO.call rfl hk ?_; rintro _ H ⟨rfl, hH⟩; obtain rfl := hH.symm)
    | (refine WO.call rfl (clone_FR _ _ _ (hr 0 (by omega)) (hl _ (nth_mem (by omega) (by omega)))) ?_; rintro x1 H1 o1)
    | (refine WO.slc ra rfl rfl (by omega) (by omega) (fun a' ra' _ => ?_))
    | (obtain rfl : why = 0 := (by omega); have hp := hok rfl; refine W.loopI (σ := Nat × AV) (fun s => [(5, s.2), (23, a'), (24, .s (.int .i64 (az.drop 1).length)), (25, .s (.int .i64 s.1))]) (fun s hh => Out (encI .u32) 32 h hh s.2 (((LL.drop 1).take s.1).foldl bothX (nth LL 0)) ∧ s.1 ≤ (LL.drop 1).length) (fun s => (LL.drop 1).length - s.1) (0, x1) ⟨rfl, rfl, rfl, rfl, trivial⟩ ⟨o1, Nat.zero_le _⟩ ?_; rintro ⟨i, out⟩ G hh ⟨ho, hi⟩; dsimp only at ho hi ⊢; have raj := ho.old ra'; rw [List.length_drop] at hi; have hdl : (az.drop 1).length = az.length - 1 := List.length_drop)
    | (have hi2 : 1 + i < LL.length := (by omega); have hnd := nth_drop (L := az) 1 (i := i) (by omega); have hp0 := hp _ (nth_mem (L := LL) (i := 0) (by omega) (by omega)); have hp1 := hp _ (nth_mem (L := LL) (i := ((1 + i : Nat) : Int)) (by omega) (by omega)); have hl0 := hl _ (nth_mem (L := LL) (i := 0) (by omega) (by omega)); have hl1 := hl _ (nth_mem (L := LL) (i := ((1 + i : Nat) : Int)) (by omega) (by omega)); have hfx := foldX_ok ((LL.drop 1).take i) _ hp0 (fun K hK => hp K (List.mem_of_mem_drop (List.mem_of_mem_take hK))); refine WO.call (vs := [out, nth az ((1 + i : Nat) : Int)]) (by rw [← hnd]; rfl) (both_FR hh out _ _ (nth LL ((1 + i : Nat) : Int)) ho.row ((hr (1 + i) hi2).grows ho.g) hfx.1 hp1 (by omega) hl1) ?_; rintro x2 H2 o2)
    | (refine LQ.fin ?_)
    | (refine EQ.fin rfl ?_)
    | (refine WO.mvs rfl ?_)
    | (refine WO.mvp rfl ?_)
    | (refine WO.mvt rfl ?_)
    | (refine WO.mv ?_)
    | (refine W.sreg ?_)
    | (refine W.sdraw ?_)
    | (refine W.reg ?_)
    | (refine W.draw ?_)
    | (refine WO.nil ?_)
    | (refine WO.gU rfl ?_)
    | (refine WO.gT rfl rfl ?_)
    | (refine WO.gF rfl rfl ?_)
    | (refine WO.ext rfl rfl ?_)
    | (refine WO.lenR (by assumption) ?_)
    | (refine WO.add rfl rfl (by first | exact wrOK (by simp only [loK, hiK]; omega) | rfl) ?_)
    | (refine WO.sub rfl rfl (by first | exact wrOK (by simp only [loK, hiK]; omega) | rfl) ?_)
    | (refine WO.lss rfl rfl ?_)
    | (refine WO.leq rfl rfl ?_)
    | (refine WO.gtr rfl rfl ?_)
    | (refine WO.geq rfl rfl ?_)
    | (refine WO.eql rfl rfl ?_)
    | (refine WO.neq rfl rfl ?_)
    | (refine WO.seql rfl rfl ?_)
    | (refine WO.sneq rfl rfl ?_)
    | (refine WO.beql rfl rfl (tb rfl) ?_)
    | (refine WO.bneq rfl rfl (tb rfl) ?_)
    | (refine WO.not rfl ?_)
    | (refine WO.not0 rfl ?_)
    | (refine WO.cvi rfl (kd rfl) (kd rfl) (by first | exact wrOK (by simp only [loK, hiK]; omega) | rfl) ?_)
    | (refine WO.cvs rfl (st rfl) (st rfl) ?_)
    | (refine WO.ix rfl rfl (st rfl) (by first | assumption | omega) (by first | assumption | omega) ?_)
    | (refine WO.slen rfl (st rfl) ?_)
    | (refine WO.iaddr (by assumption) rfl rfl (by first | assumption | omega) (by first | assumption | omega) (fun q hq => ?_))
    | (refine WO.load (by assumption) rfl rfl ?_)
    | (refine WO.loadO rfl (by assumption) rfl rfl ?_)
    | (refine WO.faddrP (by assumption) rfl (fun q hq => ?_))
    | (refine WO.nilckP (by assumption) ?_)
    | (refine WO.nilck rfl ?_)
    | (refine WO.faddr rfl ?_)
    | (refine WO.fld rfl rfl rfl ?_)
    | (refine WO.pickT rfl ?_)
    | (refine WO.pickF rfl ?_)
    | (refine WO.sll rfl rfl (st rfl) (by first | assumption | omega) (by first | assumption | omega) ?_)
    | (refine WO.slh rfl rfl (st rfl) (by first | assumption | omega) (by first | assumption | omega) ?_)
    | (refine WO.slb rfl rfl rfl (st rfl) (by first | assumption | omega) (by first | assumption | omega) (by first | assumption | omega) ?_)
    | (refine WO.mul rfl rfl (by first | exact wrOK (by simp only [loK, hiK]; omega) | rfl) ?_)
    | (refine WO.quo rfl rfl (by first | assumption | omega) (by first | exact wrOK (by simp only [loK, hiK]; omega) | rfl) ?_)
    | (refine WO.rem rfl rfl (by first | assumption | omega) ?_)
    | (refine WO.and rfl rfl ?_)
    | (refine WO.or rfl rfl ?_)
    | (refine WO.xor rfl rfl ?_)
    | (refine WO.shl rfl rfl (by first | assumption | omega) (by simp [IntKind.bits]; rfl) ?_)
    | (refine WO.shr rfl rfl (by first | assumption | omega) (by simp [IntKind.bits]; rfl) ?_)
    | (refine WO.build (C := [_]) rfl ?_)
    | (refine WO.build (C := [_, _]) rfl ?_)
    | (refine WO.build (C := [_, _, _]) rfl ?_)
    | (refine WO.build (C := [_, _, _, _]) rfl ?_)
    | (refine WO.build (C := [_, _, _, _, _]) rfl ?_)
    | (refine WO.build (C := [_, _, _, _, _, _]) rfl ?_)
    | (refine WO.build (C := [_, _, _, _, _, _, _]) rfl ?_)
    | (refine WO.eqnil (by assumption) (fun hn1 hn2 => ?_) ?_)
    | (refine W.condT rfl ?_)
    | (refine W.condF rfl ?_)
    | (refine W.condDT rfl (by first | assumption | omega) ?_)
    | (refine W.condDF rfl (by first | assumption | omega) ?_)
    | (refine W.condD rfl (fun hc => ?_) (fun hc => ?_))
    | (refine WO.gS rfl (fun hc => ?_) (fun hc => ?_) <;> try (exfalso; omega))
    | (refine WO.pickS rfl (fun hc => ?_) (fun hc => ?_) <;> try (exfalso; omega))
    | (refine W.skip ?_)
    | (refine W.block ?_)
    | (refine W.drawA rfl ?_)
    | (refine W.sdrawA rfl ?_)
    | (refine And.intro rfl ?_)
    | (refine W.exit ?_)
    | (refine W.ret ?_)
    | (refine W.seq ?_)
    | (refine W.goto ?_)
    | (refine W.label ?_)
    | (refine SQ.nn ?_)
    | (refine SQ.x ?_)
    | (refine SQ.r ?_)
    | (refine SQ.g ?_)
    | (refine BQ.nn ?_)
    | (refine BQ.x ?_)
    | (refine BQ.r ?_)
    | (refine BQ.g ?_)
    | (refine BQ.y rfl ?_)
    | (refine LQ.x ?_)
    | (refine LQ.r ?_)
    | (refine LQ.g ?_)
    | (refine GQ.nn ?_)
    | (refine GQ.x ?_)
    | (refine GQ.r ?_))
  · exact ⟨.s (.slice none 0 0), rfl, by rw [if_pos hc]; exact Out.nil (Grows.refl _)⟩
  · obtain rfl : LL = [] := List.length_eq_zero_iff.1 (by omega)
    refine ⟨.s (.slice none 0 0), rfl, ?_⟩
    rw [if_neg (by assumption)]; exact Out.nil (Grows.refl _)
  · refine ⟨(i + 1, x2), by dsimp only; rw [List.length_drop]; omega, ⟨rfl, rfl, rfl, rfl, trivial⟩, ?_, by dsimp only; rw [List.length_drop]; omega⟩
    have e : (LL.drop 1).take (i + 1) = (LL.drop 1).take i ++ [nth LL ((1 + i : Nat) : Int)] := by
      rw [take_snoc (by rw [List.length_drop]; omega), nth_drop 1 hi2]
    rw [e, List.foldl_append]
    exact Out.trans ho.g o2
  · refine ⟨out, rfl, ?_⟩
    rw [if_neg (by simp)]
    have e : (LL.drop 1).take i = LL.drop 1 := List.take_of_length_le (by rw [List.length_drop]; omega)
    rw [e] at ho
    have hne : ¬ LL = [] := fun e => by subst e; simp at hlen; simp_all
    cases LL with
    | nil => exact absurd rfl hne
    | cons L r => exact ho
theorem cellW_flat : ∀ (L : List Int), (L.flatMap fun n => [AV.s (.int .u32 n)]) = L.map cellW
  | [] => rfl
  | x :: L => by rw [List.flatMap_cons, cellW_flat L]; rfl
theorem rowWOf_Row {h : Heap} {a : AV} {L : List Int} (r : Row (encI .u32) h a L) : rowWOf h a = some L := by
  rcases r with ⟨rfl, rfl⟩ | ⟨b, v, o, ⟨v', e', s', rw', c'⟩, rfl, r2, r3, r4, r5⟩
  · rfl
  · simp only [encI, Nat.mul_one] at r3 r4 r5
    simp only [rowWOf, encI]
    rw [r2, rdK_s, if_pos ⟨r3, r4⟩, r5]
    show intsWA (L.flatMap fun n => [AV.s (.int .u32 n)]) = _
    rw [cellW_flat, intsWA_W]
theorem Row_rowW (h : Heap) (K : List Int) : Out (encI .u32) 32 h (rowWH h K) (rowW h.length K) K := by
  unfold rowWH rowW
  split
  · rename_i e; subst e; exact Out.nil (Grows.refl _)
  · refine ⟨Grows.app _ _, .inr ⟨h.length, 0, 0, _, rfl, bk_new, rfl, ?_, ?_, rfl, rfl, rfl⟩, fun c hc => by simp [bo] at hc; omega⟩
    · simp [encI]
    · simp only [encI, Nat.mul_one, List.drop_zero, cellW_flat]
      rw [List.take_of_length_le (by simp)]
theorem unpack_FR (h : Heap) (s : ByteArray) (hs : s.size ≤ 9223372036854775807) :
    FR Try.prog TT 42 [.s (.string s)] h fun x H => ∃ a, x = .tp [a, .s (.string (unpackS s).2.1), .s (.int .i64 (unpackS s).2.2)] ∧ Out (encI .u32) 32 h H a (unpackS s).1 :=
  FR.run (FRun.hook TQ_42 (by simp only [hkUnpack]; rw [if_pos hs])) ⟨_, rfl, Row_rowW h _⟩
theorem asc_pw : ∀ {L : List Int} {b : Int}, asc b L → L.Pairwise (· < ·) ∧ ∀ x ∈ L, b ≤ x
  | [], _, _ => ⟨List.Pairwise.nil, fun _ h => by cases h⟩
  | x :: l, b, h => by
    obtain ⟨h1, h2, h3⟩ := h
    obtain ⟨i1, i2⟩ := asc_pw h3
    exact ⟨List.pairwise_cons.2 ⟨fun y hy => by have := i2 y hy; omega, i1⟩, fun y hy => by
      rcases List.mem_cons.1 hy with rfl | hy
      · exact h1
      · have := i2 y hy; omega⟩
theorem unpack_asc (s : ByteArray) : (unpackS s).1.Pairwise (· < ·) ∧ (unpackS s).1.length ≤ 65536 := by
  by_cases hw : (unpackS s).2.2 = 0
  · obtain ⟨_, h2, h3, _⟩ := pack_unpack hw
    exact ⟨(asc_pw h2).1, h3⟩
  · rw [(unpack_err hw).1]; exact ⟨List.Pairwise.nil, by simp⟩
theorem has_FR (h : Heap) (s : ByteArray) (n : Int) (hs : s.size ≤ 9223372036854775807) :
    FR Try.prog TT 44 [.s (.string s), .s (.int .u32 n)] h fun x H => x = .tp [.s (.bool (decide (n ∈ (unpackS s).1))), .s (.int .i64 (unpackS s).2.2)] ∧ Grows h H := by
  refine FR.of q44 (by kernel_rfl) ?_
  unfold c44
  repeat' (first
    | (refine WO.call rfl (unpack_FR _ s hs) ?_; rintro _ H1 ⟨a, rfl, ho⟩)
    | (refine WO.call rfl (bs_FR _ a _ _ ho.row (unpack_asc s).1 (by have := (unpack_asc s).2; omega)) ?_; rintro _ H2 ⟨rfl, i, rfl, _, _, _⟩)
    | (refine EQ.r rfl ⟨rfl, ho.g⟩)
    | (refine WO.mvs rfl ?_)
    | (refine WO.mvp rfl ?_)
    | (refine WO.mvt rfl ?_)
    | (refine WO.mv ?_)
    | (refine W.sreg ?_)
    | (refine W.sdraw ?_)
    | (refine W.reg ?_)
    | (refine W.draw ?_)
    | (refine WO.nil ?_)
    | (refine WO.gU rfl ?_)
    | (refine WO.gT rfl rfl ?_)
    | (refine WO.gF rfl rfl ?_)
    | (refine WO.ext rfl rfl ?_)
    | (refine WO.lenR (by assumption) ?_)
    | (refine WO.add rfl rfl (by first | exact wrOK (by simp only [loK, hiK]; omega) | rfl) ?_)
    | (refine WO.sub rfl rfl (by first | exact wrOK (by simp only [loK, hiK]; omega) | rfl) ?_)
    | (refine WO.lss rfl rfl ?_)
    | (refine WO.leq rfl rfl ?_)
    | (refine WO.gtr rfl rfl ?_)
    | (refine WO.geq rfl rfl ?_)
    | (refine WO.eql rfl rfl ?_)
    | (refine WO.neq rfl rfl ?_)
    | (refine WO.seql rfl rfl ?_)
    | (refine WO.sneq rfl rfl ?_)
    | (refine WO.beql rfl rfl (tb rfl) ?_)
    | (refine WO.bneq rfl rfl (tb rfl) ?_)
    | (refine WO.not rfl ?_)
    | (refine WO.not0 rfl ?_)
    | (refine WO.cvi rfl (kd rfl) (kd rfl) (by first | exact wrOK (by simp only [loK, hiK]; omega) | rfl) ?_)
    | (refine WO.cvs rfl (st rfl) (st rfl) ?_)
    | (refine WO.ix rfl rfl (st rfl) (by first | assumption | omega) (by first | assumption | omega) ?_)
    | (refine WO.slen rfl (st rfl) ?_)
    | (refine WO.iaddr (by assumption) rfl rfl (by first | assumption | omega) (by first | assumption | omega) (fun q hq => ?_))
    | (refine WO.load (by assumption) rfl rfl ?_)
    | (refine WO.loadO rfl (by assumption) rfl rfl ?_)
    | (refine WO.faddrP (by assumption) rfl (fun q hq => ?_))
    | (refine WO.nilckP (by assumption) ?_)
    | (refine WO.nilck rfl ?_)
    | (refine WO.faddr rfl ?_)
    | (refine WO.fld rfl rfl rfl ?_)
    | (refine WO.pickT rfl ?_)
    | (refine WO.pickF rfl ?_)
    | (refine WO.sll rfl rfl (st rfl) (by first | assumption | omega) (by first | assumption | omega) ?_)
    | (refine WO.slh rfl rfl (st rfl) (by first | assumption | omega) (by first | assumption | omega) ?_)
    | (refine WO.slb rfl rfl rfl (st rfl) (by first | assumption | omega) (by first | assumption | omega) (by first | assumption | omega) ?_)
    | (refine WO.mul rfl rfl (by first | exact wrOK (by simp only [loK, hiK]; omega) | rfl) ?_)
    | (refine WO.quo rfl rfl (by first | assumption | omega) (by first | exact wrOK (by simp only [loK, hiK]; omega) | rfl) ?_)
    | (refine WO.rem rfl rfl (by first | assumption | omega) ?_)
    | (refine WO.and rfl rfl ?_)
    | (refine WO.or rfl rfl ?_)
    | (refine WO.xor rfl rfl ?_)
    | (refine WO.shl rfl rfl (by first | assumption | omega) (by simp [IntKind.bits]; rfl) ?_)
    | (refine WO.shr rfl rfl (by first | assumption | omega) (by simp [IntKind.bits]; rfl) ?_)
    | (refine WO.build (C := [_]) rfl ?_)
    | (refine WO.build (C := [_, _]) rfl ?_)
    | (refine WO.build (C := [_, _, _]) rfl ?_)
    | (refine WO.build (C := [_, _, _, _]) rfl ?_)
    | (refine WO.build (C := [_, _, _, _, _]) rfl ?_)
    | (refine WO.build (C := [_, _, _, _, _, _]) rfl ?_)
    | (refine WO.build (C := [_, _, _, _, _, _, _]) rfl ?_)
    | (refine WO.eqnil (by assumption) (fun hn1 hn2 => ?_) ?_)
    | (refine W.condT rfl ?_)
    | (refine W.condF rfl ?_)
    | (refine W.condDT rfl (by first | assumption | omega) ?_)
    | (refine W.condDF rfl (by first | assumption | omega) ?_)
    | (refine W.condD rfl (fun hc => ?_) (fun hc => ?_))
    | (refine WO.gS rfl (fun hc => ?_) (fun hc => ?_) <;> try (exfalso; omega))
    | (refine WO.pickS rfl (fun hc => ?_) (fun hc => ?_) <;> try (exfalso; omega))
    | (refine W.skip ?_)
    | (refine W.block ?_)
    | (refine W.drawA rfl ?_)
    | (refine W.sdrawA rfl ?_)
    | (refine And.intro rfl ?_)
    | (refine W.exit ?_)
    | (refine W.ret ?_)
    | (refine W.seq ?_)
    | (refine W.goto ?_)
    | (refine W.label ?_)
    | (refine SQ.nn ?_)
    | (refine SQ.x ?_)
    | (refine SQ.r ?_)
    | (refine SQ.g ?_)
    | (refine BQ.nn ?_)
    | (refine BQ.x ?_)
    | (refine BQ.r ?_)
    | (refine BQ.g ?_)
    | (refine BQ.y rfl ?_)
    | (refine LQ.x ?_)
    | (refine LQ.r ?_)
    | (refine LQ.g ?_)
    | (refine GQ.nn ?_)
    | (refine GQ.x ?_)
    | (refine GQ.r ?_))
end Go.Proofs.Ytpmoellbfgcefaa.AS
end
section
set_option autoImplicit false
set_option maxRecDepth 100000
set_option maxHeartbeats 4000000
set_option linter.unusedSimpArgs false
set_option linter.unusedVariables false
namespace Go.Proofs.Ytpmoellbfgcefaa.AS
open Go Go.Proofs Go.RowKit Go.Proofs.Ytpmoellbfgcefaa.AS.V

theorem same_FR (h : Heap) (a b : AV) (A B : List Int) (ra : Row (encI .u32) h a A) (rb : Row (encI .u32) h b B) (hla : A.length ≤ 4611686018427387903) (hlb : B.length ≤ 4611686018427387903) :
    FR Try.prog TT 39 [a, b] h fun x H => x = .s (.bool (decide (A = B))) ∧ H = h := by
  refine FR.of q39 (by kernel_rfl) ?_
  unfold c39
  repeat' (first
    | (refine W.loopI (σ := Nat) (fun i => [(0, a), (1, b), (12, .s (.int .i64 A.length)), (13, .s (.int .i64 i))]) (fun i h' => h' = h ∧ i ≤ A.length ∧ A.length = B.length ∧ A.take i = B.take i) (fun i => A.length - i) 0 ⟨rfl, rfl, rfl, rfl, trivial⟩ ⟨rfl, Nat.zero_le _, by omega, rfl⟩ ?_; rintro i G h' ⟨rfl, hi, hab, hm⟩)
    | (refine LQ.fin ?_)
    | (refine EQ.fin rfl ?_)
    | (refine WO.mvs rfl ?_)
    | (refine WO.mvp rfl ?_)
    | (refine WO.mvt rfl ?_)
    | (refine WO.mv ?_)
    | (refine W.sreg ?_)
    | (refine W.sdraw ?_)
    | (refine W.reg ?_)
    | (refine W.draw ?_)
    | (refine WO.nil ?_)
    | (refine WO.gU rfl ?_)
    | (refine WO.gT rfl rfl ?_)
    | (refine WO.gF rfl rfl ?_)
    | (refine WO.ext rfl rfl ?_)
    | (refine WO.lenR (by assumption) ?_)
    | (refine WO.add rfl rfl (by first | exact wrOK (by simp only [loK, hiK]; omega) | rfl) ?_)
    | (refine WO.sub rfl rfl (by first | exact wrOK (by simp only [loK, hiK]; omega) | rfl) ?_)
    | (refine WO.lss rfl rfl ?_)
    | (refine WO.leq rfl rfl ?_)
    | (refine WO.gtr rfl rfl ?_)
    | (refine WO.geq rfl rfl ?_)
    | (refine WO.eql rfl rfl ?_)
    | (refine WO.neq rfl rfl ?_)
    | (refine WO.seql rfl rfl ?_)
    | (refine WO.sneq rfl rfl ?_)
    | (refine WO.beql rfl rfl (tb rfl) ?_)
    | (refine WO.bneq rfl rfl (tb rfl) ?_)
    | (refine WO.not rfl ?_)
    | (refine WO.not0 rfl ?_)
    | (refine WO.cvi rfl (kd rfl) (kd rfl) (by first | exact wrOK (by simp only [loK, hiK]; omega) | rfl) ?_)
    | (refine WO.cvs rfl (st rfl) (st rfl) ?_)
    | (refine WO.ix rfl rfl (st rfl) (by first | assumption | omega) (by first | assumption | omega) ?_)
    | (refine WO.slen rfl (st rfl) ?_)
    | (refine WO.iaddr (by assumption) rfl rfl (by first | assumption | omega) (by first | assumption | omega) (fun q hq => ?_))
    | (refine WO.load (by assumption) rfl rfl ?_)
    | (refine WO.loadO rfl (by assumption) rfl rfl ?_)
    | (refine WO.faddrP (by assumption) rfl (fun q hq => ?_))
    | (refine WO.nilckP (by assumption) ?_)
    | (refine WO.nilck rfl ?_)
    | (refine WO.faddr rfl ?_)
    | (refine WO.fld rfl rfl rfl ?_)
    | (refine WO.pickT rfl ?_)
    | (refine WO.pickF rfl ?_)
    | (refine WO.sll rfl rfl (st rfl) (by first | assumption | omega) (by first | assumption | omega) ?_)
    | (refine WO.slh rfl rfl (st rfl) (by first | assumption | omega) (by first | assumption | omega) ?_)
    | (refine WO.slb rfl rfl rfl (st rfl) (by first | assumption | omega) (by first | assumption | omega) (by first | assumption | omega) ?_)
    | (refine WO.mul rfl rfl (by first | exact wrOK (by simp only [loK, hiK]; omega) | rfl) ?_)
    | (refine WO.quo rfl rfl (by first | assumption | omega) (by first | exact wrOK (by simp only [loK, hiK]; omega) | rfl) ?_)
    | (refine WO.rem rfl rfl (by first | assumption | omega) ?_)
    | (refine WO.and rfl rfl ?_)
    | (refine WO.or rfl rfl ?_)
    | (refine WO.xor rfl rfl ?_)
    | (refine WO.shl rfl rfl (by first | assumption | omega) (by simp [IntKind.bits]; rfl) ?_)
    | (refine WO.shr rfl rfl (by first | assumption | omega) (by simp [IntKind.bits]; rfl) ?_)
    | (refine WO.build (C := [_]) rfl ?_)
    | (refine WO.build (C := [_, _]) rfl ?_)
    | (refine WO.build (C := [_, _, _]) rfl ?_)
    | (refine WO.build (C := [_, _, _, _]) rfl ?_)
    | (refine WO.build (C := [_, _, _, _, _]) rfl ?_)
    | (refine WO.build (C := [_, _, _, _, _, _]) rfl ?_)
    | (refine WO.build (C := [_, _, _, _, _, _, _]) rfl ?_)
    | (refine WO.eqnil (by assumption) (fun hn1 hn2 => ?_) ?_)
    | (refine W.condT rfl ?_)
    | (refine W.condF rfl ?_)
    | (refine W.condDT rfl (by first | assumption | omega) ?_)
    | (refine W.condDF rfl (by first | assumption | omega) ?_)
    | (refine W.condD rfl (fun hc => ?_) (fun hc => ?_))
    | (refine WO.gS rfl (fun hc => ?_) (fun hc => ?_) <;> try (exfalso; omega))
    | (refine WO.pickS rfl (fun hc => ?_) (fun hc => ?_) <;> try (exfalso; omega))
    | (refine W.skip ?_)
    | (refine W.block ?_)
    | (refine W.drawA rfl ?_)
    | (refine W.sdrawA rfl ?_)
    | (refine And.intro rfl ?_)
    | (refine W.exit ?_)
    | (refine W.ret ?_)
    | (refine W.seq ?_)
    | (refine W.goto ?_)
    | (refine W.label ?_)
    | (refine SQ.nn ?_)
    | (refine SQ.x ?_)
    | (refine SQ.r ?_)
    | (refine SQ.g ?_)
    | (refine BQ.nn ?_)
    | (refine BQ.x ?_)
    | (refine BQ.r ?_)
    | (refine BQ.g ?_)
    | (refine BQ.y rfl ?_)
    | (refine LQ.x ?_)
    | (refine LQ.r ?_)
    | (refine LQ.g ?_)
    | (refine GQ.nn ?_)
    | (refine GQ.x ?_)
    | (refine GQ.r ?_))
  · exact ⟨congrArg (fun b => AV.s (.bool b)) (decide_eq_false (fun e => hc (by rw [e]))).symm, rfl⟩
  · refine ⟨congrArg (fun b => AV.s (.bool b)) (decide_eq_false (fun e => hc (by rw [e]))).symm, rfl⟩
  · exact ⟨i + 1, by omega, ⟨rfl, rfl, rfl, rfl, trivial⟩, rfl, by omega, hab, by rw [take_snoc (by omega), take_snoc (by omega), hm, Classical.not_not.1 hc]⟩
  · rw [List.take_of_length_le (by omega), List.take_of_length_le (by omega)] at hm
    exact ⟨congrArg (fun b => AV.s (.bool b)) (decide_eq_true hm).symm, rfl⟩
theorem same_self (h : Heap) (a b : AV) (A : List Int) (ra : Row (encI .u32) h a A) (rb : Row (encI .u32) h b A) (hla : A.length ≤ 4611686018427387903) :
    FR Try.prog TT 39 [a, b] h fun x H => x = .s (.bool true) ∧ H = h := by
  have := same_FR h a b A A ra rb hla hla
  rwa [decide_eq_true rfl] at this
theorem chkS_ok2 {L : List Int} (h : chkS L = 0) : L.Pairwise (· < ·) ∧ L.length ≤ 65536 := chkS_ok h
theorem pack_FR {h : Heap} {a : AV} {L : List Int} (r : Row (encI .u32) h a L) (hl : L.length ≤ 4611686018427387903) : FR Try.prog TT 41 [a] h fun x H => x = .tp [.s (.string (packS L).1), .s (.int .i64 (packS L).2)] ∧ H = h :=
  FR.run (FRun.hook TQ_41 (by simp only [hkPack, rowWOf_Row r]; rw [if_pos hl])) ⟨rfl, rfl⟩
theorem begins_FR (h : Heap) : FR Try.prog TT 34 [] h fun x H => x = .s (.bool true) ∧ H = h := FR.run (FRun.hook TQ_34 rfl) ⟨rfl, rfl⟩
theorem find_FR (h : Heap) (s : ByteArray) (k : Int) (hs : s.size ≤ 9223372036854775807) {E : List (Int × ByteArray)} {d : ByteArray} (hr : readS s = (E, ⟨#[]⟩, 0)) (hf : findF E k = (d, 0)) : FR Try.prog TT 23 [.s (.string s), .s (.int .u64 k)] h fun x H => x = .tp [.s (.string d), .s (.int .i64 0)] ∧ H = h :=
  FR.run (FRun.hook TQ_23 (by simp only [hkFind]; rw [if_pos hs, hr])) ⟨by simp [hf], rfl⟩
def encE : Enc (Int × ByteArray) := ⟨fun e => [.s (.int .u64 e.1), .s (.string e.2)], 2, fun _ => rfl⟩
theorem packF_len : ∀ (m : Nat) (L : List Int) (last : Int), (packF m L last).length ≤ m * 400
  | 0, _, _ => by simp [packF]
  | m + 1, L, last => by
    have h := packF_len m (L.drop 32) ((L.take 32).getLastD 0)
    have hC : (L.take 32).length ≤ 32 := by rw [List.length_take]; omega
    have h1 := leb_length_le (n := IntKind.u64.wrap (IntKind.u32.wrap ((L.take 32).headD 0 - last))) (u64_range _).1 (u64_range _).2
    have h2 := restF_len (L.take 32)
    have h3 := leb_length_le (n := ((L.take 32).length : Int)) (by omega) (by omega)
    have h4 := leb_length_le (n := ((restF (L.take 32)).length : Int)) (by omega) (by omega)
    simp only [packF, blkS, List.length_append]
    omega
theorem packS_size (L : List Int) : (packS L).1.size ≤ 1000000 := by
  unfold packS
  split
  · exact Nat.zero_le _
  · rename_i h
    have hL : L.length ≤ 65536 := by
      have h : chkS L = 0 := by simpa using h
      unfold chkS at h
      split at h
      · simp at h
      · split at h
        · simp at h
        · omega
    have h1 := packF_len ((L.length + 31) / 32) L 0
    have h2 := leb_length_le (n := (L.length : Int)) (by omega) (by omega)
    simp only [strOfNums_size, List.length_append]
    omega
theorem packS_snd (L : List Int) : (packS L).2 = chkS L := by
  unfold packS; split
  · rfl
  · rename_i h; exact (by simpa using h : chkS L = 0).symm
theorem rowOf_Row {h : Heap} {a : AV} {E : List (Int × ByteArray)} (r : Row encE h a E) : rowOf h a = some E := by
  rcases r with ⟨rfl, rfl⟩ | ⟨b, v, o, ⟨v', e', s', rw', c'⟩, rfl, r2, r3, r4, r5⟩
  · rfl
  · simp only [encE] at r3 r4 r5
    simp only [encE, rowOf]
    rw [r2, rdK_s, if_pos ⟨r3, r4⟩, r5]
    exact entsA_entC E
theorem write2_size (s1 s2 : ByteArray) (h1 : s1.size ≤ 1000000) (h2 : s2.size ≤ 1000000) : (wrS [(3, s1), (9, s2)]).1.size ≤ 3000000 := by
  have e : wrS [(3, s1), (9, s2)] = (strOfNums ((leb 2 ++ wrF [(3, s1), (9, s2)] 0) ++ dat [(3, s1), (9, s2)]), 0) := by
    unfold wrS
    rw [if_neg (by simp [okOrd]), if_neg (by simp)]
    rfl
  have d := dat_len [(3, s1), (9, s2)]
  have l0 := leb_length_le (n := 2) (by omega) (by omega)
  have l1 := leb_length_le (n := IntKind.u64.wrap (3 - 0)) (u64_range _).1 (u64_range _).2
  have l2 := leb_length_le (n := (s1.size : Int)) (by omega) (by omega)
  have l3 := leb_length_le (n := IntKind.u64.wrap (9 - IntKind.u64.wrap (3 + 1))) (u64_range _).1 (u64_range _).2
  have l4 := leb_length_le (n := (s2.size : Int)) (by omega) (by omega)
  rw [e]
  simp only [strOfNums_size, List.length_append, d, dsz, wrF, List.length_nil]
  omega
end Go.Proofs.Ytpmoellbfgcefaa.AS
end
section
set_option autoImplicit false
namespace Go.Proofs.Ytpmoellbfgcefaa.AS
open Go Go.RowKit
/-- A value moved, told by its name. -/
theorem WO.mvE {P : Program} {T : Nat → CallF} {n : Nat} {F : Fr} {h : Heap} {K : Fr → Heap → Prop} {l : List AOper} {d : Option Nat} {x : Operand} (v : AV) (hx : evF F x = v) (k : WO P T n l (putF d v F) h K) : WO P T n (⟨d, none, .p (.mv x)⟩ :: l) F h K := WO.mv (hx ▸ k)
end Go.Proofs.Ytpmoellbfgcefaa.AS
end
section
set_option autoImplicit false
set_option maxRecDepth 100000
set_option maxHeartbeats 4000000
set_option linter.unusedSimpArgs false
set_option linter.unusedVariables false
namespace Go.Proofs.Ytpmoellbfgcefaa.AS
open Go Go.Proofs Go.RowKit Go.Proofs.Ytpmoellbfgcefaa.AS.V

theorem law11_FR (h : Heap) (a b : AV) (A B : List Int) (n : Int) (ra : Row (encI .u32) h a A) (rb : Row (encI .u32) h b B) (hla : A.length ≤ 140737488355328) (hlb : B.length ≤ 140737488355328) (hA : ∀ x ∈ A, 0 ≤ x ∧ x ≤ 4294967295) (hB : ∀ x ∈ B, 0 ≤ x ∧ x ≤ 4294967295) :
    FR Try.prog TT 11 [a, b, .s (.int .u32 n)] h fun x H => x = .s (.bool true) := by
  have hpa := pack_FR ra (by omega)
  have hpb := pack_FR rb (by omega)
  have sz1 := packS_size A
  have sz2 := packS_size B
  rw [packS_snd] at hpa hpb
  have hu1 : chkS A = 0 → unpackS (packS A).1 = (A, ⟨#[]⟩, 0) := fun h0 => by have := unpack_pack h0 hA ⟨#[]⟩; rwa [app_nil] at this
  have hu2 : chkS B = 0 → unpackS (packS B).1 = (B, ⟨#[]⟩, 0) := fun h0 => by have := unpack_pack h0 hB ⟨#[]⟩; rwa [app_nil] at this
  have hk1 : chkS A = 0 → A.Pairwise (· < ·) ∧ A.length ≤ 65536 := chkS_ok
  have hk2 : chkS B = 0 → B.Pairwise (· < ·) ∧ B.length ≤ 65536 := chkS_ok
  have hck : chkS A = 0 → chkS B = 0 → checkedS [A, B] = 0 := fun h1 h2 => by simp [checkedS, h1, h2]
  generalize (packS A).1 = s1 at *
  generalize (packS B).1 = s2 at *
  generalize chkS A = w1 at *
  generalize chkS B = w2 at *
  refine FR.of q11 (by kernel_rfl) ?_
  unfold c11
  repeat' (first
    | (refine WO.call rfl (begins_FR _) ?_; rintro _ _ ⟨rfl, rfl⟩)
    | (refine WO.call rfl hpa ?_; rintro _ H ⟨rfl, hH⟩; obtain rfl := hH.symm)
    | (refine WO.call rfl hpb ?_; rintro _ H ⟨rfl, hH⟩; obtain rfl := hH.symm)
    | (refine WO.bsl (E := encE) (C := [_, _, _, _]) rfl [(3, s1), (9, s2)] rfl rfl rfl (fun ae He ge oe ne => ?_))
    | (refine EQ.fin rfl ?_)
    | (refine WO.mvs rfl ?_)
    | (refine WO.mvp rfl ?_)
    | (refine WO.mvt rfl ?_)
    | (refine WO.mv ?_)
    | (refine W.sreg ?_)
    | (refine W.sdraw ?_)
    | (refine W.reg ?_)
    | (refine W.draw ?_)
    | (refine WO.nil ?_)
    | (refine WO.gU rfl ?_)
    | (refine WO.gT rfl rfl ?_)
    | (refine WO.gF rfl rfl ?_)
    | (refine WO.ext rfl rfl ?_)
    | (refine WO.lenR (by assumption) ?_)
    | (refine WO.add rfl rfl (by first | exact wrOK (by simp only [loK, hiK]; omega) | rfl) ?_)
    | (refine WO.sub rfl rfl (by first | exact wrOK (by simp only [loK, hiK]; omega) | rfl) ?_)
    | (refine WO.lss rfl rfl ?_)
    | (refine WO.leq rfl rfl ?_)
    | (refine WO.gtr rfl rfl ?_)
    | (refine WO.geq rfl rfl ?_)
    | (refine WO.eql rfl rfl ?_)
    | (refine WO.neq rfl rfl ?_)
    | (refine WO.seql rfl rfl ?_)
    | (refine WO.sneq rfl rfl ?_)
    | (refine WO.beql rfl rfl (tb rfl) ?_)
    | (refine WO.bneq rfl rfl (tb rfl) ?_)
    | (refine WO.not rfl ?_)
    | (refine WO.not0 rfl ?_)
    | (refine WO.cvi rfl (kd rfl) (kd rfl) (by first | exact wrOK (by simp only [loK, hiK]; omega) | rfl) ?_)
    | (refine WO.cvs rfl (st rfl) (st rfl) ?_)
    | (refine WO.ix rfl rfl (st rfl) (by first | assumption | omega) (by first | assumption | omega) ?_)
    | (refine WO.slen rfl (st rfl) ?_)
    | (refine WO.iaddr (by assumption) rfl rfl (by first | assumption | omega) (by first | assumption | omega) (fun q hq => ?_))
    | (refine WO.load (by assumption) rfl rfl ?_)
    | (refine WO.loadO rfl (by assumption) rfl rfl ?_)
    | (refine WO.faddrP (by assumption) rfl (fun q hq => ?_))
    | (refine WO.nilckP (by assumption) ?_)
    | (refine WO.nilck rfl ?_)
    | (refine WO.faddr rfl ?_)
    | (refine WO.fld rfl rfl rfl ?_)
    | (refine WO.pickT rfl ?_)
    | (refine WO.pickF rfl ?_)
    | (refine WO.sll rfl rfl (st rfl) (by first | assumption | omega) (by first | assumption | omega) ?_)
    | (refine WO.slh rfl rfl (st rfl) (by first | assumption | omega) (by first | assumption | omega) ?_)
    | (refine WO.slb rfl rfl rfl (st rfl) (by first | assumption | omega) (by first | assumption | omega) (by first | assumption | omega) ?_)
    | (refine WO.mul rfl rfl (by first | exact wrOK (by simp only [loK, hiK]; omega) | rfl) ?_)
    | (refine WO.quo rfl rfl (by first | assumption | omega) (by first | exact wrOK (by simp only [loK, hiK]; omega) | rfl) ?_)
    | (refine WO.rem rfl rfl (by first | assumption | omega) ?_)
    | (refine WO.and rfl rfl ?_)
    | (refine WO.or rfl rfl ?_)
    | (refine WO.xor rfl rfl ?_)
    | (refine WO.shl rfl rfl (by first | assumption | omega) (by simp [IntKind.bits]; rfl) ?_)
    | (refine WO.shr rfl rfl (by first | assumption | omega) (by simp [IntKind.bits]; rfl) ?_)
    | (refine WO.build (C := [_]) rfl ?_)
    | (refine WO.build (C := [_, _]) rfl ?_)
    | (refine WO.build (C := [_, _, _]) rfl ?_)
    | (refine WO.build (C := [_, _, _, _]) rfl ?_)
    | (refine WO.build (C := [_, _, _, _, _]) rfl ?_)
    | (refine WO.build (C := [_, _, _, _, _, _]) rfl ?_)
    | (refine WO.build (C := [_, _, _, _, _, _, _]) rfl ?_)
    | (refine WO.eqnil (by assumption) (fun hn1 hn2 => ?_) ?_)
    | (refine W.condT rfl ?_)
    | (refine W.condF rfl ?_)
    | (refine W.condDT rfl (by first | assumption | omega) ?_)
    | (refine W.condDF rfl (by first | assumption | omega) ?_)
    | (refine W.condD rfl (fun hc => ?_) (fun hc => ?_))
    | (refine WO.gS rfl (fun hc => ?_) (fun hc => ?_) <;> try (exfalso; omega))
    | (refine WO.pickS rfl (fun hc => ?_) (fun hc => ?_) <;> try (exfalso; omega))
    | (refine W.skip ?_)
    | (refine W.block ?_)
    | (refine W.drawA rfl ?_)
    | (refine W.sdrawA rfl ?_)
    | (refine And.intro rfl ?_)
    | (refine W.exit ?_)
    | (refine W.ret ?_)
    | (refine W.seq ?_)
    | (refine W.goto ?_)
    | (refine W.label ?_)
    | (refine SQ.nn ?_)
    | (refine SQ.x ?_)
    | (refine SQ.r ?_)
    | (refine SQ.g ?_)
    | (refine BQ.nn ?_)
    | (refine BQ.x ?_)
    | (refine BQ.r ?_)
    | (refine BQ.g ?_)
    | (refine BQ.y rfl ?_)
    | (refine LQ.x ?_)
    | (refine LQ.r ?_)
    | (refine LQ.g ?_)
    | (refine GQ.nn ?_)
    | (refine GQ.x ?_)
    | (refine GQ.r ?_))
  · exact ⟨rfl⟩
  · exact ⟨rfl⟩
  obtain rfl : w1 = 0 := by omega
  obtain rfl : w2 = 0 := by omega
  have u1 := hu1 rfl
  have u2 := hu2 rfl
  obtain ⟨pA, lA⟩ := hk1 rfl
  obtain ⟨pB, lB⟩ := hk2 rfl
  have ck := hck rfl rfl
  have hE : rowOf He ae = some [(3, s1), (9, s2)] := rowOf_Row oe.row
  have hrd := read_write (E := [(3, s1), (9, s2)]) (by simp [okOrd]) (by simp) (by simp) (by simp; omega) ⟨#[]⟩
  rw [app_nil] at hrd
  have hsz := write2_size s1 s2 sz1 sz2
  have hw0 : (wrS [(3, s1), (9, s2)]).2 = 0 := by
    unfold wrS
    rw [if_neg (by simp [okOrd]), if_neg (by simp)]
  have hW : FR Try.prog TT 32 [ae] He fun x H => x = .tp [.s (.string (wrS [(3, s1), (9, s2)]).1), .s (.int .i64 0)] ∧ H = He :=
    FR.run (FRun.hook TQ_32 (by simp only [hkWrite, hE]; rw [if_pos ⟨by simp, by simp [dsz]; omega⟩])) ⟨by rw [hw0], rfl⟩
  have hf3 : findF [(3, s1), (9, s2)] 3 = (s1, 0) := by simp [findF, List.find?]
  have hf9 : findF [(3, s1), (9, s2)] 9 = (s2, 0) := by simp [findF, List.find?]
  generalize (wrS [(3, s1), (9, s2)]).1 = D at *
  have hAnd : ∀ {H : Heap} {c : AV}, Rows2 H c [A, B] → FR Try.prog TT 12 [c] H fun x H' => ∃ c', x = .tp [c', .s (.int .i64 0)] ∧ Out (encI .u32) 32 H H' c' (andS [A, B]) := fun r => by
    have := and_FR _ _ _ r (by simp; omega) (by simp)
    rwa [ck, if_neg (by simp)] at this
  have hX : n ∈ andS [A, B] ↔ n ∈ A ∧ n ∈ B := bothX_mem n
  have lX : (andS [A, B]).length ≤ A.length := (bothX_pw pA pB).2
  have hUn1 : ∀ H : Heap, FR Try.prog TT 42 [.s (.string s1)] H fun x H' => ∃ c, x = .tp [c, .s (.string ⟨#[]⟩), .s (.int .i64 0)] ∧ Out (encI .u32) 32 H H' c A := fun H => by
    have := unpack_FR H s1 (by omega); rw [u1] at this; exact this
  have hUn2 : ∀ H : Heap, FR Try.prog TT 42 [.s (.string s2)] H fun x H' => ∃ c, x = .tp [c, .s (.string ⟨#[]⟩), .s (.int .i64 0)] ∧ Out (encI .u32) 32 H H' c B := fun H => by
    have := unpack_FR H s2 (by omega); rw [u2] at this; exact this
  have hHas1 : ∀ H : Heap, FR Try.prog TT 44 [.s (.string s1), .s (.int .u32 n)] H fun x H' => x = .tp [.s (.bool (decide (n ∈ A))), .s (.int .i64 0)] ∧ Grows H H' := fun H => by
    have := has_FR H s1 n (by omega); rw [u1] at this; exact this
  have hHas2 : ∀ H : Heap, FR Try.prog TT 44 [.s (.string s2), .s (.int .u32 n)] H fun x H' => x = .tp [.s (.bool (decide (n ∈ B))), .s (.int .i64 0)] ∧ Grows H H' := fun H => by
    have := has_FR H s2 n (by omega); rw [u2] at this; exact this
  generalize andS [A, B] = X at *
  have hXb : decide (n ∈ X) = (decide (n ∈ A) && decide (n ∈ B)) := by simp [hX]
  generalize decide (n ∈ A) = pa at *
  generalize decide (n ∈ B) = pb at *
  clear hu1 hu2 hk1 hk2 hck u1 u2 hX
  repeat' (first
    | (refine WO.mvE x2 rfl ?_)
    | (refine WO.mvE x1 rfl ?_)
    | (refine WO.mvE c2 rfl ?_)
    | (refine WO.mvE c1 rfl ?_)
    | (refine WO.mvE a4 rfl ?_)
    | (refine WO.mvE a3 rfl ?_)
    | (refine WO.mvE ae rfl ?_)
    | (refine WO.mvE a rfl ?_)
    | (refine WO.mvE b rfl ?_)
    | (refine WO.call rfl hW ?_; rintro _ _ ⟨rfl, rfl⟩)
    | (refine WO.call rfl (find_FR _ D 3 (by omega) hrd hf3) ?_; rintro _ _ ⟨rfl, rfl⟩)
    | (refine WO.call rfl (find_FR _ D 9 (by omega) hrd hf9) ?_; rintro _ _ ⟨rfl, rfl⟩)
    | (refine WO.call rfl (hUn1 _) ?_; rintro _ HU1 ⟨c1, rfl, oc1⟩; have gu1 := oc1.g)
    | (refine WO.call rfl (hUn2 _) ?_; rintro _ HU2 ⟨c2, rfl, oc2⟩; have gu2 := oc2.g)
    | (refine WO.bsl (E := encA) (C := [c1, c2]) (by show fillA [_, _] [(0, 1, c1), (1, 1, c2)] = some [c1, c2]; simp [fillA, oc1.row.cellsOf, oc2.row.cellsOf]) [c1, c2] rfl rfl rfl (fun a3 H3 g3 o3 nw3 => ?_))
    | (refine WO.bsl (E := encA) (C := [a, b]) (by show fillA [_, _] [(0, 1, a), (1, 1, b)] = some [a, b]; simp [fillA, ra.cellsOf, rb.cellsOf]) [a, b] rfl rfl rfl (fun a4 H4 g4 o4 nw4 => ?_))
    | (refine WO.call rfl (hAnd (rows2_two o3 ((oc1.row.grows gu2).grows g3) (oc2.row.grows g3))) ?_; rintro _ Hx1 ⟨x1, rfl, ox1⟩)
    | (have gal := ((((ge.trans gu1).trans gu2).trans g3).trans ox1.g).trans g4; refine WO.call rfl (hAnd (rows2_two o4 (ra.grows gal) (rb.grows gal))) ?_; rintro _ Hx2 ⟨x2, rfl, ox2⟩)
    | (refine WO.call rfl (hHas1 _) ?_; rintro _ HH1 ⟨rfl, gh1⟩)
    | (refine WO.call rfl (hHas2 _) ?_; rintro _ HH2 ⟨rfl, gh2⟩; have hx1 := ox1.row.grows (((g4.trans ox2.g).trans gh1).trans gh2); have hx2 := ox2.row.grows (gh1.trans gh2))
    | (refine WO.lenR hx1 ?_)
    | (refine W.loopI (σ := Nat × Bool) (fun s => [(2, .s (.int .u32 n)), (23, x1), (24, .s (.int .i64 0)), (25, x2), (26, .s (.int .i64 0)), (27, .s (.bool pa)), (28, .s (.int .i64 0)), (29, .s (.bool pb)), (30, .s (.int .i64 0)), (31, .s (.bool s.2)), (135, x1), (136, .s (.int .i64 X.length)), (137, .s (.int .i64 s.1))]) (fun s h' => h' = HH2 ∧ s.1 ≤ X.length ∧ s.2 = decide (n ∈ X.take s.1)) (fun s => X.length - s.1) (0, false) ⟨rfl, rfl, rfl, rfl, rfl, rfl, rfl, rfl, rfl, rfl, rfl, rfl, rfl, trivial⟩ ⟨rfl, Nat.zero_le _, by simp⟩ ?_; rintro ⟨i, is⟩ G h' ⟨rfl, hi, hj⟩; dsimp only at hi hj ⊢)
    | (refine WO.call rfl (same_self _ _ _ X hx1 hx2 (by omega)) ?_; rintro _ _ ⟨rfl, rfl⟩)
    | (refine LQ.fin ?_)
    | (refine EQ.fin rfl ?_)
    | (refine WO.mvs rfl ?_)
    | (refine WO.mvp rfl ?_)
    | (refine WO.mvt rfl ?_)
    | (refine WO.mv ?_)
    | (refine W.sreg ?_)
    | (refine W.sdraw ?_)
    | (refine W.reg ?_)
    | (refine W.draw ?_)
    | (refine WO.nil ?_)
    | (refine WO.gU rfl ?_)
    | (refine WO.gT rfl rfl ?_)
    | (refine WO.gF rfl rfl ?_)
    | (refine WO.ext rfl rfl ?_)
    | (refine WO.lenR (by assumption) ?_)
    | (refine WO.add rfl rfl (by first | exact wrOK (by simp only [loK, hiK]; omega) | rfl) ?_)
    | (refine WO.sub rfl rfl (by first | exact wrOK (by simp only [loK, hiK]; omega) | rfl) ?_)
    | (refine WO.lss rfl rfl ?_)
    | (refine WO.leq rfl rfl ?_)
    | (refine WO.gtr rfl rfl ?_)
    | (refine WO.geq rfl rfl ?_)
    | (refine WO.eql rfl rfl ?_)
    | (refine WO.neq rfl rfl ?_)
    | (refine WO.seql rfl rfl ?_)
    | (refine WO.sneq rfl rfl ?_)
    | (refine WO.beql rfl rfl (tb rfl) ?_)
    | (refine WO.bneq rfl rfl (tb rfl) ?_)
    | (refine WO.not rfl ?_)
    | (refine WO.not0 rfl ?_)
    | (refine WO.cvi rfl (kd rfl) (kd rfl) (by first | exact wrOK (by simp only [loK, hiK]; omega) | rfl) ?_)
    | (refine WO.cvs rfl (st rfl) (st rfl) ?_)
    | (refine WO.ix rfl rfl (st rfl) (by first | assumption | omega) (by first | assumption | omega) ?_)
    | (refine WO.slen rfl (st rfl) ?_)
    | (refine WO.iaddr (by assumption) rfl rfl (by first | assumption | omega) (by first | assumption | omega) (fun q hq => ?_))
    | (refine WO.load (by assumption) rfl rfl ?_)
    | (refine WO.loadO rfl (by assumption) rfl rfl ?_)
    | (refine WO.faddrP (by assumption) rfl (fun q hq => ?_))
    | (refine WO.nilckP (by assumption) ?_)
    | (refine WO.nilck rfl ?_)
    | (refine WO.faddr rfl ?_)
    | (refine WO.fld rfl rfl rfl ?_)
    | (refine WO.pickT rfl ?_)
    | (refine WO.pickF rfl ?_)
    | (refine WO.sll rfl rfl (st rfl) (by first | assumption | omega) (by first | assumption | omega) ?_)
    | (refine WO.slh rfl rfl (st rfl) (by first | assumption | omega) (by first | assumption | omega) ?_)
    | (refine WO.slb rfl rfl rfl (st rfl) (by first | assumption | omega) (by first | assumption | omega) (by first | assumption | omega) ?_)
    | (refine WO.mul rfl rfl (by first | exact wrOK (by simp only [loK, hiK]; omega) | rfl) ?_)
    | (refine WO.quo rfl rfl (by first | assumption | omega) (by first | exact wrOK (by simp only [loK, hiK]; omega) | rfl) ?_)
    | (refine WO.rem rfl rfl (by first | assumption | omega) ?_)
    | (refine WO.and rfl rfl ?_)
    | (refine WO.or rfl rfl ?_)
    | (refine WO.xor rfl rfl ?_)
    | (refine WO.shl rfl rfl (by first | assumption | omega) (by simp [IntKind.bits]; rfl) ?_)
    | (refine WO.shr rfl rfl (by first | assumption | omega) (by simp [IntKind.bits]; rfl) ?_)
    | (refine WO.build (C := [_]) rfl ?_)
    | (refine WO.build (C := [_, _]) rfl ?_)
    | (refine WO.build (C := [_, _, _]) rfl ?_)
    | (refine WO.build (C := [_, _, _, _]) rfl ?_)
    | (refine WO.build (C := [_, _, _, _, _]) rfl ?_)
    | (refine WO.build (C := [_, _, _, _, _, _]) rfl ?_)
    | (refine WO.build (C := [_, _, _, _, _, _, _]) rfl ?_)
    | (refine WO.eqnil (by assumption) (fun hn1 hn2 => ?_) ?_)
    | (refine W.condT rfl ?_)
    | (refine W.condF rfl ?_)
    | (refine W.condDT rfl (by first | assumption | omega) ?_)
    | (refine W.condDF rfl (by first | assumption | omega) ?_)
    | (refine W.condD rfl (fun hc => ?_) (fun hc => ?_))
    | (refine WO.gS rfl (fun hc => ?_) (fun hc => ?_) <;> try (exfalso; omega))
    | (refine WO.pickS rfl (fun hc => ?_) (fun hc => ?_) <;> try (exfalso; omega))
    | (refine W.skip ?_)
    | (refine W.block ?_)
    | (refine W.drawA rfl ?_)
    | (refine W.sdrawA rfl ?_)
    | (refine And.intro rfl ?_)
    | (refine W.exit ?_)
    | (refine W.ret ?_)
    | (refine W.seq ?_)
    | (refine W.goto ?_)
    | (refine W.label ?_)
    | (refine SQ.nn ?_)
    | (refine SQ.x ?_)
    | (refine SQ.r ?_)
    | (refine SQ.g ?_)
    | (refine BQ.nn ?_)
    | (refine BQ.x ?_)
    | (refine BQ.r ?_)
    | (refine BQ.g ?_)
    | (refine BQ.y rfl ?_)
    | (refine LQ.x ?_)
    | (refine LQ.r ?_)
    | (refine LQ.g ?_)
    | (refine GQ.nn ?_)
    | (refine GQ.x ?_)
    | (refine GQ.r ?_)
    | (cases is)
    | (cases pa)
    | (cases pb))
  all_goals first
    | exact ⟨rfl⟩
    | (exfalso; rw [List.take_of_length_le (by omega), hXb] at hj; exact absurd hj (by decide))
    | exact ⟨(i + 1, decide (nth X i = n)), by dsimp only; omega, ⟨rfl, rfl, rfl, rfl, rfl, rfl, rfl, rfl, rfl, rfl, rfl, rfl, rfl, trivial⟩, rfl, by dsimp only; omega, by
        have hm : n ∉ X.take i := of_decide_eq_false hj.symm
        dsimp only
        rw [take_snoc (by omega)]
        simp [hm, eq_comm]⟩
    | exact ⟨(i + 1, true), by dsimp only; omega, ⟨rfl, rfl, rfl, rfl, rfl, rfl, rfl, rfl, rfl, rfl, rfl, rfl, rfl, trivial⟩, rfl, by dsimp only; omega, by
        have hm : n ∈ X.take i := of_decide_eq_true hj.symm
        dsimp only
        rw [take_snoc (by omega)]
        simp [hm]⟩
end Go.Proofs.Ytpmoellbfgcefaa.AS
end
section
set_option autoImplicit false
namespace Go.Proofs.Ytpmoellbfgcefaa.AS
open Go Go.RowKit Go.ChangeShapes Go.WideShapes

/-- An argument's memory as a block of the abstract heap, to be read alone. -/
theorem HR.arg {P : Program} {W : World} {ρ : PM} {h : Heap} (H : HR P W.heap.size W ρ h W) (B off : Nat) (e : TypeId) (sz : Nat) (l : List AV) (hB : B < W.heap.size)
    (hl : ∀ (j : Nat) (x : AV), l[j]? = some x → ∃ v, W.cell? ⟨B, off + j, none⟩ = some v ∧ RV ρ W x v) :
    HR P W.heap.size W (upd ρ h.length 0 ⟨B, off, e, sz, false⟩) (h ++ [⟨0, e, sz, false, l⟩]) W ∧ Ext ρ (upd ρ h.length 0 ⟨B, off, e, sz, false⟩) := by
  have hx : Ext ρ (upd ρ h.length 0 ⟨B, off, e, sz, false⟩) := upd_ext _ (H.fresh _ _ (Nat.le_refl _))
  refine ⟨⟨H.below, H.hbase, ?_, ?_, ?_⟩, hx⟩
  · intro b ver hlen
    simp only [List.length_append, List.length_cons, List.length_nil] at hlen
    unfold upd
    rw [if_neg (by omega)]
    exact H.fresh _ _ (by omega)
  · intro b k hbk
    rcases Nat.lt_or_ge b h.length with hlt | hge
    · rw [List.getElem?_append_left hlt] at hbk
      obtain ⟨p, h1, h2, h3, h4, h5, h6, h7, h8⟩ := H.blk b k hbk
      refine ⟨p, hx _ _ _ h1, ?_, h3, h4, h5, h6, fun j x hj => ?_, h8⟩
      · intro v hv
        unfold upd
        rw [if_neg (by omega)]
        exact h2 v hv
      · obtain ⟨v, hv, hr⟩ := h7 j x hj
        exact ⟨v, hv, RV_mono hx (Keep.refl _) _ _ hr⟩
    · have hbe : b = h.length := by
        have := (List.getElem?_eq_some_iff.1 hbk).1
        simp at this
        omega
      subst hbe
      simp at hbk
      subst hbk
      refine ⟨⟨B, off, e, sz, false⟩, upd_same _ _ _ _, ?_, rfl, rfl, rfl, hB, ?_, fun h => by cases h⟩
      · intro v hv
        unfold upd
        rw [if_neg (by simp at hv; omega)]
        exact H.fresh _ _ (Nat.le_refl _)
      · intro j x hj
        obtain ⟨v, hv, hr⟩ := hl j x hj
        exact ⟨v, hv, RV_mono hx (Keep.refl _) _ _ hr⟩
  · intro b b' k k' p p' hbk hbk' hp hp' hrw heq
    have lt_old : ∀ b k p, h[b]? = some k → ρ b k.ver = some p → k.rw = true → W.heap.size ≤ p.blk := by
      intro b k p hb hp hr
      obtain ⟨q, h1, _, _, _, _, _, _, h8⟩ := H.blk b k hb
      rw [hp] at h1; cases h1; exact (h8 hr).1
    rcases Nat.lt_or_ge b h.length with hlt | hge
    · rw [List.getElem?_append_left hlt] at hbk
      unfold upd at hp
      rw [if_neg (by omega)] at hp
      rcases Nat.lt_or_ge b' h.length with hlt' | hge'
      · rw [List.getElem?_append_left hlt'] at hbk'
        unfold upd at hp'
        rw [if_neg (by omega)] at hp'
        exact H.inj b b' k k' p p' hbk hbk' hp hp' hrw heq
      · have hbe : b' = h.length := by
          have := (List.getElem?_eq_some_iff.1 hbk').1
          simp at this
          omega
        subst hbe
        simp at hbk'
        subst hbk'
        rw [upd_same] at hp'
        cases hp'
        have := lt_old b k p hbk hp hrw
        simp only at heq
        omega
    · have hbe : b = h.length := by
        have := (List.getElem?_eq_some_iff.1 hbk).1
        simp at this
        omega
      subst hbe
      simp at hbk
      subst hbk
      cases hrw

/-- Values of a type without memory behind them: their cells, and what is known of them. -/
structure Flat (P : Program) (t : TypeId) (α : Type) (bulk : (H : Type) → DataW H → Nat) where
  cells : α → List Value
  sz : Nat
  size : α → Nat
  wf : α → Prop
  len : ∀ a, (cells a).length = sz
  cellsOf : P.cellsOf t = sz
  opens : ∀ (H : Type) (enc : TypeId × Value → H) (W : World) (fuel : Nat) (cs : List Value) (x : DataW H × List MemPlace), DataW.trod enc P W 0 (fun _ => true) true fuel t cs = some x → ∃ a, cs = cells a ∧ size a ≤ bulk H x.1 ∧ wf a
def sizes {α : Type} (size : α → Nat) : List α → Nat
  | [] => 0
  | a :: l => size a + sizes size l
theorem sizes_append {α : Type} (size : α → Nat) (l r : List α) : sizes size (l ++ r) = sizes size l + sizes size r := by
  induction l with
  | nil => simp [sizes]
  | cons a l ih => simp only [List.cons_append, sizes, ih]; omega
theorem flat_len {α : Type} {cells : α → List Value} {sz : Nat} (h : ∀ a, (cells a).length = sz) : ∀ l : List α, (l.flatMap cells).length = l.length * sz
  | [] => by simp
  | a :: l => by rw [List.flatMap_cons, List.length_append, h, flat_len h l, List.length_cons, Nat.succ_mul]; omega
/-- A slice of such values. -/
theorem open_flat {P : Program} {bulk : (H : Type) → DataW H → Nat} {bulks : (H : Type) → List (DataW H) → Nat} (hb0 : ∀ H, bulks H [] = 0) (hb1 : ∀ H d l, bulks H (d :: l) = bulk H d + bulks H l) (hb2 : ∀ H e s, bulks H e + 1 ≤ bulk H (.slice e s))
    {t e : TypeId} {α : Type} (F : Flat P e α bulk) (hu : P.underlying t = some (.slice e)) {H : Type} {enc : TypeId × Value → H} {W : World} {a : Option Addr} {len cap : Nat} {D : DataW H} {ps : List MemPlace}
    (hD : DataW.Trod enc P W 0 (fun _ => true) true t (.slice a len cap) D ps) :
    ∃ l : List α, len = l.length ∧ len ≤ cap ∧ cap ≤ maxLen ∧ (a = none → len = 0 ∧ cap = 0) ∧ (∀ x, a = some x → ∀ j v, (l.flatMap F.cells)[j]? = some v → W.cell? (x.add j) = some v) ∧ sizes F.size l ≤ bulk H D ∧ ∀ y ∈ l, F.wf y := by
  obtain ⟨fuel, hf⟩ := hD
  rcases DataW.trod_slice hu hf with ⟨hcs, hx⟩ | ⟨x, len', cap', elems, rest, n, rfl, hcs, hx, hb, hl, hm, hlen, hel, hsp, hns⟩
  · simp [Value.cells] at hcs
    obtain ⟨rfl, rfl, rfl⟩ := hcs
    exact ⟨[], rfl, Nat.le_refl _, by simp [maxLen], fun _ => ⟨rfl, rfl⟩, fun x hx => (by cases hx), by simp [sizes], by simp⟩
  · simp [Value.cells] at hcs
    obtain ⟨rfl, rfl, rfl⟩ := hcs
    cases hx
    have key : ∀ m, m ≤ len → ∃ l : List α, l.length = m ∧ (∀ j v, (l.flatMap F.cells)[j]? = some v → W.cell? (x.add j) = some v) ∧ sizes F.size l ≤ bulks H ((elems.take m).map (·.1)) ∧ ∀ y ∈ l, F.wf y := by
      intro m
      induction m with
      | zero => intro _; exact ⟨[], rfl, by simp, by simp [sizes], by simp⟩
      | succ m ih =>
        intro hm'
        obtain ⟨l, hl1, hl2, hl3, hl4⟩ := ih (by omega)
        have hlt : m < elems.length := by omega
        have he := hel m (by omega)
        rw [List.getElem?_eq_getElem hlt, Option.bind_eq_some_iff] at he
        obtain ⟨c, hcs, htr⟩ := he
        obtain ⟨p, hK, hbk, hwf⟩ := F.opens H enc W n c _ htr
        refine ⟨l ++ [p], by simp [hl1], ?_, ?_, ?_⟩
        · intro j v hj
          have hfl := flat_len F.len l
          rw [List.flatMap_append] at hj
          rcases Nat.lt_or_ge j (l.flatMap F.cells).length with hjl | hjl
          · rw [List.getElem?_append_left hjl] at hj
            exact hl2 j v hj
          · rw [List.getElem?_append_right hjl] at hj
            obtain ⟨_, hcl, hce⟩ := World.cells?_some hcs
            simp only [List.flatMap_cons, List.flatMap_nil, List.append_nil] at hj
            rw [← hK] at hj
            have hlt2 : j - (l.flatMap F.cells).length < P.cellsOf e := by rw [← hcl]; exact (List.getElem?_eq_some_iff.1 hj).1
            have := hce _ hlt2
            rw [hj, Addr.add_add, F.cellsOf, hfl, hl1] at this
            rw [hfl, hl1] at hjl
            rw [show m * F.sz + (j - m * F.sz) = j by omega] at this
            exact this
        · rw [List.take_succ_eq_append_getElem hlt, List.map_append, sizes_append]
          have happ : ∀ a b : List (DataW H), bulks H (a ++ b) = bulks H a + bulks H b := by
            intro a b
            induction a with
            | nil => simp [hb0]
            | cons d a ih => simp only [List.cons_append, hb1, ih]; omega
          rw [happ]
          simp only [sizes, List.map_cons, List.map_nil, hb1, hb0]
          omega
        · intro y hy
          rcases List.mem_append.1 hy with h | h
          · exact hl4 y h
          · simp at h; subst h; exact hwf
    obtain ⟨l, hl1, hl2, hl3, hl4⟩ := key len (Nat.le_refl _)
    refine ⟨l, hl1.symm, hl, hm, fun h => (by cases h), fun y hy => ?_, ?_, hl4⟩
    · cases hy; exact hl2
    · rw [List.take_of_length_le (by omega)] at hl3
      exact Nat.le_trans hl3 (Nat.le_trans (Nat.le_succ _) (hb2 H _ _))
/-- A slice's place. -/
theorem okWide_place {P : Program} {t e : TypeId} {W : World} {r : Reach} {base : Nat} {x : Addr} {len cap : Nat} (hu : P.underlying t = some (.slice e)) (h : Value.okWide P W r base t (.slice (some x) len cap)) : ∃ B off, x = ⟨B, off, none⟩ ∧ B < W.heap.size := by
  simp only [Value.okWide, hu, Cell.okWide, Cell.ok, World.has] at h
  obtain ⟨_, _, _, hs, row, cells, hsh, _⟩ := h
  obtain ⟨B, off, spot⟩ := x
  simp only at hs hsh
  subst hs
  refine ⟨B, off, rfl, ?_⟩
  rcases Nat.lt_or_ge B W.heap.size with h | h
  · exact h
  · simp [World.shape?, Array.getElem?_eq_none h] at hsh
/-- An argument that is a slice, in the abstract heap. -/
theorem slice_arg {P : Program} {W : World} {ρ : PM} {h : Heap} (H : HR P W.heap.size W ρ h W) {t e : TypeId} {sz : Nat} {l : List Value} {a : Option Addr} {len cap : Nat} {r : Reach} {base : Nat} (hu : P.underlying t = some (.slice e)) (hok : Value.okWide P W r base t (.slice a len cap))
    (hl : len ≤ cap) (h0 : a = none → len = 0 ∧ cap = 0) (hc : ∀ x, a = some x → ∀ j v, l[j]? = some v → W.cell? (x.add j) = some v) :
    ∃ ρ' x bs, HR P W.heap.size W ρ' (h ++ bs) W ∧ Ext ρ ρ' ∧ RV ρ' W x (.slice a len cap) ∧ ((x = .s (.slice none 0 0) ∧ bs = [] ∧ len = 0) ∨ (x = .sl h.length 0 0 len sz ∧ bs = [⟨0, e, sz, false, l.map .s⟩])) := by
  cases a with
  | none =>
    obtain ⟨rfl, rfl⟩ := h0 rfl
    exact ⟨ρ, .s (.slice none 0 0), [], by simpa using H, Ext.refl _, rfl, Or.inl ⟨rfl, rfl, rfl⟩⟩
  | some x =>
    obtain ⟨B, off, rfl, hB⟩ := okWide_place hu hok
    obtain ⟨H', hx⟩ := H.arg B off e sz (l.map .s) hB (by
      intro j x hj
      rw [List.getElem?_map, Option.map_eq_some_iff] at hj
      obtain ⟨v, hv, rfl⟩ := hj
      refine ⟨v, ?_, rfl⟩
      have := hc _ rfl j v hv
      unfold Addr.add at this
      split at this
      · rename_i h0; subst h0; exact this
      · exact this)
    refine ⟨_, .sl h.length 0 0 len sz, _, H', hx, ⟨_, cap, _, ⟨upd_same _ _ _ _, rfl⟩, rfl, hl, Or.inr rfl, fun h => by cases h⟩, Or.inr ⟨rfl, rfl⟩⟩
end Go.Proofs.Ytpmoellbfgcefaa.AS
end
section
set_option autoImplicit false
namespace Go.Proofs.Ytpmoellbfgcefaa.AS
open Go Go.RowKit Go.ChangeShapes Go.WideShapes
/-- A slice's reading has as many elements. -/
theorem slice_len {P : Program} {t e : TypeId} (hu : P.underlying t = some (.slice e)) {H : Type} {enc : TypeId × Value → H} {W : World} {a : Option Addr} {len cap : Nat} {D : DataW H} {ps : List MemPlace}
    (hD : DataW.Trod enc P W 0 (fun _ => true) true t (.slice a len cap) D ps) : len = 0 ∨ ∃ el sp, D = .slice el sp ∧ el.length = len := by
  obtain ⟨fuel, hf⟩ := hD
  rcases DataW.trod_slice hu hf with ⟨hcs, hx⟩ | ⟨x, len', cap', elems, rest, n, rfl, hcs, hx, hb, hl, hm, hlen, hel, hsp, hns⟩
  · simp [Value.cells] at hcs
    exact .inl hcs.2.1
  · simp [Value.cells] at hcs
    obtain ⟨rfl, rfl, rfl⟩ := hcs
    cases hx
    exact .inr ⟨_, _, rfl, by simp [hlen]⟩
end Go.Proofs.Ytpmoellbfgcefaa.AS
end
