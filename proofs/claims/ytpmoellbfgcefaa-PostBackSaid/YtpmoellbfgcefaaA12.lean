/- Of our own: an abstract machine beside the model, its soundness, and walks of the program in it. -/
import Derived.Test.YtpmoellbfgcefaaA11
import Derived.Test.YtpmoellbfgcefaaA8
set_option linter.unusedSimpArgs false
set_option linter.unusedVariables false
section
set_option autoImplicit false
set_option maxRecDepth 100000
set_option maxHeartbeats 2000000
set_option linter.unusedSimpArgs false
namespace Go.Proofs.Ytpmoellbfgcefaa.AS
open Go Go.Proofs Go.RowKit Go.Proofs.Ytpmoellbfgcefaa.AS.V

def slotsF : Nat → List (Int × Int) → ByteArray → Int → List (Int × Int) × ByteArray × Int
  | 0, L, s, w => (L, s, w)
  | n + 1, L, s, w => if w ≠ 0 then (L, s, w) else slotsF n (L ++ [(slot1 L s).1]) (slot1 L s).2.1 (slot1 L s).2.2
theorem gets_range (s : ByteArray) : 0 ≤ (gets s).1 ∧ (gets s).1 ≤ 18446744073709551615 := by
  rcases gets_err s with h | h | h
  · obtain ⟨n, r, w⟩ : ∃ n r, gets s = (n, r, 0) := ⟨_, _, Prod.ext rfl (Prod.ext rfl h)⟩
    rw [w]; exact (gets_ok w).2
  · rw [h]; simp
  · rw [h]; simp
theorem wrap_range (n : Int) : 0 ≤ IntKind.u64.wrap n ∧ IntKind.u64.wrap n ≤ 18446744073709551615 := by rw [wu64']; omega
theorem slot1_key (L : List (Int × Int)) (s : ByteArray) : 0 ≤ (slot1 L s).1.1 ∧ (slot1 L s).1.1 ≤ 18446744073709551615 := by
  have e : (numS s 0) = gets s := if_pos rfl
  simp only [slot1, e]
  split
  · exact wrap_range _
  · exact gets_range s
theorem slot1_size (L : List (Int × Int)) {s : ByteArray} (hs : s.size ≤ 9223372036854775807) : (slot1 L s).2.1.size ≤ 9223372036854775807 := num_size (num_size hs 0) _

theorem itE {T : FuncId → Option AFunc} (h0 h' : Heap) (br bo vr er : Nat) (s : ByteArray) (w many i : Int) (L : List (Int × Int)) (hI : InvS h0 h' br bo vr er L s w) (hend : w ≠ 0 ∨ ¬ i < many)
    (out a1 a2 a6 a7 a8 a9 a10 a11 a12 a13 a14 a15 a16 a17 a18 a19 a20 a21 a83 : AV) : ∃ tm', tm'.length = 84 ∧ tm'[4]? = some out ∧ Run Try.prog T body59 (fr59 br vr many out i a1 a2 a6 a7 a8 a9 a10 a11 a12 a13 a14 a15 a16 a17 a18 a19 a20 a21 a83) h' (.exit 0, tm', h') := by
  have hb := hI.rd
  have hlt := bk_lt hb
  by_cases hm : i < many
  · have hw : w ≠ 0 := by rcases hend with h | h <;> first | exact h | exact absurd hm h
    refine ⟨?tm, ?l, ?o, Run.step 40 fun k j => ?run⟩
    case run =>
      simp [c59, body59, fr59, hb, hlt, eq_true hm, oneOr, eq_false hw]
      rfl
    case l => rfl
    case o => rfl
  · refine ⟨?tm2, ?l2, ?o2, Run.step 40 fun k j => ?run2⟩
    case run2 =>
      simp [c59, body59, fr59, hb, hlt, eq_false hm, oneOr]
      rfl
    case l2 => rfl
    case o2 => rfl

theorem slots_l {T : FuncId → Option AFunc} (hN : T 76 = some (.hook hkNum)) (h0 : Heap) (br vr er : Nat) (h0b : br < h0.length) (many : Int) (hmany : many ≤ 65536) : ∀ (n : Nat) (h' : Heap) (bo : Nat) (L : List (Int × Int)) (s : ByteArray) (w : Int), s.size ≤ 9223372036854775807 → (L.length : Int) + n = many → InvS h0 h' br bo vr er L s w →
    (0 ≤ (L.getLastD (0, 0)).1 ∧ (L.getLastD (0, 0)).1 ≤ 18446744073709551615) → ∀ (a1 a2 a6 a7 a8 a9 a10 a11 a12 a13 a14 a15 a16 a17 a18 a19 a20 a21 a83 : AV), ∃ H bo' tm', tm'.length = 84 ∧ tm'[4]? = some (outA bo' (slotsF n L s w).1) ∧ InvS h0 H br bo' vr er (slotsF n L s w).1 (slotsF n L s w).2.1 (slotsF n L s w).2.2 ∧
      Run Try.prog T (.loop fg59 body59) (fr59 br vr many (outA bo L) L.length a1 a2 a6 a7 a8 a9 a10 a11 a12 a13 a14 a15 a16 a17 a18 a19 a20 a21 a83) h' (.exit 0, tm', H) := by
  intro n
  induction n with
  | zero =>
    intro h' bo L s w hs hn hI hk a1 a2 a6 a7 a8 a9 a10 a11 a12 a13 a14 a15 a16 a17 a18 a19 a20 a21 a83
    obtain ⟨tm', t1, t2, hr⟩ := itE (T := T) h0 h' br bo vr er s w many L.length L hI (Or.inr (by omega)) (outA bo L) a1 a2 a6 a7 a8 a9 a10 a11 a12 a13 a14 a15 a16 a17 a18 a19 a20 a21 a83
    refine ⟨h', bo, tm', t1, t2, hI, Run.loop_end_f ?_ (by simp) hr⟩
    simp [forget, fg59, c59, fr59]
  | succ n ih =>
    intro h' bo L s w hs hn hI hk a1 a2 a6 a7 a8 a9 a10 a11 a12 a13 a14 a15 a16 a17 a18 a19 a20 a21 a83
    by_cases hw : w = 0
    · subst hw
      have e : slotsF (n + 1) L s 0 = slotsF n (L ++ [(slot1 L s).1]) (slot1 L s).2.1 (slot1 L s).2.2 := by rw [slotsF]; simp
      rw [e]
      have hk' := slot1_key L s
      have hnext : ∃ H bo' a6' a7' tm', forget fg59 tm' = fr59 br vr many (outA bo' (L ++ [(slot1 L s).1])) ((L ++ [(slot1 L s).1]).length : Int) a1 a2 a6' a7' a8 a9 a10 a11 a12 a13 a14 a15 a16 a17 a18 a19 a20 a21 a83 ∧ InvS h0 H br bo' vr er (L ++ [(slot1 L s).1]) (slot1 L s).2.1 (slot1 L s).2.2 ∧
          Run Try.prog T body59 (fr59 br vr many (outA bo L) L.length a1 a2 a6 a7 a8 a9 a10 a11 a12 a13 a14 a15 a16 a17 a18 a19 a20 a21 a83) h' (.normal, tm', H) := by
        cases hm : L.length with
        | zero =>
          cases L with
          | nil =>
            obtain ⟨H, bo', a6', a7', tm', x1, x2, x3⟩ := it0 hN h0 h' br bo vr er s hs many (by simp at hn; omega) hI h0b a1 a2 a6 a7 a8 a9 a10 a11 a12 a13 a14 a15 a16 a17 a18 a19 a20 a21 a83
            exact ⟨H, bo', a6', a7', tm', x1, x2, x3⟩
          | cons x L => simp at hm
        | succ m =>
          have hm1 : (m : Int) + 1 < many := by omega
          have e2 : ((L ++ [(slot1 L s).1]).length : Int) = (m : Int) + 2 := by simp [hm]; omega
          rw [e2]
          have : ∃ H a6' a7' tm', forget fg59 tm' = fr59 br vr many (outA bo (L ++ [(slot1 L s).1])) ((m : Int) + 2) a1 a2 a6' a7' a8 a9 a10 a11 a12 a13 a14 a15 a16 a17 a18 a19 a20 a21 a83 ∧ InvS h0 H br bo vr er (L ++ [(slot1 L s).1]) (slot1 L s).2.1 (slot1 L s).2.2 ∧
              Run Try.prog T body59 (fr59 br vr many (outA bo L) ((m : Int) + 1) a1 a2 a6 a7 a8 a9 a10 a11 a12 a13 a14 a15 a16 a17 a18 a19 a20 a21 a83) h' (.normal, tm', H) := by
            by_cases h1 : (numS s 0).2.2 = 0
            · by_cases h2 : (L.getLastD (0, 0)).1 = 18446744073709551615
              · exact itB hN h0 h' br bo vr er m s hs many L hm hm1 hmany hI h0b hk.1 hk.2 h1 h2 a1 a2 a6 a7 a8 a9 a10 a11 a12 a13 a14 a15 a16 a17 a18 a19 a20 a21 a83
              · by_cases h3 : (numS s 0).1 > 18446744073709551615 - (L.getLastD (0, 0)).1 - 1
                · exact itC hN h0 h' br bo vr er m s hs many L hm hm1 hmany hI h0b hk.1 hk.2 h1 h2 h3 a1 a2 a6 a7 a8 a9 a10 a11 a12 a13 a14 a15 a16 a17 a18 a19 a20 a21 a83
                · exact itD hN h0 h' br bo vr er m s hs many L hm hm1 hmany hI h0b hk.1 hk.2 h1 h2 h3 a1 a2 a6 a7 a8 a9 a10 a11 a12 a13 a14 a15 a16 a17 a18 a19 a20 a21 a83
            · exact itA hN h0 h' br bo vr er m s hs many L hm hm1 hmany hI h0b hk.1 hk.2 h1 a1 a2 a6 a7 a8 a9 a10 a11 a12 a13 a14 a15 a16 a17 a18 a19 a20 a21 a83
          obtain ⟨H, a6', a7', tm', x1, x2, x3⟩ := this
          exact ⟨H, bo, a6', a7', tm', x1, x2, x3⟩
      obtain ⟨H, bo', a6', a7', tm', x1, x2, x3⟩ := hnext
      obtain ⟨H2, bo2, tm2, y1, y2, y3, y4⟩ := ih H bo' (L ++ [(slot1 L s).1]) (slot1 L s).2.1 (slot1 L s).2.2 (slot1_size L hs) (by simp; omega) x2 (by simpa using hk') a1 a2 a6' a7' a8 a9 a10 a11 a12 a13 a14 a15 a16 a17 a18 a19 a20 a21 a83
      refine ⟨H2, bo2, tm2, y1, y2, y3, ?_⟩
      refine Run.loop_go ?_ x3 x1 y4
      simp [forget, fg59, c59, fr59]
    · have e : slotsF (n + 1) L s w = (L, s, w) := by rw [slotsF]; simp [hw]
      rw [e]
      obtain ⟨tm', t1, t2, hr⟩ := itE (T := T) h0 h' br bo vr er s w many L.length L hI (Or.inl hw) (outA bo L) a1 a2 a6 a7 a8 a9 a10 a11 a12 a13 a14 a15 a16 a17 a18 a19 a20 a21 a83
      refine ⟨h', bo, tm', t1, t2, hI, Run.loop_end_f ?_ (by simp) hr⟩
      simp [forget, fg59, c59, fr59]
end Go.Proofs.Ytpmoellbfgcefaa.AS
end
section
set_option autoImplicit false
set_option maxRecDepth 100000
set_option maxHeartbeats 2000000
set_option linter.unusedSimpArgs false
namespace Go.Proofs.Ytpmoellbfgcefaa.AS
open Go Go.Proofs Go.RowKit Go.Proofs.Ytpmoellbfgcefaa.AS.V

def slotsR (s : ByteArray) : List (Int × Int) × ByteArray × Int :=
  if (numS s 0).2.2 = 0 ∧ 65536 < (numS s 0).1 then ([], (numS s 0).2.1, 15) else slotsF (numS s 0).1.toNat [] (numS s 0).2.1 (numS s 0).2.2
noncomputable def tail59 : ACode := match c59 with
  | .seq _ (.seq _ (.seq _ t)) => t
  | _ => .skip
theorem slots_tail {T : FuncId → Option AFunc} (h0 h1 : Heap) (br vr er : Nat) (many : Int) (R : List (Int × Int) × ByteArray × Int)
    (hloop : ∀ (a1 a2 a6 a7 a8 a9 a10 a11 a12 a13 a14 a15 a16 a17 a18 a19 a20 a21 a83 : AV), ∃ H bo' tm', tm'.length = 84 ∧ tm'[4]? = some (outA bo' R.1) ∧ InvS h0 H br bo' vr er R.1 R.2.1 R.2.2 ∧
      Run Try.prog T (.loop fg59 body59) (fr59 br vr many (outA 0 []) (([] : List (Int × Int)).length : Int) a1 a2 a6 a7 a8 a9 a10 a11 a12 a13 a14 a15 a16 a17 a18 a19 a20 a21 a83) h1 (.exit 0, tm', H)) (a1 a2 a4 a5 a6 a7 a8 a9 a10 a11 a12 a13 a14 a15 a16 a17 a18 a19 a20 a21 : AV) :
    ∃ H bo' tm', tm'[2]? = some (outA bo' R.1) ∧ InvS h0 H br bo' vr er R.1 R.2.1 R.2.2 ∧ Run Try.prog T tail59 ([.pt br vr 0, a1, a2, .s (.int .u64 many), a4, a5, a6, a7, a8, a9, a10, a11, a12, a13, a14, a15, a16, a17, a18, a19, a20, a21] ++ List.replicate 62 (.s undef)) h1 (.ret, tm', H) := by
  obtain ⟨H, bo', tm', t1, t2, t3, t4⟩ := hloop a1 a2 a6 a7 a8 a9 a10 a11 a12 a13 a14 a15 a16 a17 a18 a19 a20 a21 (.s undef)
  refine ⟨H, bo', (tm'.set 83 (outA bo' R.1)).set 2 (outA bo' R.1), ?_, t3, ?_⟩
  · simp [t1]
  · apply Run.seq
    · apply Run.step 20; intro k j
      simp
      (constructor <;> rfl)
    · apply Run.seq
      · apply Run.seq
        · apply Run.step 20; intro k j
          simp
          (constructor <;> rfl)
        · apply Run.block_exit
          apply Run.loop_go'
          · exact t4
          · simp [forget, fg59, c59, fr59, outA]
      · apply Run.step 20; intro k j
        simp [t1, t2]
        rw [(List.getElem?_eq_some_iff.1 t2).2]
theorem slots_run {T : FuncId → Option AFunc} (hT : T 59 = prepFn Try.prog 59) (hN : T 76 = some (.hook hkNum)) (h0 : Heap) (br vr er : Nat) (s : ByteArray) (hs : s.size ≤ 9223372036854775807) (hb : bk h0 br = some ⟨vr, er, 2, true, [.s (.string s), .s (.int .i64 0)]⟩) :
    ∃ H bo, FRun Try.prog T 59 [.pt br vr 0] h0 (outA bo (slotsR s).1, H) ∧ InvS h0 H br bo vr er (slotsR s).1 (slotsR s).2.1 (slotsR s).2.2 := by
  have hlt := bk_lt hb
  have hc := fun k l h => evFn_hook (P := Try.prog) (T := T) (k := k) (f := 76) (args := l) (h := h) hN
  have hs1 := num_size hs 0
  have hr : 0 ≤ (numS s 0).1 := (gets_range s).1
  have e0 : numS s 0 = gets s := if_pos rfl
  by_cases hbad : (numS s 0).2.2 = 0 ∧ 65536 < (numS s 0).1
  · have e : slotsR s = ([], (numS s 0).2.1, 15) := if_pos hbad
    rw [e]
    have hI : InvS h0 (h0.set br ⟨vr, er, 2, true, [.s (.string (numS s 0).2.1), .s (.int .i64 15)]⟩) br 0 vr er [] (numS s 0).2.1 15 :=
      ⟨by simp [hlt], fun b h1 h2 => by simp [Ne.symm h2], by simp, fun h => absurd rfl h⟩
    have tl := slots_tail (T := T) h0 _ br vr er (numS s 0).1 ([], (numS s 0).2.1, 15) (fun a1 a2 a6 a7 a8 a9 a10 a11 a12 a13 a14 a15 a16 a17 a18 a19 a20 a21 a83 => by
      obtain ⟨tm', t1, t2, hr⟩ := itE (T := T) h0 _ br 0 vr er (numS s 0).2.1 15 (numS s 0).1 0 [] hI (Or.inl (by omega)) (outA 0 []) a1 a2 a6 a7 a8 a9 a10 a11 a12 a13 a14 a15 a16 a17 a18 a19 a20 a21 a83
      exact ⟨_, 0, tm', t1, t2, hI, Run.loop_end_f (by simp [forget, fg59, c59, fr59]) (by simp) hr⟩)
    obtain ⟨H, bo, tm', x1, x2, x3⟩ : ∃ H bo tm', tm'[2]? = some (outA bo []) ∧ InvS h0 H br bo vr er [] (numS s 0).2.1 15 ∧ Run Try.prog T c59 ([.pt br vr 0] ++ List.replicate 83 (.s undef)) h0 (.ret, tm', H) := by
      obtain ⟨H, bo, tm', x1, x2, x3⟩ := tl (.s undef) (.s (.slice none 0 0)) (.s undef) (.s undef) (.s undef) (.s undef) (.pt br vr 0) (.s (.int .u64 (numS s 0).1)) (.pt br vr 0) (.pt br vr 0) (.pt br vr 1) (.s (.int .i64 (numS s 0).2.2)) (.s (.bool true)) (.s (.bool true)) (.s (.int .u64 (numS s 0).1)) (.s (.bool true)) (.s (.bool true)) (.pt br vr 0) (.pt br vr 0) (.pt br vr 1)
      refine ⟨H, bo, tm', x1, x2, ?_⟩
      apply Run.seq
      · apply Run.step 20; intro k j
        simp
        (constructor <;> rfl)
      · apply Run.seq
        · apply Run.step 20; intro k j
          simp [hc, hkNum, hb, hs]
          (constructor <;> rfl)
        · apply Run.seq
          · apply Run.step 20; intro k j
            simp [hb, hlt, oneOr, cellsOf, isCell, eq_true hbad.1, eq_true hbad.2]
            (constructor <;> rfl)
          · exact x3
    exact ⟨H, bo, FRun.of (e := .ret) (hT.trans p59) x3 (Or.inl rfl) (by simp [resAs, resA, x1, tupA]), x2⟩
  · have e : slotsR s = slotsF (numS s 0).1.toNat [] (numS s 0).2.1 (numS s 0).2.2 := if_neg hbad
    rw [e]
    have hI : InvS h0 (h0.set br ⟨vr, er, 2, true, [.s (.string (numS s 0).2.1), .s (.int .i64 (numS s 0).2.2)]⟩) br 0 vr er [] (numS s 0).2.1 (numS s 0).2.2 :=
      ⟨by simp [hlt], fun b h1 h2 => by simp [Ne.symm h2], by simp, fun h => absurd rfl h⟩
    have hmany : (numS s 0).1 ≤ 65536 := by
      rw [e0] at hbad ⊢
      rcases gets_err s with h | h | h
      · omega
      · rw [h]; simp
      · rw [h]; simp
    have tl := slots_tail (T := T) h0 _ br vr er (numS s 0).1 (slotsF (numS s 0).1.toNat [] (numS s 0).2.1 (numS s 0).2.2) (fun a1 a2 a6 a7 a8 a9 a10 a11 a12 a13 a14 a15 a16 a17 a18 a19 a20 a21 a83 => by
      exact slots_l hN h0 br vr er (by omega) (numS s 0).1 hmany (numS s 0).1.toNat _ 0 [] (numS s 0).2.1 (numS s 0).2.2 hs1 (by simp; omega) hI (by simp) a1 a2 a6 a7 a8 a9 a10 a11 a12 a13 a14 a15 a16 a17 a18 a19 a20 a21 a83)
    obtain ⟨H, bo, tm', x1, x2, x3⟩ : ∃ H bo tm', tm'[2]? = some (outA bo (slotsF (numS s 0).1.toNat [] (numS s 0).2.1 (numS s 0).2.2).1) ∧ InvS h0 H br bo vr er (slotsF (numS s 0).1.toNat [] (numS s 0).2.1 (numS s 0).2.2).1 (slotsF (numS s 0).1.toNat [] (numS s 0).2.1 (numS s 0).2.2).2.1 (slotsF (numS s 0).1.toNat [] (numS s 0).2.1 (numS s 0).2.2).2.2 ∧ Run Try.prog T c59 ([.pt br vr 0] ++ List.replicate 83 (.s undef)) h0 (.ret, tm', H) := by
      by_cases hw : (numS s 0).2.2 = 0
      · have hm : ¬ 65536 < (numS s 0).1 := by omega
        obtain ⟨H, bo, tm', x1, x2, x3⟩ := tl (.s undef) (.s (.slice none 0 0)) (.s undef) (.s undef) (.s undef) (.s undef) (.pt br vr 0) (.s (.int .u64 (numS s 0).1)) (.pt br vr 0) (.pt br vr 0) (.pt br vr 1) (.s (.int .i64 (numS s 0).2.2)) (.s (.bool true)) (.s (.bool true)) (.s (.int .u64 (numS s 0).1)) (.s (.bool false)) (.s (.bool false)) (.s undef) (.s undef) (.s undef)
        refine ⟨H, bo, tm', x1, x2, ?_⟩
        apply Run.seq
        · apply Run.step 20; intro k j
          simp
          (constructor <;> rfl)
        · apply Run.seq
          · apply Run.step 20; intro k j
            simp [hc, hkNum, hb, hs]
            (constructor <;> rfl)
          · apply Run.seq
            · apply Run.step 20; intro k j
              simp [hb, hlt, oneOr, cellsOf, isCell, eq_true hw, eq_false hm]
              (constructor <;> rfl)
            · exact x3
      · obtain ⟨H, bo, tm', x1, x2, x3⟩ := tl (.s undef) (.s (.slice none 0 0)) (.s undef) (.s undef) (.s undef) (.s undef) (.pt br vr 0) (.s (.int .u64 (numS s 0).1)) (.pt br vr 0) (.pt br vr 0) (.pt br vr 1) (.s (.int .i64 (numS s 0).2.2)) (.s (.bool false)) (.s (.bool false)) (.s undef) (.s undef) (.s (.bool false)) (.s undef) (.s undef) (.s undef)
        refine ⟨H, bo, tm', x1, x2, ?_⟩
        apply Run.seq
        · apply Run.step 20; intro k j
          simp
          (constructor <;> rfl)
        · apply Run.seq
          · apply Run.step 20; intro k j
            simp [hc, hkNum, hb, hs]
            (constructor <;> rfl)
          · apply Run.seq
            · apply Run.step 20; intro k j
              simp [hb, hlt, oneOr, cellsOf, isCell, eq_false hw]
              (constructor <;> rfl)
            · exact x3
    exact ⟨H, bo, FRun.of (e := .ret) (hT.trans p59) x3 (Or.inl rfl) (by simp [resAs, resA, x1, tupA]), x2⟩
end Go.Proofs.Ytpmoellbfgcefaa.AS
end
section
set_option autoImplicit false
set_option maxRecDepth 100000
set_option maxHeartbeats 2000000
set_option linter.unusedSimpArgs false
namespace Go.Proofs.Ytpmoellbfgcefaa.AS
open Go Go.Proofs Go.RowKit Go.Proofs.Ytpmoellbfgcefaa.AS.V

def entC (x : Int × ByteArray) : List AV := [.s (.int .u64 x.1), .s (.string x.2)]
def rowE (b : Nat) : List (Int × ByteArray) → AV
  | [] => .s (.slice none 0 0)
  | _ :: L => .sl b L.length 0 (L.length + 1) 2
theorem entC_len : ∀ L : List (Int × ByteArray), (L.flatMap entC).length = L.length * 2
  | [] => rfl
  | x :: L => by rw [List.flatMap_cons, List.length_append, entC_len L, List.length_cons]; simp [entC]; omega
def dat1 (x : Int × Int) (r : ByteArray) : Int × ByteArray := (x.1, r.extract 0 x.2.toNat)
def datF : List (Int × Int) → List (Int × ByteArray) → ByteArray → Option (List (Int × ByteArray) × ByteArray)
  | [], E, r => some (E, r)
  | x :: L, E, r => if (r.size : Int) < x.2 then none else datF L (E ++ [dat1 x r]) (r.extract x.2.toNat r.size)
structure InvD (h0 h' : Heap) (br bo bd : Nat) (L : List (Int × Int)) (E : List (Int × ByteArray)) (r : ByteArray) : Prop where
  rd : bk h' br = some ⟨0, 90, 2, true, [.s (.string r), .s (.int .i64 0)]⟩
  sl : L ≠ [] → br ≠ bo ∧ h0.length ≤ bo ∧ bk h' bo = some ⟨L.length - 1, 94, 3, true, L.flatMap slotC⟩
  old : ∀ b, b < h0.length → bk h' b = bk h0 b
  len : h0.length ≤ h'.length
  hbr : h0.length ≤ br
  out : E ≠ [] → h0.length ≤ bd ∧ br ≠ bd ∧ (L ≠ [] → bo ≠ bd) ∧ bk h' bd = some ⟨E.length - 1, 52, 2, true, E.flatMap entC⟩
def fr33 (s0 : ByteArray) (br : Nat) (out sv : AV) (N j : Int) (a1 a6 a8 a9 a10 a11 a12 a13 a14 a15 a16 a17 a18 a19 a20 a21 a22 a23 a64 a65 a66 a67 a68 : AV) : List AV := [.s (.string s0), a1, .any, .any, .any, .pt br 0 0, a6, out, a8, a9, a10, a11, a12, a13, a14, a15, a16, a17, a18, a19, a20, a21, a22, a23, sv, .s (.int .i64 N), .s (.int .i64 j)] ++ List.replicate 37 .any ++ [a64, a65, a66, a67, a68]
noncomputable def tail33 : ACode := match c33 with
  | .seq _ (.seq _ (.seq _ (.seq _ t))) => t
  | _ => .skip
noncomputable def body33 : ACode := match tail33 with
  | .seq _ (.seq (.seq _ (.block _ (.loop _ b))) _) => b
  | _ => .skip
noncomputable def fg33 : List Nat := match tail33 with
  | .seq _ (.seq (.seq _ (.block _ (.loop fg _))) _) => fg
  | _ => []
theorem rd_end {T : FuncId → Option AFunc} (s0 : ByteArray) (h' : Heap) (br : Nat) (out sv : AV) (N j : Int) (hj : ¬ j < N) (a1 a6 a8 a9 a10 a11 a12 a13 a14 a15 a16 a17 a18 a19 a20 a21 a22 a23 a64 a65 a66 a67 a68 : AV) :
    ∃ tm', tm'.length = 69 ∧ tm'[5]? = some (.pt br 0 0) ∧ tm'[7]? = some out ∧ Run Try.prog T body33 (fr33 s0 br out sv N j a1 a6 a8 a9 a10 a11 a12 a13 a14 a15 a16 a17 a18 a19 a20 a21 a22 a23 a64 a65 a66 a67 a68) h' (.exit 0, tm', h') := by
  refine ⟨?tm2, ?l2, ?o1, ?o2, Run.step 40 fun k j => ?run2⟩
  case run2 =>
    simp [c33, tail33, body33, fr33, eq_false hj]
    rfl
  case l2 => rfl
  case o1 => rfl
  case o2 => rfl

theorem rd_short {T : FuncId → Option AFunc} (s0 : ByteArray) (h0 h' : Heap) (br bo bd m j : Nat) (L : List (Int × Int)) (E : List (Int × ByteArray)) (r : ByteArray) (hr : r.size ≤ 9223372036854775807) (hL : L.length = m + 1) (hm : m < 65536) (hj : j < m + 1) (x : Int × Int) (hx : L[j]? = some x) (hx0 : 0 ≤ x.2) (hx1 : x.2 ≤ 18446744073709551615)
    (hI : InvD h0 h' br bo bd L E r) (hs : (r.size : Int) < x.2) (out : AV)
    (a1 a6 a8 a9 a10 a11 a12 a13 a14 a15 a16 a17 a18 a19 a20 a21 a22 a23 a64 a65 a66 a67 a68 : AV) : ∃ H tm', tm'[2]? = some (.s (.slice none 0 0)) ∧ tm'[3]? = some (.s (.string ⟨#[]⟩)) ∧ tm'[4]? = some (.s (.int .i64 5)) ∧ (∀ b, b < h0.length → bk H b = bk h0 b) ∧ Run Try.prog T body33 (fr33 s0 br out (.sl bo m 0 (m + 1) 3) ((m : Int) + 1) j a1 a6 a8 a9 a10 a11 a12 a13 a14 a15 a16 a17 a18 a19 a20 a21 a22 a23 a64 a65 a66 a67 a68) h' (.ret, tm', H) := by
  have hb := hI.rd
  have hlt := bk_lt hb
  have hle := hI.len
  have hbr := hI.hbr
  have hne : L ≠ [] := by intro h; rw [h] at hL; simp at hL
  obtain ⟨ho2, ho1, ho3⟩ := hI.sl hne
  rw [hL, Nat.add_sub_cancel] at ho3
  have hlo := bk_lt ho3
  have hCl : (L.flatMap slotC).length = (m + 1) * 3 := by rw [slotC_len, hL]
  have hCd : ((L.flatMap slotC).drop (j * 3)).take 3 = [.s (.int .u64 x.1), .s (.string ⟨#[]⟩), .s (.int .u64 x.2)] := by
    obtain ⟨M1, M2, e1, e2⟩ : ∃ M1 M2, L = M1 ++ x :: M2 ∧ M1.length = j := by
      obtain ⟨h1, h2⟩ := List.getElem?_eq_some_iff.1 hx
      exact ⟨L.take j, L.drop (j + 1), by rw [← h2, List.getElem_cons_drop, List.take_append_drop], by simp; omega⟩
    rw [e1, List.flatMap_append, List.flatMap_cons, List.drop_left' (by rw [slotC_len, e2])]
    rfl
  have hsl : L.flatMap slotC = L.flatMap slotC := rfl
  generalize hC : L.flatMap slotC = C at ho3 hCl hCd
  obtain ⟨xk, xn⟩ := x
  simp only at hx0 hx1 hCd
  have hle1 : j * 3 + 3 ≤ C.length := by omega
  have n1 : bo ≠ h'.length := by omega
  have n2 : bo ≠ h'.length + 1 := by omega
  have n3 : br ≠ h'.length := by omega
  have n4 : br ≠ h'.length + 1 := by omega
  have ho2' := Ne.symm ho2
  have ij : (j : Int) < (m : Int) + 1 := by omega
  have j0 : (0 : Int) ≤ (j : Int) := by omega
  have wj : IntKind.i64.wrap ((j : Int) + 1) = (j : Int) + 1 := w64k (by omega) (by omega)
  have wr : IntKind.u64.wrap (r.size : Int) = r.size := wu64 (by omega) (by omega)
  have hs' : (r.size : Int) < xn := hs
  refine ⟨?H, ?tm, ?o1, ?o2, ?o3, ?old, Run.step 60 fun k j => ?run⟩
  case run =>
    simp [c33, tail33, body33, fr33, hb, hlt, hm, hr, oneOr, cellsOf, isCell, fillA, ij, ho3, hCd, hle1, hlo, n1, n2, n3, n4, ho2, ho2', wj, wr, Try.underlying9, Try.underlying3, Try.underlying35, eq_true hs']
    (constructor <;> rfl)
  case o1 => rfl
  case o2 => rfl
  case o3 => rfl
  case old =>
    intro b h1
    have h3 : b < h'.length := by omega
    simp [h3, hI.old b h1]

theorem rd_one0 {T : FuncId → Option AFunc} (s0 : ByteArray) (h0 h' : Heap) (br bo bd m j : Nat) (L : List (Int × Int)) (E : List (Int × ByteArray)) (r : ByteArray) (hr : r.size ≤ 9223372036854775807) (hL : L.length = m + 1) (hm : m < 65536) (hj : j < m + 1) (x : Int × Int) (hx : L[j]? = some x) (hx0 : 0 ≤ x.2) (hx1 : x.2 ≤ 18446744073709551615)
    (hI : InvD h0 h' br bo bd L E r) (hE : E = []) (hs : ¬ (r.size : Int) < x.2)
    (a1 a6 a8 a9 a10 a11 a12 a13 a14 a15 a16 a17 a18 a19 a20 a21 a22 a23 a64 a65 a66 a67 a68 : AV) : ∃ H a9' tm', forget fg33 tm' = fr33 s0 br (rowE (h'.length + 2) (E ++ [dat1 x r])) (.sl bo m 0 (m + 1) 3) ((m : Int) + 1) ((j : Int) + 1) a1 a6 a8 a9' a10 a11 a12 a13 a14 a15 a16 a17 a18 a19 a20 a21 a22 a23 a64 a65 a66 a67 a68 ∧ InvD h0 H br bo (h'.length + 2) L (E ++ [dat1 x r]) (r.extract x.2.toNat r.size) ∧ Run Try.prog T body33 (fr33 s0 br (rowE bd E) (.sl bo m 0 (m + 1) 3) ((m : Int) + 1) j a1 a6 a8 a9 a10 a11 a12 a13 a14 a15 a16 a17 a18 a19 a20 a21 a22 a23 a64 a65 a66 a67 a68) h' (.normal, tm', H) := by
  have hb := hI.rd
  have hlt := bk_lt hb
  have hle := hI.len
  have hbr := hI.hbr
  have hne : L ≠ [] := by intro h; rw [h] at hL; simp at hL
  obtain ⟨ho2, ho1, ho3⟩ := hI.sl hne
  rw [hL, Nat.add_sub_cancel] at ho3
  have hlo := bk_lt ho3
  have hCl : (L.flatMap slotC).length = (m + 1) * 3 := by rw [slotC_len, hL]
  have hCd : ((L.flatMap slotC).drop (j * 3)).take 3 = [.s (.int .u64 x.1), .s (.string ⟨#[]⟩), .s (.int .u64 x.2)] := by
    obtain ⟨M1, M2, e1, e2⟩ : ∃ M1 M2, L = M1 ++ x :: M2 ∧ M1.length = j := by
      obtain ⟨h1, h2⟩ := List.getElem?_eq_some_iff.1 hx
      exact ⟨L.take j, L.drop (j + 1), by rw [← h2, List.getElem_cons_drop, List.take_append_drop], by simp; omega⟩
    rw [e1, List.flatMap_append, List.flatMap_cons, List.drop_left' (by rw [slotC_len, e2])]
    rfl
  have hsl : L.flatMap slotC = L.flatMap slotC := rfl
  generalize hC : L.flatMap slotC = C at ho3 hCl hCd
  obtain ⟨xk, xn⟩ := x
  simp only at hx0 hx1 hCd
  have hle1 : j * 3 + 3 ≤ C.length := by omega
  have n1 : bo ≠ h'.length := by omega
  have n2 : bo ≠ h'.length + 1 := by omega
  have n3 : br ≠ h'.length := by omega
  have n4 : br ≠ h'.length + 1 := by omega
  have ho2' := Ne.symm ho2
  have ij : (j : Int) < (m : Int) + 1 := by omega
  have j0 : (0 : Int) ≤ (j : Int) := by omega
  have wj : IntKind.i64.wrap ((j : Int) + 1) = (j : Int) + 1 := w64k (by omega) (by omega)
  have wr : IntKind.u64.wrap (r.size : Int) = r.size := wu64 (by omega) (by omega)
  have hs' : ¬ (r.size : Int) < xn := hs
  have shi : ∀ t, Try.prog.underlying t = some .string → slS Try.prog t (some (.s (.string r))) none (some (some (.s (.int .u64 xn)))) = some (.s (.string (r.extract 0 xn.toNat))) := fun t h => sl_hi h r .u64 xn hx0 (by omega)
  have slo : ∀ t, Try.prog.underlying t = some .string → slS Try.prog t (some (.s (.string r))) (some (some (.s (.int .u64 xn)))) none = some (.s (.string (r.extract xn.toNat r.size))) := fun t h => sl_lo h r .u64 xn hx0 (by omega)
  have eR1 : rowE bd E = .s (.slice none 0 0) := by rw [hE]; rfl
  have eR2 : rowE (h'.length + 2) (E ++ [dat1 (xk, xn) r]) = .sl (h'.length + 2) 0 0 1 2 := by rw [hE]; rfl
  refine ⟨?H, ?a9, ?tm, ?fg, ?inv, Run.step 60 fun k j => ?run⟩
  case run =>
    simp [c33, tail33, body33, fr33, hb, hlt, hm, hr, oneOr, cellsOf, isCell, fillA, ij, ho3, hCd, hle1, hlo, n1, n2, n3, n4, ho2, ho2', wj, wr, Try.underlying9, Try.underlying3, Try.underlying35, eq_false hs', shi, slo, eR1, apV_nil, chkDraw, okAt, avEq, vEq]
    (constructor <;> rfl)
  case fg =>
    simp [forget, fg33, tail33, c33, fr33, eR2]
    rfl
  case inv =>
    refine ⟨?_, fun _ => ⟨ho2, ho1, ?_⟩, fun b h1 => ?_, ?_, hbr, fun _ => ⟨?_, ?_, fun _ => ?_, ?_⟩⟩
    · simp [hlt]
    · simp [hL, hC, hlo, ho3, ho2, ho2']
    · have h3 : b < h'.length := by omega
      have h4 : br ≠ b := by omega
      simp [h3, h4, hI.old b h1]
    · simp; omega
    · omega
    · omega
    · omega
    · simp [entC, dat1, hE]

theorem rd_one1 {T : FuncId → Option AFunc} (s0 : ByteArray) (h0 h' : Heap) (br bo bd m j : Nat) (L : List (Int × Int)) (E : List (Int × ByteArray)) (r : ByteArray) (hr : r.size ≤ 9223372036854775807) (hL : L.length = m + 1) (hm : m < 65536) (hj : j < m + 1) (x : Int × Int) (hx : L[j]? = some x) (hx0 : 0 ≤ x.2) (hx1 : x.2 ≤ 18446744073709551615)
    (hI : InvD h0 h' br bo bd L E r) (p : Nat) (hE : E.length = p + 1) (hp : p < 65536) (hs : ¬ (r.size : Int) < x.2)
    (a1 a6 a8 a9 a10 a11 a12 a13 a14 a15 a16 a17 a18 a19 a20 a21 a22 a23 a64 a65 a66 a67 a68 : AV) : ∃ H a9' tm', forget fg33 tm' = fr33 s0 br (rowE bd (E ++ [dat1 x r])) (.sl bo m 0 (m + 1) 3) ((m : Int) + 1) ((j : Int) + 1) a1 a6 a8 a9' a10 a11 a12 a13 a14 a15 a16 a17 a18 a19 a20 a21 a22 a23 a64 a65 a66 a67 a68 ∧ InvD h0 H br bo bd L (E ++ [dat1 x r]) (r.extract x.2.toNat r.size) ∧ Run Try.prog T body33 (fr33 s0 br (rowE bd E) (.sl bo m 0 (m + 1) 3) ((m : Int) + 1) j a1 a6 a8 a9 a10 a11 a12 a13 a14 a15 a16 a17 a18 a19 a20 a21 a22 a23 a64 a65 a66 a67 a68) h' (.normal, tm', H) := by
  have hb := hI.rd
  have hlt := bk_lt hb
  have hle := hI.len
  have hbr := hI.hbr
  have hne : L ≠ [] := by intro h; rw [h] at hL; simp at hL
  obtain ⟨ho2, ho1, ho3⟩ := hI.sl hne
  rw [hL, Nat.add_sub_cancel] at ho3
  have hlo := bk_lt ho3
  have hCl : (L.flatMap slotC).length = (m + 1) * 3 := by rw [slotC_len, hL]
  have hCd : ((L.flatMap slotC).drop (j * 3)).take 3 = [.s (.int .u64 x.1), .s (.string ⟨#[]⟩), .s (.int .u64 x.2)] := by
    obtain ⟨M1, M2, e1, e2⟩ : ∃ M1 M2, L = M1 ++ x :: M2 ∧ M1.length = j := by
      obtain ⟨h1, h2⟩ := List.getElem?_eq_some_iff.1 hx
      exact ⟨L.take j, L.drop (j + 1), by rw [← h2, List.getElem_cons_drop, List.take_append_drop], by simp; omega⟩
    rw [e1, List.flatMap_append, List.flatMap_cons, List.drop_left' (by rw [slotC_len, e2])]
    rfl
  have hsl : L.flatMap slotC = L.flatMap slotC := rfl
  generalize hC : L.flatMap slotC = C at ho3 hCl hCd
  obtain ⟨xk, xn⟩ := x
  simp only at hx0 hx1 hCd
  have hle1 : j * 3 + 3 ≤ C.length := by omega
  have n1 : bo ≠ h'.length := by omega
  have n2 : bo ≠ h'.length + 1 := by omega
  have n3 : br ≠ h'.length := by omega
  have n4 : br ≠ h'.length + 1 := by omega
  have ho2' := Ne.symm ho2
  have ij : (j : Int) < (m : Int) + 1 := by omega
  have j0 : (0 : Int) ≤ (j : Int) := by omega
  have wj : IntKind.i64.wrap ((j : Int) + 1) = (j : Int) + 1 := w64k (by omega) (by omega)
  have wr : IntKind.u64.wrap (r.size : Int) = r.size := wu64 (by omega) (by omega)
  have hs' : ¬ (r.size : Int) < xn := hs
  have shi : ∀ t, Try.prog.underlying t = some .string → slS Try.prog t (some (.s (.string r))) none (some (some (.s (.int .u64 xn)))) = some (.s (.string (r.extract 0 xn.toNat))) := fun t h => sl_hi h r .u64 xn hx0 (by omega)
  have slo : ∀ t, Try.prog.underlying t = some .string → slS Try.prog t (some (.s (.string r))) (some (some (.s (.int .u64 xn)))) none = some (.s (.string (r.extract xn.toNat r.size))) := fun t h => sl_lo h r .u64 xn hx0 (by omega)
  have hEn : E ≠ [] := by intro h; rw [h] at hE; simp at hE
  obtain ⟨d1, d2, d3, d4⟩ := hI.out hEn
  have d3 := d3 hne
  rw [hE, Nat.add_sub_cancel] at d4
  have hld := bk_lt d4
  have d2' := Ne.symm d2
  have d3' := Ne.symm d3
  have m1 : bd ≠ h'.length := by omega
  have m2 : bd ≠ h'.length + 1 := by omega
  have hDl : (E.flatMap entC).length = (p + 1) * 2 := by rw [entC_len, hE]
  have eR1 : rowE bd E = .sl bd p 0 (p + 1) 2 := by
    cases E with
    | nil => exact absurd rfl hEn
    | cons y E => simp at hE; simp [rowE, hE]
  have eR2 : rowE bd (E ++ [dat1 (xk, xn) r]) = .sl bd (p + 1) 0 (p + 1 + 1) 2 := by
    cases E with
    | nil => exact absurd rfl hEn
    | cons y E => simp at hE; simp [rowE, hE]
  generalize hD : E.flatMap entC = D at d4 hDl
  have hle3 : (p + 1) * 2 ≤ D.length := by omega
  have hall : D.take ((p + 1) * 2) = D := List.take_of_length_le (by omega)
  have b1 : (p + 1 + 1) * 24 ≤ 140737488355328 := by omega
  have b2 : p + 1 + 1 ≤ 9223372036854775807 := by omega
  refine ⟨?H, ?a9, ?tm, ?fg, ?inv, Run.step 60 fun k j => ?run⟩
  case run =>
    simp [c33, tail33, body33, fr33, hb, hlt, hm, hr, oneOr, cellsOf, isCell, fillA, ij, ho3, hCd, hle1, hlo, n1, n2, n3, n4, ho2, ho2', wj, wr, Try.underlying9, Try.underlying3, Try.underlying35, eq_false hs', shi, slo, eR1, apK_s, chkDraw, okAt, avEq, vEq, d4, hld, d2, d2', d3, d3', m1, m2, hle3, hall, b1, b2]
    (constructor <;> rfl)
  case fg =>
    simp [forget, fg33, tail33, c33, fr33, eR2]
    rfl
  case inv =>
    refine ⟨?_, fun _ => ⟨ho2, ho1, ?_⟩, fun b h1 => ?_, ?_, hbr, fun _ => ⟨?_, ?_, fun _ => ?_, ?_⟩⟩
    · simp [hlt, hld, d2, d2', d3, d3']
    · simp [hL, hC, hlo, ho3, ho2, ho2', hld, d2, d2', d3, d3']
    · have h3 : b < h'.length := by omega
      have h4 : br ≠ b := by omega
      have m0 : bd ≠ b := by omega
      simp [h3, h4, hI.old b h1, m0]
    · simp; omega
    · omega
    · omega
    · omega
    · simp [entC, dat1, hld, hE, List.flatMap_append, hD]
end Go.Proofs.Ytpmoellbfgcefaa.AS
end
section
set_option autoImplicit false
set_option maxRecDepth 100000
set_option maxHeartbeats 2000000
set_option linter.unusedSimpArgs false
namespace Go.Proofs.Ytpmoellbfgcefaa.AS
open Go Go.Proofs Go.RowKit Go.Proofs.Ytpmoellbfgcefaa.AS.V

theorem rd_loop {T : FuncId → Option AFunc} (s0 : ByteArray) (h0 : Heap) (br bo m : Nat) (L : List (Int × Int)) (hL : L.length = m + 1) (hm : m < 65536) (hsz : ∀ x ∈ L, 0 ≤ x.2 ∧ x.2 ≤ 18446744073709551615) : ∀ (d j : Nat) (h' : Heap) (bd : Nat) (E : List (Int × ByteArray)) (r : ByteArray), j + d = m + 1 → E.length = j → r.size ≤ 9223372036854775807 → InvD h0 h' br bo bd L E r → ∀ (a1 a6 a8 a9 a10 a11 a12 a13 a14 a15 a16 a17 a18 a19 a20 a21 a22 a23 a64 a65 a66 a67 a68 : AV),
    (∀ E' r', datF (L.drop j) E r = some (E', r') → ∃ H bd' tm', tm'.length = 69 ∧ tm'[5]? = some (.pt br 0 0) ∧ tm'[7]? = some (rowE bd' E') ∧ InvD h0 H br bo bd' L E' r' ∧ Run Try.prog T (.loop fg33 body33) (fr33 s0 br (rowE bd E) (.sl bo m 0 (m + 1) 3) ((m : Int) + 1) j a1 a6 a8 a9 a10 a11 a12 a13 a14 a15 a16 a17 a18 a19 a20 a21 a22 a23 a64 a65 a66 a67 a68) h' (.exit 0, tm', H)) ∧
    (datF (L.drop j) E r = none → ∃ H tm', tm'[2]? = some (.s (.slice none 0 0)) ∧ tm'[3]? = some (.s (.string ⟨#[]⟩)) ∧ tm'[4]? = some (.s (.int .i64 5)) ∧ (∀ b, b < h0.length → bk H b = bk h0 b) ∧ Run Try.prog T (.loop fg33 body33) (fr33 s0 br (rowE bd E) (.sl bo m 0 (m + 1) 3) ((m : Int) + 1) j a1 a6 a8 a9 a10 a11 a12 a13 a14 a15 a16 a17 a18 a19 a20 a21 a22 a23 a64 a65 a66 a67 a68) h' (.ret, tm', H)) := by
  intro d
  have hfg : ∀ (out sv : AV) (N j : Int) (a1 a6 a8 a9 a10 a11 a12 a13 a14 a15 a16 a17 a18 a19 a20 a21 a22 a23 a64 a65 a66 a67 a68 : AV), forget fg33 (fr33 s0 br out sv N j a1 a6 a8 a9 a10 a11 a12 a13 a14 a15 a16 a17 a18 a19 a20 a21 a22 a23 a64 a65 a66 a67 a68) = fr33 s0 br out sv N j a1 a6 a8 a9 a10 a11 a12 a13 a14 a15 a16 a17 a18 a19 a20 a21 a22 a23 a64 a65 a66 a67 a68 := fun out sv N j a1 a6 a8 a9 a10 a11 a12 a13 a14 a15 a16 a17 a18 a19 a20 a21 a22 a23 a64 a65 a66 a67 a68 => by
    simp [forget, fg33, tail33, c33, fr33]
  induction d with
  | zero =>
    intro j h' bd E r hd hE hr hI a1 a6 a8 a9 a10 a11 a12 a13 a14 a15 a16 a17 a18 a19 a20 a21 a22 a23 a64 a65 a66 a67 a68
    rw [List.drop_eq_nil_of_le (by omega)]
    refine ⟨fun E' r' he => ?_, fun he => by simp [datF] at he⟩
    simp only [datF, Option.some.injEq, Prod.mk.injEq] at he
    obtain ⟨rfl, rfl⟩ := he
    obtain ⟨tm', t1, t2, t3, t4⟩ := rd_end (T := T) s0 h' br (rowE bd E) (.sl bo m 0 (m + 1) 3) ((m : Int) + 1) j (by omega) a1 a6 a8 a9 a10 a11 a12 a13 a14 a15 a16 a17 a18 a19 a20 a21 a22 a23 a64 a65 a66 a67 a68
    exact ⟨h', bd, tm', t1, t2, t3, hI, Run.loop_end_f (hfg _ _ _ _ a1 a6 a8 a9 a10 a11 a12 a13 a14 a15 a16 a17 a18 a19 a20 a21 a22 a23 a64 a65 a66 a67 a68) (by simp) t4⟩
  | succ d ih =>
    intro j h' bd E r hd hE hr hI a1 a6 a8 a9 a10 a11 a12 a13 a14 a15 a16 a17 a18 a19 a20 a21 a22 a23 a64 a65 a66 a67 a68
    obtain ⟨x, hx⟩ : ∃ x, L[j]? = some x := ⟨_, List.getElem?_eq_getElem (by omega)⟩
    obtain ⟨hlt, hx2⟩ := List.getElem?_eq_some_iff.1 hx
    have hxm : x ∈ L := hx2 ▸ List.getElem_mem hlt
    have e : L.drop j = x :: L.drop (j + 1) := by rw [List.drop_eq_getElem_cons hlt, hx2]
    rw [e]
    obtain ⟨z0, z1⟩ := hsz x hxm
    by_cases hs : (r.size : Int) < x.2
    · have e2 : datF (x :: L.drop (j + 1)) E r = none := by rw [datF, if_pos hs]
      rw [e2]
      refine ⟨fun E' r' he => (by cases he), fun _ => ?_⟩
      obtain ⟨H, tm', t1, t2, t3, t4, t5⟩ := rd_short (T := T) s0 h0 h' br bo bd m j L E r hr hL hm (by omega) x hx z0 z1 hI hs (rowE bd E) a1 a6 a8 a9 a10 a11 a12 a13 a14 a15 a16 a17 a18 a19 a20 a21 a22 a23 a64 a65 a66 a67 a68
      exact ⟨H, tm', t1, t2, t3, t4, Run.loop_end_f (hfg _ _ _ _ a1 a6 a8 a9 a10 a11 a12 a13 a14 a15 a16 a17 a18 a19 a20 a21 a22 a23 a64 a65 a66 a67 a68) (by simp) t5⟩
    · have e2 : datF (x :: L.drop (j + 1)) E r = datF (L.drop (j + 1)) (E ++ [dat1 x r]) (r.extract x.2.toNat r.size) := by rw [datF, if_neg hs]
      rw [e2]
      obtain ⟨H, bd', a9', tm1, t1, t2, t3⟩ : ∃ H bd' a9' tm', forget fg33 tm' = fr33 s0 br (rowE bd' (E ++ [dat1 x r])) (.sl bo m 0 (m + 1) 3) ((m : Int) + 1) ((j : Int) + 1) a1 a6 a8 a9' a10 a11 a12 a13 a14 a15 a16 a17 a18 a19 a20 a21 a22 a23 a64 a65 a66 a67 a68 ∧ InvD h0 H br bo bd' L (E ++ [dat1 x r]) (r.extract x.2.toNat r.size) ∧ Run Try.prog T body33 (fr33 s0 br (rowE bd E) (.sl bo m 0 (m + 1) 3) ((m : Int) + 1) j a1 a6 a8 a9 a10 a11 a12 a13 a14 a15 a16 a17 a18 a19 a20 a21 a22 a23 a64 a65 a66 a67 a68) h' (.normal, tm', H) := by
        cases j with
        | zero =>
          obtain ⟨H, a9', tm', t1, t2, t3⟩ := rd_one0 (T := T) s0 h0 h' br bo bd m 0 L E r hr hL hm (by omega) x hx z0 z1 hI (List.length_eq_zero_iff.1 hE) hs a1 a6 a8 a9 a10 a11 a12 a13 a14 a15 a16 a17 a18 a19 a20 a21 a22 a23 a64 a65 a66 a67 a68
          exact ⟨H, _, a9', tm', t1, t2, t3⟩
        | succ p =>
          obtain ⟨H, a9', tm', t1, t2, t3⟩ := rd_one1 (T := T) s0 h0 h' br bo bd m (p + 1) L E r hr hL hm (by omega) x hx z0 z1 hI p hE (by omega) hs a1 a6 a8 a9 a10 a11 a12 a13 a14 a15 a16 a17 a18 a19 a20 a21 a22 a23 a64 a65 a66 a67 a68
          exact ⟨H, _, a9', tm', t1, t2, t3⟩
      have hsz2 : (r.extract x.2.toNat r.size).size ≤ 9223372036854775807 := by rw [ByteArray.size_extract]; omega
      obtain ⟨i1, i2⟩ := ih (j + 1) H bd' (E ++ [dat1 x r]) (r.extract x.2.toNat r.size) (by omega) (by simp [hE]) hsz2 t2 a1 a6 a8 a9' a10 a11 a12 a13 a14 a15 a16 a17 a18 a19 a20 a21 a22 a23 a64 a65 a66 a67 a68
      refine ⟨fun E' r' he => ?_, fun he => ?_⟩
      · obtain ⟨H2, bd2, tm2, y1, y2, y3, y4, y5⟩ := i1 E' r' he
        exact ⟨H2, bd2, tm2, y1, y2, y3, y4, Run.loop_go (hfg _ _ _ _ a1 a6 a8 a9 a10 a11 a12 a13 a14 a15 a16 a17 a18 a19 a20 a21 a22 a23 a64 a65 a66 a67 a68) t3 t1 y5⟩
      · obtain ⟨H2, tm2, y1, y2, y3, y4, y5⟩ := i2 he
        exact ⟨H2, tm2, y1, y2, y3, y4, Run.loop_go (hfg _ _ _ _ a1 a6 a8 a9 a10 a11 a12 a13 a14 a15 a16 a17 a18 a19 a20 a21 a22 a23 a64 a65 a66 a67 a68) t3 t1 y5⟩
end Go.Proofs.Ytpmoellbfgcefaa.AS
end
section
set_option autoImplicit false
set_option maxRecDepth 100000
set_option maxHeartbeats 2000000
set_option linter.unusedSimpArgs false
namespace Go.Proofs.Ytpmoellbfgcefaa.AS
open Go Go.Proofs Go.RowKit Go.Proofs.Ytpmoellbfgcefaa.AS.V

def readS (s : ByteArray) : List (Int × ByteArray) × ByteArray × Int :=
  if (slotsR s).2.2 ≠ 0 then ([], ⟨#[]⟩, (slotsR s).2.2) else match datF (slotsR s).1 [] (slotsR s).2.1 with
    | some (E, r) => (E, r, 0)
    | none => ([], ⟨#[]⟩, 5)
theorem num_range (s : ByteArray) (w : Int) : 0 ≤ (numS s w).1 ∧ (numS s w).1 ≤ 18446744073709551615 := by
  unfold numS
  split
  · exact gets_range s
  · simp
theorem slotsF_inv : ∀ (n : Nat) (L : List (Int × Int)) (s : ByteArray) (w : Int), s.size ≤ 9223372036854775807 → (∀ x ∈ L, 0 ≤ x.2 ∧ x.2 ≤ 18446744073709551615) →
    (slotsF n L s w).2.1.size ≤ 9223372036854775807 ∧ (∀ x ∈ (slotsF n L s w).1, 0 ≤ x.2 ∧ x.2 ≤ 18446744073709551615) ∧ (slotsF n L s w).1.length ≤ L.length + n
  | 0, L, s, w, hs, hL => ⟨hs, hL, by simp [slotsF]⟩
  | n + 1, L, s, w, hs, hL => by
    rw [slotsF]
    split
    · exact ⟨hs, hL, by simp⟩
    · obtain ⟨a, b, c⟩ := slotsF_inv n (L ++ [(slot1 L s).1]) (slot1 L s).2.1 (slot1 L s).2.2 (slot1_size L hs) (by
        intro x hx
        rcases List.mem_append.1 hx with h | h
        · exact hL x h
        · simp at h; subst h
          exact num_range _ _)
      refine ⟨a, b, ?_⟩
      simp at c; omega
theorem slotsR_inv {s : ByteArray} (hs : s.size ≤ 9223372036854775807) : (slotsR s).2.1.size ≤ 9223372036854775807 ∧ (∀ x ∈ (slotsR s).1, 0 ≤ x.2 ∧ x.2 ≤ 18446744073709551615) ∧ (slotsR s).1.length ≤ 65536 := by
  have hs1 := num_size hs 0
  have e0 : numS s 0 = gets s := if_pos rfl
  unfold slotsR
  split
  · exact ⟨hs1, by simp, by simp⟩
  · rename_i hbad
    obtain ⟨a, b, c⟩ := slotsF_inv (numS s 0).1.toNat [] (numS s 0).2.1 (numS s 0).2.2 hs1 (by simp)
    refine ⟨a, b, ?_⟩
    have hmany : (numS s 0).1 ≤ 65536 := by
      rw [e0] at hbad ⊢
      rcases gets_err s with h | h | h
      · omega
      · rw [h]; simp
      · rw [h]; simp
    simp at c; omega

/-- What the loop over the slots and the code behind it come to, as one. -/
theorem rd_tail {T : FuncId → Option AFunc} (s0 : ByteArray) (h0 h1 : Heap) (br bo : Nat) (L : List (Int × Int)) (r : ByteArray) (hr : r.size ≤ 9223372036854775807) (hl : L.length ≤ 65536) (hsz : ∀ x ∈ L, 0 ≤ x.2 ∧ x.2 ≤ 18446744073709551615) (hI : InvD h0 h1 br bo 0 L [] r) (a1 a2 a3 a4 a7 a8 a9 a10 a11 a12 a13 a14 a15 a16 a17 a18 a19 a20 a21 a22 a23 : AV) :
    ∃ H bd tm', tm'[2]? = some (rowE bd (match datF L [] r with | some (E, _) => E | none => [])) ∧ tm'[3]? = some (.s (.string (match datF L [] r with | some (_, r) => r | none => ⟨#[]⟩))) ∧ tm'[4]? = some (.s (.int .i64 (match datF L [] r with | some _ => 0 | none => 5))) ∧
      (∀ b, b < h0.length → bk H b = bk h0 b) ∧ h0.length ≤ H.length ∧ (∀ E r', datF L [] r = some (E, r') → E ≠ [] → h0.length ≤ bd ∧ bk H bd = some ⟨E.length - 1, 52, 2, true, E.flatMap entC⟩) ∧
      Run Try.prog T tail33 ([.s (.string s0), a1, a2, a3, a4, .pt br 0 0, outA bo L, a7, a8, a9, a10, a11, a12, a13, a14, a15, a16, a17, a18, a19, a20, a21, a22, a23] ++ List.replicate 45 (.s undef)) h1 (.ret, tm', H) := by
  have hend : ∀ (H : Heap) (bd : Nat) (E : List (Int × ByteArray)) (r' : ByteArray) (tm : List AV), tm.length = 69 → tm[5]? = some (.pt br 0 0) → tm[7]? = some (rowE bd E) → InvD h0 H br bo bd L E r' →
      ∃ tm', tm'[2]? = some (rowE bd E) ∧ tm'[3]? = some (.s (.string r')) ∧ tm'[4]? = some (.s (.int .i64 0)) ∧ Run Try.prog T (match tail33 with | .seq _ (.seq _ t) => t | _ => .skip) tm H (.ret, tm', H) := by
    intro H bd E r' tm l t5 t7 hI
    have hb := hI.rd
    have g5 := (List.getElem?_eq_some_iff.1 t5).2
    have g7 := (List.getElem?_eq_some_iff.1 t7).2
    refine ⟨?tm, ?o1, ?o2, ?o3, Run.step 30 fun k j => ?run⟩
    case run =>
      simp [tail33, c33, l, t5, t7, g5, g7, hb, oneOr]
      rfl
    case o1 => simp [l, g7]
    case o2 => simp [l]
    case o3 => simp [l]
  cases L with
  | nil =>
    obtain ⟨tm', t1, t2, t3, t4⟩ := rd_end (T := T) s0 h1 br (.s (.slice none 0 0)) (.s (.slice none 0 0)) 0 0 (by omega) a1 (.s (.slice none 0 0)) a8 a9 a10 a11 a12 a13 a14 a15 a16 a17 a18 a19 a20 a21 a22 a23 (.s undef) (.s undef) (.s undef) (.s undef) (.s undef)
    obtain ⟨tm2, x1, x2, x3, x4⟩ := hend h1 0 [] r tm' t1 t2 t3 hI
    refine ⟨h1, 0, tm2, x1, x2, x3, hI.old, hI.len, fun E r' he hE => by simp [datF] at he; exact absurd he.1 (by first | exact hE | exact Ne.symm hE), ?_⟩
    apply Run.seq
    · apply Run.step 20; intro k j
      simp
      (constructor <;> rfl)
    · apply Run.seq
      · apply Run.seq
        · apply Run.step 20; intro k j
          simp [outA]
          (constructor <;> rfl)
        · apply Run.block_exit
          refine Run.loop_end_f ?_ (by simp) t4
          simp [forget, fg33, tail33, c33, fr33]
      · exact x4
  | cons y L =>
    have ol : outA bo (y :: L) = .sl bo L.length 0 (L.length + 1) 3 := rfl
    rw [ol]
    obtain ⟨i1, i2⟩ := rd_loop (T := T) s0 h0 br bo L.length (y :: L) (by simp) (by simp at hl; omega) hsz (L.length + 1) 0 h1 0 [] r (by omega) rfl hr hI a1 (.sl bo L.length 0 (L.length + 1) 3) a8 a9 a10 a11 a12 a13 a14 a15 a16 a17 a18 a19 a20 a21 a22 a23 (.s undef) (.s undef) (.s undef) (.s undef) (.s undef)
    rw [List.drop_zero] at i1 i2
    cases he : datF (y :: L) [] r with
    | some res =>
      obtain ⟨E', r'⟩ := res
      obtain ⟨H, bd, tm', t1, t2, t3, t4, t5⟩ := i1 E' r' he
      obtain ⟨tm2, x1, x2, x3, x4⟩ := hend H bd E' r' tm' t1 t2 t3 t4
      refine ⟨H, bd, tm2, x1, x2, x3, t4.old, t4.len, fun E r' he hE => ?_, ?_⟩
      · simp only [Option.some.injEq, Prod.mk.injEq] at he
        obtain ⟨rfl, rfl⟩ := he
        exact ⟨(t4.out hE).1, (t4.out hE).2.2.2⟩
      · apply Run.seq
        · apply Run.step 20; intro k j
          simp
          (constructor <;> rfl)
        · apply Run.seq
          · apply Run.seq
            · apply Run.step 20; intro k j
              simp
              (constructor <;> rfl)
            · apply Run.block_exit
              apply Run.loop_go'
              · exact t5
              · simp [forget, fg33, tail33, c33, fr33, rowE]
          · exact x4
    | none =>
      obtain ⟨H, tm', t1, t2, t3, t4, t5⟩ := i2 he
      have hlen : h0.length ≤ H.length := by
        rcases Nat.eq_zero_or_pos h0.length with h0' | h0'
        · omega
        · have := t4 (h0.length - 1) (by omega)
          have e1 : bk h0 (h0.length - 1) = some (h0[h0.length - 1]'(by omega)) := List.getElem?_eq_getElem (by omega)
          rw [e1] at this
          have := bk_lt this
          omega
      refine ⟨H, 0, tm', t1, t2, t3, t4, hlen, fun E r' he => (by cases he), ?_⟩
      apply Run.seq
      · apply Run.step 20; intro k j
        simp
        (constructor <;> rfl)
      · apply Run.seq_stop (by simp)
        apply Run.seq
        · apply Run.step 20; intro k j
          simp
          (constructor <;> rfl)
        · apply Run.block_id (by simp)
          apply Run.loop_go'
          · exact t5
          · simp [forget, fg33, tail33, c33, fr33, rowE]
theorem read_run {T : FuncId → Option AFunc} (hT : T 33 = prepFn Try.prog 33) (hT2 : T 59 = prepFn Try.prog 59) (hN : T 76 = some (.hook hkNum)) (h0 : Heap) (s : ByteArray) (hs : s.size ≤ 9223372036854775807) :
    ∃ H bd, FRun Try.prog T 33 [.s (.string s)] h0 (.tp [rowE bd (readS s).1, .s (.string (readS s).2.1), .s (.int .i64 (readS s).2.2)], H) ∧ (∀ b, b < h0.length → bk H b = bk h0 b) ∧ h0.length ≤ H.length ∧
      ((readS s).1 ≠ [] → h0.length ≤ bd ∧ bk H bd = some ⟨(readS s).1.length - 1, 52, 2, true, (readS s).1.flatMap entC⟩) := by
  obtain ⟨H1, bo, hF, hI⟩ := slots_run hT2 hN (h0 ++ [⟨0, 90, 2, true, [.s (.string s), .s (.int .i64 0)]⟩]) h0.length 0 90 s hs (by simp)
  obtain ⟨J, hF⟩ := hF.get
  have hb := hI.rd
  obtain ⟨v1, v2, v3⟩ := slotsR_inv hs
  have hle := hI.len
  simp at hle
  have hold : ∀ b, b < h0.length → bk H1 b = bk h0 b := fun b hb => by
    rw [hI.old b (by simp; omega) (by omega), bk_app hb]
  by_cases hw : (slotsR s).2.2 = 0
  · have hD : InvD h0 H1 h0.length bo 0 (slotsR s).1 [] (slotsR s).2.1 := by
      refine ⟨by rw [← hw]; exact hI.rd, fun hne => ?_, hold, by omega, Nat.le_refl _, fun h => absurd rfl h⟩
      obtain ⟨a, b, c⟩ := hI.out hne
      simp at a
      exact ⟨b, by omega, c⟩
    have e : readS s = (match datF (slotsR s).1 [] (slotsR s).2.1 with | some (E, r) => (E, r, 0) | none => ([], ⟨#[]⟩, 5)) := if_neg (by simpa using hw)
    obtain ⟨H, bd, tm', x1, x2, x3, x4, x5, x6, x7⟩ := rd_tail (T := T) s h0 H1 h0.length bo (slotsR s).1 (slotsR s).2.1 v1 v3 v2 hD (.s undef) (.s (.slice none 0 0)) (.s (.string ⟨#[]⟩)) (.s (.int .i64 0)) (.s undef) (.s undef) (.s undef) (.s (.string s)) (.ag [.s (.string s), .s (.int .i64 0)]) (.pt h0.length 0 0) (.pt h0.length 0 0) (outA bo (slotsR s).1) (.pt h0.length 0 0) (.pt h0.length 0 0) (.pt h0.length 0 1) (.s (.int .i64 (slotsR s).2.2)) (.s (.bool false)) (.s undef) (.s undef) (.s undef) (.s undef)
    have hrun : Run Try.prog T c33 ([.s (.string s)] ++ List.replicate 68 (.s undef)) h0 (.ret, tm', H) := by
      apply Run.seq
      · apply Run.step 20; intro k j
        simp
        (constructor <;> rfl)
      · apply Run.seq
        · apply Run.step 20; intro k j
          simp [fillA, cellsOf]
          (constructor <;> rfl)
        · apply Run.seq
          · apply Run.stepJ 20 J; intro k j hj
            simp [hF j hj]
            (constructor <;> rfl)
          · apply Run.seq
            · apply Run.step 20; intro k j
              simp [hb, oneOr, eq_true hw]
              (constructor <;> rfl)
            · exact x7
    refine ⟨H, bd, FRun.of (e := .ret) (hT.trans p33) hrun (Or.inl rfl) ?_, x4, x5, ?_⟩
    · rw [e]
      simp only [resAs, resA, x1, x2, x3]
      cases datF (slotsR s).1 [] (slotsR s).2.1 <;> rfl
    · rw [e]
      intro hne
      cases hd : datF (slotsR s).1 [] (slotsR s).2.1 with
      | none => rw [hd] at hne; exact absurd rfl hne
      | some res =>
        obtain ⟨E, r⟩ := res
        rw [hd] at hne
        exact x6 E r hd hne
  · have e : readS s = ([], ⟨#[]⟩, (slotsR s).2.2) := if_pos hw
    rw [e]
    refine ⟨H1, 0, ?_, hold, by omega, fun h => absurd rfl h⟩
    apply FRun.of (e := .ret) (hT.trans p33)
    · apply Run.seq
      · apply Run.step 20; intro k j
        simp
        (constructor <;> rfl)
      · apply Run.seq
        · apply Run.step 20; intro k j
          simp [fillA, cellsOf]
          (constructor <;> rfl)
        · apply Run.seq
          · apply Run.stepJ 20 J; intro k j hj
            simp [hF j hj]
            (constructor <;> rfl)
          · apply Run.seq_stop (by simp)
            apply Run.step 20; intro k j
            simp [hb, oneOr, eq_false hw]
            rfl
    · exact Or.inl rfl
    · rfl
end Go.Proofs.Ytpmoellbfgcefaa.AS
end
section
set_option autoImplicit false
set_option maxRecDepth 100000
set_option maxHeartbeats 2000000
namespace Go.Proofs.Ytpmoellbfgcefaa.AS
open Go Go.Proofs Go.RowKit Go.Proofs.Ytpmoellbfgcefaa.AS.V

/-- A row of entries as a call's result: nothing, or one block that is new. -/
def rowN (n : Nat) (E : List (Int × ByteArray)) : AV := if E = [] then .s (.slice none 0 0) else .sl n 0 0 E.length 2
def rowH (h : Heap) (E : List (Int × ByteArray)) : Heap := if E = [] then h else h ++ [⟨0, 52, 2, true, E.flatMap entC⟩]
theorem flat_entC : ∀ E : List (Int × ByteArray), ∃ us, toVs (E.flatMap entC) = some us
  | [] => ⟨[], rfl⟩
  | x :: E => by
    obtain ⟨us, h⟩ := flat_entC E
    exact ⟨.int .u64 x.1 :: .string x.2 :: us, by simp [entC, toVs, toV, h]⟩
theorem grows_of {h H : Heap} (h1 : ∀ b, b < h.length → bk H b = bk h b) : Grows h H := h1
theorem rowE_sl {b : Nat} {E : List (Int × ByteArray)} (h : E ≠ []) : rowE b E = .sl b (E.length - 1) 0 E.length 2 := by
  cases E with
  | nil => exact absurd rfl h
  | cons x E => simp [rowE]
noncomputable def hkRead : List AV → Heap → Option (AV × Heap)
  | [.s (.string s)], h => if s.size ≤ 9223372036854775807 then some (.tp [rowN h.length (readS s).1, .s (.string (readS s).2.1), .s (.int .i64 (readS s).2.2)], rowH h (readS s).1) else none
  | _, _ => none
theorem row_drop {h H : Heap} {bd : Nat} {E : List (Int × ByteArray)} {l : List AV} {us : List Value} (hl : toVs l = some us) (h1 : ∀ b, b < h.length → bk H b = bk h b) (h2 : E ≠ [] → h.length ≤ bd ∧ bk H bd = some ⟨E.length - 1, 52, 2, true, E.flatMap entC⟩) :
    Drops h (.tp (rowE bd E :: l), H) (.tp (rowN h.length E :: l), rowH h E) := by
  by_cases hE : E = []
  · subst hE
    have e1 : rowN h.length [] = .s (.slice none 0 0) := rfl
    have e2 : rowH h [] = h := rfl
    rw [e1, e2]
    exact Drops.flat (grows_of h1) (by simp [toV, toVs, rowE, hl])
  · obtain ⟨a, b⟩ := h2 hE
    obtain ⟨us', hu⟩ := flat_entC E
    have e1 : rowN h.length E = .sl h.length 0 0 E.length 2 := if_neg hE
    have e2 : rowH h E = h ++ [⟨0, 52, 2, true, E.flatMap entC⟩] := if_neg hE
    rw [e1, e2, rowE_sl hE]
    exact Drops.fresh (k := ⟨E.length - 1, 52, 2, true, E.flatMap entC⟩) (grows_of h1) a b hu hl
theorem hkRead_ok {T : FuncId → Option AFunc} (hm : Try.prog.follows .mixedOrders = true) (hT : TabOK Try.prog T) (h33 : T 33 = prepFn Try.prog 33) (h59 : T 59 = prepFn Try.prog 59) (hN : T 76 = some (.hook hkNum)) (hc : callable Try.prog 33 = true) : HookSound Try.prog 33 hkRead := by
  refine hookOf hm hT hc fun l h r he => ?_
  unfold hkRead at he
  split at he
  · rename_i s
    split at he
    · rename_i hs
      cases he
      obtain ⟨H, bd, hF, h1, h2, h3⟩ := read_run h33 h59 hN h s hs
      exact ⟨_, hF, row_drop (us := [.string (readS s).2.1, .int .i64 (readS s).2.2]) rfl h1 h3⟩
    · cases he
  · cases he
end Go.Proofs.Ytpmoellbfgcefaa.AS
end
