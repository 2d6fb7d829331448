/- What the printed functions of the records come to. -/
import Derived.Test.YtienpgbbjahadaaR
import Derived.Test.YtienpgbbjahadaaVEv
import Derived.Test.YtienpgbbjahadaaPA16
import Derived.Test.YtienpgbbjahadaaPA17
import Derived.Test.YtienpgbbjahadaaPA18
import Derived.Test.YtienpgbbjahadaaPA19
import Derived.Test.YtienpgbbjahadaaPA20
import Derived.Test.YtienpgbbjahadaaPA22
namespace Go.Proofs.YtienpgbbjahadaaV
open Go.RowKit Go.Proofs.YtienpgbbjahadaaW.PrintWords Go.Proofs.YtienpgbbjahadaaW.PrintLast Go.Proofs.YtienpgbbjahadaaW.PrintMore Go.Proofs.Ytienpgbbjahadaa.PA
set_option linter.unusedVariables false

theorem on_l : ∀ (d i : Nat) (a : BitVec 32), i + d = 8 → Ev (fun k => rec_on.l0 k (U a) (i : Int)) (U (csteps d a)) := by
  intro d
  induction d with
  | zero =>
    intro i a h
    refine Ev_one fun k => ?_
    simp only [rec_on.l0]
    rw [if_neg (by omega)]; rfl
  | succ d ih =>
    intro i a h
    refine Ev.step (f := fun k => rec_on.l0 k (U (cstep a)) ((i + 1 : Nat) : Int)) (fun k => ?_) (ih (i + 1) (cstep a) (by omega))
    simp only [rec_on.l0]
    rw [if_pos (by omega), on_step, w64 (by omega) (by omega)]; rfl
theorem on_ev (a : BitVec 32) {c : Int} (h0 : 0 ≤ c) (h1 : c ≤ 255) : Ev (fun k => rec_on.f k (U a) c) (U (cbyte a c)) := by
  unfold rec_on.f
  have e : c % 4294967296 = U (BitVec.ofNat 32 c.toNat) := by rw [U_ofNat _ (by omega)]; omega
  rw [e, xorU]
  exact on_l 8 0 _ (by omega)
theorem rdOf_nat (l : List ByteArray) (i : Nat) : rdOf ByteArray.empty l (i : Int) = l.getD i ByteArray.empty := by unfold rdOf; rw [Int.toNat_natCast]
/-- The texts one behind the other. -/
def catL (l : List ByteArray) : List Int := l.flatMap bytesOf
theorem getDB_at {l : List ByteArray} {i : Nat} (h : i < l.length) : l.getD i ByteArray.empty = l[i] := by simp [List.getD_eq_getElem?_getD, h]
theorem drop_getDB {l : List ByteArray} {i : Nat} (h : i < l.length) : l.drop i = l.getD i ByteArray.empty :: l.drop (i + 1) := by
  rw [List.drop_eq_getElem_cons h, getDB_at h]
theorem sum_l1 (l : List ByteArray) (s : ByteArray) (hs : s.size ≤ 9223372036854775807) (x : Int) (o : BitVec 32 → Int) (j : Nat) (hj : j ≤ 9223372036854775806)
    (next : ∀ a, Ev (fun k => rec_sum.l0 k (U a) l x ((j + 1 : Nat) : Int)) (o a)) : ∀ (d i : Nat) (a : BitVec 32), i + d = s.size →
    Ev (fun k => rec_sum.l1 k (U a) s l x (j : Int) (s.size : Int) (i : Int)) (o (crcL a ((bytesOf s).drop i))) := by
  intro d
  induction d with
  | zero =>
    intro i a h
    rw [List.drop_eq_nil_of_le (by rw [bytesOf_length]; omega)]
    refine Ev.step (f := fun k => rec_sum.l0 k (U a) l x ((j + 1 : Nat) : Int)) (fun k => ?_) (next a)
    simp only [rec_sum.l1]
    rw [if_neg (by omega), w64 (by omega) (by omega)]; rfl
  | succ d ih =>
    intro i a h
    have hc := bt_range s (i : Int)
    rw [bytesOf_drop_cons s i (by omega)]
    refine Ev.step (f := fun k => (rec_on.f k (U a) (bt s (i : Int))).bind fun t => rec_sum.l1 k t s l x (j : Int) (s.size : Int) ((i + 1 : Nat) : Int)) (fun k => ?_) ?_
    · simp only [rec_sum.l1]
      rw [if_pos (by omega), if_pos (by omega), if_pos (by omega), w64 (by omega) (by omega)]; rfl
    · exact Ev.bind (on_ev a hc.1 hc.2) (ih (i + 1) _ (by omega))
theorem sum_l0 (l : List ByteArray) (hl : l.length ≤ 9223372036854775806) (hs : ∀ s ∈ l, s.size ≤ 9223372036854775807) : ∀ (d i : Nat) (a : BitVec 32), i + d = l.length →
    Ev (fun k => rec_sum.l0 k (U a) l (l.length : Int) (i : Int)) (U (~~~ crcL a (catL (l.drop i)))) := by
  intro d
  induction d with
  | zero =>
    intro i a h
    refine Ev_one fun k => ?_
    simp only [rec_sum.l0]
    rw [if_neg (by omega), List.drop_eq_nil_of_le (by omega), show (4294967295 : Int) = U (BitVec.allOnes 32) by decide, xorU, BitVec.xor_comm, BitVec.xor_allOnes]
    rfl
  | succ d ih =>
    intro i a h
    have hi : i < l.length := by omega
    have hm : l.getD i ByteArray.empty ∈ l := by rw [getDB_at hi]; exact List.getElem_mem hi
    rw [drop_getDB hi]
    refine Ev.step (f := fun k => rec_sum.l1 k (U a) (l.getD i ByteArray.empty) l (l.length : Int) (i : Int) ((l.getD i ByteArray.empty).size : Int) ((0 : Nat) : Int)) (fun k => ?_) ?_
    · simp only [rec_sum.l0, rdOf_nat]
      rw [if_pos (by omega), if_pos (by omega), if_pos (by omega)]; rfl
    · have := sum_l1 l (l.getD i ByteArray.empty) (hs _ hm) (l.length : Int) (fun a => U (~~~ crcL a (catL (l.drop (i + 1))))) i (by omega) (fun a => ih (i + 1) a (by omega)) (l.getD i ByteArray.empty).size 0 a (by omega)
      rw [List.drop_zero, ← crcL_append] at this
      exact this
theorem sum_ev (l : List ByteArray) (hl : l.length ≤ 9223372036854775806) (hs : ∀ s ∈ l, s.size ≤ 9223372036854775807) : Ev (fun k => rec_sum.f k l) (U (~~~ crcL (BitVec.allOnes 32) (catL l))) := by
  have := sum_l0 l hl hs l.length 0 (BitVec.allOnes 32) (by omega)
  unfold rec_sum.f
  rw [List.drop_zero, show U (BitVec.allOnes 32) = 4294967295 by decide] at this
  exact this
theorem sum2_ev (a b : ByteArray) (ha : a.size ≤ 9223372036854775807) (hb : b.size ≤ 9223372036854775807) : Ev (fun k => rec_sum.f k [a, b]) (U (crc (a ++ b))) := by
  have := sum_ev [a, b] (by simp) (by intro s hs; simp at hs; rcases hs with rfl | rfl <;> assumption)
  have e : catL [a, b] = bytesOf (a ++ b) := by simp [catL, bytesOf_append]
  rw [e] at this
  exact this
theorem sum1_ev (a : ByteArray) (ha : a.size ≤ 9223372036854775807) : Ev (fun k => rec_sum.f k [a]) (U (crc a)) := by
  have := sum_ev [a] (by simp) (by intro s hs; simp at hs; rcases hs with rfl; assumption)
  have e : catL [a] = bytesOf a := by simp [catL]
  rw [e] at this
  exact this
theorem bytes_eq (a : BitVec 32) : rec_bytes.f (U a) = some (four a) := by
  unfold rec_bytes.f four fourL
  rfl
theorem four_ref (a : BitVec 32) : missiveref02_four.f (U a) = some (four a) := by
  have := U_range a
  unfold missiveref02_four.f four fourL
  rw [Int.tdiv_eq_ediv_of_nonneg this.1, Int.tdiv_eq_ediv_of_nonneg this.1, Int.tdiv_eq_ediv_of_nonneg this.1]

theorem rsum_l1 (s : ByteArray) (hs : s.size ≤ 9223372036854775806) (o : BitVec 32 → Int) (j : Nat) (hj : j < s.size)
    (next : ∀ a, Ev (fun k => missiveref02_Sum.l0 k s (U a) ((j + 1 : Nat) : Int)) (o a)) : ∀ (d i : Nat) (a : BitVec 32), i + d = 8 →
    Ev (fun k => missiveref02_Sum.l1 k s (U a) (j : Int) (i : Int)) (o (rsteps (BitVec.ofNat 32 (bt s (j : Int)).toNat) d i a)) := by
  have hc := bt_range s (j : Int)
  generalize hcv : bt s (j : Int) = c at hc
  intro d
  induction d with
  | zero =>
    intro i a h
    refine Ev.step (f := fun k => missiveref02_Sum.l0 k s (U a) ((j + 1 : Nat) : Int)) (fun k => ?_) (next a)
    simp only [missiveref02_Sum.l1]
    rw [if_neg (by omega), w64 (by omega) (by omega)]; rfl
  | succ d ih =>
    intro i a h
    have hw : IntKind.u64.wrap (i : Int) = (i : Int) := wu64 (by omega) (by omega)
    have hsh : (shr .u8 c (i : Int)) % 4294967296 = U (BitVec.ofNat 32 c.toNat >>> i) := by
      unfold shr U
      rw [show min ((i : Int)).toNat IntKind.u8.bits = i by simp only [IntKind.bits]; omega, BitVec.toNat_ushiftRight, BitVec.toNat_ofNat, Nat.shiftRight_eq_div_pow, Nat.mod_eq_of_lt (by omega)]
      have e : c / 2 ^ i = ((c.toNat / 2 ^ i : Nat) : Int) := by
        rw [Int.natCast_ediv, show ((c.toNat : Nat) : Int) = c by omega]; simp
      have h2 : c.toNat / 2 ^ i ≤ c.toNat := Nat.div_le_self ..
      rw [e]
      clear e
      generalize c.toNat / 2 ^ i = q at h2 ⊢
      omega
    have hr := U_range a
    refine Ev.step (f := fun k => missiveref02_Sum.l1 k s (U (rstep (BitVec.ofNat 32 c.toNat) i a)) (j : Int) ((i + 1 : Nat) : Int)) (fun k => ?_) (ih (i + 1) _ (by omega))
    simp only [missiveref02_Sum.l1, hcv]
    rw [if_pos (by omega), if_pos (by omega), if_pos (by omega), hw, if_pos (by omega), hsh, xorU, Int.tmod_eq_emod_of_nonneg (U_range _).1, w64 (by omega) (by omega), Int.tdiv_eq_ediv_of_nonneg hr.1, show (U a / 2) % 4294967296 = U a / 2 by omega, U_half, show (3988292384 : Int) = U poly by decide, xorU]
    unfold rstep
    have hodd : U (a ^^^ BitVec.ofNat 32 c.toNat >>> i) % 2 = 1 ↔ (a ^^^ BitVec.ofNat 32 c.toNat >>> i).toNat % 2 = 1 := by unfold U; omega
    by_cases hp : (a ^^^ BitVec.ofNat 32 c.toNat >>> i).toNat % 2 = 1
    · rw [if_pos (hodd.mpr hp), if_pos hp]; rfl
    · rw [if_neg (fun h => hp (hodd.mp h)), if_neg hp, BitVec.xor_zero]; rfl
theorem rsum_l0 (s : ByteArray) (hs : s.size ≤ 9223372036854775806) : ∀ (d i : Nat) (a : BitVec 32), i + d = s.size → Ev (fun k => missiveref02_Sum.l0 k s (U a) (i : Int)) (U (~~~ crcL a ((bytesOf s).drop i))) := by
  intro d
  induction d with
  | zero =>
    intro i a h
    have hr := U_range a
    refine Ev_one fun k => ?_
    simp only [missiveref02_Sum.l0]
    rw [if_neg (by omega), List.drop_eq_nil_of_le (by rw [bytesOf_length]; omega)]
    have e : U (~~~ a) = 4294967295 - U a := by unfold U; rw [BitVec.toNat_not]; have := a.isLt; omega
    show some _ = some (U (~~~ a))
    rw [e, show (4294967295 - U a) % 4294967296 = 4294967295 - U a by omega]
  | succ d ih =>
    intro i a h
    have hc := bt_range s (i : Int)
    rw [bytesOf_drop_cons s i (by omega)]
    refine Ev.step (f := fun k => missiveref02_Sum.l1 k s (U a) (i : Int) ((0 : Nat) : Int)) (fun k => ?_) ?_
    · simp only [missiveref02_Sum.l0]
      rw [if_pos (by omega)]; rfl
    · have := rsum_l1 s hs (fun a => U (~~~ crcL a ((bytesOf s).drop (i + 1)))) i (by omega) (fun a => ih (i + 1) a (by omega)) 8 0 a (by omega)
      rw [rsteps_cbyte hc.1 hc.2] at this
      exact this
theorem sum_ref (s : ByteArray) (hs : s.size ≤ 9223372036854775806) : Ev (fun k => missiveref02_Sum.f k s) (U (crc s)) := by
  have := rsum_l0 s hs s.size 0 (BitVec.allOnes 32) (by omega)
  unfold missiveref02_Sum.f
  rw [List.drop_zero, show U (BitVec.allOnes 32) = 4294967295 by decide] at this
  exact this

theorem frame_ev (s : ByteArray) : Ev (fun k => rec_Frame.f k s) (frames s) := by
  unfold rec_Frame.f frames
  by_cases h : (s.size : Int) > 1048576
  · rw [if_pos h]; exact Ev_if h (Ev.now _)
  · rw [if_neg h]
    refine Ev_ifn h ?_
    have hl := leb_length_le (n := (s.size : Int)) (by omega) (by omega)
    have hp := puts_size (s.size : Int)
    rw [wu64 (by omega) (by omega)]
    refine Ev.bind (put_ev (by omega) (by omega)) ?_
    refine Ev.bind (sum2_ev _ _ (by omega) (by omega)) ?_
    refine Ev.bind (Ev_const (bytes_eq _)) ?_
    refine Ev_if (by rw [four_size]; omega) (Ev_if (by rw [ByteArray.size_append, four_size]; omega) (Ev.now _))
theorem frame_ref (s : ByteArray) : Ev (fun k => missiveref02_Frame.f k s) (frames s) := by
  unfold missiveref02_Frame.f frames
  by_cases h : (s.size : Int) > 1048576
  · rw [if_pos h]; exact Ev_if h (Ev.now _)
  · rw [if_neg h]
    refine Ev_ifn h ?_
    have hl := leb_length_le (n := (s.size : Int)) (by omega) (by omega)
    have hp := puts_size (s.size : Int)
    rw [wu64 (by omega) (by omega)]
    refine Ev.bind (put_ref (by omega) (by omega)) ?_
    refine Ev_if (by omega) ?_
    refine Ev.bind (sum_ref _ (by rw [ByteArray.size_append]; omega)) ?_
    refine Ev.bind (Ev_const (four_ref _)) ?_
    refine Ev_if (by rw [four_size]; omega) (Ev_if (by rw [ByteArray.size_append, four_size]; omega) (Ev.now _))
theorem next_facts {s : ByteArray} (hs : s.size ≤ 1407374883553280) (hg : (gets s).2.2 = 0) (h1 : ¬ (gets s).1 > 1048576) : 0 ≤ (gets s).1 ∧ wrap64 (gets s).1 = (gets s).1 ∧ wrap64 (4 + wrap64 (gets s).1) = 4 + (gets s).1 ∧ (4 + (gets s).1).toNat = 4 + (gets s).1.toNat ∧ s = puts (gets s).1 ++ (gets s).2.1 ∧ (gets s).2.1.size ≤ s.size ∧ 1 ≤ (leb (gets s).1).length ∧ (leb (gets s).1).length ≤ 10 := by
  obtain ⟨hs', g0, g1⟩ := gets_ok (s := s) (n := (gets s).1) (r := (gets s).2.1) (Prod.ext rfl (Prod.ext rfl hg))
  have e : wrap64 (gets s).1 = (gets s).1 := w64 (by omega) (by omega)
  exact ⟨g0, e, by rw [e, w64 (by omega) (by omega)], by omega, hs', gets_shorter s, leb_length_le g0 g1⟩
theorem next_ev (s : ByteArray) (hs : s.size ≤ 1407374883553280) : Ev (fun k => rec_Next.f k s) (nexts s) := by
  unfold rec_Next.f nexts
  refine Ev.bind (get_ev s (by omega)) ?_
  by_cases hg : (gets s).2.2 = 0
  · rw [if_pos hg]
    refine Ev_if hg ?_
    by_cases h1 : (gets s).1 > 1048576
    · rw [if_pos h1]; exact Ev_if h1 (Ev.now _)
    · rw [if_neg h1]
      refine Ev_ifn h1 ?_
      obtain ⟨g0, e1, e2, e3, e4, hsh, l0, l1⟩ := next_facts hs hg h1
      have e5 : wrap64 (((gets s).2.1.size : Int) - 4) = ((gets s).2.1.size : Int) - 4 := w64 (by omega) (by omega)
      rw [e1] at *
      by_cases h2 : ((gets s).2.1.size : Int) < 4 + (gets s).1
      · rw [if_pos h2]; exact Ev_if (by rw [e5]; omega) (Ev.now _)
      · rw [if_neg h2, e2, e3]
        have hsz : s.size = (leb (gets s).1).length + (gets s).2.1.size := by
          have := congrArg ByteArray.size e4
          rw [ByteArray.size_append, puts_size] at this
          exact this
        refine Ev_ifn (by rw [e5]; omega) (Ev_if (by omega) (Ev_if (by omega) (Ev_if (by omega) (Ev_if (by omega) (Ev_if (by omega) ?_)))))
        refine Ev.bind (Ev_const (size_eq g0 (by omega))) ?_
        refine Ev_if (by omega) (Ev_if (by omega) ?_)
        have ex : s.extract 0 (((leb (gets s).1).length : Int)).toNat = puts (gets s).1 := by
          rw [Int.toNat_natCast]
          have h := extract_head (a := puts (gets s).1) (b := (gets s).2.1) (puts_size (gets s).1)
          rw [← e4] at h
          exact h
        rw [ex]
        refine Ev.bind (sum2_ev _ _ (by rw [puts_size]; omega) (by rw [ByteArray.size_extract]; omega)) ?_
        refine Ev.bind (Ev_const (bytes_eq _)) ?_
        by_cases h3 : four (crc (puts (gets s).1 ++ (gets s).2.1.extract 4 (4 + (gets s).1.toNat))) = (gets s).2.1.extract 0 4
        · rw [if_pos h3]; exact Ev_if (by rw [h3]) (Ev.now _)
        · rw [if_neg h3]; exact Ev_ifn (fun h => h3 (toList_inj h)) (Ev.now _)
  · rw [if_neg hg]; exact Ev_ifn hg (Ev.now _)
theorem next_ref (s : ByteArray) (hs : s.size ≤ 1407374883553280) : Ev (fun k => missiveref02_Next.f k s) (nexts s) := by
  unfold missiveref02_Next.f nexts
  refine Ev.bind (get_ref s (by omega)) ?_
  by_cases hg : (gets s).2.2 = 0
  · rw [if_pos hg]
    refine Ev_if hg ?_
    by_cases h1 : (gets s).1 > 1048576
    · rw [if_pos h1]; exact Ev_if h1 (Ev.now _)
    · rw [if_neg h1]
      refine Ev_ifn h1 ?_
      obtain ⟨g0, e1, e2, e3, e4, hsh, l0, l1⟩ := next_facts hs hg h1
      rw [e1] at *
      by_cases h2 : ((gets s).2.1.size : Int) < 4 + (gets s).1
      · rw [if_pos h2]; exact Ev_if (by rw [e2]; omega) (Ev.now _)
      · rw [if_neg h2, e2, e3]
        refine Ev_ifn (by omega) (Ev_if (by omega) (Ev_if (by omega) ?_))
        refine Ev.bind (put_ref g0 (by omega)) ?_
        refine Ev_if (by rw [puts_size, ByteArray.size_extract]; omega) ?_
        refine Ev.bind (sum_ref _ (by rw [ByteArray.size_append, puts_size, ByteArray.size_extract]; omega)) ?_
        refine Ev.bind (Ev_const (four_ref _)) ?_
        refine Ev_if (by omega) (Ev_if (by omega) ?_)
        by_cases h3 : four (crc (puts (gets s).1 ++ (gets s).2.1.extract 4 (4 + (gets s).1.toNat))) = (gets s).2.1.extract 0 4
        · rw [if_pos h3]; exact Ev_if (by rw [h3]) (Ev_if (by omega) (Ev.now _))
        · rw [if_neg h3]; exact Ev_ifn (fun h => h3 (toList_inj h)) (Ev.now _)
  · rw [if_neg hg]; exact Ev_ifn hg (Ev.now _)
theorem sumOf_ev (s : ByteArray) (hs : s.size ≤ 9223372036854775807) : Ev (fun k => rec_Sum.f k s) (U (crc s)) := by
  unfold rec_Sum.f
  exact Ev.bind (sum1_ev s hs) (Ev.now _)
theorem lives2_ev : Ev (fun k => missivelaw02_lives.f k) true := Ev.of (fun k => missivelaw02_lives.mono k) (k := 40) (by decide +kernel)
end Go.Proofs.YtienpgbbjahadaaV
