/- What the printed functions of the records come to. -/
import Derived.Test.YtpmoellbfgcefaaR
import Derived.Test.YtpmoellbfgcefaaVEv
import Derived.Test.YtpmoellbfgcefaaPA19
import Derived.Test.YtpmoellbfgcefaaPA20
import Derived.Test.YtpmoellbfgcefaaPA21
namespace Go.Proofs.YtpmoellbfgcefaaV
open Go.RowKit Go.Proofs.YtpmoellbfgcefaaW.PrintWords Go.Proofs.YtpmoellbfgcefaaW.PrintLast Go.Proofs.YtpmoellbfgcefaaW.PrintMore Go.Proofs.Ytpmoellbfgcefaa.PA
set_option linter.unusedVariables false

theorem on_l : ∀ (d i : Nat) (a : BitVec 32), i + d = 8 → Ev (fun k => rec_on.l0 k (U a) (i : Int)) (U (csteps d a)) := by
  intro d
  induction d with
  | zero =>
    intro i a h
    refine Ev_one fun k => ?_
    simp only [rec_on.l0]
    rw [if_neg (by omega)]; rfl
  | succ d ih =>
    intro i a h
    refine Ev.step (f := fun k => rec_on.l0 k (U (cstep a)) ((i + 1 : Nat) : Int)) (fun k => ?_) (ih (i + 1) (cstep a) (by omega))
    simp only [rec_on.l0]
    rw [if_pos (by omega), on_step, w64 (by omega) (by omega)]; rfl
theorem on_ev (a : BitVec 32) {c : Int} (h0 : 0 ≤ c) (h1 : c ≤ 255) : Ev (fun k => rec_on.f k (U a) c) (U (cbyte a c)) := by
  unfold rec_on.f
  have e : c % 4294967296 = U (BitVec.ofNat 32 c.toNat) := by rw [U_ofNat _ (by omega)]; omega
  rw [e, xorU]
  exact on_l 8 0 _ (by omega)
theorem rdOf_nat (l : List ByteArray) (i : Nat) : rdOf ByteArray.empty l (i : Int) = l.getD i ByteArray.empty := by unfold rdOf; rw [Int.toNat_natCast]
/-- The texts one behind the other. -/
def catL (l : List ByteArray) : List Int := l.flatMap bytesOf
theorem getDB_at {l : List ByteArray} {i : Nat} (h : i < l.length) : l.getD i ByteArray.empty = l[i] := by simp [List.getD_eq_getElem?_getD, h]
theorem drop_getDB {l : List ByteArray} {i : Nat} (h : i < l.length) : l.drop i = l.getD i ByteArray.empty :: l.drop (i + 1) := by
  rw [List.drop_eq_getElem_cons h, getDB_at h]
theorem sum_l1 (l : List ByteArray) (s : ByteArray) (hs : s.size ≤ 9223372036854775807) (x : Int) (o : BitVec 32 → Int) (j : Nat) (hj : j ≤ 9223372036854775806)
    (next : ∀ a, Ev (fun k => rec_sum.l0 k (U a) l x ((j + 1 : Nat) : Int)) (o a)) : ∀ (d i : Nat) (a : BitVec 32), i + d = s.size →
    Ev (fun k => rec_sum.l1 k (U a) s l x (j : Int) (s.size : Int) (i : Int)) (o (crcL a ((bytesOf s).drop i))) := by
  intro d
  induction d with
  | zero =>
    intro i a h
    rw [List.drop_eq_nil_of_le (by rw [bytesOf_length]; omega)]
    refine Ev.step (f := fun k => rec_sum.l0 k (U a) l x ((j + 1 : Nat) : Int)) (fun k => ?_) (next a)
    simp only [rec_sum.l1]
    rw [if_neg (by omega), w64 (by omega) (by omega)]; rfl
  | succ d ih =>
    intro i a h
    have hc := bt_range s (i : Int)
    rw [bytesOf_drop_cons s i (by omega)]
    refine Ev.step (f := fun k => (rec_on.f k (U a) (bt s (i : Int))).bind fun t => rec_sum.l1 k t s l x (j : Int) (s.size : Int) ((i + 1 : Nat) : Int)) (fun k => ?_) ?_
    · simp only [rec_sum.l1]
      rw [if_pos (by omega), if_pos (by omega), if_pos (by omega), w64 (by omega) (by omega)]; rfl
    · exact Ev.bind (on_ev a hc.1 hc.2) (ih (i + 1) _ (by omega))
theorem sum_l0 (l : List ByteArray) (hl : l.length ≤ 9223372036854775806) (hs : ∀ s ∈ l, s.size ≤ 9223372036854775807) : ∀ (d i : Nat) (a : BitVec 32), i + d = l.length →
    Ev (fun k => rec_sum.l0 k (U a) l (l.length : Int) (i : Int)) (U (~~~ crcL a (catL (l.drop i)))) := by
  intro d
  induction d with
  | zero =>
    intro i a h
    refine Ev_one fun k => ?_
    simp only [rec_sum.l0]
    rw [if_neg (by omega), List.drop_eq_nil_of_le (by omega), show (4294967295 : Int) = U (BitVec.allOnes 32) by decide, xorU, BitVec.xor_comm, BitVec.xor_allOnes]
    rfl
  | succ d ih =>
    intro i a h
    have hi : i < l.length := by omega
    have hm : l.getD i ByteArray.empty ∈ l := by rw [getDB_at hi]; exact List.getElem_mem hi
    rw [drop_getDB hi]
    refine Ev.step (f := fun k => rec_sum.l1 k (U a) (l.getD i ByteArray.empty) l (l.length : Int) (i : Int) ((l.getD i ByteArray.empty).size : Int) ((0 : Nat) : Int)) (fun k => ?_) ?_
    · simp only [rec_sum.l0, rdOf_nat]
      rw [if_pos (by omega), if_pos (by omega), if_pos (by omega)]; rfl
    · have := sum_l1 l (l.getD i ByteArray.empty) (hs _ hm) (l.length : Int) (fun a => U (~~~ crcL a (catL (l.drop (i + 1))))) i (by omega) (fun a => ih (i + 1) a (by omega)) (l.getD i ByteArray.empty).size 0 a (by omega)
      rw [List.drop_zero, ← crcL_append] at this
      exact this
theorem sum_ev (l : List ByteArray) (hl : l.length ≤ 9223372036854775806) (hs : ∀ s ∈ l, s.size ≤ 9223372036854775807) : Ev (fun k => rec_sum.f k l) (U (~~~ crcL (BitVec.allOnes 32) (catL l))) := by
  have := sum_l0 l hl hs l.length 0 (BitVec.allOnes 32) (by omega)
  unfold rec_sum.f
  rw [List.drop_zero, show U (BitVec.allOnes 32) = 4294967295 by decide] at this
  exact this
theorem sum2_ev (a b : ByteArray) (ha : a.size ≤ 9223372036854775807) (hb : b.size ≤ 9223372036854775807) : Ev (fun k => rec_sum.f k [a, b]) (U (crc (a ++ b))) := by
  have := sum_ev [a, b] (by simp) (by intro s hs; simp at hs; rcases hs with rfl | rfl <;> assumption)
  have e : catL [a, b] = bytesOf (a ++ b) := by simp [catL, bytesOf_append]
  rw [e] at this
  exact this
theorem sum1_ev (a : ByteArray) (ha : a.size ≤ 9223372036854775807) : Ev (fun k => rec_sum.f k [a]) (U (crc a)) := by
  have := sum_ev [a] (by simp) (by intro s hs; simp at hs; rcases hs with rfl; assumption)
  have e : catL [a] = bytesOf a := by simp [catL]
  rw [e] at this
  exact this
theorem bytes_eq (a : BitVec 32) : rec_bytes.f (U a) = some (four a) := by
  unfold rec_bytes.f four fourL
  rfl
theorem frame_ev (s : ByteArray) : Ev (fun k => rec_Frame.f k s) (frames s) := by
  unfold rec_Frame.f frames
  by_cases h : (s.size : Int) > 1048576
  · rw [if_pos h]; exact Ev_if h (Ev.now _)
  · rw [if_neg h]
    refine Ev_ifn h ?_
    have hl := leb_length_le (n := (s.size : Int)) (by omega) (by omega)
    have hp := puts_size (s.size : Int)
    rw [wu64 (by omega) (by omega)]
    refine Ev.bind (put_ev (by omega) (by omega)) ?_
    refine Ev.bind (sum2_ev _ _ (by omega) (by omega)) ?_
    refine Ev.bind (Ev_const (bytes_eq _)) ?_
    refine Ev_if (by rw [four_size]; omega) (Ev_if (by rw [ByteArray.size_append, four_size]; omega) (Ev.now _))
theorem next_facts {s : ByteArray} (hs : s.size ≤ 1407374883553280) (hg : (gets s).2.2 = 0) (h1 : ¬ (gets s).1 > 1048576) : 0 ≤ (gets s).1 ∧ wrap64 (gets s).1 = (gets s).1 ∧ wrap64 (4 + wrap64 (gets s).1) = 4 + (gets s).1 ∧ (4 + (gets s).1).toNat = 4 + (gets s).1.toNat ∧ s = puts (gets s).1 ++ (gets s).2.1 ∧ (gets s).2.1.size ≤ s.size ∧ 1 ≤ (leb (gets s).1).length ∧ (leb (gets s).1).length ≤ 10 := by
  obtain ⟨hs', g0, g1⟩ := gets_ok (s := s) (n := (gets s).1) (r := (gets s).2.1) (Prod.ext rfl (Prod.ext rfl hg))
  have e : wrap64 (gets s).1 = (gets s).1 := w64 (by omega) (by omega)
  exact ⟨g0, e, by rw [e, w64 (by omega) (by omega)], by omega, hs', gets_shorter s, leb_length_le g0 g1⟩
theorem next_ev (s : ByteArray) (hs : s.size ≤ 1407374883553280) : Ev (fun k => rec_Next.f k s) (nexts s) := by
  unfold rec_Next.f nexts
  refine Ev.bind (get_ev s (by omega)) ?_
  by_cases hg : (gets s).2.2 = 0
  · rw [if_pos hg]
    refine Ev_if hg ?_
    by_cases h1 : (gets s).1 > 1048576
    · rw [if_pos h1]; exact Ev_if h1 (Ev.now _)
    · rw [if_neg h1]
      refine Ev_ifn h1 ?_
      obtain ⟨g0, e1, e2, e3, e4, hsh, l0, l1⟩ := next_facts hs hg h1
      have e5 : wrap64 (((gets s).2.1.size : Int) - 4) = ((gets s).2.1.size : Int) - 4 := w64 (by omega) (by omega)
      rw [e1] at *
      by_cases h2 : ((gets s).2.1.size : Int) < 4 + (gets s).1
      · rw [if_pos h2]; exact Ev_if (by rw [e5]; omega) (Ev.now _)
      · rw [if_neg h2, e2, e3]
        have hsz : s.size = (leb (gets s).1).length + (gets s).2.1.size := by
          have := congrArg ByteArray.size e4
          rw [ByteArray.size_append, puts_size] at this
          exact this
        refine Ev_ifn (by rw [e5]; omega) (Ev_if (by omega) (Ev_if (by omega) (Ev_if (by omega) (Ev_if (by omega) (Ev_if (by omega) ?_)))))
        refine Ev.bind (Ev_const (size_eq g0 (by omega))) ?_
        refine Ev_if (by omega) (Ev_if (by omega) ?_)
        have ex : s.extract 0 (((leb (gets s).1).length : Int)).toNat = puts (gets s).1 := by
          rw [Int.toNat_natCast]
          have h := extract_head (a := puts (gets s).1) (b := (gets s).2.1) (puts_size (gets s).1)
          rw [← e4] at h
          exact h
        rw [ex]
        refine Ev.bind (sum2_ev _ _ (by rw [puts_size]; omega) (by rw [ByteArray.size_extract]; omega)) ?_
        refine Ev.bind (Ev_const (bytes_eq _)) ?_
        by_cases h3 : four (crc (puts (gets s).1 ++ (gets s).2.1.extract 4 (4 + (gets s).1.toNat))) = (gets s).2.1.extract 0 4
        · rw [if_pos h3]; exact Ev_if (by rw [h3]) (Ev.now _)
        · rw [if_neg h3]; exact Ev_ifn (fun h => h3 (toList_inj h)) (Ev.now _)
  · rw [if_neg hg]; exact Ev_ifn hg (Ev.now _)
end Go.Proofs.YtpmoellbfgcefaaV
