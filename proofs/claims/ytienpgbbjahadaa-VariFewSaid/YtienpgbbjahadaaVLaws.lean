/- The four statements of numbers, over the printed functions. -/
import Derived.Test.YtienpgbbjahadaaVEv
import Derived.Test.YtienpgbbjahadaaPA4
import Derived.Test.YtienpgbbjahadaaPA5
import Derived.Test.YtienpgbbjahadaaPA6
import Derived.Test.YtienpgbbjahadaaPA7
import Derived.Test.YtienpgbbjahadaaPA8
namespace Go.Proofs.YtienpgbbjahadaaV
open Go.RowKit Go.Proofs.YtienpgbbjahadaaW.PrintWords Go.Proofs.YtienpgbbjahadaaW.PrintLast Go.Proofs.YtienpgbbjahadaaW.PrintMore Go.Proofs.Ytienpgbbjahadaa.PA
set_option linter.unusedVariables false

theorem VariNumbers_law : missivelaw01_VariNumbers.Pure := by
  intro n s hn hs
  obtain ⟨h0, h1⟩ := wf_u64 hn
  refine Ev.rounds ?_
  unfold missivelaw01_VariNumbers.f
  refine Ev.bind (get_ev s (by omega)) ?_
  refine Ev.bind (get_ref s (by omega)) ?_
  refine Ev.bind numbers_ev ?_
  refine Ev_if rfl ?_
  refine Ev.bind (put_ev h0 h1) ?_
  refine Ev.bind (put_ref h0 h1) ?_
  refine Ev_if rfl ?_
  refine Ev.bind (Ev_const (size_eq h0 h1)) ?_
  refine Ev.bind (size_ref h0 h1) ?_
  refine Ev_if rfl (Ev_if rfl (Ev_if rfl (Ev_const ?_)))
  simp

theorem xor_u64 (x : Int) (h0 : 0 ≤ x) (h1 : x ≤ 18446744073709551615) : Go.bits .xor .u64 x 18446744073709551615 = 18446744073709551615 - x := by
  obtain ⟨a, rfl⟩ := Int.eq_ofNat_of_zero_le h0
  show IntKind.u64.wrap ((BitVec.ofInt 64 ((a : Nat) : Int) ^^^ BitVec.ofInt 64 18446744073709551615).toNat : Int) = _
  rw [show BitVec.ofInt 64 (18446744073709551615 : Int) = BitVec.allOnes 64 by decide, BitVec.ofInt_natCast]
  rw [BitVec.xor_allOnes, BitVec.toNat_not, BitVec.toNat_ofNat, Nat.mod_eq_of_lt (by omega)]
  rw [wu64 (by omega) (by omega)]
  omega
theorem xor_zero_u64 (x : Int) (h0 : 0 ≤ x) (h1 : x ≤ 18446744073709551615) : Go.bits .xor .u64 x 0 = x := by
  obtain ⟨a, rfl⟩ := Int.eq_ofNat_of_zero_le h0
  show IntKind.u64.wrap ((BitVec.ofInt 64 ((a : Nat) : Int) ^^^ BitVec.ofInt 64 0).toNat : Int) = _
  rw [show BitVec.ofInt 64 (0 : Int) = 0#64 by decide, BitVec.ofInt_natCast]
  rw [BitVec.xor_zero, BitVec.toNat_ofNat, Nat.mod_eq_of_lt (by omega)]
  exact wu64 (by omega) (by omega)
theorem wi64' (n : Int) : IntKind.i64.wrap n = (n + 9223372036854775808) % 18446744073709551616 - 9223372036854775808 := IntKind.wrap_i64 n
theorem xor_i64 (x : Int) (h0 : 0 ≤ x) (h1 : x ≤ 9223372036854775807) : Go.bits .xor .i64 x (-1) = -1 - x := by
  obtain ⟨a, rfl⟩ := Int.eq_ofNat_of_zero_le h0
  show IntKind.i64.wrap ((BitVec.ofInt 64 ((a : Nat) : Int) ^^^ BitVec.ofInt 64 (-1)).toNat : Int) = _
  rw [show BitVec.ofInt 64 (-1 : Int) = BitVec.allOnes 64 by decide, BitVec.ofInt_natCast]
  rw [BitVec.xor_allOnes, BitVec.toNat_not, BitVec.toNat_ofNat, Nat.mod_eq_of_lt (by omega)]
  rw [wi64']
  omega
theorem xor_zero_i64 (x : Int) (h0 : 0 ≤ x) (h1 : x ≤ 9223372036854775807) : Go.bits .xor .i64 x 0 = x := by
  obtain ⟨a, rfl⟩ := Int.eq_ofNat_of_zero_le h0
  show IntKind.i64.wrap ((BitVec.ofInt 64 ((a : Nat) : Int) ^^^ BitVec.ofInt 64 0).toNat : Int) = _
  rw [show BitVec.ofInt 64 (0 : Int) = 0#64 by decide, BitVec.ofInt_natCast]
  rw [BitVec.xor_zero, BitVec.toNat_ofNat, Nat.mod_eq_of_lt (by omega)]
  rw [wi64']; omega
def evn (n : Int) : Int := if 0 ≤ n then 2 * n else -2 * n - 1
def whl (m : Int) : Int := if m % 2 = 0 then m / 2 else -1 - m / 2
theorem even_eq {n : Int} (h0 : -9223372036854775808 ≤ n) (h1 : n ≤ 9223372036854775807) : vari_Even.f n = some (evn n) := by
  unfold vari_Even.f evn
  by_cases h : 0 ≤ n
  · rw [if_pos h, show n / 9223372036854775808 = 0 by omega, wu64' 0]
    rw [show (0 : Int) % 18446744073709551616 = 0 from rfl, wu64', xor_zero_u64 _ (by omega) (by omega)]
    congr 1; unfold wrap64; omega
  · rw [if_neg h, show n / 9223372036854775808 = -1 by omega, wu64' (-1)]
    rw [show (-1 : Int) % 18446744073709551616 = 18446744073709551615 from rfl, wu64', xor_u64 _ (by omega) (by omega)]
    congr 1; unfold wrap64; omega
theorem even_ref {n : Int} (h0 : -9223372036854775808 ≤ n) (h1 : n ≤ 9223372036854775807) : missiveref01_Even.f n = some (evn n) := by
  unfold missiveref01_Even.f evn
  by_cases h : 0 ≤ n
  · rw [if_pos h, if_pos h]; congr 1; simp only [wu64']; omega
  · rw [if_neg (by omega), if_neg h]; congr 1; simp only [wu64', wrap64]; omega
theorem and_one (m : Int) (h0 : 0 ≤ m) (h1 : m ≤ 18446744073709551615) : Go.bits .and .u64 m 1 = m % 2 := by
  have := bits_mask .u64 64 (by decide) (fun n a b => wu64_in a b) 1 (by decide) m h0 (by simp; omega)
  simpa using this
theorem whole_eq {m : Int} (h0 : 0 ≤ m) (h1 : m ≤ 18446744073709551615) : vari_Whole.f m = some (whl m) := by
  unfold vari_Whole.f whl
  rw [and_one m h0 h1, w64 (n := m / 2) (by omega) (by omega)]
  by_cases h : m % 2 = 0
  · rw [if_pos h, h]
    rw [show wrap64 (-wrap64 0) = 0 by decide +kernel, xor_zero_i64 _ (by omega) (by omega)]
  · rw [if_neg h, show m % 2 = 1 by omega]
    rw [show wrap64 (-wrap64 1) = -1 by decide +kernel, xor_i64 _ (by omega) (by omega)]
theorem whole_ref {m : Int} (h0 : 0 ≤ m) (h1 : m ≤ 18446744073709551615) : missiveref01_Whole.f m = some (whl m) := by
  unfold missiveref01_Whole.f whl
  rw [Int.tmod_eq_emod_of_nonneg h0, Int.tdiv_eq_ediv_of_nonneg h0, wu64 (by omega) (by omega), w64 (by omega) (by omega)]
  by_cases h : m % 2 = 0
  · rw [if_pos h, if_pos h]
  · rw [if_neg h, if_neg h]; congr 1; rw [w64 (n := -(m / 2)) (by omega) (by omega), w64 (by omega) (by omega)]; omega
theorem VariEven_law : missivelaw01_VariEven.Pure := by
  intro n m hn hm
  obtain ⟨a0, a1⟩ := wf_i64 hn
  obtain ⟨b0, b1⟩ := wf_u64 hm
  have e1 : 0 ≤ evn n ∧ evn n ≤ 18446744073709551615 := by unfold evn; split <;> omega
  have e2 : -9223372036854775808 ≤ whl m ∧ whl m ≤ 9223372036854775807 := by unfold whl; split <;> omega
  have e3 : whl (evn n) = n := by unfold whl evn; split <;> split <;> omega
  have e4 : evn (whl m) = m := by unfold whl evn; split <;> split <;> omega
  refine Ev.rounds ?_
  unfold missivelaw01_VariEven.f
  refine Ev.bind numbers_ev ?_
  refine Ev_if rfl ?_
  refine Ev.bind (Ev_const (even_eq a0 a1)) ?_
  refine Ev.bind (Ev_const (even_ref a0 a1)) ?_
  refine Ev_if rfl ?_
  refine Ev.bind (Ev_const (whole_eq b0 b1)) ?_
  refine Ev.bind (Ev_const (whole_ref b0 b1)) ?_
  refine Ev_if rfl ?_
  refine Ev.bind (Ev_const (whole_eq e1.1 e1.2)) ?_
  refine Ev_if e3 ?_
  refine Ev.bind (Ev_const (even_eq e2.1 e2.2)) ?_
  refine Ev_const ?_
  simp [e4]

theorem VariBack_law : missivelaw01_VariBack.Pure := by
  intro n s hn hs
  obtain ⟨h0, h1⟩ := wf_u64 hn
  refine Ev.rounds ?_
  unfold missivelaw01_VariBack.f
  refine Ev.bind numbers_ev ?_
  refine Ev_if rfl ?_
  refine Ev.bind (put_ev h0 h1) ?_
  have hz : (puts n).size ≤ 10 := by rw [puts_size]; exact (leb_length_le h0 h1).2
  refine Ev_if (by omega) ?_
  refine Ev.bind (get_ev (puts n ++ s) (by rw [ByteArray.size_append]; omega)) ?_
  refine Ev.bind (get_ev s (by omega)) ?_
  rw [gets_puts h0 h1]
  refine Ev_if rfl (Ev_if rfl (Ev_if rfl ?_))
  rcases gets_err s with h | h | h
  · have hg : gets s = ((gets s).1, (gets s).2.1, 0) := Prod.ext rfl (Prod.ext rfl h)
    obtain ⟨e, g0, g1⟩ := gets_ok hg
    refine Ev_if h ?_
    refine Ev.bind (put_ev g0 g1) ?_
    have hz2 : (puts (gets s).1).size ≤ 10 := by rw [puts_size]; exact (leb_length_le g0 g1).2
    have := gets_shorter s
    refine Ev_if (by omega) (Ev_const ?_)
    rw [← e]; simp
  · rw [h]
    refine Ev_ifn (by decide) (Ev_if rfl (Ev_if empty_toList (Ev.now _)))
  · rw [h]
    refine Ev_ifn (by decide) (Ev_if rfl (Ev_if empty_toList (Ev.now _)))

theorem VariFew_law : missivelaw01_VariFew.Pure := by
  intro a b k ha hb hk
  obtain ⟨a0, a1⟩ := wf_u64 ha
  obtain ⟨b0, b1⟩ := wf_u64 hb
  obtain ⟨k0, k1⟩ := wf_i64 hk
  have la := leb_length_le a0 a1
  have lb := leb_length_le b0 b1
  refine Ev.rounds ?_
  unfold missivelaw01_VariFew.f
  refine Ev.bind numbers_ev ?_
  refine Ev_if rfl ?_
  refine Ev.bind (Ev_const (size_eq a0 a1)) ?_
  refine Ev.bind (Ev_const (size_eq b0 b1)) ?_
  have mono1 : a ≤ b → (leb a).length ≤ (leb b).length := fun h => leb_length_mono a0 h b1
  have mono2 : b ≤ a → (leb b).length ≤ (leb a).length := fun h => leb_length_mono b0 h a1
  have edge : (if a = b then (if ((decide (a ≤ b)) == true) = true then (if ((leb a).length : Int) ≥ 1 then (some (decide (((leb a).length : Int) ≤ 10))) else (some false)) else (some false)) else (if ((decide (a ≤ b)) == (decide (a < b))) = true then (if ((leb a).length : Int) ≥ 1 then (some (decide (((leb a).length : Int) ≤ 10))) else (some false)) else (some false))) = some true := by
    by_cases h : a = b
    · rw [if_pos h, if_pos (by simp [h]), if_pos (by omega)]; simp; omega
    · rw [if_neg h, if_pos (by rw [beq_iff_eq]; congr 1; apply propext; omega), if_pos (by omega)]; simp; omega
  by_cases c1 : k < 1
  · refine Ev_if c1 (Ev_const edge)
  · refine Ev_ifn c1 ?_
    by_cases c2 : k > 9
    · exact Ev_if c2 (Ev_const edge)
    · refine Ev_ifn c2 ?_
      obtain ⟨j, rfl⟩ : ∃ j : Nat, k = ((j + 1 : Nat) : Int) := ⟨(k - 1).toNat, by omega⟩
      have w7 : IntKind.u64.wrap (wrap64 (7 * ((j + 1 : Nat) : Int))) = 7 * ((j + 1 : Nat) : Int) := by rw [w64 (by omega) (by omega), wu64 (by omega) (by omega)]
      have few := leb_length_few a a0 a1 j
      have hs : shr .u64 a (7 * ((j + 1 : Nat) : Int)) = a / 128 ^ (j + 1) := by
        unfold shr
        rw [show min (7 * ((j + 1 : Nat) : Int)).toNat IntKind.u64.bits = 7 * (j + 1) by simp only [IntKind.bits]; omega, Int.pow_mul, show (2 : Int) ^ 7 = 128 from rfl]
      have hd : (a / 128 ^ (j + 1) = 0) ↔ a < 128 ^ (j + 1) := by
        have p := p128_pos (j + 1)
        constructor
        · intro h
          have := Int.lt_ediv_add_one_mul_self a p
          rw [h] at this; simpa using this
        · intro h
          exact Int.ediv_eq_zero_of_lt a0 h
      have fin : Ev (fun n => if 0 ≤ IntKind.u64.wrap (wrap64 (7 * ((j + 1 : Nat) : Int))) then some ((shr .u64 a (IntKind.u64.wrap (wrap64 (7 * ((j + 1 : Nat) : Int)))) == 0) == decide (((leb a).length : Int) ≤ ((j + 1 : Nat) : Int))) else none) true := by
        rw [w7]
        refine Ev_if (by omega) (Ev_const ?_)
        rw [hs]
        refine congrArg some ?_
        have e3 : (((leb a).length : Int) ≤ ((j + 1 : Nat) : Int)) ↔ (a / 128 ^ (j + 1) = 0) := by rw [hd, ← few]; omega
        by_cases h : a / 128 ^ (j + 1) = 0
        · rw [decide_eq_true (e3.mpr h), h]; rfl
        · rw [decide_eq_false (fun h2 => h (e3.mp h2)), beq_eq_false_iff_ne.mpr h]; rfl
      by_cases c3 : a > b
      · refine Ev_if c3 (Ev_ifn (by omega) (Ev_if (by have := mono2 (by omega); omega) fin))
      · refine Ev_ifn c3 (Ev_if (by have := mono1 (by omega); omega) ?_)
        by_cases c4 : a < b
        · exact Ev_if c4 fin
        · exact Ev_ifn c4 (Ev_if (by have := mono2 (by omega); omega) fin)
end Go.Proofs.YtienpgbbjahadaaV
