/- Of our own: an abstract machine beside the model, its soundness, and walks of the program in it. -/
import Derived.Laws.BitsLemmas
import Derived.Laws.BytesArg
import Derived.Lib.BitFns
import Derived.Lib.Strings
import Derived.RowKit
import Derived.Test.YtpmoellbfgcefaaA10
import Derived.Test.YtpmoellbfgcefaaA7
set_option linter.unusedSimpArgs false
set_option linter.unusedVariables false
section
/- Numbers as few bytes: the plain law of them, with no program in sight. -/
namespace Go.Proofs.Ytpmoellbfgcefaa.AS.V
open Go Go.RowKit
set_option linter.unusedVariables false

def bt (s : ByteArray) (i : Int) : Int := if h : i.toNat < s.size then ((s[i.toNat]'h).toNat : Int) else 0
def bytesOf (s : ByteArray) : List Int := s.data.toList.map fun b => (b.toNat : Int)
theorem data_length (s : ByteArray) : s.data.toList.length = s.size := by rw [Array.length_toList]; rfl
/-! numbers of a kind -/
theorem wf_u64 {n : Int} (h : (Lit.int .u64 n).wf = true) : 0 ≤ n ∧ n ≤ 18446744073709551615 := by
  simp only [Lit.wf, IntKind.min, IntKind.max, IntKind.signed, IntKind.bits, Bool.and_eq_true] at h; simpa using h
theorem wf_u32 {n : Int} (h : (Lit.int .u32 n).wf = true) : 0 ≤ n ∧ n ≤ 4294967295 := by
  simp only [Lit.wf, IntKind.min, IntKind.max, IntKind.signed, IntKind.bits, Bool.and_eq_true] at h; simpa using h
theorem wf_u8 {n : Int} (h : (Lit.int .u8 n).wf = true) : 0 ≤ n ∧ n ≤ 255 := by
  simp only [Lit.wf, IntKind.min, IntKind.max, IntKind.signed, IntKind.bits, Bool.and_eq_true] at h; simpa using h
theorem wf_i64 {n : Int} (h : (Lit.int .i64 n).wf = true) : -9223372036854775808 ≤ n ∧ n ≤ 9223372036854775807 := by
  simp only [Lit.wf, IntKind.min, IntKind.max, IntKind.signed, IntKind.bits, Bool.and_eq_true] at h; simpa using h
theorem wf_i32 {n : Int} (h : (Lit.int .i32 n).wf = true) : -2147483648 ≤ n ∧ n ≤ 2147483647 := by
  simp only [Lit.wf, IntKind.min, IntKind.max, IntKind.signed, IntKind.bits, Bool.and_eq_true] at h; simpa using h
theorem w64 {n : Int} (h0 : -9223372036854775808 ≤ n) (h1 : n ≤ 9223372036854775807) : wrap64 n = n := by unfold wrap64; omega
theorem wu64' (n : Int) : IntKind.u64.wrap n = n % 18446744073709551616 := by
  unfold IntKind.wrap
  simp only [IntKind.bits, IntKind.signed, Bool.false_and]
  exact if_neg (by decide)

theorem wu64 {n : Int} (h0 : 0 ≤ n) (h1 : n ≤ 18446744073709551615) : IntKind.u64.wrap n = n := by rw [wu64']; omega

/-! bytes and lists -/
theorem bytesOf_length (s : ByteArray) : (bytesOf s).length = s.size := by simp only [bytesOf, List.length_map, Array.length_toList]; rfl
theorem bytesOf_get (s : ByteArray) (i : Nat) (h : i < s.size) : (bytesOf s)[i]'(by rw [bytesOf_length]; exact h) = bt s (i : Int) := by
  unfold bt
  rw [dif_pos (by simpa using h)]
  simp [bytesOf]
  rfl
theorem bytesOf_range (s : ByteArray) : ∀ c ∈ bytesOf s, 0 ≤ c ∧ c ≤ 255 := by
  intro c hc
  simp only [bytesOf, List.mem_map] at hc
  obtain ⟨b, _, rfl⟩ := hc
  have := b.toNat_lt
  omega
theorem strOf_bytesOf (s : ByteArray) : strOfNums (bytesOf s) = s := by
  unfold strOfNums bytesOf
  rw [List.map_map]
  have : (fun n : Int => UInt8.ofNat n.toNat) ∘ (fun b : UInt8 => (b.toNat : Int)) = id := by
    funext b; simp
  rw [this]; simp
theorem bytesOf_strOf {l : List Int} (h : ∀ c ∈ l, 0 ≤ c ∧ c ≤ 255) : bytesOf (strOfNums l) = l := by
  unfold strOfNums bytesOf
  simp only [List.map_map]
  conv => rhs; rw [← List.map_id l]
  apply List.map_congr_left
  intro c hc
  have := h c hc
  simp only [Function.comp, UInt8.toNat_ofNat', id]
  omega
theorem strOf_append (a b : List Int) : strOfNums (a ++ b) = strOfNums a ++ strOfNums b := by
  apply ByteArray.ext
  simp [strOfNums]
theorem bytesOf_append (a b : ByteArray) : bytesOf (a ++ b) = bytesOf a ++ bytesOf b := by
  simp [bytesOf]
theorem bytesOf_inj {a b : ByteArray} (h : bytesOf a = bytesOf b) : a = b := by
  rw [← strOf_bytesOf a, h, strOf_bytesOf]
theorem toList_inj {a b : ByteArray} (h : a.toList = b.toList) : a = b := by
  rw [Lib.toList_data, Lib.toList_data] at h
  apply ByteArray.ext; exact Array.toList_inj.mp h
theorem empty_toList : (⟨#[]⟩ : ByteArray).toList = [] := by rw [Lib.toList_data]
theorem bytesOf_extract (s : ByteArray) (i j : Nat) (h : j ≤ s.size) : bytesOf (s.extract i j) = ((bytesOf s).take j).drop i := by
  simp only [bytesOf, ByteArray.data_extract, Array.toList_extract, List.extract_eq_take_drop, List.map_take, List.map_drop]
  rw [List.take_drop]
  by_cases hi : i ≤ j
  · rw [Nat.add_sub_cancel' hi]
  · rw [List.drop_eq_nil_of_le (by simp; omega), List.drop_eq_nil_of_le (by simp; omega)]
theorem drop_cons_get {α : Type} (l : List α) (i : Nat) (h : i < l.length) : l.drop i = l[i] :: l.drop (i + 1) := List.drop_eq_getElem_cons h
theorem bytesOf_drop_cons (s : ByteArray) (i : Nat) (h : i < s.size) : (bytesOf s).drop i = bt s (i : Int) :: (bytesOf s).drop (i + 1) := by
  rw [drop_cons_get _ i (by rw [bytesOf_length]; exact h), bytesOf_get s i h]
theorem extract_eq_strOf (s : ByteArray) (i : Nat) (h : i ≤ s.size) : s.extract i s.size = strOfNums ((bytesOf s).drop i) := by
  apply bytesOf_inj
  rw [bytesOf_strOf (fun c hc => bytesOf_range s c (List.mem_of_mem_drop hc)), bytesOf_extract s i s.size (Nat.le_refl _), List.take_of_length_le (by rw [bytesOf_length]; exact Nat.le_refl _)]

/-! a number's bytes -/
def lebF : Nat → Int → List Int
  | 0, n => [n]
  | f + 1, n => if n < 128 then [n] else (n % 128 + 128) :: lebF f (n / 128)
def leb (n : Int) : List Int := lebF 10 n

theorem lebF_more : ∀ (f : Nat) (n : Int), 0 ≤ n → n < 128 ^ (f + 1) → lebF (f + 1) n = lebF f n := by
  intro f
  induction f with
  | zero =>
    intro n h0 h1
    simp only [lebF]
    rw [if_pos (by simpa using h1)]
  | succ f ih =>
    intro n h0 h1
    have e1 : lebF (f + 1 + 1) n = if n < 128 then [n] else (n % 128 + 128) :: lebF (f + 1) (n / 128) := rfl
    have e2 : lebF (f + 1) n = if n < 128 then [n] else (n % 128 + 128) :: lebF f (n / 128) := rfl
    rw [e1, e2]
    by_cases h : n < 128
    · rw [if_pos h, if_pos h]
    · rw [if_neg h, if_neg h, ih (n / 128) (by omega) ?_]
      rw [Int.pow_succ] at h1
      omega
theorem leb_lt {n : Int} (h : n < 128) : leb n = [n] := by simp [leb, lebF, h]
theorem leb_ge {n : Int} (h : 128 ≤ n) (h1 : n ≤ 18446744073709551615) : leb n = (n % 128 + 128) :: leb (n / 128) := by
  unfold leb
  rw [lebF, if_neg (by omega), ← lebF_more 9 (n / 128) (by omega) (by simp; omega)]
theorem leb_ne (n : Int) : leb n ≠ [] := by unfold leb lebF; split <;> simp

theorem leb_ind {P : Int → Prop} (small : ∀ n, 0 ≤ n → n < 128 → P n) (big : ∀ n, 128 ≤ n → n ≤ 18446744073709551615 → P (n / 128) → P n) : ∀ n, 0 ≤ n → n ≤ 18446744073709551615 → P n := by
  have key : ∀ (m : Nat) (n : Int), n.toNat < m → 0 ≤ n → n ≤ 18446744073709551615 → P n := by
    intro m
    induction m with
    | zero => intro n h; omega
    | succ m ih =>
      intro n h h0 h1
      by_cases hs : n < 128
      · exact small n h0 hs
      · exact big n (by omega) h1 (ih (n / 128) (by omega) (by omega) (by omega))
  exact fun n => key (n.toNat + 1) n (by omega)

theorem leb_range : ∀ n, 0 ≤ n → n ≤ 18446744073709551615 → ∀ c ∈ leb n, 0 ≤ c ∧ c ≤ 255 := by
  apply leb_ind
  · intro n h0 h c hc
    rw [leb_lt h] at hc
    simp at hc; omega
  · intro n h h1 ih c hc
    rw [leb_ge h h1] at hc
    rcases List.mem_cons.mp hc with rfl | hc
    · omega
    · exact ih c hc
theorem leb_length_bits : ∀ n, 0 ≤ n → n ≤ 18446744073709551615 → ((leb n).length : Int) = ((max 1 (Lib.bitLen n.toNat) + 6) / 7 : Nat) := by
  apply leb_ind
  · intro n h0 h
    rw [leb_lt h]
    have := Lib.bitLen_le n.toNat 7 (by decide) (by omega)
    simp; omega
  · intro n h h1 ih
    rw [leb_ge h h1]
    have e := Lib.bitLen_shift 7 n.toNat (by omega) (by omega)
    have d : n.toNat / 2 ^ 7 = (n / 128).toNat := by omega
    rw [d] at e
    have p : 1 ≤ Lib.bitLen (n / 128).toNat := by
      have := Lib.bitLen_half (n / 128).toNat (by omega) (by omega)
      omega
    simp only [List.length_cons, Int.natCast_add, ih]
    omega
theorem bitLen_le64 (n : Nat) (h : n < 2 ^ 64) : Lib.bitLen n ≤ 64 := Lib.bitLen_le n 64 (by decide) h
theorem leb_length_le {n : Int} (h0 : 0 ≤ n) (h1 : n ≤ 18446744073709551615) : 1 ≤ (leb n).length ∧ (leb n).length ≤ 10 := by
  have e := leb_length_bits n h0 h1
  have := bitLen_le64 n.toNat (by omega)
  omega
theorem leb_length_few : ∀ n, 0 ≤ n → n ≤ 18446744073709551615 → ∀ k : Nat, (leb n).length ≤ k + 1 ↔ n < 128 ^ (k + 1) := by
  apply leb_ind (P := fun n => ∀ k : Nat, (leb n).length ≤ k + 1 ↔ n < 128 ^ (k + 1))
  · intro n h0 h k
    rw [leb_lt h]
    have : (128 : Int) ^ (k + 1) ≥ 128 := by
      rw [Int.pow_succ]
      have : (0 : Int) < 128 ^ k := Int.pow_pos (by decide)
      omega
    simp; omega
  · intro n h h1 ih k
    rw [leb_ge h h1]
    cases k with
    | zero =>
      have := (leb_length_le (n := n / 128) (by omega) (by omega)).1
      rw [show ((128 : Int) ^ (0 + 1)) = 128 from rfl]
      simp only [List.length_cons]; omega
    | succ k =>
      have := ih k
      rw [Int.pow_succ]
      simp only [List.length_cons, Nat.add_le_add_iff_right]
      rw [this]
      constructor <;> intro h <;> omega
theorem leb_length_mono {a b : Int} (h0 : 0 ≤ a) (h : a ≤ b) (h1 : b ≤ 18446744073709551615) : (leb a).length ≤ (leb b).length := by
  obtain ⟨k, hk⟩ : ∃ k, (leb b).length = k + 1 := ⟨(leb b).length - 1, by have := (leb_length_le (n := b) (by omega) h1).1; omega⟩
  rw [hk, leb_length_few a h0 (by omega) k]
  have := (leb_length_few b (by omega) h1 k).mp (by omega)
  omega

/-! what bytes begin with -/
def G : List Int → Nat → Int → Int × List Int × Int
  | [], _, _ => (0, [], 5)
  | c :: r, i, acc =>
    if i = 9 ∧ c > 1 then (0, [], 7)
    else if c ≥ 128 then G r (i + 1) (acc + (c - 128) * 128 ^ i)
    else if c = 0 ∧ 0 < i then (0, [], 7)
    else (acc + c * 128 ^ i, r, 0)

theorem p128_pos (i : Nat) : (0 : Int) < 128 ^ i := Int.pow_pos (by decide)
/-- What is put is got, whatever stands behind. -/
theorem G_leb : ∀ n, 0 ≤ n → n ≤ 18446744073709551615 → ∀ (i : Nat) (acc : Int) (r : List Int), i ≤ 9 → n * 128 ^ i ≤ 18446744073709551615 → (0 < n ∨ i = 0) → G (leb n ++ r) i acc = (acc + n * 128 ^ i, r, 0) := by
  apply leb_ind (P := fun n => ∀ (i : Nat) (acc : Int) (r : List Int), i ≤ 9 → n * 128 ^ i ≤ 18446744073709551615 → (0 < n ∨ i = 0) → G (leb n ++ r) i acc = (acc + n * 128 ^ i, r, 0))
  · intro n h0 h i acc r hi hb hp
    rw [leb_lt h]
    simp only [List.singleton_append, G]
    have : ¬ (i = 9 ∧ n > 1) := by
      rintro ⟨rfl, h2⟩
      simp at hb; omega
    rw [if_neg this, if_neg (by omega), if_neg (by omega)]
  · intro n h h1 ih i acc r hi hb hp
    rw [leb_ge h h1]
    simp only [List.cons_append, G]
    have hw := p128_pos i
    have i9 : i < 9 := by
      rcases Nat.lt_or_ge i 9 with h9 | h9
      · exact h9
      · obtain rfl : i = 9 := by omega
        simp at hb; omega
    have e : n * 128 ^ i = n % 128 * 128 ^ i + n / 128 * 128 ^ (i + 1) := by
      conv => lhs; rw [← Int.emod_add_mul_ediv n 128]
      rw [Int.pow_succ, Int.add_mul]
      congr 1
      rw [Int.mul_comm 128 (n / 128), Int.mul_assoc, Int.mul_comm 128]
    have e2 : 0 ≤ n % 128 * 128 ^ i := Int.mul_nonneg (by omega) (by omega)
    rw [if_neg (by omega), if_pos (by omega), ih (i + 1) _ r (by omega) (by omega) (.inl (by omega))]
    rw [show n % 128 + 128 - 128 = n % 128 by omega, e]
    simp only [Prod.mk.injEq, and_true]
    omega
/-- What is got has its bytes. -/
theorem G_ok : ∀ (L : List Int) (i : Nat) (acc : Int) (n : Int) (r : List Int), (∀ c ∈ L, 0 ≤ c ∧ c ≤ 255) → i ≤ 9 → G L i acc = (n, r, 0) →
    ∃ m, L = leb m ++ r ∧ n = acc + m * 128 ^ i ∧ 0 ≤ m ∧ m < 2 ^ (64 - 7 * i) ∧ (0 < m ∨ i = 0) := by
  intro L
  induction L with
  | nil => intro i acc n r _ _ h; simp [G] at h
  | cons c L ih =>
    intro i acc n r hr hi h
    have hc := hr c (List.mem_cons_self ..)
    rw [G] at h
    split at h
    · simp at h
    · rename_i h9
      split at h
      · rename_i hb
        have i9 : i < 9 := by
          rcases Nat.lt_or_ge i 9 with h' | h'
          · exact h'
          · exact absurd ⟨by omega, by omega⟩ h9
        obtain ⟨m, hL, hn, hm0, hm1, hm2⟩ := ih (i + 1) _ n r (fun c hc => hr c (List.mem_cons_of_mem _ hc)) (by omega) h
        have hm : 0 < m := by omega
        have hpow : (2 : Int) ^ (64 - 7 * i) = 128 * 2 ^ (64 - 7 * (i + 1)) := by
          rw [show 64 - 7 * i = 64 - 7 * (i + 1) + 7 by omega, Int.pow_add]
          omega
        have hle : (2 : Int) ^ (64 - 7 * i) ≤ 2 ^ 64 := by
          have h1 : (2 : Nat) ^ (64 - 7 * i) ≤ 2 ^ 64 := Nat.pow_le_pow_right (by decide) (by omega)
          exact_mod_cast h1
        have hlt : c - 128 + 128 * m < 2 ^ (64 - 7 * i) := by omega
        refine ⟨c - 128 + 128 * m, ?_, ?_, by omega, hlt, .inl (by omega)⟩
        · rw [leb_ge (by omega) (by omega), hL, show (c - 128 + 128 * m) % 128 + 128 = c by omega, show (c - 128 + 128 * m) / 128 = m by omega]
          rfl
        · rw [hn, Int.pow_succ, Int.add_mul, Int.add_assoc]
          congr 2
          rw [Int.mul_comm 128 m, Int.mul_assoc, Int.mul_comm 128]
      · split at h
        · simp at h
        · rename_i h1 h2
          simp only [Prod.mk.injEq, and_true] at h
          obtain ⟨rfl, rfl⟩ := h
          refine ⟨c, by rw [leb_lt (by omega)]; rfl, rfl, by omega, ?_, by omega⟩
          rcases Nat.lt_or_ge i 9 with h' | h'
          · have h1 : (2 : Nat) ^ 7 ≤ 2 ^ (64 - 7 * i) := Nat.pow_le_pow_right (by decide) (by omega)
            have h1 : (2 : Int) ^ 7 ≤ 2 ^ (64 - 7 * i) := by exact_mod_cast h1
            omega
          · obtain rfl : i = 9 := by omega
            simp; omega
theorem G_err : ∀ (L : List Int) (i : Nat) (acc : Int), (G L i acc).2.2 = 0 ∨ G L i acc = (0, [], 5) ∨ G L i acc = (0, [], 7) := by
  intro L
  induction L with
  | nil => intro i acc; exact .inr (.inl rfl)
  | cons c L ih =>
    intro i acc
    rw [G]
    split
    · exact .inr (.inr rfl)
    · split
      · exact ih _ _
      · split
        · exact .inr (.inr rfl)
        · exact .inl rfl
theorem G_rest : ∀ (L : List Int) (i : Nat) (acc : Int), (∀ c ∈ L, 0 ≤ c ∧ c ≤ 255) → ∀ c ∈ (G L i acc).2.1, 0 ≤ c ∧ c ≤ 255 := by
  intro L
  induction L with
  | nil => intro i acc _ c hc; simp [G] at hc
  | cons a L ih =>
    intro i acc hr c hc
    rw [G] at hc
    split at hc
    · simp at hc
    · split at hc
      · exact ih _ _ (fun c hc => hr c (List.mem_cons_of_mem _ hc)) c hc
      · split at hc
        · simp at hc
        · exact hr c (List.mem_cons_of_mem _ hc)
theorem G_shorter : ∀ (L : List Int) (i : Nat) (acc : Int), (G L i acc).2.1.length ≤ L.length := by
  intro L
  induction L with
  | nil => intro i acc; simp [G]
  | cons a L ih =>
    intro i acc
    rw [G]
    split
    · simp
    · split
      · have := ih (i + 1) (acc + (a - 128) * 128 ^ i); simp; omega
      · split <;> simp

/-- A number, and what is behind it, as text. -/
def gets (s : ByteArray) : Int × ByteArray × Int := ((G (bytesOf s) 0 0).1, strOfNums (G (bytesOf s) 0 0).2.1, (G (bytesOf s) 0 0).2.2)
def puts (n : Int) : ByteArray := strOfNums (leb n)
theorem bytesOf_puts {n : Int} (h0 : 0 ≤ n) (h1 : n ≤ 18446744073709551615) : bytesOf (puts n) = leb n := bytesOf_strOf (leb_range n h0 h1)
theorem puts_size (n : Int) : (puts n).size = (leb n).length := strOfNums_size _
theorem gets_puts {n : Int} (h0 : 0 ≤ n) (h1 : n ≤ 18446744073709551615) (s : ByteArray) : gets (puts n ++ s) = (n, s, 0) := by
  unfold gets
  rw [bytesOf_append, bytesOf_puts h0 h1, G_leb n h0 h1 0 0 (bytesOf s) (by omega) (by simpa using h1) (.inr rfl), strOf_bytesOf]
  simp
theorem gets_ok {s r : ByteArray} {n : Int} (h : gets s = (n, r, 0)) : s = puts n ++ r ∧ 0 ≤ n ∧ n ≤ 18446744073709551615 := by
  unfold gets at h
  simp only [Prod.mk.injEq] at h
  obtain ⟨h1, h2, h3⟩ := h
  have hg : G (bytesOf s) 0 0 = ((G (bytesOf s) 0 0).1, (G (bytesOf s) 0 0).2.1, 0) := Prod.ext rfl (Prod.ext rfl h3)
  obtain ⟨m, hL, hn, hm0, hm1, _⟩ := G_ok _ 0 0 _ _ (bytesOf_range s) (by omega) hg
  have e : n = m := by rw [← h1, hn]; simp
  subst e
  refine ⟨?_, hm0, by simp at hm1; omega⟩
  rw [← h2, puts, ← strOf_append, ← hL, strOf_bytesOf]
theorem gets_err (s : ByteArray) : (gets s).2.2 = 0 ∨ gets s = (0, ⟨#[]⟩, 5) ∨ gets s = (0, ⟨#[]⟩, 7) := by
  unfold gets
  rcases G_err (bytesOf s) 0 0 with h | h | h
  · exact .inl h
  · refine .inr (.inl ?_); rw [h]; rfl
  · refine .inr (.inr ?_); rw [h]; rfl
theorem gets_shorter (s : ByteArray) : (gets s).2.1.size ≤ s.size := by
  have := G_shorter (bytesOf s) 0 0
  unfold gets
  rw [strOfNums_size, ← bytesOf_length s]
  exact this

end Go.Proofs.Ytpmoellbfgcefaa.AS.V
end
section
set_option autoImplicit false
namespace Go.Proofs.Ytpmoellbfgcefaa.AS
open Go Go.Proofs Go.RowKit Go.Proofs.Ytpmoellbfgcefaa.AS.V
theorem i9 {i : Nat} (h : i ≤ 9) : i = 0 ∨ i = 1 ∨ i = 2 ∨ i = 3 ∨ i = 4 ∨ i = 5 ∨ i = 6 ∨ i = 7 ∨ i = 8 ∨ i = 9 := by omega
theorem shl_at {i : Nat} (hi : i ≤ 9) {y : Int} (h0 : 0 ≤ y) (h1 : y < 128) (h9 : i = 9 → y ≤ 1) : IntKind.u64.wrap (y * 2 ^ (min (7 * (i : Int)).toNat IntKind.u64.bits)) = y * 128 ^ i ∧ 0 ≤ y * 128 ^ i ∧ y * 128 ^ i + 128 ^ i ≤ 18446744073709551616 := by
  rcases i9 hi with rfl | rfl | rfl | rfl | rfl | rfl | rfl | rfl | rfl | rfl
  all_goals
    try have h9 := h9 rfl
    simp only [IntKind.bits]
    refine ⟨?_, ?_, ?_⟩
    · rw [wu64 (by simp; omega) (by simp; omega)]; simp
    · simp; omega
    · simp; omega
theorem wu64_in {n : Int} (h0 : 0 ≤ n) (h1 : n < 2 ^ 64) : IntKind.u64.wrap n = n := wu64 h0 (by simp at h1; omega)
theorem or_at {i : Nat} (hi : i ≤ 9) {y acc : Int} (h0 : 0 ≤ y) (h1 : y < 128) (h9 : i = 9 → y ≤ 1) (ha : 0 ≤ acc) (hb : acc < 128 ^ i) : Go.bits .or .u64 acc (y * 128 ^ i) = acc + y * 128 ^ i := by
  obtain ⟨_, hn, hm⟩ := shl_at hi h0 h1 h9
  have p : (2 : Int) ^ (7 * i) = 128 ^ i := by
    rw [Int.pow_mul, show (2 : Int) ^ 7 = 128 from rfl]
  have comm : Go.bits .or .u64 acc (y * 128 ^ i) = Go.bits .or .u64 (y * 128 ^ i) acc := by
    unfold Go.bits
    simp only [BitVec.or_comm]
  rw [comm, bits_join .u64 64 (by decide) (fun n a b => wu64_in a b) (7 * i) (y * 128 ^ i) acc hn (by rw [p]; exact Int.mul_emod_left ..) (by simp; omega) ha (by rw [p]; exact hb) (by simp; omega)]
  omega
theorem and127 : ∀ m : Fin 256, IntKind.u64.wrap (Go.bits .and .u8 ((m.val : Nat) : Int) 127) = ((m.val % 128 : Nat) : Int) := by decide +kernel
theorem and127' {c : Int} (h0 : 0 ≤ c) (h1 : c ≤ 255) : IntKind.u64.wrap (Go.bits .and .u8 c 127) = c % 128 := by
  have := and127 ⟨c.toNat, by omega⟩
  simp only at this
  rw [show ((c.toNat : Nat) : Int) = c by omega] at this
  rw [this]; omega
theorem mod128 {c : Int} (h0 : 0 ≤ c) (h1 : c ≤ 255) : IntKind.u64.wrap (Int.tmod c 128) = c % 128 := by
  rw [Int.tmod_eq_emod_of_nonneg h0, wu64 (by omega) (by omega)]
theorem acc_next {i : Nat} (hi : i ≤ 9) {y acc : Int} (h0 : 0 ≤ y) (h1 : y < 128) (ha : 0 ≤ acc) (hb : acc < 128 ^ i) : 0 ≤ acc + y * 128 ^ i ∧ acc + y * 128 ^ i < 128 ^ (i + 1) := by
  have p := p128_pos i
  have q : 0 ≤ y * 128 ^ i := Int.mul_nonneg h0 (by omega)
  have q2 : y * 128 ^ i ≤ 127 * 128 ^ i := Int.mul_le_mul_of_nonneg_right (by omega) (by omega)
  rw [Int.pow_succ]
  omega
theorem bt_range (s : ByteArray) (i : Int) : 0 ≤ bt s i ∧ bt s i ≤ 255 := by
  unfold bt
  split
  · rename_i h
    have := (s[i.toNat]'h).toNat_lt
    omega
  · omega
theorem ix_bt {P : Program} {t : TypeId} (h : P.underlying t = some .string) (s : ByteArray) (k : IntKind) (i : Nat) (h1 : i < s.size) :
    ix2 P t (some (.s (.string s))) (some (.s (.int k (i : Int)))) = some (.s (.int .u8 (bt s (i : Int)))) := by
  rw [ix_str h s k i (by omega) (by omega)]
  unfold bt
  rw [dif_pos (by simpa using h1)]
theorem w64k {n : Int} (h0 : -9223372036854775808 ≤ n) (h1 : n ≤ 9223372036854775807) : IntKind.i64.wrap n = n := by
  have : IntKind.i64.wrap n = wrap64 n := by unfold IntKind.wrap wrap64; simp [IntKind.bits, IntKind.signed, IntKind.min, IntKind.max] <;> omega
  rw [this, w64 h0 h1]
end Go.Proofs.Ytpmoellbfgcefaa.AS
end
section
set_option autoImplicit false
set_option maxRecDepth 100000
set_option maxHeartbeats 1000000

namespace Go.Proofs.Ytpmoellbfgcefaa.AS
open Go Go.Proofs Go.RowKit Go.Proofs.Ytpmoellbfgcefaa.AS.V

def fr60 (s : ByteArray) (a1 : AV) (acc i : Int) (a7 : AV) : List AV := [.s (.string s), a1, .any, .any, .any, .s (.int .u64 acc), .s (.int .i64 i), a7] ++ List.replicate 35 .any
noncomputable def lab60 : ACode := match c60 with
  | .seq _ (.scope _ b _) => (findA b 0).getD .skip
  | _ => .skip
noncomputable def scp60 : ACode → ACode := match c60 with
  | .seq _ (.scope fg b _) => fun c => .scope fg b c
  | _ => id

theorem run60 {T : FuncId → Option AFunc} (s : ByteArray) (hs : s.size ≤ 9223372036854775807) (h : Heap) : ∀ (d i : Nat) (acc : Int) (a1 a7 : AV), i + d = s.size → i ≤ 9 → 0 ≤ acc → acc < 128 ^ i →
    ∃ tm', (tm'[2]? = some (.s (.int .u64 (G ((bytesOf s).drop i) i acc).1)) ∧ tm'[3]? = some (.s (.string (strOfNums (G ((bytesOf s).drop i) i acc).2.1))) ∧ tm'[4]? = some (.s (.int .i64 (G ((bytesOf s).drop i) i acc).2.2))) ∧
      Run Try.prog T (scp60 lab60) (fr60 s a1 acc i a7) h (.ret, tm', h) := by
  intro d
  induction d with
  | zero =>
    intro i acc a1 a7 hd hi ha hb
    rw [List.drop_eq_nil_of_le (by rw [bytesOf_length]; omega)]
    refine ⟨?tm1, ?props1, Run.scope_end (by simp) (Run.step 30 fun k j => ?run1)⟩
    case run1 =>
      simp [c60, lab60, findA, fr60, Try.underlying9, Try.underlying5, Try.underlying35, Try.underlying3, show (i : Int) = s.size by omega]
      rfl
    case props1 => exact ⟨rfl, rfl, rfl⟩
  | succ d ih =>
    intro i acc a1 a7 hd hi ha hb
    have hlt : i < s.size := by omega
    have hc := bt_range s (i : Int)
    have hx := fun t h => ix_bt (P := Try.prog) (t := t) h s .i64 i hlt
    rw [bytesOf_drop_cons s i hlt]
    generalize hcv : bt s (i : Int) = c at hc hx
    have e127 : IntKind.u64.wrap (Go.bits .and .u8 c 127) = c % 128 := and127' hc.1 hc.2
    have hne : ¬ ((i : Int) = s.size) := by omega
    have w7 : IntKind.i64.wrap (7 * (i : Int)) = 7 * (i : Int) := w64k (by omega) (by omega)
    have w1 : IntKind.i64.wrap ((i : Int) + 1) = (i : Int) + 1 := w64k (by omega) (by omega)
    have h7 : (0 : Int) ≤ 7 * (i : Int) := by omega
    have hx' : s.extract (i + 1) s.size = strOfNums ((bytesOf s).drop (i + 1)) := extract_eq_strOf s (i + 1) (by omega)
    have hsl : ∀ t, Try.prog.underlying t = some .string → slS Try.prog t (some (.s (.string s))) (some (some (.s (.int .i64 ((i : Int) + 1))))) none = some (.s (.string (strOfNums ((bytesOf s).drop (i + 1))))) := fun t h => by
      rw [sl_lo h s .i64 ((i : Int) + 1) (by omega) (by omega), show ((i : Int) + 1).toNat = i + 1 by omega, hx']
    rw [G]
    by_cases hbad : i = 9 ∧ c > 1
    · rw [if_pos hbad]
      have h9 : (i : Int) = 9 := by omega
      have h1 : 1 < c := hbad.2
      refine ⟨?tm2, ?props2, Run.scope_end (by simp) (Run.step 30 fun k j => ?run2)⟩
      case run2 =>
        simp [c60, lab60, findA, fr60, hx, Try.underlying9, eq_false hne, eq_true h9, eq_true h1]
        rfl
      case props2 => exact ⟨rfl, rfl, rfl⟩
    rw [if_neg hbad]
    have hsh := shl_at hi (y := c % 128) (by omega) (by omega) (fun h => by omega)
    have hor := or_at hi (y := c % 128) (by omega) (by omega) (fun h => by omega) ha hb
    have hn := acc_next hi (y := c % 128) (by omega) (by omega) ha hb
    by_cases hbig : 128 ≤ c
    · rw [if_pos (by omega)]
      have h9 : ¬ ((i : Int) = 9) := by omega
      obtain ⟨tm', hp, hr⟩ := ih (i + 1) (acc + (c - 128) * 128 ^ i) a1 (.s (.int .u8 c)) (by omega) (by omega) (by rw [show c % 128 = c - 128 by omega] at hn; exact hn.1) (by rw [show c % 128 = c - 128 by omega] at hn; exact hn.2)
      refine ⟨tm', hp, Run.scope_goto_f (tm' := ?tm3) (h' := h) (l := 0) (Run.step 30 fun k j => ?run3) rfl ?fg3 hr⟩
      case run3 =>
        simp [c60, lab60, findA, fr60, hx, Try.underlying9, Try.underlying5, Try.underlying35, eq_false hne, eq_false h9, h7, w7, w1, e127, hsh.1, hor, hbig]
        rfl
      case fg3 => simp [forget, fr60, show c % 128 = c - 128 by omega]
    · by_cases h9 : (i : Int) = 9
      · have h1 : ¬ 1 < c := by omega
        rw [if_neg (by omega)]
        rw [show c % 128 = c by omega] at e127 hsh hor
        by_cases h0 : c = 0
        · by_cases hi0 : 0 < i
          · rw [if_pos ⟨h0, hi0⟩]
            have hi1 : (1 : Int) < (i : Int) + 1 := by omega
            refine ⟨?tm11, ?props11, Run.scope_end (by simp) (Run.step 40 fun k j => ?run11)⟩
            case run11 =>
              simp [c60, lab60, findA, fr60, hx, hsl, Try.underlying9, Try.underlying5, Try.underlying35, eq_false hne, h7, w7, w1, e127, hsh.1, hor, eq_true h9, eq_false h1, eq_false hbig, eq_true h0, eq_true hi1]
              rfl
            case props11 => exact ⟨rfl, rfl, rfl⟩

          · rw [if_neg (by omega)]
            have hi1 : ¬ (1 : Int) < (i : Int) + 1 := by omega
            refine ⟨?tm12, ?props12, Run.scope_end (by simp) (Run.step 40 fun k j => ?run12)⟩
            case run12 =>
              simp [c60, lab60, findA, fr60, hx, hsl, Try.underlying9, Try.underlying5, Try.underlying35, eq_false hne, h7, w7, w1, e127, hsh.1, hor, eq_true h9, eq_false h1, eq_false hbig, eq_true h0, eq_false hi1]
              rfl
            case props12 => exact ⟨rfl, rfl, rfl⟩

        · rw [if_neg (by omega)]
          refine ⟨?tm13, ?props13, Run.scope_end (by simp) (Run.step 40 fun k j => ?run13)⟩
          case run13 =>
            simp [c60, lab60, findA, fr60, hx, hsl, Try.underlying9, Try.underlying5, Try.underlying35, eq_false hne, h7, w7, w1, e127, hsh.1, hor, eq_true h9, eq_false h1, eq_false hbig, eq_false h0]
            rfl
          case props13 => exact ⟨rfl, rfl, rfl⟩


      · rw [if_neg (by omega)]
        rw [show c % 128 = c by omega] at e127 hsh hor
        by_cases h0 : c = 0
        · by_cases hi0 : 0 < i
          · rw [if_pos ⟨h0, hi0⟩]
            have hi1 : (1 : Int) < (i : Int) + 1 := by omega
            refine ⟨?tm14, ?props14, Run.scope_end (by simp) (Run.step 40 fun k j => ?run14)⟩
            case run14 =>
              simp [c60, lab60, findA, fr60, hx, hsl, Try.underlying9, Try.underlying5, Try.underlying35, eq_false hne, h7, w7, w1, e127, hsh.1, hor, eq_false h9, eq_false hbig, eq_true h0, eq_true hi1]
              rfl
            case props14 => exact ⟨rfl, rfl, rfl⟩

          · rw [if_neg (by omega)]
            have hi1 : ¬ (1 : Int) < (i : Int) + 1 := by omega
            refine ⟨?tm15, ?props15, Run.scope_end (by simp) (Run.step 40 fun k j => ?run15)⟩
            case run15 =>
              simp [c60, lab60, findA, fr60, hx, hsl, Try.underlying9, Try.underlying5, Try.underlying35, eq_false hne, h7, w7, w1, e127, hsh.1, hor, eq_false h9, eq_false hbig, eq_true h0, eq_false hi1]
              rfl
            case props15 => exact ⟨rfl, rfl, rfl⟩

        · rw [if_neg (by omega)]
          refine ⟨?tm16, ?props16, Run.scope_end (by simp) (Run.step 40 fun k j => ?run16)⟩
          case run16 =>
            simp [c60, lab60, findA, fr60, hx, hsl, Try.underlying9, Try.underlying5, Try.underlying35, eq_false hne, h7, w7, w1, e127, hsh.1, hor, eq_false h9, eq_false hbig, eq_false h0]
            rfl
          case props16 => exact ⟨rfl, rfl, rfl⟩


end Go.Proofs.Ytpmoellbfgcefaa.AS
end
section
set_option autoImplicit false
set_option maxRecDepth 100000
set_option maxHeartbeats 1000000
namespace Go.Proofs.Ytpmoellbfgcefaa.AS
open Go Go.Proofs Go.RowKit Go.Proofs.Ytpmoellbfgcefaa.AS.V
theorem get_run {T : FuncId → Option AFunc} (hT : T 60 = prepFn Try.prog 60) (s : ByteArray) (hs : s.size ≤ 9223372036854775807) (h : Heap) : FRun Try.prog T 60 [.s (.string s)] h (.tp [.s (.int .u64 (gets s).1), .s (.string (gets s).2.1), .s (.int .i64 (gets s).2.2)], h) := by
  obtain ⟨tm', ⟨p1, p2, p3⟩, hr⟩ := run60 (T := T) s hs h s.size 0 0 (.s undef) (.s undef) (by omega) (by omega) (by omega) (by simp)
  apply FRun.of (hT.trans p60)
  · apply Run.seq
    · apply Run.step 5; intro k j
      simp
      exact ⟨rfl, rfl⟩
    · apply Run.scope_as (H := hr)
      intro r H
      apply Run.seq
      · apply Run.step 5; intro k j
        simp
        exact ⟨rfl, rfl⟩
      · apply Run.seq
        · apply Run.step 5; intro k j
          simp [forget]
          exact ⟨rfl, rfl⟩
        · exact Run.skip_l H
  · exact Or.inl rfl
  · simp [resAs, resA, p1, p2, p3, gets, tupA]

/-- What the numbers' reading is. -/
noncomputable def hkGet : List AV → Heap → Option (AV × Heap)
  | [.s (.string s)], h => if s.size ≤ 9223372036854775807 then some (.tp [.s (.int .u64 (gets s).1), .s (.string (gets s).2.1), .s (.int .i64 (gets s).2.2)], h) else none
  | _, _ => none
theorem hkGet_ok {T : FuncId → Option AFunc} (hm : Try.prog.follows .mixedOrders = true) (hT : TabOK Try.prog T) (h60 : T 60 = prepFn Try.prog 60) (hc : callable Try.prog 60 = true) : HookSound Try.prog 60 hkGet := by
  refine hookOf hm hT hc fun l h r he => ?_
  unfold hkGet at he
  split at he
  · rename_i s
    split at he
    · rename_i hs
      cases he
      exact ⟨_, get_run h60 s hs h, Drops.refl _ _⟩
    · cases he
  · cases he
end Go.Proofs.Ytpmoellbfgcefaa.AS
end
section
set_option autoImplicit false
set_option maxRecDepth 100000
set_option maxHeartbeats 1000000
namespace Go.Proofs.Ytpmoellbfgcefaa.AS
open Go Go.Proofs Go.RowKit Go.Proofs.Ytpmoellbfgcefaa.AS.V

theorem set_bk {h : Heap} {b : Nat} {k : Blk} (e : bk h b = some k) : h.set b k = h := by
  obtain ⟨hlt, rfl⟩ := List.getElem?_eq_some_iff.1 e
  exact List.set_getElem_self hlt

/-- What a reader's next number is. -/
def numS (s : ByteArray) (w : Int) : Int × ByteArray × Int := if w = 0 then gets s else (0, s, w)
noncomputable def hkNum : List AV → Heap → Option (AV × Heap)
  | [.pt b v 0], h => match bk h b with
    | some ⟨v', e, sz, true, [.s (.string s), .s (.int .i64 w)]⟩ => if v' = v ∧ s.size ≤ 9223372036854775807 then
        some (.s (.int .u64 (numS s w).1), h.set b ⟨v', e, sz, true, [.s (.string (numS s w).2.1), .s (.int .i64 (numS s w).2.2)]⟩) else none
    | _ => none
  | _, _ => none
theorem num_run {T : FuncId → Option AFunc} (hT : T 76 = prepFn Try.prog 76) (hG : T 60 = some (.hook hkGet)) (s : ByteArray) (hs : s.size ≤ 9223372036854775807) (w : Int) (h : Heap) (b v e sz : Nat) (hb : bk h b = some ⟨v, e, sz, true, [.s (.string s), .s (.int .i64 w)]⟩) :
    FRun Try.prog T 76 [.pt b v 0] h (.s (.int .u64 (numS s w).1), h.set b ⟨v, e, sz, true, [.s (.string (numS s w).2.1), .s (.int .i64 (numS s w).2.2)]⟩) := by
  have hlt := bk_lt hb
  have hc := fun k l h => evFn_hook (P := Try.prog) (T := T) (k := k) (f := 60) (args := l) (h := h) hG
  by_cases hw : w = 0
  · apply FRun.of (e := .ret) (hT.trans p76)
    · apply Run.step 30; intro k j
      simp [c76, hb, hc, hkGet, hs, hlt, eq_true hw, oneOr, cellsOf, isCell, numS]
      rfl
    · exact Or.inl rfl
    · simp [resAs, resA, tupA, numS, hw]
  · have e1 : numS s w = (0, s, w) := if_neg hw
    rw [e1]
    simp only
    rw [set_bk hb]
    apply FRun.of (e := .ret) (hT.trans p76)
    · apply Run.step 30; intro k j
      simp [c76, hb, hc, hkGet, hs, hlt, eq_false hw, oneOr, cellsOf, isCell, e1]
      rfl
    · exact Or.inl rfl
    · rfl
theorem hkNum_ok {T : FuncId → Option AFunc} (hm : Try.prog.follows .mixedOrders = true) (hT : TabOK Try.prog T) (h76 : T 76 = prepFn Try.prog 76) (hG : T 60 = some (.hook hkGet)) (hc : callable Try.prog 76 = true) : HookSound Try.prog 76 hkNum := by
  refine hookOf hm hT hc fun l h r he => ?_
  unfold hkNum at he
  split at he
  · split at he
    · rename_i b v v' e sz s w hb
      split at he
      · rename_i hs
        cases he
        obtain ⟨rfl, hs⟩ := hs
        exact ⟨_, num_run h76 hG s hs w h _ _ e sz hb, Drops.refl _ _⟩
      · cases he
    · cases he
  · cases he
end Go.Proofs.Ytpmoellbfgcefaa.AS
end
section
set_option autoImplicit false
set_option maxRecDepth 100000
set_option maxHeartbeats 2000000
set_option linter.unusedSimpArgs false
namespace Go.Proofs.Ytpmoellbfgcefaa.AS
open Go Go.Proofs Go.RowKit Go.Proofs.Ytpmoellbfgcefaa.AS.V

def slotC (x : Int × Int) : List AV := [.s (.int .u64 x.1), .s (.string ⟨#[]⟩), .s (.int .u64 x.2)]
def outA (bo : Nat) : List (Int × Int) → AV
  | [] => .s (.slice none 0 0)
  | x :: L => .sl bo L.length 0 (L.length + 1) 3
structure InvS (h0 h' : Heap) (br bo vr er : Nat) (L : List (Int × Int)) (s : ByteArray) (w : Int) : Prop where
  rd : bk h' br = some ⟨vr, er, 2, true, [.s (.string s), .s (.int .i64 w)]⟩
  old : ∀ b, b < h0.length → b ≠ br → bk h' b = bk h0 b
  len : h0.length ≤ h'.length
  out : L ≠ [] → h0.length ≤ bo ∧ br ≠ bo ∧ bk h' bo = some ⟨L.length - 1, 94, 3, true, L.flatMap slotC⟩
def fr59 (br vr : Nat) (many : Int) (out : AV) (i : Int) (a1 a2 a6 a7 a8 a9 a10 a11 a12 a13 a14 a15 a16 a17 a18 a19 a20 a21 a83 : AV) : List AV := [.pt br vr 0, a1, a2, .s (.int .u64 many), out, .s (.int .u64 i), a6, a7, a8, a9, a10, a11, a12, a13, a14, a15, a16, a17, a18, a19, a20, a21] ++ List.replicate 61 .any ++ [a83]
noncomputable def body59 : ACode := match c59 with
  | .seq _ (.seq _ (.seq _ (.seq _ (.seq (.seq _ (.block _ (.loop _ b))) _)))) => b
  | _ => .skip
noncomputable def fg59 : List Nat := match c59 with
  | .seq _ (.seq _ (.seq _ (.seq _ (.seq (.seq _ (.block _ (.loop fg _))) _)))) => fg
  | _ => []

/-- One entry read: the flag that was raised, its key, its size, what is behind it. -/
def slot1 (L : List (Int × Int)) (s : ByteArray) : (Int × Int) × ByteArray × Int :=
  let g := numS s 0
  let last := (L.getLastD (0, 0)).1
  let w2 := if L ≠ [] ∧ g.2.2 = 0 ∧ (last = 18446744073709551615 ∨ g.1 > 18446744073709551615 - last - 1) then 7 else g.2.2
  let key := if L ≠ [] ∧ g.2.2 = 0 then IntKind.u64.wrap (g.1 + IntKind.u64.wrap (last + 1)) else g.1
  let z := numS g.2.1 w2
  ((key, z.1), z.2.1, z.2.2)
theorem num_size {s : ByteArray} (hs : s.size ≤ 9223372036854775807) (w : Int) : (numS s w).2.1.size ≤ 9223372036854775807 := by
  unfold numS
  split
  · exact Nat.le_trans (gets_shorter s) hs
  · exact hs

theorem slotC_len : ∀ L : List (Int × Int), (L.flatMap slotC).length = L.length * 3
  | [] => rfl
  | x :: L => by rw [List.flatMap_cons, List.length_append, slotC_len L, List.length_cons]; simp [slotC]; omega

theorem it0 {T : FuncId → Option AFunc} (hN : T 76 = some (.hook hkNum)) (h0 h' : Heap) (br bo vr er : Nat) (s : ByteArray) (hs : s.size ≤ 9223372036854775807) (many : Int) (hm : 0 < many) (hI : InvS h0 h' br bo vr er [] s 0) (h0b : br < h0.length)
    (a1 a2 a6 a7 a8 a9 a10 a11 a12 a13 a14 a15 a16 a17 a18 a19 a20 a21 a83 : AV) : ∃ H bo' a6' a7' tm', forget fg59 tm' = fr59 br vr many (outA bo' [(slot1 [] s).1]) 1 a1 a2 a6' a7' a8 a9 a10 a11 a12 a13 a14 a15 a16 a17 a18 a19 a20 a21 a83 ∧ InvS h0 H br bo' vr er [(slot1 [] s).1] (slot1 [] s).2.1 (slot1 [] s).2.2 ∧
      Run Try.prog T body59 (fr59 br vr many (outA bo []) 0 a1 a2 a6 a7 a8 a9 a10 a11 a12 a13 a14 a15 a16 a17 a18 a19 a20 a21 a83) h' (.normal, tm', H) := by
  have hb := hI.rd
  have hlt := bk_lt hb
  have hc := fun k l h => evFn_hook (P := Try.prog) (T := T) (k := k) (f := 76) (args := l) (h := h) hN
  have hs1 := num_size hs 0
  have hs2 := num_size hs1 (numS s 0).2.2
  have w1 : IntKind.u64.wrap 1 = 1 := wu64 (by omega) (by omega)
  have hle := hI.len
  refine ⟨?H, h'.length + 2, ?a6, ?a7, ?tm, ?fg, ?inv, Run.step 40 fun k j => ?run⟩
  case run =>
    simp [c59, body59, fr59, outA, hb, hc, hkNum, hs, hlt, hm, oneOr, cellsOf, isCell, fillA, hs1, hs2, apV_nil, w1]
    (constructor <;> rfl)
  case fg =>
    simp [forget, fg59, c59, fr59, outA]
    (constructor <;> rfl)
  case inv =>
    refine ⟨?_, fun b h1 h2 => ?_, ?_, fun _ => ⟨?_, ?_, ?_⟩⟩
    · simp [hlt, slot1]
    · have h3 : b < h'.length := by omega
      simp [h3, Ne.symm h2, hI.old b h1 h2]
    · simp; omega
    · omega
    · omega
    · simp [slot1, slotC]

theorem itA {T : FuncId → Option AFunc} (hN : T 76 = some (.hook hkNum)) (h0 h' : Heap) (br bo vr er m : Nat) (s : ByteArray) (hs : s.size ≤ 9223372036854775807) (many : Int) (L : List (Int × Int)) (hL : L.length = m + 1) (hm : (m : Int) + 1 < many) (hmany : many ≤ 65536) (hI : InvS h0 h' br bo vr er L s 0) (h0b : br < h0.length)
    (h0l : 0 ≤ (L.getLastD (0, 0)).1) (h1l : (L.getLastD (0, 0)).1 ≤ 18446744073709551615) (hw : (numS s 0).2.2 ≠ 0)
    (a1 a2 a6 a7 a8 a9 a10 a11 a12 a13 a14 a15 a16 a17 a18 a19 a20 a21 a83 : AV) : ∃ H a6' a7' tm', forget fg59 tm' = fr59 br vr many (outA bo (L ++ [(slot1 L s).1])) ((m : Int) + 2) a1 a2 a6' a7' a8 a9 a10 a11 a12 a13 a14 a15 a16 a17 a18 a19 a20 a21 a83 ∧ InvS h0 H br bo vr er (L ++ [(slot1 L s).1]) (slot1 L s).2.1 (slot1 L s).2.2 ∧
      Run Try.prog T body59 (fr59 br vr many (outA bo L) ((m : Int) + 1) a1 a2 a6 a7 a8 a9 a10 a11 a12 a13 a14 a15 a16 a17 a18 a19 a20 a21 a83) h' (.normal, tm', H) := by
  have hb := hI.rd
  have hlt := bk_lt hb
  have hc := fun k l h => evFn_hook (P := Try.prog) (T := T) (k := k) (f := 76) (args := l) (h := h) hN
  have hs1 := num_size hs 0
  have hne : L ≠ [] := by intro h; rw [h] at hL; simp at hL
  have hle := hI.len
  obtain ⟨ho1, ho2, ho3⟩ := hI.out hne
  rw [hL, Nat.add_sub_cancel] at ho3
  have hlo := bk_lt ho3
  have eL : outA bo L = .sl bo m 0 (m + 1) 3 := by
    cases L with
    | nil => exact absurd rfl hne
    | cons x L => simp at hL; simp [outA, hL]
  have eL2 : outA bo (L ++ [(slot1 L s).1]) = .sl bo (m + 1) 0 (m + 2) 3 := by
    cases L with
    | nil => exact absurd rfl hne
    | cons x L => simp at hL; simp [outA, hL]
  have wi : IntKind.u64.wrap ((m : Int) + 1 - 1) = m := by rw [wu64 (by omega) (by omega)]; omega
  have wi' : IntKind.u64.wrap (m : Int) = m := wu64 (by omega) (by omega)
  have wj : IntKind.u64.wrap ((m : Int) + 1 + 1) = (m : Int) + 2 := by rw [wu64 (by omega) (by omega)]; omega
  have ip : (0 : Int) < (m : Int) + 1 := by omega
  have im : (m : Int) < ((m + 1 : Nat) : Int) := by omega
  have im' : (m : Int) < (m : Int) + 1 := by omega
  have hCl : (L.flatMap slotC).length = (m + 1) * 3 := by
    rw [slotC_len, hL]
  have hCg : (L.flatMap slotC)[m * 3]? = some (.s (.int .u64 (L.getLastD (0, 0)).1)) := by
    obtain ⟨M, x, rfl⟩ : ∃ M x, L = M ++ [x] := ⟨L.dropLast, L.getLast hne, (List.dropLast_concat_getLast hne).symm⟩
    simp at hL
    have : (M.flatMap slotC).length = m * 3 := by rw [slotC_len, hL]
    rw [List.flatMap_append, List.getElem?_append_right (by omega), this]
    simp [slotC]
  have hsl : slot1 L s = (((slot1 L s).1.1, (slot1 L s).1.2), (slot1 L s).2.1, (slot1 L s).2.2) := rfl
  generalize hlast : (L.getLastD (0, 0)).1 = last at *
  generalize hC : L.flatMap slotC = C at *
  have hCd : (C.drop (m * 3)).take 1 = [.s (.int .u64 last)] := by
    rw [List.take_one, List.head?_drop, hCg]; rfl
  have hle1 : m * 3 + 1 ≤ C.length := by omega
  have hle2 : (m + 1) * 3 ≤ C.length := by omega
  have hlt2 : m * 3 < C.length := by omega
  have hall : C.take ((m + 1) * 3) = C := List.take_of_length_le (by omega)
  have n1 : bo ≠ h'.length := by omega
  have n2 : bo ≠ h'.length + 1 := by omega
  have b1 : (m + 1 + 1) * 32 ≤ 140737488355328 := by omega
  have b2 : m + 1 + 1 ≤ 9223372036854775807 := by omega
  have ho2' := Ne.symm ho2
  have hs2 := num_size hs1 (numS s 0).2.2
  have hz : slot1 L s = (((numS s 0).1, (numS (numS s 0).2.1 (numS s 0).2.2).1), (numS (numS s 0).2.1 (numS s 0).2.2).2.1, (numS (numS s 0).2.1 (numS s 0).2.2).2.2) := by
    simp [slot1, eq_false hw]
  refine ⟨?H, ?a6, ?a7, ?tm, ?fg, ?inv, Run.step 40 fun k j => ?run⟩
  case run =>
    simp [c59, body59, fr59, eL, hb, hc, hkNum, hs, hlt, hm, oneOr, cellsOf, isCell, fillA, hs1, apK_s, wi, wi', wj, eq_true ip, im, im', ho3, hCd, hCg, hle1, hle2, hlt2, hall, hlo, n1, n2, b1, b2, ho2, ho2', hs2, eq_false hw]
    (constructor <;> rfl)
  case fg =>
    rw [eL2]
    simp [forget, fg59, c59, fr59]
    (constructor <;> rfl)
  case inv =>
    rw [hz]
    refine ⟨?_, fun b h1 h2 => ?_, ?_, fun _ => ⟨?_, ?_, ?_⟩⟩
    · simp [hlt, hlo, ho2']
    · have h3 : b < h'.length := by omega
      have h4 : bo ≠ b := by omega
      simp [h3, h4, Ne.symm h2, hI.old b h1 h2]
    · simp; omega
    · omega
    · omega
    · simp [hlo, List.flatMap_append, hC, slotC, hL]

theorem itB {T : FuncId → Option AFunc} (hN : T 76 = some (.hook hkNum)) (h0 h' : Heap) (br bo vr er m : Nat) (s : ByteArray) (hs : s.size ≤ 9223372036854775807) (many : Int) (L : List (Int × Int)) (hL : L.length = m + 1) (hm : (m : Int) + 1 < many) (hmany : many ≤ 65536) (hI : InvS h0 h' br bo vr er L s 0) (h0b : br < h0.length)
    (h0l : 0 ≤ (L.getLastD (0, 0)).1) (h1l : (L.getLastD (0, 0)).1 ≤ 18446744073709551615) (hw : (numS s 0).2.2 = 0) (hx : (L.getLastD (0, 0)).1 = 18446744073709551615)
    (a1 a2 a6 a7 a8 a9 a10 a11 a12 a13 a14 a15 a16 a17 a18 a19 a20 a21 a83 : AV) : ∃ H a6' a7' tm', forget fg59 tm' = fr59 br vr many (outA bo (L ++ [(slot1 L s).1])) ((m : Int) + 2) a1 a2 a6' a7' a8 a9 a10 a11 a12 a13 a14 a15 a16 a17 a18 a19 a20 a21 a83 ∧ InvS h0 H br bo vr er (L ++ [(slot1 L s).1]) (slot1 L s).2.1 (slot1 L s).2.2 ∧
      Run Try.prog T body59 (fr59 br vr many (outA bo L) ((m : Int) + 1) a1 a2 a6 a7 a8 a9 a10 a11 a12 a13 a14 a15 a16 a17 a18 a19 a20 a21 a83) h' (.normal, tm', H) := by
  have hb := hI.rd
  have hlt := bk_lt hb
  have hc := fun k l h => evFn_hook (P := Try.prog) (T := T) (k := k) (f := 76) (args := l) (h := h) hN
  have hs1 := num_size hs 0
  have hne : L ≠ [] := by intro h; rw [h] at hL; simp at hL
  have hle := hI.len
  obtain ⟨ho1, ho2, ho3⟩ := hI.out hne
  rw [hL, Nat.add_sub_cancel] at ho3
  have hlo := bk_lt ho3
  have eL : outA bo L = .sl bo m 0 (m + 1) 3 := by
    cases L with
    | nil => exact absurd rfl hne
    | cons x L => simp at hL; simp [outA, hL]
  have eL2 : outA bo (L ++ [(slot1 L s).1]) = .sl bo (m + 1) 0 (m + 2) 3 := by
    cases L with
    | nil => exact absurd rfl hne
    | cons x L => simp at hL; simp [outA, hL]
  have wi : IntKind.u64.wrap ((m : Int) + 1 - 1) = m := by rw [wu64 (by omega) (by omega)]; omega
  have wi' : IntKind.u64.wrap (m : Int) = m := wu64 (by omega) (by omega)
  have wj : IntKind.u64.wrap ((m : Int) + 1 + 1) = (m : Int) + 2 := by rw [wu64 (by omega) (by omega)]; omega
  have ip : (0 : Int) < (m : Int) + 1 := by omega
  have im : (m : Int) < ((m + 1 : Nat) : Int) := by omega
  have im' : (m : Int) < (m : Int) + 1 := by omega
  have hCl : (L.flatMap slotC).length = (m + 1) * 3 := by
    rw [slotC_len, hL]
  have hCg : (L.flatMap slotC)[m * 3]? = some (.s (.int .u64 (L.getLastD (0, 0)).1)) := by
    obtain ⟨M, x, rfl⟩ : ∃ M x, L = M ++ [x] := ⟨L.dropLast, L.getLast hne, (List.dropLast_concat_getLast hne).symm⟩
    simp at hL
    have : (M.flatMap slotC).length = m * 3 := by rw [slotC_len, hL]
    rw [List.flatMap_append, List.getElem?_append_right (by omega), this]
    simp [slotC]
  have hsl : slot1 L s = (((slot1 L s).1.1, (slot1 L s).1.2), (slot1 L s).2.1, (slot1 L s).2.2) := rfl
  generalize hlast : (L.getLastD (0, 0)).1 = last at *
  generalize hC : L.flatMap slotC = C at *
  have hCd : (C.drop (m * 3)).take 1 = [.s (.int .u64 last)] := by
    rw [List.take_one, List.head?_drop, hCg]; rfl
  have hle1 : m * 3 + 1 ≤ C.length := by omega
  have hle2 : (m + 1) * 3 ≤ C.length := by omega
  have hlt2 : m * 3 < C.length := by omega
  have hall : C.take ((m + 1) * 3) = C := List.take_of_length_le (by omega)
  have n1 : bo ≠ h'.length := by omega
  have n2 : bo ≠ h'.length + 1 := by omega
  have b1 : (m + 1 + 1) * 32 ≤ 140737488355328 := by omega
  have b2 : m + 1 + 1 ≤ 9223372036854775807 := by omega
  have ho2' := Ne.symm ho2
  have hs2 := num_size hs1 7
  have hz : slot1 L s = ((IntKind.u64.wrap ((numS s 0).1 + IntKind.u64.wrap (last + 1)), (numS (numS s 0).2.1 7).1), (numS (numS s 0).2.1 7).2.1, (numS (numS s 0).2.1 7).2.2) := by
    have hlast' : (L.getLast?.getD (0, 0)).1 = last := by simpa using hlast
    simp [slot1, eq_true hw, hne, hlast', eq_true hx]

  refine ⟨?H, ?a6, ?a7, ?tm, ?fg, ?inv, Run.step 40 fun k j => ?run⟩
  case run =>
    simp [c59, body59, fr59, eL, hb, hc, hkNum, hs, hlt, hm, oneOr, cellsOf, isCell, fillA, hs1, apK_s, wi, wi', wj, eq_true ip, im, im', ho3, hCd, hCg, hle1, hle2, hlt2, hall, hlo, n1, n2, b1, b2, ho2, ho2', hs2, eq_true hw, eq_true hx]
    (constructor <;> rfl)
  case fg =>
    rw [eL2]
    simp [forget, fg59, c59, fr59]
    (constructor <;> rfl)
  case inv =>
    rw [hz]
    refine ⟨?_, fun b h1 h2 => ?_, ?_, fun _ => ⟨?_, ?_, ?_⟩⟩
    · simp [hlt, hlo, ho2']
    · have h3 : b < h'.length := by omega
      have h4 : bo ≠ b := by omega
      simp [h3, h4, Ne.symm h2, hI.old b h1 h2]
    · simp; omega
    · omega
    · omega
    · simp [hlo, List.flatMap_append, hC, slotC, hL]

theorem itC {T : FuncId → Option AFunc} (hN : T 76 = some (.hook hkNum)) (h0 h' : Heap) (br bo vr er m : Nat) (s : ByteArray) (hs : s.size ≤ 9223372036854775807) (many : Int) (L : List (Int × Int)) (hL : L.length = m + 1) (hm : (m : Int) + 1 < many) (hmany : many ≤ 65536) (hI : InvS h0 h' br bo vr er L s 0) (h0b : br < h0.length)
    (h0l : 0 ≤ (L.getLastD (0, 0)).1) (h1l : (L.getLastD (0, 0)).1 ≤ 18446744073709551615) (hw : (numS s 0).2.2 = 0) (hx : (L.getLastD (0, 0)).1 ≠ 18446744073709551615) (hy : (numS s 0).1 > 18446744073709551615 - (L.getLastD (0, 0)).1 - 1)
    (a1 a2 a6 a7 a8 a9 a10 a11 a12 a13 a14 a15 a16 a17 a18 a19 a20 a21 a83 : AV) : ∃ H a6' a7' tm', forget fg59 tm' = fr59 br vr many (outA bo (L ++ [(slot1 L s).1])) ((m : Int) + 2) a1 a2 a6' a7' a8 a9 a10 a11 a12 a13 a14 a15 a16 a17 a18 a19 a20 a21 a83 ∧ InvS h0 H br bo vr er (L ++ [(slot1 L s).1]) (slot1 L s).2.1 (slot1 L s).2.2 ∧
      Run Try.prog T body59 (fr59 br vr many (outA bo L) ((m : Int) + 1) a1 a2 a6 a7 a8 a9 a10 a11 a12 a13 a14 a15 a16 a17 a18 a19 a20 a21 a83) h' (.normal, tm', H) := by
  have hb := hI.rd
  have hlt := bk_lt hb
  have hc := fun k l h => evFn_hook (P := Try.prog) (T := T) (k := k) (f := 76) (args := l) (h := h) hN
  have hs1 := num_size hs 0
  have hne : L ≠ [] := by intro h; rw [h] at hL; simp at hL
  have hle := hI.len
  obtain ⟨ho1, ho2, ho3⟩ := hI.out hne
  rw [hL, Nat.add_sub_cancel] at ho3
  have hlo := bk_lt ho3
  have eL : outA bo L = .sl bo m 0 (m + 1) 3 := by
    cases L with
    | nil => exact absurd rfl hne
    | cons x L => simp at hL; simp [outA, hL]
  have eL2 : outA bo (L ++ [(slot1 L s).1]) = .sl bo (m + 1) 0 (m + 2) 3 := by
    cases L with
    | nil => exact absurd rfl hne
    | cons x L => simp at hL; simp [outA, hL]
  have wi : IntKind.u64.wrap ((m : Int) + 1 - 1) = m := by rw [wu64 (by omega) (by omega)]; omega
  have wi' : IntKind.u64.wrap (m : Int) = m := wu64 (by omega) (by omega)
  have wj : IntKind.u64.wrap ((m : Int) + 1 + 1) = (m : Int) + 2 := by rw [wu64 (by omega) (by omega)]; omega
  have ip : (0 : Int) < (m : Int) + 1 := by omega
  have im : (m : Int) < ((m + 1 : Nat) : Int) := by omega
  have im' : (m : Int) < (m : Int) + 1 := by omega
  have hCl : (L.flatMap slotC).length = (m + 1) * 3 := by
    rw [slotC_len, hL]
  have hCg : (L.flatMap slotC)[m * 3]? = some (.s (.int .u64 (L.getLastD (0, 0)).1)) := by
    obtain ⟨M, x, rfl⟩ : ∃ M x, L = M ++ [x] := ⟨L.dropLast, L.getLast hne, (List.dropLast_concat_getLast hne).symm⟩
    simp at hL
    have : (M.flatMap slotC).length = m * 3 := by rw [slotC_len, hL]
    rw [List.flatMap_append, List.getElem?_append_right (by omega), this]
    simp [slotC]
  have hsl : slot1 L s = (((slot1 L s).1.1, (slot1 L s).1.2), (slot1 L s).2.1, (slot1 L s).2.2) := rfl
  generalize hlast : (L.getLastD (0, 0)).1 = last at *
  generalize hC : L.flatMap slotC = C at *
  have hCd : (C.drop (m * 3)).take 1 = [.s (.int .u64 last)] := by
    rw [List.take_one, List.head?_drop, hCg]; rfl
  have hle1 : m * 3 + 1 ≤ C.length := by omega
  have hle2 : (m + 1) * 3 ≤ C.length := by omega
  have hlt2 : m * 3 < C.length := by omega
  have hall : C.take ((m + 1) * 3) = C := List.take_of_length_le (by omega)
  have n1 : bo ≠ h'.length := by omega
  have n2 : bo ≠ h'.length + 1 := by omega
  have b1 : (m + 1 + 1) * 32 ≤ 140737488355328 := by omega
  have b2 : m + 1 + 1 ≤ 9223372036854775807 := by omega
  have ho2' := Ne.symm ho2
  have hs2 := num_size hs1 7
  have wa : IntKind.u64.wrap (18446744073709551615 - last) = 18446744073709551615 - last := wu64 (by omega) (by omega)
  have wb : IntKind.u64.wrap (18446744073709551615 - last - 1) = 18446744073709551615 - last - 1 := wu64 (by omega) (by omega)
  have hy' : 18446744073709551615 - last - 1 < (numS s 0).1 := hy
  have hz : slot1 L s = ((IntKind.u64.wrap ((numS s 0).1 + IntKind.u64.wrap (last + 1)), (numS (numS s 0).2.1 7).1), (numS (numS s 0).2.1 7).2.1, (numS (numS s 0).2.1 7).2.2) := by
    have hlast' : (L.getLast?.getD (0, 0)).1 = last := by simpa using hlast
    simp [slot1, eq_true hw, hne, hlast', eq_true hy']

  refine ⟨?H, ?a6, ?a7, ?tm, ?fg, ?inv, Run.step 40 fun k j => ?run⟩
  case run =>
    simp [c59, body59, fr59, eL, hb, hc, hkNum, hs, hlt, hm, oneOr, cellsOf, isCell, fillA, hs1, apK_s, wi, wi', wj, eq_true ip, im, im', ho3, hCd, hCg, hle1, hle2, hlt2, hall, hlo, n1, n2, b1, b2, ho2, ho2', hs2, eq_true hw, eq_false hx, wa, wb, eq_true hy']
    (constructor <;> rfl)
  case fg =>
    rw [eL2]
    simp [forget, fg59, c59, fr59]
    (constructor <;> rfl)
  case inv =>
    rw [hz]
    refine ⟨?_, fun b h1 h2 => ?_, ?_, fun _ => ⟨?_, ?_, ?_⟩⟩
    · simp [hlt, hlo, ho2']
    · have h3 : b < h'.length := by omega
      have h4 : bo ≠ b := by omega
      simp [h3, h4, Ne.symm h2, hI.old b h1 h2]
    · simp; omega
    · omega
    · omega
    · simp [hlo, List.flatMap_append, hC, slotC, hL]

theorem itD {T : FuncId → Option AFunc} (hN : T 76 = some (.hook hkNum)) (h0 h' : Heap) (br bo vr er m : Nat) (s : ByteArray) (hs : s.size ≤ 9223372036854775807) (many : Int) (L : List (Int × Int)) (hL : L.length = m + 1) (hm : (m : Int) + 1 < many) (hmany : many ≤ 65536) (hI : InvS h0 h' br bo vr er L s 0) (h0b : br < h0.length)
    (h0l : 0 ≤ (L.getLastD (0, 0)).1) (h1l : (L.getLastD (0, 0)).1 ≤ 18446744073709551615) (hw : (numS s 0).2.2 = 0) (hx : (L.getLastD (0, 0)).1 ≠ 18446744073709551615) (hy : ¬ (numS s 0).1 > 18446744073709551615 - (L.getLastD (0, 0)).1 - 1)
    (a1 a2 a6 a7 a8 a9 a10 a11 a12 a13 a14 a15 a16 a17 a18 a19 a20 a21 a83 : AV) : ∃ H a6' a7' tm', forget fg59 tm' = fr59 br vr many (outA bo (L ++ [(slot1 L s).1])) ((m : Int) + 2) a1 a2 a6' a7' a8 a9 a10 a11 a12 a13 a14 a15 a16 a17 a18 a19 a20 a21 a83 ∧ InvS h0 H br bo vr er (L ++ [(slot1 L s).1]) (slot1 L s).2.1 (slot1 L s).2.2 ∧
      Run Try.prog T body59 (fr59 br vr many (outA bo L) ((m : Int) + 1) a1 a2 a6 a7 a8 a9 a10 a11 a12 a13 a14 a15 a16 a17 a18 a19 a20 a21 a83) h' (.normal, tm', H) := by
  have hb := hI.rd
  have hlt := bk_lt hb
  have hc := fun k l h => evFn_hook (P := Try.prog) (T := T) (k := k) (f := 76) (args := l) (h := h) hN
  have hs1 := num_size hs 0
  have hne : L ≠ [] := by intro h; rw [h] at hL; simp at hL
  have hle := hI.len
  obtain ⟨ho1, ho2, ho3⟩ := hI.out hne
  rw [hL, Nat.add_sub_cancel] at ho3
  have hlo := bk_lt ho3
  have eL : outA bo L = .sl bo m 0 (m + 1) 3 := by
    cases L with
    | nil => exact absurd rfl hne
    | cons x L => simp at hL; simp [outA, hL]
  have eL2 : outA bo (L ++ [(slot1 L s).1]) = .sl bo (m + 1) 0 (m + 2) 3 := by
    cases L with
    | nil => exact absurd rfl hne
    | cons x L => simp at hL; simp [outA, hL]
  have wi : IntKind.u64.wrap ((m : Int) + 1 - 1) = m := by rw [wu64 (by omega) (by omega)]; omega
  have wi' : IntKind.u64.wrap (m : Int) = m := wu64 (by omega) (by omega)
  have wj : IntKind.u64.wrap ((m : Int) + 1 + 1) = (m : Int) + 2 := by rw [wu64 (by omega) (by omega)]; omega
  have ip : (0 : Int) < (m : Int) + 1 := by omega
  have im : (m : Int) < ((m + 1 : Nat) : Int) := by omega
  have im' : (m : Int) < (m : Int) + 1 := by omega
  have hCl : (L.flatMap slotC).length = (m + 1) * 3 := by
    rw [slotC_len, hL]
  have hCg : (L.flatMap slotC)[m * 3]? = some (.s (.int .u64 (L.getLastD (0, 0)).1)) := by
    obtain ⟨M, x, rfl⟩ : ∃ M x, L = M ++ [x] := ⟨L.dropLast, L.getLast hne, (List.dropLast_concat_getLast hne).symm⟩
    simp at hL
    have : (M.flatMap slotC).length = m * 3 := by rw [slotC_len, hL]
    rw [List.flatMap_append, List.getElem?_append_right (by omega), this]
    simp [slotC]
  have hsl : slot1 L s = (((slot1 L s).1.1, (slot1 L s).1.2), (slot1 L s).2.1, (slot1 L s).2.2) := rfl
  generalize hlast : (L.getLastD (0, 0)).1 = last at *
  generalize hC : L.flatMap slotC = C at *
  have hCd : (C.drop (m * 3)).take 1 = [.s (.int .u64 last)] := by
    rw [List.take_one, List.head?_drop, hCg]; rfl
  have hle1 : m * 3 + 1 ≤ C.length := by omega
  have hle2 : (m + 1) * 3 ≤ C.length := by omega
  have hlt2 : m * 3 < C.length := by omega
  have hall : C.take ((m + 1) * 3) = C := List.take_of_length_le (by omega)
  have n1 : bo ≠ h'.length := by omega
  have n2 : bo ≠ h'.length + 1 := by omega
  have b1 : (m + 1 + 1) * 32 ≤ 140737488355328 := by omega
  have b2 : m + 1 + 1 ≤ 9223372036854775807 := by omega
  have ho2' := Ne.symm ho2
  have hs2 := num_size hs1 (numS s 0).2.2
  have wa : IntKind.u64.wrap (18446744073709551615 - last) = 18446744073709551615 - last := wu64 (by omega) (by omega)
  have wb : IntKind.u64.wrap (18446744073709551615 - last - 1) = 18446744073709551615 - last - 1 := wu64 (by omega) (by omega)
  have hy' : ¬ 18446744073709551615 - last - 1 < (numS s 0).1 := hy
  have hz : slot1 L s = ((IntKind.u64.wrap ((numS s 0).1 + IntKind.u64.wrap (last + 1)), (numS (numS s 0).2.1 (numS s 0).2.2).1), (numS (numS s 0).2.1 (numS s 0).2.2).2.1, (numS (numS s 0).2.1 (numS s 0).2.2).2.2) := by
    have hlast' : (L.getLast?.getD (0, 0)).1 = last := by simpa using hlast
    simp [slot1, eq_true hw, hne, hlast', eq_false hx, eq_false hy']

  refine ⟨?H, ?a6, ?a7, ?tm, ?fg, ?inv, Run.step 40 fun k j => ?run⟩
  case run =>
    simp [c59, body59, fr59, eL, hb, hc, hkNum, hs, hlt, hm, oneOr, cellsOf, isCell, fillA, hs1, apK_s, wi, wi', wj, eq_true ip, im, im', ho3, hCd, hCg, hle1, hle2, hlt2, hall, hlo, n1, n2, b1, b2, ho2, ho2', hs2, eq_true hw, eq_false hx, wa, wb, eq_false hy']
    (constructor <;> rfl)
  case fg =>
    rw [eL2]
    simp [forget, fg59, c59, fr59]
    (constructor <;> rfl)
  case inv =>
    rw [hz]
    refine ⟨?_, fun b h1 h2 => ?_, ?_, fun _ => ⟨?_, ?_, ?_⟩⟩
    · simp [hlt, hlo, ho2']
    · have h3 : b < h'.length := by omega
      have h4 : bo ≠ b := by omega
      simp [h3, h4, Ne.symm h2, hI.old b h1 h2]
    · simp; omega
    · omega
    · omega
    · simp [hlo, List.flatMap_append, hC, slotC, hL]
end Go.Proofs.Ytpmoellbfgcefaa.AS
end
