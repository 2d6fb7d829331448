/- Numbers as few bytes: the plain law of them, with no program in sight. -/
import Derived.Laws.BitsLemmas
import Derived.Laws.BytesArg
import Derived.Lib.BitFns
import Derived.Lib.Strings
import Derived.Test.YtienpgbbjahadaaWMore
namespace Go.Proofs.YtienpgbbjahadaaV
open Go.RowKit Go.Proofs.YtienpgbbjahadaaW.PrintWords Go.Proofs.YtienpgbbjahadaaW.PrintLast Go.Proofs.YtienpgbbjahadaaW.PrintMore
set_option linter.unusedVariables false

/-! numbers of a kind -/
theorem wf_u64 {n : Int} (h : (Lit.int .u64 n).wf = true) : 0 ≤ n ∧ n ≤ 18446744073709551615 := by
  simp only [Lit.wf, IntKind.min, IntKind.max, IntKind.signed, IntKind.bits, Bool.and_eq_true] at h; simpa using h
theorem wf_u32 {n : Int} (h : (Lit.int .u32 n).wf = true) : 0 ≤ n ∧ n ≤ 4294967295 := by
  simp only [Lit.wf, IntKind.min, IntKind.max, IntKind.signed, IntKind.bits, Bool.and_eq_true] at h; simpa using h
theorem wf_u8 {n : Int} (h : (Lit.int .u8 n).wf = true) : 0 ≤ n ∧ n ≤ 255 := by
  simp only [Lit.wf, IntKind.min, IntKind.max, IntKind.signed, IntKind.bits, Bool.and_eq_true] at h; simpa using h
theorem wf_i64 {n : Int} (h : (Lit.int .i64 n).wf = true) : -9223372036854775808 ≤ n ∧ n ≤ 9223372036854775807 := by
  simp only [Lit.wf, IntKind.min, IntKind.max, IntKind.signed, IntKind.bits, Bool.and_eq_true] at h; simpa using h
theorem wf_i32 {n : Int} (h : (Lit.int .i32 n).wf = true) : -2147483648 ≤ n ∧ n ≤ 2147483647 := by
  simp only [Lit.wf, IntKind.min, IntKind.max, IntKind.signed, IntKind.bits, Bool.and_eq_true] at h; simpa using h
theorem w64 {n : Int} (h0 : -9223372036854775808 ≤ n) (h1 : n ≤ 9223372036854775807) : wrap64 n = n := by unfold wrap64; omega
theorem wu64' (n : Int) : IntKind.u64.wrap n = n % 18446744073709551616 := by
  unfold IntKind.wrap
  simp only [IntKind.bits, IntKind.signed, Bool.false_and]
  exact if_neg (by decide)

theorem wu64 {n : Int} (h0 : 0 ≤ n) (h1 : n ≤ 18446744073709551615) : IntKind.u64.wrap n = n := by rw [wu64']; omega

/-! bytes and lists -/
theorem bytesOf_length (s : ByteArray) : (bytesOf s).length = s.size := by simp only [bytesOf, List.length_map, Array.length_toList]; rfl
theorem bytesOf_get (s : ByteArray) (i : Nat) (h : i < s.size) : (bytesOf s)[i]'(by rw [bytesOf_length]; exact h) = bt s (i : Int) := by
  unfold bt
  rw [dif_pos (by simpa using h)]
  simp [bytesOf]
  rfl
theorem bytesOf_range (s : ByteArray) : ∀ c ∈ bytesOf s, 0 ≤ c ∧ c ≤ 255 := by
  intro c hc
  simp only [bytesOf, List.mem_map] at hc
  obtain ⟨b, _, rfl⟩ := hc
  have := b.toNat_lt
  omega
theorem strOf_bytesOf (s : ByteArray) : strOfNums (bytesOf s) = s := by
  unfold strOfNums bytesOf
  rw [List.map_map]
  have : (fun n : Int => UInt8.ofNat n.toNat) ∘ (fun b : UInt8 => (b.toNat : Int)) = id := by
    funext b; simp
  rw [this]; simp
theorem bytesOf_strOf {l : List Int} (h : ∀ c ∈ l, 0 ≤ c ∧ c ≤ 255) : bytesOf (strOfNums l) = l := by
  unfold strOfNums bytesOf
  simp only [List.map_map]
  conv => rhs; rw [← List.map_id l]
  apply List.map_congr_left
  intro c hc
  have := h c hc
  simp only [Function.comp, UInt8.toNat_ofNat', id]
  omega
theorem strOf_append (a b : List Int) : strOfNums (a ++ b) = strOfNums a ++ strOfNums b := by
  apply ByteArray.ext
  simp [strOfNums]
theorem bytesOf_append (a b : ByteArray) : bytesOf (a ++ b) = bytesOf a ++ bytesOf b := by
  simp [bytesOf]
theorem bytesOf_inj {a b : ByteArray} (h : bytesOf a = bytesOf b) : a = b := by
  rw [← strOf_bytesOf a, h, strOf_bytesOf]
theorem toList_inj {a b : ByteArray} (h : a.toList = b.toList) : a = b := by
  rw [Lib.toList_data, Lib.toList_data] at h
  apply ByteArray.ext; exact Array.toList_inj.mp h
theorem empty_toList : (⟨#[]⟩ : ByteArray).toList = [] := by rw [Lib.toList_data]
theorem bytesOf_extract (s : ByteArray) (i j : Nat) (h : j ≤ s.size) : bytesOf (s.extract i j) = ((bytesOf s).take j).drop i := by
  simp only [bytesOf, ByteArray.data_extract, Array.toList_extract, List.extract_eq_take_drop, List.map_take, List.map_drop]
  rw [List.take_drop]
  by_cases hi : i ≤ j
  · rw [Nat.add_sub_cancel' hi]
  · rw [List.drop_eq_nil_of_le (by simp; omega), List.drop_eq_nil_of_le (by simp; omega)]
theorem drop_cons_get {α : Type} (l : List α) (i : Nat) (h : i < l.length) : l.drop i = l[i] :: l.drop (i + 1) := List.drop_eq_getElem_cons h
theorem bytesOf_drop_cons (s : ByteArray) (i : Nat) (h : i < s.size) : (bytesOf s).drop i = bt s (i : Int) :: (bytesOf s).drop (i + 1) := by
  rw [drop_cons_get _ i (by rw [bytesOf_length]; exact h), bytesOf_get s i h]
theorem extract_eq_strOf (s : ByteArray) (i : Nat) (h : i ≤ s.size) : s.extract i s.size = strOfNums ((bytesOf s).drop i) := by
  apply bytesOf_inj
  rw [bytesOf_strOf (fun c hc => bytesOf_range s c (List.mem_of_mem_drop hc)), bytesOf_extract s i s.size (Nat.le_refl _), List.take_of_length_le (by rw [bytesOf_length]; exact Nat.le_refl _)]

/-! a number's bytes -/
def lebF : Nat → Int → List Int
  | 0, n => [n]
  | f + 1, n => if n < 128 then [n] else (n % 128 + 128) :: lebF f (n / 128)
def leb (n : Int) : List Int := lebF 10 n

theorem lebF_more : ∀ (f : Nat) (n : Int), 0 ≤ n → n < 128 ^ (f + 1) → lebF (f + 1) n = lebF f n := by
  intro f
  induction f with
  | zero =>
    intro n h0 h1
    simp only [lebF]
    rw [if_pos (by simpa using h1)]
  | succ f ih =>
    intro n h0 h1
    have e1 : lebF (f + 1 + 1) n = if n < 128 then [n] else (n % 128 + 128) :: lebF (f + 1) (n / 128) := rfl
    have e2 : lebF (f + 1) n = if n < 128 then [n] else (n % 128 + 128) :: lebF f (n / 128) := rfl
    rw [e1, e2]
    by_cases h : n < 128
    · rw [if_pos h, if_pos h]
    · rw [if_neg h, if_neg h, ih (n / 128) (by omega) ?_]
      rw [Int.pow_succ] at h1
      omega
theorem leb_lt {n : Int} (h : n < 128) : leb n = [n] := by simp [leb, lebF, h]
theorem leb_ge {n : Int} (h : 128 ≤ n) (h1 : n ≤ 18446744073709551615) : leb n = (n % 128 + 128) :: leb (n / 128) := by
  unfold leb
  rw [lebF, if_neg (by omega), ← lebF_more 9 (n / 128) (by omega) (by simp; omega)]
theorem leb_ne (n : Int) : leb n ≠ [] := by unfold leb lebF; split <;> simp

theorem leb_ind {P : Int → Prop} (small : ∀ n, 0 ≤ n → n < 128 → P n) (big : ∀ n, 128 ≤ n → n ≤ 18446744073709551615 → P (n / 128) → P n) : ∀ n, 0 ≤ n → n ≤ 18446744073709551615 → P n := by
  have key : ∀ (m : Nat) (n : Int), n.toNat < m → 0 ≤ n → n ≤ 18446744073709551615 → P n := by
    intro m
    induction m with
    | zero => intro n h; omega
    | succ m ih =>
      intro n h h0 h1
      by_cases hs : n < 128
      · exact small n h0 hs
      · exact big n (by omega) h1 (ih (n / 128) (by omega) (by omega) (by omega))
  exact fun n => key (n.toNat + 1) n (by omega)

theorem leb_range : ∀ n, 0 ≤ n → n ≤ 18446744073709551615 → ∀ c ∈ leb n, 0 ≤ c ∧ c ≤ 255 := by
  apply leb_ind
  · intro n h0 h c hc
    rw [leb_lt h] at hc
    simp at hc; omega
  · intro n h h1 ih c hc
    rw [leb_ge h h1] at hc
    rcases List.mem_cons.mp hc with rfl | hc
    · omega
    · exact ih c hc
theorem leb_length_bits : ∀ n, 0 ≤ n → n ≤ 18446744073709551615 → ((leb n).length : Int) = ((max 1 (Lib.bitLen n.toNat) + 6) / 7 : Nat) := by
  apply leb_ind
  · intro n h0 h
    rw [leb_lt h]
    have := Lib.bitLen_le n.toNat 7 (by decide) (by omega)
    simp; omega
  · intro n h h1 ih
    rw [leb_ge h h1]
    have e := Lib.bitLen_shift 7 n.toNat (by omega) (by omega)
    have d : n.toNat / 2 ^ 7 = (n / 128).toNat := by omega
    rw [d] at e
    have p : 1 ≤ Lib.bitLen (n / 128).toNat := by
      have := Lib.bitLen_half (n / 128).toNat (by omega) (by omega)
      omega
    simp only [List.length_cons, Int.natCast_add, ih]
    omega
theorem bitLen_le64 (n : Nat) (h : n < 2 ^ 64) : Lib.bitLen n ≤ 64 := Lib.bitLen_le n 64 (by decide) h
theorem leb_length_le {n : Int} (h0 : 0 ≤ n) (h1 : n ≤ 18446744073709551615) : 1 ≤ (leb n).length ∧ (leb n).length ≤ 10 := by
  have e := leb_length_bits n h0 h1
  have := bitLen_le64 n.toNat (by omega)
  omega
theorem leb_length_few : ∀ n, 0 ≤ n → n ≤ 18446744073709551615 → ∀ k : Nat, (leb n).length ≤ k + 1 ↔ n < 128 ^ (k + 1) := by
  apply leb_ind (P := fun n => ∀ k : Nat, (leb n).length ≤ k + 1 ↔ n < 128 ^ (k + 1))
  · intro n h0 h k
    rw [leb_lt h]
    have : (128 : Int) ^ (k + 1) ≥ 128 := by
      rw [Int.pow_succ]
      have : (0 : Int) < 128 ^ k := Int.pow_pos (by decide)
      omega
    simp; omega
  · intro n h h1 ih k
    rw [leb_ge h h1]
    cases k with
    | zero =>
      have := (leb_length_le (n := n / 128) (by omega) (by omega)).1
      rw [show ((128 : Int) ^ (0 + 1)) = 128 from rfl]
      simp only [List.length_cons]; omega
    | succ k =>
      have := ih k
      rw [Int.pow_succ]
      simp only [List.length_cons, Nat.add_le_add_iff_right]
      rw [this]
      constructor <;> intro h <;> omega
theorem leb_length_mono {a b : Int} (h0 : 0 ≤ a) (h : a ≤ b) (h1 : b ≤ 18446744073709551615) : (leb a).length ≤ (leb b).length := by
  obtain ⟨k, hk⟩ : ∃ k, (leb b).length = k + 1 := ⟨(leb b).length - 1, by have := (leb_length_le (n := b) (by omega) h1).1; omega⟩
  rw [hk, leb_length_few a h0 (by omega) k]
  have := (leb_length_few b (by omega) h1 k).mp (by omega)
  omega

/-! what bytes begin with -/
def G : List Int → Nat → Int → Int × List Int × Int
  | [], _, _ => (0, [], 5)
  | c :: r, i, acc =>
    if i = 9 ∧ c > 1 then (0, [], 7)
    else if c ≥ 128 then G r (i + 1) (acc + (c - 128) * 128 ^ i)
    else if c = 0 ∧ 0 < i then (0, [], 7)
    else (acc + c * 128 ^ i, r, 0)

theorem p128_pos (i : Nat) : (0 : Int) < 128 ^ i := Int.pow_pos (by decide)
/-- What is put is got, whatever stands behind. -/
theorem G_leb : ∀ n, 0 ≤ n → n ≤ 18446744073709551615 → ∀ (i : Nat) (acc : Int) (r : List Int), i ≤ 9 → n * 128 ^ i ≤ 18446744073709551615 → (0 < n ∨ i = 0) → G (leb n ++ r) i acc = (acc + n * 128 ^ i, r, 0) := by
  apply leb_ind (P := fun n => ∀ (i : Nat) (acc : Int) (r : List Int), i ≤ 9 → n * 128 ^ i ≤ 18446744073709551615 → (0 < n ∨ i = 0) → G (leb n ++ r) i acc = (acc + n * 128 ^ i, r, 0))
  · intro n h0 h i acc r hi hb hp
    rw [leb_lt h]
    simp only [List.singleton_append, G]
    have : ¬ (i = 9 ∧ n > 1) := by
      rintro ⟨rfl, h2⟩
      simp at hb; omega
    rw [if_neg this, if_neg (by omega), if_neg (by omega)]
  · intro n h h1 ih i acc r hi hb hp
    rw [leb_ge h h1]
    simp only [List.cons_append, G]
    have hw := p128_pos i
    have i9 : i < 9 := by
      rcases Nat.lt_or_ge i 9 with h9 | h9
      · exact h9
      · obtain rfl : i = 9 := by omega
        simp at hb; omega
    have e : n * 128 ^ i = n % 128 * 128 ^ i + n / 128 * 128 ^ (i + 1) := by
      conv => lhs; rw [← Int.emod_add_mul_ediv n 128]
      rw [Int.pow_succ, Int.add_mul]
      congr 1
      rw [Int.mul_comm 128 (n / 128), Int.mul_assoc, Int.mul_comm 128]
    have e2 : 0 ≤ n % 128 * 128 ^ i := Int.mul_nonneg (by omega) (by omega)
    rw [if_neg (by omega), if_pos (by omega), ih (i + 1) _ r (by omega) (by omega) (.inl (by omega))]
    rw [show n % 128 + 128 - 128 = n % 128 by omega, e]
    simp only [Prod.mk.injEq, and_true]
    omega
/-- What is got has its bytes. -/
theorem G_ok : ∀ (L : List Int) (i : Nat) (acc : Int) (n : Int) (r : List Int), (∀ c ∈ L, 0 ≤ c ∧ c ≤ 255) → i ≤ 9 → G L i acc = (n, r, 0) →
    ∃ m, L = leb m ++ r ∧ n = acc + m * 128 ^ i ∧ 0 ≤ m ∧ m < 2 ^ (64 - 7 * i) ∧ (0 < m ∨ i = 0) := by
  intro L
  induction L with
  | nil => intro i acc n r _ _ h; simp [G] at h
  | cons c L ih =>
    intro i acc n r hr hi h
    have hc := hr c (List.mem_cons_self ..)
    rw [G] at h
    split at h
    · simp at h
    · rename_i h9
      split at h
      · rename_i hb
        have i9 : i < 9 := by
          rcases Nat.lt_or_ge i 9 with h' | h'
          · exact h'
          · exact absurd ⟨by omega, by omega⟩ h9
        obtain ⟨m, hL, hn, hm0, hm1, hm2⟩ := ih (i + 1) _ n r (fun c hc => hr c (List.mem_cons_of_mem _ hc)) (by omega) h
        have hm : 0 < m := by omega
        have hpow : (2 : Int) ^ (64 - 7 * i) = 128 * 2 ^ (64 - 7 * (i + 1)) := by
          rw [show 64 - 7 * i = 64 - 7 * (i + 1) + 7 by omega, Int.pow_add]
          omega
        have hle : (2 : Int) ^ (64 - 7 * i) ≤ 2 ^ 64 := by
          have h1 : (2 : Nat) ^ (64 - 7 * i) ≤ 2 ^ 64 := Nat.pow_le_pow_right (by decide) (by omega)
          exact_mod_cast h1
        have hlt : c - 128 + 128 * m < 2 ^ (64 - 7 * i) := by omega
        refine ⟨c - 128 + 128 * m, ?_, ?_, by omega, hlt, .inl (by omega)⟩
        · rw [leb_ge (by omega) (by omega), hL, show (c - 128 + 128 * m) % 128 + 128 = c by omega, show (c - 128 + 128 * m) / 128 = m by omega]
          rfl
        · rw [hn, Int.pow_succ, Int.add_mul, Int.add_assoc]
          congr 2
          rw [Int.mul_comm 128 m, Int.mul_assoc, Int.mul_comm 128]
      · split at h
        · simp at h
        · rename_i h1 h2
          simp only [Prod.mk.injEq, and_true] at h
          obtain ⟨rfl, rfl⟩ := h
          refine ⟨c, by rw [leb_lt (by omega)]; rfl, rfl, by omega, ?_, by omega⟩
          rcases Nat.lt_or_ge i 9 with h' | h'
          · have h1 : (2 : Nat) ^ 7 ≤ 2 ^ (64 - 7 * i) := Nat.pow_le_pow_right (by decide) (by omega)
            have h1 : (2 : Int) ^ 7 ≤ 2 ^ (64 - 7 * i) := by exact_mod_cast h1
            omega
          · obtain rfl : i = 9 := by omega
            simp; omega
theorem G_err : ∀ (L : List Int) (i : Nat) (acc : Int), (G L i acc).2.2 = 0 ∨ G L i acc = (0, [], 5) ∨ G L i acc = (0, [], 7) := by
  intro L
  induction L with
  | nil => intro i acc; exact .inr (.inl rfl)
  | cons c L ih =>
    intro i acc
    rw [G]
    split
    · exact .inr (.inr rfl)
    · split
      · exact ih _ _
      · split
        · exact .inr (.inr rfl)
        · exact .inl rfl
theorem G_rest : ∀ (L : List Int) (i : Nat) (acc : Int), (∀ c ∈ L, 0 ≤ c ∧ c ≤ 255) → ∀ c ∈ (G L i acc).2.1, 0 ≤ c ∧ c ≤ 255 := by
  intro L
  induction L with
  | nil => intro i acc _ c hc; simp [G] at hc
  | cons a L ih =>
    intro i acc hr c hc
    rw [G] at hc
    split at hc
    · simp at hc
    · split at hc
      · exact ih _ _ (fun c hc => hr c (List.mem_cons_of_mem _ hc)) c hc
      · split at hc
        · simp at hc
        · exact hr c (List.mem_cons_of_mem _ hc)
theorem G_shorter : ∀ (L : List Int) (i : Nat) (acc : Int), (G L i acc).2.1.length ≤ L.length := by
  intro L
  induction L with
  | nil => intro i acc; simp [G]
  | cons a L ih =>
    intro i acc
    rw [G]
    split
    · simp
    · split
      · have := ih (i + 1) (acc + (a - 128) * 128 ^ i); simp; omega
      · split <;> simp

/-- A number, and what is behind it, as text. -/
def gets (s : ByteArray) : Int × ByteArray × Int := ((G (bytesOf s) 0 0).1, strOfNums (G (bytesOf s) 0 0).2.1, (G (bytesOf s) 0 0).2.2)
def puts (n : Int) : ByteArray := strOfNums (leb n)
theorem bytesOf_puts {n : Int} (h0 : 0 ≤ n) (h1 : n ≤ 18446744073709551615) : bytesOf (puts n) = leb n := bytesOf_strOf (leb_range n h0 h1)
theorem puts_size (n : Int) : (puts n).size = (leb n).length := strOfNums_size _
theorem gets_puts {n : Int} (h0 : 0 ≤ n) (h1 : n ≤ 18446744073709551615) (s : ByteArray) : gets (puts n ++ s) = (n, s, 0) := by
  unfold gets
  rw [bytesOf_append, bytesOf_puts h0 h1, G_leb n h0 h1 0 0 (bytesOf s) (by omega) (by simpa using h1) (.inr rfl), strOf_bytesOf]
  simp
theorem gets_ok {s r : ByteArray} {n : Int} (h : gets s = (n, r, 0)) : s = puts n ++ r ∧ 0 ≤ n ∧ n ≤ 18446744073709551615 := by
  unfold gets at h
  simp only [Prod.mk.injEq] at h
  obtain ⟨h1, h2, h3⟩ := h
  have hg : G (bytesOf s) 0 0 = ((G (bytesOf s) 0 0).1, (G (bytesOf s) 0 0).2.1, 0) := Prod.ext rfl (Prod.ext rfl h3)
  obtain ⟨m, hL, hn, hm0, hm1, _⟩ := G_ok _ 0 0 _ _ (bytesOf_range s) (by omega) hg
  have e : n = m := by rw [← h1, hn]; simp
  subst e
  refine ⟨?_, hm0, by simp at hm1; omega⟩
  rw [← h2, puts, ← strOf_append, ← hL, strOf_bytesOf]
theorem gets_err (s : ByteArray) : (gets s).2.2 = 0 ∨ gets s = (0, ⟨#[]⟩, 5) ∨ gets s = (0, ⟨#[]⟩, 7) := by
  unfold gets
  rcases G_err (bytesOf s) 0 0 with h | h | h
  · exact .inl h
  · refine .inr (.inl ?_); rw [h]; rfl
  · refine .inr (.inr ?_); rw [h]; rfl
theorem gets_shorter (s : ByteArray) : (gets s).2.1.size ≤ s.size := by
  have := G_shorter (bytesOf s) 0 0
  unfold gets
  rw [strOfNums_size, ← bytesOf_length s]
  exact this

end Go.Proofs.YtienpgbbjahadaaV
