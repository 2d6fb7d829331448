/- Records one behind the other: the plain law of their sums and frames, with no program in sight. -/
import Derived.Test.YtienpgbbjahadaaV
namespace Go.Proofs.YtienpgbbjahadaaV
open Go.RowKit Go.Proofs.YtienpgbbjahadaaW.PrintWords Go.Proofs.YtienpgbbjahadaaW.PrintLast Go.Proofs.YtienpgbbjahadaaW.PrintMore
set_option linter.unusedVariables false

/-! registers of 32 bits -/
def U (a : BitVec 32) : Int := (a.toNat : Int)
theorem U_range (a : BitVec 32) : 0 ≤ U a ∧ U a ≤ 4294967295 := by
  unfold U; have := a.isLt; omega
theorem U_inj {a b : BitVec 32} (h : U a = U b) : a = b := by
  apply BitVec.eq_of_toNat_eq; unfold U at h; omega
theorem ofInt_U (a : BitVec 32) : BitVec.ofInt 32 (U a) = a := by
  unfold U; rw [BitVec.ofInt_natCast]; simp
theorem U_ofNat (n : Nat) (h : n < 4294967296) : U (BitVec.ofNat 32 n) = (n : Int) := by
  unfold U; rw [BitVec.toNat_ofNat, Nat.mod_eq_of_lt (by omega)]
theorem wu32 {n : Int} (h0 : 0 ≤ n) (h1 : n ≤ 4294967295) : IntKind.u32.wrap n = n := by rw [IntKind.wrap_u32]; omega
theorem xorU (a b : BitVec 32) : Go.bits .xor .u32 (U a) (U b) = U (a ^^^ b) := by
  show IntKind.u32.wrap ((BitVec.ofInt 32 (U a) ^^^ BitVec.ofInt 32 (U b)).toNat : Int) = _
  rw [ofInt_U, ofInt_U]
  exact wu32 (U_range _).1 (U_range _).2
theorem andU (a b : BitVec 32) : Go.bits .and .u32 (U a) (U b) = U (a &&& b) := by
  show IntKind.u32.wrap ((BitVec.ofInt 32 (U a) &&& BitVec.ofInt 32 (U b)).toNat : Int) = _
  rw [ofInt_U, ofInt_U]
  exact wu32 (U_range _).1 (U_range _).2
theorem U_half (a : BitVec 32) : U a / (2 : Int) = U (a >>> (1 : Nat)) := by
  unfold U; rw [BitVec.toNat_ushiftRight, Nat.shiftRight_eq_div_pow]; omega
def poly : BitVec 32 := 0xedb88320#32
theorem U_poly : U poly = 3988292384 := by decide
def cstep (a : BitVec 32) : BitVec 32 := (a >>> 1) ^^^ (if a.toNat % 2 = 1 then poly else 0#32)
def csteps : Nat → BitVec 32 → BitVec 32
  | 0, a => a
  | n + 1, a => csteps n (cstep a)
def cbyte (a : BitVec 32) (c : Int) : BitVec 32 := csteps 8 (a ^^^ BitVec.ofNat 32 c.toNat)
def crcL (a : BitVec 32) (l : List Int) : BitVec 32 := l.foldl cbyte a
def crc (s : ByteArray) : BitVec 32 := ~~~ crcL (BitVec.allOnes 32) (bytesOf s)

theorem and_one32 (a : BitVec 32) : Go.bits .and .u32 (U a) 1 = (a.toNat % 2 : Nat) := by
  have e : (1 : Int) = U 1#32 := by decide
  rw [e, andU]
  unfold U
  rw [BitVec.toNat_and]
  have : (1#32).toNat = 1 := by decide
  rw [this, Nat.and_one_is_mod]
theorem mask32 (a : BitVec 32) : Go.bits .and .u32 3988292384 ((-(Go.bits .and .u32 (U a) 1)) % 4294967296) = U (if a.toNat % 2 = 1 then poly else 0#32) := by
  rw [and_one32]
  by_cases h : a.toNat % 2 = 1
  · rw [if_pos h, h]
    decide
  · rw [if_neg h, show a.toNat % 2 = 0 by omega]
    decide
theorem on_step (a : BitVec 32) : Go.bits .xor .u32 (U a / 2) (Go.bits .and .u32 3988292384 ((-(Go.bits .and .u32 (U a) 1)) % 4294967296)) = U (cstep a) := by
  rw [mask32, U_half, xorU]; rfl

/-- What a step makes is known by its highest bit. -/
theorem cstep_inj {a b : BitVec 32} (h : cstep a = cstep b) : a = b := by
  have top : ∀ x : BitVec 32, (cstep x).toNat / 2147483648 = x.toNat % 2 := by
    intro x
    unfold cstep
    have hx := x.isLt
    rw [← Nat.shiftRight_eq_div_pow (n := 31), show (31 : Nat) = 31 from rfl]
    rw [BitVec.toNat_xor, Nat.shiftRight_xor_distrib, BitVec.toNat_ushiftRight, ← Nat.shiftRight_add]
    have h0 : x.toNat >>> (1 + 31) = 0 := by rw [Nat.shiftRight_eq_div_pow]; omega
    rw [h0, Nat.zero_xor]
    by_cases hp : x.toNat % 2 = 1
    · rw [if_pos hp, hp]; decide
    · rw [if_neg hp, show x.toNat % 2 = 0 by omega]; decide
  have hp : a.toNat % 2 = b.toNat % 2 := by rw [← top a, ← top b, h]
  unfold cstep at h
  rw [hp] at h
  have h2 : a >>> 1 = b >>> 1 := by
    have := congrArg (fun z => z ^^^ (if b.toNat % 2 = 1 then poly else 0#32)) h
    simpa [BitVec.xor_assoc] using this
  have h3 := congrArg BitVec.toNat h2
  rw [BitVec.toNat_ushiftRight, BitVec.toNat_ushiftRight, Nat.shiftRight_eq_div_pow, Nat.shiftRight_eq_div_pow] at h3
  apply BitVec.eq_of_toNat_eq
  omega
theorem csteps_inj : ∀ (n : Nat) {a b : BitVec 32}, csteps n a = csteps n b → a = b := by
  intro n
  induction n with
  | zero => intro a b h; exact h
  | succ n ih => intro a b h; exact cstep_inj (ih h)
theorem xor_cancel {a b c : BitVec 32} (h : a ^^^ c = b ^^^ c) : a = b := by
  have := congrArg (· ^^^ c) h
  simpa [BitVec.xor_assoc] using this
theorem cbyte_inj {a b : BitVec 32} {c : Int} (h : cbyte a c = cbyte b c) : a = b := xor_cancel (csteps_inj 8 h)
theorem cbyte_inj2 {a : BitVec 32} {c d : Int} (hc : 0 ≤ c ∧ c ≤ 255) (hd : 0 ≤ d ∧ d ≤ 255) (h : cbyte a c = cbyte a d) : c = d := by
  have h1 := csteps_inj 8 h
  rw [BitVec.xor_comm a, BitVec.xor_comm a] at h1
  have h2 := congrArg BitVec.toNat (xor_cancel h1)
  rw [BitVec.toNat_ofNat, BitVec.toNat_ofNat] at h2
  omega
theorem crcL_inj : ∀ (l : List Int) {a b : BitVec 32}, crcL a l = crcL b l → a = b := by
  intro l
  induction l with
  | nil => intro a b h; exact h
  | cons c l ih => intro a b h; exact cbyte_inj (ih h)
theorem crcL_append (a : BitVec 32) (x y : List Int) : crcL a (x ++ y) = crcL (crcL a x) y := by simp [crcL]
theorem not_inj {a b : BitVec 32} (h : ~~~ a = ~~~ b) : a = b := by
  have := congrArg (~~~ ·) h; simpa using this
/-- With another byte in it a text has another sum. -/
theorem crc_turned {p q : List Int} {c d : Int} (hc : 0 ≤ c ∧ c ≤ 255) (hd : 0 ≤ d ∧ d ≤ 255) (hne : c ≠ d) (a : BitVec 32) : crcL a (p ++ c :: q) ≠ crcL a (p ++ d :: q) := by
  intro h
  rw [crcL_append, crcL_append] at h
  exact hne (cbyte_inj2 hc hd (crcL_inj q h))

/-! the reference's steps: the byte's bits are taken one by one -/
def rstep (c : BitVec 32) (k : Nat) (a : BitVec 32) : BitVec 32 := (a >>> 1) ^^^ (if (a ^^^ (c >>> k)).toNat % 2 = 1 then poly else 0#32)
def rsteps (c : BitVec 32) : Nat → Nat → BitVec 32 → BitVec 32
  | 0, _, a => a
  | n + 1, k, a => rsteps c n (k + 1) (rstep c k a)
theorem shr_xor (a b : BitVec 32) : (a ^^^ b) >>> 1 = (a >>> 1) ^^^ (b >>> 1) := BitVec.ushiftRight_xor_distrib ..
theorem rstep_cstep (c a : BitVec 32) (k : Nat) : cstep (a ^^^ (c >>> k)) = rstep c k a ^^^ (c >>> (k + 1)) := by
  unfold cstep rstep
  rw [shr_xor, ← BitVec.shiftRight_add, BitVec.xor_assoc, BitVec.xor_assoc]
  congr 1
  exact BitVec.xor_comm ..
theorem rsteps_csteps (c : BitVec 32) : ∀ (n k : Nat) (a : BitVec 32), csteps n (a ^^^ (c >>> k)) = rsteps c n k a ^^^ (c >>> (k + n)) := by
  intro n
  induction n with
  | zero => intro k a; rfl
  | succ n ih =>
    intro k a
    rw [csteps, rstep_cstep, ih, rsteps, show k + 1 + n = k + (n + 1) by omega]
theorem rsteps_cbyte {c : Int} (h0 : 0 ≤ c) (h1 : c ≤ 255) (a : BitVec 32) : rsteps (BitVec.ofNat 32 c.toNat) 8 0 a = cbyte a c := by
  have h := rsteps_csteps (BitVec.ofNat 32 c.toNat) 8 0 a
  have z : BitVec.ofNat 32 c.toNat >>> (0 + 8) = 0#32 := by
    apply BitVec.eq_of_toNat_eq
    rw [BitVec.toNat_ushiftRight, BitVec.toNat_ofNat, Nat.shiftRight_eq_div_pow]
    have : (0#32).toNat = 0 := rfl
    rw [this]; omega
  rw [z, BitVec.xor_zero] at h
  rw [← h]
  unfold cbyte
  congr 1

/-! a sum's bytes -/
def fourL (n : Int) : List Int := [(n / 16777216) % 256, (n / 65536) % 256, (n / 256) % 256, n % 256]
def four (a : BitVec 32) : ByteArray := strOfNums (fourL (U a))
theorem fourL_range (n : Int) : ∀ c ∈ fourL n, 0 ≤ c ∧ c ≤ 255 := by
  intro c hc
  simp only [fourL, List.mem_cons, List.not_mem_nil, or_false] at hc
  rcases hc with rfl | rfl | rfl | rfl <;> omega
theorem four_size (a : BitVec 32) : (four a).size = 4 := by unfold four; rw [strOfNums_size]; rfl
theorem bytesOf_four (a : BitVec 32) : bytesOf (four a) = fourL (U a) := bytesOf_strOf (fourL_range _)
theorem four_inj {a b : BitVec 32} (h : four a = four b) : a = b := by
  have h1 := congrArg bytesOf h
  rw [bytesOf_four, bytesOf_four] at h1
  have ha := U_range a
  have hb := U_range b
  simp only [fourL, List.cons.injEq, and_true] at h1
  exact U_inj (by omega)

/-! frames -/
def frames (s : ByteArray) : ByteArray × Int :=
  if (s.size : Int) > 1048576 then (⟨#[]⟩, 15) else (puts (s.size : Int) ++ four (crc (puts (s.size : Int) ++ s)) ++ s, 0)
def nexts (s : ByteArray) : ByteArray × ByteArray × Int :=
  if (gets s).2.2 = 0 then
    if (gets s).1 > 1048576 then (⟨#[]⟩, ⟨#[]⟩, 15)
    else if ((gets s).2.1.size : Int) < 4 + (gets s).1 then (⟨#[]⟩, ⟨#[]⟩, 5)
    else if four (crc (puts (gets s).1 ++ (gets s).2.1.extract 4 (4 + (gets s).1.toNat))) = (gets s).2.1.extract 0 4 then ((gets s).2.1.extract 4 (4 + (gets s).1.toNat), (gets s).2.1.extract (4 + (gets s).1.toNat) (gets s).2.1.size, 0)
    else (⟨#[]⟩, ⟨#[]⟩, 6)
  else (⟨#[]⟩, ⟨#[]⟩, (gets s).2.2)

theorem extract_head {a b : ByteArray} {n : Nat} (h : a.size = n) : (a ++ b).extract 0 n = a := by
  apply bytesOf_inj
  rw [bytesOf_extract _ _ _ (by rw [ByteArray.size_append]; omega), List.drop_zero, bytesOf_append, List.take_append_of_le_length (by rw [bytesOf_length]; omega), List.take_of_length_le (by rw [bytesOf_length]; omega)]
theorem extract_tail {a b : ByteArray} {n : Nat} (h : a.size = n) : (a ++ b).extract n (a ++ b).size = b := by
  apply bytesOf_inj
  rw [bytesOf_extract _ _ _ (Nat.le_refl _), List.take_of_length_le (by rw [bytesOf_length]; exact Nat.le_refl _), bytesOf_append]
  subst h
  rw [List.drop_append_of_le_length (by rw [bytesOf_length]; exact Nat.le_refl _), List.drop_eq_nil_of_le (by rw [bytesOf_length]; exact Nat.le_refl _)]
  rfl
theorem extract_mid {a b c : ByteArray} {n m : Nat} (h : a.size = n) (h2 : n + b.size = m) : (a ++ b ++ c).extract n m = b := by
  apply bytesOf_inj
  rw [bytesOf_extract _ _ _ (by simp only [ByteArray.size_append]; omega), bytesOf_append, List.take_append_of_le_length (by rw [bytesOf_length, ByteArray.size_append]; omega), List.take_of_length_le (by rw [bytesOf_length, ByteArray.size_append]; omega), bytesOf_append]
  subst h
  rw [List.drop_append_of_le_length (by rw [bytesOf_length]; exact Nat.le_refl _), List.drop_eq_nil_of_le (by rw [bytesOf_length]; exact Nat.le_refl _)]
  rfl
theorem frames_ok {s : ByteArray} (h : (frames s).2 = 0) : s.size ≤ 1048576 ∧ (frames s).1 = puts (s.size : Int) ++ four (crc (puts (s.size : Int) ++ s)) ++ s := by
  unfold frames at h ⊢
  split at h
  · cases h
  · rename_i hl
    rw [if_neg hl]
    exact ⟨by omega, rfl⟩
theorem frames_size (s : ByteArray) : (frames s).1.size ≤ 1048590 := by
  unfold frames
  split
  · decide
  · have := leb_length_le (n := (s.size : Int)) (by omega) (by omega)
    simp only [ByteArray.size_append, four_size, puts_size]
    omega
/-- What was framed is told next, and what was behind it stays. -/
theorem nexts_frames {s : ByteArray} (h : (frames s).2 = 0) (more : ByteArray) : nexts ((frames s).1 ++ more) = (s, more, 0) := by
  obtain ⟨hl, e⟩ := frames_ok h
  have e1 : (frames s).1 ++ more = puts (s.size : Int) ++ (four (crc (puts (s.size : Int) ++ s)) ++ s ++ more) := by
    rw [e]; simp only [ByteArray.append_assoc]
  have hg := gets_puts (n := (s.size : Int)) (by omega) (by omega) (four (crc (puts (s.size : Int) ++ s)) ++ s ++ more)
  unfold nexts
  rw [e1, hg]
  simp only [if_true, Int.toNat_natCast]
  have h4 := four_size (crc (puts (s.size : Int) ++ s))
  rw [if_neg (by omega), if_neg (by simp only [ByteArray.size_append]; omega), extract_mid h4 rfl]
  rw [show (four (crc (puts (s.size : Int) ++ s)) ++ s ++ more).extract 0 4 = four (crc (puts (s.size : Int) ++ s)) by rw [ByteArray.append_assoc]; exact extract_head h4, if_pos rfl]
  rw [extract_tail (by rw [ByteArray.size_append, h4])]
theorem nexts_ok {s : ByteArray} (h : (nexts s).2.2 = 0) : (frames (nexts s).1).2 = 0 ∧ s = (frames (nexts s).1).1 ++ (nexts s).2.1 := by
  unfold nexts at h ⊢
  split at h
  · rename_i hg
    rw [if_pos hg]
    split at h
    · cases h
    · rename_i h1
      rw [if_neg h1]
      split at h
      · cases h
      · rename_i h2
        rw [if_neg h2]
        split at h
        · rename_i h3
          rw [if_pos h3]
          obtain ⟨hs, g0, g1⟩ := gets_ok (s := s) (n := (gets s).1) (r := (gets s).2.1) (Prod.ext rfl (Prod.ext rfl hg))
          generalize hn : (gets s).1 = n at *
          generalize hr : (gets s).2.1 = r at *
          obtain ⟨m, rfl⟩ := Int.eq_ofNat_of_zero_le g0
          simp only [Int.toNat_natCast] at *
          have hz : (r.extract 4 (4 + m)).size = m := by rw [ByteArray.size_extract]; omega
          have e3 : r = r.extract 0 4 ++ r.extract 4 (4 + m) ++ r.extract (4 + m) r.size := by
            rw [ByteArray.extract_append_extract, show min 0 4 = 0 from rfl, show max 4 (4 + m) = 4 + m by omega, ByteArray.extract_append_extract, show min 0 (4 + m) = 0 by omega, show max (4 + m) r.size = r.size by omega]
            simp
          have hf : (frames (r.extract 4 (4 + m))).2 = 0 := by
            unfold frames
            rw [if_neg (by rw [hz]; omega)]
          refine ⟨hf, ?_⟩
          rw [(frames_ok hf).2, hz, h3, hs]
          conv => lhs; rw [e3]
          simp only [ByteArray.append_assoc]
        · cases h
  · rename_i hg
    exact absurd h hg
theorem nexts_err {s : ByteArray} (h : (nexts s).2.2 ≠ 0) : (nexts s).1 = ⟨#[]⟩ ∧ (nexts s).2.1 = ⟨#[]⟩ := by
  unfold nexts at h ⊢
  split at h
  · rename_i hg
    rw [if_pos hg]
    split at h
    · rename_i h1; rw [if_pos h1]; exact ⟨rfl, rfl⟩
    · rename_i h1
      rw [if_neg h1]
      split at h
      · rename_i h2; rw [if_pos h2]; exact ⟨rfl, rfl⟩
      · rename_i h2
        rw [if_neg h2]
        split at h
        · exact absurd rfl h
        · rename_i h3; rw [if_neg h3]; exact ⟨rfl, rfl⟩
  · rename_i hg
    rw [if_neg hg]; exact ⟨rfl, rfl⟩
end Go.Proofs.YtienpgbbjahadaaV
