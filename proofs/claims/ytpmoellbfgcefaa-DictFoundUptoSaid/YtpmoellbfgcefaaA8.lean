/- Of our own: an abstract machine beside the model, its soundness, and walks of the program in it. -/
import Derived.Test.YtpmoellbfgcefaaA6
import Derived.Laws.BitsLemmas
import Derived.Laws.BytesArg
import Derived.Lib.BitFns
import Derived.Lib.Strings
import Derived.RowKit
import Derived.Test.YtpmoellbfgcefaaA7
set_option linter.unusedSimpArgs false
set_option linter.unusedVariables false
section
set_option autoImplicit false
namespace Go.Proofs.Ytpmoellbfgcefaa.AS
open Go Go.RowKit

section
variable {P : Program} {g : CallF} {k : Nat} {tm : List AV} {h : Heap}
theorem runDraw_evOps : ∀ (ops : List AOper) (tm : List AV) (h : Heap), (runDraw P g ops tm h).map (fun r => (r.2.2.1, r.2.2.2)) = evOps P g ops tm h
  | [], _, _ => rfl
  | o :: rest, tm, h => by
    simp only [runDraw, evOps]
    cases wantA tm o.guard with
    | none => rfl
    | some b =>
      cases b with
      | false =>
        simp only
        rw [← runDraw_evOps rest]
        cases runDraw P g rest (putA tm o.dst (.s undef)) h <;> rfl
      | true =>
        simp only
        cases opV P g tm h o.op with
        | none => rfl
        | some r =>
          obtain ⟨x, h'⟩ := r
          simp only
          rw [← runDraw_evOps rest]
          cases runDraw P g rest (putA tm o.dst x) h' <;> rfl
theorem evC_draw0 (ops : List AOper) : evC P g (k + 1) (.draw ops []) tm h = thenR (evOps P g ops tm h) := by
  simp only [evC]
  rw [← runDraw_evOps]
  cases runDraw P g ops tm h with
  | none => rfl
  | some r => obtain ⟨a, b, c, d⟩ := r; simp [chkDraw, thenR]

/-- A region whose order is open, with reads that must not tell. -/
def thenD (r : Option (List Heap × List (List AV × AV × Bool) × List AV × Heap)) (ops : List AOper) (chk : List (Nat × Nat × Nat)) : Option Res :=
  match r with
  | some (hs, xs, tm', h') => if chkDraw ops hs xs chk then some (.normal, tm', h') else none
  | none => none
theorem evC_draw1 (ops : List AOper) (c : Nat × Nat × Nat) (l : List (Nat × Nat × Nat)) : evC P g (k + 1) (.draw ops (c :: l)) tm h = thenD (runDraw P g ops tm h) ops (c :: l) := rfl
@[simp] theorem thenD_s (hs : List Heap) (xs : List (List AV × AV × Bool)) (tm' : List AV) (h' : Heap) (ops : List AOper) (chk : List (Nat × Nat × Nat)) :
    thenD (some (hs, xs, tm', h')) ops chk = if chkDraw ops hs xs chk then some (.normal, tm', h') else none := rfl
attribute [simp] evC_draw0 evC_draw1
end

section
variable {P : Program}
def slS (P : Program) (t : TypeId) (a : Option AV) (lo hi : Option (Option AV)) : Option AV :=
  match a.bind toV with
  | some u => match lo, hi with
    | none, none => (semv P (Instr.sliceAt t u none none none)).map .s
    | some l, none => match l.bind toV with | some l => (semv P (Instr.sliceAt t u (some l) none none)).map .s | none => none
    | none, some r => match r.bind toV with | some r => (semv P (Instr.sliceAt t u none (some r) none)).map .s | none => none
    | some l, some r => match l.bind toV, r.bind toV with | some l, some r => (semv P (Instr.sliceAt t u (some l) (some r) none)).map .s | _, _ => none
  | none => none
theorem sc_sl (tm : List AV) (t : TypeId) (x : Operand) (lo hi : Option Operand) (ty : TypeId) : scV P tm (.slice t x lo hi none) ty = slS P t (evO tm x) (lo.map (evO tm)) (hi.map (evO tm)) := by
  unfold scV slS
  cases lo with
  | none =>
    cases hi with
    | none =>
      simp only [Op.operands, notSel, Option.map_none]
      cases hx : (evO tm x).bind toV with
      | none => simp [hx]
      | some u =>
        simp only [execOp, opOf, envV, hx, Option.getD_some, Option.map_none]
        rw [if_pos (by simp [hx]), semv_value]; generalize semv P (Instr.sliceAt _ _ _ _ _) = o; cases o <;> rfl
    | some r =>
      simp only [Op.operands, notSel, Option.map_none, Option.map_some]
      cases hx : (evO tm x).bind toV with
      | none => simp [hx]
      | some u =>
        cases hr : (evO tm r).bind toV with
        | none => simp [hx, hr]
        | some r =>
          simp only [execOp, opOf, envV, hx, hr, Option.getD_some, Option.map_none, Option.map_some]
          rw [if_pos (by simp [hx, hr]), semv_value]; generalize semv P (Instr.sliceAt _ _ _ _ _) = o; cases o <;> rfl
  | some l =>
    cases hi with
    | none =>
      simp only [Op.operands, notSel, Option.map_none, Option.map_some]
      cases hx : (evO tm x).bind toV with
      | none => simp [hx]
      | some u =>
        cases hl : (evO tm l).bind toV with
        | none => simp [hx, hl]
        | some l =>
          simp only [execOp, opOf, envV, hx, hl, Option.getD_some, Option.map_none, Option.map_some]
          rw [if_pos (by simp [hx, hl]), semv_value]; generalize semv P (Instr.sliceAt _ _ _ _ _) = o; cases o <;> rfl
    | some r =>
      simp only [Op.operands, notSel, Option.map_some]
      cases hx : (evO tm x).bind toV with
      | none => simp [hx]
      | some u =>
        cases hl : (evO tm l).bind toV with
        | none => simp [hx, hl]
        | some l =>
          cases hr : (evO tm r).bind toV with
          | none => simp [hx, hl, hr]
          | some r =>
            simp only [execOp, opOf, envV, hx, hl, hr, Option.getD_some, Option.map_none, Option.map_some]
            rw [if_pos (by simp [hx, hl, hr]), semv_value]; generalize semv P (Instr.sliceAt _ _ _ _ _) = o; cases o <;> rfl
attribute [simp] sc_sl
variable {t : TypeId} (h : P.underlying t = some .string) (s : ByteArray)
include h
theorem sl_lo (k : IntKind) (i : Int) (h0 : 0 ≤ i) (h1 : i ≤ s.size) : slS P t (some (.s (.string s))) (some (some (.s (.int k i)))) none = some (.s (.string (s.extract i.toNat s.size))) := by
  simp [slS, toV, Instr.sliceAt, Instr.slice, Instr.sliceBounds, Instr.sliceBound, semv_bind, semv_pure, underlying, program, semv, h, asIntOf, h0, h1]
theorem sl_hi (k : IntKind) (i : Int) (h0 : 0 ≤ i) (h1 : i ≤ s.size) : slS P t (some (.s (.string s))) none (some (some (.s (.int k i)))) = some (.s (.string (s.extract 0 i.toNat))) := by
  simp [slS, toV, Instr.sliceAt, Instr.slice, Instr.sliceBounds, Instr.sliceBound, semv_bind, semv_pure, underlying, program, semv, h, asIntOf, h0, h1]
theorem sl_lh (k k' : IntKind) (i j : Int) (h0 : 0 ≤ i) (h1 : i ≤ j) (h2 : j ≤ s.size) : slS P t (some (.s (.string s))) (some (some (.s (.int k i)))) (some (some (.s (.int k' j)))) = some (.s (.string (s.extract i.toNat j.toNat))) := by
  have : max j 0 = j := by omega
  simp [slS, toV, Instr.sliceAt, Instr.slice, Instr.sliceBounds, Instr.sliceBound, semv_bind, semv_pure, underlying, program, semv, h, asIntOf, h0, h1, h2, show 0 ≤ j by omega]
  rw [this, if_pos h1]; rfl
end
end Go.Proofs.Ytpmoellbfgcefaa.AS
end
section
/- Numbers as few bytes: the plain law of them, with no program in sight. -/
namespace Go.Proofs.Ytpmoellbfgcefaa.AS.V
open Go Go.RowKit
set_option linter.unusedVariables false

def bt (s : ByteArray) (i : Int) : Int := if h : i.toNat < s.size then ((s[i.toNat]'h).toNat : Int) else 0
def bytesOf (s : ByteArray) : List Int := s.data.toList.map fun b => (b.toNat : Int)
theorem data_length (s : ByteArray) : s.data.toList.length = s.size := by rw [Array.length_toList]; rfl
/-! numbers of a kind -/
theorem wf_u64 {n : Int} (h : (Lit.int .u64 n).wf = true) : 0 ≤ n ∧ n ≤ 18446744073709551615 := by
  simp only [Lit.wf, IntKind.min, IntKind.max, IntKind.signed, IntKind.bits, Bool.and_eq_true] at h; simpa using h
theorem wf_u32 {n : Int} (h : (Lit.int .u32 n).wf = true) : 0 ≤ n ∧ n ≤ 4294967295 := by
  simp only [Lit.wf, IntKind.min, IntKind.max, IntKind.signed, IntKind.bits, Bool.and_eq_true] at h; simpa using h
theorem wf_u8 {n : Int} (h : (Lit.int .u8 n).wf = true) : 0 ≤ n ∧ n ≤ 255 := by
  simp only [Lit.wf, IntKind.min, IntKind.max, IntKind.signed, IntKind.bits, Bool.and_eq_true] at h; simpa using h
theorem wf_i64 {n : Int} (h : (Lit.int .i64 n).wf = true) : -9223372036854775808 ≤ n ∧ n ≤ 9223372036854775807 := by
  simp only [Lit.wf, IntKind.min, IntKind.max, IntKind.signed, IntKind.bits, Bool.and_eq_true] at h; simpa using h
theorem wf_i32 {n : Int} (h : (Lit.int .i32 n).wf = true) : -2147483648 ≤ n ∧ n ≤ 2147483647 := by
  simp only [Lit.wf, IntKind.min, IntKind.max, IntKind.signed, IntKind.bits, Bool.and_eq_true] at h; simpa using h
theorem w64 {n : Int} (h0 : -9223372036854775808 ≤ n) (h1 : n ≤ 9223372036854775807) : wrap64 n = n := by unfold wrap64; omega
theorem wu64' (n : Int) : IntKind.u64.wrap n = n % 18446744073709551616 := by
  unfold IntKind.wrap
  simp only [IntKind.bits, IntKind.signed, Bool.false_and]
  exact if_neg (by decide)

theorem wu64 {n : Int} (h0 : 0 ≤ n) (h1 : n ≤ 18446744073709551615) : IntKind.u64.wrap n = n := by rw [wu64']; omega

/-! bytes and lists -/
theorem bytesOf_length (s : ByteArray) : (bytesOf s).length = s.size := by simp only [bytesOf, List.length_map, Array.length_toList]; rfl
theorem bytesOf_get (s : ByteArray) (i : Nat) (h : i < s.size) : (bytesOf s)[i]'(by rw [bytesOf_length]; exact h) = bt s (i : Int) := by
  unfold bt
  rw [dif_pos (by simpa using h)]
  simp [bytesOf]
  rfl
theorem bytesOf_range (s : ByteArray) : ∀ c ∈ bytesOf s, 0 ≤ c ∧ c ≤ 255 := by
  intro c hc
  simp only [bytesOf, List.mem_map] at hc
  obtain ⟨b, _, rfl⟩ := hc
  have := b.toNat_lt
  omega
theorem strOf_bytesOf (s : ByteArray) : strOfNums (bytesOf s) = s := by
  unfold strOfNums bytesOf
  rw [List.map_map]
  have : (fun n : Int => UInt8.ofNat n.toNat) ∘ (fun b : UInt8 => (b.toNat : Int)) = id := by
    funext b; simp
  rw [this]; simp
theorem bytesOf_strOf {l : List Int} (h : ∀ c ∈ l, 0 ≤ c ∧ c ≤ 255) : bytesOf (strOfNums l) = l := by
  unfold strOfNums bytesOf
  simp only [List.map_map]
  conv => rhs; rw [← List.map_id l]
  apply List.map_congr_left
  intro c hc
  have := h c hc
  simp only [Function.comp, UInt8.toNat_ofNat', id]
  omega
theorem strOf_append (a b : List Int) : strOfNums (a ++ b) = strOfNums a ++ strOfNums b := by
  apply ByteArray.ext
  simp [strOfNums]
theorem bytesOf_append (a b : ByteArray) : bytesOf (a ++ b) = bytesOf a ++ bytesOf b := by
  simp [bytesOf]
theorem bytesOf_inj {a b : ByteArray} (h : bytesOf a = bytesOf b) : a = b := by
  rw [← strOf_bytesOf a, h, strOf_bytesOf]
theorem toList_inj {a b : ByteArray} (h : a.toList = b.toList) : a = b := by
  rw [Lib.toList_data, Lib.toList_data] at h
  apply ByteArray.ext; exact Array.toList_inj.mp h
theorem empty_toList : (⟨#[]⟩ : ByteArray).toList = [] := by rw [Lib.toList_data]
theorem bytesOf_extract (s : ByteArray) (i j : Nat) (h : j ≤ s.size) : bytesOf (s.extract i j) = ((bytesOf s).take j).drop i := by
  simp only [bytesOf, ByteArray.data_extract, Array.toList_extract, List.extract_eq_take_drop, List.map_take, List.map_drop]
  rw [List.take_drop]
  by_cases hi : i ≤ j
  · rw [Nat.add_sub_cancel' hi]
  · rw [List.drop_eq_nil_of_le (by simp; omega), List.drop_eq_nil_of_le (by simp; omega)]
theorem drop_cons_get {α : Type} (l : List α) (i : Nat) (h : i < l.length) : l.drop i = l[i] :: l.drop (i + 1) := List.drop_eq_getElem_cons h
theorem bytesOf_drop_cons (s : ByteArray) (i : Nat) (h : i < s.size) : (bytesOf s).drop i = bt s (i : Int) :: (bytesOf s).drop (i + 1) := by
  rw [drop_cons_get _ i (by rw [bytesOf_length]; exact h), bytesOf_get s i h]
theorem extract_eq_strOf (s : ByteArray) (i : Nat) (h : i ≤ s.size) : s.extract i s.size = strOfNums ((bytesOf s).drop i) := by
  apply bytesOf_inj
  rw [bytesOf_strOf (fun c hc => bytesOf_range s c (List.mem_of_mem_drop hc)), bytesOf_extract s i s.size (Nat.le_refl _), List.take_of_length_le (by rw [bytesOf_length]; exact Nat.le_refl _)]

/-! a number's bytes -/
def lebF : Nat → Int → List Int
  | 0, n => [n]
  | f + 1, n => if n < 128 then [n] else (n % 128 + 128) :: lebF f (n / 128)
def leb (n : Int) : List Int := lebF 10 n

theorem lebF_more : ∀ (f : Nat) (n : Int), 0 ≤ n → n < 128 ^ (f + 1) → lebF (f + 1) n = lebF f n := by
  intro f
  induction f with
  | zero =>
    intro n h0 h1
    simp only [lebF]
    rw [if_pos (by simpa using h1)]
  | succ f ih =>
    intro n h0 h1
    have e1 : lebF (f + 1 + 1) n = if n < 128 then [n] else (n % 128 + 128) :: lebF (f + 1) (n / 128) := rfl
    have e2 : lebF (f + 1) n = if n < 128 then [n] else (n % 128 + 128) :: lebF f (n / 128) := rfl
    rw [e1, e2]
    by_cases h : n < 128
    · rw [if_pos h, if_pos h]
    · rw [if_neg h, if_neg h, ih (n / 128) (by omega) ?_]
      rw [Int.pow_succ] at h1
      omega
theorem leb_lt {n : Int} (h : n < 128) : leb n = [n] := by simp [leb, lebF, h]
theorem leb_ge {n : Int} (h : 128 ≤ n) (h1 : n ≤ 18446744073709551615) : leb n = (n % 128 + 128) :: leb (n / 128) := by
  unfold leb
  rw [lebF, if_neg (by omega), ← lebF_more 9 (n / 128) (by omega) (by simp; omega)]
theorem leb_ne (n : Int) : leb n ≠ [] := by unfold leb lebF; split <;> simp

theorem leb_ind {P : Int → Prop} (small : ∀ n, 0 ≤ n → n < 128 → P n) (big : ∀ n, 128 ≤ n → n ≤ 18446744073709551615 → P (n / 128) → P n) : ∀ n, 0 ≤ n → n ≤ 18446744073709551615 → P n := by
  have key : ∀ (m : Nat) (n : Int), n.toNat < m → 0 ≤ n → n ≤ 18446744073709551615 → P n := by
    intro m
    induction m with
    | zero => intro n h; omega
    | succ m ih =>
      intro n h h0 h1
      by_cases hs : n < 128
      · exact small n h0 hs
      · exact big n (by omega) h1 (ih (n / 128) (by omega) (by omega) (by omega))
  exact fun n => key (n.toNat + 1) n (by omega)

theorem leb_range : ∀ n, 0 ≤ n → n ≤ 18446744073709551615 → ∀ c ∈ leb n, 0 ≤ c ∧ c ≤ 255 := by
  apply leb_ind
  · intro n h0 h c hc
    rw [leb_lt h] at hc
    simp at hc; omega
  · intro n h h1 ih c hc
    rw [leb_ge h h1] at hc
    rcases List.mem_cons.mp hc with rfl | hc
    · omega
    · exact ih c hc
theorem leb_length_bits : ∀ n, 0 ≤ n → n ≤ 18446744073709551615 → ((leb n).length : Int) = ((max 1 (Lib.bitLen n.toNat) + 6) / 7 : Nat) := by
  apply leb_ind
  · intro n h0 h
    rw [leb_lt h]
    have := Lib.bitLen_le n.toNat 7 (by decide) (by omega)
    simp; omega
  · intro n h h1 ih
    rw [leb_ge h h1]
    have e := Lib.bitLen_shift 7 n.toNat (by omega) (by omega)
    have d : n.toNat / 2 ^ 7 = (n / 128).toNat := by omega
    rw [d] at e
    have p : 1 ≤ Lib.bitLen (n / 128).toNat := by
      have := Lib.bitLen_half (n / 128).toNat (by omega) (by omega)
      omega
    simp only [List.length_cons, Int.natCast_add, ih]
    omega
theorem bitLen_le64 (n : Nat) (h : n < 2 ^ 64) : Lib.bitLen n ≤ 64 := Lib.bitLen_le n 64 (by decide) h
theorem leb_length_le {n : Int} (h0 : 0 ≤ n) (h1 : n ≤ 18446744073709551615) : 1 ≤ (leb n).length ∧ (leb n).length ≤ 10 := by
  have e := leb_length_bits n h0 h1
  have := bitLen_le64 n.toNat (by omega)
  omega
theorem leb_length_few : ∀ n, 0 ≤ n → n ≤ 18446744073709551615 → ∀ k : Nat, (leb n).length ≤ k + 1 ↔ n < 128 ^ (k + 1) := by
  apply leb_ind (P := fun n => ∀ k : Nat, (leb n).length ≤ k + 1 ↔ n < 128 ^ (k + 1))
  · intro n h0 h k
    rw [leb_lt h]
    have : (128 : Int) ^ (k + 1) ≥ 128 := by
      rw [Int.pow_succ]
      have : (0 : Int) < 128 ^ k := Int.pow_pos (by decide)
      omega
    simp; omega
  · intro n h h1 ih k
    rw [leb_ge h h1]
    cases k with
    | zero =>
      have := (leb_length_le (n := n / 128) (by omega) (by omega)).1
      rw [show ((128 : Int) ^ (0 + 1)) = 128 from rfl]
      simp only [List.length_cons]; omega
    | succ k =>
      have := ih k
      rw [Int.pow_succ]
      simp only [List.length_cons, Nat.add_le_add_iff_right]
      rw [this]
      constructor <;> intro h <;> omega
theorem leb_length_mono {a b : Int} (h0 : 0 ≤ a) (h : a ≤ b) (h1 : b ≤ 18446744073709551615) : (leb a).length ≤ (leb b).length := by
  obtain ⟨k, hk⟩ : ∃ k, (leb b).length = k + 1 := ⟨(leb b).length - 1, by have := (leb_length_le (n := b) (by omega) h1).1; omega⟩
  rw [hk, leb_length_few a h0 (by omega) k]
  have := (leb_length_few b (by omega) h1 k).mp (by omega)
  omega

/-! what bytes begin with -/
def G : List Int → Nat → Int → Int × List Int × Int
  | [], _, _ => (0, [], 5)
  | c :: r, i, acc =>
    if i = 9 ∧ c > 1 then (0, [], 7)
    else if c ≥ 128 then G r (i + 1) (acc + (c - 128) * 128 ^ i)
    else if c = 0 ∧ 0 < i then (0, [], 7)
    else (acc + c * 128 ^ i, r, 0)

theorem p128_pos (i : Nat) : (0 : Int) < 128 ^ i := Int.pow_pos (by decide)
/-- What is put is got, whatever stands behind. -/
theorem G_leb : ∀ n, 0 ≤ n → n ≤ 18446744073709551615 → ∀ (i : Nat) (acc : Int) (r : List Int), i ≤ 9 → n * 128 ^ i ≤ 18446744073709551615 → (0 < n ∨ i = 0) → G (leb n ++ r) i acc = (acc + n * 128 ^ i, r, 0) := by
  apply leb_ind (P := fun n => ∀ (i : Nat) (acc : Int) (r : List Int), i ≤ 9 → n * 128 ^ i ≤ 18446744073709551615 → (0 < n ∨ i = 0) → G (leb n ++ r) i acc = (acc + n * 128 ^ i, r, 0))
  · intro n h0 h i acc r hi hb hp
    rw [leb_lt h]
    simp only [List.singleton_append, G]
    have : ¬ (i = 9 ∧ n > 1) := by
      rintro ⟨rfl, h2⟩
      simp at hb; omega
    rw [if_neg this, if_neg (by omega), if_neg (by omega)]
  · intro n h h1 ih i acc r hi hb hp
    rw [leb_ge h h1]
    simp only [List.cons_append, G]
    have hw := p128_pos i
    have i9 : i < 9 := by
      rcases Nat.lt_or_ge i 9 with h9 | h9
      · exact h9
      · obtain rfl : i = 9 := by omega
        simp at hb; omega
    have e : n * 128 ^ i = n % 128 * 128 ^ i + n / 128 * 128 ^ (i + 1) := by
      conv => lhs; rw [← Int.emod_add_mul_ediv n 128]
      rw [Int.pow_succ, Int.add_mul]
      congr 1
      rw [Int.mul_comm 128 (n / 128), Int.mul_assoc, Int.mul_comm 128]
    have e2 : 0 ≤ n % 128 * 128 ^ i := Int.mul_nonneg (by omega) (by omega)
    rw [if_neg (by omega), if_pos (by omega), ih (i + 1) _ r (by omega) (by omega) (.inl (by omega))]
    rw [show n % 128 + 128 - 128 = n % 128 by omega, e]
    simp only [Prod.mk.injEq, and_true]
    omega
/-- What is got has its bytes. -/
theorem G_ok : ∀ (L : List Int) (i : Nat) (acc : Int) (n : Int) (r : List Int), (∀ c ∈ L, 0 ≤ c ∧ c ≤ 255) → i ≤ 9 → G L i acc = (n, r, 0) →
    ∃ m, L = leb m ++ r ∧ n = acc + m * 128 ^ i ∧ 0 ≤ m ∧ m < 2 ^ (64 - 7 * i) ∧ (0 < m ∨ i = 0) := by
  intro L
  induction L with
  | nil => intro i acc n r _ _ h; simp [G] at h
  | cons c L ih =>
    intro i acc n r hr hi h
    have hc := hr c (List.mem_cons_self ..)
    rw [G] at h
    split at h
    · simp at h
    · rename_i h9
      split at h
      · rename_i hb
        have i9 : i < 9 := by
          rcases Nat.lt_or_ge i 9 with h' | h'
          · exact h'
          · exact absurd ⟨by omega, by omega⟩ h9
        obtain ⟨m, hL, hn, hm0, hm1, hm2⟩ := ih (i + 1) _ n r (fun c hc => hr c (List.mem_cons_of_mem _ hc)) (by omega) h
        have hm : 0 < m := by omega
        have hpow : (2 : Int) ^ (64 - 7 * i) = 128 * 2 ^ (64 - 7 * (i + 1)) := by
          rw [show 64 - 7 * i = 64 - 7 * (i + 1) + 7 by omega, Int.pow_add]
          omega
        have hle : (2 : Int) ^ (64 - 7 * i) ≤ 2 ^ 64 := by
          have h1 : (2 : Nat) ^ (64 - 7 * i) ≤ 2 ^ 64 := Nat.pow_le_pow_right (by decide) (by omega)
          exact_mod_cast h1
        have hlt : c - 128 + 128 * m < 2 ^ (64 - 7 * i) := by omega
        refine ⟨c - 128 + 128 * m, ?_, ?_, by omega, hlt, .inl (by omega)⟩
        · rw [leb_ge (by omega) (by omega), hL, show (c - 128 + 128 * m) % 128 + 128 = c by omega, show (c - 128 + 128 * m) / 128 = m by omega]
          rfl
        · rw [hn, Int.pow_succ, Int.add_mul, Int.add_assoc]
          congr 2
          rw [Int.mul_comm 128 m, Int.mul_assoc, Int.mul_comm 128]
      · split at h
        · simp at h
        · rename_i h1 h2
          simp only [Prod.mk.injEq, and_true] at h
          obtain ⟨rfl, rfl⟩ := h
          refine ⟨c, by rw [leb_lt (by omega)]; rfl, rfl, by omega, ?_, by omega⟩
          rcases Nat.lt_or_ge i 9 with h' | h'
          · have h1 : (2 : Nat) ^ 7 ≤ 2 ^ (64 - 7 * i) := Nat.pow_le_pow_right (by decide) (by omega)
            have h1 : (2 : Int) ^ 7 ≤ 2 ^ (64 - 7 * i) := by exact_mod_cast h1
            omega
          · obtain rfl : i = 9 := by omega
            simp; omega
theorem G_err : ∀ (L : List Int) (i : Nat) (acc : Int), (G L i acc).2.2 = 0 ∨ G L i acc = (0, [], 5) ∨ G L i acc = (0, [], 7) := by
  intro L
  induction L with
  | nil => intro i acc; exact .inr (.inl rfl)
  | cons c L ih =>
    intro i acc
    rw [G]
    split
    · exact .inr (.inr rfl)
    · split
      · exact ih _ _
      · split
        · exact .inr (.inr rfl)
        · exact .inl rfl
theorem G_rest : ∀ (L : List Int) (i : Nat) (acc : Int), (∀ c ∈ L, 0 ≤ c ∧ c ≤ 255) → ∀ c ∈ (G L i acc).2.1, 0 ≤ c ∧ c ≤ 255 := by
  intro L
  induction L with
  | nil => intro i acc _ c hc; simp [G] at hc
  | cons a L ih =>
    intro i acc hr c hc
    rw [G] at hc
    split at hc
    · simp at hc
    · split at hc
      · exact ih _ _ (fun c hc => hr c (List.mem_cons_of_mem _ hc)) c hc
      · split at hc
        · simp at hc
        · exact hr c (List.mem_cons_of_mem _ hc)
theorem G_shorter : ∀ (L : List Int) (i : Nat) (acc : Int), (G L i acc).2.1.length ≤ L.length := by
  intro L
  induction L with
  | nil => intro i acc; simp [G]
  | cons a L ih =>
    intro i acc
    rw [G]
    split
    · simp
    · split
      · have := ih (i + 1) (acc + (a - 128) * 128 ^ i); simp; omega
      · split <;> simp

/-- A number, and what is behind it, as text. -/
def gets (s : ByteArray) : Int × ByteArray × Int := ((G (bytesOf s) 0 0).1, strOfNums (G (bytesOf s) 0 0).2.1, (G (bytesOf s) 0 0).2.2)
def puts (n : Int) : ByteArray := strOfNums (leb n)
theorem bytesOf_puts {n : Int} (h0 : 0 ≤ n) (h1 : n ≤ 18446744073709551615) : bytesOf (puts n) = leb n := bytesOf_strOf (leb_range n h0 h1)
theorem puts_size (n : Int) : (puts n).size = (leb n).length := strOfNums_size _
theorem gets_puts {n : Int} (h0 : 0 ≤ n) (h1 : n ≤ 18446744073709551615) (s : ByteArray) : gets (puts n ++ s) = (n, s, 0) := by
  unfold gets
  rw [bytesOf_append, bytesOf_puts h0 h1, G_leb n h0 h1 0 0 (bytesOf s) (by omega) (by simpa using h1) (.inr rfl), strOf_bytesOf]
  simp
theorem gets_ok {s r : ByteArray} {n : Int} (h : gets s = (n, r, 0)) : s = puts n ++ r ∧ 0 ≤ n ∧ n ≤ 18446744073709551615 := by
  unfold gets at h
  simp only [Prod.mk.injEq] at h
  obtain ⟨h1, h2, h3⟩ := h
  have hg : G (bytesOf s) 0 0 = ((G (bytesOf s) 0 0).1, (G (bytesOf s) 0 0).2.1, 0) := Prod.ext rfl (Prod.ext rfl h3)
  obtain ⟨m, hL, hn, hm0, hm1, _⟩ := G_ok _ 0 0 _ _ (bytesOf_range s) (by omega) hg
  have e : n = m := by rw [← h1, hn]; simp
  subst e
  refine ⟨?_, hm0, by simp at hm1; omega⟩
  rw [← h2, puts, ← strOf_append, ← hL, strOf_bytesOf]
theorem gets_err (s : ByteArray) : (gets s).2.2 = 0 ∨ gets s = (0, ⟨#[]⟩, 5) ∨ gets s = (0, ⟨#[]⟩, 7) := by
  unfold gets
  rcases G_err (bytesOf s) 0 0 with h | h | h
  · exact .inl h
  · refine .inr (.inl ?_); rw [h]; rfl
  · refine .inr (.inr ?_); rw [h]; rfl
theorem gets_shorter (s : ByteArray) : (gets s).2.1.size ≤ s.size := by
  have := G_shorter (bytesOf s) 0 0
  unfold gets
  rw [strOfNums_size, ← bytesOf_length s]
  exact this

end Go.Proofs.Ytpmoellbfgcefaa.AS.V
end
section
set_option autoImplicit false
namespace Go.Proofs.Ytpmoellbfgcefaa.AS
open Go Go.Proofs Go.RowKit Go.Proofs.Ytpmoellbfgcefaa.AS.V
theorem i9 {i : Nat} (h : i ≤ 9) : i = 0 ∨ i = 1 ∨ i = 2 ∨ i = 3 ∨ i = 4 ∨ i = 5 ∨ i = 6 ∨ i = 7 ∨ i = 8 ∨ i = 9 := by omega
theorem shl_at {i : Nat} (hi : i ≤ 9) {y : Int} (h0 : 0 ≤ y) (h1 : y < 128) (h9 : i = 9 → y ≤ 1) : IntKind.u64.wrap (y * 2 ^ (min (7 * (i : Int)).toNat IntKind.u64.bits)) = y * 128 ^ i ∧ 0 ≤ y * 128 ^ i ∧ y * 128 ^ i + 128 ^ i ≤ 18446744073709551616 := by
  rcases i9 hi with rfl | rfl | rfl | rfl | rfl | rfl | rfl | rfl | rfl | rfl
  all_goals
    try have h9 := h9 rfl
    simp only [IntKind.bits]
    refine ⟨?_, ?_, ?_⟩
    · rw [wu64 (by simp; omega) (by simp; omega)]; simp
    · simp; omega
    · simp; omega
theorem wu64_in {n : Int} (h0 : 0 ≤ n) (h1 : n < 2 ^ 64) : IntKind.u64.wrap n = n := wu64 h0 (by simp at h1; omega)
theorem or_at {i : Nat} (hi : i ≤ 9) {y acc : Int} (h0 : 0 ≤ y) (h1 : y < 128) (h9 : i = 9 → y ≤ 1) (ha : 0 ≤ acc) (hb : acc < 128 ^ i) : Go.bits .or .u64 acc (y * 128 ^ i) = acc + y * 128 ^ i := by
  obtain ⟨_, hn, hm⟩ := shl_at hi h0 h1 h9
  have p : (2 : Int) ^ (7 * i) = 128 ^ i := by
    rw [Int.pow_mul, show (2 : Int) ^ 7 = 128 from rfl]
  have comm : Go.bits .or .u64 acc (y * 128 ^ i) = Go.bits .or .u64 (y * 128 ^ i) acc := by
    unfold Go.bits
    simp only [BitVec.or_comm]
  rw [comm, bits_join .u64 64 (by decide) (fun n a b => wu64_in a b) (7 * i) (y * 128 ^ i) acc hn (by rw [p]; exact Int.mul_emod_left ..) (by simp; omega) ha (by rw [p]; exact hb) (by simp; omega)]
  omega
theorem and127 : ∀ m : Fin 256, IntKind.u64.wrap (Go.bits .and .u8 ((m.val : Nat) : Int) 127) = ((m.val % 128 : Nat) : Int) := by decide +kernel
theorem and127' {c : Int} (h0 : 0 ≤ c) (h1 : c ≤ 255) : IntKind.u64.wrap (Go.bits .and .u8 c 127) = c % 128 := by
  have := and127 ⟨c.toNat, by omega⟩
  simp only at this
  rw [show ((c.toNat : Nat) : Int) = c by omega] at this
  rw [this]; omega
theorem mod128 {c : Int} (h0 : 0 ≤ c) (h1 : c ≤ 255) : IntKind.u64.wrap (Int.tmod c 128) = c % 128 := by
  rw [Int.tmod_eq_emod_of_nonneg h0, wu64 (by omega) (by omega)]
theorem acc_next {i : Nat} (hi : i ≤ 9) {y acc : Int} (h0 : 0 ≤ y) (h1 : y < 128) (ha : 0 ≤ acc) (hb : acc < 128 ^ i) : 0 ≤ acc + y * 128 ^ i ∧ acc + y * 128 ^ i < 128 ^ (i + 1) := by
  have p := p128_pos i
  have q : 0 ≤ y * 128 ^ i := Int.mul_nonneg h0 (by omega)
  have q2 : y * 128 ^ i ≤ 127 * 128 ^ i := Int.mul_le_mul_of_nonneg_right (by omega) (by omega)
  rw [Int.pow_succ]
  omega
theorem bt_range (s : ByteArray) (i : Int) : 0 ≤ bt s i ∧ bt s i ≤ 255 := by
  unfold bt
  split
  · rename_i h
    have := (s[i.toNat]'h).toNat_lt
    omega
  · omega
theorem ix_bt {P : Program} {t : TypeId} (h : P.underlying t = some .string) (s : ByteArray) (k : IntKind) (i : Nat) (h1 : i < s.size) :
    ix2 P t (some (.s (.string s))) (some (.s (.int k (i : Int)))) = some (.s (.int .u8 (bt s (i : Int)))) := by
  rw [ix_str h s k i (by omega) (by omega)]
  unfold bt
  rw [dif_pos (by simpa using h1)]
theorem w64k {n : Int} (h0 : -9223372036854775808 ≤ n) (h1 : n ≤ 9223372036854775807) : IntKind.i64.wrap n = n := by
  have : IntKind.i64.wrap n = wrap64 n := by unfold IntKind.wrap wrap64; simp [IntKind.bits, IntKind.signed, IntKind.min, IntKind.max] <;> omega
  rw [this, w64 h0 h1]
end Go.Proofs.Ytpmoellbfgcefaa.AS
end
section
set_option autoImplicit false
namespace Go.Proofs.Ytpmoellbfgcefaa.AS
open Go Go.RowKit

/-- What a code comes to, from some number of rounds on. -/
def Run (P : Program) (T : FuncId → Option AFunc) (c : ACode) (tm : List AV) (h : Heap) (r : Res) : Prop :=
  ∃ K, ∀ k j, K ≤ k → K ≤ j → evC P (evFn P T j) k c tm h = some r
def FRun (P : Program) (T : FuncId → Option AFunc) (f : FuncId) (args : List AV) (h : Heap) (r : AV × Heap) : Prop :=
  ∃ K, ∀ k, K ≤ k → evFn P T k f args h = some r

section
variable {P : Program} {T : FuncId → Option AFunc} {tm tm' : List AV} {h h' : Heap} {r : Res} {a b c : ACode}
theorem Run.step (K : Nat) (H : ∀ k j, evC P (evFn P T (j + 1)) (k + K) c tm h = some r) : Run P T c tm h r := by
  refine ⟨K + 1, fun k j hk hj => ?_⟩
  obtain ⟨k', rfl⟩ : ∃ k', k = k' + K := ⟨k - K, by omega⟩
  obtain ⟨j', rfl⟩ : ∃ j', j = j' + 1 := ⟨j - 1, by omega⟩
  exact H k' j'
theorem Run.seq (ha : Run P T a tm h (.normal, tm', h')) (hb : Run P T b tm' h' r) : Run P T (.seq a b) tm h r := by
  obtain ⟨K, ha⟩ := ha; obtain ⟨L, hb⟩ := hb
  refine ⟨K + L + 1, fun k j hk hj => ?_⟩
  obtain ⟨k, rfl⟩ : ∃ k', k = k' + 1 := ⟨k - 1, by omega⟩
  rw [evC_seq, ha k j (by omega) (by omega)]
  exact hb k j (by omega) (by omega)
theorem Run.seq_stop {e : Ex} (he : e ≠ .normal) (ha : Run P T a tm h (e, tm', h')) : Run P T (.seq a b) tm h (e, tm', h') := by
  obtain ⟨K, ha⟩ := ha
  refine ⟨K + 1, fun k j hk hj => ?_⟩
  obtain ⟨k, rfl⟩ : ∃ k', k = k' + 1 := ⟨k - 1, by omega⟩
  rw [evC_seq, ha k j (by omega) (by omega)]
  cases e <;> first | rfl | exact absurd rfl he
theorem Run.skip : Run P T .skip tm h (.normal, tm, h) := Run.step 1 fun _ _ => rfl
theorem Run.cond {o : Operand} {t : Bool} (ho : evO tm o = some (.s (.bool t))) (H : Run P T (if t then a else b) tm h r) : Run P T (.cond o a b) tm h r := by
  obtain ⟨K, H⟩ := H
  refine ⟨K + 1, fun k j hk hj => ?_⟩
  obtain ⟨k, rfl⟩ : ∃ k', k = k' + 1 := ⟨k - 1, by omega⟩
  rw [evC_cond, ho, condC_i, ← H k j (by omega) (by omega)]
  cases t <;> rfl
theorem Run.block {i : Nat} {e : Ex} (H : Run P T b tm h (e, tm', h')) : Run P T (.block i b) tm h (match e with | .exit j => if j = i then .normal else .exit j | e => e, tm', h') := by
  obtain ⟨K, H⟩ := H
  refine ⟨K + 1, fun k j hk hj => ?_⟩
  obtain ⟨k, rfl⟩ : ∃ k', k = k' + 1 := ⟨k - 1, by omega⟩
  rw [evC_block, H k j (by omega) (by omega)]
  cases e <;> simp
  split <;> rfl
theorem Run.block_exit {i : Nat} (H : Run P T b tm h (.exit i, tm', h')) : Run P T (.block i b) tm h (.normal, tm', h') := by
  have := Run.block (i := i) H
  simpa using this
theorem Run.block_id {i : Nat} {e : Ex} (he : ∀ j, e ≠ .exit j) (H : Run P T b tm h (e, tm', h')) : Run P T (.block i b) tm h (e, tm', h') := by
  have := Run.block (i := i) H
  cases e <;> first | exact this | exact absurd rfl (he _)
theorem Run.loop_next {fg : List Nat} (H : Run P T b (forget fg tm) h (.normal, tm', h')) (H' : Run P T (.loop fg b) tm' h' r) : Run P T (.loop fg b) tm h r := by
  obtain ⟨K, H⟩ := H; obtain ⟨L, H'⟩ := H'
  refine ⟨K + L + 1, fun k j hk hj => ?_⟩
  obtain ⟨k, rfl⟩ : ∃ k', k = k' + 1 := ⟨k - 1, by omega⟩
  simp only [evC]
  rw [H k j (by omega) (by omega)]
  exact H' k j (by omega) (by omega)
theorem Run.loop_end {fg : List Nat} {e : Ex} (he : e ≠ .normal) (H : Run P T b (forget fg tm) h (e, tm', h')) : Run P T (.loop fg b) tm h (e, tm', h') := by
  obtain ⟨K, H⟩ := H
  refine ⟨K + 1, fun k j hk hj => ?_⟩
  obtain ⟨k, rfl⟩ : ∃ k', k = k' + 1 := ⟨k - 1, by omega⟩
  simp only [evC]
  rw [H k j (by omega) (by omega)]
  cases e <;> first | rfl | exact absurd rfl he
theorem Run.scope_goto {fg : List Nat} {l : Nat} {rest : ACode} (H : Run P T c tm h (.goto l, tm', h')) (hf : findA b l = some rest) (H' : Run P T (.scope fg b rest) (forget fg tm') h' r) : Run P T (.scope fg b c) tm h r := by
  obtain ⟨K, H⟩ := H; obtain ⟨L, H'⟩ := H'
  refine ⟨K + L + 1, fun k j hk hj => ?_⟩
  obtain ⟨k, rfl⟩ : ∃ k', k = k' + 1 := ⟨k - 1, by omega⟩
  simp only [evC]
  rw [H k j (by omega) (by omega)]
  simp only [hf]
  exact H' k j (by omega) (by omega)
theorem Run.scope_end {fg : List Nat} {e : Ex} (he : ∀ l, e ≠ .goto l) (H : Run P T c tm h (e, tm', h')) : Run P T (.scope fg b c) tm h (e, tm', h') := by
  obtain ⟨K, H⟩ := H
  refine ⟨K + 1, fun k j hk hj => ?_⟩
  obtain ⟨k, rfl⟩ : ∃ k', k = k' + 1 := ⟨k - 1, by omega⟩
  simp only [evC]
  rw [H k j (by omega) (by omega)]
  cases e <;> first | rfl | exact absurd rfl (he _)
theorem Run.scope_goto_f {fg : List Nat} {l : Nat} {rest : ACode} {tm'' : List AV} (H : Run P T c tm h (.goto l, tm', h')) (hf : findA b l = some rest) (hfg : forget fg tm' = tm'') (H' : Run P T (.scope fg b rest) tm'' h' r) : Run P T (.scope fg b c) tm h r :=
  Run.scope_goto H hf (hfg ▸ H')
theorem Run.loop_next_f {fg : List Nat} {tm0 : List AV} (hfg : forget fg tm = tm0) (H : Run P T b tm0 h (.normal, tm', h')) (H' : Run P T (.loop fg b) tm' h' r) : Run P T (.loop fg b) tm h r :=
  Run.loop_next (hfg.symm ▸ H) H'
theorem Run.loop_end_f {fg : List Nat} {e : Ex} {tm0 : List AV} (hfg : forget fg tm = tm0) (he : e ≠ .normal) (H : Run P T b tm0 h (e, tm', h')) : Run P T (.loop fg b) tm h (e, tm', h') :=
  Run.loop_end he (hfg.symm ▸ H)
theorem Run.to (H : Run P T c tm h r) {r' : Res} (e : r = r') : Run P T c tm h r' := e ▸ H

theorem FRun.of {f : FuncId} {args : List AV} {nt : Nat} {res : List ARes} {body : ACode} {e : Ex} {x : AV} (hT : T f = some (.code nt res body)) (H : Run P T body (args ++ List.replicate (nt - args.length) (.s undef)) h (e, tm', h')) (he : e = .ret ∨ e = .normal) (hr : (resAs tm' h' res).map tupA = some x) : FRun P T f args h (x, h') := by
  obtain ⟨K, H⟩ := H
  refine ⟨K + 1, fun k hk => ?_⟩
  obtain ⟨k, rfl⟩ : ∃ k', k = k' + 1 := ⟨k - 1, by omega⟩
  rw [evFn_code hT, H _ k (by omega) (by omega)]
  cases hl : resAs tm' h' res with
  | none => rw [hl] at hr; cases hr
  | some l =>
    rw [hl] at hr
    cases hr
    rcases he with rfl | rfl <;> simp [hl]
theorem FRun.hook {f : FuncId} {args : List AV} {hk : List AV → Heap → Option (AV × Heap)} {r : AV × Heap} (hT : T f = some (.hook hk)) (H : hk args h = some r) : FRun P T f args h r := by
  refine ⟨1, fun k h1 => ?_⟩
  obtain ⟨k, rfl⟩ : ∃ k', k = k' + 1 := ⟨k - 1, by omega⟩
  rw [evFn_hook hT, H]
/-- A hook from what a function comes to. -/
theorem hookOf (hm : P.follows .mixedOrders = true) (hT : TabOK P T) {f : FuncId} (hc : callable P f = true) {hk : List AV → Heap → Option (AV × Heap)}
    (hs : ∀ l h r, hk l h = some r → ∃ r1, FRun P T f l h r1 ∧ Drops h r1 r) : HookSound P f hk := by
  refine hookSound_of hm hT hc fun l h r he => ?_
  obtain ⟨r1, ⟨K, H⟩, h2⟩ := hs l h r he
  exact ⟨K, r1, H K (Nat.le_refl _), h2⟩
end
end Go.Proofs.Ytpmoellbfgcefaa.AS
end
section
set_option autoImplicit false
namespace Go.Proofs.Ytpmoellbfgcefaa.AS
open Go Go.RowKit

def CallLe (g g' : CallF) : Prop := ∀ f l h r, g f l h = some r → g' f l h = some r
section
variable {P : Program} {g g' : CallF}
theorem eV_mono (hg : CallLe g g') (tm : List AV) (h : Heap) (o : EOp) (r : AV × Heap) (H : eV g tm h o = some r) : eV g' tm h o = some r := by
  cases o with
  | call f args =>
    simp only [eV] at H ⊢
    split at H
    · rename_i l hl; (try rw [hl]); exact hg _ _ _ _ H
    · cases H
  | callv f args =>
    simp only [eV] at H ⊢
    split at H
    · rename_i k x y l h1 h2; (try rw [h1, h2]); exact hg _ _ _ _ H
    · rename_i k x y l h1 h2; (try rw [h1, h2]); exact hg _ _ _ _ H
    · cases H
  | _ => exact H
theorem opV_mono (hg : CallLe g g') (tm : List AV) (h : Heap) (o : AOp) (r : AV × Heap) (H : opV P g tm h o = some r) : opV P g' tm h o = some r := by
  cases o with
  | e o => exact eV_mono hg tm h o r H
  | _ => exact H
theorem evOps_mono (hg : CallLe g g') : ∀ (ops : List AOper) (tm : List AV) (h : Heap) (r : List AV × Heap), evOps P g ops tm h = some r → evOps P g' ops tm h = some r
  | [], _, _, _, H => H
  | o :: l, tm, h, r, H => by
    simp only [evOps] at H ⊢
    split at H
    · split at H
      · rename_i x h' h2; (try rw [opV_mono hg _ _ _ _ h2]); exact evOps_mono hg l _ _ _ H
      · cases H
    · exact evOps_mono hg l _ _ _ H
    · cases H
theorem runDraw_mono (hg : CallLe g g') : ∀ (ops : List AOper) (tm : List AV) (h : Heap) (r : List Heap × List (List AV × AV × Bool) × List AV × Heap), runDraw P g ops tm h = some r → runDraw P g' ops tm h = some r
  | [], _, _, _, H => H
  | o :: l, tm, h, r, H => by
    simp only [runDraw] at H ⊢
    split at H
    · split at H
      · rename_i x h' h2
        rw [opV_mono hg _ _ _ _ h2]
        split at H
        · rename_i a b c hr; simp only; (try rw [runDraw_mono hg l _ _ _ hr]); exact H
        · cases H
      · cases H
    · split at H
      · rename_i a b c hr; (try rw [runDraw_mono hg l _ _ _ hr]); exact H
      · cases H
    · cases H
theorem evC_mono (hg : CallLe g g') : ∀ (k k' : Nat) (c : ACode) (tm : List AV) (h : Heap) (r : Res), k ≤ k' → evC P g k c tm h = some r → evC P g' k' c tm h = some r := by
  intro k
  induction k with
  | zero => intro k' c tm h r _ H; simp [evC] at H
  | succ k ih =>
    intro k' c tm h r hk H
    obtain ⟨k', rfl⟩ : ∃ j, k' = j + 1 := ⟨k' - 1, by omega⟩
    have hk : k ≤ k' := by omega
    cases c with
    | skip => exact H
    | label fg l => exact H
    | exit i => exact H
    | goto l => exact H
    | ret => exact H
    | reg ops =>
      simp only [evC, Option.map_eq_some_iff] at H ⊢
      obtain ⟨x, hx, e⟩ := H
      exact ⟨x, evOps_mono hg _ _ _ _ hx, e⟩
    | draw ops chk =>
      simp only [evC] at H ⊢
      split at H
      · rename_i a b c d hr; (try rw [runDraw_mono hg _ _ _ _ hr]); exact H
      · cases H
    | seq a b =>
      simp only [evC] at H ⊢
      split at H
      · rename_i tm' h' ha; rw [ih k' _ _ _ _ hk ha]; exact ih k' _ _ _ _ hk H
      · rename_i hn
        rw [ih k' _ _ _ _ hk H]
        obtain ⟨e, tm', h'⟩ := r
        cases e <;> first | rfl | exact absurd H (hn _ _)
    | cond o a b =>
      simp only [evC] at H ⊢
      split at H
      · rename_i t ht
        (try rw [ht])
        cases t
        · exact ih k' _ _ _ _ hk H
        · exact ih k' _ _ _ _ hk H
      · cases H
    | block i b =>
      simp only [evC] at H ⊢
      split at H
      · rename_i j tm' h' hb; rw [ih k' _ _ _ _ hk hb]; exact H
      · rename_i hn
        rw [ih k' _ _ _ _ hk H]
        obtain ⟨e, tm', h'⟩ := r
        cases e <;> first | rfl | exact absurd H (hn _ _ _)
    | loop fg b =>
      simp only [evC] at H ⊢
      split at H
      · rename_i tm' h' ha; rw [ih k' _ _ _ _ hk ha]; exact ih k' _ _ _ _ hk H
      · rename_i hn
        rw [ih k' _ _ _ _ hk H]
        obtain ⟨e, tm', h'⟩ := r
        cases e <;> first | rfl | exact absurd H (hn _ _)
    | scope fg b cur =>
      simp only [evC] at H ⊢
      split at H
      · rename_i l tm' h' ha
        rw [ih k' _ _ _ _ hk ha]
        simp only
        split at H
        · rename_i rest hr; (try rw [hr]); exact ih k' _ _ _ _ hk H
        · rename_i hr; (try rw [hr]); exact H
      · rename_i hn
        rw [ih k' _ _ _ _ hk H]
        obtain ⟨e, tm', h'⟩ := r
        cases e <;> first | rfl | exact absurd H (hn _ _ _)
theorem evFn_mono1 {T : FuncId → Option AFunc} : ∀ (k : Nat), CallLe (evFn P T k) (evFn P T (k + 1)) := by
  intro k
  induction k with
  | zero => intro f l h r H; simp [evFn] at H
  | succ k ih =>
    intro f l h r H
    cases hT : T f with
    | none => simp [evFn, hT] at H
    | some x =>
      cases x with
      | hook hk => rw [evFn_hook hT] at H ⊢; exact H
      | code nt res body =>
        rw [evFn_code hT] at H ⊢
        split at H
        · rename_i tm h' hb; rw [evC_mono ih (k + 1) (k + 1 + 1) _ _ _ _ (by omega) hb]; exact H
        · rename_i tm h' hb; rw [evC_mono ih (k + 1) (k + 1 + 1) _ _ _ _ (by omega) hb]; exact H
        · cases H
theorem evFn_mono {T : FuncId → Option AFunc} (k k' : Nat) (hk : k ≤ k') : CallLe (evFn P T k) (evFn P T k') := by
  intro f l h r H
  induction hk with
  | refl => exact H
  | step _ ih => exact evFn_mono1 _ _ _ _ _ ih
theorem FRun.one {T : FuncId → Option AFunc} {f : FuncId} {l : List AV} {h : Heap} {r : AV × Heap} (k : Nat) (H : evFn P T k f l h = some r) : FRun P T f l h r := ⟨k, fun _ hk => evFn_mono _ _ hk _ _ _ _ H⟩
theorem Run.one {T : FuncId → Option AFunc} {c : ACode} {tm : List AV} {h : Heap} {r : Res} (k j : Nat) (H : evC P (evFn P T j) k c tm h = some r) : Run P T c tm h r :=
  ⟨k + j, fun k' j' hk hj => evC_mono (evFn_mono _ _ (by omega)) _ _ _ _ _ _ (by omega) H⟩
theorem Run.get {T : FuncId → Option AFunc} {c : ACode} {tm : List AV} {h : Heap} {r : Res} (H : Run P T c tm h r) : ∃ k, evC P (evFn P T k) k c tm h = some r := by
  obtain ⟨K, H⟩ := H; exact ⟨K, H K K (Nat.le_refl _) (Nat.le_refl _)⟩
/-- A scope's body that comes to another code. -/
theorem Run.scope_as {T : FuncId → Option AFunc} {fg : List Nat} {b c c' : ACode} {tm tm' : List AV} {h h' : Heap} {r : Res} (Hc : ∀ r, Run P T c' tm' h' r → Run P T c tm h r) (H : Run P T (.scope fg b c') tm' h' r) : Run P T (.scope fg b c) tm h r := by
  obtain ⟨k, H⟩ := H.get
  cases k with
  | zero => simp [evC] at H
  | succ k =>
    simp only [evC] at H
    split at H
    · rename_i l tm1 h1 ha
      have hr := Hc _ (Run.one _ _ ha)
      split at H
      · rename_i rest hf; exact Run.scope_goto hr hf (Run.one _ _ H)
      · rename_i hf
        cases H
        obtain ⟨K, hr⟩ := hr
        refine ⟨K + 1, fun k j hk hj => ?_⟩
        obtain ⟨k, rfl⟩ : ∃ k', k = k' + 1 := ⟨k - 1, by omega⟩
        simp only [evC]
        rw [hr k j (by omega) (by omega)]
        simp only [hf]
    · rename_i hn
      obtain ⟨e, tm1, h1⟩ := r
      exact Run.scope_end (fun l he => hn l tm1 h1 (he ▸ H)) (Hc _ (Run.one _ _ H))
/-- A run ahead of a label. -/
theorem Run.skip_l {T : FuncId → Option AFunc} {a : ACode} {tm : List AV} {h : Heap} {r : Res} (H : Run P T (.seq .skip a) tm h r) : Run P T a tm h r := by
  obtain ⟨k, H⟩ := H.get
  cases k with
  | zero => simp [evC] at H
  | succ k =>
    simp only [evC] at H
    cases k with
    | zero => simp [evC] at H
    | succ k => exact Run.one _ _ H
end
end Go.Proofs.Ytpmoellbfgcefaa.AS
end
section
set_option autoImplicit false
set_option maxRecDepth 100000
set_option maxHeartbeats 1000000

namespace Go.Proofs.Ytpmoellbfgcefaa.AS
open Go Go.Proofs Go.RowKit Go.Proofs.Ytpmoellbfgcefaa.AS.V

def fr60 (s : ByteArray) (a1 : AV) (acc i : Int) (a7 : AV) : List AV := [.s (.string s), a1, .any, .any, .any, .s (.int .u64 acc), .s (.int .i64 i), a7] ++ List.replicate 35 .any
noncomputable def lab60 : ACode := match c60 with
  | .seq _ (.scope _ b _) => (findA b 0).getD .skip
  | _ => .skip
noncomputable def scp60 : ACode → ACode := match c60 with
  | .seq _ (.scope fg b _) => fun c => .scope fg b c
  | _ => id

theorem run60 {T : FuncId → Option AFunc} (s : ByteArray) (hs : s.size ≤ 9223372036854775807) (h : Heap) : ∀ (d i : Nat) (acc : Int) (a1 a7 : AV), i + d = s.size → i ≤ 9 → 0 ≤ acc → acc < 128 ^ i →
    ∃ tm', (tm'[2]? = some (.s (.int .u64 (G ((bytesOf s).drop i) i acc).1)) ∧ tm'[3]? = some (.s (.string (strOfNums (G ((bytesOf s).drop i) i acc).2.1))) ∧ tm'[4]? = some (.s (.int .i64 (G ((bytesOf s).drop i) i acc).2.2))) ∧
      Run Try.prog T (scp60 lab60) (fr60 s a1 acc i a7) h (.ret, tm', h) := by
  intro d
  induction d with
  | zero =>
    intro i acc a1 a7 hd hi ha hb
    rw [List.drop_eq_nil_of_le (by rw [bytesOf_length]; omega)]
    refine ⟨?tm1, ?props1, Run.scope_end (by simp) (Run.step 30 fun k j => ?run1)⟩
    case run1 =>
      simp [c60, lab60, findA, fr60, Try.underlying9, Try.underlying5, Try.underlying35, Try.underlying3, show (i : Int) = s.size by omega]
      rfl
    case props1 => exact ⟨rfl, rfl, rfl⟩
  | succ d ih =>
    intro i acc a1 a7 hd hi ha hb
    have hlt : i < s.size := by omega
    have hc := bt_range s (i : Int)
    have hx := fun t h => ix_bt (P := Try.prog) (t := t) h s .i64 i hlt
    rw [bytesOf_drop_cons s i hlt]
    generalize hcv : bt s (i : Int) = c at hc hx
    have e127 : IntKind.u64.wrap (Go.bits .and .u8 c 127) = c % 128 := and127' hc.1 hc.2
    have hne : ¬ ((i : Int) = s.size) := by omega
    have w7 : IntKind.i64.wrap (7 * (i : Int)) = 7 * (i : Int) := w64k (by omega) (by omega)
    have w1 : IntKind.i64.wrap ((i : Int) + 1) = (i : Int) + 1 := w64k (by omega) (by omega)
    have h7 : (0 : Int) ≤ 7 * (i : Int) := by omega
    have hx' : s.extract (i + 1) s.size = strOfNums ((bytesOf s).drop (i + 1)) := extract_eq_strOf s (i + 1) (by omega)
    have hsl : ∀ t, Try.prog.underlying t = some .string → slS Try.prog t (some (.s (.string s))) (some (some (.s (.int .i64 ((i : Int) + 1))))) none = some (.s (.string (strOfNums ((bytesOf s).drop (i + 1))))) := fun t h => by
      rw [sl_lo h s .i64 ((i : Int) + 1) (by omega) (by omega), show ((i : Int) + 1).toNat = i + 1 by omega, hx']
    rw [G]
    by_cases hbad : i = 9 ∧ c > 1
    · rw [if_pos hbad]
      have h9 : (i : Int) = 9 := by omega
      have h1 : 1 < c := hbad.2
      refine ⟨?tm2, ?props2, Run.scope_end (by simp) (Run.step 30 fun k j => ?run2)⟩
      case run2 =>
        simp [c60, lab60, findA, fr60, hx, Try.underlying9, eq_false hne, eq_true h9, eq_true h1]
        rfl
      case props2 => exact ⟨rfl, rfl, rfl⟩
    rw [if_neg hbad]
    have hsh := shl_at hi (y := c % 128) (by omega) (by omega) (fun h => by omega)
    have hor := or_at hi (y := c % 128) (by omega) (by omega) (fun h => by omega) ha hb
    have hn := acc_next hi (y := c % 128) (by omega) (by omega) ha hb
    by_cases hbig : 128 ≤ c
    · rw [if_pos (by omega)]
      have h9 : ¬ ((i : Int) = 9) := by omega
      obtain ⟨tm', hp, hr⟩ := ih (i + 1) (acc + (c - 128) * 128 ^ i) a1 (.s (.int .u8 c)) (by omega) (by omega) (by rw [show c % 128 = c - 128 by omega] at hn; exact hn.1) (by rw [show c % 128 = c - 128 by omega] at hn; exact hn.2)
      refine ⟨tm', hp, Run.scope_goto_f (tm' := ?tm3) (h' := h) (l := 0) (Run.step 30 fun k j => ?run3) rfl ?fg3 hr⟩
      case run3 =>
        simp [c60, lab60, findA, fr60, hx, Try.underlying9, Try.underlying5, Try.underlying35, eq_false hne, eq_false h9, h7, w7, w1, e127, hsh.1, hor, hbig]
        rfl
      case fg3 => simp [forget, fr60, show c % 128 = c - 128 by omega]
    · by_cases h9 : (i : Int) = 9
      · have h1 : ¬ 1 < c := by omega
        rw [if_neg (by omega)]
        rw [show c % 128 = c by omega] at e127 hsh hor
        by_cases h0 : c = 0
        · by_cases hi0 : 0 < i
          · rw [if_pos ⟨h0, hi0⟩]
            have hi1 : (1 : Int) < (i : Int) + 1 := by omega
            refine ⟨?tm11, ?props11, Run.scope_end (by simp) (Run.step 40 fun k j => ?run11)⟩
            case run11 =>
              simp [c60, lab60, findA, fr60, hx, hsl, Try.underlying9, Try.underlying5, Try.underlying35, eq_false hne, h7, w7, w1, e127, hsh.1, hor, eq_true h9, eq_false h1, eq_false hbig, eq_true h0, eq_true hi1]
              rfl
            case props11 => exact ⟨rfl, rfl, rfl⟩

          · rw [if_neg (by omega)]
            have hi1 : ¬ (1 : Int) < (i : Int) + 1 := by omega
            refine ⟨?tm12, ?props12, Run.scope_end (by simp) (Run.step 40 fun k j => ?run12)⟩
            case run12 =>
              simp [c60, lab60, findA, fr60, hx, hsl, Try.underlying9, Try.underlying5, Try.underlying35, eq_false hne, h7, w7, w1, e127, hsh.1, hor, eq_true h9, eq_false h1, eq_false hbig, eq_true h0, eq_false hi1]
              rfl
            case props12 => exact ⟨rfl, rfl, rfl⟩

        · rw [if_neg (by omega)]
          refine ⟨?tm13, ?props13, Run.scope_end (by simp) (Run.step 40 fun k j => ?run13)⟩
          case run13 =>
            simp [c60, lab60, findA, fr60, hx, hsl, Try.underlying9, Try.underlying5, Try.underlying35, eq_false hne, h7, w7, w1, e127, hsh.1, hor, eq_true h9, eq_false h1, eq_false hbig, eq_false h0]
            rfl
          case props13 => exact ⟨rfl, rfl, rfl⟩


      · rw [if_neg (by omega)]
        rw [show c % 128 = c by omega] at e127 hsh hor
        by_cases h0 : c = 0
        · by_cases hi0 : 0 < i
          · rw [if_pos ⟨h0, hi0⟩]
            have hi1 : (1 : Int) < (i : Int) + 1 := by omega
            refine ⟨?tm14, ?props14, Run.scope_end (by simp) (Run.step 40 fun k j => ?run14)⟩
            case run14 =>
              simp [c60, lab60, findA, fr60, hx, hsl, Try.underlying9, Try.underlying5, Try.underlying35, eq_false hne, h7, w7, w1, e127, hsh.1, hor, eq_false h9, eq_false hbig, eq_true h0, eq_true hi1]
              rfl
            case props14 => exact ⟨rfl, rfl, rfl⟩

          · rw [if_neg (by omega)]
            have hi1 : ¬ (1 : Int) < (i : Int) + 1 := by omega
            refine ⟨?tm15, ?props15, Run.scope_end (by simp) (Run.step 40 fun k j => ?run15)⟩
            case run15 =>
              simp [c60, lab60, findA, fr60, hx, hsl, Try.underlying9, Try.underlying5, Try.underlying35, eq_false hne, h7, w7, w1, e127, hsh.1, hor, eq_false h9, eq_false hbig, eq_true h0, eq_false hi1]
              rfl
            case props15 => exact ⟨rfl, rfl, rfl⟩

        · rw [if_neg (by omega)]
          refine ⟨?tm16, ?props16, Run.scope_end (by simp) (Run.step 40 fun k j => ?run16)⟩
          case run16 =>
            simp [c60, lab60, findA, fr60, hx, hsl, Try.underlying9, Try.underlying5, Try.underlying35, eq_false hne, h7, w7, w1, e127, hsh.1, hor, eq_false h9, eq_false hbig, eq_false h0]
            rfl
          case props16 => exact ⟨rfl, rfl, rfl⟩


end Go.Proofs.Ytpmoellbfgcefaa.AS
end
section
set_option autoImplicit false
set_option maxRecDepth 100000
set_option maxHeartbeats 1000000
namespace Go.Proofs.Ytpmoellbfgcefaa.AS
open Go Go.Proofs Go.RowKit Go.Proofs.Ytpmoellbfgcefaa.AS.V
theorem get_run {T : FuncId → Option AFunc} (hT : T 60 = prepFn Try.prog 60) (s : ByteArray) (hs : s.size ≤ 9223372036854775807) (h : Heap) : FRun Try.prog T 60 [.s (.string s)] h (.tp [.s (.int .u64 (gets s).1), .s (.string (gets s).2.1), .s (.int .i64 (gets s).2.2)], h) := by
  obtain ⟨tm', ⟨p1, p2, p3⟩, hr⟩ := run60 (T := T) s hs h s.size 0 0 (.s undef) (.s undef) (by omega) (by omega) (by omega) (by simp)
  apply FRun.of (hT.trans p60)
  · apply Run.seq
    · apply Run.step 5; intro k j
      simp
      exact ⟨rfl, rfl⟩
    · apply Run.scope_as (H := hr)
      intro r H
      apply Run.seq
      · apply Run.step 5; intro k j
        simp
        exact ⟨rfl, rfl⟩
      · apply Run.seq
        · apply Run.step 5; intro k j
          simp [forget]
          exact ⟨rfl, rfl⟩
        · exact Run.skip_l H
  · exact Or.inl rfl
  · simp [resAs, resA, p1, p2, p3, gets, tupA]

/-- What the numbers' reading is. -/
noncomputable def hkGet : List AV → Heap → Option (AV × Heap)
  | [.s (.string s)], h => if s.size ≤ 9223372036854775807 then some (.tp [.s (.int .u64 (gets s).1), .s (.string (gets s).2.1), .s (.int .i64 (gets s).2.2)], h) else none
  | _, _ => none
theorem hkGet_ok {T : FuncId → Option AFunc} (hm : Try.prog.follows .mixedOrders = true) (hT : TabOK Try.prog T) (h60 : T 60 = prepFn Try.prog 60) (hc : callable Try.prog 60 = true) : HookSound Try.prog 60 hkGet := by
  refine hookOf hm hT hc fun l h r he => ?_
  unfold hkGet at he
  split at he
  · rename_i s
    split at he
    · rename_i hs
      cases he
      exact ⟨_, get_run h60 s hs h, Drops.refl _ _⟩
    · cases he
  · cases he
end Go.Proofs.Ytpmoellbfgcefaa.AS
end
