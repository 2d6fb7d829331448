/- What the printed functions of the numbers and lists come to. -/
import Derived.Test.YtienpgbbjahadaaV
import Derived.Test.YtienpgbbjahadaaPA1
import Derived.Test.YtienpgbbjahadaaPA2
import Derived.Test.YtienpgbbjahadaaPA3
import Derived.Test.YtienpgbbjahadaaPA4
import Derived.Test.YtienpgbbjahadaaPA5
namespace Go.Proofs.YtienpgbbjahadaaV
open Go.RowKit Go.Proofs.YtienpgbbjahadaaW.PrintWords Go.Proofs.YtienpgbbjahadaaW.PrintLast Go.Proofs.YtienpgbbjahadaaW.PrintMore Go.Proofs.Ytienpgbbjahadaa.PA
set_option linter.unusedVariables false

theorem Ev_const {α : Type} {g : Option α} {r : α} (h : g = some r) : Ev (fun _ => g) r := ⟨0, fun _ _ => h⟩
theorem Ev_if {α : Type} {c : Prop} [Decidable c] {f g : Nat → Option α} {r : α} (hc : c) (h : Ev f r) : Ev (fun k => if c then f k else g k) r := by
  simpa only [if_pos hc] using h
theorem Ev_ifn {α : Type} {c : Prop} [Decidable c] {f g : Nat → Option α} {r : α} (hc : ¬ c) (h : Ev g r) : Ev (fun k => if c then f k else g k) r := by
  simpa only [if_neg hc] using h
theorem Ev_one {α : Type} {g : Nat → Option α} {r : α} (h : ∀ k, g (k + 1) = some r) : Ev g r := Ev.step (f := fun _ => some r) h (Ev.now r)

/-! putting -/
theorem put_ref_l : ∀ n, 0 ≤ n → n ≤ 18446744073709551615 → ∀ acc : List Int, acc.length + (leb n).length ≤ 140737488355328 → Ev (fun k => missiveref01_Put.l0 k n acc) (strOfNums (acc ++ leb n)) := by
  apply leb_ind (P := fun n => ∀ acc : List Int, acc.length + (leb n).length ≤ 140737488355328 → Ev (fun k => missiveref01_Put.l0 k n acc) (strOfNums (acc ++ leb n)))
  · intro n h0 h acc hl
    rw [leb_lt h] at hl ⊢
    refine Ev_one fun k => ?_
    simp only [missiveref01_Put.l0]
    simp only [List.length_singleton] at hl
    rw [if_neg (by omega), if_pos (by omega), show n % 256 = n by omega]
  · intro n h h1 ih acc hl
    rw [leb_ge h h1] at hl ⊢
    simp only [List.length_cons] at hl
    refine Ev.step (f := fun k => missiveref01_Put.l0 k (n / 128) (acc ++ [n % 128 + 128])) (fun k => ?_) ?_
    · simp only [missiveref01_Put.l0]
      rw [if_pos (by omega), if_pos (by omega), Int.tdiv_eq_ediv_of_nonneg (by omega), Int.tmod_eq_emod_of_nonneg (by omega), wu64 (by omega) (by omega), show (n % 128 + 128) % 256 = n % 128 + 128 by omega]
    · have := ih (acc ++ [n % 128 + 128]) (by simp; omega)
      simpa using this
theorem put_ref {n : Int} (h0 : 0 ≤ n) (h1 : n ≤ 18446744073709551615) : Ev (fun k => missiveref01_Put.f k n) (puts n) := by
  have := put_ref_l n h0 h1 [] (by have := leb_length_le h0 h1; simp; omega)
  simpa [missiveref01_Put.f, puts] using this

theorem or128 : ∀ m : Fin 256, Go.bits .or .u8 ((m.val : Nat) : Int) 128 = ((m.val % 128 + 128 : Nat) : Int) := by decide +kernel
theorem or128' (n : Int) : Go.bits .or .u8 (n % 256) 128 = n % 128 + 128 := by
  have := or128 ⟨(n % 256).toNat, by omega⟩
  simp only at this
  rw [show (((n % 256).toNat : Nat) : Int) = n % 256 by omega] at this
  rw [this]; omega
theorem append_l : ∀ n, 0 ≤ n → n ≤ 18446744073709551615 → ∀ acc : List Int, acc.length + (leb n).length ≤ 140737488355328 → Ev (fun k => vari_Append.l0 k acc n) (acc ++ leb n) := by
  apply leb_ind (P := fun n => ∀ acc : List Int, acc.length + (leb n).length ≤ 140737488355328 → Ev (fun k => vari_Append.l0 k acc n) (acc ++ leb n))
  · intro n h0 h acc hl
    rw [leb_lt h] at hl ⊢
    refine Ev_one fun k => ?_
    simp only [vari_Append.l0]
    simp only [List.length_singleton] at hl
    rw [if_neg (by omega), if_pos (by omega), show n % 256 = n by omega]
  · intro n h h1 ih acc hl
    rw [leb_ge h h1] at hl ⊢
    simp only [List.length_cons] at hl
    refine Ev.step (f := fun k => vari_Append.l0 k (acc ++ [n % 128 + 128]) (n / 128)) (fun k => ?_) ?_
    · simp only [vari_Append.l0]
      rw [if_pos (by omega), if_pos (by omega), or128']
    · have := ih (acc ++ [n % 128 + 128]) (by simp; omega)
      simpa using this
theorem append_ev {n : Int} (h0 : 0 ≤ n) (h1 : n ≤ 18446744073709551615) (acc : List Int) (h : acc.length ≤ 140737488355000) : Ev (fun k => vari_Append.f k acc n) (acc ++ leb n) := by
  have := append_l n h0 h1 acc (by have := leb_length_le h0 h1; omega)
  simpa [vari_Append.f] using this
theorem put_ev {n : Int} (h0 : 0 ≤ n) (h1 : n ≤ 18446744073709551615) : Ev (fun k => vari_Put.f k n) (puts n) := by
  unfold vari_Put.f
  refine Ev.bind (append_ev h0 h1 [] (by simp)) ?_
  simpa [puts] using Ev.now _
theorem size_eq {n : Int} (h0 : 0 ≤ n) (h1 : n ≤ 18446744073709551615) : vari_Size.f n = some ((leb n).length : Int) := by
  unfold vari_Size.f bits_Len64.f
  rw [if_pos h0, if_pos h1]
  simp only [Option.bind_some]
  have e := leb_length_bits n h0 h1
  have b := bitLen_le64 n.toNat (by omega)
  have m : mx 1 (Lib.bitLen n.toNat : Int) = ((max 1 (Lib.bitLen n.toNat) : Nat) : Int) := by
    unfold mx; split <;> omega
  rw [m, w64 (n := _ + 7) (by omega) (by omega), w64 (n := _ - 1) (by omega) (by omega), Int.tdiv_eq_ediv_of_nonneg (by omega), w64 (by omega) (by omega), e]
  congr 1
  omega
theorem size_ref {n : Int} (h0 : 0 ≤ n) (h1 : n ≤ 18446744073709551615) : Ev (fun k => missiveref01_Size.f k n) ((leb n).length : Int) := by
  unfold missiveref01_Size.f
  refine Ev.bind (put_ref h0 h1) ?_
  rw [puts_size]
  exact Ev.now _

/-! getting -/
def res (g : Int × List Int × Int) : Int × ByteArray × Int := (g.1, strOfNums g.2.1, g.2.2)
theorem i9 {i : Nat} (h : i ≤ 9) : i = 0 ∨ i = 1 ∨ i = 2 ∨ i = 3 ∨ i = 4 ∨ i = 5 ∨ i = 6 ∨ i = 7 ∨ i = 8 ∨ i = 9 := by omega
theorem shl_at {i : Nat} (hi : i ≤ 9) {y : Int} (h0 : 0 ≤ y) (h1 : y < 128) (h9 : i = 9 → y ≤ 1) (z : Int) (hz : z = 7 * (i : Int)) : shl .u64 y z = y * 128 ^ i ∧ 0 ≤ y * 128 ^ i ∧ y * 128 ^ i + 128 ^ i ≤ 18446744073709551616 := by
  subst hz
  unfold shl
  rcases i9 hi with rfl | rfl | rfl | rfl | rfl | rfl | rfl | rfl | rfl | rfl
  all_goals
    try have h9 := h9 rfl
    simp only [IntKind.bits]
    refine ⟨?_, ?_, ?_⟩
    · rw [wu64 (by simp; omega) (by simp; omega)]; simp
    · simp; omega
    · simp; omega
theorem wu64_in {n : Int} (h0 : 0 ≤ n) (h1 : n < 2 ^ 64) : IntKind.u64.wrap n = n := wu64 h0 (by simp at h1; omega)
theorem or_at {i : Nat} (hi : i ≤ 9) {y acc : Int} (h0 : 0 ≤ y) (h1 : y < 128) (h9 : i = 9 → y ≤ 1) (ha : 0 ≤ acc) (hb : acc < 128 ^ i) : Go.bits .or .u64 acc (y * 128 ^ i) = acc + y * 128 ^ i := by
  obtain ⟨_, hn, hm⟩ := shl_at hi h0 h1 h9 _ rfl
  have p : (2 : Int) ^ (7 * i) = 128 ^ i := by
    rw [Int.pow_mul, show (2 : Int) ^ 7 = 128 from rfl]
  have comm : Go.bits .or .u64 acc (y * 128 ^ i) = Go.bits .or .u64 (y * 128 ^ i) acc := by
    unfold Go.bits
    simp only [BitVec.or_comm]
  rw [comm, bits_join .u64 64 (by decide) (fun n a b => wu64_in a b) (7 * i) (y * 128 ^ i) acc hn (by rw [p]; exact Int.mul_emod_left ..) (by simp; omega) ha (by rw [p]; exact hb) (by simp; omega)]
  omega
theorem and127 : ∀ m : Fin 256, IntKind.u64.wrap (Go.bits .and .u8 ((m.val : Nat) : Int) 127) = ((m.val % 128 : Nat) : Int) := by decide +kernel
theorem and127' {c : Int} (h0 : 0 ≤ c) (h1 : c ≤ 255) : IntKind.u64.wrap (Go.bits .and .u8 c 127) = c % 128 := by
  have := and127 ⟨c.toNat, by omega⟩
  simp only at this
  rw [show ((c.toNat : Nat) : Int) = c by omega] at this
  rw [this]; omega
theorem mod128 {c : Int} (h0 : 0 ≤ c) (h1 : c ≤ 255) : IntKind.u64.wrap (Int.tmod c 128) = c % 128 := by
  rw [Int.tmod_eq_emod_of_nonneg h0, wu64 (by omega) (by omega)]

theorem acc_next {i : Nat} (hi : i ≤ 9) {y acc : Int} (h0 : 0 ≤ y) (h1 : y < 128) (ha : 0 ≤ acc) (hb : acc < 128 ^ i) : 0 ≤ acc + y * 128 ^ i ∧ acc + y * 128 ^ i < 128 ^ (i + 1) := by
  have p := p128_pos i
  have q : 0 ≤ y * 128 ^ i := Int.mul_nonneg h0 (by omega)
  have q2 : y * 128 ^ i ≤ 127 * 128 ^ i := Int.mul_le_mul_of_nonneg_right (by omega) (by omega)
  rw [Int.pow_succ]
  omega

theorem get_l (s : ByteArray) (hs : s.size ≤ 9223372036854775807) : ∀ (d i : Nat) (acc : Int), i + d = s.size → i ≤ 9 → 0 ≤ acc → acc < 128 ^ i →
    Ev (fun k => vari_Get.l100 k s acc (i : Int)) (res (G ((bytesOf s).drop i) i acc)) := by
  intro d
  induction d with
  | zero =>
    intro i acc hd hi ha hb
    refine Ev_one fun k => ?_
    simp only [vari_Get.l100]
    rw [if_pos (by omega), List.drop_eq_nil_of_le (by rw [bytesOf_length]; omega)]
    rfl
  | succ d ih =>
    intro i acc hd hi ha hb
    have hlt : i < s.size := by omega
    have hc := bt_range s (i : Int)
    rw [bytesOf_drop_cons s i hlt]
    generalize hcv : bt s (i : Int) = c at hc
    refine Ev.step (f := fun k => vari_Get.j1 k s acc i c (decide (i = 9 ∧ c > 1))) (fun k => ?_) ?_
    · simp only [vari_Get.l100, hcv]
      rw [if_neg (by omega), if_pos (by omega), if_pos (by omega)]
      by_cases h9 : i = 9
      · rw [if_pos (by omega)]; simp [h9]
      · rw [if_neg (by omega)]; simp [h9]
    · rw [G]
      by_cases hbad : i = 9 ∧ c > 1
      · rw [if_pos hbad]
        refine Ev_one fun k => ?_
        simp only [vari_Get.j1]
        rw [if_pos (by simpa using hbad)]
        rfl
      · rw [if_neg hbad]
        have w7 : wrap64 (7 * (i : Int)) = 7 * (i : Int) := w64 (by omega) (by omega)
        have w1 : wrap64 ((i : Int) + 1) = ((i + 1 : Nat) : Int) := by rw [w64 (by omega) (by omega)]; rfl
        have y0 : 0 ≤ c % 128 := by omega
        have y1 : c % 128 < 128 := by omega
        have y9 : i = 9 → c % 128 ≤ 1 := fun h => by omega
        have hsh := shl_at hi y0 y1 y9 (7 * (i : Int)) rfl
        have hor := or_at hi y0 y1 y9 ha hb
        have hn := acc_next hi y0 y1 ha hb
        by_cases hbig : c ≥ 128
        · rw [if_pos hbig]
          have i9 : i < 9 := by omega
          refine Ev.step (f := fun k => vari_Get.l100 k s (acc + (c - 128) * 128 ^ i) ((i + 1 : Nat) : Int)) (fun k => ?_) ?_
          · simp only [vari_Get.j1]
            rw [if_neg (by simpa using hbad), w7, if_pos (by omega), if_pos hbig, w1, and127' hc.1 hc.2, hsh.1, hor, show c % 128 = c - 128 by omega]
          · rw [show c % 128 = c - 128 by omega] at hn
            exact ih (i + 1) _ (by omega) (by omega) hn.1 hn.2
        · rw [if_neg hbig]
          have hx : s.extract (i + 1) s.size = strOfNums ((bytesOf s).drop (i + 1)) := extract_eq_strOf s (i + 1) (by omega)
          refine Ev_one fun k => ?_
          simp only [vari_Get.j1]
          rw [if_neg (by simpa using hbad), w7, if_pos (by omega), if_neg hbig, w1, and127' hc.1 hc.2, hsh.1, hor, show c % 128 = c by omega]
          by_cases h0 : c = 0
          · rw [if_pos h0]
            by_cases hi0 : 0 < i
            · rw [if_pos (by omega), if_pos ⟨h0, hi0⟩]; rfl
            · rw [if_neg (by omega), if_pos (by omega), if_pos (by omega), if_neg (by omega), Int.toNat_natCast, hx]; rfl
          · rw [if_neg h0, if_pos (by omega), if_pos (by omega), if_neg (by omega), Int.toNat_natCast, hx]; rfl
theorem get_ev (s : ByteArray) (hs : s.size ≤ 9223372036854775807) : Ev (fun k => vari_Get.f k s) (gets s) := by
  have := get_l s hs s.size 0 0 (by omega) (by omega) (by omega) (by simp)
  simpa [vari_Get.f, gets, res] using this

theorem get_ref_l (s : ByteArray) (hs : s.size ≤ 9223372036854775807) : ∀ (d i : Nat) (acc : Int), i + d = s.size → i ≤ 9 → 0 ≤ acc → acc < 128 ^ i →
    (∀ m, 0 < m → acc + m * 128 ^ i ≤ 18446744073709551615 → leb (acc + m * 128 ^ i) = (bytesOf s).take i ++ leb m) →
    Ev (fun k => missiveref01_Get.l0 k s acc (i : Int)) (res (G ((bytesOf s).drop i) i acc)) := by
  intro d
  induction d with
  | zero =>
    intro i acc hd hi ha hb hp
    refine Ev_one fun k => ?_
    simp only [missiveref01_Get.l0]
    rw [if_neg (by omega), List.drop_eq_nil_of_le (by rw [bytesOf_length]; omega)]
    rfl
  | succ d ih =>
    intro i acc hd hi ha hb hp
    have hlt : i < s.size := by omega
    have hc := bt_range s (i : Int)
    rw [bytesOf_drop_cons s i hlt]
    have htk : (bytesOf s).take (i + 1) = (bytesOf s).take i ++ [bt s (i : Int)] := by
      rw [List.take_succ_eq_append_getElem (by rw [bytesOf_length]; exact hlt), bytesOf_get s i hlt]
    generalize hcv : bt s (i : Int) = c at hc htk
    refine Ev.step (f := fun k => missiveref01_Get.j1 k s acc i (decide (i = 9 ∧ c > 1))) (fun k => ?_) ?_
    · simp only [missiveref01_Get.l0, hcv]
      rw [if_pos (by omega)]
      by_cases h9 : i = 9
      · rw [if_pos (by omega), if_pos (by omega)]; simp [h9]
      · rw [if_neg (by omega)]; simp [h9]
    · rw [G]
      by_cases hbad : i = 9 ∧ c > 1
      · rw [if_pos hbad]
        refine Ev_one fun k => ?_
        simp only [missiveref01_Get.j1]
        rw [if_pos (by simpa using hbad)]
        rfl
      · rw [if_neg hbad]
        have w7 : IntKind.u64.wrap (wrap64 (7 * (i : Int))) = 7 * (i : Int) := by rw [w64 (by omega) (by omega), wu64 (by omega) (by omega)]
        have w1 : wrap64 ((i : Int) + 1) = ((i + 1 : Nat) : Int) := by rw [w64 (by omega) (by omega)]; rfl
        have y0 : 0 ≤ c % 128 := by omega
        have y1 : c % 128 < 128 := by omega
        have y9 : i = 9 → c % 128 ≤ 1 := fun h => by omega
        have hsh := shl_at hi y0 y1 y9 (7 * (i : Int)) rfl
        have hn := acc_next hi y0 y1 ha hb
        have hw : IntKind.u64.wrap (acc + c % 128 * 128 ^ i) = acc + c % 128 * 128 ^ i := wu64 hn.1 (by omega)
        by_cases hbig : c ≥ 128
        · rw [if_pos hbig]
          have i9 : i < 9 := by omega
          refine Ev.step (f := fun k => missiveref01_Get.l0 k s (acc + (c - 128) * 128 ^ i) ((i + 1 : Nat) : Int)) (fun k => ?_) ?_
          · simp only [missiveref01_Get.j1, hcv]
            rw [if_neg (by simpa using hbad), w7, if_pos (by omega), if_pos (by omega), if_pos (by omega), if_pos (by omega), w1, mod128 hc.1 hc.2, hsh.1, hw, show c % 128 = c - 128 by omega]
          · rw [show c % 128 = c - 128 by omega] at hn
            refine ih (i + 1) _ (by omega) (by omega) hn.1 hn.2 ?_
            intro m hm hle
            have e : acc + (c - 128) * 128 ^ i + m * 128 ^ (i + 1) = acc + (c - 128 + 128 * m) * 128 ^ i := by
              rw [Int.pow_succ, Int.add_mul, Int.add_assoc]
              congr 2
              rw [Int.mul_comm 128 m, Int.mul_assoc, Int.mul_comm 128]
            have hm2 : c - 128 + 128 * m ≤ 18446744073709551615 := by
              have p := p128_pos i
              have : (c - 128 + 128 * m) * 1 ≤ (c - 128 + 128 * m) * 128 ^ i := Int.mul_le_mul_of_nonneg_left (by omega) (by omega)
              rw [e] at hle
              omega
            rw [e] at hle ⊢
            rw [hp _ (by omega) hle, leb_ge (by omega) hm2, htk, show (c - 128 + 128 * m) % 128 + 128 = c by omega, show (c - 128 + 128 * m) / 128 = m by omega]
            simp
        · rw [if_neg hbig]
          have hx : s.extract (i + 1) s.size = strOfNums ((bytesOf s).drop (i + 1)) := extract_eq_strOf s (i + 1) (by omega)
          have hx0 : bytesOf (s.extract 0 (i + 1)) = (bytesOf s).take i ++ [c] := by rw [bytesOf_extract s 0 (i + 1) (by omega), List.drop_zero, htk]
          rw [show c % 128 = c by omega] at hn hw hsh
          have hv : acc + c * 128 ^ i ≤ 18446744073709551615 := by
            have := hsh.2.2
            omega
          refine Ev.step (f := fun k => (missiveref01_Put.f k (acc + c * 128 ^ i)).bind fun t => if t.toList = (s.extract 0 (i + 1)).toList then some (acc + c * 128 ^ i, s.extract (i + 1) s.size, 0) else some (0, ⟨#[]⟩, 7)) (fun k => ?_) ?_
          · simp only [missiveref01_Get.j1, hcv]
            rw [if_neg (by simpa using hbad), w7, if_pos (by omega), if_pos (by omega), if_pos (by omega), if_neg (by omega), w1, mod128 hc.1 hc.2, show c % 128 = c by omega, hsh.1, hw]
            congr 1
            funext t
            rw [if_pos (by omega), if_pos (by omega), Int.toNat_natCast]
          · refine Ev.bind (put_ref hn.1 hv) ?_
            by_cases h0 : c = 0 ∧ 0 < i
            · rw [if_pos h0]
              refine Ev_const ?_
              rw [if_neg]
              · rfl
              · intro he
                have := congrArg List.length (congrArg bytesOf (toList_inj he))
                rw [hx0, bytesOf_puts hn.1 hv] at this
                obtain ⟨rfl, hi0⟩ := h0
                obtain ⟨j, rfl⟩ : ∃ j, i = j + 1 := ⟨i - 1, by omega⟩
                rw [Int.zero_mul, Int.add_zero] at this
                have h3 := (leb_length_few acc ha (by omega) j).mpr hb
                rw [List.length_append, List.length_take, bytesOf_length] at this
                simp at this
                omega
            · rw [if_neg h0]
              refine Ev_const ?_
              rw [if_pos, hx]
              · rfl
              · congr 1
                apply bytesOf_inj
                rw [hx0, bytesOf_puts hn.1 hv]
                by_cases hc0 : c = 0
                · obtain rfl : i = 0 := by omega
                  subst hc0
                  simp at hb
                  obtain rfl : acc = 0 := by omega
                  simp [leb_lt]
                · rw [hp c (by omega) hv, leb_lt (by omega)]
theorem get_ref (s : ByteArray) (hs : s.size ≤ 9223372036854775807) : Ev (fun k => missiveref01_Get.f k s) (gets s) := by
  have := get_ref_l s hs s.size 0 0 (by omega) (by omega) (by omega) (by simp) (by intro m _ _; simp)
  simpa [missiveref01_Get.f, gets, res] using this

theorem numbers_ev : Ev (fun k => missivelaw01_numbers.f k) true := Ev.of (fun k => missivelaw01_numbers.mono k) (k := 30) (by decide +kernel)
end Go.Proofs.YtienpgbbjahadaaV
