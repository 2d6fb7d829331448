/- With another byte in its bytes, or in its sum, a frame is none: the law over the printed functions. -/
import Derived.Test.YtienpgbbjahadaaREv
import Derived.Test.YtienpgbbjahadaaPA26
namespace Go.Proofs.YtienpgbbjahadaaV
open Go.RowKit Go.Proofs.YtienpgbbjahadaaW.PrintWords Go.Proofs.YtienpgbbjahadaaW.PrintLast Go.Proofs.YtienpgbbjahadaaW.PrintMore Go.Proofs.Ytienpgbbjahadaa.PA
set_option linter.unusedVariables false

/-- A byte with another one over it: a byte, and not the same. -/
theorem xor8 {c b : Int} (hc : 0 ≤ c ∧ c ≤ 255) (hb : 0 ≤ b ∧ b ≤ 255) (hn : b ≠ 0) : (0 ≤ Go.bits .xor .u8 c b ∧ Go.bits .xor .u8 c b ≤ 255) ∧ Go.bits .xor .u8 c b ≠ c := by
  have e : Go.bits .xor .u8 c b = IntKind.u8.wrap ((BitVec.ofInt 8 c ^^^ BitVec.ofInt 8 b).toNat : Int) := rfl
  have hx := (BitVec.ofInt 8 c ^^^ BitVec.ofInt 8 b).isLt
  have e2 : Go.bits .xor .u8 c b = ((BitVec.ofInt 8 c ^^^ BitVec.ofInt 8 b).toNat : Int) := by
    rw [e, IntKind.wrap_u8]; omega
  refine ⟨by rw [e2]; omega, fun h => hn ?_⟩
  rw [e2] at h
  have hcN : (BitVec.ofInt 8 c).toNat = c.toNat := by rw [BitVec.toNat_ofInt]; congr 1; omega
  have hbN : (BitVec.ofInt 8 b).toNat = b.toNat := by rw [BitVec.toNat_ofInt]; congr 1; omega
  have h2 : BitVec.ofInt 8 c ^^^ BitVec.ofInt 8 b = BitVec.ofInt 8 c := by
    apply BitVec.eq_of_toNat_eq; rw [hcN]; omega
  have h3 : BitVec.ofInt 8 b = 0#8 := by
    have := congrArg (BitVec.ofInt 8 c ^^^ ·) h2
    simpa [← BitVec.xor_assoc] using this
  have h4 := congrArg BitVec.toNat h3
  rw [hbN] at h4
  have : (0#8).toNat = 0 := rfl
  omega

theorem set_range {l : List Int} (h : ∀ c ∈ l, 0 ≤ c ∧ c ≤ 255) {x : Int} (hx : 0 ≤ x ∧ x ≤ 255) (i : Nat) : ∀ c ∈ l.set i x, 0 ≤ c ∧ c ≤ 255 := by
  intro c hc
  rcases List.mem_or_eq_of_mem_set hc with h1 | rfl
  · exact h c h1
  · exact hx
theorem strOf_drop {l : List Int} (h : ∀ c ∈ l, 0 ≤ c ∧ c ≤ 255) (i j : Nat) (hj : j ≤ l.length) : (strOfNums l).extract i j = strOfNums ((l.take j).drop i) := by
  apply bytesOf_inj
  rw [bytesOf_extract _ _ _ (by rw [strOfNums_size]; exact hj), bytesOf_strOf h, bytesOf_strOf (fun c hc => h c (List.mem_of_mem_take (List.mem_of_mem_drop hc)))]

/-- The heart: of a number's bytes, its sum and its text, with another byte behind the number, none is told. -/
theorem nexts_turned {s : ByteArray} (hl : s.size ≤ 1048576) {i : Nat} {x : Int} (hx : 0 ≤ x ∧ x ≤ 255)
    (h1 : i < 4 + s.size) (hne : (fourL (U (crc (puts (s.size : Int) ++ s))) ++ bytesOf s)[i]? ≠ some x) :
    nexts (puts (s.size : Int) ++ strOfNums ((fourL (U (crc (puts (s.size : Int) ++ s))) ++ bytesOf s).set i x)) = (⟨#[]⟩, ⟨#[]⟩, 6) := by
  have hr : ∀ c ∈ fourL (U (crc (puts (s.size : Int) ++ s))) ++ bytesOf s, 0 ≤ c ∧ c ≤ 255 := by
    intro c hc
    rcases List.mem_append.1 hc with h | h
    · exact fourL_range _ c h
    · exact bytesOf_range _ c h
  have h4 : (fourL (U (crc (puts (s.size : Int) ++ s)))).length = 4 := rfl
  have hb := bytesOf_length s
  generalize hF : fourL (U (crc (puts (s.size : Int) ++ s))) = F at *
  have hg := gets_puts (n := (s.size : Int)) (by omega) (by omega) (strOfNums ((F ++ bytesOf s).set i x))
  have hsz : (strOfNums ((F ++ bytesOf s).set i x)).size = 4 + s.size := by rw [strOfNums_size, List.length_set, List.length_append, h4, hb]
  have hL : ((F ++ bytesOf s).set i x).length = 4 + s.size := by rw [List.length_set, List.length_append, h4, hb]
  have hr' := set_range hr hx i
  unfold nexts
  rw [hg]
  simp only [if_true, Int.toNat_natCast]
  rw [if_neg (by omega), if_neg (by rw [hsz]; omega), if_neg ?_]
  rw [strOf_drop hr' 4 (4 + s.size) (by omega), strOf_drop hr' 0 4 (by omega), List.drop_zero]
  intro hq
  have hq2 := congrArg bytesOf hq
  rw [bytesOf_four, bytesOf_strOf (fun c hc => hr' c (List.mem_of_mem_take hc)), List.take_of_length_le (i := 4 + s.size) (by omega)] at hq2
  by_cases hi : i < 4
  · have e1 : ((F ++ bytesOf s).set i x).drop 4 = bytesOf s := by
      rw [List.drop_set_of_lt hi, List.drop_append_of_le_length (by omega), List.drop_eq_nil_of_le (by omega), List.nil_append]
    have e2 : ((F ++ bytesOf s).set i x).take 4 = F.set i x := by
      rw [List.take_set, List.take_append_of_le_length (by omega), List.take_of_length_le (by omega)]
    rw [e1, e2, strOf_bytesOf, hF] at hq2
    apply hne
    rw [List.getElem?_append_left (by omega), hq2, List.getElem?_set_self (by omega)]
  · have e1 : ((F ++ bytesOf s).set i x).drop 4 = (bytesOf s).set (i - 4) x := by
      rw [List.drop_set, if_neg hi, List.drop_append_of_le_length (by omega), List.drop_eq_nil_of_le (by omega), List.nil_append]
    have e2 : ((F ++ bytesOf s).set i x).take 4 = F := by
      rw [List.take_set, List.take_append_of_le_length (by omega), List.take_of_length_le (by omega), List.set_eq_of_length_le (by omega)]
    rw [e1, e2, ← hF, ← bytesOf_four, ← bytesOf_four] at hq2
    have hq3 := not_inj (four_inj (bytesOf_inj hq2))
    have hj : i - 4 < (bytesOf s).length := by omega
    rw [bytesOf_append, bytesOf_append, bytesOf_strOf (set_range (bytesOf_range s) hx _), List.set_eq_take_append_cons_drop, if_pos hj] at hq3
    conv at hq3 => rhs; rw [← List.take_append_drop (i - 4) (bytesOf s), drop_cons_get _ _ hj]
    rw [← List.append_assoc, ← List.append_assoc] at hq3
    refine crc_turned hx (bytesOf_range s _ (List.getElem_mem hj)) ?_ _ hq3
    intro he
    apply hne
    rw [List.getElem?_append_right (by omega), h4, List.getElem?_eq_getElem hj, he]

theorem RecTurned_law : missivelaw02_RecTurned.Pure := by
  intro s at_ by_ hs ha hby
  have ha := wf_i64 ha
  have hby := wf_u8 hby
  refine Ev.rounds ?_
  unfold missivelaw02_RecTurned.f
  refine Ev.bind lives2_ev (Ev_if rfl ?_)
  refine Ev.bind (frame_ev s) ?_
  have hz := frames_size s
  by_cases h : (frames s).2 = 0
  · refine Ev_if h ?_
    by_cases h0 : by_ = 0
    · exact Ev_if h0 (Ev_const rfl)
    · refine Ev_ifn h0 ?_
      obtain ⟨hl, e⟩ := frames_ok h
      have hp := leb_length_le (n := (s.size : Int)) (by omega) (by omega)
      have hfs : (frames s).1.size = (puts (s.size : Int)).size + (4 + s.size) := by rw [e, ByteArray.size_append, ByteArray.size_append, four_size]; omega
      have hps := puts_size (s.size : Int)
      have hw : wrap64 (wrap64 (((frames s).1.size : Int) - (s.size : Int)) - 4) = ((puts (s.size : Int)).size : Int) := by
        rw [w64 (n := ((frames s).1.size : Int) - (s.size : Int)) (by omega) (by omega), w64 (by omega) (by omega)]; omega
      rw [hw]
      by_cases h1 : at_ < ((puts (s.size : Int)).size : Int)
      · exact Ev_if h1 (Ev_const rfl)
      · refine Ev_ifn h1 ?_
        by_cases h2 : at_ ≥ ((frames s).1.size : Int)
        · exact Ev_if h2 (Ev_const rfl)
        · refine Ev_ifn h2 (Ev_if (by omega) ?_)
          have hB : bytesOf (frames s).1 = leb (s.size : Int) ++ (fourL (U (crc (puts (s.size : Int) ++ s))) ++ bytesOf s) := by
            rw [e, bytesOf_append, bytesOf_append, bytesOf_puts (by omega) (by omega), bytesOf_four, List.append_assoc]
          have hi : at_.toNat < (frames s).1.size := by omega
          have hx := xor8 (bytesOf_range _ _ (List.getElem_mem (by rw [bytesOf_length]; exact hi))) hby h0
          rw [bytesOf_get _ _ hi, Int.toNat_of_nonneg (by omega)] at hx
          have ht : missivelaw02_RecTurned.turned (frames s).1 at_ by_ = puts (s.size : Int) ++ strOfNums ((fourL (U (crc (puts (s.size : Int) ++ s))) ++ bytesOf s).set (at_.toNat - (puts (s.size : Int)).size) (Go.bits .xor .u8 (bt (frames s).1 at_) by_)) := by
            unfold missivelaw02_RecTurned.turned
            rw [hB, List.set_append_right _ _ (by omega), strOf_append, hps]; rfl
          have hT : (missivelaw02_RecTurned.turned (frames s).1 at_ by_).size = (frames s).1.size := by
            unfold missivelaw02_RecTurned.turned
            rw [strOfNums_size, List.length_set, bytesOf_length]
          refine Ev.bind (next_ev _ (by rw [hT]; omega)) ?_
          have hne : (fourL (U (crc (puts (s.size : Int) ++ s))) ++ bytesOf s)[at_.toNat - (puts (s.size : Int)).size]? ≠ some (Go.bits .xor .u8 (bt (frames s).1 at_) by_) := by
            have hget : (bytesOf (frames s).1)[at_.toNat]? = some (bt (frames s).1 at_) := by
              rw [List.getElem?_eq_getElem (by rw [bytesOf_length]; exact hi), bytesOf_get _ _ hi, Int.toNat_of_nonneg (by omega)]
            rw [hB, List.getElem?_append_right (by omega)] at hget
            rw [hps, hget]
            intro hq
            exact hx.2 (Option.some.inj hq).symm
          rw [ht, nexts_turned hl hx.1 (by omega) hne]
          exact Ev_const (by simp only [empty_toList]; rfl)
  · exact Ev_ifn h (Ev_const rfl)
end Go.Proofs.YtienpgbbjahadaaV
