/- Of our own: an abstract machine beside the model, its soundness, and walks of the program in it. -/
import Derived.Test.YtpmoellbfgcefaaA13
import Derived.Test.YtpmoellbfgcefaaA7
import Derived.Test.YtpmoellbfgcefaaA8
set_option linter.unusedSimpArgs false
set_option linter.unusedVariables false
section
set_option autoImplicit false
namespace Go.Proofs.Ytpmoellbfgcefaa.AS
open Go Go.Proofs Go.RowKit Go.Proofs.Ytpmoellbfgcefaa.AS.V
theorem i9 {i : Nat} (h : i ≤ 9) : i = 0 ∨ i = 1 ∨ i = 2 ∨ i = 3 ∨ i = 4 ∨ i = 5 ∨ i = 6 ∨ i = 7 ∨ i = 8 ∨ i = 9 := by omega
theorem shl_at {i : Nat} (hi : i ≤ 9) {y : Int} (h0 : 0 ≤ y) (h1 : y < 128) (h9 : i = 9 → y ≤ 1) : IntKind.u64.wrap (y * 2 ^ (min (7 * (i : Int)).toNat IntKind.u64.bits)) = y * 128 ^ i ∧ 0 ≤ y * 128 ^ i ∧ y * 128 ^ i + 128 ^ i ≤ 18446744073709551616 := by
  rcases i9 hi with rfl | rfl | rfl | rfl | rfl | rfl | rfl | rfl | rfl | rfl
  all_goals
    try have h9 := h9 rfl
    simp only [IntKind.bits]
    refine ⟨?_, ?_, ?_⟩
    · rw [wu64 (by simp; omega) (by simp; omega)]; simp
    · simp; omega
    · simp; omega
theorem wu64_in {n : Int} (h0 : 0 ≤ n) (h1 : n < 2 ^ 64) : IntKind.u64.wrap n = n := wu64 h0 (by simp at h1; omega)
theorem or_at {i : Nat} (hi : i ≤ 9) {y acc : Int} (h0 : 0 ≤ y) (h1 : y < 128) (h9 : i = 9 → y ≤ 1) (ha : 0 ≤ acc) (hb : acc < 128 ^ i) : Go.bits .or .u64 acc (y * 128 ^ i) = acc + y * 128 ^ i := by
  obtain ⟨_, hn, hm⟩ := shl_at hi h0 h1 h9
  have p : (2 : Int) ^ (7 * i) = 128 ^ i := by
    rw [Int.pow_mul, show (2 : Int) ^ 7 = 128 from rfl]
  have comm : Go.bits .or .u64 acc (y * 128 ^ i) = Go.bits .or .u64 (y * 128 ^ i) acc := by
    unfold Go.bits
    simp only [BitVec.or_comm]
  rw [comm, bits_join .u64 64 (by decide) (fun n a b => wu64_in a b) (7 * i) (y * 128 ^ i) acc hn (by rw [p]; exact Int.mul_emod_left ..) (by simp; omega) ha (by rw [p]; exact hb) (by simp; omega)]
  omega
theorem and127 : ∀ m : Fin 256, IntKind.u64.wrap (Go.bits .and .u8 ((m.val : Nat) : Int) 127) = ((m.val % 128 : Nat) : Int) := by decide +kernel
theorem and127' {c : Int} (h0 : 0 ≤ c) (h1 : c ≤ 255) : IntKind.u64.wrap (Go.bits .and .u8 c 127) = c % 128 := by
  have := and127 ⟨c.toNat, by omega⟩
  simp only at this
  rw [show ((c.toNat : Nat) : Int) = c by omega] at this
  rw [this]; omega
theorem mod128 {c : Int} (h0 : 0 ≤ c) (h1 : c ≤ 255) : IntKind.u64.wrap (Int.tmod c 128) = c % 128 := by
  rw [Int.tmod_eq_emod_of_nonneg h0, wu64 (by omega) (by omega)]
theorem acc_next {i : Nat} (hi : i ≤ 9) {y acc : Int} (h0 : 0 ≤ y) (h1 : y < 128) (ha : 0 ≤ acc) (hb : acc < 128 ^ i) : 0 ≤ acc + y * 128 ^ i ∧ acc + y * 128 ^ i < 128 ^ (i + 1) := by
  have p := p128_pos i
  have q : 0 ≤ y * 128 ^ i := Int.mul_nonneg h0 (by omega)
  have q2 : y * 128 ^ i ≤ 127 * 128 ^ i := Int.mul_le_mul_of_nonneg_right (by omega) (by omega)
  rw [Int.pow_succ]
  omega
theorem bt_range (s : ByteArray) (i : Int) : 0 ≤ bt s i ∧ bt s i ≤ 255 := by
  unfold bt
  split
  · rename_i h
    have := (s[i.toNat]'h).toNat_lt
    omega
  · omega
theorem ix_bt {P : Program} {t : TypeId} (h : P.underlying t = some .string) (s : ByteArray) (k : IntKind) (i : Nat) (h1 : i < s.size) :
    ix2 P t (some (.s (.string s))) (some (.s (.int k (i : Int)))) = some (.s (.int .u8 (bt s (i : Int)))) := by
  rw [ix_str h s k i (by omega) (by omega)]
  unfold bt
  rw [dif_pos (by simpa using h1)]
theorem w64k {n : Int} (h0 : -9223372036854775808 ≤ n) (h1 : n ≤ 9223372036854775807) : IntKind.i64.wrap n = n := by
  have : IntKind.i64.wrap n = wrap64 n := by unfold IntKind.wrap wrap64; simp [IntKind.bits, IntKind.signed, IntKind.min, IntKind.max] <;> omega
  rw [this, w64 h0 h1]
end Go.Proofs.Ytpmoellbfgcefaa.AS
end
section
set_option autoImplicit false
set_option maxRecDepth 100000
set_option maxHeartbeats 1000000

namespace Go.Proofs.Ytpmoellbfgcefaa.AS
open Go Go.Proofs Go.RowKit Go.Proofs.Ytpmoellbfgcefaa.AS.V

def fr60 (s : ByteArray) (a1 : AV) (acc i : Int) (a7 : AV) : List AV := [.s (.string s), a1, .any, .any, .any, .s (.int .u64 acc), .s (.int .i64 i), a7] ++ List.replicate 35 .any
noncomputable def lab60 : ACode := match c60 with
  | .seq _ (.scope _ b _) => (findA b 0).getD .skip
  | _ => .skip
noncomputable def scp60 : ACode → ACode := match c60 with
  | .seq _ (.scope fg b _) => fun c => .scope fg b c
  | _ => id

theorem run60 {T : FuncId → Option AFunc} (s : ByteArray) (hs : s.size ≤ 9223372036854775807) (h : Heap) : ∀ (d i : Nat) (acc : Int) (a1 a7 : AV), i + d = s.size → i ≤ 9 → 0 ≤ acc → acc < 128 ^ i →
    ∃ tm', (tm'[2]? = some (.s (.int .u64 (G ((bytesOf s).drop i) i acc).1)) ∧ tm'[3]? = some (.s (.string (strOfNums (G ((bytesOf s).drop i) i acc).2.1))) ∧ tm'[4]? = some (.s (.int .i64 (G ((bytesOf s).drop i) i acc).2.2))) ∧
      Run Try.prog T (scp60 lab60) (fr60 s a1 acc i a7) h (.ret, tm', h) := by
  intro d
  induction d with
  | zero =>
    intro i acc a1 a7 hd hi ha hb
    rw [List.drop_eq_nil_of_le (by rw [bytesOf_length]; omega)]
    refine ⟨?tm1, ?props1, Run.scope_end (by simp) (Run.step 30 fun k j => ?run1)⟩
    case run1 =>
      simp [c60, lab60, findA, fr60, Try.underlying9, Try.underlying5, Try.underlying35, Try.underlying3, show (i : Int) = s.size by omega]
      rfl
    case props1 => exact ⟨rfl, rfl, rfl⟩
  | succ d ih =>
    intro i acc a1 a7 hd hi ha hb
    have hlt : i < s.size := by omega
    have hc := bt_range s (i : Int)
    have hx := fun t h => ix_bt (P := Try.prog) (t := t) h s .i64 i hlt
    rw [bytesOf_drop_cons s i hlt]
    generalize hcv : bt s (i : Int) = c at hc hx
    have e127 : IntKind.u64.wrap (Go.bits .and .u8 c 127) = c % 128 := and127' hc.1 hc.2
    have hne : ¬ ((i : Int) = s.size) := by omega
    have w7 : IntKind.i64.wrap (7 * (i : Int)) = 7 * (i : Int) := w64k (by omega) (by omega)
    have w1 : IntKind.i64.wrap ((i : Int) + 1) = (i : Int) + 1 := w64k (by omega) (by omega)
    have h7 : (0 : Int) ≤ 7 * (i : Int) := by omega
    have hx' : s.extract (i + 1) s.size = strOfNums ((bytesOf s).drop (i + 1)) := extract_eq_strOf s (i + 1) (by omega)
    have hsl : ∀ t, Try.prog.underlying t = some .string → slS Try.prog t (some (.s (.string s))) (some (some (.s (.int .i64 ((i : Int) + 1))))) none = some (.s (.string (strOfNums ((bytesOf s).drop (i + 1))))) := fun t h => by
      rw [sl_lo h s .i64 ((i : Int) + 1) (by omega) (by omega), show ((i : Int) + 1).toNat = i + 1 by omega, hx']
    rw [G]
    by_cases hbad : i = 9 ∧ c > 1
    · rw [if_pos hbad]
      have h9 : (i : Int) = 9 := by omega
      have h1 : 1 < c := hbad.2
      refine ⟨?tm2, ?props2, Run.scope_end (by simp) (Run.step 30 fun k j => ?run2)⟩
      case run2 =>
        simp [c60, lab60, findA, fr60, hx, Try.underlying9, eq_false hne, eq_true h9, eq_true h1]
        rfl
      case props2 => exact ⟨rfl, rfl, rfl⟩
    rw [if_neg hbad]
    have hsh := shl_at hi (y := c % 128) (by omega) (by omega) (fun h => by omega)
    have hor := or_at hi (y := c % 128) (by omega) (by omega) (fun h => by omega) ha hb
    have hn := acc_next hi (y := c % 128) (by omega) (by omega) ha hb
    by_cases hbig : 128 ≤ c
    · rw [if_pos (by omega)]
      have h9 : ¬ ((i : Int) = 9) := by omega
      obtain ⟨tm', hp, hr⟩ := ih (i + 1) (acc + (c - 128) * 128 ^ i) a1 (.s (.int .u8 c)) (by omega) (by omega) (by rw [show c % 128 = c - 128 by omega] at hn; exact hn.1) (by rw [show c % 128 = c - 128 by omega] at hn; exact hn.2)
      refine ⟨tm', hp, Run.scope_goto_f (tm' := ?tm3) (h' := h) (l := 0) (Run.step 30 fun k j => ?run3) rfl ?fg3 hr⟩
      case run3 =>
        simp [c60, lab60, findA, fr60, hx, Try.underlying9, Try.underlying5, Try.underlying35, eq_false hne, eq_false h9, h7, w7, w1, e127, hsh.1, hor, hbig]
        rfl
      case fg3 => simp [forget, fr60, show c % 128 = c - 128 by omega]
    · by_cases h9 : (i : Int) = 9
      · have h1 : ¬ 1 < c := by omega
        rw [if_neg (by omega)]
        rw [show c % 128 = c by omega] at e127 hsh hor
        by_cases h0 : c = 0
        · by_cases hi0 : 0 < i
          · rw [if_pos ⟨h0, hi0⟩]
            have hi1 : (1 : Int) < (i : Int) + 1 := by omega
            refine ⟨?tm11, ?props11, Run.scope_end (by simp) (Run.step 40 fun k j => ?run11)⟩
            case run11 =>
              simp [c60, lab60, findA, fr60, hx, hsl, Try.underlying9, Try.underlying5, Try.underlying35, eq_false hne, h7, w7, w1, e127, hsh.1, hor, eq_true h9, eq_false h1, eq_false hbig, eq_true h0, eq_true hi1]
              rfl
            case props11 => exact ⟨rfl, rfl, rfl⟩

          · rw [if_neg (by omega)]
            have hi1 : ¬ (1 : Int) < (i : Int) + 1 := by omega
            refine ⟨?tm12, ?props12, Run.scope_end (by simp) (Run.step 40 fun k j => ?run12)⟩
            case run12 =>
              simp [c60, lab60, findA, fr60, hx, hsl, Try.underlying9, Try.underlying5, Try.underlying35, eq_false hne, h7, w7, w1, e127, hsh.1, hor, eq_true h9, eq_false h1, eq_false hbig, eq_true h0, eq_false hi1]
              rfl
            case props12 => exact ⟨rfl, rfl, rfl⟩

        · rw [if_neg (by omega)]
          refine ⟨?tm13, ?props13, Run.scope_end (by simp) (Run.step 40 fun k j => ?run13)⟩
          case run13 =>
            simp [c60, lab60, findA, fr60, hx, hsl, Try.underlying9, Try.underlying5, Try.underlying35, eq_false hne, h7, w7, w1, e127, hsh.1, hor, eq_true h9, eq_false h1, eq_false hbig, eq_false h0]
            rfl
          case props13 => exact ⟨rfl, rfl, rfl⟩


      · rw [if_neg (by omega)]
        rw [show c % 128 = c by omega] at e127 hsh hor
        by_cases h0 : c = 0
        · by_cases hi0 : 0 < i
          · rw [if_pos ⟨h0, hi0⟩]
            have hi1 : (1 : Int) < (i : Int) + 1 := by omega
            refine ⟨?tm14, ?props14, Run.scope_end (by simp) (Run.step 40 fun k j => ?run14)⟩
            case run14 =>
              simp [c60, lab60, findA, fr60, hx, hsl, Try.underlying9, Try.underlying5, Try.underlying35, eq_false hne, h7, w7, w1, e127, hsh.1, hor, eq_false h9, eq_false hbig, eq_true h0, eq_true hi1]
              rfl
            case props14 => exact ⟨rfl, rfl, rfl⟩

          · rw [if_neg (by omega)]
            have hi1 : ¬ (1 : Int) < (i : Int) + 1 := by omega
            refine ⟨?tm15, ?props15, Run.scope_end (by simp) (Run.step 40 fun k j => ?run15)⟩
            case run15 =>
              simp [c60, lab60, findA, fr60, hx, hsl, Try.underlying9, Try.underlying5, Try.underlying35, eq_false hne, h7, w7, w1, e127, hsh.1, hor, eq_false h9, eq_false hbig, eq_true h0, eq_false hi1]
              rfl
            case props15 => exact ⟨rfl, rfl, rfl⟩

        · rw [if_neg (by omega)]
          refine ⟨?tm16, ?props16, Run.scope_end (by simp) (Run.step 40 fun k j => ?run16)⟩
          case run16 =>
            simp [c60, lab60, findA, fr60, hx, hsl, Try.underlying9, Try.underlying5, Try.underlying35, eq_false hne, h7, w7, w1, e127, hsh.1, hor, eq_false h9, eq_false hbig, eq_false h0]
            rfl
          case props16 => exact ⟨rfl, rfl, rfl⟩


end Go.Proofs.Ytpmoellbfgcefaa.AS
end
section
set_option autoImplicit false
set_option maxRecDepth 100000
set_option maxHeartbeats 1000000
namespace Go.Proofs.Ytpmoellbfgcefaa.AS
open Go Go.Proofs Go.RowKit Go.Proofs.Ytpmoellbfgcefaa.AS.V
theorem get_run {T : FuncId → Option AFunc} (hT : T 60 = prepFn Try.prog 60) (s : ByteArray) (hs : s.size ≤ 9223372036854775807) (h : Heap) : FRun Try.prog T 60 [.s (.string s)] h (.tp [.s (.int .u64 (gets s).1), .s (.string (gets s).2.1), .s (.int .i64 (gets s).2.2)], h) := by
  obtain ⟨tm', ⟨p1, p2, p3⟩, hr⟩ := run60 (T := T) s hs h s.size 0 0 (.s undef) (.s undef) (by omega) (by omega) (by omega) (by simp)
  apply FRun.of (hT.trans p60)
  · apply Run.seq
    · apply Run.step 5; intro k j
      simp
      exact ⟨rfl, rfl⟩
    · apply Run.scope_as (H := hr)
      intro r H
      apply Run.seq
      · apply Run.step 5; intro k j
        simp
        exact ⟨rfl, rfl⟩
      · apply Run.seq
        · apply Run.step 5; intro k j
          simp [forget]
          exact ⟨rfl, rfl⟩
        · exact Run.skip_l H
  · exact Or.inl rfl
  · simp [resAs, resA, p1, p2, p3, gets, tupA]

/-- What the numbers' reading is. -/
noncomputable def hkGet : List AV → Heap → Option (AV × Heap)
  | [.s (.string s)], h => if s.size ≤ 9223372036854775807 then some (.tp [.s (.int .u64 (gets s).1), .s (.string (gets s).2.1), .s (.int .i64 (gets s).2.2)], h) else none
  | _, _ => none
theorem hkGet_ok {T : FuncId → Option AFunc} (hm : Try.prog.follows .mixedOrders = true) (hT : TabOK Try.prog T) (h60 : T 60 = prepFn Try.prog 60) (hc : callable Try.prog 60 = true) : HookSound Try.prog 60 hkGet := by
  refine hookOf hm hT hc fun l h r he => ?_
  unfold hkGet at he
  split at he
  · rename_i s
    split at he
    · rename_i hs
      cases he
      exact ⟨_, get_run h60 s hs h, Drops.refl _ _⟩
    · cases he
  · cases he
end Go.Proofs.Ytpmoellbfgcefaa.AS
end
section
set_option autoImplicit false
set_option maxRecDepth 100000
set_option maxHeartbeats 1000000
namespace Go.Proofs.Ytpmoellbfgcefaa.AS
open Go Go.Proofs Go.RowKit Go.Proofs.Ytpmoellbfgcefaa.AS.V

theorem set_bk {h : Heap} {b : Nat} {k : Blk} (e : bk h b = some k) : h.set b k = h := by
  obtain ⟨hlt, rfl⟩ := List.getElem?_eq_some_iff.1 e
  exact List.set_getElem_self hlt

/-- What a reader's next number is. -/
def numS (s : ByteArray) (w : Int) : Int × ByteArray × Int := if w = 0 then gets s else (0, s, w)
noncomputable def hkNum : List AV → Heap → Option (AV × Heap)
  | [.pt b v 0], h => match bk h b with
    | some ⟨v', e, sz, true, [.s (.string s), .s (.int .i64 w)]⟩ => if v' = v ∧ s.size ≤ 9223372036854775807 then
        some (.s (.int .u64 (numS s w).1), h.set b ⟨v', e, sz, true, [.s (.string (numS s w).2.1), .s (.int .i64 (numS s w).2.2)]⟩) else none
    | _ => none
  | _, _ => none
theorem num_run {T : FuncId → Option AFunc} (hT : T 76 = prepFn Try.prog 76) (hG : T 60 = some (.hook hkGet)) (s : ByteArray) (hs : s.size ≤ 9223372036854775807) (w : Int) (h : Heap) (b v e sz : Nat) (hb : bk h b = some ⟨v, e, sz, true, [.s (.string s), .s (.int .i64 w)]⟩) :
    FRun Try.prog T 76 [.pt b v 0] h (.s (.int .u64 (numS s w).1), h.set b ⟨v, e, sz, true, [.s (.string (numS s w).2.1), .s (.int .i64 (numS s w).2.2)]⟩) := by
  have hlt := bk_lt hb
  have hc := fun k l h => evFn_hook (P := Try.prog) (T := T) (k := k) (f := 60) (args := l) (h := h) hG
  by_cases hw : w = 0
  · apply FRun.of (e := .ret) (hT.trans p76)
    · apply Run.step 30; intro k j
      simp [c76, hb, hc, hkGet, hs, hlt, eq_true hw, oneOr, cellsOf, isCell, numS]
      rfl
    · exact Or.inl rfl
    · simp [resAs, resA, tupA, numS, hw]
  · have e1 : numS s w = (0, s, w) := if_neg hw
    rw [e1]
    simp only
    rw [set_bk hb]
    apply FRun.of (e := .ret) (hT.trans p76)
    · apply Run.step 30; intro k j
      simp [c76, hb, hc, hkGet, hs, hlt, eq_false hw, oneOr, cellsOf, isCell, e1]
      rfl
    · exact Or.inl rfl
    · rfl
theorem hkNum_ok {T : FuncId → Option AFunc} (hm : Try.prog.follows .mixedOrders = true) (hT : TabOK Try.prog T) (h76 : T 76 = prepFn Try.prog 76) (hG : T 60 = some (.hook hkGet)) (hc : callable Try.prog 76 = true) : HookSound Try.prog 76 hkNum := by
  refine hookOf hm hT hc fun l h r he => ?_
  unfold hkNum at he
  split at he
  · split at he
    · rename_i b v v' e sz s w hb
      split at he
      · rename_i hs
        cases he
        obtain ⟨rfl, hs⟩ := hs
        exact ⟨_, num_run h76 hG s hs w h _ _ e sz hb, Drops.refl _ _⟩
      · cases he
    · cases he
  · cases he
end Go.Proofs.Ytpmoellbfgcefaa.AS
end
section
set_option autoImplicit false
set_option maxRecDepth 100000
set_option maxHeartbeats 2000000
set_option linter.unusedSimpArgs false
namespace Go.Proofs.Ytpmoellbfgcefaa.AS
open Go Go.Proofs Go.RowKit Go.Proofs.Ytpmoellbfgcefaa.AS.V

def slotC (x : Int × Int) : List AV := [.s (.int .u64 x.1), .s (.string ⟨#[]⟩), .s (.int .u64 x.2)]
def outA (bo : Nat) : List (Int × Int) → AV
  | [] => .s (.slice none 0 0)
  | x :: L => .sl bo L.length 0 (L.length + 1) 3
structure InvS (h0 h' : Heap) (br bo vr er : Nat) (L : List (Int × Int)) (s : ByteArray) (w : Int) : Prop where
  rd : bk h' br = some ⟨vr, er, 2, true, [.s (.string s), .s (.int .i64 w)]⟩
  old : ∀ b, b < h0.length → b ≠ br → bk h' b = bk h0 b
  len : h0.length ≤ h'.length
  out : L ≠ [] → h0.length ≤ bo ∧ br ≠ bo ∧ bk h' bo = some ⟨L.length - 1, 94, 3, true, L.flatMap slotC⟩
def fr59 (br vr : Nat) (many : Int) (out : AV) (i : Int) (a1 a2 a6 a7 a8 a9 a10 a11 a12 a13 a14 a15 a16 a17 a18 a19 a20 a21 a83 : AV) : List AV := [.pt br vr 0, a1, a2, .s (.int .u64 many), out, .s (.int .u64 i), a6, a7, a8, a9, a10, a11, a12, a13, a14, a15, a16, a17, a18, a19, a20, a21] ++ List.replicate 61 .any ++ [a83]
noncomputable def body59 : ACode := match c59 with
  | .seq _ (.seq _ (.seq _ (.seq _ (.seq (.seq _ (.block _ (.loop _ b))) _)))) => b
  | _ => .skip
noncomputable def fg59 : List Nat := match c59 with
  | .seq _ (.seq _ (.seq _ (.seq _ (.seq (.seq _ (.block _ (.loop fg _))) _)))) => fg
  | _ => []

/-- One entry read: the flag that was raised, its key, its size, what is behind it. -/
def slot1 (L : List (Int × Int)) (s : ByteArray) : (Int × Int) × ByteArray × Int :=
  let g := numS s 0
  let last := (L.getLastD (0, 0)).1
  let w2 := if L ≠ [] ∧ g.2.2 = 0 ∧ (last = 18446744073709551615 ∨ g.1 > 18446744073709551615 - last - 1) then 7 else g.2.2
  let key := if L ≠ [] ∧ g.2.2 = 0 then IntKind.u64.wrap (g.1 + IntKind.u64.wrap (last + 1)) else g.1
  let z := numS g.2.1 w2
  ((key, z.1), z.2.1, z.2.2)
theorem num_size {s : ByteArray} (hs : s.size ≤ 9223372036854775807) (w : Int) : (numS s w).2.1.size ≤ 9223372036854775807 := by
  unfold numS
  split
  · exact Nat.le_trans (gets_shorter s) hs
  · exact hs

theorem slotC_len : ∀ L : List (Int × Int), (L.flatMap slotC).length = L.length * 3
  | [] => rfl
  | x :: L => by rw [List.flatMap_cons, List.length_append, slotC_len L, List.length_cons]; simp [slotC]; omega

theorem it0 {T : FuncId → Option AFunc} (hN : T 76 = some (.hook hkNum)) (h0 h' : Heap) (br bo vr er : Nat) (s : ByteArray) (hs : s.size ≤ 9223372036854775807) (many : Int) (hm : 0 < many) (hI : InvS h0 h' br bo vr er [] s 0) (h0b : br < h0.length)
    (a1 a2 a6 a7 a8 a9 a10 a11 a12 a13 a14 a15 a16 a17 a18 a19 a20 a21 a83 : AV) : ∃ H bo' a6' a7' tm', forget fg59 tm' = fr59 br vr many (outA bo' [(slot1 [] s).1]) 1 a1 a2 a6' a7' a8 a9 a10 a11 a12 a13 a14 a15 a16 a17 a18 a19 a20 a21 a83 ∧ InvS h0 H br bo' vr er [(slot1 [] s).1] (slot1 [] s).2.1 (slot1 [] s).2.2 ∧
      Run Try.prog T body59 (fr59 br vr many (outA bo []) 0 a1 a2 a6 a7 a8 a9 a10 a11 a12 a13 a14 a15 a16 a17 a18 a19 a20 a21 a83) h' (.normal, tm', H) := by
  have hb := hI.rd
  have hlt := bk_lt hb
  have hc := fun k l h => evFn_hook (P := Try.prog) (T := T) (k := k) (f := 76) (args := l) (h := h) hN
  have hs1 := num_size hs 0
  have hs2 := num_size hs1 (numS s 0).2.2
  have w1 : IntKind.u64.wrap 1 = 1 := wu64 (by omega) (by omega)
  have hle := hI.len
  refine ⟨?H, h'.length + 2, ?a6, ?a7, ?tm, ?fg, ?inv, Run.step 40 fun k j => ?run⟩
  case run =>
    simp [c59, body59, fr59, outA, hb, hc, hkNum, hs, hlt, hm, oneOr, cellsOf, isCell, fillA, hs1, hs2, apV_nil, w1]
    (constructor <;> rfl)
  case fg =>
    simp [forget, fg59, c59, fr59, outA]
    (constructor <;> rfl)
  case inv =>
    refine ⟨?_, fun b h1 h2 => ?_, ?_, fun _ => ⟨?_, ?_, ?_⟩⟩
    · simp [hlt, slot1]
    · have h3 : b < h'.length := by omega
      simp [h3, Ne.symm h2, hI.old b h1 h2]
    · simp; omega
    · omega
    · omega
    · simp [slot1, slotC]

theorem itA {T : FuncId → Option AFunc} (hN : T 76 = some (.hook hkNum)) (h0 h' : Heap) (br bo vr er m : Nat) (s : ByteArray) (hs : s.size ≤ 9223372036854775807) (many : Int) (L : List (Int × Int)) (hL : L.length = m + 1) (hm : (m : Int) + 1 < many) (hmany : many ≤ 65536) (hI : InvS h0 h' br bo vr er L s 0) (h0b : br < h0.length)
    (h0l : 0 ≤ (L.getLastD (0, 0)).1) (h1l : (L.getLastD (0, 0)).1 ≤ 18446744073709551615) (hw : (numS s 0).2.2 ≠ 0)
    (a1 a2 a6 a7 a8 a9 a10 a11 a12 a13 a14 a15 a16 a17 a18 a19 a20 a21 a83 : AV) : ∃ H a6' a7' tm', forget fg59 tm' = fr59 br vr many (outA bo (L ++ [(slot1 L s).1])) ((m : Int) + 2) a1 a2 a6' a7' a8 a9 a10 a11 a12 a13 a14 a15 a16 a17 a18 a19 a20 a21 a83 ∧ InvS h0 H br bo vr er (L ++ [(slot1 L s).1]) (slot1 L s).2.1 (slot1 L s).2.2 ∧
      Run Try.prog T body59 (fr59 br vr many (outA bo L) ((m : Int) + 1) a1 a2 a6 a7 a8 a9 a10 a11 a12 a13 a14 a15 a16 a17 a18 a19 a20 a21 a83) h' (.normal, tm', H) := by
  have hb := hI.rd
  have hlt := bk_lt hb
  have hc := fun k l h => evFn_hook (P := Try.prog) (T := T) (k := k) (f := 76) (args := l) (h := h) hN
  have hs1 := num_size hs 0
  have hne : L ≠ [] := by intro h; rw [h] at hL; simp at hL
  have hle := hI.len
  obtain ⟨ho1, ho2, ho3⟩ := hI.out hne
  rw [hL, Nat.add_sub_cancel] at ho3
  have hlo := bk_lt ho3
  have eL : outA bo L = .sl bo m 0 (m + 1) 3 := by
    cases L with
    | nil => exact absurd rfl hne
    | cons x L => simp at hL; simp [outA, hL]
  have eL2 : outA bo (L ++ [(slot1 L s).1]) = .sl bo (m + 1) 0 (m + 2) 3 := by
    cases L with
    | nil => exact absurd rfl hne
    | cons x L => simp at hL; simp [outA, hL]
  have wi : IntKind.u64.wrap ((m : Int) + 1 - 1) = m := by rw [wu64 (by omega) (by omega)]; omega
  have wi' : IntKind.u64.wrap (m : Int) = m := wu64 (by omega) (by omega)
  have wj : IntKind.u64.wrap ((m : Int) + 1 + 1) = (m : Int) + 2 := by rw [wu64 (by omega) (by omega)]; omega
  have ip : (0 : Int) < (m : Int) + 1 := by omega
  have im : (m : Int) < ((m + 1 : Nat) : Int) := by omega
  have im' : (m : Int) < (m : Int) + 1 := by omega
  have hCl : (L.flatMap slotC).length = (m + 1) * 3 := by
    rw [slotC_len, hL]
  have hCg : (L.flatMap slotC)[m * 3]? = some (.s (.int .u64 (L.getLastD (0, 0)).1)) := by
    obtain ⟨M, x, rfl⟩ : ∃ M x, L = M ++ [x] := ⟨L.dropLast, L.getLast hne, (List.dropLast_concat_getLast hne).symm⟩
    simp at hL
    have : (M.flatMap slotC).length = m * 3 := by rw [slotC_len, hL]
    rw [List.flatMap_append, List.getElem?_append_right (by omega), this]
    simp [slotC]
  have hsl : slot1 L s = (((slot1 L s).1.1, (slot1 L s).1.2), (slot1 L s).2.1, (slot1 L s).2.2) := rfl
  generalize hlast : (L.getLastD (0, 0)).1 = last at *
  generalize hC : L.flatMap slotC = C at *
  have hCd : (C.drop (m * 3)).take 1 = [.s (.int .u64 last)] := by
    rw [List.take_one, List.head?_drop, hCg]; rfl
  have hle1 : m * 3 + 1 ≤ C.length := by omega
  have hle2 : (m + 1) * 3 ≤ C.length := by omega
  have hlt2 : m * 3 < C.length := by omega
  have hall : C.take ((m + 1) * 3) = C := List.take_of_length_le (by omega)
  have n1 : bo ≠ h'.length := by omega
  have n2 : bo ≠ h'.length + 1 := by omega
  have b1 : (m + 1 + 1) * 32 ≤ 140737488355328 := by omega
  have b2 : m + 1 + 1 ≤ 9223372036854775807 := by omega
  have ho2' := Ne.symm ho2
  have hs2 := num_size hs1 (numS s 0).2.2
  have hz : slot1 L s = (((numS s 0).1, (numS (numS s 0).2.1 (numS s 0).2.2).1), (numS (numS s 0).2.1 (numS s 0).2.2).2.1, (numS (numS s 0).2.1 (numS s 0).2.2).2.2) := by
    simp [slot1, eq_false hw]
  refine ⟨?H, ?a6, ?a7, ?tm, ?fg, ?inv, Run.step 40 fun k j => ?run⟩
  case run =>
    simp [c59, body59, fr59, eL, hb, hc, hkNum, hs, hlt, hm, oneOr, cellsOf, isCell, fillA, hs1, apK_s, wi, wi', wj, eq_true ip, im, im', ho3, hCd, hCg, hle1, hle2, hlt2, hall, hlo, n1, n2, b1, b2, ho2, ho2', hs2, eq_false hw]
    (constructor <;> rfl)
  case fg =>
    rw [eL2]
    simp [forget, fg59, c59, fr59]
    (constructor <;> rfl)
  case inv =>
    rw [hz]
    refine ⟨?_, fun b h1 h2 => ?_, ?_, fun _ => ⟨?_, ?_, ?_⟩⟩
    · simp [hlt, hlo, ho2']
    · have h3 : b < h'.length := by omega
      have h4 : bo ≠ b := by omega
      simp [h3, h4, Ne.symm h2, hI.old b h1 h2]
    · simp; omega
    · omega
    · omega
    · simp [hlo, List.flatMap_append, hC, slotC, hL]

theorem itB {T : FuncId → Option AFunc} (hN : T 76 = some (.hook hkNum)) (h0 h' : Heap) (br bo vr er m : Nat) (s : ByteArray) (hs : s.size ≤ 9223372036854775807) (many : Int) (L : List (Int × Int)) (hL : L.length = m + 1) (hm : (m : Int) + 1 < many) (hmany : many ≤ 65536) (hI : InvS h0 h' br bo vr er L s 0) (h0b : br < h0.length)
    (h0l : 0 ≤ (L.getLastD (0, 0)).1) (h1l : (L.getLastD (0, 0)).1 ≤ 18446744073709551615) (hw : (numS s 0).2.2 = 0) (hx : (L.getLastD (0, 0)).1 = 18446744073709551615)
    (a1 a2 a6 a7 a8 a9 a10 a11 a12 a13 a14 a15 a16 a17 a18 a19 a20 a21 a83 : AV) : ∃ H a6' a7' tm', forget fg59 tm' = fr59 br vr many (outA bo (L ++ [(slot1 L s).1])) ((m : Int) + 2) a1 a2 a6' a7' a8 a9 a10 a11 a12 a13 a14 a15 a16 a17 a18 a19 a20 a21 a83 ∧ InvS h0 H br bo vr er (L ++ [(slot1 L s).1]) (slot1 L s).2.1 (slot1 L s).2.2 ∧
      Run Try.prog T body59 (fr59 br vr many (outA bo L) ((m : Int) + 1) a1 a2 a6 a7 a8 a9 a10 a11 a12 a13 a14 a15 a16 a17 a18 a19 a20 a21 a83) h' (.normal, tm', H) := by
  have hb := hI.rd
  have hlt := bk_lt hb
  have hc := fun k l h => evFn_hook (P := Try.prog) (T := T) (k := k) (f := 76) (args := l) (h := h) hN
  have hs1 := num_size hs 0
  have hne : L ≠ [] := by intro h; rw [h] at hL; simp at hL
  have hle := hI.len
  obtain ⟨ho1, ho2, ho3⟩ := hI.out hne
  rw [hL, Nat.add_sub_cancel] at ho3
  have hlo := bk_lt ho3
  have eL : outA bo L = .sl bo m 0 (m + 1) 3 := by
    cases L with
    | nil => exact absurd rfl hne
    | cons x L => simp at hL; simp [outA, hL]
  have eL2 : outA bo (L ++ [(slot1 L s).1]) = .sl bo (m + 1) 0 (m + 2) 3 := by
    cases L with
    | nil => exact absurd rfl hne
    | cons x L => simp at hL; simp [outA, hL]
  have wi : IntKind.u64.wrap ((m : Int) + 1 - 1) = m := by rw [wu64 (by omega) (by omega)]; omega
  have wi' : IntKind.u64.wrap (m : Int) = m := wu64 (by omega) (by omega)
  have wj : IntKind.u64.wrap ((m : Int) + 1 + 1) = (m : Int) + 2 := by rw [wu64 (by omega) (by omega)]; omega
  have ip : (0 : Int) < (m : Int) + 1 := by omega
  have im : (m : Int) < ((m + 1 : Nat) : Int) := by omega
  have im' : (m : Int) < (m : Int) + 1 := by omega
  have hCl : (L.flatMap slotC).length = (m + 1) * 3 := by
    rw [slotC_len, hL]
  have hCg : (L.flatMap slotC)[m * 3]? = some (.s (.int .u64 (L.getLastD (0, 0)).1)) := by
    obtain ⟨M, x, rfl⟩ : ∃ M x, L = M ++ [x] := ⟨L.dropLast, L.getLast hne, (List.dropLast_concat_getLast hne).symm⟩
    simp at hL
    have : (M.flatMap slotC).length = m * 3 := by rw [slotC_len, hL]
    rw [List.flatMap_append, List.getElem?_append_right (by omega), this]
    simp [slotC]
  have hsl : slot1 L s = (((slot1 L s).1.1, (slot1 L s).1.2), (slot1 L s).2.1, (slot1 L s).2.2) := rfl
  generalize hlast : (L.getLastD (0, 0)).1 = last at *
  generalize hC : L.flatMap slotC = C at *
  have hCd : (C.drop (m * 3)).take 1 = [.s (.int .u64 last)] := by
    rw [List.take_one, List.head?_drop, hCg]; rfl
  have hle1 : m * 3 + 1 ≤ C.length := by omega
  have hle2 : (m + 1) * 3 ≤ C.length := by omega
  have hlt2 : m * 3 < C.length := by omega
  have hall : C.take ((m + 1) * 3) = C := List.take_of_length_le (by omega)
  have n1 : bo ≠ h'.length := by omega
  have n2 : bo ≠ h'.length + 1 := by omega
  have b1 : (m + 1 + 1) * 32 ≤ 140737488355328 := by omega
  have b2 : m + 1 + 1 ≤ 9223372036854775807 := by omega
  have ho2' := Ne.symm ho2
  have hs2 := num_size hs1 7
  have hz : slot1 L s = ((IntKind.u64.wrap ((numS s 0).1 + IntKind.u64.wrap (last + 1)), (numS (numS s 0).2.1 7).1), (numS (numS s 0).2.1 7).2.1, (numS (numS s 0).2.1 7).2.2) := by
    have hlast' : (L.getLast?.getD (0, 0)).1 = last := by simpa using hlast
    simp [slot1, eq_true hw, hne, hlast', eq_true hx]

  refine ⟨?H, ?a6, ?a7, ?tm, ?fg, ?inv, Run.step 40 fun k j => ?run⟩
  case run =>
    simp [c59, body59, fr59, eL, hb, hc, hkNum, hs, hlt, hm, oneOr, cellsOf, isCell, fillA, hs1, apK_s, wi, wi', wj, eq_true ip, im, im', ho3, hCd, hCg, hle1, hle2, hlt2, hall, hlo, n1, n2, b1, b2, ho2, ho2', hs2, eq_true hw, eq_true hx]
    (constructor <;> rfl)
  case fg =>
    rw [eL2]
    simp [forget, fg59, c59, fr59]
    (constructor <;> rfl)
  case inv =>
    rw [hz]
    refine ⟨?_, fun b h1 h2 => ?_, ?_, fun _ => ⟨?_, ?_, ?_⟩⟩
    · simp [hlt, hlo, ho2']
    · have h3 : b < h'.length := by omega
      have h4 : bo ≠ b := by omega
      simp [h3, h4, Ne.symm h2, hI.old b h1 h2]
    · simp; omega
    · omega
    · omega
    · simp [hlo, List.flatMap_append, hC, slotC, hL]

theorem itC {T : FuncId → Option AFunc} (hN : T 76 = some (.hook hkNum)) (h0 h' : Heap) (br bo vr er m : Nat) (s : ByteArray) (hs : s.size ≤ 9223372036854775807) (many : Int) (L : List (Int × Int)) (hL : L.length = m + 1) (hm : (m : Int) + 1 < many) (hmany : many ≤ 65536) (hI : InvS h0 h' br bo vr er L s 0) (h0b : br < h0.length)
    (h0l : 0 ≤ (L.getLastD (0, 0)).1) (h1l : (L.getLastD (0, 0)).1 ≤ 18446744073709551615) (hw : (numS s 0).2.2 = 0) (hx : (L.getLastD (0, 0)).1 ≠ 18446744073709551615) (hy : (numS s 0).1 > 18446744073709551615 - (L.getLastD (0, 0)).1 - 1)
    (a1 a2 a6 a7 a8 a9 a10 a11 a12 a13 a14 a15 a16 a17 a18 a19 a20 a21 a83 : AV) : ∃ H a6' a7' tm', forget fg59 tm' = fr59 br vr many (outA bo (L ++ [(slot1 L s).1])) ((m : Int) + 2) a1 a2 a6' a7' a8 a9 a10 a11 a12 a13 a14 a15 a16 a17 a18 a19 a20 a21 a83 ∧ InvS h0 H br bo vr er (L ++ [(slot1 L s).1]) (slot1 L s).2.1 (slot1 L s).2.2 ∧
      Run Try.prog T body59 (fr59 br vr many (outA bo L) ((m : Int) + 1) a1 a2 a6 a7 a8 a9 a10 a11 a12 a13 a14 a15 a16 a17 a18 a19 a20 a21 a83) h' (.normal, tm', H) := by
  have hb := hI.rd
  have hlt := bk_lt hb
  have hc := fun k l h => evFn_hook (P := Try.prog) (T := T) (k := k) (f := 76) (args := l) (h := h) hN
  have hs1 := num_size hs 0
  have hne : L ≠ [] := by intro h; rw [h] at hL; simp at hL
  have hle := hI.len
  obtain ⟨ho1, ho2, ho3⟩ := hI.out hne
  rw [hL, Nat.add_sub_cancel] at ho3
  have hlo := bk_lt ho3
  have eL : outA bo L = .sl bo m 0 (m + 1) 3 := by
    cases L with
    | nil => exact absurd rfl hne
    | cons x L => simp at hL; simp [outA, hL]
  have eL2 : outA bo (L ++ [(slot1 L s).1]) = .sl bo (m + 1) 0 (m + 2) 3 := by
    cases L with
    | nil => exact absurd rfl hne
    | cons x L => simp at hL; simp [outA, hL]
  have wi : IntKind.u64.wrap ((m : Int) + 1 - 1) = m := by rw [wu64 (by omega) (by omega)]; omega
  have wi' : IntKind.u64.wrap (m : Int) = m := wu64 (by omega) (by omega)
  have wj : IntKind.u64.wrap ((m : Int) + 1 + 1) = (m : Int) + 2 := by rw [wu64 (by omega) (by omega)]; omega
  have ip : (0 : Int) < (m : Int) + 1 := by omega
  have im : (m : Int) < ((m + 1 : Nat) : Int) := by omega
  have im' : (m : Int) < (m : Int) + 1 := by omega
  have hCl : (L.flatMap slotC).length = (m + 1) * 3 := by
    rw [slotC_len, hL]
  have hCg : (L.flatMap slotC)[m * 3]? = some (.s (.int .u64 (L.getLastD (0, 0)).1)) := by
    obtain ⟨M, x, rfl⟩ : ∃ M x, L = M ++ [x] := ⟨L.dropLast, L.getLast hne, (List.dropLast_concat_getLast hne).symm⟩
    simp at hL
    have : (M.flatMap slotC).length = m * 3 := by rw [slotC_len, hL]
    rw [List.flatMap_append, List.getElem?_append_right (by omega), this]
    simp [slotC]
  have hsl : slot1 L s = (((slot1 L s).1.1, (slot1 L s).1.2), (slot1 L s).2.1, (slot1 L s).2.2) := rfl
  generalize hlast : (L.getLastD (0, 0)).1 = last at *
  generalize hC : L.flatMap slotC = C at *
  have hCd : (C.drop (m * 3)).take 1 = [.s (.int .u64 last)] := by
    rw [List.take_one, List.head?_drop, hCg]; rfl
  have hle1 : m * 3 + 1 ≤ C.length := by omega
  have hle2 : (m + 1) * 3 ≤ C.length := by omega
  have hlt2 : m * 3 < C.length := by omega
  have hall : C.take ((m + 1) * 3) = C := List.take_of_length_le (by omega)
  have n1 : bo ≠ h'.length := by omega
  have n2 : bo ≠ h'.length + 1 := by omega
  have b1 : (m + 1 + 1) * 32 ≤ 140737488355328 := by omega
  have b2 : m + 1 + 1 ≤ 9223372036854775807 := by omega
  have ho2' := Ne.symm ho2
  have hs2 := num_size hs1 7
  have wa : IntKind.u64.wrap (18446744073709551615 - last) = 18446744073709551615 - last := wu64 (by omega) (by omega)
  have wb : IntKind.u64.wrap (18446744073709551615 - last - 1) = 18446744073709551615 - last - 1 := wu64 (by omega) (by omega)
  have hy' : 18446744073709551615 - last - 1 < (numS s 0).1 := hy
  have hz : slot1 L s = ((IntKind.u64.wrap ((numS s 0).1 + IntKind.u64.wrap (last + 1)), (numS (numS s 0).2.1 7).1), (numS (numS s 0).2.1 7).2.1, (numS (numS s 0).2.1 7).2.2) := by
    have hlast' : (L.getLast?.getD (0, 0)).1 = last := by simpa using hlast
    simp [slot1, eq_true hw, hne, hlast', eq_true hy']

  refine ⟨?H, ?a6, ?a7, ?tm, ?fg, ?inv, Run.step 40 fun k j => ?run⟩
  case run =>
    simp [c59, body59, fr59, eL, hb, hc, hkNum, hs, hlt, hm, oneOr, cellsOf, isCell, fillA, hs1, apK_s, wi, wi', wj, eq_true ip, im, im', ho3, hCd, hCg, hle1, hle2, hlt2, hall, hlo, n1, n2, b1, b2, ho2, ho2', hs2, eq_true hw, eq_false hx, wa, wb, eq_true hy']
    (constructor <;> rfl)
  case fg =>
    rw [eL2]
    simp [forget, fg59, c59, fr59]
    (constructor <;> rfl)
  case inv =>
    rw [hz]
    refine ⟨?_, fun b h1 h2 => ?_, ?_, fun _ => ⟨?_, ?_, ?_⟩⟩
    · simp [hlt, hlo, ho2']
    · have h3 : b < h'.length := by omega
      have h4 : bo ≠ b := by omega
      simp [h3, h4, Ne.symm h2, hI.old b h1 h2]
    · simp; omega
    · omega
    · omega
    · simp [hlo, List.flatMap_append, hC, slotC, hL]

theorem itD {T : FuncId → Option AFunc} (hN : T 76 = some (.hook hkNum)) (h0 h' : Heap) (br bo vr er m : Nat) (s : ByteArray) (hs : s.size ≤ 9223372036854775807) (many : Int) (L : List (Int × Int)) (hL : L.length = m + 1) (hm : (m : Int) + 1 < many) (hmany : many ≤ 65536) (hI : InvS h0 h' br bo vr er L s 0) (h0b : br < h0.length)
    (h0l : 0 ≤ (L.getLastD (0, 0)).1) (h1l : (L.getLastD (0, 0)).1 ≤ 18446744073709551615) (hw : (numS s 0).2.2 = 0) (hx : (L.getLastD (0, 0)).1 ≠ 18446744073709551615) (hy : ¬ (numS s 0).1 > 18446744073709551615 - (L.getLastD (0, 0)).1 - 1)
    (a1 a2 a6 a7 a8 a9 a10 a11 a12 a13 a14 a15 a16 a17 a18 a19 a20 a21 a83 : AV) : ∃ H a6' a7' tm', forget fg59 tm' = fr59 br vr many (outA bo (L ++ [(slot1 L s).1])) ((m : Int) + 2) a1 a2 a6' a7' a8 a9 a10 a11 a12 a13 a14 a15 a16 a17 a18 a19 a20 a21 a83 ∧ InvS h0 H br bo vr er (L ++ [(slot1 L s).1]) (slot1 L s).2.1 (slot1 L s).2.2 ∧
      Run Try.prog T body59 (fr59 br vr many (outA bo L) ((m : Int) + 1) a1 a2 a6 a7 a8 a9 a10 a11 a12 a13 a14 a15 a16 a17 a18 a19 a20 a21 a83) h' (.normal, tm', H) := by
  have hb := hI.rd
  have hlt := bk_lt hb
  have hc := fun k l h => evFn_hook (P := Try.prog) (T := T) (k := k) (f := 76) (args := l) (h := h) hN
  have hs1 := num_size hs 0
  have hne : L ≠ [] := by intro h; rw [h] at hL; simp at hL
  have hle := hI.len
  obtain ⟨ho1, ho2, ho3⟩ := hI.out hne
  rw [hL, Nat.add_sub_cancel] at ho3
  have hlo := bk_lt ho3
  have eL : outA bo L = .sl bo m 0 (m + 1) 3 := by
    cases L with
    | nil => exact absurd rfl hne
    | cons x L => simp at hL; simp [outA, hL]
  have eL2 : outA bo (L ++ [(slot1 L s).1]) = .sl bo (m + 1) 0 (m + 2) 3 := by
    cases L with
    | nil => exact absurd rfl hne
    | cons x L => simp at hL; simp [outA, hL]
  have wi : IntKind.u64.wrap ((m : Int) + 1 - 1) = m := by rw [wu64 (by omega) (by omega)]; omega
  have wi' : IntKind.u64.wrap (m : Int) = m := wu64 (by omega) (by omega)
  have wj : IntKind.u64.wrap ((m : Int) + 1 + 1) = (m : Int) + 2 := by rw [wu64 (by omega) (by omega)]; omega
  have ip : (0 : Int) < (m : Int) + 1 := by omega
  have im : (m : Int) < ((m + 1 : Nat) : Int) := by omega
  have im' : (m : Int) < (m : Int) + 1 := by omega
  have hCl : (L.flatMap slotC).length = (m + 1) * 3 := by
    rw [slotC_len, hL]
  have hCg : (L.flatMap slotC)[m * 3]? = some (.s (.int .u64 (L.getLastD (0, 0)).1)) := by
    obtain ⟨M, x, rfl⟩ : ∃ M x, L = M ++ [x] := ⟨L.dropLast, L.getLast hne, (List.dropLast_concat_getLast hne).symm⟩
    simp at hL
    have : (M.flatMap slotC).length = m * 3 := by rw [slotC_len, hL]
    rw [List.flatMap_append, List.getElem?_append_right (by omega), this]
    simp [slotC]
  have hsl : slot1 L s = (((slot1 L s).1.1, (slot1 L s).1.2), (slot1 L s).2.1, (slot1 L s).2.2) := rfl
  generalize hlast : (L.getLastD (0, 0)).1 = last at *
  generalize hC : L.flatMap slotC = C at *
  have hCd : (C.drop (m * 3)).take 1 = [.s (.int .u64 last)] := by
    rw [List.take_one, List.head?_drop, hCg]; rfl
  have hle1 : m * 3 + 1 ≤ C.length := by omega
  have hle2 : (m + 1) * 3 ≤ C.length := by omega
  have hlt2 : m * 3 < C.length := by omega
  have hall : C.take ((m + 1) * 3) = C := List.take_of_length_le (by omega)
  have n1 : bo ≠ h'.length := by omega
  have n2 : bo ≠ h'.length + 1 := by omega
  have b1 : (m + 1 + 1) * 32 ≤ 140737488355328 := by omega
  have b2 : m + 1 + 1 ≤ 9223372036854775807 := by omega
  have ho2' := Ne.symm ho2
  have hs2 := num_size hs1 (numS s 0).2.2
  have wa : IntKind.u64.wrap (18446744073709551615 - last) = 18446744073709551615 - last := wu64 (by omega) (by omega)
  have wb : IntKind.u64.wrap (18446744073709551615 - last - 1) = 18446744073709551615 - last - 1 := wu64 (by omega) (by omega)
  have hy' : ¬ 18446744073709551615 - last - 1 < (numS s 0).1 := hy
  have hz : slot1 L s = ((IntKind.u64.wrap ((numS s 0).1 + IntKind.u64.wrap (last + 1)), (numS (numS s 0).2.1 (numS s 0).2.2).1), (numS (numS s 0).2.1 (numS s 0).2.2).2.1, (numS (numS s 0).2.1 (numS s 0).2.2).2.2) := by
    have hlast' : (L.getLast?.getD (0, 0)).1 = last := by simpa using hlast
    simp [slot1, eq_true hw, hne, hlast', eq_false hx, eq_false hy']

  refine ⟨?H, ?a6, ?a7, ?tm, ?fg, ?inv, Run.step 40 fun k j => ?run⟩
  case run =>
    simp [c59, body59, fr59, eL, hb, hc, hkNum, hs, hlt, hm, oneOr, cellsOf, isCell, fillA, hs1, apK_s, wi, wi', wj, eq_true ip, im, im', ho3, hCd, hCg, hle1, hle2, hlt2, hall, hlo, n1, n2, b1, b2, ho2, ho2', hs2, eq_true hw, eq_false hx, wa, wb, eq_false hy']
    (constructor <;> rfl)
  case fg =>
    rw [eL2]
    simp [forget, fg59, c59, fr59]
    (constructor <;> rfl)
  case inv =>
    rw [hz]
    refine ⟨?_, fun b h1 h2 => ?_, ?_, fun _ => ⟨?_, ?_, ?_⟩⟩
    · simp [hlt, hlo, ho2']
    · have h3 : b < h'.length := by omega
      have h4 : bo ≠ b := by omega
      simp [h3, h4, Ne.symm h2, hI.old b h1 h2]
    · simp; omega
    · omega
    · omega
    · simp [hlo, List.flatMap_append, hC, slotC, hL]
end Go.Proofs.Ytpmoellbfgcefaa.AS
end
section
set_option autoImplicit false
set_option maxRecDepth 100000
set_option maxHeartbeats 2000000
set_option linter.unusedSimpArgs false
namespace Go.Proofs.Ytpmoellbfgcefaa.AS
open Go Go.Proofs Go.RowKit Go.Proofs.Ytpmoellbfgcefaa.AS.V

def slotsF : Nat → List (Int × Int) → ByteArray → Int → List (Int × Int) × ByteArray × Int
  | 0, L, s, w => (L, s, w)
  | n + 1, L, s, w => if w ≠ 0 then (L, s, w) else slotsF n (L ++ [(slot1 L s).1]) (slot1 L s).2.1 (slot1 L s).2.2
theorem gets_range (s : ByteArray) : 0 ≤ (gets s).1 ∧ (gets s).1 ≤ 18446744073709551615 := by
  rcases gets_err s with h | h | h
  · obtain ⟨n, r, w⟩ : ∃ n r, gets s = (n, r, 0) := ⟨_, _, Prod.ext rfl (Prod.ext rfl h)⟩
    rw [w]; exact (gets_ok w).2
  · rw [h]; simp
  · rw [h]; simp
theorem wrap_range (n : Int) : 0 ≤ IntKind.u64.wrap n ∧ IntKind.u64.wrap n ≤ 18446744073709551615 := by rw [wu64']; omega
theorem slot1_key (L : List (Int × Int)) (s : ByteArray) : 0 ≤ (slot1 L s).1.1 ∧ (slot1 L s).1.1 ≤ 18446744073709551615 := by
  have e : (numS s 0) = gets s := if_pos rfl
  simp only [slot1, e]
  split
  · exact wrap_range _
  · exact gets_range s
theorem slot1_size (L : List (Int × Int)) {s : ByteArray} (hs : s.size ≤ 9223372036854775807) : (slot1 L s).2.1.size ≤ 9223372036854775807 := num_size (num_size hs 0) _

theorem itE {T : FuncId → Option AFunc} (h0 h' : Heap) (br bo vr er : Nat) (s : ByteArray) (w many i : Int) (L : List (Int × Int)) (hI : InvS h0 h' br bo vr er L s w) (hend : w ≠ 0 ∨ ¬ i < many)
    (out a1 a2 a6 a7 a8 a9 a10 a11 a12 a13 a14 a15 a16 a17 a18 a19 a20 a21 a83 : AV) : ∃ tm', tm'.length = 84 ∧ tm'[4]? = some out ∧ Run Try.prog T body59 (fr59 br vr many out i a1 a2 a6 a7 a8 a9 a10 a11 a12 a13 a14 a15 a16 a17 a18 a19 a20 a21 a83) h' (.exit 0, tm', h') := by
  have hb := hI.rd
  have hlt := bk_lt hb
  by_cases hm : i < many
  · have hw : w ≠ 0 := by rcases hend with h | h <;> first | exact h | exact absurd hm h
    refine ⟨?tm, ?l, ?o, Run.step 40 fun k j => ?run⟩
    case run =>
      simp [c59, body59, fr59, hb, hlt, eq_true hm, oneOr, eq_false hw]
      rfl
    case l => rfl
    case o => rfl
  · refine ⟨?tm2, ?l2, ?o2, Run.step 40 fun k j => ?run2⟩
    case run2 =>
      simp [c59, body59, fr59, hb, hlt, eq_false hm, oneOr]
      rfl
    case l2 => rfl
    case o2 => rfl

theorem slots_l {T : FuncId → Option AFunc} (hN : T 76 = some (.hook hkNum)) (h0 : Heap) (br vr er : Nat) (h0b : br < h0.length) (many : Int) (hmany : many ≤ 65536) : ∀ (n : Nat) (h' : Heap) (bo : Nat) (L : List (Int × Int)) (s : ByteArray) (w : Int), s.size ≤ 9223372036854775807 → (L.length : Int) + n = many → InvS h0 h' br bo vr er L s w →
    (0 ≤ (L.getLastD (0, 0)).1 ∧ (L.getLastD (0, 0)).1 ≤ 18446744073709551615) → ∀ (a1 a2 a6 a7 a8 a9 a10 a11 a12 a13 a14 a15 a16 a17 a18 a19 a20 a21 a83 : AV), ∃ H bo' tm', tm'.length = 84 ∧ tm'[4]? = some (outA bo' (slotsF n L s w).1) ∧ InvS h0 H br bo' vr er (slotsF n L s w).1 (slotsF n L s w).2.1 (slotsF n L s w).2.2 ∧
      Run Try.prog T (.loop fg59 body59) (fr59 br vr many (outA bo L) L.length a1 a2 a6 a7 a8 a9 a10 a11 a12 a13 a14 a15 a16 a17 a18 a19 a20 a21 a83) h' (.exit 0, tm', H) := by
  intro n
  induction n with
  | zero =>
    intro h' bo L s w hs hn hI hk a1 a2 a6 a7 a8 a9 a10 a11 a12 a13 a14 a15 a16 a17 a18 a19 a20 a21 a83
    obtain ⟨tm', t1, t2, hr⟩ := itE (T := T) h0 h' br bo vr er s w many L.length L hI (Or.inr (by omega)) (outA bo L) a1 a2 a6 a7 a8 a9 a10 a11 a12 a13 a14 a15 a16 a17 a18 a19 a20 a21 a83
    refine ⟨h', bo, tm', t1, t2, hI, Run.loop_end_f ?_ (by simp) hr⟩
    simp [forget, fg59, c59, fr59]
  | succ n ih =>
    intro h' bo L s w hs hn hI hk a1 a2 a6 a7 a8 a9 a10 a11 a12 a13 a14 a15 a16 a17 a18 a19 a20 a21 a83
    by_cases hw : w = 0
    · subst hw
      have e : slotsF (n + 1) L s 0 = slotsF n (L ++ [(slot1 L s).1]) (slot1 L s).2.1 (slot1 L s).2.2 := by rw [slotsF]; simp
      rw [e]
      have hk' := slot1_key L s
      have hnext : ∃ H bo' a6' a7' tm', forget fg59 tm' = fr59 br vr many (outA bo' (L ++ [(slot1 L s).1])) ((L ++ [(slot1 L s).1]).length : Int) a1 a2 a6' a7' a8 a9 a10 a11 a12 a13 a14 a15 a16 a17 a18 a19 a20 a21 a83 ∧ InvS h0 H br bo' vr er (L ++ [(slot1 L s).1]) (slot1 L s).2.1 (slot1 L s).2.2 ∧
          Run Try.prog T body59 (fr59 br vr many (outA bo L) L.length a1 a2 a6 a7 a8 a9 a10 a11 a12 a13 a14 a15 a16 a17 a18 a19 a20 a21 a83) h' (.normal, tm', H) := by
        cases hm : L.length with
        | zero =>
          cases L with
          | nil =>
            obtain ⟨H, bo', a6', a7', tm', x1, x2, x3⟩ := it0 hN h0 h' br bo vr er s hs many (by simp at hn; omega) hI h0b a1 a2 a6 a7 a8 a9 a10 a11 a12 a13 a14 a15 a16 a17 a18 a19 a20 a21 a83
            exact ⟨H, bo', a6', a7', tm', x1, x2, x3⟩
          | cons x L => simp at hm
        | succ m =>
          have hm1 : (m : Int) + 1 < many := by omega
          have e2 : ((L ++ [(slot1 L s).1]).length : Int) = (m : Int) + 2 := by simp [hm]; omega
          rw [e2]
          have : ∃ H a6' a7' tm', forget fg59 tm' = fr59 br vr many (outA bo (L ++ [(slot1 L s).1])) ((m : Int) + 2) a1 a2 a6' a7' a8 a9 a10 a11 a12 a13 a14 a15 a16 a17 a18 a19 a20 a21 a83 ∧ InvS h0 H br bo vr er (L ++ [(slot1 L s).1]) (slot1 L s).2.1 (slot1 L s).2.2 ∧
              Run Try.prog T body59 (fr59 br vr many (outA bo L) ((m : Int) + 1) a1 a2 a6 a7 a8 a9 a10 a11 a12 a13 a14 a15 a16 a17 a18 a19 a20 a21 a83) h' (.normal, tm', H) := by
            by_cases h1 : (numS s 0).2.2 = 0
            · by_cases h2 : (L.getLastD (0, 0)).1 = 18446744073709551615
              · exact itB hN h0 h' br bo vr er m s hs many L hm hm1 hmany hI h0b hk.1 hk.2 h1 h2 a1 a2 a6 a7 a8 a9 a10 a11 a12 a13 a14 a15 a16 a17 a18 a19 a20 a21 a83
              · by_cases h3 : (numS s 0).1 > 18446744073709551615 - (L.getLastD (0, 0)).1 - 1
                · exact itC hN h0 h' br bo vr er m s hs many L hm hm1 hmany hI h0b hk.1 hk.2 h1 h2 h3 a1 a2 a6 a7 a8 a9 a10 a11 a12 a13 a14 a15 a16 a17 a18 a19 a20 a21 a83
                · exact itD hN h0 h' br bo vr er m s hs many L hm hm1 hmany hI h0b hk.1 hk.2 h1 h2 h3 a1 a2 a6 a7 a8 a9 a10 a11 a12 a13 a14 a15 a16 a17 a18 a19 a20 a21 a83
            · exact itA hN h0 h' br bo vr er m s hs many L hm hm1 hmany hI h0b hk.1 hk.2 h1 a1 a2 a6 a7 a8 a9 a10 a11 a12 a13 a14 a15 a16 a17 a18 a19 a20 a21 a83
          obtain ⟨H, a6', a7', tm', x1, x2, x3⟩ := this
          exact ⟨H, bo, a6', a7', tm', x1, x2, x3⟩
      obtain ⟨H, bo', a6', a7', tm', x1, x2, x3⟩ := hnext
      obtain ⟨H2, bo2, tm2, y1, y2, y3, y4⟩ := ih H bo' (L ++ [(slot1 L s).1]) (slot1 L s).2.1 (slot1 L s).2.2 (slot1_size L hs) (by simp; omega) x2 (by simpa using hk') a1 a2 a6' a7' a8 a9 a10 a11 a12 a13 a14 a15 a16 a17 a18 a19 a20 a21 a83
      refine ⟨H2, bo2, tm2, y1, y2, y3, ?_⟩
      refine Run.loop_go ?_ x3 x1 y4
      simp [forget, fg59, c59, fr59]
    · have e : slotsF (n + 1) L s w = (L, s, w) := by rw [slotsF]; simp [hw]
      rw [e]
      obtain ⟨tm', t1, t2, hr⟩ := itE (T := T) h0 h' br bo vr er s w many L.length L hI (Or.inl hw) (outA bo L) a1 a2 a6 a7 a8 a9 a10 a11 a12 a13 a14 a15 a16 a17 a18 a19 a20 a21 a83
      refine ⟨h', bo, tm', t1, t2, hI, Run.loop_end_f ?_ (by simp) hr⟩
      simp [forget, fg59, c59, fr59]
end Go.Proofs.Ytpmoellbfgcefaa.AS
end
section
set_option autoImplicit false
set_option maxRecDepth 100000
set_option maxHeartbeats 2000000
set_option linter.unusedSimpArgs false
namespace Go.Proofs.Ytpmoellbfgcefaa.AS
open Go Go.Proofs Go.RowKit Go.Proofs.Ytpmoellbfgcefaa.AS.V

def slotsR (s : ByteArray) : List (Int × Int) × ByteArray × Int :=
  if (numS s 0).2.2 = 0 ∧ 65536 < (numS s 0).1 then ([], (numS s 0).2.1, 15) else slotsF (numS s 0).1.toNat [] (numS s 0).2.1 (numS s 0).2.2
noncomputable def tail59 : ACode := match c59 with
  | .seq _ (.seq _ (.seq _ t)) => t
  | _ => .skip
theorem slots_tail {T : FuncId → Option AFunc} (h0 h1 : Heap) (br vr er : Nat) (many : Int) (R : List (Int × Int) × ByteArray × Int)
    (hloop : ∀ (a1 a2 a6 a7 a8 a9 a10 a11 a12 a13 a14 a15 a16 a17 a18 a19 a20 a21 a83 : AV), ∃ H bo' tm', tm'.length = 84 ∧ tm'[4]? = some (outA bo' R.1) ∧ InvS h0 H br bo' vr er R.1 R.2.1 R.2.2 ∧
      Run Try.prog T (.loop fg59 body59) (fr59 br vr many (outA 0 []) (([] : List (Int × Int)).length : Int) a1 a2 a6 a7 a8 a9 a10 a11 a12 a13 a14 a15 a16 a17 a18 a19 a20 a21 a83) h1 (.exit 0, tm', H)) (a1 a2 a4 a5 a6 a7 a8 a9 a10 a11 a12 a13 a14 a15 a16 a17 a18 a19 a20 a21 : AV) :
    ∃ H bo' tm', tm'[2]? = some (outA bo' R.1) ∧ InvS h0 H br bo' vr er R.1 R.2.1 R.2.2 ∧ Run Try.prog T tail59 ([.pt br vr 0, a1, a2, .s (.int .u64 many), a4, a5, a6, a7, a8, a9, a10, a11, a12, a13, a14, a15, a16, a17, a18, a19, a20, a21] ++ List.replicate 62 (.s undef)) h1 (.ret, tm', H) := by
  obtain ⟨H, bo', tm', t1, t2, t3, t4⟩ := hloop a1 a2 a6 a7 a8 a9 a10 a11 a12 a13 a14 a15 a16 a17 a18 a19 a20 a21 (.s undef)
  refine ⟨H, bo', (tm'.set 83 (outA bo' R.1)).set 2 (outA bo' R.1), ?_, t3, ?_⟩
  · simp [t1]
  · apply Run.seq
    · apply Run.step 20; intro k j
      simp
      (constructor <;> rfl)
    · apply Run.seq
      · apply Run.seq
        · apply Run.step 20; intro k j
          simp
          (constructor <;> rfl)
        · apply Run.block_exit
          apply Run.loop_go'
          · exact t4
          · simp [forget, fg59, c59, fr59, outA]
      · apply Run.step 20; intro k j
        simp [t1, t2]
        rw [(List.getElem?_eq_some_iff.1 t2).2]
theorem slots_run {T : FuncId → Option AFunc} (hT : T 59 = prepFn Try.prog 59) (hN : T 76 = some (.hook hkNum)) (h0 : Heap) (br vr er : Nat) (s : ByteArray) (hs : s.size ≤ 9223372036854775807) (hb : bk h0 br = some ⟨vr, er, 2, true, [.s (.string s), .s (.int .i64 0)]⟩) :
    ∃ H bo, FRun Try.prog T 59 [.pt br vr 0] h0 (outA bo (slotsR s).1, H) ∧ InvS h0 H br bo vr er (slotsR s).1 (slotsR s).2.1 (slotsR s).2.2 := by
  have hlt := bk_lt hb
  have hc := fun k l h => evFn_hook (P := Try.prog) (T := T) (k := k) (f := 76) (args := l) (h := h) hN
  have hs1 := num_size hs 0
  have hr : 0 ≤ (numS s 0).1 := (gets_range s).1
  have e0 : numS s 0 = gets s := if_pos rfl
  by_cases hbad : (numS s 0).2.2 = 0 ∧ 65536 < (numS s 0).1
  · have e : slotsR s = ([], (numS s 0).2.1, 15) := if_pos hbad
    rw [e]
    have hI : InvS h0 (h0.set br ⟨vr, er, 2, true, [.s (.string (numS s 0).2.1), .s (.int .i64 15)]⟩) br 0 vr er [] (numS s 0).2.1 15 :=
      ⟨by simp [hlt], fun b h1 h2 => by simp [Ne.symm h2], by simp, fun h => absurd rfl h⟩
    have tl := slots_tail (T := T) h0 _ br vr er (numS s 0).1 ([], (numS s 0).2.1, 15) (fun a1 a2 a6 a7 a8 a9 a10 a11 a12 a13 a14 a15 a16 a17 a18 a19 a20 a21 a83 => by
      obtain ⟨tm', t1, t2, hr⟩ := itE (T := T) h0 _ br 0 vr er (numS s 0).2.1 15 (numS s 0).1 0 [] hI (Or.inl (by omega)) (outA 0 []) a1 a2 a6 a7 a8 a9 a10 a11 a12 a13 a14 a15 a16 a17 a18 a19 a20 a21 a83
      exact ⟨_, 0, tm', t1, t2, hI, Run.loop_end_f (by simp [forget, fg59, c59, fr59]) (by simp) hr⟩)
    obtain ⟨H, bo, tm', x1, x2, x3⟩ : ∃ H bo tm', tm'[2]? = some (outA bo []) ∧ InvS h0 H br bo vr er [] (numS s 0).2.1 15 ∧ Run Try.prog T c59 ([.pt br vr 0] ++ List.replicate 83 (.s undef)) h0 (.ret, tm', H) := by
      obtain ⟨H, bo, tm', x1, x2, x3⟩ := tl (.s undef) (.s (.slice none 0 0)) (.s undef) (.s undef) (.s undef) (.s undef) (.pt br vr 0) (.s (.int .u64 (numS s 0).1)) (.pt br vr 0) (.pt br vr 0) (.pt br vr 1) (.s (.int .i64 (numS s 0).2.2)) (.s (.bool true)) (.s (.bool true)) (.s (.int .u64 (numS s 0).1)) (.s (.bool true)) (.s (.bool true)) (.pt br vr 0) (.pt br vr 0) (.pt br vr 1)
      refine ⟨H, bo, tm', x1, x2, ?_⟩
      apply Run.seq
      · apply Run.step 20; intro k j
        simp
        (constructor <;> rfl)
      · apply Run.seq
        · apply Run.step 20; intro k j
          simp [hc, hkNum, hb, hs]
          (constructor <;> rfl)
        · apply Run.seq
          · apply Run.step 20; intro k j
            simp [hb, hlt, oneOr, cellsOf, isCell, eq_true hbad.1, eq_true hbad.2]
            (constructor <;> rfl)
          · exact x3
    exact ⟨H, bo, FRun.of (e := .ret) (hT.trans p59) x3 (Or.inl rfl) (by simp [resAs, resA, x1, tupA]), x2⟩
  · have e : slotsR s = slotsF (numS s 0).1.toNat [] (numS s 0).2.1 (numS s 0).2.2 := if_neg hbad
    rw [e]
    have hI : InvS h0 (h0.set br ⟨vr, er, 2, true, [.s (.string (numS s 0).2.1), .s (.int .i64 (numS s 0).2.2)]⟩) br 0 vr er [] (numS s 0).2.1 (numS s 0).2.2 :=
      ⟨by simp [hlt], fun b h1 h2 => by simp [Ne.symm h2], by simp, fun h => absurd rfl h⟩
    have hmany : (numS s 0).1 ≤ 65536 := by
      rw [e0] at hbad ⊢
      rcases gets_err s with h | h | h
      · omega
      · rw [h]; simp
      · rw [h]; simp
    have tl := slots_tail (T := T) h0 _ br vr er (numS s 0).1 (slotsF (numS s 0).1.toNat [] (numS s 0).2.1 (numS s 0).2.2) (fun a1 a2 a6 a7 a8 a9 a10 a11 a12 a13 a14 a15 a16 a17 a18 a19 a20 a21 a83 => by
      exact slots_l hN h0 br vr er (by omega) (numS s 0).1 hmany (numS s 0).1.toNat _ 0 [] (numS s 0).2.1 (numS s 0).2.2 hs1 (by simp; omega) hI (by simp) a1 a2 a6 a7 a8 a9 a10 a11 a12 a13 a14 a15 a16 a17 a18 a19 a20 a21 a83)
    obtain ⟨H, bo, tm', x1, x2, x3⟩ : ∃ H bo tm', tm'[2]? = some (outA bo (slotsF (numS s 0).1.toNat [] (numS s 0).2.1 (numS s 0).2.2).1) ∧ InvS h0 H br bo vr er (slotsF (numS s 0).1.toNat [] (numS s 0).2.1 (numS s 0).2.2).1 (slotsF (numS s 0).1.toNat [] (numS s 0).2.1 (numS s 0).2.2).2.1 (slotsF (numS s 0).1.toNat [] (numS s 0).2.1 (numS s 0).2.2).2.2 ∧ Run Try.prog T c59 ([.pt br vr 0] ++ List.replicate 83 (.s undef)) h0 (.ret, tm', H) := by
      by_cases hw : (numS s 0).2.2 = 0
      · have hm : ¬ 65536 < (numS s 0).1 := by omega
        obtain ⟨H, bo, tm', x1, x2, x3⟩ := tl (.s undef) (.s (.slice none 0 0)) (.s undef) (.s undef) (.s undef) (.s undef) (.pt br vr 0) (.s (.int .u64 (numS s 0).1)) (.pt br vr 0) (.pt br vr 0) (.pt br vr 1) (.s (.int .i64 (numS s 0).2.2)) (.s (.bool true)) (.s (.bool true)) (.s (.int .u64 (numS s 0).1)) (.s (.bool false)) (.s (.bool false)) (.s undef) (.s undef) (.s undef)
        refine ⟨H, bo, tm', x1, x2, ?_⟩
        apply Run.seq
        · apply Run.step 20; intro k j
          simp
          (constructor <;> rfl)
        · apply Run.seq
          · apply Run.step 20; intro k j
            simp [hc, hkNum, hb, hs]
            (constructor <;> rfl)
          · apply Run.seq
            · apply Run.step 20; intro k j
              simp [hb, hlt, oneOr, cellsOf, isCell, eq_true hw, eq_false hm]
              (constructor <;> rfl)
            · exact x3
      · obtain ⟨H, bo, tm', x1, x2, x3⟩ := tl (.s undef) (.s (.slice none 0 0)) (.s undef) (.s undef) (.s undef) (.s undef) (.pt br vr 0) (.s (.int .u64 (numS s 0).1)) (.pt br vr 0) (.pt br vr 0) (.pt br vr 1) (.s (.int .i64 (numS s 0).2.2)) (.s (.bool false)) (.s (.bool false)) (.s undef) (.s undef) (.s (.bool false)) (.s undef) (.s undef) (.s undef)
        refine ⟨H, bo, tm', x1, x2, ?_⟩
        apply Run.seq
        · apply Run.step 20; intro k j
          simp
          (constructor <;> rfl)
        · apply Run.seq
          · apply Run.step 20; intro k j
            simp [hc, hkNum, hb, hs]
            (constructor <;> rfl)
          · apply Run.seq
            · apply Run.step 20; intro k j
              simp [hb, hlt, oneOr, cellsOf, isCell, eq_false hw]
              (constructor <;> rfl)
            · exact x3
    exact ⟨H, bo, FRun.of (e := .ret) (hT.trans p59) x3 (Or.inl rfl) (by simp [resAs, resA, x1, tupA]), x2⟩
end Go.Proofs.Ytpmoellbfgcefaa.AS
end
