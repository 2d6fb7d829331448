/- Of our own: an abstract machine beside the model, its soundness, and walks of the program in it. -/
import Derived.Test.YtpmoellbfgcefaaA12
set_option linter.unusedSimpArgs false
set_option linter.unusedVariables false
section
set_option autoImplicit false
set_option maxRecDepth 100000
set_option maxHeartbeats 2000000
set_option linter.unusedSimpArgs false
namespace Go.Proofs.Ytpmoellbfgcefaa.AS
open Go Go.Proofs Go.RowKit Go.Proofs.Ytpmoellbfgcefaa.AS.V

def by8 (B : List Int) : List AV := B.map fun c => .s (.int .u8 c)
def outB (b : Nat) : List Int → AV
  | [] => .s (.slice none 0 0)
  | _ :: L => .sl b L.length 0 (L.length + 1) 1
theorem bytesA_by8 : ∀ B : List Int, bytesA (by8 B) = some B
  | [] => rfl
  | x :: B => by
    have := bytesA_by8 B
    unfold by8 at this ⊢
    simp [bytesA, this]
structure InvB (h0 h' : Heap) (b e : Nat) (B : List Int) : Prop where
  old : ∀ b, b < h0.length → bk h' b = bk h0 b
  len : h0.length ≤ h'.length
  out : B ≠ [] → h0.length ≤ b ∧ bk h' b = some ⟨B.length - 1, e, 1, true, by8 B⟩
def fr85 (n : Int) (out a1 a2 a15 a16 a17 a18 a19 a20 : AV) : List AV := [.s (.int .u64 n), a1, a2, out] ++ List.replicate 11 .any ++ [a15, a16, a17, a18, a19, a20]
noncomputable def body85 : ACode := match c85 with
  | .seq _ (.seq _ (.seq (.block _ (.loop _ b)) _)) => b
  | _ => .skip
noncomputable def fg85 : List Nat := match c85 with
  | .seq _ (.seq _ (.seq (.block _ (.loop fg _)) _)) => fg
  | _ => []
noncomputable def tail85 : ACode := match c85 with
  | .seq _ (.seq _ (.seq _ t)) => t
  | _ => .skip
def b2V (h : Heap) (a : Option AV) : Option AV := match a with
    | some (.sl b v o n _) => match (rdK (bk h b) v o n).bind bytesA with
      | some bs => some (.s (.string (strOfNums bs)))
      | none => none
    | some (.s (.slice none _ _)) => some (.s (.string .empty))
    | _ => none
@[simp] theorem rV_b2s (tm : List AV) (h : Heap) (x : Operand) : rV tm h (.b2s x) = b2V h (evO tm x) := by
  simp only [rV, b2V, rdn_K]; rfl
@[simp] theorem b2V_sl (h : Heap) (b v o n z : Nat) : b2V h (some (.sl b v o n z)) = ((rdK (bk h b) v o n).bind bytesA).map fun bs => .s (.string (strOfNums bs)) := by
  simp only [b2V]
  cases (rdK (bk h b) v o n).bind bytesA <;> rfl

theorem put_end {T : FuncId → Option AFunc} (n : Int) (h0 : 0 ≤ n) (h1 : n < 128) (g0 h' : Heap) (b : Nat) (B : List Int) (hB : B.length ≤ 100) (hI : InvB g0 h' b 5 B) (a1 a2 a15 a16 a17 a18 a19 a20 : AV) :
    ∃ H tm', (∀ b, b < g0.length → bk H b = bk g0 b) ∧ tm'[2]? = some (.s (.string (strOfNums (B ++ [n])))) ∧ Run Try.prog T (.seq (.block 0 (.loop fg85 body85)) tail85) (fr85 n (outB b B) a1 a2 a15 a16 a17 a18 a19 a20) h' (.ret, tm', H) := by
  have hle := hI.len
  have w8 : IntKind.u8.wrap n = n := by simp [IntKind.wrap, IntKind.bits, IntKind.signed]; omega
  have hn : ¬ 127 < n := by omega
  have hx : Run Try.prog T (.block 0 (.loop fg85 body85)) (fr85 n (outB b B) a1 a2 a15 a16 a17 a18 a19 a20) h' (.normal, [.s (.int .u64 n), a1, a2, outB b B, .s (.int .u64 n), .s (.bool false)] ++ List.replicate 9 .any ++ [a15, a16, a17, a18, a19, a20], h') := by
    apply Run.block_exit
    refine Run.loop_end (by simp) (Run.step 30 fun k j => ?_)
    simp [c85, fg85, body85, fr85, forget, hn]
  cases B with
  | nil =>
    refine ⟨?qH, ?qtm, ?qold, ?qo, Run.seq hx (Run.step 30 fun k j => ?qrun)⟩
    case qrun =>
      simp [c85, tail85, outB, w8, fillA, cellsOf, apV_nil, isCell, bytesA, Try.underlying5, Try.underlying35]
      (constructor <;> rfl)
    case qold =>
      intro b h1
      have h3 : b < h'.length := by omega
      simp [h3, hI.old b h1]
    case qo => rfl
  | cons y B =>
    obtain ⟨hb1, hb2⟩ := hI.out (by simp)
    simp only [List.length_cons, Nat.add_sub_cancel] at hb2 hB
    have hlb := bk_lt hb2
    have n1 : b ≠ h'.length := by omega
    have b2 : B.length + 1 + 1 ≤ 9223372036854775807 := by omega
    have b1 : B.length + 1 + 1 ≤ 140737488355328 := by omega
    have hC : (by8 (y :: B)).length = B.length + 1 := by simp [by8]
    have hby := bytesA_by8 (y :: B ++ [n])
    have e1 : by8 (y :: B ++ [n]) = by8 (y :: B) ++ [.s (.int .u8 n)] := by simp [by8]
    rw [e1] at hby
    generalize by8 (y :: B) = C at hb2 hC hby
    have hall : C.take (B.length + 1) = C := List.take_of_length_le (by omega)
    have hall2 : (C ++ [AV.s (.int .u8 n)]).take (B.length + 1 + 1) = C ++ [AV.s (.int .u8 n)] := List.take_of_length_le (by simp; omega)
    have hle1 : B.length + 1 ≤ C.length := by omega
    have hle2 : B.length + 1 + 1 ≤ C.length + 1 := by omega
    refine ⟨?qH2, ?qtm2, ?qold2, ?qo2, Run.seq hx (Run.step 30 fun k j => ?qrun2)⟩
    case qrun2 =>
      simp [c85, tail85, outB, w8, fillA, cellsOf, apK_s, isCell, Try.underlying5, Try.underlying35, hb2, hlb, n1, b1, b2, hC, hall, hall2, hle1, hle2, hby]
      (constructor <;> rfl)
    case qold2 =>
      intro b' h1
      have h3 : b' < h'.length := by omega
      have h4 : b ≠ b' := by omega
      simp [h3, h4, hI.old b' h1]
    case qo2 => rfl
theorem put_one {T : FuncId → Option AFunc} (n : Int) (h0 : 128 ≤ n) (h1 : n ≤ 18446744073709551615) (g0 h' : Heap) (b : Nat) (B : List Int) (hB : B.length ≤ 100) (hI : InvB g0 h' b 5 B) (a1 a2 a15 a16 a17 a18 a19 a20 : AV) :
    ∃ H b' tm', InvB g0 H b' 5 (B ++ [n % 128 + 128]) ∧ forget fg85 tm' = fr85 (n / 128) (outB b' (B ++ [n % 128 + 128])) a1 a2 a15 a16 a17 a18 a19 a20 ∧ Run Try.prog T body85 (fr85 n (outB b B) a1 a2 a15 a16 a17 a18 a19 a20) h' (.normal, tm', H) := by
  have hle := hI.len
  have hn : 127 < n := by omega
  have t1 : n.tmod 128 = n % 128 := Int.tmod_eq_emod_of_nonneg (by omega)
  have t2 : n.tdiv 128 = n / 128 := Int.tdiv_eq_ediv_of_nonneg (by omega)
  have w8 : IntKind.u8.wrap (n % 128) = n % 128 := by simp [IntKind.wrap, IntKind.bits, IntKind.signed]; omega
  have w9 : IntKind.u8.wrap (n % 128 + 128) = n % 128 + 128 := by simp [IntKind.wrap, IntKind.bits, IntKind.signed]; omega
  have wq : IntKind.u64.wrap (n / 128) = n / 128 := wu64 (by omega) (by omega)
  cases B with
  | nil =>
    refine ⟨?qH, h'.length + 1, ?qtm, ?qinv, ?qfg, Run.step 30 fun k j => ?qrun⟩
    case qrun =>
      simp [c85, body85, fr85, outB, w8, w9, wq, t1, t2, hn, fillA, cellsOf, apV_nil, isCell, Try.underlying5, Try.underlying35]
      (constructor <;> rfl)
    case qinv =>
      refine ⟨fun b h1 => ?_, by simp; omega, fun _ => ⟨by omega, by simp [by8]⟩⟩
      have h3 : b < h'.length := by omega
      simp [h3, hI.old b h1]
    case qfg => simp [forget, fg85, c85, fr85, outB]
  | cons y B =>
    obtain ⟨hb1, hb2⟩ := hI.out (by simp)
    simp only [List.length_cons, Nat.add_sub_cancel] at hb2 hB
    have hlb := bk_lt hb2
    have n1 : b ≠ h'.length := by omega
    have b2 : B.length + 1 + 1 ≤ 9223372036854775807 := by omega
    have b1 : B.length + 1 + 1 ≤ 140737488355328 := by omega
    have hC : (by8 (y :: B)).length = B.length + 1 := by simp [by8]
    have e1 : by8 (y :: B ++ [n % 128 + 128]) = by8 (y :: B) ++ [.s (.int .u8 (n % 128 + 128))] := by simp [by8]
    have hle1 : B.length + 1 ≤ (by8 (y :: B)).length := by omega
    have hall : (by8 (y :: B)).take (B.length + 1) = by8 (y :: B) := List.take_of_length_le (by omega)
    generalize by8 (y :: B) = C at hb2 hC hall hle1 e1
    refine ⟨?qH2, b, ?qtm2, ?qinv2, ?qfg2, Run.step 30 fun k j => ?qrun2⟩
    case qrun2 =>
      simp [c85, body85, fr85, outB, w8, w9, wq, t1, t2, hn, fillA, cellsOf, apK_s, isCell, Try.underlying5, Try.underlying35, hb2, hlb, n1, b1, b2, hall, hle1]
      (constructor <;> rfl)
    case qinv2 =>
      refine ⟨fun b' h1 => ?_, by simp; omega, fun _ => ⟨by omega, ?_⟩⟩
      · have h3 : b' < h'.length := by omega
        have h4 : b ≠ b' := by omega
        simp [h3, h4, hI.old b' h1]
      · rw [e1]; simp [hlb]
    case qfg2 => simp [forget, fg85, c85, fr85, outB]
theorem put_l {T : FuncId → Option AFunc} (g0 : Heap) : ∀ n, 0 ≤ n → n ≤ 18446744073709551615 → ∀ (h' : Heap) (b : Nat) (B : List Int), B.length + (leb n).length ≤ 100 → InvB g0 h' b 5 B → ∀ (a1 a2 a15 a16 a17 a18 a19 a20 : AV),
    ∃ H tm', (∀ b, b < g0.length → bk H b = bk g0 b) ∧ tm'[2]? = some (AV.s (Value.string (strOfNums (B ++ leb n)))) ∧ Run Try.prog T (.seq (.block 0 (.loop fg85 body85)) tail85) (fr85 n (outB b B) a1 a2 a15 a16 a17 a18 a19 a20) h' (.ret, tm', H) := by
  apply leb_ind (P := fun n => ∀ (h' : Heap) (b : Nat) (B : List Int), B.length + (leb n).length ≤ 100 → InvB g0 h' b 5 B → ∀ (a1 a2 a15 a16 a17 a18 a19 a20 : AV),
    ∃ H tm', (∀ b, b < g0.length → bk H b = bk g0 b) ∧ tm'[2]? = some (AV.s (Value.string (strOfNums (B ++ leb n)))) ∧ Run Try.prog T (.seq (.block 0 (.loop fg85 body85)) tail85) (fr85 n (outB b B) a1 a2 a15 a16 a17 a18 a19 a20) h' (.ret, tm', H))
  · intro n h0 h1 h' b B hB hI a1 a2 a15 a16 a17 a18 a19 a20
    rw [leb_lt h1]
    exact put_end n h0 h1 g0 h' b B (by omega) hI a1 a2 a15 a16 a17 a18 a19 a20
  · intro n h0 h1 ih h' b B hB hI a1 a2 a15 a16 a17 a18 a19 a20
    rw [leb_ge h0 h1] at hB ⊢
    simp only [List.length_cons] at hB
    obtain ⟨H, b', tm', x1, x2, x3⟩ := put_one (T := T) n h0 h1 g0 h' b B (by omega) hI a1 a2 a15 a16 a17 a18 a19 a20
    obtain ⟨H2, tm2, y1, y2, y3⟩ := ih H b' (B ++ [n % 128 + 128]) (by simp; omega) x1 a1 a2 a15 a16 a17 a18 a19 a20
    refine ⟨H2, tm2, y1, by simpa using y2, ?_⟩
    have hfg : forget fg85 (fr85 n (outB b B) a1 a2 a15 a16 a17 a18 a19 a20) = fr85 n (outB b B) a1 a2 a15 a16 a17 a18 a19 a20 := by simp [forget, fg85, c85, fr85]
    exact Run.seq_block_loop hfg x3 x2 y3
theorem put_run {T : FuncId → Option AFunc} (hT : T 85 = prepFn Try.prog 85) (n : Int) (h0 : 0 ≤ n) (h1 : n ≤ 18446744073709551615) (h : Heap) : ∃ H, FRun Try.prog T 85 [.s (.int .u64 n)] h (.s (.string (puts n)), H) ∧ (∀ b, b < h.length → bk H b = bk h b) := by
  have hl := (leb_length_le h0 h1).2
  obtain ⟨H, tm', x1, x2, x3⟩ := put_l (T := T) h n h0 h1 h 0 [] (by simp; omega) ⟨fun _ _ => rfl, Nat.le_refl _, fun h => absurd rfl h⟩ (.s undef) (.s (.string ⟨#[]⟩)) (.s undef) (.s undef) (.s undef) (.s undef) (.s undef) (.s undef)
  refine ⟨H, ?_, x1⟩
  apply FRun.of (e := .ret) (tm' := tm') (hT.trans p85)
  · apply Run.seq
    · apply Run.step 20; intro k j
      simp
      (constructor <;> rfl)
    · apply Run.seq
      · apply Run.step 20; intro k j
        simp
        (constructor <;> rfl)
      · exact Run.seq_block_forget (by simp [forget, fg85, c85, fr85, outB]) x3
  · exact Or.inl rfl
  · simp [resAs, resA, x2, tupA, puts]
noncomputable def hkPut : List AV → Heap → Option (AV × Heap)
  | [.s (.int .u64 n)], h => if 0 ≤ n ∧ n ≤ 18446744073709551615 then some (.s (.string (puts n)), h) else none
  | _, _ => none
theorem hkPut_ok {T : FuncId → Option AFunc} (hm : Try.prog.follows .mixedOrders = true) (hT : TabOK Try.prog T) (h85 : T 85 = prepFn Try.prog 85) (hc : callable Try.prog 85 = true) : HookSound Try.prog 85 hkPut := by
  refine hookOf hm hT hc fun l h r he => ?_
  unfold hkPut at he
  split at he
  · rename_i n
    split at he
    · rename_i hn
      cases he
      obtain ⟨H, hF, h1⟩ := put_run h85 n hn.1 hn.2 h
      exact ⟨_, hF, Drops.flat (grows_of h1) rfl⟩
    · cases he
  · cases he
end Go.Proofs.Ytpmoellbfgcefaa.AS
end
section
set_option autoImplicit false
set_option maxRecDepth 100000
set_option maxHeartbeats 2000000
set_option linter.unusedSimpArgs false
namespace Go.Proofs.Ytpmoellbfgcefaa.AS
open Go Go.Proofs Go.RowKit Go.Proofs.Ytpmoellbfgcefaa.AS.V

def fr75 (s : ByteArray) (a1 : AV) (acc i : Int) : List AV := [.s (.string s), a1, .any, .any, .any, .s (.int .u64 acc), .s (.int .i64 i)] ++ List.replicate 41 .any
noncomputable def body75 : ACode := match c75 with
  | .seq _ (.seq _ (.seq (.seq _ (.block _ (.loop _ b))) _)) => b
  | _ => .skip
noncomputable def fg75 : List Nat := match c75 with
  | .seq _ (.seq _ (.seq (.seq _ (.block _ (.loop fg _))) _)) => fg
  | _ => []
def got (tm : List AV) (g : Int × List Int × Int) : Prop := tm[2]? = some (.s (.int .u64 g.1)) ∧ tm[3]? = some (.s (.string (strOfNums g.2.1))) ∧ tm[4]? = some (.s (.int .i64 g.2.2))
theorem get75_l {T : FuncId → Option AFunc} (hP : T 85 = some (.hook hkPut)) (s : ByteArray) (hs : s.size ≤ 9223372036854775807) (h : Heap) (a1 : AV) : ∀ (d i : Nat) (acc : Int), i + d = s.size → i ≤ 9 → 0 ≤ acc → acc < 128 ^ i →
    (∀ m, 0 < m → acc + m * 128 ^ i ≤ 18446744073709551615 → leb (acc + m * 128 ^ i) = (bytesOf s).take i ++ leb m) →
    ∃ e tm', Run Try.prog T (.loop fg75 body75) (fr75 s a1 acc i) h (e, tm', h) ∧ ((e = .exit 0 ∧ tm'.length = 48 ∧ G ((bytesOf s).drop i) i acc = (0, [], 5)) ∨ (e = .ret ∧ got tm' (G ((bytesOf s).drop i) i acc))) := by
  intro d
  have hfg : ∀ (acc i : Int), forget fg75 (fr75 s a1 acc i) = fr75 s a1 acc i := fun acc i => by simp [forget, fg75, c75, fr75]
  induction d with
  | zero =>
    intro i acc hd hi ha hb hp
    rw [List.drop_eq_nil_of_le (by rw [bytesOf_length]; omega)]
    have hlt : ¬ (i : Int) < s.size := by omega
    refine ⟨.exit 0, ?q1, Run.loop_end_f (hfg _ _) (by simp) (Run.step 30 fun k j => ?q2), Or.inl ⟨rfl, ?q3, rfl⟩⟩
    case q2 =>
      simp [c75, body75, fr75, Try.underlying9, eq_false hlt]
      rfl
    case q3 => rfl
  | succ d ih =>
    intro i acc hd hi ha hb hp
    have hlt : i < s.size := by omega
    have hlt' : (i : Int) < s.size := by omega
    have hc := bt_range s (i : Int)
    have hx := fun t h => ix_bt (P := Try.prog) (t := t) h s .i64 i hlt
    have hcall := fun k l h => evFn_hook (P := Try.prog) (T := T) (k := k) (f := 85) (args := l) (h := h) hP
    rw [bytesOf_drop_cons s i hlt]
    have htk : (bytesOf s).take (i + 1) = (bytesOf s).take i ++ [bt s (i : Int)] := by
      rw [List.take_succ_eq_append_getElem (by rw [bytesOf_length]; exact hlt), bytesOf_get s i hlt]
    generalize hcv : bt s (i : Int) = c at hc hx htk
    have w7 : IntKind.i64.wrap (7 * (i : Int)) = 7 * (i : Int) := w64k (by omega) (by omega)
    have w7' : IntKind.u64.wrap (7 * (i : Int)) = 7 * (i : Int) := wu64 (by omega) (by omega)
    have w1 : IntKind.i64.wrap ((i : Int) + 1) = (i : Int) + 1 := w64k (by omega) (by omega)
    have h7 : (0 : Int) ≤ 7 * (i : Int) := by omega
    have hmod := mod128 hc.1 hc.2
    rw [G]
    by_cases hbad : i = 9 ∧ c > 1
    · rw [if_pos hbad]
      have h9 : (i : Int) = 9 := by omega
      have h1 : 1 < c := hbad.2
      refine ⟨.ret, ?q4, Run.loop_end_f (hfg _ _) (by simp) (Run.step 30 fun k j => ?q5), Or.inr ⟨rfl, ?q6⟩⟩
      case q5 =>
        simp [c75, body75, fr75, hx, Try.underlying9, eq_true hlt', eq_true h9, eq_true h1]
        rfl
      case q6 => exact ⟨rfl, rfl, rfl⟩
    rw [if_neg hbad]
    have hsh := shl_at hi (y := c % 128) (by omega) (by omega) (fun h => by omega)
    have hn := acc_next hi (y := c % 128) (by omega) (by omega) ha hb
    have hw : IntKind.u64.wrap (acc + c % 128 * 128 ^ i) = acc + c % 128 * 128 ^ i := wu64 hn.1 (by omega)
    by_cases hbig : 127 < c
    · rw [if_pos (by omega)]
      have h9 : ¬ ((i : Int) = 9) := by omega
      have hpn : ∀ m, 0 < m → acc + (c - 128) * 128 ^ i + m * 128 ^ (i + 1) ≤ 18446744073709551615 → leb (acc + (c - 128) * 128 ^ i + m * 128 ^ (i + 1)) = (bytesOf s).take (i + 1) ++ leb m := by
        intro m hm hle
        have e : acc + (c - 128) * 128 ^ i + m * 128 ^ (i + 1) = acc + (c - 128 + 128 * m) * 128 ^ i := by
          rw [Int.pow_succ, Int.add_mul, Int.add_assoc]
          congr 2
          rw [Int.mul_comm 128 m, Int.mul_assoc, Int.mul_comm 128]
        have hm2 : c - 128 + 128 * m ≤ 18446744073709551615 := by
          have p := p128_pos i
          have : (c - 128 + 128 * m) * 1 ≤ (c - 128 + 128 * m) * 128 ^ i := Int.mul_le_mul_of_nonneg_left (by omega) (by omega)
          rw [e] at hle
          omega
        rw [e] at hle ⊢
        rw [hp _ (by omega) hle, leb_ge (by omega) hm2, htk, show (c - 128 + 128 * m) % 128 + 128 = c by omega, show (c - 128 + 128 * m) / 128 = m by omega]
        simp
      have hn' := hn
      rw [show c % 128 = c - 128 by omega] at hn'
      obtain ⟨e, tm', hr, hv⟩ := ih (i + 1) (acc + (c - 128) * 128 ^ i) (by omega) (by omega) hn'.1 hn'.2 hpn
      refine ⟨e, tm', Run.loop_go (hfg _ _) (Run.step 30 fun k j => ?q8) (tm' := ?q7) ?q9 hr, hv⟩
      case q8 =>
        simp [c75, body75, fr75, hx, Try.underlying9, Try.underlying5, Try.underlying35, Try.underlying3, Try.underlying114, eq_true hlt', eq_false h9, h7, w7, w7', w1, hmod, hsh.1, hw, eq_true hbig]
        (first | rfl | (constructor <;> rfl))
      case q9 => simp [forget, fg75, c75, fr75, show c % 128 = c - 128 by omega]
    · rw [if_neg (by omega)]
      have hx' : s.extract (i + 1) s.size = strOfNums ((bytesOf s).drop (i + 1)) := extract_eq_strOf s (i + 1) (by omega)
      have hx0 : bytesOf (s.extract 0 (i + 1)) = (bytesOf s).take i ++ [c] := by rw [bytesOf_extract s 0 (i + 1) (by omega), List.drop_zero, htk]
      have hsl : ∀ t, Try.prog.underlying t = some .string → slS Try.prog t (some (.s (.string s))) (some (some (.s (.int .i64 ((i : Int) + 1))))) none = some (.s (.string (strOfNums ((bytesOf s).drop (i + 1))))) := fun t h => by
        rw [sl_lo h s .i64 ((i : Int) + 1) (by omega) (by omega), show ((i : Int) + 1).toNat = i + 1 by omega, hx']
      have hsh2 : ∀ t, Try.prog.underlying t = some .string → slS Try.prog t (some (.s (.string s))) none (some (some (.s (.int .i64 ((i : Int) + 1))))) = some (.s (.string (s.extract 0 (i + 1)))) := fun t h => by
        rw [sl_hi h s .i64 ((i : Int) + 1) (by omega) (by omega), show ((i : Int) + 1).toNat = i + 1 by omega]
      rw [show c % 128 = c by omega] at hn hw hsh hmod
      have hv : acc + c * 128 ^ i ≤ 18446744073709551615 := by
        have := hsh.2.2
        omega
      have hcm : ((puts (acc + c * 128 ^ i)).toList == (s.extract 0 (i + 1)).toList) = !decide (c = 0 ∧ 0 < i) := by
        by_cases h0 : c = 0 ∧ 0 < i
        · rw [decide_eq_true h0]
          simp only [Bool.not_true, beq_eq_false_iff_ne, ne_eq]
          intro he
          have := congrArg List.length (congrArg bytesOf (toList_inj he))
          rw [hx0, bytesOf_puts hn.1 hv] at this
          obtain ⟨rfl, hi0⟩ := h0
          obtain ⟨j, rfl⟩ : ∃ j, i = j + 1 := ⟨i - 1, by omega⟩
          rw [Int.zero_mul, Int.add_zero] at this
          have h3 := (leb_length_few acc ha (by omega) j).mpr hb
          rw [List.length_append, List.length_take, bytesOf_length] at this
          simp at this
          omega
        · rw [decide_eq_false h0]
          simp only [Bool.not_false, beq_iff_eq]
          congr 1
          apply bytesOf_inj
          rw [hx0, bytesOf_puts hn.1 hv]
          by_cases hc0 : c = 0
          · obtain rfl : i = 0 := by omega
            subst hc0
            simp at hb
            obtain rfl : acc = 0 := by omega
            simp [leb_lt]
          · rw [hp c (by omega) hv, leb_lt (by omega)]
      by_cases h0 : c = 0 ∧ 0 < i
      · rw [if_pos h0]
        rw [decide_eq_true h0] at hcm
        by_cases h9 : (i : Int) = 9
        · have h1 : ¬ 1 < c := by omega
          refine ⟨.ret, ?q201, Run.loop_end_f (hfg _ _) (by simp) (Run.step 30 fun k j => ?q202), Or.inr ⟨rfl, ?q203⟩⟩
          case q202 =>
            simp [c75, body75, fr75, hx, Try.underlying9, Try.underlying5, Try.underlying35, Try.underlying3, Try.underlying114, eq_true hlt', eq_true h9, eq_false h1, h7, w7, w7', w1, hmod, hsh.1, hw, eq_false hbig, hcall, hkPut, hn.1, hv, hsl, hsh2, hcm]
            (first | rfl | (constructor <;> rfl))
          case q203 => exact ⟨rfl, rfl, rfl⟩

        · refine ⟨.ret, ?q211, Run.loop_end_f (hfg _ _) (by simp) (Run.step 30 fun k j => ?q212), Or.inr ⟨rfl, ?q213⟩⟩
          case q212 =>
            simp [c75, body75, fr75, hx, Try.underlying9, Try.underlying5, Try.underlying35, Try.underlying3, Try.underlying114, eq_true hlt', eq_false h9, h7, w7, w7', w1, hmod, hsh.1, hw, eq_false hbig, hcall, hkPut, hn.1, hv, hsl, hsh2, hcm]
            (first | rfl | (constructor <;> rfl))
          case q213 => exact ⟨rfl, rfl, rfl⟩

      · rw [if_neg h0]
        rw [decide_eq_false h0] at hcm
        by_cases h9 : (i : Int) = 9
        · have h1 : ¬ 1 < c := by omega
          refine ⟨.ret, ?q221, Run.loop_end_f (hfg _ _) (by simp) (Run.step 30 fun k j => ?q222), Or.inr ⟨rfl, ?q223⟩⟩
          case q222 =>
            simp [c75, body75, fr75, hx, Try.underlying9, Try.underlying5, Try.underlying35, Try.underlying3, Try.underlying114, eq_true hlt', eq_true h9, eq_false h1, h7, w7, w7', w1, hmod, hsh.1, hw, eq_false hbig, hcall, hkPut, hn.1, hv, hsl, hsh2, hcm]
            (first | rfl | (constructor <;> rfl))
          case q223 => exact ⟨rfl, rfl, rfl⟩

        · refine ⟨.ret, ?q231, Run.loop_end_f (hfg _ _) (by simp) (Run.step 30 fun k j => ?q232), Or.inr ⟨rfl, ?q233⟩⟩
          case q232 =>
            simp [c75, body75, fr75, hx, Try.underlying9, Try.underlying5, Try.underlying35, Try.underlying3, Try.underlying114, eq_true hlt', eq_false h9, h7, w7, w7', w1, hmod, hsh.1, hw, eq_false hbig, hcall, hkPut, hn.1, hv, hsl, hsh2, hcm]
            (first | rfl | (constructor <;> rfl))
          case q233 => exact ⟨rfl, rfl, rfl⟩

theorem get75_run {T : FuncId → Option AFunc} (hT : T 75 = prepFn Try.prog 75) (hP : T 85 = some (.hook hkPut)) (s : ByteArray) (hs : s.size ≤ 9223372036854775807) (h : Heap) : FRun Try.prog T 75 [.s (.string s)] h (.tp [.s (.int .u64 (gets s).1), .s (.string (gets s).2.1), .s (.int .i64 (gets s).2.2)], h) := by
  obtain ⟨e, tm', hr, hv⟩ := get75_l (T := T) hP s hs h (.s undef) s.size 0 0 (by omega) (by omega) (by omega) (by simp) (by intro m _ _; simp)
  rw [List.drop_zero] at hv
  have hpre : ∀ {r : Res}, Run Try.prog T (match c75 with | .seq _ (.seq _ t) => t | _ => .skip) ([.s (.string s), .s undef, .s (.int .u64 0), .s (.string ⟨#[]⟩), .s (.int .i64 0), .s (.int .u64 0)] ++ List.replicate 42 (.s undef)) h r → Run Try.prog T c75 ([.s (.string s)] ++ List.replicate 47 (.s undef)) h r := fun {r} H => by
    apply Run.seq
    · apply Run.step 20; intro k j
      simp
      (first | rfl | (constructor <;> rfl))
    · apply Run.seq
      · apply Run.step 20; intro k j
        simp
        (first | rfl | (constructor <;> rfl))
      · exact H
  rcases hv with ⟨rfl, hl, hG⟩ | ⟨rfl, x1, x2, x3⟩
  · have e1 : gets s = (0, ⟨#[]⟩, 5) := by unfold gets; rw [hG]; rfl
    rw [e1]
    apply FRun.of (e := .ret) (hT.trans p75)
    · apply hpre
      apply Run.seq
      · apply Run.seq
        · apply Run.step 20; intro k j
          simp
          (first | rfl | (constructor <;> rfl))
        · apply Run.block_exit
          apply Run.loop_go' hr
          simp [forget, fg75, c75, fr75]
      · apply Run.step 20; intro k j
        simp
        (first | rfl | (constructor <;> rfl))
    · exact Or.inl rfl
    · simp [resAs, resA, tupA, hl]
  · apply FRun.of (e := .ret) (tm' := tm') (hT.trans p75)
    · apply hpre
      apply Run.seq_stop (by simp)
      apply Run.seq
      · apply Run.step 20; intro k j
        simp
        (first | rfl | (constructor <;> rfl))
      · apply Run.block_id (by simp)
        apply Run.loop_go' hr
        simp [forget, fg75, c75, fr75]
    · exact Or.inl rfl
    · simp [resAs, resA, tupA, x1, x2, x3, gets]
theorem hkGet75_ok {T : FuncId → Option AFunc} (hm : Try.prog.follows .mixedOrders = true) (hT : TabOK Try.prog T) (h75 : T 75 = prepFn Try.prog 75) (hP : T 85 = some (.hook hkPut)) (hc : callable Try.prog 75 = true) : HookSound Try.prog 75 hkGet := by
  refine hookOf hm hT hc fun l h r he => ?_
  unfold hkGet at he
  split at he
  · rename_i s
    split at he
    · rename_i hs
      cases he
      exact ⟨_, get75_run h75 hP s hs h, Drops.refl _ _⟩
    · cases he
  · cases he
end Go.Proofs.Ytpmoellbfgcefaa.AS
end
section
set_option autoImplicit false
set_option maxRecDepth 100000
set_option maxHeartbeats 2000000
set_option linter.unusedSimpArgs false
namespace Go.Proofs.Ytpmoellbfgcefaa.AS
open Go Go.Proofs Go.RowKit Go.Proofs.Ytpmoellbfgcefaa.AS.V

def key0 (x : Int × Int) : Int × ByteArray := (x.1, ⟨#[]⟩)
def szC (x : Int × Int) : AV := .s (.int .u64 x.2)
def outS (b : Nat) : List (Int × Int) → AV
  | [] => .s (.slice none 0 0)
  | _ :: L => .sl b L.length 0 (L.length + 1) 1
def outK (b : Nat) : List (Int × Int) → AV
  | [] => .s (.slice none 0 0)
  | _ :: L => .sl b L.length 0 (L.length + 1) 2
theorem outS_sl {b m : Nat} {L : List (Int × Int)} (h : L.length = m + 1) : outS b L = .sl b m 0 (m + 1) 1 := by
  cases L with
  | nil => simp at h
  | cons x L => simp at h; simp [outS, h]
theorem outK_sl {b m : Nat} {L : List (Int × Int)} (h : L.length = m + 1) : outK b L = .sl b m 0 (m + 1) 2 := by
  cases L with
  | nil => simp at h
  | cons x L => simp at h; simp [outK, h]
structure InvR (h0 h' : Heap) (bo bs : Nat) (L : List (Int × Int)) : Prop where
  old : ∀ b, b < h0.length → bk h' b = bk h0 b
  len : h0.length ≤ h'.length
  out : L ≠ [] → h0.length ≤ bo ∧ h0.length ≤ bs ∧ bo ≠ bs ∧ bk h' bo = some ⟨L.length - 1, 52, 2, true, (L.map key0).flatMap entC⟩ ∧ bk h' bs = some ⟨L.length - 1, 35, 1, true, L.map szC⟩
def fr56 (s0 : ByteArray) (many : Int) (rest : ByteArray) (out sizes : AV) (i : Int) (a1 a7 a11 a12 a13 a14 a15 a16 a17 a18 a19 a20 a21 a22 a23 a24 a25 a26 a27 a28 a29 a85 a86 a87 a88 a89 a90 a91 a92 a93 a94 a95 a96 a97 a98 a99 a100 a101 a102 a103 a104 a105 a106 a107 a108 a109 : AV) : List AV := [.s (.string s0), a1, .any, .any, .any, .s (.int .u64 many), .s (.string rest), a7, out, sizes, .s (.int .u64 i), a11, a12, a13, a14, a15, a16, a17, a18, a19, a20, a21, a22, a23, a24, a25, a26, a27, a28, a29] ++ List.replicate 55 .any ++ [a85, a86, a87, a88, a89, a90, a91, a92, a93, a94, a95, a96, a97, a98, a99, a100, a101, a102, a103, a104, a105, a106, a107, a108, a109]
noncomputable def tail56 : ACode := match c56 with
  | .seq _ (.seq _ (.seq _ (.seq _ t))) => t
  | _ => .skip
noncomputable def body56 : ACode := match tail56 with
  | .seq _ (.seq _ (.seq (.seq _ (.block _ (.loop _ b))) _)) => b
  | _ => .skip
noncomputable def fg56 : List Nat := match tail56 with
  | .seq _ (.seq _ (.seq (.seq _ (.block _ (.loop fg _))) _)) => fg
  | _ => []
def err3 (tm : List AV) (w : Int) : Prop := tm[2]? = some (.s (.slice none 0 0)) ∧ tm[3]? = some (.s (.string ⟨#[]⟩)) ∧ tm[4]? = some (.s (.int .i64 w))
theorem numS_z (s : ByteArray) : numS s 0 = gets s := if_pos rfl
theorem numS_e {w : Int} (s : ByteArray) (h : w ≠ 0) : numS s w = (0, s, w) := if_neg h
theorem gets_size {s : ByteArray} (hs : s.size ≤ 9223372036854775807) : (gets s).2.1.size ≤ 9223372036854775807 := Nat.le_trans (gets_shorter s) hs
theorem key0_len (L : List (Int × Int)) : ((L.map key0).flatMap entC).length = L.length * 2 := by rw [entC_len]; simp
def fx56 (s0 : ByteArray) (many : Int) (rest : ByteArray) (out sizes : AV) (i : Int) (a1 a7 a11 a12 a13 a14 a15 a16 a17 a18 a19 a20 a21 a22 a23 a24 a25 a26 a27 a28 a29 a85 a86 a87 a88 a89 a90 a91 a92 a93 a94 a95 a96 a97 a98 a99 a100 a101 a102 a103 a104 a105 a106 a107 a108 a109 : AV) : List AV := [.s (.string s0), a1, .any, .any, .any, .s (.int .u64 many), .s (.string rest), a7, out, sizes, .s (.int .u64 i), a11, a12, a13, a14, a15, a16, a17, a18, a19, a20, a21, a22, a23, a24, a25, a26, a27, a28, a29, .s (.int .u64 i), .s (.int .u64 many), .s (.bool false)] ++ List.replicate 52 .any ++ [a85, a86, a87, a88, a89, a90, a91, a92, a93, a94, a95, a96, a97, a98, a99, a100, a101, a102, a103, a104, a105, a106, a107, a108, a109]
theorem ref_end {T : FuncId → Option AFunc} (s0 : ByteArray) (h' : Heap) (many : Int) (rest : ByteArray) (out sizes : AV) (i : Int) (hi : ¬ i < many) (a1 a7 a11 a12 a13 a14 a15 a16 a17 a18 a19 a20 a21 a22 a23 a24 a25 a26 a27 a28 a29 a85 a86 a87 a88 a89 a90 a91 a92 a93 a94 a95 a96 a97 a98 a99 a100 a101 a102 a103 a104 a105 a106 a107 a108 a109 : AV) :
    Run Try.prog T body56 (fr56 s0 many rest out sizes i a1 a7 a11 a12 a13 a14 a15 a16 a17 a18 a19 a20 a21 a22 a23 a24 a25 a26 a27 a28 a29 a85 a86 a87 a88 a89 a90 a91 a92 a93 a94 a95 a96 a97 a98 a99 a100 a101 a102 a103 a104 a105 a106 a107 a108 a109) h' (.exit 0, fx56 s0 many rest out sizes i a1 a7 a11 a12 a13 a14 a15 a16 a17 a18 a19 a20 a21 a22 a23 a24 a25 a26 a27 a28 a29 a85 a86 a87 a88 a89 a90 a91 a92 a93 a94 a95 a96 a97 a98 a99 a100 a101 a102 a103 a104 a105 a106 a107 a108 a109, h') := by
  apply Run.step 40; intro k j
  simp [c56, tail56, body56, fr56, fx56, eq_false hi]

theorem ref0A {T : FuncId → Option AFunc} (hG : T 75 = some (.hook hkGet)) (s0 : ByteArray) (h0 h' : Heap) (bo bs : Nat) (many : Int) (s : ByteArray) (hs : s.size ≤ 9223372036854775807) (hm : 0 < many) (hI : InvR h0 h' bo bs []) (hw : (gets s).2.2 ≠ 0)
    (a1 a7 a11 a12 a13 a14 a15 a16 a17 a18 a19 a20 a21 a22 a23 a24 a25 a26 a27 a28 a29 a85 a86 a87 a88 a89 a90 a91 a92 a93 a94 a95 a96 a97 a98 a99 a100 a101 a102 a103 a104 a105 a106 a107 a108 a109 : AV) : ∃ tm' H, err3 tm' (gets s).2.2 ∧ (∀ b, b < h0.length → bk H b = bk h0 b) ∧ Run Try.prog T body56 (fr56 s0 many s (outK bo []) (outS bs []) 0 a1 a7 a11 a12 a13 a14 a15 a16 a17 a18 a19 a20 a21 a22 a23 a24 a25 a26 a27 a28 a29 a85 a86 a87 a88 a89 a90 a91 a92 a93 a94 a95 a96 a97 a98 a99 a100 a101 a102 a103 a104 a105 a106 a107 a108 a109) h' (.ret, tm', H) := by
  have hcall := fun k l h => evFn_hook (P := Try.prog) (T := T) (k := k) (f := 75) (args := l) (h := h) hG
  have hs1 := gets_size hs
  have hs2 := gets_size hs1
  have hle := hI.len
  refine ⟨?q1, ?q2, ?q3, ?q4, Run.step 60 fun k j => ?q5⟩
  case q5 =>
    simp [c56, tail56, body56, fr56, hcall, hkGet, hs, hs1, hs2, oneOr, cellsOf, isCell, fillA, hm, outK, outS, eq_false hw]
    (first | rfl | (constructor <;> rfl))
  case q3 => exact ⟨rfl, rfl, rfl⟩
  case q4 =>
    exact hI.old

theorem ref0B {T : FuncId → Option AFunc} (hG : T 75 = some (.hook hkGet)) (s0 : ByteArray) (h0 h' : Heap) (bo bs : Nat) (many : Int) (s : ByteArray) (hs : s.size ≤ 9223372036854775807) (hm : 0 < many) (hI : InvR h0 h' bo bs []) (hw : (gets s).2.2 = 0) (hz : (gets (gets s).2.1).2.2 ≠ 0)
    (a1 a7 a11 a12 a13 a14 a15 a16 a17 a18 a19 a20 a21 a22 a23 a24 a25 a26 a27 a28 a29 a85 a86 a87 a88 a89 a90 a91 a92 a93 a94 a95 a96 a97 a98 a99 a100 a101 a102 a103 a104 a105 a106 a107 a108 a109 : AV) : ∃ tm' H, err3 tm' (gets (gets s).2.1).2.2 ∧ (∀ b, b < h0.length → bk H b = bk h0 b) ∧ Run Try.prog T body56 (fr56 s0 many s (outK bo []) (outS bs []) 0 a1 a7 a11 a12 a13 a14 a15 a16 a17 a18 a19 a20 a21 a22 a23 a24 a25 a26 a27 a28 a29 a85 a86 a87 a88 a89 a90 a91 a92 a93 a94 a95 a96 a97 a98 a99 a100 a101 a102 a103 a104 a105 a106 a107 a108 a109) h' (.ret, tm', H) := by
  have hcall := fun k l h => evFn_hook (P := Try.prog) (T := T) (k := k) (f := 75) (args := l) (h := h) hG
  have hs1 := gets_size hs
  have hs2 := gets_size hs1
  have hle := hI.len
  refine ⟨?q1, ?q2, ?q3, ?q4, Run.step 60 fun k j => ?q5⟩
  case q5 =>
    simp [c56, tail56, body56, fr56, hcall, hkGet, hs, hs1, hs2, oneOr, cellsOf, isCell, fillA, hm, outK, outS, eq_true hw, eq_false hz]
    (first | rfl | (constructor <;> rfl))
  case q3 => exact ⟨rfl, rfl, rfl⟩
  case q4 =>
    exact hI.old

theorem ref0C {T : FuncId → Option AFunc} (hG : T 75 = some (.hook hkGet)) (s0 : ByteArray) (h0 h' : Heap) (bo bs : Nat) (many : Int) (s : ByteArray) (hs : s.size ≤ 9223372036854775807) (hm : 0 < many) (hI : InvR h0 h' bo bs []) (hw : (gets s).2.2 = 0) (hz : (gets (gets s).2.1).2.2 = 0)
    (a1 a7 a11 a12 a13 a14 a15 a16 a17 a18 a19 a20 a21 a22 a23 a24 a25 a26 a27 a28 a29 a85 a86 a87 a88 a89 a90 a91 a92 a93 a94 a95 a96 a97 a98 a99 a100 a101 a102 a103 a104 a105 a106 a107 a108 a109 : AV) : ∃ H a11' a12' a13' a14' a15' a16' tm', forget fg56 tm' = fr56 s0 many (slot1 [] s).2.1 (outK (h'.length + 1) ([] ++ [(slot1 [] s).1])) (outS (h'.length + 3) ([] ++ [(slot1 [] s).1])) 1 a1 a7 a11' a12' a13' a14' a15' a16' a17 a18 a19 a20 a21 a22 a23 a24 a25 a26 a27 a28 a29 a85 a86 a87 a88 a89 a90 a91 a92 a93 a94 a95 a96 a97 a98 a99 a100 a101 a102 a103 a104 a105 a106 a107 a108 a109 ∧ InvR h0 H (h'.length + 1) (h'.length + 3) ([] ++ [(slot1 [] s).1]) ∧ Run Try.prog T body56 (fr56 s0 many s (outK bo []) (outS bs []) 0 a1 a7 a11 a12 a13 a14 a15 a16 a17 a18 a19 a20 a21 a22 a23 a24 a25 a26 a27 a28 a29 a85 a86 a87 a88 a89 a90 a91 a92 a93 a94 a95 a96 a97 a98 a99 a100 a101 a102 a103 a104 a105 a106 a107 a108 a109) h' (.normal, tm', H) := by
  have hcall := fun k l h => evFn_hook (P := Try.prog) (T := T) (k := k) (f := 75) (args := l) (h := h) hG
  have hs1 := gets_size hs
  have hs2 := gets_size hs1
  have hle := hI.len
  have w1 : IntKind.u64.wrap 1 = 1 := wu64 (by omega) (by omega)
  have e1 : slot1 [] s = (((gets s).1, (gets (gets s).2.1).1), (gets (gets s).2.1).2.1, (gets (gets s).2.1).2.2) := by
    simp [slot1, numS_z, hw]
  rw [e1]
  refine ⟨?q1, ?r11, ?r12, ?r13, ?r14, ?r15, ?r16, ?q2, ?q3, ?q4, Run.step 60 fun k j => ?q5⟩
  case q5 =>
    simp [c56, tail56, body56, fr56, hcall, hkGet, hs, hs1, hs2, oneOr, cellsOf, isCell, fillA, hm, outK, outS, eq_true hw, eq_true hz, apV_nil, w1]
    (first | rfl | (constructor <;> rfl))
  case q3 =>
    simp [forget, fg56, tail56, c56, fr56, outK, outS]
    refine ⟨?_, ?_, ?_, ?_, ?_, ?_⟩ <;> rfl
  case q4 =>
    refine ⟨fun b h1 => ?_, ?_, fun _ => ⟨?_, ?_, ?_, ?_, ?_⟩⟩
    · have h3 : b < h'.length := by omega
      simp [h3, hI.old b h1]
    · simp; omega
    · omega
    · omega
    · omega
    · simp [key0, entC]
    · simp [szC]

theorem ref1A {T : FuncId → Option AFunc} (hG : T 75 = some (.hook hkGet)) (s0 : ByteArray) (h0 h' : Heap) (bo bs m : Nat) (many : Int) (s : ByteArray) (hs : s.size ≤ 9223372036854775807) (L : List (Int × Int)) (hL : L.length = m + 1) (hm : (m : Int) + 1 < many) (hmany : many ≤ 65536) (hI : InvR h0 h' bo bs L) (h0l : 0 ≤ (L.getLastD (0, 0)).1) (h1l : (L.getLastD (0, 0)).1 ≤ 18446744073709551615) (hw : (gets s).2.2 ≠ 0)
    (a1 a7 a11 a12 a13 a14 a15 a16 a17 a18 a19 a20 a21 a22 a23 a24 a25 a26 a27 a28 a29 a85 a86 a87 a88 a89 a90 a91 a92 a93 a94 a95 a96 a97 a98 a99 a100 a101 a102 a103 a104 a105 a106 a107 a108 a109 : AV) : ∃ tm' H, err3 tm' (gets s).2.2 ∧ (∀ b, b < h0.length → bk H b = bk h0 b) ∧ Run Try.prog T body56 (fr56 s0 many s (outK bo L) (outS bs L) ((m : Int) + 1) a1 a7 a11 a12 a13 a14 a15 a16 a17 a18 a19 a20 a21 a22 a23 a24 a25 a26 a27 a28 a29 a85 a86 a87 a88 a89 a90 a91 a92 a93 a94 a95 a96 a97 a98 a99 a100 a101 a102 a103 a104 a105 a106 a107 a108 a109) h' (.ret, tm', H) := by
  have hcall := fun k l h => evFn_hook (P := Try.prog) (T := T) (k := k) (f := 75) (args := l) (h := h) hG
  have hs1 := gets_size hs
  have hs2 := gets_size hs1
  have hle := hI.len
  have hne : L ≠ [] := by intro h; rw [h] at hL; simp at hL
  have ip : (0 : Int) < (m : Int) + 1 := by omega
  have im : (m : Int) < (m : Int) + 1 := by omega
  have wi : IntKind.u64.wrap ((m : Int) + 1 - 1) = m := by rw [wu64 (by omega) (by omega)]; omega
  have wi' : IntKind.u64.wrap (m : Int) = m := wu64 (by omega) (by omega)
  have wj : IntKind.u64.wrap ((m : Int) + 1 + 1) = (m : Int) + 2 := by rw [wu64 (by omega) (by omega)]; omega
  obtain ⟨o1, o2, o3, o4, o5⟩ := hI.out hne
  rw [hL, Nat.add_sub_cancel] at o4 o5
  have hlo := bk_lt o4
  have hls := bk_lt o5
  have eK := outK_sl (b := bo) hL
  have eS := outS_sl (b := bs) hL
  have hCg : ((L.map key0).flatMap entC)[m * 2]? = some (.s (.int .u64 (L.getLastD (0, 0)).1)) := by
    obtain ⟨M, x, rfl⟩ : ∃ M x, L = M ++ [x] := ⟨L.dropLast, L.getLast hne, (List.dropLast_concat_getLast hne).symm⟩
    simp at hL
    have : ((M.map key0).flatMap entC).length = m * 2 := by rw [key0_len, hL]
    rw [List.map_append, List.flatMap_append, List.getElem?_append_right (by omega), this]
    simp [entC, key0]
  have hCl := key0_len L
  rw [hL] at hCl
  have hSl : (L.map szC).length = m + 1 := by simp [hL]
  generalize hlast : (L.getLastD (0, 0)).1 = last at *
  generalize hC : (L.map key0).flatMap entC = C at *
  generalize hS : L.map szC = S at *
  have hCd : (C.drop (m * 2)).take 1 = [.s (.int .u64 last)] := by
    rw [List.take_one, List.head?_drop, hCg]; rfl
  have hle1 : m * 2 + 1 ≤ C.length := by omega
  have hle2 : (m + 1) * 2 ≤ C.length := by omega
  have hlt2 : m * 2 < C.length := by omega
  have hle3 : m + 1 ≤ S.length := by omega
  have hall : C.take ((m + 1) * 2) = C := List.take_of_length_le (by omega)
  have hall2 : S.take (m + 1) = S := List.take_of_length_le (by omega)
  have b1 : (m + 1 + 1) * 24 ≤ 140737488355328 := by omega
  have b2 : (m + 1 + 1) * 8 ≤ 140737488355328 := by omega
  have b3 : m + 1 + 1 ≤ 9223372036854775807 := by omega
  have o3' := Ne.symm o3
  have n1 : bo ≠ h'.length := by omega
  have n2 : bo ≠ h'.length + 1 := by omega
  have n3 : bs ≠ h'.length := by omega
  have n4 : bs ≠ h'.length + 1 := by omega
  refine ⟨?q1, ?q2, ?q3, ?q4, Run.step 60 fun k j => ?q5⟩
  case q5 =>
    simp [c56, tail56, body56, fr56, hcall, hkGet, hs, hs1, hs2, oneOr, cellsOf, isCell, fillA, hm, eK, eS, eq_true ip, im, wi, wi', wj, o4, o5, hlo, hls, hCd, hCg, hle1, hlt2, eq_false hw]
    (first | rfl | (constructor <;> rfl))
  case q3 => exact ⟨rfl, rfl, rfl⟩
  case q4 =>
    exact hI.old

theorem ref1B {T : FuncId → Option AFunc} (hG : T 75 = some (.hook hkGet)) (s0 : ByteArray) (h0 h' : Heap) (bo bs m : Nat) (many : Int) (s : ByteArray) (hs : s.size ≤ 9223372036854775807) (L : List (Int × Int)) (hL : L.length = m + 1) (hm : (m : Int) + 1 < many) (hmany : many ≤ 65536) (hI : InvR h0 h' bo bs L) (h0l : 0 ≤ (L.getLastD (0, 0)).1) (h1l : (L.getLastD (0, 0)).1 ≤ 18446744073709551615) (hw : (gets s).2.2 = 0) (hx : (L.getLastD (0, 0)).1 = 18446744073709551615)
    (a1 a7 a11 a12 a13 a14 a15 a16 a17 a18 a19 a20 a21 a22 a23 a24 a25 a26 a27 a28 a29 a85 a86 a87 a88 a89 a90 a91 a92 a93 a94 a95 a96 a97 a98 a99 a100 a101 a102 a103 a104 a105 a106 a107 a108 a109 : AV) : ∃ tm' H, err3 tm' 7 ∧ (∀ b, b < h0.length → bk H b = bk h0 b) ∧ Run Try.prog T body56 (fr56 s0 many s (outK bo L) (outS bs L) ((m : Int) + 1) a1 a7 a11 a12 a13 a14 a15 a16 a17 a18 a19 a20 a21 a22 a23 a24 a25 a26 a27 a28 a29 a85 a86 a87 a88 a89 a90 a91 a92 a93 a94 a95 a96 a97 a98 a99 a100 a101 a102 a103 a104 a105 a106 a107 a108 a109) h' (.ret, tm', H) := by
  have hcall := fun k l h => evFn_hook (P := Try.prog) (T := T) (k := k) (f := 75) (args := l) (h := h) hG
  have hs1 := gets_size hs
  have hs2 := gets_size hs1
  have hle := hI.len
  have hne : L ≠ [] := by intro h; rw [h] at hL; simp at hL
  have ip : (0 : Int) < (m : Int) + 1 := by omega
  have im : (m : Int) < (m : Int) + 1 := by omega
  have wi : IntKind.u64.wrap ((m : Int) + 1 - 1) = m := by rw [wu64 (by omega) (by omega)]; omega
  have wi' : IntKind.u64.wrap (m : Int) = m := wu64 (by omega) (by omega)
  have wj : IntKind.u64.wrap ((m : Int) + 1 + 1) = (m : Int) + 2 := by rw [wu64 (by omega) (by omega)]; omega
  obtain ⟨o1, o2, o3, o4, o5⟩ := hI.out hne
  rw [hL, Nat.add_sub_cancel] at o4 o5
  have hlo := bk_lt o4
  have hls := bk_lt o5
  have eK := outK_sl (b := bo) hL
  have eS := outS_sl (b := bs) hL
  have hCg : ((L.map key0).flatMap entC)[m * 2]? = some (.s (.int .u64 (L.getLastD (0, 0)).1)) := by
    obtain ⟨M, x, rfl⟩ : ∃ M x, L = M ++ [x] := ⟨L.dropLast, L.getLast hne, (List.dropLast_concat_getLast hne).symm⟩
    simp at hL
    have : ((M.map key0).flatMap entC).length = m * 2 := by rw [key0_len, hL]
    rw [List.map_append, List.flatMap_append, List.getElem?_append_right (by omega), this]
    simp [entC, key0]
  have hCl := key0_len L
  rw [hL] at hCl
  have hSl : (L.map szC).length = m + 1 := by simp [hL]
  generalize hlast : (L.getLastD (0, 0)).1 = last at *
  generalize hC : (L.map key0).flatMap entC = C at *
  generalize hS : L.map szC = S at *
  have hCd : (C.drop (m * 2)).take 1 = [.s (.int .u64 last)] := by
    rw [List.take_one, List.head?_drop, hCg]; rfl
  have hle1 : m * 2 + 1 ≤ C.length := by omega
  have hle2 : (m + 1) * 2 ≤ C.length := by omega
  have hlt2 : m * 2 < C.length := by omega
  have hle3 : m + 1 ≤ S.length := by omega
  have hall : C.take ((m + 1) * 2) = C := List.take_of_length_le (by omega)
  have hall2 : S.take (m + 1) = S := List.take_of_length_le (by omega)
  have b1 : (m + 1 + 1) * 24 ≤ 140737488355328 := by omega
  have b2 : (m + 1 + 1) * 8 ≤ 140737488355328 := by omega
  have b3 : m + 1 + 1 ≤ 9223372036854775807 := by omega
  have o3' := Ne.symm o3
  have n1 : bo ≠ h'.length := by omega
  have n2 : bo ≠ h'.length + 1 := by omega
  have n3 : bs ≠ h'.length := by omega
  have n4 : bs ≠ h'.length + 1 := by omega
  refine ⟨?q1, ?q2, ?q3, ?q4, Run.step 60 fun k j => ?q5⟩
  case q5 =>
    simp [c56, tail56, body56, fr56, hcall, hkGet, hs, hs1, hs2, oneOr, cellsOf, isCell, fillA, hm, eK, eS, eq_true ip, im, wi, wi', wj, o4, o5, hlo, hls, hCd, hCg, hle1, hlt2, eq_true hw, eq_true hx]
    (first | rfl | (constructor <;> rfl))
  case q3 => exact ⟨rfl, rfl, rfl⟩
  case q4 =>
    exact hI.old

theorem ref1C {T : FuncId → Option AFunc} (hG : T 75 = some (.hook hkGet)) (s0 : ByteArray) (h0 h' : Heap) (bo bs m : Nat) (many : Int) (s : ByteArray) (hs : s.size ≤ 9223372036854775807) (L : List (Int × Int)) (hL : L.length = m + 1) (hm : (m : Int) + 1 < many) (hmany : many ≤ 65536) (hI : InvR h0 h' bo bs L) (h0l : 0 ≤ (L.getLastD (0, 0)).1) (h1l : (L.getLastD (0, 0)).1 ≤ 18446744073709551615) (hw : (gets s).2.2 = 0) (hx : (L.getLastD (0, 0)).1 ≠ 18446744073709551615) (hy : (gets s).1 > 18446744073709551615 - (L.getLastD (0, 0)).1 - 1)
    (a1 a7 a11 a12 a13 a14 a15 a16 a17 a18 a19 a20 a21 a22 a23 a24 a25 a26 a27 a28 a29 a85 a86 a87 a88 a89 a90 a91 a92 a93 a94 a95 a96 a97 a98 a99 a100 a101 a102 a103 a104 a105 a106 a107 a108 a109 : AV) : ∃ tm' H, err3 tm' 7 ∧ (∀ b, b < h0.length → bk H b = bk h0 b) ∧ Run Try.prog T body56 (fr56 s0 many s (outK bo L) (outS bs L) ((m : Int) + 1) a1 a7 a11 a12 a13 a14 a15 a16 a17 a18 a19 a20 a21 a22 a23 a24 a25 a26 a27 a28 a29 a85 a86 a87 a88 a89 a90 a91 a92 a93 a94 a95 a96 a97 a98 a99 a100 a101 a102 a103 a104 a105 a106 a107 a108 a109) h' (.ret, tm', H) := by
  have hcall := fun k l h => evFn_hook (P := Try.prog) (T := T) (k := k) (f := 75) (args := l) (h := h) hG
  have hs1 := gets_size hs
  have hs2 := gets_size hs1
  have hle := hI.len
  have hne : L ≠ [] := by intro h; rw [h] at hL; simp at hL
  have ip : (0 : Int) < (m : Int) + 1 := by omega
  have im : (m : Int) < (m : Int) + 1 := by omega
  have wi : IntKind.u64.wrap ((m : Int) + 1 - 1) = m := by rw [wu64 (by omega) (by omega)]; omega
  have wi' : IntKind.u64.wrap (m : Int) = m := wu64 (by omega) (by omega)
  have wj : IntKind.u64.wrap ((m : Int) + 1 + 1) = (m : Int) + 2 := by rw [wu64 (by omega) (by omega)]; omega
  obtain ⟨o1, o2, o3, o4, o5⟩ := hI.out hne
  rw [hL, Nat.add_sub_cancel] at o4 o5
  have hlo := bk_lt o4
  have hls := bk_lt o5
  have eK := outK_sl (b := bo) hL
  have eS := outS_sl (b := bs) hL
  have hCg : ((L.map key0).flatMap entC)[m * 2]? = some (.s (.int .u64 (L.getLastD (0, 0)).1)) := by
    obtain ⟨M, x, rfl⟩ : ∃ M x, L = M ++ [x] := ⟨L.dropLast, L.getLast hne, (List.dropLast_concat_getLast hne).symm⟩
    simp at hL
    have : ((M.map key0).flatMap entC).length = m * 2 := by rw [key0_len, hL]
    rw [List.map_append, List.flatMap_append, List.getElem?_append_right (by omega), this]
    simp [entC, key0]
  have hCl := key0_len L
  rw [hL] at hCl
  have hSl : (L.map szC).length = m + 1 := by simp [hL]
  generalize hlast : (L.getLastD (0, 0)).1 = last at *
  generalize hC : (L.map key0).flatMap entC = C at *
  generalize hS : L.map szC = S at *
  have hCd : (C.drop (m * 2)).take 1 = [.s (.int .u64 last)] := by
    rw [List.take_one, List.head?_drop, hCg]; rfl
  have hle1 : m * 2 + 1 ≤ C.length := by omega
  have hle2 : (m + 1) * 2 ≤ C.length := by omega
  have hlt2 : m * 2 < C.length := by omega
  have hle3 : m + 1 ≤ S.length := by omega
  have hall : C.take ((m + 1) * 2) = C := List.take_of_length_le (by omega)
  have hall2 : S.take (m + 1) = S := List.take_of_length_le (by omega)
  have b1 : (m + 1 + 1) * 24 ≤ 140737488355328 := by omega
  have b2 : (m + 1 + 1) * 8 ≤ 140737488355328 := by omega
  have b3 : m + 1 + 1 ≤ 9223372036854775807 := by omega
  have o3' := Ne.symm o3
  have n1 : bo ≠ h'.length := by omega
  have n2 : bo ≠ h'.length + 1 := by omega
  have n3 : bs ≠ h'.length := by omega
  have n4 : bs ≠ h'.length + 1 := by omega
  have wa : IntKind.u64.wrap (18446744073709551615 - last) = 18446744073709551615 - last := wu64 (by omega) (by omega)
  have wb : IntKind.u64.wrap (18446744073709551615 - last - 1) = 18446744073709551615 - last - 1 := wu64 (by omega) (by omega)
  have hy' : 18446744073709551615 - last - 1 < (gets s).1 := hy
  refine ⟨?q1, ?q2, ?q3, ?q4, Run.step 60 fun k j => ?q5⟩
  case q5 =>
    simp [c56, tail56, body56, fr56, hcall, hkGet, hs, hs1, hs2, oneOr, cellsOf, isCell, fillA, hm, eK, eS, eq_true ip, im, wi, wi', wj, o4, o5, hlo, hls, hCd, hCg, hle1, hlt2, eq_true hw, eq_false hx, wa, wb, eq_true hy']
    (first | rfl | (constructor <;> rfl))
  case q3 => exact ⟨rfl, rfl, rfl⟩
  case q4 =>
    exact hI.old

theorem ref1D {T : FuncId → Option AFunc} (hG : T 75 = some (.hook hkGet)) (s0 : ByteArray) (h0 h' : Heap) (bo bs m : Nat) (many : Int) (s : ByteArray) (hs : s.size ≤ 9223372036854775807) (L : List (Int × Int)) (hL : L.length = m + 1) (hm : (m : Int) + 1 < many) (hmany : many ≤ 65536) (hI : InvR h0 h' bo bs L) (h0l : 0 ≤ (L.getLastD (0, 0)).1) (h1l : (L.getLastD (0, 0)).1 ≤ 18446744073709551615) (hw : (gets s).2.2 = 0) (hx : (L.getLastD (0, 0)).1 ≠ 18446744073709551615) (hy : ¬ (gets s).1 > 18446744073709551615 - (L.getLastD (0, 0)).1 - 1) (hz : (gets (gets s).2.1).2.2 ≠ 0)
    (a1 a7 a11 a12 a13 a14 a15 a16 a17 a18 a19 a20 a21 a22 a23 a24 a25 a26 a27 a28 a29 a85 a86 a87 a88 a89 a90 a91 a92 a93 a94 a95 a96 a97 a98 a99 a100 a101 a102 a103 a104 a105 a106 a107 a108 a109 : AV) : ∃ tm' H, err3 tm' (gets (gets s).2.1).2.2 ∧ (∀ b, b < h0.length → bk H b = bk h0 b) ∧ Run Try.prog T body56 (fr56 s0 many s (outK bo L) (outS bs L) ((m : Int) + 1) a1 a7 a11 a12 a13 a14 a15 a16 a17 a18 a19 a20 a21 a22 a23 a24 a25 a26 a27 a28 a29 a85 a86 a87 a88 a89 a90 a91 a92 a93 a94 a95 a96 a97 a98 a99 a100 a101 a102 a103 a104 a105 a106 a107 a108 a109) h' (.ret, tm', H) := by
  have hcall := fun k l h => evFn_hook (P := Try.prog) (T := T) (k := k) (f := 75) (args := l) (h := h) hG
  have hs1 := gets_size hs
  have hs2 := gets_size hs1
  have hle := hI.len
  have hne : L ≠ [] := by intro h; rw [h] at hL; simp at hL
  have ip : (0 : Int) < (m : Int) + 1 := by omega
  have im : (m : Int) < (m : Int) + 1 := by omega
  have wi : IntKind.u64.wrap ((m : Int) + 1 - 1) = m := by rw [wu64 (by omega) (by omega)]; omega
  have wi' : IntKind.u64.wrap (m : Int) = m := wu64 (by omega) (by omega)
  have wj : IntKind.u64.wrap ((m : Int) + 1 + 1) = (m : Int) + 2 := by rw [wu64 (by omega) (by omega)]; omega
  obtain ⟨o1, o2, o3, o4, o5⟩ := hI.out hne
  rw [hL, Nat.add_sub_cancel] at o4 o5
  have hlo := bk_lt o4
  have hls := bk_lt o5
  have eK := outK_sl (b := bo) hL
  have eS := outS_sl (b := bs) hL
  have hCg : ((L.map key0).flatMap entC)[m * 2]? = some (.s (.int .u64 (L.getLastD (0, 0)).1)) := by
    obtain ⟨M, x, rfl⟩ : ∃ M x, L = M ++ [x] := ⟨L.dropLast, L.getLast hne, (List.dropLast_concat_getLast hne).symm⟩
    simp at hL
    have : ((M.map key0).flatMap entC).length = m * 2 := by rw [key0_len, hL]
    rw [List.map_append, List.flatMap_append, List.getElem?_append_right (by omega), this]
    simp [entC, key0]
  have hCl := key0_len L
  rw [hL] at hCl
  have hSl : (L.map szC).length = m + 1 := by simp [hL]
  generalize hlast : (L.getLastD (0, 0)).1 = last at *
  generalize hC : (L.map key0).flatMap entC = C at *
  generalize hS : L.map szC = S at *
  have hCd : (C.drop (m * 2)).take 1 = [.s (.int .u64 last)] := by
    rw [List.take_one, List.head?_drop, hCg]; rfl
  have hle1 : m * 2 + 1 ≤ C.length := by omega
  have hle2 : (m + 1) * 2 ≤ C.length := by omega
  have hlt2 : m * 2 < C.length := by omega
  have hle3 : m + 1 ≤ S.length := by omega
  have hall : C.take ((m + 1) * 2) = C := List.take_of_length_le (by omega)
  have hall2 : S.take (m + 1) = S := List.take_of_length_le (by omega)
  have b1 : (m + 1 + 1) * 24 ≤ 140737488355328 := by omega
  have b2 : (m + 1 + 1) * 8 ≤ 140737488355328 := by omega
  have b3 : m + 1 + 1 ≤ 9223372036854775807 := by omega
  have o3' := Ne.symm o3
  have n1 : bo ≠ h'.length := by omega
  have n2 : bo ≠ h'.length + 1 := by omega
  have n3 : bs ≠ h'.length := by omega
  have n4 : bs ≠ h'.length + 1 := by omega
  have wa : IntKind.u64.wrap (18446744073709551615 - last) = 18446744073709551615 - last := wu64 (by omega) (by omega)
  have wb : IntKind.u64.wrap (18446744073709551615 - last - 1) = 18446744073709551615 - last - 1 := wu64 (by omega) (by omega)
  have hy' : ¬ 18446744073709551615 - last - 1 < (gets s).1 := hy
  refine ⟨?q1, ?q2, ?q3, ?q4, Run.step 60 fun k j => ?q5⟩
  case q5 =>
    simp [c56, tail56, body56, fr56, hcall, hkGet, hs, hs1, hs2, oneOr, cellsOf, isCell, fillA, hm, eK, eS, eq_true ip, im, wi, wi', wj, o4, o5, hlo, hls, hCd, hCg, hle1, hlt2, eq_true hw, eq_false hx, wa, wb, eq_false hy', eq_false hz]
    (first | rfl | (constructor <;> rfl))
  case q3 => exact ⟨rfl, rfl, rfl⟩
  case q4 =>
    exact hI.old

theorem ref1E {T : FuncId → Option AFunc} (hG : T 75 = some (.hook hkGet)) (s0 : ByteArray) (h0 h' : Heap) (bo bs m : Nat) (many : Int) (s : ByteArray) (hs : s.size ≤ 9223372036854775807) (L : List (Int × Int)) (hL : L.length = m + 1) (hm : (m : Int) + 1 < many) (hmany : many ≤ 65536) (hI : InvR h0 h' bo bs L) (h0l : 0 ≤ (L.getLastD (0, 0)).1) (h1l : (L.getLastD (0, 0)).1 ≤ 18446744073709551615) (hw : (gets s).2.2 = 0) (hx : (L.getLastD (0, 0)).1 ≠ 18446744073709551615) (hy : ¬ (gets s).1 > 18446744073709551615 - (L.getLastD (0, 0)).1 - 1) (hz : (gets (gets s).2.1).2.2 = 0)
    (a1 a7 a11 a12 a13 a14 a15 a16 a17 a18 a19 a20 a21 a22 a23 a24 a25 a26 a27 a28 a29 a85 a86 a87 a88 a89 a90 a91 a92 a93 a94 a95 a96 a97 a98 a99 a100 a101 a102 a103 a104 a105 a106 a107 a108 a109 : AV) : ∃ H a11' a12' a13' a14' a15' a16' tm', forget fg56 tm' = fr56 s0 many (slot1 L s).2.1 (outK bo (L ++ [(slot1 L s).1])) (outS bs (L ++ [(slot1 L s).1])) ((m : Int) + 2) a1 a7 a11' a12' a13' a14' a15' a16' a17 a18 a19 a20 a21 a22 a23 a24 a25 a26 a27 a28 a29 a85 a86 a87 a88 a89 a90 a91 a92 a93 a94 a95 a96 a97 a98 a99 a100 a101 a102 a103 a104 a105 a106 a107 a108 a109 ∧ InvR h0 H bo bs (L ++ [(slot1 L s).1]) ∧ Run Try.prog T body56 (fr56 s0 many s (outK bo L) (outS bs L) ((m : Int) + 1) a1 a7 a11 a12 a13 a14 a15 a16 a17 a18 a19 a20 a21 a22 a23 a24 a25 a26 a27 a28 a29 a85 a86 a87 a88 a89 a90 a91 a92 a93 a94 a95 a96 a97 a98 a99 a100 a101 a102 a103 a104 a105 a106 a107 a108 a109) h' (.normal, tm', H) := by
  have hcall := fun k l h => evFn_hook (P := Try.prog) (T := T) (k := k) (f := 75) (args := l) (h := h) hG
  have hs1 := gets_size hs
  have hs2 := gets_size hs1
  have hle := hI.len
  have hne : L ≠ [] := by intro h; rw [h] at hL; simp at hL
  have ip : (0 : Int) < (m : Int) + 1 := by omega
  have im : (m : Int) < (m : Int) + 1 := by omega
  have wi : IntKind.u64.wrap ((m : Int) + 1 - 1) = m := by rw [wu64 (by omega) (by omega)]; omega
  have wi' : IntKind.u64.wrap (m : Int) = m := wu64 (by omega) (by omega)
  have wj : IntKind.u64.wrap ((m : Int) + 1 + 1) = (m : Int) + 2 := by rw [wu64 (by omega) (by omega)]; omega
  obtain ⟨o1, o2, o3, o4, o5⟩ := hI.out hne
  rw [hL, Nat.add_sub_cancel] at o4 o5
  have hlo := bk_lt o4
  have hls := bk_lt o5
  have eK := outK_sl (b := bo) hL
  have eS := outS_sl (b := bs) hL
  have hCg : ((L.map key0).flatMap entC)[m * 2]? = some (.s (.int .u64 (L.getLastD (0, 0)).1)) := by
    obtain ⟨M, x, rfl⟩ : ∃ M x, L = M ++ [x] := ⟨L.dropLast, L.getLast hne, (List.dropLast_concat_getLast hne).symm⟩
    simp at hL
    have : ((M.map key0).flatMap entC).length = m * 2 := by rw [key0_len, hL]
    rw [List.map_append, List.flatMap_append, List.getElem?_append_right (by omega), this]
    simp [entC, key0]
  have hCl := key0_len L
  rw [hL] at hCl
  have hSl : (L.map szC).length = m + 1 := by simp [hL]
  generalize hlast : (L.getLastD (0, 0)).1 = last at *
  generalize hC : (L.map key0).flatMap entC = C at *
  generalize hS : L.map szC = S at *
  have hCd : (C.drop (m * 2)).take 1 = [.s (.int .u64 last)] := by
    rw [List.take_one, List.head?_drop, hCg]; rfl
  have hle1 : m * 2 + 1 ≤ C.length := by omega
  have hle2 : (m + 1) * 2 ≤ C.length := by omega
  have hlt2 : m * 2 < C.length := by omega
  have hle3 : m + 1 ≤ S.length := by omega
  have hall : C.take ((m + 1) * 2) = C := List.take_of_length_le (by omega)
  have hall2 : S.take (m + 1) = S := List.take_of_length_le (by omega)
  have b1 : (m + 1 + 1) * 24 ≤ 140737488355328 := by omega
  have b2 : (m + 1 + 1) * 8 ≤ 140737488355328 := by omega
  have b3 : m + 1 + 1 ≤ 9223372036854775807 := by omega
  have o3' := Ne.symm o3
  have n1 : bo ≠ h'.length := by omega
  have n2 : bo ≠ h'.length + 1 := by omega
  have n3 : bs ≠ h'.length := by omega
  have n4 : bs ≠ h'.length + 1 := by omega
  have wa : IntKind.u64.wrap (18446744073709551615 - last) = 18446744073709551615 - last := wu64 (by omega) (by omega)
  have wb : IntKind.u64.wrap (18446744073709551615 - last - 1) = 18446744073709551615 - last - 1 := wu64 (by omega) (by omega)
  have hy' : ¬ 18446744073709551615 - last - 1 < (gets s).1 := hy
  have e1 : slot1 L s = ((IntKind.u64.wrap (IntKind.u64.wrap (last + 1) + (gets s).1), (gets (gets s).2.1).1), (gets (gets s).2.1).2.1, (gets (gets s).2.1).2.2) := by
    have hlast' : (L.getLast?.getD (0, 0)).1 = last := by simpa using hlast
    simp [slot1, numS_z, hw, hne, hlast', eq_false hx, eq_false hy', Int.add_comm]
  rw [e1]
  have eK2 := outK_sl (b := bo) (m := m + 1) (L := L ++ [(IntKind.u64.wrap (IntKind.u64.wrap (last + 1) + (gets s).1), (gets (gets s).2.1).1)]) (by simp [hL])
  have eS2 := outS_sl (b := bs) (m := m + 1) (L := L ++ [(IntKind.u64.wrap (IntKind.u64.wrap (last + 1) + (gets s).1), (gets (gets s).2.1).1)]) (by simp [hL])
  refine ⟨?q1, ?r11, ?r12, ?r13, ?r14, ?r15, ?r16, ?q2, ?q3, ?q4, Run.step 60 fun k j => ?q5⟩
  case q5 =>
    simp [c56, tail56, body56, fr56, hcall, hkGet, hs, hs1, hs2, oneOr, cellsOf, isCell, fillA, hm, eK, eS, eq_true ip, im, wi, wi', wj, o4, o5, hlo, hls, hCd, hCg, hle1, hlt2, eq_true hw, eq_false hx, wa, wb, eq_false hy', eq_true hz, apK_s, hle2, hle3, hall, hall2, b1, b2, b3, o3, o3', n1, n2, n3, n4]
    (first | rfl | (constructor <;> rfl))
  case q3 =>
    rw [eK2, eS2]
    simp [forget, fg56, tail56, c56, fr56]
    refine ⟨?_, ?_, ?_, ?_, ?_, ?_⟩ <;> rfl
  case q4 =>
    refine ⟨fun b h1 => ?_, ?_, fun _ => ⟨?_, ?_, ?_, ?_, ?_⟩⟩
    · have h3 : b < h'.length := by omega
      have h4 : bo ≠ b := by omega
      have h5 : bs ≠ b := by omega
      simp [h3, h4, h5, hI.old b h1]
    · simp; omega
    · omega
    · omega
    · exact o3
    · simp [hlo, hls, o3, o3', hL, hC, key0, entC]
    · simp [hlo, hls, o3, o3', hL, hS, szC]
end Go.Proofs.Ytpmoellbfgcefaa.AS
end
