/- Of our own: an abstract machine beside the model, its soundness, and walks of the program in it. -/
import Derived.Test.YtpmoellbfgcefaaA19
import Derived.Test.YtpmoellbfgcefaaA12
import Derived.Test.YtpmoellbfgcefaaA8
set_option linter.unusedSimpArgs false
set_option linter.unusedVariables false
section
set_option autoImplicit false
set_option maxRecDepth 100000
set_option maxHeartbeats 2000000
set_option linter.unusedSimpArgs false
namespace Go.Proofs.Ytpmoellbfgcefaa.AS
open Go Go.Proofs Go.RowKit Go.Proofs.Ytpmoellbfgcefaa.AS.V

def blkOf : AV → Option Nat
  | .sl b _ _ _ _ => some b
  | _ => none
/-- A row of bytes that may be put behind. -/
def rowB (h : Heap) (a : AV) (B : List Int) : Prop := (a = .s (.slice none 0 0) ∧ B = []) ∨ ∃ b v, a = .sl b v 0 B.length 1 ∧ bk h b = some ⟨v, 5, 1, true, by8 B⟩
/-- What an append leaves. -/
structure Ap (h H : Heap) (a a' : AV) : Prop where
  keep : ∀ c, c < h.length → blkOf a ≠ some c → bk H c = bk h c
  len : h.length ≤ H.length
  place : ∀ c, blkOf a' = some c → h.length ≤ c ∨ blkOf a = some c
theorem Ap.trans {h H G : Heap} {a a' a'' : AV} (x : Ap h H a a') (y : Ap H G a' a'') : Ap h G a a'' := by
  refine ⟨fun c hc hn => ?_, Nat.le_trans x.len y.len, fun c hc => ?_⟩
  · rw [y.keep c (Nat.lt_of_lt_of_le hc x.len) (fun e => (x.place c e).elim (fun h => by omega) hn), x.keep c hc hn]
  · rcases y.place c hc with h | h
    · exact Or.inl (Nat.le_trans x.len h)
    · exact x.place c h
def fr58 (b : AV) (n : Int) (a2 a3 a15 a16 a17 a18 a19 : AV) : List AV := [b, .s (.int .u64 n), a2, a3, .s (.slice none 0 0)] ++ List.replicate 10 .any ++ [a15, a16, a17, a18, a19]
noncomputable def body58 : ACode := match c58 with
  | .seq _ (.seq (.block _ (.loop _ b)) _) => b
  | _ => .skip
noncomputable def fg58 : List Nat := match c58 with
  | .seq _ (.seq (.block _ (.loop fg _)) _) => fg
  | _ => []
noncomputable def tail58 : ACode := match c58 with
  | .seq _ (.seq _ t) => t
  | _ => .skip
theorem by8_len (B : List Int) : (by8 B).length = B.length := by simp [by8]
theorem app_end {T : FuncId → Option AFunc} (n : Int) (h0 : 0 ≤ n) (h1 : n < 128) (h : Heap) (a : AV) (B : List Int) (hB : B.length + 1 ≤ 140737488355328) (hI : rowB h a B) (a2 a3 a15 a16 a17 a18 a19 : AV) :
    ∃ H a' tm', Ap h H a a' ∧ rowB H a' (B ++ [n]) ∧ tm'[4]? = some a' ∧ Run Try.prog T (.seq (.block 0 (.loop fg58 body58)) tail58) (fr58 a n a2 a3 a15 a16 a17 a18 a19) h (.ret, tm', H) := by
  have w8 : IntKind.u8.wrap n = n := by simp [IntKind.wrap, IntKind.bits, IntKind.signed]; omega
  have hn : ¬ 128 ≤ n := by omega
  have hn2 : n ≤ 127 := by omega
  have hx : Run Try.prog T (.block 0 (.loop fg58 body58)) (fr58 a n a2 a3 a15 a16 a17 a18 a19) h (.normal, [a, .s (.int .u64 n), a2, a3, .s (.slice none 0 0), .s (.int .u64 n), .s (.bool false)] ++ List.replicate 8 .any ++ [a15, a16, a17, a18, a19], h) := by
    apply Run.block_exit
    refine Run.loop_end (by simp) (Run.step 30 fun k j => ?_)
    simp [c58, fg58, body58, fr58, forget, hn, hn2]
  rcases hI with ⟨rfl, rfl⟩ | ⟨b, v, rfl, hb2⟩
  · refine ⟨?qH, ?qa, ?qtm, ?qap, ?qrow, ?qo, Run.seq hx (Run.step 30 fun k j => ?qrun)⟩
    case qrun =>
      simp [c58, tail58, w8, fillA, cellsOf, apV_nil, isCell, bytesA, Try.underlying5, Try.underlying35]
      (constructor <;> rfl)
    case qo => rfl
    case qap => exact ⟨fun c hc _ => by simp [hc], by simp, fun c hc => Or.inl (by simp [blkOf] at hc; omega)⟩
    case qrow => exact Or.inr ⟨_, _, rfl, by simp [by8]⟩
  · have hlb := bk_lt hb2
    have n1 : b ≠ h.length := by omega
    have b2 : B.length + 1 ≤ 9223372036854775807 := by omega
    have e1 : by8 (B ++ [n]) = by8 B ++ [.s (.int .u8 n)] := by simp [by8]
    have hC := by8_len B
    generalize by8 B = C at hb2 hC e1
    have hle1 : B.length ≤ C.length := by omega
    have hall : C.take B.length = C := List.take_of_length_le (by omega)
    refine ⟨?qH2, ?qa2, ?qtm2, ?qap2, ?qrow2, ?qo2, Run.seq hx (Run.step 30 fun k j => ?qrun2)⟩
    case qrun2 =>
      simp [c58, tail58, w8, fillA, cellsOf, apK_s, isCell, Try.underlying5, Try.underlying35, hb2, hlb, n1, hB, b2, hall, hle1]
      (constructor <;> rfl)
    case qo2 => rfl
    case qap2 =>
      refine ⟨fun c hc hn => ?_, by simp, fun c hc => Or.inr hc⟩
      have : b ≠ c := fun e => hn (by rw [e]; rfl)
      simp [hc, this]
    case qrow2 => exact Or.inr ⟨b, v + 1, by simp, by rw [e1]; simp [hlb]⟩
theorem bits_or128 : ∀ x, x < 256 → bits BinOp.or IntKind.u8 ((x : Nat) : Int) 128 = (x : Int) % 128 + 128 := by decide +kernel
theorem app_one {T : FuncId → Option AFunc} (n : Int) (h0 : 128 ≤ n) (h1 : n ≤ 18446744073709551615) (h : Heap) (a : AV) (B : List Int) (hB : B.length + 1 ≤ 140737488355328) (hI : rowB h a B) (a2 a3 a15 a16 a17 a18 a19 : AV) :
    ∃ H a' tm', Ap h H a a' ∧ rowB H a' (B ++ [n % 128 + 128]) ∧ forget fg58 tm' = fr58 a' (n / 128) a2 a3 a15 a16 a17 a18 a19 ∧ Run Try.prog T body58 (fr58 a n a2 a3 a15 a16 a17 a18 a19) h (.normal, tm', H) := by
  have hn : 128 ≤ n := by omega
  have hn2 : ¬ n ≤ 127 := by omega
  have t1 : n.tmod 128 = n % 128 := Int.tmod_eq_emod_of_nonneg (by omega)
  have t2 : n.tdiv 128 = n / 128 := Int.tdiv_eq_ediv_of_nonneg (by omega)
  have q1 : bits BinOp.or IntKind.u8 (n % 256) 128 = n % 128 + 128 := by
    have := bits_or128 (n % 256).toNat (by omega)
    rw [show (((n % 256).toNat : Nat) : Int) = n % 256 by omega] at this
    rw [this]; omega
  have q2 : n.fdiv (2 ^ min 7 IntKind.u64.bits) = n / 128 := Int.fdiv_eq_ediv_of_nonneg _ (by decide)
  have w8 : IntKind.u8.wrap n = n % 256 := by simp [IntKind.wrap, IntKind.bits, IntKind.signed]
  have w9 : IntKind.u8.wrap (n % 128 + 128) = n % 128 + 128 := by simp [IntKind.wrap, IntKind.bits, IntKind.signed]; omega
  have wq : IntKind.u64.wrap (n / 128) = n / 128 := wu64 (by omega) (by omega)
  rcases hI with ⟨rfl, rfl⟩ | ⟨b, v, rfl, hb2⟩
  · refine ⟨?qH, ?qa, ?qtm, ?qap, ?qrow, ?qfg, Run.step 30 fun k j => ?qrun⟩
    case qrun =>
      simp [c58, body58, fr58, w8, w9, wq, t1, t2, q1, q2, hn, hn2, fillA, cellsOf, apV_nil, isCell, Try.underlying5, Try.underlying35]
      (constructor <;> rfl)
    case qfg => simp [forget, fg58, c58, fr58]; rfl
    case qap => exact ⟨fun c hc _ => by simp [hc], by simp, fun c hc => Or.inl (by simp [blkOf] at hc; omega)⟩
    case qrow => exact Or.inr ⟨_, _, rfl, by simp [by8]⟩
  · have hlb := bk_lt hb2
    have n1 : b ≠ h.length := by omega
    have b2 : B.length + 1 ≤ 9223372036854775807 := by omega
    have e1 : by8 (B ++ [n % 128 + 128]) = by8 B ++ [.s (.int .u8 (n % 128 + 128))] := by simp [by8]
    have hC := by8_len B
    generalize by8 B = C at hb2 hC e1
    have hle1 : B.length ≤ C.length := by omega
    have hall : C.take B.length = C := List.take_of_length_le (by omega)
    refine ⟨?qH2, ?qa2, ?qtm2, ?qap2, ?qrow2, ?qfg2, Run.step 30 fun k j => ?qrun2⟩
    case qrun2 =>
      simp [c58, body58, fr58, w8, w9, wq, t1, t2, q1, q2, hn, hn2, fillA, cellsOf, apK_s, isCell, Try.underlying5, Try.underlying35, hb2, hlb, n1, hB, b2, hall, hle1]
      (constructor <;> rfl)
    case qfg2 => simp [forget, fg58, c58, fr58]; rfl
    case qap2 =>
      refine ⟨fun c hc hn => ?_, by simp, fun c hc => Or.inr hc⟩
      have : b ≠ c := fun e => hn (by rw [e]; rfl)
      simp [hc, this]
    case qrow2 => exact Or.inr ⟨b, v + 1, by simp, by rw [e1]; simp [hlb]⟩
theorem app_l {T : FuncId → Option AFunc} : ∀ n, 0 ≤ n → n ≤ 18446744073709551615 → ∀ (h : Heap) (a : AV) (B : List Int), B.length + (leb n).length ≤ 140737488355328 → rowB h a B → ∀ (a2 a3 a15 a16 a17 a18 a19 : AV),
    ∃ H a' tm', Ap h H a a' ∧ rowB H a' (B ++ leb n) ∧ tm'[4]? = some a' ∧ Run Try.prog T (.seq (.block 0 (.loop fg58 body58)) tail58) (fr58 a n a2 a3 a15 a16 a17 a18 a19) h (.ret, tm', H) := by
  apply leb_ind (P := fun n => ∀ (h : Heap) (a : AV) (B : List Int), B.length + (leb n).length ≤ 140737488355328 → rowB h a B → ∀ (a2 a3 a15 a16 a17 a18 a19 : AV),
    ∃ H a' tm', Ap h H a a' ∧ rowB H a' (B ++ leb n) ∧ tm'[4]? = some a' ∧ Run Try.prog T (.seq (.block 0 (.loop fg58 body58)) tail58) (fr58 a n a2 a3 a15 a16 a17 a18 a19) h (.ret, tm', H))
  · intro n h0 h1 h a B hB hI a2 a3 a15 a16 a17 a18 a19
    rw [leb_lt h1] at hB ⊢
    exact app_end n h0 h1 h a B hB hI a2 a3 a15 a16 a17 a18 a19
  · intro n h0 h1 ih h a B hB hI a2 a3 a15 a16 a17 a18 a19
    rw [leb_ge h0 h1] at hB ⊢
    simp only [List.length_cons] at hB
    obtain ⟨H, a', tm', x1, x2, x3, x4⟩ := app_one (T := T) n h0 h1 h a B (by omega) hI a2 a3 a15 a16 a17 a18 a19
    obtain ⟨H2, a2', tm2, y1, y2, y3, y4⟩ := ih H a' (B ++ [n % 128 + 128]) (by simp; omega) x2 a2 a3 a15 a16 a17 a18 a19
    refine ⟨H2, a2', tm2, x1.trans y1, by simpa using y2, y3, ?_⟩
    have hfg : forget fg58 (fr58 a n a2 a3 a15 a16 a17 a18 a19) = fr58 a n a2 a3 a15 a16 a17 a18 a19 := by simp [forget, fg58, c58, fr58]
    exact Run.seq_block_loop hfg x4 x3 y4
theorem app_run {T : FuncId → Option AFunc} (hT : T 58 = prepFn Try.prog 58) (n : Int) (h0 : 0 ≤ n) (h1 : n ≤ 18446744073709551615) (h : Heap) (a : AV) (B : List Int) (hB : B.length ≤ 140737488300000) (hI : rowB h a B) :
    ∃ H a', FRun Try.prog T 58 [a, .s (.int .u64 n)] h (a', H) ∧ Ap h H a a' ∧ rowB H a' (B ++ leb n) := by
  have hl := (leb_length_le h0 h1).2
  obtain ⟨H, a', tm', x1, x2, x3, x4⟩ := app_l (T := T) n h0 h1 h a B (by omega) hI (.s undef) (.s undef) (.s undef) (.s undef) (.s undef) (.s undef) (.s undef)
  refine ⟨H, a', ?_, x1, x2⟩
  apply FRun.of (e := .ret) (tm' := tm') (hT.trans p58)
  · apply Run.seq
    · apply Run.step 20; intro k j
      simp
      (constructor <;> rfl)
    · exact Run.seq_block_forget (by simp [forget, fg58, c58, fr58]) x4
  · exact Or.inl rfl
  · simp [resAs, resA, x3, tupA]
end Go.Proofs.Ytpmoellbfgcefaa.AS
end
section
set_option autoImplicit false
set_option maxRecDepth 100000
set_option maxHeartbeats 2000000
set_option linter.unusedSimpArgs false
namespace Go.Proofs.Ytpmoellbfgcefaa.AS
open Go Go.Proofs Go.RowKit Go.Proofs.Ytpmoellbfgcefaa.AS.V

theorem by8_cells (C : List Int) : (by8 C).all isCell = true := by simp [by8, isCell]
theorem by8_app (B C : List Int) : by8 (B ++ C) = by8 B ++ by8 C := by simp [by8]
theorem rowB.mono {h H : Heap} {a : AV} {B : List Int} (x : rowB h a B) (hk : ∀ c, blkOf a = some c → bk H c = bk h c) : rowB H a B := by
  rcases x with x | ⟨b, v, rfl, hb⟩
  · exact Or.inl x
  · exact Or.inr ⟨b, v, rfl, by rw [hk b rfl, hb]⟩
theorem rowB.lt {h : Heap} {a : AV} {B : List Int} (x : rowB h a B) {c : Nat} (hc : blkOf a = some c) : c < h.length := by
  rcases x with ⟨rfl, _⟩ | ⟨b, v, rfl, hb⟩
  · cases hc
  · cases hc; exact bk_lt hb
theorem ap_row {h : Heap} {a : AV} {B : List Int} (hI : rowB h a B) (C : List Int) (hB : B.length + C.length ≤ 140737488355328) :
    ∃ H a', apV 5 1 1 h (some a) (some (C.length, by8 C)) = some (a', H) ∧ Ap h H a a' ∧ rowB H a' (B ++ C) := by
  rcases hI with ⟨rfl, rfl⟩ | ⟨b, v, rfl, hb⟩
  · cases C with
    | nil => exact ⟨h, _, rfl, ⟨fun _ _ _ => rfl, Nat.le_refl _, fun c hc => by cases hc⟩, Or.inl ⟨rfl, rfl⟩⟩
    | cons x C =>
      simp only [List.length_nil, List.length_cons] at hB
      refine ⟨_, _, apV_nil 5 1 1 _ _ (by simp) (by8_cells _) (by simp only [List.length_cons]; omega) (by simp only [List.length_cons]; omega), ⟨fun c hc _ => by simp [hc], by simp, fun c hc => Or.inl (by simp [blkOf] at hc; omega)⟩, Or.inr ⟨_, _, rfl, ?_⟩⟩
      simp
  · have hlb := bk_lt hb
    refine ⟨_, _, (apV_sl 5 1 1 C.length b v 0 B.length 1 (by8 C)).trans ((congrArg _ hb).trans (apK_s _ _ _ _ _ _ _ _ _ _ _ _ _ _ ⟨rfl, rfl, rfl, rfl, by rw [by8_len]; omega, by8_cells _, by omega, by omega⟩)), ?_, Or.inr ⟨b, v + 1, by simp, ?_⟩⟩
    · refine ⟨fun c hc hn => ?_, by simp, fun c hc => Or.inr hc⟩
      have : b ≠ c := fun e => hn (by rw [e]; rfl)
      simp [hc, this]
    · have hall : (by8 B).take B.length = by8 B := List.take_of_length_le (by rw [by8_len]; omega)
      simp [hlb, by8_app, hall]
theorem bytesOf_by8 (s : ByteArray) : by8 (bytesOf s) = s.data.toList.map fun b => .s (.int .u8 b.toNat) := by simp [by8, bytesOf]
theorem src_row {h : Heap} {a : AV} {B : List Int} (hI : rowB h a B) : srcW 1 h (some a) = some (B.length, by8 B) := by
  rcases hI with ⟨rfl, rfl⟩ | ⟨b, v, rfl, hb⟩
  · rfl
  · have hall : (by8 B).take B.length = by8 B := List.take_of_length_le (by rw [by8_len]; omega)
    simp [hb, rdK, by8_len, hall]
theorem b2_row {h : Heap} {a : AV} {B : List Int} (hI : rowB h a B) : b2V h (some a) = some (.s (.string (strOfNums B))) := by
  rcases hI with ⟨rfl, rfl⟩ | ⟨b, v, rfl, hb⟩
  · rfl
  · have hall : (by8 B).take B.length = by8 B := List.take_of_length_le (by rw [by8_len]; omega)
    simp [hb, rdK, by8_len, hall, bytesA_by8]

/-- The keys rise. -/
def okOrd : List (Int × ByteArray) → Bool
  | x :: y :: l => decide (x.1 < y.1) && okOrd (y :: l)
  | _ => true
/-- The numbers of the entries. -/
def wrF : List (Int × ByteArray) → Int → List Int
  | [], _ => []
  | x :: l, next => (leb (IntKind.u64.wrap (x.1 - next)) ++ leb x.2.size) ++ wrF l (IntKind.u64.wrap (x.1 + 1))
def dsz : List (Int × ByteArray) → Nat
  | [] => 0
  | x :: l => x.2.size + dsz l
def dat : List (Int × ByteArray) → List Int
  | [] => []
  | x :: l => bytesOf x.2 ++ dat l
theorem dat_len : ∀ E, (dat E).length = dsz E
  | [] => rfl
  | x :: l => by simp [dat, dsz, dat_len l, bytesOf_length]
def wrS (E : List (Int × ByteArray)) : ByteArray × Int :=
  if okOrd E = false then (⟨#[]⟩, 12) else if 65536 < E.length then (⟨#[]⟩, 15) else (strOfNums ((leb E.length ++ wrF E 0) ++ dat E), 0)

def fr32 (a : AV) (i : Int) (a1 a5 a6 a7 a8 a9 : AV) (R : List AV) : List AV := a :: a1 :: .any :: .any :: .s (.int .i64 i) :: a5 :: a6 :: a7 :: a8 :: a9 :: .any :: .any :: .any :: .any :: .any :: .any :: .any :: .any :: .any :: .any :: .any :: .any :: .any :: .any :: .any :: .any :: .any :: .any :: R
noncomputable def lp32 : ACode := match c32 with
  | .seq _ (.seq (.seq _ (.block _ l)) _) => l
  | _ => .skip
noncomputable def tl32 : ACode := match c32 with
  | .seq _ (.seq _ t) => t
  | _ => .skip
noncomputable def body32 : ACode := match lp32 with
  | .loop _ b => b
  | _ => .skip
noncomputable def fg32 : List Nat := match lp32 with
  | .loop fg _ => fg
  | _ => []
theorem o32_end {T : FuncId → Option AFunc} (a : AV) (n i : Int) (hla : lenA (some a) = some (.s (.int .i64 n))) (hj : ¬ i < n) (h : Heap) (a1 a5 a6 a7 a8 a9 : AV) (R : List AV) :
    Run Try.prog T body32 (fr32 a i a1 a5 a6 a7 a8 a9 R) h (.exit 0, ((((fr32 a i a1 a5 a6 a7 a8 a9 R).set 10 (.s (.int .i64 i))).set 11 a).set 12 (.s (.int .i64 n))).set 13 (.s (.bool false)), h) := by
  apply Run.step 30; intro k j
  simp [c32, lp32, body32, fr32, hla, eq_false hj]
theorem o32_one {T : FuncId → Option AFunc} (h : Heap) (b v o n : Nat) (E : List (Int × ByteArray)) (hA : rowOf h (.sl b v o n 2) = some E) (hn : n ≤ 4611686018427387903) (i : Nat) (x y : Int × ByteArray) (hx : E[i]? = some x) (hy : E[i + 1]? = some y) (a1 a5 a6 a7 a8 a9 : AV) (R : List AV) :
    (x.1 < y.1 → ∃ tm', forget fg32 tm' = fr32 (.sl b v o n 2) (((i + 1 : Nat) : Int) + 1) a1 a5 a6 a7 a8 a9 R ∧ Run Try.prog T body32 (fr32 (.sl b v o n 2) ((i + 1 : Nat) : Int) a1 a5 a6 a7 a8 a9 R) h (.normal, tm', h)) ∧
    (¬ x.1 < y.1 → ∃ tm', tm'[2]? = some (.s (.string ⟨#[]⟩)) ∧ tm'[3]? = some (.s (.int .i64 12)) ∧ Run Try.prog T body32 (fr32 (.sl b v o n 2) ((i + 1 : Nat) : Int) a1 a5 a6 a7 a8 a9 R) h (.ret, tm', h)) := by
  obtain ⟨e1, s1, w1, C1, hb1, hl1, hC1, hn1⟩ := rowOf_sl hA
  have hin : i + 1 < n := by have := (List.getElem?_eq_some_iff.1 hy).1; omega
  have hr1 := row_at (i := i + 1) hC1 hn1 hin
  rw [(List.getElem?_eq_some_iff.1 hy).2] at hr1
  have hr2 := row_at (i := i) hC1 hn1 (by omega)
  rw [(List.getElem?_eq_some_iff.1 hx).2] at hr2
  have hle1 : o + (i + 1) * 2 + 2 ≤ C1.length := by omega
  have hle2 : o + i * 2 + 2 ≤ C1.length := by omega
  have hr1' : (C1.drop (o + (i + 1) * 2)).take 1 = [.s (.int .u64 y.1)] := by
    have := congrArg (List.take 1) hr1
    rw [List.take_take] at this
    simpa using this
  have hr2' : (C1.drop (o + i * 2)).take 1 = [.s (.int .u64 x.1)] := by
    have := congrArg (List.take 1) hr2
    rw [List.take_take] at this
    simpa using this
  have hle1' : o + (i + 1) * 2 + 1 ≤ C1.length := by omega
  have hle2' : o + i * 2 + 1 ≤ C1.length := by omega
  have hjn : ((i : Int) + 1) < (n : Int) := by omega
  have hin' : i < n := by omega
  have w6 : (0 : Int) ≤ (i : Int) + 1 := by omega
  have w3 : IntKind.i64.wrap ((i : Int) + 1 + 1) = (i : Int) + 1 + 1 := w64k (by omega) (by omega)
  have w4 : IntKind.i64.wrap ((i : Int) + 1 - 1) = (i : Int) := by rw [show (i : Int) + 1 - 1 = i by omega]; exact w64k (by omega) (by omega)
  have w5 : IntKind.i64.wrap (i : Int) = (i : Int) := w64k (by omega) (by omega)
  refine ⟨fun hxy => ?_, fun hxy => ?_⟩
  · have hd : ¬ y.1 ≤ x.1 := by omega
    refine ⟨?q1, ?q3, Run.step 40 fun k j => ?q4⟩
    case q4 =>
      simp [c32, lp32, body32, fr32, eq_true hjn, hin, hin', hb1, hr1', hr2', hle1', hle2', oneOr, w3, w4, w5, w6, eq_false hd]
      (first | rfl | (constructor <;> rfl))
    case q3 =>
      simp [forget, fg32, lp32, c32, fr32]
      try rfl
  · have hd : y.1 ≤ x.1 := by omega
    refine ⟨?r1, ?r2, ?r4, Run.step 40 fun k j => ?r3⟩
    case r3 =>
      simp [c32, lp32, body32, fr32, eq_true hjn, hin, hin', hb1, hr1', hr2', hle1', hle2', oneOr, w3, w4, w5, w6, eq_true hd]
      (first | rfl | (constructor <;> rfl))
    case r2 => rfl
    case r4 => rfl
end Go.Proofs.Ytpmoellbfgcefaa.AS
end
section
set_option autoImplicit false
set_option maxRecDepth 100000
set_option maxHeartbeats 2000000
set_option linter.unusedSimpArgs false
namespace Go.Proofs.Ytpmoellbfgcefaa.AS
open Go Go.Proofs Go.RowKit Go.Proofs.Ytpmoellbfgcefaa.AS.V

def cellW (k : Int) : AV := .s (.int .u32 k)
def rowW (n : Nat) (K : List Int) : AV := if K = [] then .s (.slice none 0 0) else .sl n 0 0 K.length 1
def rowWH (h : Heap) (K : List Int) : Heap := if K = [] then h else h ++ [⟨0, 32, 1, true, K.map cellW⟩]
theorem flat_W : ∀ K : List Int, ∃ us, toVs (K.map cellW) = some us
  | [] => ⟨[], rfl⟩
  | x :: K => by
    obtain ⟨us, h⟩ := flat_W K
    exact ⟨.int .u32 x :: us, by simp [cellW, toVs, toV] at h ⊢; simp [h]⟩
def intsWA : List AV → Option (List Int)
  | [] => some []
  | .s (.int .u32 k) :: l => (intsWA l).map (k :: ·)
  | _ => none
theorem intsWA_U : ∀ K : List Int, intsWA (K.map cellW) = some K
  | [] => rfl
  | x :: K => by
    have := intsWA_U K
    have e : (x :: K).map cellW = .s (.int .u32 x) :: K.map cellW := rfl
    rw [e]
    simp only [intsWA]
    rw [this]; rfl
theorem intsWA_inv : ∀ (l : List AV) (K : List Int), intsWA l = some K → l = K.map cellW
  | [], K, h => by simp [intsWA] at h; subst h; rfl
  | x :: l, K, h => by
    unfold intsWA at h
    split at h
    · simp_all
    · rename_i k l' heq
      simp only [List.cons.injEq] at heq
      obtain ⟨rfl, rfl⟩ := heq
      simp only [Option.map_eq_some_iff] at h
      obtain ⟨E', h1, rfl⟩ := h
      rw [intsWA_inv l E' h1]; rfl
    · cases h
def rowWOf (h : Heap) : AV → Option (List Int)
  | .s (.slice none 0 0) => some []
  | .sl b v o n 1 => (rdK (bk h b) v o n).bind intsWA
  | _ => none
theorem rowWOf_sl {h : Heap} {b v o n : Nat} {E : List Int} (H : rowWOf h (.sl b v o n 1) = some E) : ∃ e sz rw C, bk h b = some ⟨v, e, sz, rw, C⟩ ∧ o + n ≤ C.length ∧ (C.drop o).take n = E.map cellW ∧ E.length = n := by
  simp only [rowWOf] at H
  cases hb : bk h b with
  | none => rw [hb] at H; simp [rdK] at H
  | some k =>
    obtain ⟨v', e, sz, rw, C⟩ := k
    rw [hb, rdK_s] at H
    split at H
    · rename_i hc
      obtain ⟨rfl, hc⟩ := hc
      simp only [Option.bind_some] at H
      have h1 := intsWA_inv _ _ H
      refine ⟨e, sz, rw, C, rfl, hc, h1, ?_⟩
      have h2 := congrArg List.length h1
      rw [List.length_map, List.length_take, List.length_drop] at h2
      omega
    · simp at H
theorem rowW_at {C : List AV} {E : List Int} {o n i : Nat} {x : Int} (h1 : (C.drop o).take n = E.map cellW) (hi : i < n) (hx : E[i]? = some x) : (C.drop (o + i)).take 1 = [.s (.int .u32 x)] := by
  have e1 : C[o + i]? = ((C.drop o).take n)[i]? := by rw [List.getElem?_take_of_lt hi, List.getElem?_drop]
  rw [List.take_one, List.head?_drop, e1, h1, List.getElem?_map, hx]; rfl
theorem rowW_new (h : Heap) (K : List Int) : rowWOf (rowWH h K) (rowW h.length K) = some K := by
  by_cases hK : K = []
  · subst hK; rfl
  · have e1 : rowW h.length K = .sl h.length 0 0 K.length 1 := if_neg hK
    have e2 : rowWH h K = h ++ [⟨0, 32, 1, true, K.map cellW⟩] := if_neg hK
    rw [e1, e2]
    simp only [rowWOf]
    rw [bk_new, rdK_s, if_pos ⟨rfl, by simp⟩, List.drop_zero, List.take_of_length_le (by simp)]
    exact intsWA_U K

def fr19 (a b : AV) (n j : Int) (a2 a3 a5 a6 a7 a8 a9 a10 : AV) : List AV := [a, b, a2, a3, .any, a5, a6, a7, a8, a9, a10, a, .s (.int .i64 n), .s (.int .i64 j)] ++ List.replicate 12 .any
noncomputable def tail19 : ACode := match c19 with
  | .seq _ (.seq _ t) => t
  | _ => .skip
noncomputable def body19 : ACode := match tail19 with
  | .seq (.seq _ (.block _ (.loop _ b))) _ => b
  | _ => .skip
noncomputable def fg19 : List Nat := match tail19 with
  | .seq (.seq _ (.block _ (.loop fg _))) _ => fg
  | _ => []
theorem s19_end {T : FuncId → Option AFunc} (a b : AV) (n j : Int) (hj : ¬ j < n) (h : Heap) (a2 a3 a5 a6 a7 a8 a9 a10 : AV) : Run Try.prog T body19 (fr19 a b n j a2 a3 a5 a6 a7 a8 a9 a10) h (.exit 0, (fr19 a b n j a2 a3 a5 a6 a7 a8 a9 a10).set 14 (.s (.bool false)), h) := by
  apply Run.step 30; intro k j
  simp [c19, tail19, body19, fr19, eq_false hj]
theorem s19_one {T : FuncId → Option AFunc} (h : Heap) (b1 v1 o1 b2 v2 o2 n : Nat) (A B : List (Int)) (hA : rowWOf h (.sl b1 v1 o1 n 1) = some A) (hB : rowWOf h (.sl b2 v2 o2 n 1) = some B) (hn : n ≤ 4611686018427387903) (j : Nat) (x y : Int) (hx : A[j]? = some x) (hy : B[j]? = some y) (a2 a3 a5 a6 a7 a8 a9 a10 : AV) :
    (x = y → ∃ tm' a5', forget fg19 tm' = fr19 (.sl b1 v1 o1 n 1) (.sl b2 v2 o2 n 1) n ((j : Int) + 1) a2 a3 a5' a6 a7 a8 a9 a10 ∧ Run Try.prog T body19 (fr19 (.sl b1 v1 o1 n 1) (.sl b2 v2 o2 n 1) n j a2 a3 a5 a6 a7 a8 a9 a10) h (.normal, tm', h)) ∧
    (x ≠ y → ∃ tm', tm'[4]? = some (.s (.bool false)) ∧ Run Try.prog T body19 (fr19 (.sl b1 v1 o1 n 1) (.sl b2 v2 o2 n 1) n j a2 a3 a5 a6 a7 a8 a9 a10) h (.ret, tm', h)) := by
  obtain ⟨e1, s1, w1, C1, hb1, hl1, hC1, hn1⟩ := rowWOf_sl hA
  obtain ⟨e2, s2, w2, C2, hb2, hl2, hC2, hn2⟩ := rowWOf_sl hB
  have hjn' : j < n := by have := (List.getElem?_eq_some_iff.1 hx).1; omega
  have hr1 := rowW_at (i := j) hC1 (by omega) hx
  have hr2 := rowW_at (i := j) hC2 (by omega) hy

  have hle1 : o1 + j + 1 ≤ C1.length := by omega
  have hle2 : o2 + j + 1 ≤ C2.length := by omega
  have hjn : (j : Int) < (n : Int) := by omega
  have w3 : IntKind.i64.wrap ((j : Int) + 1) = (j : Int) + 1 := w64k (by omega) (by omega)
  refine ⟨fun hxy => ?_, fun hxy => ?_⟩
  · subst hxy
    refine ⟨?q1, ?q2, ?q3, Run.step 40 fun k j => ?q4⟩
    case q4 =>
      simp [c19, tail19, body19, fr19, hjn, hb1, hb2, hr1, hr2, hle1, hle2, oneOr, w3]
      (first | rfl | (constructor <;> rfl))
    case q3 =>
      simp [forget, fg19, tail19, c19, fr19]
      rfl
  · have hne : (!(decide (x = y))) = true := by
      simp [hxy]
    refine ⟨?r1, ?r2, Run.step 40 fun k j => ?r3⟩
    case r3 =>
      simp [c19, tail19, body19, fr19, hjn, hb1, hb2, hr1, hr2, hle1, hle2, oneOr, w3, hxy]
      (first | rfl | (constructor <;> rfl))
    case r2 => rfl
theorem s19_loop {T : FuncId → Option AFunc} (h : Heap) (b1 v1 o1 b2 v2 o2 n : Nat) (A B : List (Int)) (hA : rowWOf h (.sl b1 v1 o1 n 1) = some A) (hB : rowWOf h (.sl b2 v2 o2 n 1) = some B) (hn : n ≤ 4611686018427387903) : ∀ (d j : Nat), j + d = n → ∀ (a2 a3 a5 a6 a7 a8 a9 a10 : AV),
    (A.drop j = B.drop j → ∃ a5', Run Try.prog T (.loop fg19 body19) (fr19 (.sl b1 v1 o1 n 1) (.sl b2 v2 o2 n 1) n j a2 a3 a5 a6 a7 a8 a9 a10) h (.exit 0, (fr19 (.sl b1 v1 o1 n 1) (.sl b2 v2 o2 n 1) n n a2 a3 a5' a6 a7 a8 a9 a10).set 14 (.s (.bool false)), h)) ∧
    (A.drop j ≠ B.drop j → ∃ tm', tm'[4]? = some (.s (.bool false)) ∧ Run Try.prog T (.loop fg19 body19) (fr19 (.sl b1 v1 o1 n 1) (.sl b2 v2 o2 n 1) n j a2 a3 a5 a6 a7 a8 a9 a10) h (.ret, tm', h)) := by
  have hn1 : A.length = n := (rowWOf_sl hA).choose_spec.choose_spec.choose_spec.choose_spec.2.2.2
  have hn2 : B.length = n := (rowWOf_sl hB).choose_spec.choose_spec.choose_spec.choose_spec.2.2.2
  have hfg : ∀ (a b : AV) (n j : Int) (a2 a3 a5 a6 a7 a8 a9 a10 : AV), forget fg19 (fr19 a b n j a2 a3 a5 a6 a7 a8 a9 a10) = fr19 a b n j a2 a3 a5 a6 a7 a8 a9 a10 := fun a b n j a2 a3 a5 a6 a7 a8 a9 a10 => by simp [forget, fg19, tail19, c19, fr19]
  intro d
  induction d with
  | zero =>
    intro j hd a2 a3 a5 a6 a7 a8 a9 a10
    obtain rfl : j = n := by omega
    rw [List.drop_eq_nil_of_le (by omega), List.drop_eq_nil_of_le (by omega)]
    exact ⟨fun _ => ⟨a5, Run.loop_end_f (hfg _ _ _ _ a2 a3 a5 a6 a7 a8 a9 a10) (by simp) (s19_end (T := T) _ _ j j (by omega) h a2 a3 a5 a6 a7 a8 a9 a10)⟩, fun h => absurd rfl h⟩
  | succ d ih =>
    intro j hd a2 a3 a5 a6 a7 a8 a9 a10
    have hj1 : j < A.length := by omega
    have hj2 : j < B.length := by omega
    obtain ⟨k1, k2⟩ := s19_one (T := T) h b1 v1 o1 b2 v2 o2 n A B hA hB hn j A[j] B[j] (List.getElem?_eq_getElem hj1) (List.getElem?_eq_getElem hj2) a2 a3 a5 a6 a7 a8 a9 a10
    rw [List.drop_eq_getElem_cons hj1, List.drop_eq_getElem_cons hj2]
    by_cases hxy : A[j] = B[j]
    · obtain ⟨tm', a5', x1, x2⟩ := k1 hxy
      obtain ⟨i1, i2⟩ := ih (j + 1) (by omega) a2 a3 a5' a6 a7 a8 a9 a10
      refine ⟨fun he => ?_, fun he => ?_⟩
      · obtain ⟨z, y⟩ := i1 (List.cons.inj he).2
        exact ⟨z, Run.loop_go (hfg _ _ _ _ a2 a3 a5 a6 a7 a8 a9 a10) x2 x1 y⟩
      · obtain ⟨tm2, y1, y2⟩ := i2 (fun h => he (by rw [hxy, h]))
        exact ⟨tm2, y1, Run.loop_go (hfg _ _ _ _ a2 a3 a5 a6 a7 a8 a9 a10) x2 x1 y2⟩
    · refine ⟨fun he => absurd (List.cons.inj he).1 hxy, fun _ => ?_⟩
      obtain ⟨tm', x1, x2⟩ := k2 hxy
      exact ⟨tm', x1, Run.loop_end_f (hfg _ _ _ _ a2 a3 a5 a6 a7 a8 a9 a10) (by simp) x2⟩
noncomputable def hkSame19 : List AV → Heap → Option (AV × Heap)
  | [a, b], h => match rowWOf h a, rowWOf h b with
    | some A, some B => if A.length ≤ 4611686018427387903 then some (.s (.bool (decide (A = B))), h) else none
    | _, _ => none
  | _, _ => none
theorem s19_len {h : Heap} {a : AV} {A : List (Int)} (hA : rowWOf h a = some A) : lenA (some a) = some (.s (.int .i64 A.length)) := by
  unfold rowWOf at hA
  split at hA
  · cases hA; rfl
  · rename_i b v o n
    have hA : rowWOf h (.sl b v o n 1) = some A := hA
    have hl := (rowWOf_sl hA).choose_spec.choose_spec.choose_spec.choose_spec.2.2.2
    rw [hl]; rfl
  · cases hA
theorem hkSame19_ok {T : FuncId → Option AFunc} (hm : Try.prog.follows .mixedOrders = true) (hT : TabOK Try.prog T) (hF : T 19 = prepFn Try.prog 19) (hc : callable Try.prog 19 = true) : HookSound Try.prog 19 hkSame19 := by
  refine hookOf hm hT hc fun l h r he => ?_
  unfold hkSame19 at he
  split at he
  · rename_i a b
    split at he
    · rename_i A B hA hB
      split at he
      · rename_i hn
        cases he
        refine ⟨_, ?_, Drops.refl _ _⟩
        have la := s19_len hA
        have lb := s19_len hB
        by_cases hl : (A.length : Int) = B.length
        · have hpre : ∀ {r : Res}, Run Try.prog T (.seq (match tail19 with | .seq (.seq _ b) _ => b | _ => .skip) (match tail19 with | .seq _ t => t | _ => .skip)) ([a, b, .s undef, .s undef, .s (.bool false), .s undef, a, .s (.int .i64 A.length), b, .s (.int .i64 B.length), .s (.bool false), a, .s (.int .i64 A.length), .s (.int .i64 0)] ++ List.replicate 12 (.s undef)) h r → Run Try.prog T c19 ([a, b] ++ List.replicate 24 (.s undef)) h r := fun {r} H => by
            apply Run.seq
            · apply Run.step 20; intro k j
              simp
              (first | rfl | (constructor <;> rfl))
            · apply Run.seq
              · apply Run.step 20; intro k j
                simp [la, lb, hl]
                (first | rfl | (constructor <;> rfl))
              · apply Run.seq_seq ?_ H
                apply Run.step 20; intro k j
                simp [la, hl]
          by_cases hz : A.length = 0
          · have eA : A = [] := List.length_eq_zero_iff.1 hz
            have eB : B = [] := List.length_eq_zero_iff.1 (by omega)
            subst eA; subst eB
            have t2 := s19_end (T := T) a b 0 0 (by omega) h (.s undef) (.s undef) (.s undef) a (.s (.int .i64 0)) b (.s (.int .i64 0)) (.s (.bool false))
            apply FRun.of (e := .ret) (hF.trans p19)
            · apply hpre
              apply Run.seq
              · apply Run.block_exit
                refine Run.loop_end_f ?_ (by simp) t2
                simp [forget, fg19, tail19, c19, fr19]
              · apply Run.step 20; intro k j
                simp [fr19, tail19, c19]
                (first | rfl | (constructor <;> rfl))
            · exact Or.inl rfl
            · simp [resAs, resA, tupA]
          · unfold rowWOf at hA hB
            split at hA
            · cases hA; simp at hz
            · rename_i b1 v1 o1 n
              split at hB
              · cases hB; simp at hl; simp [hl] at hz
              · rename_i b2 v2 o2 n2
                have hA : rowWOf h (.sl b1 v1 o1 n 1) = some A := hA
                have hB : rowWOf h (.sl b2 v2 o2 n2 1) = some B := hB
                have q1 := (rowWOf_sl hA).choose_spec.choose_spec.choose_spec.choose_spec.2.2.2
                have q2 := (rowWOf_sl hB).choose_spec.choose_spec.choose_spec.choose_spec.2.2.2
                obtain rfl : n = n2 := by omega
                rw [q1, q2] at hpre
                obtain ⟨i1, i2⟩ := s19_loop (T := T) h b1 v1 o1 b2 v2 o2 n A B hA hB (by omega) n 0 (by omega) (.s undef) (.s undef) (.s undef) (.sl b1 v1 o1 n 1) (.s (.int .i64 n)) (.sl b2 v2 o2 n 1) (.s (.int .i64 n)) (.s (.bool false))
                rw [List.drop_zero, List.drop_zero] at i1 i2
                by_cases hAB : A = B
                · rw [decide_eq_true hAB]
                  obtain ⟨a5', hr⟩ := i1 hAB
                  apply FRun.of (e := .ret) (hF.trans p19)
                  · apply hpre
                    apply Run.seq
                    · apply Run.block_exit
                      apply Run.loop_go' hr
                      simp [forget, fg19, tail19, c19, fr19]
                    · apply Run.step 20; intro k j
                      simp [fr19, tail19, c19]
                      (first | rfl | (constructor <;> rfl))
                  · exact Or.inl rfl
                  · rfl
                · rw [decide_eq_false hAB]
                  obtain ⟨tm', t1, hr⟩ := i2 hAB
                  apply FRun.of (e := .ret) (tm' := tm') (hF.trans p19)
                  · apply hpre
                    apply Run.seq_stop (by simp)
                    apply Run.block_id (by simp)
                    apply Run.loop_go' hr
                    simp [forget, fg19, tail19, c19, fr19]
                  · exact Or.inl rfl
                  · simp [resAs, resA, tupA, t1]
              · cases hB
            · cases hA
        · have hAB : ¬ A = B := fun h => hl (by rw [h])
          rw [decide_eq_false hAB]
          apply FRun.of (e := .ret) (hF.trans p19)
          · apply Run.step 20; intro k j
            simp [c19, la, lb, eq_false hl]
            (first | rfl | (constructor <;> rfl))
          · exact Or.inl rfl
          · rfl
      · cases he
    · cases he
  · cases he
end Go.Proofs.Ytpmoellbfgcefaa.AS
end
section
set_option autoImplicit false
set_option maxRecDepth 100000
set_option maxHeartbeats 2000000
set_option linter.unusedSimpArgs false
namespace Go.Proofs.Ytpmoellbfgcefaa.AS
open Go Go.Proofs Go.RowKit Go.Proofs.Ytpmoellbfgcefaa.AS.V

/-- The numbers rise. -/
def okW : List Int → Bool
  | x :: y :: l => decide (x < y) && okW (y :: l)
  | _ => true
def chkS (L : List Int) : Int := if okW L = false then 12 else if 65536 < L.length then 15 else 0
theorem lenW {h : Heap} {a : AV} {A : List Int} (hA : rowWOf h a = some A) : lenA (some a) = some (.s (.int .i64 A.length)) := by
  unfold rowWOf at hA
  split at hA
  · cases hA; rfl
  · rename_i b v o n
    have hA : rowWOf h (.sl b v o n 1) = some A := hA
    have hl := (rowWOf_sl hA).choose_spec.choose_spec.choose_spec.choose_spec.2.2.2
    rw [hl]; rfl
  · cases hA
def fr20 (a : AV) (i : Int) (a1 a20 a21 a22 : AV) : List AV := [a, a1, .any, .s (.int .i64 i)] ++ List.replicate 16 .any ++ [a20, a21, a22]
noncomputable def lp20 : ACode := match c20 with
  | .seq _ (.seq (.seq _ (.block _ l)) _) => l
  | _ => .skip
noncomputable def tl20 : ACode := match c20 with
  | .seq _ (.seq _ t) => t
  | _ => .skip
noncomputable def body20 : ACode := match lp20 with
  | .loop _ b => b
  | _ => .skip
noncomputable def fg20 : List Nat := match lp20 with
  | .loop fg _ => fg
  | _ => []
theorem k20_end {T : FuncId → Option AFunc} (a : AV) (n i : Int) (hla : lenA (some a) = some (.s (.int .i64 n))) (hj : ¬ i < n) (h : Heap) (a1 a20 a21 a22 : AV) :
    Run Try.prog T body20 (fr20 a i a1 a20 a21 a22) h (.exit 0, ((((fr20 a i a1 a20 a21 a22).set 4 (.s (.int .i64 i))).set 5 a).set 6 (.s (.int .i64 n))).set 7 (.s (.bool false)), h) := by
  apply Run.step 30; intro k j
  simp [c20, lp20, body20, fr20, hla, eq_false hj]
theorem k20_one {T : FuncId → Option AFunc} (h : Heap) (b v o n : Nat) (E : List Int) (hA : rowWOf h (.sl b v o n 1) = some E) (hn : n ≤ 4611686018427387903) (i : Nat) (x y : Int) (hx : E[i]? = some x) (hy : E[i + 1]? = some y) (a1 a20 a21 a22 : AV) :
    (x < y → ∃ tm', forget fg20 tm' = fr20 (.sl b v o n 1) (((i + 1 : Nat) : Int) + 1) a1 a20 a21 a22 ∧ Run Try.prog T body20 (fr20 (.sl b v o n 1) ((i + 1 : Nat) : Int) a1 a20 a21 a22) h (.normal, tm', h)) ∧
    (¬ x < y → ∃ tm', tm'[2]? = some (.s (.int .i64 12)) ∧ Run Try.prog T body20 (fr20 (.sl b v o n 1) ((i + 1 : Nat) : Int) a1 a20 a21 a22) h (.ret, tm', h)) := by
  obtain ⟨e1, s1, w1, C1, hb1, hl1, hC1, hn1⟩ := rowWOf_sl hA
  have hin : i + 1 < n := by have := (List.getElem?_eq_some_iff.1 hy).1; omega
  have hr1 := rowW_at hC1 hin hy
  have hr2 := rowW_at hC1 (by omega : i < n) hx
  have hle1 : o + (i + 1) + 1 ≤ C1.length := by omega
  have hle2 : o + i + 1 ≤ C1.length := by omega
  have hjn : ((i : Int) + 1) < (n : Int) := by omega
  have hin' : i < n := by omega
  have w6 : (0 : Int) ≤ (i : Int) + 1 := by omega
  have w3 : IntKind.i64.wrap ((i : Int) + 1 + 1) = (i : Int) + 1 + 1 := w64k (by omega) (by omega)
  have w5 : IntKind.i64.wrap (i : Int) = (i : Int) := w64k (by omega) (by omega)
  refine ⟨fun hxy => ?_, fun hxy => ?_⟩
  · have hd : ¬ y ≤ x := by omega
    refine ⟨?q1, ?q3, Run.step 40 fun k j => ?q4⟩
    case q4 =>
      simp [c20, lp20, body20, fr20, eq_true hjn, hin, hin', hb1, hr1, hr2, hle1, hle2, oneOr, w3, w5, w6, eq_false hd]
      (first | rfl | (constructor <;> rfl))
    case q3 =>
      simp [forget, fg20, lp20, c20, fr20]
      try rfl
  · have hd : y ≤ x := by omega
    refine ⟨?r1, ?r2, Run.step 40 fun k j => ?r3⟩
    case r3 =>
      simp [c20, lp20, body20, fr20, eq_true hjn, hin, hin', hb1, hr1, hr2, hle1, hle2, oneOr, w3, w5, w6, eq_true hd]
      (first | rfl | (constructor <;> rfl))
    case r2 => rfl
theorem k20_loop {T : FuncId → Option AFunc} (h : Heap) (b v o n : Nat) (E : List Int) (hA : rowWOf h (.sl b v o n 1) = some E) (hn : n ≤ 4611686018427387903) (a1 a20 a21 a22 : AV) : ∀ (d i : Nat), i + 1 + d = n →
    (okW (E.drop i) = true → Run Try.prog T (.loop fg20 body20) (fr20 (.sl b v o n 1) ((i + 1 : Nat) : Int) a1 a20 a21 a22) h (.exit 0, ((((fr20 (.sl b v o n 1) (n : Int) a1 a20 a21 a22).set 4 (.s (.int .i64 n))).set 5 (.sl b v o n 1)).set 6 (.s (.int .i64 n))).set 7 (.s (.bool false)), h)) ∧
    (okW (E.drop i) = false → ∃ tm', tm'[2]? = some (.s (.int .i64 12)) ∧ Run Try.prog T (.loop fg20 body20) (fr20 (.sl b v o n 1) ((i + 1 : Nat) : Int) a1 a20 a21 a22) h (.ret, tm', h)) := by
  have hn1 : E.length = n := (rowWOf_sl hA).choose_spec.choose_spec.choose_spec.choose_spec.2.2.2
  have hfg : ∀ (i : Int), forget fg20 (fr20 (.sl b v o n 1) i a1 a20 a21 a22) = fr20 (.sl b v o n 1) i a1 a20 a21 a22 := fun i => by simp [forget, fg20, lp20, c20, fr20]
  intro d
  induction d with
  | zero =>
    intro i hd
    obtain rfl : i + 1 = n := by omega
    have e : E.drop i = [E[i]'(by omega)] := by
      rw [List.drop_eq_getElem_cons (by omega), List.drop_eq_nil_of_le (by omega)]
    rw [e]
    refine ⟨fun _ => Run.loop_end_f (hfg _) (by simp) (k20_end (T := T) _ ((i + 1 : Nat) : Int) _ rfl (by omega) h a1 a20 a21 a22), fun h => by simp [okW] at h⟩
  | succ d ih =>
    intro i hd
    have h1 : i < E.length := by omega
    have h2 : i + 1 < E.length := by omega
    obtain ⟨k1, k2⟩ := k20_one (T := T) h b v o n E hA hn i E[i] E[i + 1] (List.getElem?_eq_getElem h1) (List.getElem?_eq_getElem h2) a1 a20 a21 a22
    rw [List.drop_eq_getElem_cons h1, List.drop_eq_getElem_cons h2]
    by_cases hxy : E[i] < E[i + 1]
    · obtain ⟨tm', x1, x2⟩ := k1 hxy
      obtain ⟨i1, i2⟩ := ih (i + 1) (by omega)
      rw [List.drop_eq_getElem_cons h2] at i1 i2
      simp only [okW, hxy, decide_true, Bool.true_and]
      refine ⟨fun he => Run.loop_go (hfg _) x2 (by rw [x1]; rfl) (i1 he), fun he => ?_⟩
      obtain ⟨tm2, y1, y3⟩ := i2 he
      exact ⟨tm2, y1, Run.loop_go (hfg _) x2 (by rw [x1]; rfl) y3⟩
    · obtain ⟨tm', x1, x3⟩ := k2 hxy
      simp only [okW, hxy, decide_false, Bool.false_and]
      exact ⟨fun h => absurd h (by simp), fun _ => ⟨tm', x1, Run.loop_end_f (hfg _) (by simp) x3⟩⟩
theorem k20_all {T : FuncId → Option AFunc} (h : Heap) (a : AV) (E : List Int) (hA : rowWOf h a = some E) (hn : E.length ≤ 4611686018427387903) (a1 a20 a21 a22 : AV) :
    (okW E = true → ∃ i, Run Try.prog T (.loop fg20 body20) (fr20 a 1 a1 a20 a21 a22) h (.exit 0, ((((fr20 a i a1 a20 a21 a22).set 4 (.s (.int .i64 i))).set 5 a).set 6 (.s (.int .i64 E.length))).set 7 (.s (.bool false)), h)) ∧
    (okW E = false → ∃ tm', tm'[2]? = some (.s (.int .i64 12)) ∧ Run Try.prog T (.loop fg20 body20) (fr20 a 1 a1 a20 a21 a22) h (.ret, tm', h)) := by
  have hl := lenW hA
  have hfg : ∀ (i : Int), forget fg20 (fr20 a i a1 a20 a21 a22) = fr20 a i a1 a20 a21 a22 := fun i => by simp [forget, fg20, lp20, c20, fr20]
  cases E with
  | nil => exact ⟨fun _ => ⟨1, Run.loop_end_f (hfg _) (by simp) (k20_end (T := T) a _ 1 hl (by simp) h a1 a20 a21 a22)⟩, fun h => absurd h (by simp [okW])⟩
  | cons x E =>
    unfold rowWOf at hA
    split at hA
    · cases hA
    · rename_i b v o n
      have hA : rowWOf h (.sl b v o n 1) = some (x :: E) := hA
      have hn1 : (x :: E).length = n := (rowWOf_sl hA).choose_spec.choose_spec.choose_spec.choose_spec.2.2.2
      simp only [List.length_cons] at hn1 hn
      obtain ⟨i1, i2⟩ := k20_loop (T := T) h b v o n (x :: E) hA (by omega) a1 a20 a21 a22 (n - 1) 0 (by omega)
      refine ⟨fun he => ⟨n, ?_⟩, i2⟩
      have := i1 he
      rw [List.length_cons, hn1]
      exact this
    · cases hA
theorem chk_run {T : FuncId → Option AFunc} (hT : T 20 = prepFn Try.prog 20) (h : Heap) (a : AV) (E : List Int) (hA : rowWOf h a = some E) (hn : E.length ≤ 4611686018427387903) : FRun Try.prog T 20 [a] h (.s (.int .i64 (chkS E)), h) := by
  have hla := lenW hA
  obtain ⟨o1, o2⟩ := k20_all (T := T) h a E hA hn (.s undef) (.s undef) (.s undef) (.s undef)
  suffices hs : ∃ tm', Run Try.prog T c20 ([a] ++ List.replicate 22 (.s undef)) h (.ret, tm', h) ∧ tm'[2]? = some (.s (.int .i64 (chkS E))) by
    obtain ⟨tm', h1, h2⟩ := hs
    exact FRun.of (e := .ret) (tm' := tm') (hT.trans p20) h1 (Or.inl rfl) (by simp [resAs, resA, h2, tupA])
  have hpre : ∀ {r : Res}, Run Try.prog T (.seq (.block 0 (.loop fg20 body20)) tl20) (fr20 a 1 (.s undef) (.s undef) (.s undef) (.s undef)) h r → Run Try.prog T c20 ([a] ++ List.replicate 22 (.s undef)) h r := by
    intro r H
    apply Run.seq
    · apply Run.step 20; intro k j
      simp
      (first | rfl | (constructor <;> rfl))
    · apply Run.seq_seq
      · apply Run.step 20; intro k j
        simp
        (first | rfl | (constructor <;> rfl))
      · exact Run.seq_block_forget (by simp [forget, fg20, lp20, c20, fr20]) H
  by_cases ho : okW E = true
  · obtain ⟨i, hi⟩ := o1 ho
    by_cases hm : 65536 < E.length
    · have hw : chkS E = 15 := by simp [chkS, ho, hm]
      rw [hw]
      have hm' : (65536 : Int) < (E.length : Int) := by omega
      refine ⟨?qtm, hpre (Run.seq (Run.block_exit hi) (Run.seq_stop (by simp) ?qrun)), ?q2⟩
      case qrun =>
        apply Run.step 30; intro k j
        simp [c20, tl20, fr20, hla, eq_true hm']
        (first | rfl | (constructor <;> rfl))
      case q2 => rfl
    · have hw : chkS E = 0 := by simp [chkS, ho, hm]
      rw [hw]
      have hm' : ¬ (65536 : Int) < (E.length : Int) := by omega
      refine ⟨?qtm2, hpre (Run.seq (Run.block_exit hi) ?qr1), ?q22⟩
      case qr1 =>
        apply Run.seq
        · apply Run.step 30; intro k j
          simp [c20, tl20, fr20, hla, eq_false hm']
          (first | rfl | (constructor <;> rfl))
        · apply Run.step 30; intro k j
          simp
          (first | rfl | (constructor <;> rfl))
      case q22 => rfl
  · obtain ⟨tm', h1, h3⟩ := o2 (by simpa using ho)
    have hw : chkS E = 12 := by simp [chkS, ho]
    rw [hw]
    exact ⟨tm', hpre (Run.seq_stop (by simp) (Run.block_id (by simp) h3)), h1⟩
def hkCheck : List AV → Heap → Option (AV × Heap)
  | [a], h => match rowWOf h a with
    | some E => if E.length ≤ 4611686018427387903 then some (.s (.int .i64 (chkS E)), h) else none
    | none => none
  | _, _ => none
theorem hkCheck_ok {T : FuncId → Option AFunc} (hm : Try.prog.follows .mixedOrders = true) (hT : TabOK Try.prog T) (hF : T 20 = prepFn Try.prog 20) (hc : callable Try.prog 20 = true) : HookSound Try.prog 20 hkCheck := by
  refine hookOf hm hT hc fun l h r he => ?_
  unfold hkCheck at he
  split at he
  · rename_i a
    split at he
    · rename_i E hA
      split at he
      · rename_i hn
        cases he
        exact ⟨_, chk_run hF h a E hA hn, Drops.refl _ _⟩
      · cases he
    · cases he
  · cases he
end Go.Proofs.Ytpmoellbfgcefaa.AS
end
section
set_option autoImplicit false
set_option linter.unusedSimpArgs false
namespace Go.Proofs.Ytpmoellbfgcefaa.AS
open Go Go.RowKit
section
variable {P : Program} {tm : List AV}
def minV (P : Program) (t t2 ty : TypeId) (a b : Option AV) : Option AV :=
  match a.bind toV, b.bind toV with
  | some u, some v => (semv P (Builtin.min_ #[t, t2] ty #[u, v])).map .s
  | _, _ => none
@[simp] theorem sc_min (x y : Operand) (t t2 ty : TypeId) : scV P tm (.call ⟨.builtin .min, #[x, y], #[t, t2]⟩) ty = minV P t t2 ty (evO tm x) (evO tm y) := by
  unfold scV minV
  simp only [Op.operands, Call.operands, Array.empty_append, List.append_nil, List.nil_append, List.all_cons, List.all_nil, Bool.and_true, notSel]
  cases hx : (evO tm x).bind toV with
  | none => simp
  | some u =>
    cases hy : (evO tm y).bind toV with
    | none => simp
    | some v =>
      simp only [Option.isSome_some, Bool.and_self, if_true, execOp, opOf, resolve, envV, List.map_toArray, List.map_cons, List.map_nil, hx, hy, Option.getD_some, pure_bind, invoke, builtin]
      rw [semv_value]
      generalize semv P (Builtin.min_ #[t, t2] ty #[u, v]) = o
      cases o <;> rfl
@[simp] theorem minV_i {t t2 ty : TypeId} (k : IntKind) (a b : Int) : minV P t t2 ty (some (.s (.int k a))) (some (.s (.int k b))) = some (.s (.int k (if b < a then b else a))) := by
  simp [minV, toV, Builtin.min_, Builtin.min2, semv_pure]
end
end Go.Proofs.Ytpmoellbfgcefaa.AS
end
section
set_option autoImplicit false
set_option maxRecDepth 100000
set_option maxHeartbeats 2000000
set_option linter.unusedSimpArgs false
namespace Go.Proofs.Ytpmoellbfgcefaa.AS
open Go Go.Proofs Go.RowKit Go.Proofs.Ytpmoellbfgcefaa.AS.V

theorem chunk_run {T : FuncId → Option AFunc} (hT : T 65 = prepFn Try.prog 65) (a : AV) (ha : a = .s (.slice none 0 0) ∨ ∃ b v o n, a = .sl b v o n 1) (h : Heap) :
    FRun Try.prog T 65 [a, .s (.int .i64 32)] h (.fn (.func 80) [] [.pt h.length 0 0, .pt (h.length + 1) 0 0], h ++ [⟨0, 23, 1, true, [a]⟩, ⟨0, 3, 1, true, [.s (.int .i64 32)]⟩]) := by
  suffices hs : ∃ tm', Run Try.prog T c65 ([a, .s (.int .i64 32)] ++ List.replicate 7 (.s undef)) h (.ret, tm', h ++ [⟨0, 23, 1, true, [a]⟩, ⟨0, 3, 1, true, [.s (.int .i64 32)]⟩]) ∧ tm'[4]? = some (.fn (.func 80) [] [.pt h.length 0 0, .pt (h.length + 1) 0 0]) by
    obtain ⟨tm', h1, h2⟩ := hs
    exact FRun.of (e := .ret) (tm' := tm') (hT.trans p65) h1 (Or.inl rfl) (by simp [resAs, resA, h2, tupA])
  rcases ha with rfl | ⟨b, v, o, n, rfl⟩
  · refine ⟨?qtm, ?q1, ?q2⟩
    case q1 =>
      apply Run.step 40; intro k j
      simp [c65, cellsOf, isCell, oneOr, pV, evOs]
      (first | rfl | (constructor <;> rfl))
    case q2 => rfl
  · refine ⟨?rtm, ?r1, ?r2⟩
    case r1 =>
      apply Run.step 40; intro k j
      simp [c65, cellsOf, isCell, oneOr, pV, evOs]
      (first | rfl | (constructor <;> rfl))
    case r2 => rfl
def fr80 (B bs bn : Nat) (i : Int) (a3 a5 : AV) : List AV := [.yl B, .pt bs 0 0, .pt bn 0 0, a3, .s (.int .i64 i), a5] ++ List.replicate 25 .any
noncomputable def lp80 : ACode := match c80 with
  | .seq _ (.block _ l) => l
  | _ => .skip
noncomputable def body80 : ACode := match lp80 with
  | .loop _ b => b
  | _ => .skip
noncomputable def fg80 : List Nat := match lp80 with
  | .loop fg _ => fg
  | _ => []
theorem it_end {C : CallF → Prop} (B bs bn : Nat) (a : AV) (n i : Int) (hla : lenA (some a) = some (.s (.int .i64 n))) (hi : ¬ i < n) (h : Heap) (hs : bk h bs = some ⟨0, 23, 1, true, [a]⟩) (a3 a5 : AV) :
    ∃ tm', RunU Try.prog C body80 (fr80 B bs bn i a3 a5) h (.exit 0, tm', h) := by
  refine ⟨?q1, RunU.step 30 fun g hg k => ?q2⟩
  case q2 =>
    simp [c80, lp80, body80, fr80, hs, oneOr, hla, eq_false hi]
    (first | rfl | (constructor <;> rfl))
theorem it_one {C : CallF → Prop} (B bs bn b v o n i e : Nat) (h h1 : Heap) (hi : i < n) (hn : n ≤ 4611686018427387903) (he : e = if n - i < 32 then n - i else 32) (hs : bk h bs = some ⟨0, 23, 1, true, [.sl b v o n 1]⟩) (hb : bk h bn = some ⟨0, 3, 1, true, [.s (.int .i64 32)]⟩) (hb1 : bk h1 bn = some ⟨0, 3, 1, true, [.s (.int .i64 32)]⟩)
    (hy : ∀ g, C g → g (1000000000 + B) [.sl b v (o + i) e 1] h = some (.s (.bool true), h1)) (a3 a5 : AV) :
    ∃ tm' a5', forget fg80 tm' = fr80 B bs bn ((i : Int) + 32) a3 a5' ∧ RunU Try.prog C body80 (fr80 B bs bn i a3 a5) h (.normal, tm', h1) := by
  have hin : (i : Int) < (n : Int) := by omega
  have hee : e ≤ n - i := by rw [he]; split <;> omega
  have hee2 : e ≤ 32 := by rw [he]; split <;> omega
  have w1 : IntKind.i64.wrap ((i : Int) + e) = (i : Int) + e := w64k (by omega) (by omega)
  have w2 : IntKind.i64.wrap ((i : Int) + 32) = (i : Int) + 32 := w64k (by omega) (by omega)
  have c3 : s3V 1 (some (.sl b v o n 1)) (some (some (.s (.int .i64 i)))) (some (.s (.int .i64 ((i : Int) + e)))) (some (.s (.int .i64 ((i : Int) + e)))) = some (.sl b v (o + i) e 1) := by
    rw [s3V_sl _ _ _ _ _ _ _ _ _ _ _ (by omega)]
    congr 2 <;> omega
  have c4 : slV 1 (some (.sl b v o n 1)) (some (some (.s (.int .i64 i)))) none = some (.sl b v (o + i) (n - i) 1) := by
    simp only [slV, Option.bind_some, asI]
    rw [if_pos ⟨trivial, by omega, by omega, by omega⟩]
    congr 2 <;> omega
  have c5 : (if ((n - i : Nat) : Int) < 32 then ((n - i : Nat) : Int) else 32) = (e : Int) := by rw [he]; split <;> split <;> omega
  refine ⟨?q1, ?q2, ?q3, ?q4⟩
  case q4 =>
    apply RunU.seq
    · apply RunU.step 20; intro g hg k
      simp [c80, lp80, body80, fr80, hs, oneOr, eq_true hin]
      (first | rfl | (constructor <;> rfl))
    · apply RunU.seq
      · apply RunU.block_id (by simp)
        apply RunU.seq
        · apply RunU.step 20; intro g hg k
          simp [hs, hb, oneOr, c4, c5]
          (first | rfl | (constructor <;> rfl))
        · apply RunU.step 20; intro g hg k
          simp [hs, hb, oneOr, w1, c3, hy g hg]
          (first | rfl | (constructor <;> rfl))
      · apply RunU.step 20; intro g hg k
        simp [hb1, oneOr, w2]
        (first | rfl | (constructor <;> rfl))
  case q3 =>
    simp [forget, fg80, lp80, c80, fr80]
    try rfl
/-- The yields of slices.Chunk, piece by piece. -/
def chEvs (B b v o n : Nat) : Nat → Heap → List Heap → List Evt
  | _, _, [] => []
  | i, h, h1 :: l => (1000000000 + B, [.sl b v (o + i) (if n - i < 32 then n - i else 32) 1], h, (.s (.bool true), h1)) :: chEvs B b v o n (i + 32) h1 l
def lastH : Heap → List Heap → Heap
  | h, [] => h
  | _, h1 :: l => lastH h1 l
theorem it_all (B bs bn b v o n : Nat) (hn : n ≤ 4611686018427387903) (a3 : AV) : ∀ (hs : List Heap) (i : Nat) (h : Heap) (a5 : AV), (n - i ≤ 32 * hs.length) → (hs ≠ [] → i + 32 * (hs.length - 1) < n) → (∀ x ∈ h :: hs, bk x bs = some ⟨0, 23, 1, true, [.sl b v o n 1]⟩ ∧ bk x bn = some ⟨0, 3, 1, true, [.s (.int .i64 32)]⟩) →
    ∃ tm', RunU Try.prog (EvC (chEvs B b v o n i h hs)) (.loop fg80 body80) (fr80 B bs bn i a3 a5) h (.exit 0, tm', lastH h hs)
  | [], i, h, a5, h1, _, hx => by
    obtain ⟨tm', H⟩ := it_end (C := EvC (chEvs B b v o n i h [])) B bs bn (.sl b v o n 1) n i rfl (by simp at h1; omega) h (hx h (by simp)).1 a3 a5
    exact ⟨tm', RunU.loop_end (by simp [forget, fg80, lp80, c80, fr80]) (by simp) H⟩
  | h1 :: hs, i, h, a5, hl, hlt, hx => by
    have hi : i < n := by have := hlt (by simp); omega
    obtain ⟨tm', a5', x1, x2⟩ := it_one (C := EvC (chEvs B b v o n i h (h1 :: hs))) B bs bn b v o n i _ h h1 hi hn rfl (hx h (by simp)).1 (hx h (by simp)).2 (hx h1 (by simp)).2 (fun g hg => hg _ (List.mem_cons_self ..)) a3 a5
    obtain ⟨tm2, y⟩ := it_all B bs bn b v o n hn a3 hs (i + 32) h1 a5' (by simp only [List.length_cons] at hl; omega) (fun hne => by
      have := hlt (by simp)
      simp only [List.length_cons] at this
      have : 0 < hs.length := List.length_pos_iff.2 hne
      omega) (fun x hxm => hx x (by simp only [List.mem_cons] at hxm ⊢; exact Or.inr hxm))
    refine ⟨tm2, RunU.loop_go (by simp [forget, fg80, lp80, c80, fr80]) x2 x1 ?_⟩
    have e : ((i : Int) + 32) = ((i + 32 : Nat) : Int) := by omega
    rw [e]
    exact y.mono fun g hg c hc => hg c (List.mem_cons_of_mem _ hc)
theorem it80 (B bs bn b v o n : Nat) (hn : n ≤ 4611686018427387903) (hs : List Heap) (h : Heap) (h1 : n ≤ 32 * hs.length) (h2 : hs ≠ [] → 32 * (hs.length - 1) < n) (hx : ∀ x ∈ h :: hs, bk x bs = some ⟨0, 23, 1, true, [.sl b v o n 1]⟩ ∧ bk x bn = some ⟨0, 3, 1, true, [.s (.int .i64 32)]⟩) :
    ∃ tm', RunU Try.prog (EvC (chEvs B b v o n 0 h hs)) c80 (.yl B :: [.pt bs 0 0, .pt bn 0 0] ++ List.replicate 28 (.s undef)) h (.normal, tm', lastH h hs) := by
  obtain ⟨tm', H⟩ := it_all B bs bn b v o n hn (.s undef) hs 0 h (.s undef) (by omega) (fun hne => by have := h2 hne; omega) hx
  refine ⟨tm', ?_⟩
  apply RunU.seq
  · apply RunU.step 10; intro g hg k
    simp
    (first | rfl | (constructor <;> rfl))
  · apply RunU.block_exit
    apply RunU.loop_forget
    simpa [forget, fg80, lp80, c80, fr80, body80] using H
theorem it80_nil (B bs bn : Nat) (h : Heap) (hx : bk h bs = some ⟨0, 23, 1, true, [.s (.slice none 0 0)]⟩) :
    ∃ tm', RunU Try.prog (EvC []) c80 (.yl B :: [.pt bs 0 0, .pt bn 0 0] ++ List.replicate 28 (.s undef)) h (.normal, tm', h) := by
  obtain ⟨tm', H⟩ := it_end (C := EvC []) B bs bn (.s (.slice none 0 0)) 0 0 rfl (by simp) h hx (.s undef) (.s undef)
  have H' := RunU.loop_end (fg := fg80) (tm := fr80 B bs bn 0 (.s undef) (.s undef)) (by simp [forget, fg80, lp80, c80, fr80]) (by simp) H
  refine ⟨tm', ?_⟩
  apply RunU.seq
  · apply RunU.step 10; intro g hg k
    simp
    (first | rfl | (constructor <;> rfl))
  · apply RunU.block_exit
    apply RunU.loop_forget
    simpa [forget, fg80, lp80, c80, fr80, body80] using H'
end Go.Proofs.Ytpmoellbfgcefaa.AS
end
