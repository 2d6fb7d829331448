/- Of our own: an abstract machine beside the model, its soundness, and walks of the program in it. -/
import Derived.Test.YtpmoellbfgcefaaA21
set_option linter.unusedSimpArgs false
set_option linter.unusedVariables false
section
set_option autoImplicit false
set_option maxRecDepth 100000
set_option maxHeartbeats 4000000
set_option linter.unusedSimpArgs false
namespace Go.Proofs.Ytpmoellbfgcefaa.AS
open Go Go.Proofs Go.RowKit Go.Proofs.Ytpmoellbfgcefaa.AS.V

def rdC (s : ByteArray) (all left last : Int) (sm : Bool) (w : Int) : List AV := [.s (.string s), .s (.int .i64 all), .s (.int .i64 left), .s (.int .u64 last), .s (.bool sm), .s (.int .i64 w)]
/-- A reader of a packed list: what is behind its number, how many bytes there were, how many numbers, and the error. -/
def openS (s : ByteArray) : ByteArray × Int × Int × Int :=
  if (gets s).2.2 ≠ 0 then (⟨#[]⟩, 0, 0, (gets s).2.2) else if 65536 < (gets s).1 then (⟨#[]⟩, 0, 0, 15) else ((gets s).2.1, s.size, (gets s).1, 0)
theorem open_run {T : FuncId → Option AFunc} (hT : T 66 = prepFn Try.prog 66) (h60 : T 60 = some (.hook hkGet)) (s : ByteArray) (hs : s.size ≤ 9223372036854775807) (h : Heap) :
    FRun Try.prog T 66 [.s (.string s)] h (.pt h.length 0 0, h ++ [⟨0, 111, 6, true, rdC (openS s).1 (openS s).2.1 (openS s).2.2.1 0 false (openS s).2.2.2⟩]) := by
  have c60 := fun k l h => evFn_hook (P := Try.prog) (T := T) (k := k) (f := 60) (args := l) (h := h) h60
  have q : hkGet [.s (.string s)] h = some (.tp [.s (.int .u64 (gets s).1), .s (.string (gets s).2.1), .s (.int .i64 (gets s).2.2)], h) := by simp only [hkGet]; rw [if_pos hs]
  have hr := gets_range s
  suffices hs : ∃ tm', Run Try.prog T c66 ([.s (.string s)] ++ List.replicate 29 (.s undef)) h (.ret, tm', h ++ [⟨0, 111, 6, true, rdC (openS s).1 (openS s).2.1 (openS s).2.2.1 0 false (openS s).2.2.2⟩]) ∧ tm'[2]? = some (.pt h.length 0 0) by
    obtain ⟨tm', h1, h2⟩ := hs
    exact FRun.of (e := .ret) (tm' := tm') (hT.trans p66) h1 (Or.inl rfl) (by simp [resAs, resA, h2, tupA])
  by_cases hw : (gets s).2.2 = 0
  · by_cases hb : 65536 < (gets s).1
    · have ho : openS s = (⟨#[]⟩, 0, 0, 15) := by simp [openS, hw, hb]
      rw [ho]
      rw [hw] at q
      generalize (gets s).1 = n at *
      generalize (gets s).2.1 = r at *
      refine ⟨?q1, ?q2, ?q3⟩
      case q2 =>
        apply Run.seq
        · apply Run.step 20; intro k j
          simp
          (first | rfl | (constructor <;> rfl))
        · apply Run.seq
          · apply Run.step 20; intro k j
            simp [c60, q]
            (first | rfl | (constructor <;> rfl))
          · apply Run.seq
            · apply Run.step 20; intro k j
              simp [eq_true hb]
              (first | rfl | (constructor <;> rfl))
            · apply Run.seq_stop (by simp)
              apply Run.step 20; intro k j
              simp [fillA, cellsOf, isCell, rdC]
              (first | rfl | (constructor <;> rfl))
      case q3 => rfl
    · have ho : openS s = ((gets s).2.1, (s.size : Int), (gets s).1, 0) := by simp [openS, hw, hb]
      rw [ho]
      rw [hw] at q
      have wn : IntKind.i64.wrap (gets s).1 = (gets s).1 := w64k (by omega) (by omega)
      generalize (gets s).1 = n at *
      generalize (gets s).2.1 = r at *
      refine ⟨?r1, ?r2, ?r3⟩
      case r2 =>
        apply Run.seq
        · apply Run.step 20; intro k j
          simp
          (first | rfl | (constructor <;> rfl))
        · apply Run.seq
          · apply Run.step 20; intro k j
            simp [c60, q]
            (first | rfl | (constructor <;> rfl))
          · apply Run.seq
            · apply Run.step 20; intro k j
              simp [eq_false hb]
              (first | rfl | (constructor <;> rfl))
            · apply Run.seq
              · apply Run.step 20; intro k j
                simp
                (first | rfl | (constructor <;> rfl))
              · apply Run.step 20; intro k j
                simp [fillA, cellsOf, isCell, rdC, wn, Try.underlying9, Try.underlying35, Try.underlying3]
                (first | rfl | (constructor <;> rfl))
      case r3 => rfl
  · have ho : openS s = (⟨#[]⟩, 0, 0, (gets s).2.2) := by simp [openS, hw]
    rw [ho]
    generalize (gets s).1 = n at *
    generalize (gets s).2.1 = r at *
    generalize (gets s).2.2 = w at *
    refine ⟨?s1, ?s2, ?s3⟩
    case s2 =>
      apply Run.seq
      · apply Run.step 20; intro k j
        simp
        (first | rfl | (constructor <;> rfl))
      · apply Run.seq
        · apply Run.step 20; intro k j
          simp [c60, q]
          (first | rfl | (constructor <;> rfl))
        · apply Run.seq
          · apply Run.step 20; intro k j
            simp [hw]
            (first | rfl | (constructor <;> rfl))
          · apply Run.seq_stop (by simp)
            apply Run.step 20; intro k j
            simp [hw, fillA, cellsOf, isCell, rdC]
            (first | rfl | (constructor <;> rfl))
    case s3 => rfl
/-- A number of a block's head. -/
def numR (s : ByteArray) (w least most : Int) : Int × ByteArray × Int :=
  if w ≠ 0 then (0, s, w) else if (gets s).2.2 = 0 ∧ ((gets s).1 < least ∨ most < (gets s).1) then ((gets s).1, (gets s).2.1, 7) else gets s
theorem number_run {T : FuncId → Option AFunc} (hT : T 88 = prepFn Try.prog 88) (h60 : T 60 = some (.hook hkGet)) (h : Heap) (br v : Nat) (s : ByteArray) (hs : s.size ≤ 9223372036854775807) (all left last : Int) (sm : Bool) (w least most : Int) (hb : bk h br = some ⟨v, 111, 6, true, rdC s all left last sm w⟩) :
    FRun Try.prog T 88 [.pt br v 0, .s (.int .u64 least), .s (.int .u64 most)] h (.s (.int .u64 (numR s w least most).1), if w ≠ 0 then h else h.set br ⟨v, 111, 6, true, rdC (numR s w least most).2.1 all left last sm (numR s w least most).2.2⟩) := by
  have c60 := fun k l h => evFn_hook (P := Try.prog) (T := T) (k := k) (f := 60) (args := l) (h := h) h60
  have q : hkGet [.s (.string s)] h = .some (.tp [.s (.int .u64 (gets s).1), .s (.string (gets s).2.1), .s (.int .i64 (gets s).2.2)], h) := by simp only [hkGet]; rw [if_pos hs]
  have hlt := bk_lt hb
  suffices hs : ∃ tm' H, Run Try.prog T c88 ([.pt br v 0, .s (.int .u64 least), .s (.int .u64 most)] ++ List.replicate 42 (.s undef)) h (.ret, tm', H) ∧ tm'[6]? = .some (.s (.int .u64 (numR s w least most).1)) ∧ H = (if w ≠ 0 then h else h.set br ⟨v, 111, 6, true, rdC (numR s w least most).2.1 all left last sm (numR s w least most).2.2⟩) by
    obtain ⟨tm', H, h1, h2, h3⟩ := hs
    exact h3 ▸ FRun.of (e := .ret) (tm' := tm') (hT.trans p88) h1 (Or.inl rfl) (by simp [resAs, resA, h2, tupA])
  unfold rdC at hb
  by_cases hw : w = 0
  · subst hw
    simp only [numR, ne_eq, not_true_eq_false, if_false]
    by_cases h0 : (gets s).2.2 = 0
    · rw [h0] at q
      have hge : gets s = ((gets s).1, (gets s).2.1, 0) := Prod.ext rfl (Prod.ext rfl h0)
      by_cases h1 : (gets s).1 < least
      · rw [if_pos ⟨h0, .inl h1⟩]
        generalize (gets s).1 = n at *
        generalize (gets s).2.1 = r at *
        refine ⟨?q1, ?q2, ?q3, ?q4, ?q5⟩
        case q3 =>
          apply Run.seq
          · apply Run.step 20; intro k j
            simp
            (first | rfl | (constructor <;> rfl))
          · apply Run.seq
            · apply Run.step 20; intro k j
              simp [hb, hlt, oneOr, nilV]
              (first | rfl | (constructor <;> rfl))
            · apply Run.seq
              · apply Run.step 20; intro k j
                simp [hb, hlt, oneOr, nilV, c60, q]
                (first | rfl | (constructor <;> rfl))
              · apply Run.seq
                · apply Run.step 30; intro k j
                  simp [eq_true h1]
                  (first | rfl | (constructor <;> rfl))
                · apply Run.seq
                  · apply Run.step 20; intro k j
                    simp [hb, hlt, nilV, cellsOf, isCell]
                    (first | rfl | (constructor <;> rfl))
                  · apply Run.step 20; intro k j
                    simp
                    (first | rfl | (constructor <;> rfl))
        case q4 => rfl
        case q5 => simp [rdC]
      · by_cases h2 : most < (gets s).1
        · rw [if_pos ⟨h0, .inr h2⟩]
          generalize (gets s).1 = n at *
          generalize (gets s).2.1 = r at *
          refine ⟨?q1b, ?q2b, ?q3b, ?q4b, ?q5b⟩
          case q3b =>
            apply Run.seq
            · apply Run.step 20; intro k j
              simp
              (first | rfl | (constructor <;> rfl))
            · apply Run.seq
              · apply Run.step 20; intro k j
                simp [hb, hlt, oneOr, nilV]
                (first | rfl | (constructor <;> rfl))
              · apply Run.seq
                · apply Run.step 20; intro k j
                  simp [hb, hlt, oneOr, nilV, c60, q]
                  (first | rfl | (constructor <;> rfl))
                · apply Run.seq
                  · apply Run.step 30; intro k j
                    simp [eq_false h1, eq_true h2]
                    (first | rfl | (constructor <;> rfl))
                  · apply Run.seq
                    · apply Run.step 20; intro k j
                      simp [hb, hlt, nilV, cellsOf, isCell]
                      (first | rfl | (constructor <;> rfl))
                    · apply Run.step 20; intro k j
                      simp
                      (first | rfl | (constructor <;> rfl))
          case q4b => rfl
          case q5b => simp [rdC]
        · rw [if_neg (by rintro ⟨_, h | h⟩; exact h1 h; exact h2 h), hge]
          simp only
          generalize (gets s).1 = n at *
          generalize (gets s).2.1 = r at *
          refine ⟨?q1c, ?q2c, ?q3c, ?q4c, ?q5c⟩
          case q3c =>
            apply Run.seq
            · apply Run.step 20; intro k j
              simp
              (first | rfl | (constructor <;> rfl))
            · apply Run.seq
              · apply Run.step 20; intro k j
                simp [hb, hlt, oneOr, nilV]
                (first | rfl | (constructor <;> rfl))
              · apply Run.seq
                · apply Run.step 20; intro k j
                  simp [hb, hlt, oneOr, nilV, c60, q]
                  (first | rfl | (constructor <;> rfl))
                · apply Run.seq
                  · apply Run.step 30; intro k j
                    simp [eq_false h1, eq_false h2]
                    (first | rfl | (constructor <;> rfl))
                  · apply Run.seq
                    · apply Run.step 20; intro k j
                      simp [hb, hlt, nilV, cellsOf, isCell]
                      (first | rfl | (constructor <;> rfl))
                    · apply Run.step 20; intro k j
                      simp
                      (first | rfl | (constructor <;> rfl))
          case q4c => rfl
          case q5c => simp [rdC]
    · rw [if_neg (fun h => h0 h.1)]
      generalize (gets s).1 = n at *
      generalize (gets s).2.1 = r at *
      generalize (gets s).2.2 = w2 at *
      refine ⟨?q1d, ?q2d, ?q3d, ?q4d, ?q5d⟩
      case q3d =>
        apply Run.seq
        · apply Run.step 20; intro k j
          simp
          (first | rfl | (constructor <;> rfl))
        · apply Run.seq
          · apply Run.step 20; intro k j
            simp [hb, hlt, oneOr, nilV]
            (first | rfl | (constructor <;> rfl))
          · apply Run.seq
            · apply Run.step 20; intro k j
              simp [hb, hlt, oneOr, nilV, c60, q]
              (first | rfl | (constructor <;> rfl))
            · apply Run.seq
              · apply Run.step 30; intro k j
                simp [h0]
                (first | rfl | (constructor <;> rfl))
              · apply Run.seq
                · apply Run.step 20; intro k j
                  simp [hb, hlt, nilV, cellsOf, isCell]
                  (first | rfl | (constructor <;> rfl))
                · apply Run.step 20; intro k j
                  simp
                  (first | rfl | (constructor <;> rfl))
      case q4d => rfl
      case q5d => simp [rdC]
  · simp only [numR, ne_eq, hw, not_false_eq_true, if_true]
    refine ⟨?q1e, ?q2e, ?q3e, ?q4e, ?q5e⟩
    case q3e =>
      apply Run.seq
      · apply Run.step 20; intro k j
        simp
        (first | rfl | (constructor <;> rfl))
      · apply Run.seq_stop (by simp)
        apply Run.step 20; intro k j
        simp [hb, hlt, oneOr, nilV, hw]
        (first | rfl | (constructor <;> rfl))
    case q4e => rfl
    case q5e => rfl
end Go.Proofs.Ytpmoellbfgcefaa.AS
end
section
set_option autoImplicit false
set_option maxRecDepth 100000
set_option maxHeartbeats 4000000
set_option linter.unusedSimpArgs false
namespace Go.Proofs.Ytpmoellbfgcefaa.AS
open Go Go.Proofs Go.RowKit Go.Proofs.Ytpmoellbfgcefaa.AS.V

/-- The numbers behind a block's first one. -/
def restG : Nat → List Int → ByteArray → Int → Option (List Int × ByteArray)
  | 0, O, s, _ => some (O, s)
  | k + 1, O, s, n => if (gets s).2.2 ≠ 0 ∨ 4294967295 < (gets s).1 ∨ 4294967295 ≤ n + (gets s).1 then none else restG k (O ++ [n + ((gets s).1 + 1)]) (gets s).2.1 (n + ((gets s).1 + 1))
def fr89 (p : AV) (out : AV) (s : ByteArray) (many n : Int) (a4 a5 a6 a7 a10 a11 a12 a13 a14 a15 a16 a53 a54 a55 a56 a57 a58 : AV) : List AV := [p, out, .s (.string s), .s (.int .u64 many), a4, a5, a6, a7, .any, .s (.int .u64 n), a10, a11, a12, a13, a14, a15, a16] ++ List.replicate 36 .any ++ [a53, a54, a55, a56, a57, a58]
noncomputable def lp89 : ACode := match c89 with
  | .seq _ (.seq _ (.seq (.block _ l) _)) => l
  | _ => .skip
noncomputable def tl89 : ACode := match c89 with
  | .seq _ (.seq _ (.seq _ t)) => t
  | _ => .skip
noncomputable def body89 : ACode := match lp89 with
  | .loop _ b => b
  | _ => .skip
noncomputable def fg89 : List Nat := match lp89 with
  | .loop fg _ => fg
  | _ => []
theorem s89_end {T : FuncId → Option AFunc} (p : AV) (bo vo len : Nat) (s : ByteArray) (many n : Int) (hl : len ≤ 1000) (hk : ¬ (len : Int) < many) (h : Heap) (a4 a5 a6 a7 a10 a11 a12 a13 a14 a15 a16 a53 a54 a55 a56 a57 a58 : AV) :
    ∃ tm', (tm'[0]? = some p ∧ tm'[1]? = some (.sl bo vo 0 len 1) ∧ tm'[2]? = some (.s (.string s)) ∧ tm'.length = 59) ∧ Run Try.prog T body89 (fr89 p (.sl bo vo 0 len 1) s many n a4 a5 a6 a7 a10 a11 a12 a13 a14 a15 a16 a53 a54 a55 a56 a57 a58) h (.exit 0, tm', h) := by
  have wl : IntKind.u64.wrap (len : Int) = (len : Int) := wu64 (by omega) (by omega)
  refine ⟨?q1, ?q2, Run.step 30 fun k j => ?q3⟩
  case q3 =>
    simp [c89, lp89, body89, fr89, wl, eq_false hk]
    (first | rfl | (constructor <;> rfl))
  case q2 => exact ⟨rfl, rfl, rfl, rfl⟩
theorem s89_bad {T : FuncId → Option AFunc} (h60 : T 60 = some (.hook hkGet)) (br vr bo vo len : Nat) (s : ByteArray) (hs : s.size ≤ 9223372036854775807) (many n : Int) (hl : len ≤ 1000) (hn : 0 ≤ n ∧ n ≤ 4294967295) (hk : (len : Int) < many) (h : Heap) (rs : ByteArray) (all left last : Int) (sm : Bool) (w : Int) (hb : bk h br = some ⟨vr, 111, 6, true, rdC rs all left last sm w⟩)
    (hc : (gets s).2.2 ≠ 0 ∨ 4294967295 < (gets s).1 ∨ 4294967295 ≤ n + (gets s).1) (a4 a5 a6 a7 a10 a11 a12 a13 a14 a15 a16 a53 a54 a55 a56 a57 a58 : AV) :
    ∃ tm', tm'[8]? = some (.s (.slice none 0 0)) ∧ Run Try.prog T body89 (fr89 (.pt br vr 0) (.sl bo vo 0 len 1) s many n a4 a5 a6 a7 a10 a11 a12 a13 a14 a15 a16 a53 a54 a55 a56 a57 a58) h (.ret, tm', h.set br ⟨vr, 111, 6, true, rdC rs all left last sm 7⟩) := by
  have c60 := fun k l h => evFn_hook (P := Try.prog) (T := T) (k := k) (f := 60) (args := l) (h := h) h60
  have q : hkGet [.s (.string s)] h = some (.tp [.s (.int .u64 (gets s).1), .s (.string (gets s).2.1), .s (.int .i64 (gets s).2.2)], h) := by simp only [hkGet]; rw [if_pos hs]
  have wl : IntKind.u64.wrap (len : Int) = (len : Int) := wu64 (by omega) (by omega)
  have hr := gets_range s
  have hlt := bk_lt hb
  unfold rdC at hb
  by_cases h0 : (gets s).2.2 = 0
  · rw [h0] at q
    by_cases h1 : 4294967295 < (gets s).1
    · generalize (gets s).1 = gn at *
      generalize (gets s).2.1 = gr at *
      refine ⟨?q1a, ?q2a, ?q3a⟩
      case q3a =>
        apply Run.seq
        · apply Run.step 20; intro k j
          simp [c89, lp89, body89, fr89, wl, eq_true hk]
          (first | rfl | (constructor <;> rfl))
        · apply Run.block_id (by simp)
          apply Run.seq
          · apply Run.step 20; intro k j
            simp [c60, q]
            (first | rfl | (constructor <;> rfl))
          · apply Run.seq_stop (by simp)
            apply Run.seq
            · apply Run.step 20; intro k j
              simp [eq_true h1]
              (first | rfl | (constructor <;> rfl))
            · apply Run.step 20; intro k j
              simp [hb, hlt, nilV, cells_int, isCell, rdC]
              (first | rfl | (constructor <;> rfl))
      case q2a => rfl
    · have h2 : 4294967295 ≤ n + (gets s).1 := by rcases hc with h | h | h; exact absurd h0 h; exact absurd h h1; exact h
      have wn : IntKind.u64.wrap (n + (gets s).1) = n + (gets s).1 := wu64 (by omega) (by omega)
      generalize (gets s).1 = gn at *
      generalize (gets s).2.1 = gr at *
      refine ⟨?q1b, ?q2b, ?q3b⟩
      case q3b =>
        apply Run.seq
        · apply Run.step 20; intro k j
          simp [c89, lp89, body89, fr89, wl, eq_true hk]
          (first | rfl | (constructor <;> rfl))
        · apply Run.block_id (by simp)
          apply Run.seq
          · apply Run.step 20; intro k j
            simp [c60, q]
            (first | rfl | (constructor <;> rfl))
          · apply Run.seq_stop (by simp)
            apply Run.seq
            · apply Run.step 20; intro k j
              simp [eq_false h1, wn, eq_true h2]
              (first | rfl | (constructor <;> rfl))
            · apply Run.step 20; intro k j
              simp [hb, hlt, nilV, cells_int, isCell, rdC]
              (first | rfl | (constructor <;> rfl))
      case q2b => rfl
  · generalize (gets s).1 = gn at *
    generalize (gets s).2.1 = gr at *
    generalize (gets s).2.2 = gw at *
    refine ⟨?q1c, ?q2c, ?q3c⟩
    case q3c =>
      apply Run.seq
      · apply Run.step 20; intro k j
        simp [c89, lp89, body89, fr89, wl, eq_true hk]
        (first | rfl | (constructor <;> rfl))
      · apply Run.block_id (by simp)
        apply Run.seq
        · apply Run.step 20; intro k j
          simp [c60, q]
          (first | rfl | (constructor <;> rfl))
        · apply Run.seq_stop (by simp)
          apply Run.seq
          · apply Run.step 20; intro k j
            simp [h0]
            (first | rfl | (constructor <;> rfl))
          · apply Run.step 20; intro k j
            simp [hb, hlt, nilV, cells_int, isCell, rdC]
            (first | rfl | (constructor <;> rfl))
    case q2c => rfl
theorem s89_one {T : FuncId → Option AFunc} (h60 : T 60 = some (.hook hkGet)) (p : AV) (bo vo len : Nat) (O : List Int) (hO : O.length = len) (s : ByteArray) (hs : s.size ≤ 9223372036854775807) (many n : Int) (hl : len ≤ 1000) (hn : 0 ≤ n ∧ n ≤ 4294967295) (hk : (len : Int) < many) (h : Heap) (hb2 : bk h bo = some ⟨vo, 32, 1, true, O.map cellW⟩)
    (hc : ¬ ((gets s).2.2 ≠ 0 ∨ 4294967295 < (gets s).1 ∨ 4294967295 ≤ n + (gets s).1)) (a4 a5 a6 a7 a10 a11 a12 a13 a14 a15 a16 a53 a54 a55 a56 a57 a58 : AV) :
    ∃ H tm' a10' a11' a12', bk H bo = some ⟨vo + 1, 32, 1, true, (O ++ [n + ((gets s).1 + 1)]).map cellW⟩ ∧ (∀ c, c < h.length → c ≠ bo → bk H c = bk h c) ∧ h.length ≤ H.length ∧
      forget fg89 tm' = fr89 p (.sl bo (vo + 1) 0 (len + 1) 1) (gets s).2.1 many (n + ((gets s).1 + 1)) a4 a5 a6 a7 a10' a11' a12' a13 a14 a15 a16 a53 a54 a55 a56 a57 a58 ∧ Run Try.prog T body89 (fr89 p (.sl bo vo 0 len 1) s many n a4 a5 a6 a7 a10 a11 a12 a13 a14 a15 a16 a53 a54 a55 a56 a57 a58) h (.normal, tm', H) := by
  have c60 := fun k l h => evFn_hook (P := Try.prog) (T := T) (k := k) (f := 60) (args := l) (h := h) h60
  have q : hkGet [.s (.string s)] h = some (.tp [.s (.int .u64 (gets s).1), .s (.string (gets s).2.1), .s (.int .i64 (gets s).2.2)], h) := by simp only [hkGet]; rw [if_pos hs]
  have wl : IntKind.u64.wrap (len : Int) = (len : Int) := wu64 (by omega) (by omega)
  have hr := gets_range s
  have h0 : (gets s).2.2 = 0 := by by_cases h : (gets s).2.2 = 0; exact h; exact absurd (.inl h) hc
  have h1 : ¬ 4294967295 < (gets s).1 := fun h => hc (.inr (.inl h))
  have h2 : ¬ 4294967295 ≤ n + (gets s).1 := fun h => hc (.inr (.inr h))
  rw [h0] at q
  clear hc
  generalize (gets s).1 = gn at *
  generalize (gets s).2.1 = gr at *
  have wn : IntKind.u64.wrap (n + gn) = n + gn := wu64 (by omega) (by omega)
  have wm : IntKind.u64.wrap (gn + 1) = gn + 1 := wu64 (by omega) (by omega)
  have wo : IntKind.u64.wrap (n + (gn + 1)) = n + (gn + 1) := wu64 (by omega) (by omega)
  have wp : IntKind.u32.wrap (n + (gn + 1)) = n + (gn + 1) := by simp [IntKind.wrap, IntKind.bits, IntKind.signed]; omega
  have hlb := bk_lt hb2
  have n1 : bo ≠ h.length := by omega
  have e1 : (O ++ [n + (gn + 1)]).map cellW = O.map cellW ++ [.s (.int .u32 (n + (gn + 1)))] := by simp [cellW]
  have hC : (O.map cellW).length = len := by simp [hO]
  generalize O.map cellW = C at hb2 hC e1
  have hle1 : len ≤ C.length := by omega
  have hall : C.take len = C := List.take_of_length_le (by omega)
  have b1 : (len + 1) * 4 ≤ 140737488355328 := by omega
  have b2 : len + 1 ≤ 9223372036854775807 := by omega
  refine ⟨?qH, ?qtm, ?qa, ?qb, ?qc, ?q1, ?q2, ?q3, ?q4, ?q5⟩
  case q5 =>
    apply Run.seq
    · apply Run.step 20; intro k j
      simp [c89, lp89, body89, fr89, wl, eq_true hk]
      (first | rfl | (constructor <;> rfl))
    · apply Run.block_id (by simp)
      apply Run.seq
      · apply Run.step 20; intro k j
        simp [c60, q]
        (first | rfl | (constructor <;> rfl))
      · apply Run.seq
        · apply Run.step 30; intro k j
          simp [eq_false h1, wn, eq_false h2]
          (first | rfl | (constructor <;> rfl))
        · apply Run.seq
          · apply Run.step 20; intro k j
            simp [wm, wo]
            (first | rfl | (constructor <;> rfl))
          · apply Run.step 20; intro k j
            simp [wp, fillA, cellsOf, apK_s, isCell, hb2, hlb, n1, b1, b2, hall, hle1, Try.underlying32, Try.underlying35]
            (first | rfl | (constructor <;> rfl))
  case q4 =>
    simp [forget, fg89, lp89, c89, fr89]
    all_goals (first | rfl | (refine ⟨?_, ?_, ?_⟩ <;> rfl))
  case q1 => rw [e1]; simp [hlb]
  case q2 =>
    intro c hc hn
    have : bo ≠ c := fun e => hn e.symm
    simp [hc, this]
  case q3 => simp
end Go.Proofs.Ytpmoellbfgcefaa.AS
end
section
set_option autoImplicit false
set_option maxRecDepth 100000
set_option maxHeartbeats 4000000
set_option linter.unusedSimpArgs false
namespace Go.Proofs.Ytpmoellbfgcefaa.AS
open Go Go.Proofs Go.RowKit Go.Proofs.Ytpmoellbfgcefaa.AS.V

theorem s89_fin {T : FuncId → Option AFunc} (p : AV) (bo vo len : Nat) (s : ByteArray) (many n : Int) (hl : len ≤ 1000) (hk : ¬ (len : Int) < many) (h : Heap) (a4 a5 a6 a7 a10 a11 a12 a13 a14 a15 a16 a53 a54 a55 a56 a57 a58 : AV) :
    Run Try.prog T body89 (fr89 p (.sl bo vo 0 len 1) s many n a4 a5 a6 a7 a10 a11 a12 a13 a14 a15 a16 a53 a54 a55 a56 a57 a58) h (.exit 0, (((((fr89 p (.sl bo vo 0 len 1) s many n a4 a5 a6 a7 a10 a11 a12 a13 a14 a15 a16 a53 a54 a55 a56 a57 a58).set 17 (.sl bo vo 0 len 1)).set 18 (.s (.int .i64 len))).set 19 (.s (.int .u64 len))).set 20 (.s (.int .u64 many))).set 21 (.s (.bool false)), h) := by
  have wl : IntKind.u64.wrap (len : Int) = (len : Int) := wu64 (by omega) (by omega)
  apply Run.step 30; intro k j
  simp [c89, lp89, body89, fr89, wl, eq_false hk]
theorem s89_loop {T : FuncId → Option AFunc} (h60 : T 60 = some (.hook hkGet)) (br vr bo : Nat) (many : Int) (rs : ByteArray) (all left last : Int) (sm : Bool) (w : Int) (hne : br ≠ bo) (a4 a5 a6 a7 a13 a14 a15 a16 a53 a54 a55 a56 a57 a58 : AV) : ∀ (k vo : Nat) (O : List Int) (s : ByteArray) (n : Int) (h : Heap) (a10 a11 a12 : AV),
    ((O.length + k : Nat) : Int) = many → O.length + k ≤ 1000 → s.size ≤ 9223372036854775807 → 0 ≤ n ∧ n ≤ 4294967295 → bk h bo = some ⟨vo, 32, 1, true, O.map cellW⟩ → bk h br = some ⟨vr, 111, 6, true, rdC rs all left last sm w⟩ →
    (restG k O s n = none → ∃ H tm', tm'[8]? = some (.s (.slice none 0 0)) ∧ (∀ c, c < h.length → c ≠ bo → c ≠ br → bk H c = bk h c) ∧ h.length ≤ H.length ∧ bk H br = some ⟨vr, 111, 6, true, rdC rs all left last sm 7⟩ ∧
      Run Try.prog T (.loop fg89 body89) (fr89 (.pt br vr 0) (.sl bo vo 0 O.length 1) s many n a4 a5 a6 a7 a10 a11 a12 a13 a14 a15 a16 a53 a54 a55 a56 a57 a58) h (.ret, tm', H)) ∧
    (∀ O' s', restG k O s n = some (O', s') → ∃ H vo' n' a10' a11' a12', O'.length = O.length + k ∧ bk H bo = some ⟨vo', 32, 1, true, O'.map cellW⟩ ∧ (∀ c, c < h.length → c ≠ bo → bk H c = bk h c) ∧ h.length ≤ H.length ∧
      Run Try.prog T (.loop fg89 body89) (fr89 (.pt br vr 0) (.sl bo vo 0 O.length 1) s many n a4 a5 a6 a7 a10 a11 a12 a13 a14 a15 a16 a53 a54 a55 a56 a57 a58) h (.exit 0, (((((fr89 (.pt br vr 0) (.sl bo vo' 0 O'.length 1) s' many n' a4 a5 a6 a7 a10' a11' a12' a13 a14 a15 a16 a53 a54 a55 a56 a57 a58).set 17 (.sl bo vo' 0 O'.length 1)).set 18 (.s (.int .i64 O'.length))).set 19 (.s (.int .u64 O'.length))).set 20 (.s (.int .u64 many))).set 21 (.s (.bool false)), H)) := by
  have hfg : ∀ (out : AV) (s : ByteArray) (n : Int) (a10 a11 a12 : AV), forget fg89 (fr89 (.pt br vr 0) out s many n a4 a5 a6 a7 a10 a11 a12 a13 a14 a15 a16 a53 a54 a55 a56 a57 a58) = fr89 (.pt br vr 0) out s many n a4 a5 a6 a7 a10 a11 a12 a13 a14 a15 a16 a53 a54 a55 a56 a57 a58 := fun out s n a10 a11 a12 => by simp [forget, fg89, lp89, c89, fr89]
  intro k
  induction k with
  | zero =>
    intro vo O s n h a10 a11 a12 hm hl hs hn hb2 hb
    refine ⟨fun he => by simp [restG] at he, fun O' s' he => ?_⟩
    simp only [restG, Option.some.injEq, Prod.mk.injEq] at he
    obtain ⟨rfl, rfl⟩ := he
    exact ⟨h, vo, n, a10, a11, a12, rfl, hb2, fun _ _ _ => rfl, Nat.le_refl _, Run.loop_end_f (hfg _ _ _ _ _ _) (by simp) (s89_fin (T := T) (.pt br vr 0) bo vo O.length s many n (by omega) (by omega) h a4 a5 a6 a7 a10 a11 a12 a13 a14 a15 a16 a53 a54 a55 a56 a57 a58)⟩
  | succ k ih =>
    intro vo O s n h a10 a11 a12 hm hl hs hn hb2 hb
    have hk : (O.length : Int) < many := by omega
    simp only [restG]
    by_cases hc : (gets s).2.2 ≠ 0 ∨ 4294967295 < (gets s).1 ∨ 4294967295 ≤ n + (gets s).1
    · rw [if_pos hc]
      obtain ⟨tm', x1, x2⟩ := s89_bad (T := T) h60 br vr bo vo O.length s hs many n (by omega) hn hk h rs all left last sm w hb hc a4 a5 a6 a7 a10 a11 a12 a13 a14 a15 a16 a53 a54 a55 a56 a57 a58
      refine ⟨fun _ => ⟨_, tm', x1, fun c _ _ h2 => bk_oth h2, by simp, bk_put (bk_lt hb), Run.loop_end_f (hfg _ _ _ _ _ _) (by simp) x2⟩, fun O' s' he => by cases he⟩
    · rw [if_neg hc]
      have hr := gets_range s
      have hr1 : ¬ 4294967295 ≤ n + (gets s).1 := fun h => hc (.inr (.inr h))
      obtain ⟨H, tm', b10, b11, b12, y1, y2, y3, y4, y5⟩ := s89_one (T := T) h60 (.pt br vr 0) bo vo O.length O rfl s hs many n (by omega) hn hk h hb2 hc a4 a5 a6 a7 a10 a11 a12 a13 a14 a15 a16 a53 a54 a55 a56 a57 a58
      have hsz := gets_shorter s
      obtain ⟨i1, i2⟩ := ih (vo + 1) (O ++ [n + ((gets s).1 + 1)]) (gets s).2.1 (n + ((gets s).1 + 1)) H b10 b11 b12 (by rw [List.length_append, List.length_singleton]; omega) (by rw [List.length_append, List.length_singleton]; omega) (by omega) (by omega) y1 ((y2 br (bk_lt hb) hne).trans hb)
      rw [List.length_append, List.length_singleton] at i1 i2
      refine ⟨fun he => ?_, fun O' s' he => ?_⟩
      · obtain ⟨G, tm2, z1, z2, z3, z4, z5⟩ := i1 he
        exact ⟨G, tm2, z1, fun c h1 h2 h3 => (z2 c (by omega) h2 h3).trans (y2 c h1 h2), Nat.le_trans y3 z3, z4, Run.loop_go (hfg _ _ _ _ _ _) y5 y4 z5⟩
      · obtain ⟨G, vo', n', c10, c11, c12, z0, z1, z2, z3, z5⟩ := i2 O' s' he
        exact ⟨G, vo', n', c10, c11, c12, by omega, z1, fun c h1 h2 => (z2 c (by omega) h2).trans (y2 c h1 h2), Nat.le_trans y3 z3, Run.loop_go (hfg _ _ _ _ _ _) y5 y4 z5⟩
theorem rest_run {T : FuncId → Option AFunc} (hT : T 89 = prepFn Try.prog 89) (h60 : T 60 = some (.hook hkGet)) (br vr bo vo k : Nat) (x : Int) (hx : 0 ≤ x ∧ x ≤ 4294967295) (hk : k ≤ 900) (s : ByteArray) (hs : s.size ≤ 9223372036854775807) (rs : ByteArray) (all left last : Int) (sm : Bool) (h : Heap) (hb2 : bk h bo = some ⟨vo, 32, 1, true, [cellW x]⟩) (hb : bk h br = some ⟨vr, 111, 6, true, rdC rs all left last sm 0⟩) (hne : br ≠ bo) :
    (restG k [x] s x = none → ∃ H, FRun Try.prog T 89 [.pt br vr 0, .sl bo vo 0 1 1, .s (.string s), .s (.int .u64 ((1 + k : Nat) : Int))] h (.s (.slice none 0 0), H) ∧ (∀ c, c < h.length → c ≠ bo → c ≠ br → bk H c = bk h c) ∧ h.length ≤ H.length ∧ bk H br = some ⟨vr, 111, 6, true, rdC rs all left last sm 7⟩) ∧
    (∀ O' s', restG k [x] s x = some (O', s') → ∃ H vo', FRun Try.prog T 89 [.pt br vr 0, .sl bo vo 0 1 1, .s (.string s), .s (.int .u64 ((1 + k : Nat) : Int))] h (.sl bo vo' 0 O'.length 1, H) ∧ O'.length = 1 + k ∧ bk H bo = some ⟨vo', 32, 1, true, O'.map cellW⟩ ∧ (∀ c, c < h.length → c ≠ bo → c ≠ br → bk H c = bk h c) ∧ h.length ≤ H.length ∧
      bk H br = some ⟨vr, 111, 6, true, rdC rs all left last sm (if s' = ⟨#[]⟩ then 0 else 7)⟩) := by
  have wx : IntKind.u64.wrap x = x := wu64 hx.1 (by omega)
  obtain ⟨i1, i2⟩ := s89_loop (T := T) h60 br vr bo ((1 + k : Nat) : Int) rs all left last sm 0 hne (.s undef) (.s undef) (.s undef) (.s undef) (.sl bo vo 0 1 1) (.pt bo vo 0) (.s (.int .u32 x)) (.s (.int .u64 x)) (.s undef) (.s undef) (.s undef) (.s undef) (.s undef) (.s undef) k vo [x] s x h (.s undef) (.s undef) (.s undef) rfl (by simp; omega) hs hx hb2 hb
  have hpre : ∀ {r : Res}, Run Try.prog T (.seq (.block 0 (.loop fg89 body89)) tl89) (fr89 (.pt br vr 0) (.sl bo vo 0 1 1) s ((1 + k : Nat) : Int) x (.s undef) (.s undef) (.s undef) (.s undef) (.s undef) (.s undef) (.s undef) (.sl bo vo 0 1 1) (.pt bo vo 0) (.s (.int .u32 x)) (.s (.int .u64 x)) (.s undef) (.s undef) (.s undef) (.s undef) (.s undef) (.s undef)) h r → Run Try.prog T c89 ([.pt br vr 0, .sl bo vo 0 1 1, .s (.string s), .s (.int .u64 ((1 + k : Nat) : Int))] ++ List.replicate 55 (.s undef)) h r := by
    intro r H
    apply Run.seq
    · apply Run.step 20; intro k j
      simp
      (first | rfl | (constructor <;> rfl))
    · apply Run.seq
      · apply Run.step 20; intro k j
        simp [hb2, oneOr, cellW, wx, Try.underlying32, Try.underlying35]
        (first | rfl | (constructor <;> rfl))
      · exact Run.seq_block_forget (by simp [forget, fg89, lp89, c89, fr89]) H
  refine ⟨fun he => ?_, fun O' s' he => ?_⟩
  · obtain ⟨H, tm', z1, z2, z3, z4, z5⟩ := i1 he
    exact ⟨H, FRun.of (e := .ret) (tm' := tm') (hT.trans p89) (hpre (Run.seq_stop (by simp) (Run.block_id (by simp) z5))) (Or.inl rfl) (by simp [resAs, resA, z1, tupA]), z2, z3, z4⟩
  · obtain ⟨H, vo', n', b10, b11, b12, z0, z1, z2, z3, z5⟩ := i2 O' s' he
    have hbr := (z2 br (bk_lt hb) hne).trans hb
    have hlt := bk_lt hbr
    by_cases hse : s' = ⟨#[]⟩
    · rw [if_pos hse]
      subst hse
      refine ⟨H, vo', FRun.of (e := .ret) (tm' := ?tma) (hT.trans p89) (hpre (Run.seq (Run.block_exit z5) ?ra)) (Or.inl rfl) ?rr, z0, z1, fun c h1 h2 _ => z2 c h1 h2, z3, hbr⟩
      case ra =>
        apply Run.seq
        · apply Run.step 20; intro k j
          simp [c89, tl89, fr89]
          (first | rfl | (constructor <;> rfl))
        · apply Run.step 20; intro k j
          simp
          (first | rfl | (constructor <;> rfl))
      case rr => simp [resAs, resA, tupA]
    · rw [if_neg hse]
      have hbr2 := hbr
      unfold rdC at hbr2
      have hse2 : (s'.toList == ([] : List UInt8)) = false := by
        rw [beq_eq_false_iff_ne]
        exact fun e => hse (V.toList_inj (e.trans V.empty_toList.symm))
      refine ⟨H.set br ⟨vr, 111, 6, true, rdC rs all left last sm 7⟩, vo', FRun.of (e := .ret) (tm' := ?tmb) (hT.trans p89) (hpre (Run.seq (Run.block_exit z5) ?rb)) (Or.inl rfl) ?rrb, z0, (bk_oth (fun e => hne e.symm)).trans z1, fun c h1 h2 h3 => (bk_oth h3).trans (z2 c h1 h2), by simp; omega, bk_put hlt⟩
      case rb =>
        apply Run.seq
        · apply Run.step 20; intro k j
          simp [c89, tl89, fr89, hse, hse2, hbr2, hlt, nilV, cells_int, isCell, rdC]
          (first | rfl | (constructor <;> rfl))
        · apply Run.step 20; intro k j
          simp
          (first | rfl | (constructor <;> rfl))
      case rrb => simp [resAs, resA, tupA]
end Go.Proofs.Ytpmoellbfgcefaa.AS
end
section
set_option autoImplicit false
set_option maxRecDepth 100000
set_option maxHeartbeats 4000000
set_option linter.unusedSimpArgs false
namespace Go.Proofs.Ytpmoellbfgcefaa.AS
open Go Go.Proofs Go.RowKit Go.Proofs.Ytpmoellbfgcefaa.AS.V

theorem numR_size {s : ByteArray} (hs : s.size ≤ 9223372036854775807) (w a b : Int) : (numR s w a b).2.1.size ≤ 9223372036854775807 := by
  have := gets_shorter s
  unfold numR
  split
  · exact hs
  · split
    · simp only; omega
    · omega
theorem numR_range (s : ByteArray) (w a b : Int) : 0 ≤ (numR s w a b).1 ∧ (numR s w a b).1 ≤ 18446744073709551615 := by
  have := gets_range s
  unfold numR
  split
  · simp
  · split
    · exact this
    · exact this
/-- number, in one form: whatever the reader's error is. -/
theorem number_run2 {T : FuncId → Option AFunc} (hT : T 88 = prepFn Try.prog 88) (h60 : T 60 = some (.hook hkGet)) (h : Heap) (br v : Nat) (s : ByteArray) (hs : s.size ≤ 9223372036854775807) (all left last : Int) (sm : Bool) (w least most : Int) (hb : bk h br = some ⟨v, 111, 6, true, rdC s all left last sm w⟩) :
    ∃ H, FRun Try.prog T 88 [.pt br v 0, .s (.int .u64 least), .s (.int .u64 most)] h (.s (.int .u64 (numR s w least most).1), H) ∧ bk H br = some ⟨v, 111, 6, true, rdC (numR s w least most).2.1 all left last sm (numR s w least most).2.2⟩ ∧ (∀ c, c ≠ br → bk H c = bk h c) ∧ H.length = h.length := by
  have := number_run hT h60 h br v s hs all left last sm w least most hb
  by_cases hw : w = 0
  · subst hw
    exact ⟨_, this, by simpa using bk_put (bk_lt hb), fun c hc => by simpa using bk_oth hc, by simp⟩
  · rw [if_pos hw] at this
    have e : numR s w least most = (0, s, w) := by simp [numR, hw]
    exact ⟨h, this, by rw [e]; exact hb, fun _ _ => rfl, rfl⟩
/-- The next block: its numbers, and the reader behind it. -/
def blkR (s : ByteArray) (left last : Int) (sm : Bool) : List Int × ByteArray × Int × Int × Bool × Int :=
  let a := numR s 0 (if sm then 1 else 0) 4294967295
  let first := IntKind.u64.wrap (last + a.1)
  let want := if 32 < left then 32 else left
  let b := numR a.2.1 a.2.2 want want
  let c := numR b.2.1 b.2.2 0 18446744073709551615
  if c.2.2 ≠ 0 then ([], c.2.1, left, last, sm, c.2.2)
  else if 4294967295 < first then ([], c.2.1, left, last, sm, 7)
  else if (c.2.1.size : Int) < c.1 then ([], c.2.1, left, last, sm, 5)
  else match restG (want.toNat - 1) [first] (c.2.1.extract 0 c.1.toNat) first with
    | none => ([], c.2.1, left, last, sm, 7)
    | some (O, s') => if s' = ⟨#[]⟩ then (O, c.2.1.extract c.1.toNat c.2.1.size, left - O.length, O.getLastD 0, true, 0) else ([], c.2.1, left, last, sm, 7)

noncomputable def tl82 : ACode := match c82 with
  | .seq _ (.seq _ (.seq _ (.seq _ (.seq _ (.seq _ (.seq _ t)))))) => t
  | _ => .skip
def fr82 (p : AV) (first many size : Int) (x1 x2 x3 x4 x8 x9 x10 x11 x12 x13 x14 x15 x16 x17 x18 x19 x20 x21 x22 x23 x24 x25 x26 x27 x28 x29 x30 x31 x32 : AV) : List AV := [p, x1, x2, x3, x4, .s (.int .u64 first), .s (.int .u64 many), .s (.int .u64 size), x8, x9, x10, x11, x12, x13, x14, x15, x16, x17, x18, x19, x20, x21, x22, x23, x24, x25, x26, x27, x28, x29, x30, x31, x32] ++ List.replicate 74 (.s undef)
theorem blk_head {T : FuncId → Option AFunc} (h88 : T 88 = prepFn Try.prog 88) (h60 : T 60 = some (.hook hkGet)) (h : Heap) (br vr : Nat) (s : ByteArray) (hs : s.size ≤ 9223372036854775807) (all left last : Int) (hl : 1 ≤ left ∧ left ≤ 65536) (sm : Bool) (hb : bk h br = some ⟨vr, 111, 6, true, rdC s all left last sm 0⟩)
    (least : Int) (hle : least = if sm then 1 else 0) (a b c : Int × ByteArray × Int) (want : Int) (ha : a = numR s 0 least 4294967295) (hw : want = if 32 < left then 32 else left) (hb' : b = numR a.2.1 a.2.2 want want) (hc : c = numR b.2.1 b.2.2 0 18446744073709551615) :
    ∃ H tm, bk H br = some ⟨vr, 111, 6, true, rdC c.2.1 all left last sm c.2.2⟩ ∧ (∀ x, x ≠ br → bk H x = bk h x) ∧ H.length = h.length ∧ (∃ x1 x2 x3 x4 x8 x9 x10 x11 x12 x13 x14 x15 x16 x17 x18 x19 x20 x21 x22 x23 x24 x25 x26 x27 x28 x29 x30 x31 x32 : AV, tm = fr82 (.pt br vr 0) (IntKind.u64.wrap (last + a.1)) b.1 c.1 x1 x2 x3 x4 x8 x9 x10 x11 x12 x13 x14 x15 x16 x17 x18 x19 x20 x21 x22 x23 x24 x25 x26 x27 x28 x29 x30 x31 x32) ∧
      ∀ r, Run Try.prog T tl82 tm H r → Run Try.prog T c82 ([.pt br vr 0] ++ List.replicate 106 (.s undef)) h r := by
  have hsa : a.2.1.size ≤ 9223372036854775807 := by rw [ha]; exact numR_size hs _ _ _
  have hsb : b.2.1.size ≤ 9223372036854775807 := by rw [hb']; exact numR_size hsa _ _ _
  obtain ⟨H1, f1, b1, k1, l1⟩ := number_run2 h88 h60 h br vr s hs all left last sm 0 least 4294967295 hb
  rw [← ha] at f1 b1
  obtain ⟨H2, f2, b2, k2, l2⟩ := number_run2 h88 h60 H1 br vr a.2.1 hsa all left last sm a.2.2 want want b1
  rw [← hb'] at f2 b2
  obtain ⟨H3, f3, b3, k3, l3⟩ := number_run2 h88 h60 H2 br vr b.2.1 hsb all left last sm b.2.2 0 18446744073709551615 b2
  rw [← hc] at f3 b3
  obtain ⟨J1, j1⟩ := f1.get
  obtain ⟨J2, j2⟩ := f2.get
  obtain ⟨J3, j3⟩ := f3.get
  have hb2 := hb
  unfold rdC at hb2
  have b12 := b1
  unfold rdC at b12
  have wc : (if 32 < left then (32 : Int) else left) = want := hw.symm
  have ww : IntKind.u64.wrap want = want := wu64 (by rw [hw]; split <;> omega) (by rw [hw]; split <;> omega)
  have hlt := bk_lt hb
  have hlt1 : br < H1.length := by omega
  cases sm with
  | false =>
    have hle : least = 0 := by simpa using hle
    subst hle
    refine ⟨H3, ?tmF, b3, fun x hx => by rw [k3 x hx, k2 x hx, k1 x hx], by omega, ?factsF, fun r H => ?runF⟩
    case runF =>
      apply Run.seq
      · apply Run.step 20; intro k j
        simp
        (first | rfl | (constructor <;> rfl))
      · apply Run.seq
        · apply Run.step 20; intro k j
          simp
          (first | rfl | (constructor <;> rfl))
        · apply Run.seq
          · apply Run.step 30; intro k j
            simp [hb2, hlt, oneOr, nilV]
            (first | rfl | (constructor <;> rfl))
          · apply Run.seq
            · apply Run.step 30; intro k j
              simp [hb2, hlt, oneOr, nilV, wc, ww]
              (first | rfl | (constructor <;> rfl))
            · apply Run.seq
              · apply Run.stepJ 30 J1; intro k j hj
                simp [hb2, hlt, oneOr, nilV, j1 j hj, b12, hlt1, chkDraw, okAt, avEq, vEq]
                (first | rfl | (constructor <;> rfl))
              · apply Run.seq
                · apply Run.stepJ 30 J2; intro k j hj
                  simp [j2 j hj]
                  (first | rfl | (constructor <;> rfl))
                · refine Run.seq ?_ H
                  apply Run.stepJ 30 J3; intro k j hj
                  simp [j3 j hj]
                  (first | rfl | (constructor <;> rfl))
    case factsF => exact ⟨_, _, _, _, _, _, _, _, _, _, _, _, _, _, _, _, _, _, _, _, _, _, _, _, _, _, _, _, _, rfl⟩
  | true =>
    have hle : least = 1 := by simpa using hle
    subst hle
    refine ⟨H3, ?tmT, b3, fun x hx => by rw [k3 x hx, k2 x hx, k1 x hx], by omega, ?factsT, fun r H => ?runT⟩
    case runT =>
      apply Run.seq
      · apply Run.step 20; intro k j
        simp
        (first | rfl | (constructor <;> rfl))
      · apply Run.seq
        · apply Run.step 20; intro k j
          simp
          (first | rfl | (constructor <;> rfl))
        · apply Run.seq
          · apply Run.step 30; intro k j
            simp [hb2, hlt, oneOr, nilV]
            (first | rfl | (constructor <;> rfl))
          · apply Run.seq
            · apply Run.step 30; intro k j
              simp [hb2, hlt, oneOr, nilV, wc, ww]
              (first | rfl | (constructor <;> rfl))
            · apply Run.seq
              · apply Run.stepJ 30 J1; intro k j hj
                simp [hb2, hlt, oneOr, nilV, j1 j hj, b12, hlt1, chkDraw, okAt, avEq, vEq]
                (first | rfl | (constructor <;> rfl))
              · apply Run.seq
                · apply Run.stepJ 30 J2; intro k j hj
                  simp [j2 j hj]
                  (first | rfl | (constructor <;> rfl))
                · refine Run.seq ?_ H
                  apply Run.stepJ 30 J3; intro k j hj
                  simp [j3 j hj]
                  (first | rfl | (constructor <;> rfl))
    case factsT => exact ⟨_, _, _, _, _, _, _, _, _, _, _, _, _, _, _, _, _, _, _, _, _, _, _, _, _, _, _, _, _, rfl⟩
end Go.Proofs.Ytpmoellbfgcefaa.AS
end
section
set_option autoImplicit false
set_option maxRecDepth 100000
set_option maxHeartbeats 4000000
set_option linter.unusedSimpArgs false
namespace Go.Proofs.Ytpmoellbfgcefaa.AS
open Go Go.Proofs Go.RowKit Go.Proofs.Ytpmoellbfgcefaa.AS.V

theorem blk_e1 {T : FuncId → Option AFunc} (H : Heap) (br vr : Nat) (s : ByteArray) (hs : s.size ≤ 9223372036854775807) (all left last : Int) (sm : Bool) (w first many size : Int) (hb : bk H br = some ⟨vr, 111, 6, true, rdC s all left last sm w⟩) (hw : w ≠ 0) (x1 x2 x3 x4 x8 x9 x10 x11 x12 x13 x14 x15 x16 x17 x18 x19 x20 x21 x22 x23 x24 x25 x26 x27 x28 x29 x30 x31 x32 : AV) :
    ∃ tm', tm'[2]? = some (.s (.slice none 0 0)) ∧ Run Try.prog T tl82 (fr82 (.pt br vr 0) first many size x1 x2 x3 x4 x8 x9 x10 x11 x12 x13 x14 x15 x16 x17 x18 x19 x20 x21 x22 x23 x24 x25 x26 x27 x28 x29 x30 x31 x32) H (.ret, tm', H) := by
  have hlt := bk_lt hb
  unfold rdC at hb
  have ws : IntKind.u64.wrap (s.size : Int) = (s.size : Int) := wu64 (by omega) (by omega)
  refine ⟨?tm, ?r1, ?r2⟩
  case r2 =>
    apply Run.seq_stop (by simp)
    apply Run.block_id (by simp)
    apply Run.seq
    · apply Run.step 30; intro k j
      simp [c82, tl82, fr82, hb, hlt, oneOr, nilV]
      (first | rfl | (constructor <;> rfl))
    · apply Run.step 40; intro k j
      simp [hb, hlt, oneOr, nilV, ws, cells_int, isCell, rdC, hw, Try.underlying9, Try.underlying3, Try.underlying35]
      (first | rfl | (constructor <;> rfl))
  case r1 => rfl
theorem blk_e2 {T : FuncId → Option AFunc} (H : Heap) (br vr : Nat) (s : ByteArray) (hs : s.size ≤ 9223372036854775807) (all left last : Int) (sm : Bool) (w first many size : Int) (hb : bk H br = some ⟨vr, 111, 6, true, rdC s all left last sm w⟩) (hw : w = 0) (hf : 4294967295 < first) (x1 x2 x3 x4 x8 x9 x10 x11 x12 x13 x14 x15 x16 x17 x18 x19 x20 x21 x22 x23 x24 x25 x26 x27 x28 x29 x30 x31 x32 : AV) :
    ∃ tm', tm'[2]? = some (.s (.slice none 0 0)) ∧ Run Try.prog T tl82 (fr82 (.pt br vr 0) first many size x1 x2 x3 x4 x8 x9 x10 x11 x12 x13 x14 x15 x16 x17 x18 x19 x20 x21 x22 x23 x24 x25 x26 x27 x28 x29 x30 x31 x32) H (.ret, tm', H.set br ⟨vr, 111, 6, true, rdC s all left last sm 7⟩) := by
  have hlt := bk_lt hb
  unfold rdC at hb
  have ws : IntKind.u64.wrap (s.size : Int) = (s.size : Int) := wu64 (by omega) (by omega)
  refine ⟨?tm, ?r1, ?r2⟩
  case r2 =>
    apply Run.seq_stop (by simp)
    apply Run.block_id (by simp)
    apply Run.seq
    · apply Run.step 30; intro k j
      simp [c82, tl82, fr82, hb, hlt, oneOr, nilV]
      (first | rfl | (constructor <;> rfl))
    · apply Run.step 40; intro k j
      simp [hb, hlt, oneOr, nilV, ws, cells_int, isCell, rdC, hw, eq_true hf, Try.underlying9, Try.underlying3, Try.underlying35]
      (first | rfl | (constructor <;> rfl))
  case r1 => rfl
theorem blk_e3 {T : FuncId → Option AFunc} (H : Heap) (br vr : Nat) (s : ByteArray) (hs : s.size ≤ 9223372036854775807) (all left last : Int) (sm : Bool) (w first many size : Int) (hb : bk H br = some ⟨vr, 111, 6, true, rdC s all left last sm w⟩) (hw : w = 0) (hf : ¬ 4294967295 < first) (hz : (s.size : Int) < size) (x1 x2 x3 x4 x8 x9 x10 x11 x12 x13 x14 x15 x16 x17 x18 x19 x20 x21 x22 x23 x24 x25 x26 x27 x28 x29 x30 x31 x32 : AV) :
    ∃ tm', tm'[2]? = some (.s (.slice none 0 0)) ∧ Run Try.prog T tl82 (fr82 (.pt br vr 0) first many size x1 x2 x3 x4 x8 x9 x10 x11 x12 x13 x14 x15 x16 x17 x18 x19 x20 x21 x22 x23 x24 x25 x26 x27 x28 x29 x30 x31 x32) H (.ret, tm', H.set br ⟨vr, 111, 6, true, rdC s all left last sm 5⟩) := by
  have hlt := bk_lt hb
  unfold rdC at hb
  have ws : IntKind.u64.wrap (s.size : Int) = (s.size : Int) := wu64 (by omega) (by omega)
  refine ⟨?tm, ?r1, ?r2⟩
  case r2 =>
    apply Run.seq_stop (by simp)
    apply Run.block_id (by simp)
    apply Run.seq
    · apply Run.step 30; intro k j
      simp [c82, tl82, fr82, hb, hlt, oneOr, nilV]
      (first | rfl | (constructor <;> rfl))
    · apply Run.step 40; intro k j
      simp [hb, hlt, oneOr, nilV, ws, cells_int, isCell, rdC, hw, eq_false hf, eq_true hz, Try.underlying9, Try.underlying3, Try.underlying35]
      (first | rfl | (constructor <;> rfl))
  case r1 => rfl
end Go.Proofs.Ytpmoellbfgcefaa.AS
end
section
set_option autoImplicit false
set_option maxRecDepth 100000
set_option maxHeartbeats 4000000
set_option linter.unusedSimpArgs false
namespace Go.Proofs.Ytpmoellbfgcefaa.AS
open Go Go.Proofs Go.RowKit Go.Proofs.Ytpmoellbfgcefaa.AS.V

theorem restG_range : ∀ (k : Nat) (O : List Int) (s : ByteArray) (n : Int) (O' : List Int) (s' : ByteArray), (∀ x ∈ O, 0 ≤ x ∧ x ≤ 4294967295) → 0 ≤ n ∧ n ≤ 4294967295 → restG k O s n = some (O', s') → ∀ x ∈ O', 0 ≤ x ∧ x ≤ 4294967295
  | 0, O, s, n, O', s', h1, _, h => by simp only [restG, Option.some.injEq, Prod.mk.injEq] at h; obtain ⟨rfl, _⟩ := h; exact h1
  | k + 1, O, s, n, O', s', h1, h2, h => by
    simp only [restG] at h
    split at h
    · cases h
    · rename_i hc
      have hr := gets_range s
      have hn : 0 ≤ n + ((gets s).1 + 1) ∧ n + ((gets s).1 + 1) ≤ 4294967295 := ⟨by omega, by
        have : ¬ 4294967295 ≤ n + (gets s).1 := fun h => hc (.inr (.inr h))
        omega⟩
      exact restG_range k _ _ _ O' s' (fun x hx => by
        rcases List.mem_append.1 hx with hx | hx
        · exact h1 x hx
        · simp at hx; subst hx; exact hn) hn h

theorem blk_ok {T : FuncId → Option AFunc} (h89 : T 89 = prepFn Try.prog 89) (h60 : T 60 = some (.hook hkGet)) (H : Heap) (br vr : Nat) (s : ByteArray) (hs : s.size ≤ 9223372036854775807) (all left last : Int) (hl : 1 ≤ left ∧ left ≤ 65536) (sm : Bool) (first size : Int) (k : Nat) (hk : k ≤ 31) (hfr : 0 ≤ first) (hf : ¬ 4294967295 < first) (hz0 : 0 ≤ size) (hz : ¬ (s.size : Int) < size) (hb : bk H br = some ⟨vr, 111, 6, true, rdC s all left last sm 0⟩) (x1 x2 x3 x4 x8 x9 x10 x11 x12 x13 x14 x15 x16 x17 x18 x19 x20 x21 x22 x23 x24 x25 x26 x27 x28 x29 x30 x31 x32 : AV) :
    (∀ O s', restG k [first] (s.extract 0 size.toNat) first = some (O, s') → s' = ⟨#[]⟩ → ∃ G tm' bo vo', tm'[2]? = some (.sl bo vo' 0 O.length 1) ∧ O.length = 1 + k ∧ H.length ≤ bo ∧ bk G bo = some ⟨vo', 32, 1, true, O.map cellW⟩ ∧ (∀ c, c < H.length → c ≠ br → bk G c = bk H c) ∧ H.length ≤ G.length ∧ bk G br = some ⟨vr, 111, 6, true, rdC (s.extract size.toNat s.size) all (left - O.length) (O.getLastD 0) true 0⟩ ∧
      Run Try.prog T tl82 (fr82 (.pt br vr 0) first ((1 + k : Nat) : Int) size x1 x2 x3 x4 x8 x9 x10 x11 x12 x13 x14 x15 x16 x17 x18 x19 x20 x21 x22 x23 x24 x25 x26 x27 x28 x29 x30 x31 x32) H (.ret, tm', G)) ∧
    ((restG k [first] (s.extract 0 size.toNat) first = none ∨ ∃ O s', restG k [first] (s.extract 0 size.toNat) first = some (O, s') ∧ s' ≠ ⟨#[]⟩) → ∃ G tm', tm'[2]? = some (.s (.slice none 0 0)) ∧ (∀ c, c < H.length → c ≠ br → bk G c = bk H c) ∧ H.length ≤ G.length ∧ bk G br = some ⟨vr, 111, 6, true, rdC s all left last sm 7⟩ ∧
      Run Try.prog T tl82 (fr82 (.pt br vr 0) first ((1 + k : Nat) : Int) size x1 x2 x3 x4 x8 x9 x10 x11 x12 x13 x14 x15 x16 x17 x18 x19 x20 x21 x22 x23 x24 x25 x26 x27 x28 x29 x30 x31 x32) H (.ret, tm', G)) := by
  have hlt := bk_lt hb
  have ws : IntKind.u64.wrap (s.size : Int) = (s.size : Int) := wu64 (by omega) (by omega)
  have wf : IntKind.u32.wrap first = first := by simp [IntKind.wrap, IntKind.bits, IntKind.signed]; omega
  have hne : br ≠ H.length := by omega
  obtain ⟨H', hH'⟩ : ∃ H' : Heap, H ++ [(⟨0, 32, 1, true, [.s (.int .u32 first)]⟩ : Blk)] = H' := ⟨_, rfl⟩
  have lH' : H'.length = H.length + 1 := by rw [← hH']; simp
  have hbo : bk H' H.length = some ⟨0, 32, 1, true, [cellW first]⟩ := by rw [← hH']; simp [cellW]
  have ho : ∀ c, c < H.length → bk H' c = bk H c := fun c hc => by rw [← hH']; simp [hc]
  have hbr : bk H' br = _ := (ho br hlt).trans hb
  have hse : (s.extract 0 size.toNat).size ≤ 9223372036854775807 := by
    rw [← bytesOf_length, bytesOf_extract _ _ _ (by omega), List.drop_zero, List.length_take, bytesOf_length]; omega
  obtain ⟨i1, i2⟩ := rest_run (T := T) h89 h60 br vr H.length 0 k first ⟨hfr, by omega⟩ (by omega) (s.extract 0 size.toNat) hse s all left last sm H' hbo hbr hne
  have cs := sl_hi (P := Try.prog) Try.underlying9 s .u64 size hz0 (by omega)
  have hb2 := hb
  have hbr2 := hbr
  unfold rdC at hbr2
  unfold rdC at hb2
  refine ⟨fun O s' he hs' => ?_, fun he => ?_⟩
  · subst hs'
    obtain ⟨G, vo', f1, o1, o2, o3, o4, o5⟩ := i2 O _ he
    rw [if_pos rfl] at o5
    obtain ⟨J, j1⟩ := f1.get
    have o5' := o5
    unfold rdC at o5'
    have hltG := bk_lt o5
    simp only [Int.natCast_add, Int.cast_ofNat_Int] at j1
    have hbne : H.length ≠ br := fun e => hne e.symm
    have hOl : O.length = 1 + k := o1
    obtain ⟨xl, hxl⟩ : ∃ x, O[k]? = some x := ⟨_, List.getElem?_eq_getElem (by omega)⟩
    have hxr := restG_range k [first] (s.extract 0 size.toNat) first O _ (by simp; omega) ⟨hfr, by omega⟩ he xl (List.mem_of_getElem? hxl)
    have wxl : IntKind.u64.wrap xl = xl := wu64 hxr.1 (by omega)
    have hlast : O.getLastD 0 = xl := by rw [List.getLastD_eq_getLast?, List.getLast?_eq_getElem?, hOl, show 1 + k - 1 = k by omega, hxl]; rfl
    have hrow : ((O.map cellW).drop k).take 1 = [.s (.int .u32 xl)] := by
      rw [List.take_one, List.head?_drop, List.getElem?_map, hxl]; rfl
    have hCl : (O.map cellW).length = 1 + k := by simp [hOl]
    have ho2 := o2
    have wsub : IntKind.i64.wrap (left - (1 + (k : Int))) = left - (1 + (k : Int)) := w64k (by omega) (by omega)
    have wl1 : IntKind.i64.wrap (1 + (k : Int) - 1) = (k : Int) := by rw [show 1 + (k : Int) - 1 = (k : Int) by omega]; exact w64k (by omega) (by omega)
    have wl2 : IntKind.i64.wrap (k : Int) = (k : Int) := w64k (by omega) (by omega)
    have cs2 := sl_lo (P := Try.prog) Try.underlying9 s .u64 size hz0 (by omega)
    have hko : (k : Int) < 1 + (k : Int) := by omega
    have hko' : k < 1 + k := by omega
    have hle1 : k + 1 ≤ 1 + k := by omega
    rw [hlast]
    have hOi : ((O.length : Nat) : Int) = 1 + (k : Int) := by omega
    refine ⟨G.set br ⟨vr, 111, 6, true, rdC (s.extract size.toNat s.size) all (left - O.length) xl true 0⟩, ?tmO, H.length, vo', ?s1, o1, Nat.le_refl _, (bk_oth hbne).trans o2, fun c h1 h2 => (bk_oth h2).trans ((o3 c (by omega) (by omega) h2).trans (ho c h1)), by simp; omega, bk_put hltG, ?s2⟩
    case s2 =>
      apply Run.seq
      · apply Run.block_id (by simp)
        apply Run.seq
        · apply Run.step 30; intro k j
          simp [c82, tl82, fr82, hb2, hlt, oneOr, nilV]
          (first | rfl | (constructor <;> rfl))
        · apply Run.step 40; intro k j
          simp [hb2, hlt, oneOr, nilV, ws, eq_false hf, eq_false hz, Try.underlying9, Try.underlying3, Try.underlying35]
          (first | rfl | (constructor <;> rfl))
      · apply Run.seq
        · apply Run.stepJ 40 J; intro k j hj
          simp [hb2, hbr2, hlt, oneOr, nilV, wf, fillA, cellsOf, isCell, cs, hH', j1 j hj, Try.underlying32, Try.underlying35]
          (first | rfl | (constructor <;> rfl))
        · apply Run.seq
          · apply Run.step 40; intro k j
            simp [o5', hltG, oneOr, nilV]
            (first | rfl | (constructor <;> rfl))
          · apply Run.seq
            · apply Run.draw0
              apply Run.reg_cut 8
              · apply Run.step 20; intro k j
                simp [o5', hltG, oneOr, nilV]
                (first | rfl | (constructor <;> rfl))
              · apply Run.reg_cut 8
                · apply Run.step 20; intro k j
                  simp [o5', hltG, oneOr, nilV, cs2, hOl, wsub]
                  (first | rfl | (constructor <;> rfl))
                · apply Run.step 20; intro k j
                  simp [o5', hltG, oneOr, nilV, cells_int, cellsOf, isCell]
                  (first | rfl | (constructor <;> rfl))
            · apply Run.seq
              · apply Run.step 30; intro k j
                simp [o5', hltG, oneOr, nilV, ho2, hbne, hne, wl1, hko, hko', hrow, hCl, hle1, cells_int, isCell, hOl, hOi, wxl]
                (first | rfl | (constructor <;> rfl))
              · apply Run.step 20; intro k j
                simp [rdC, hOi]
                (first | rfl | (constructor <;> rfl))
    case s1 => rw [hOl]; rfl
  · have key : ∃ (x : AV) (G : Heap), FRun Try.prog T 89 [.pt br vr 0, .sl H.length 0 0 1 1, .s (.string (s.extract 0 size.toNat)), .s (.int .u64 ((1 + k : Nat) : Int))] H' (x, G) ∧ (∀ c, c < H'.length → c ≠ H.length → c ≠ br → bk G c = bk H' c) ∧ H'.length ≤ G.length ∧ bk G br = some ⟨vr, 111, 6, true, rdC s all left last sm 7⟩ := by
      rcases he with he | ⟨O, s', he, hs'⟩
      · obtain ⟨G, a1, a2, a3, a4⟩ := i1 he
        exact ⟨_, G, a1, a2, a3, a4⟩
      · obtain ⟨G, vo', a1, _, _, a2, a3, a4⟩ := i2 O s' he
        rw [if_neg hs'] at a4
        exact ⟨_, G, a1, a2, a3, a4⟩
    obtain ⟨x, G, f1, o2, o3, o5⟩ := key
    obtain ⟨J, j1⟩ := f1.get
    simp only [Int.natCast_add, Int.cast_ofNat_Int] at j1
    have o5' := o5
    unfold rdC at o5'
    have hltG := bk_lt o5
    refine ⟨G, ?tmN, ?r1N, fun c h1 h2 => (o2 c (by omega) (by omega) h2).trans (ho c h1), by omega, o5, ?r2N⟩
    case r2N =>
      apply Run.seq
      · apply Run.block_id (by simp)
        apply Run.seq
        · apply Run.step 30; intro k j
          simp [c82, tl82, fr82, hb2, hlt, oneOr, nilV]
          (first | rfl | (constructor <;> rfl))
        · apply Run.step 40; intro k j
          simp [hb2, hlt, oneOr, nilV, ws, eq_false hf, eq_false hz, Try.underlying9, Try.underlying3, Try.underlying35]
          (first | rfl | (constructor <;> rfl))
      · apply Run.seq
        · apply Run.stepJ 40 J; intro k j hj
          simp [hb2, hbr2, hlt, oneOr, nilV, wf, fillA, cellsOf, isCell, cs, hH', j1 j hj, Try.underlying32, Try.underlying35]
          (first | rfl | (constructor <;> rfl))
        · apply Run.seq_stop (by simp)
          apply Run.step 40; intro k j
          simp [o5', hltG, oneOr, nilV]
          (first | rfl | (constructor <;> rfl))
    case r1N => rfl
end Go.Proofs.Ytpmoellbfgcefaa.AS
end
