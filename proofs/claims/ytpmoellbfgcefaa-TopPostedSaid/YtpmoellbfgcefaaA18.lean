/- Of our own: an abstract machine beside the model, its soundness, and walks of the program in it. -/
import Derived.Test.YtpmoellbfgcefaaA17
set_option linter.unusedSimpArgs false
set_option linter.unusedVariables false
section
set_option autoImplicit false
set_option maxRecDepth 100000
set_option maxHeartbeats 2000000
set_option linter.unusedSimpArgs false
namespace Go.Proofs.Ytpmoellbfgcefaa.AS
open Go Go.Proofs Go.RowKit Go.Proofs.Ytpmoellbfgcefaa.AS.V

def fr24 (s : ByteArray) (key : Int) (a : AV) (n j : Int) (a2 a3 a6 a7 a8 a9 a10 a11 a12 a13 a14 a15 a16 a17 a18 a19 : AV) : List AV := [.s (.string s), .s (.int .u64 key), a2, a3, .any, .any, a6, a7, a8, a9, a10, a11, a12, a13, a14, a15, a16, a17, a18, a19, a, .s (.int .i64 n), .s (.int .i64 j)] ++ List.replicate 10 .any
noncomputable def tail24 : ACode := match c24 with
  | .seq _ (.seq _ (.seq _ t)) => t
  | _ => .skip
noncomputable def body24 : ACode := match tail24 with
  | .seq (.seq _ (.block _ (.loop _ b))) _ => b
  | _ => .skip
noncomputable def fg24 : List Nat := match tail24 with
  | .seq (.seq _ (.block _ (.loop fg _))) _ => fg
  | _ => []
theorem rf_end {T : FuncId → Option AFunc} (s : ByteArray) (key : Int) (a : AV) (n j : Int) (hj : ¬ j < n) (h : Heap) (a2 a3 a6 a7 a8 a9 a10 a11 a12 a13 a14 a15 a16 a17 a18 a19 : AV) : ∃ tm', tm'.length = 33 ∧ Run Try.prog T body24 (fr24 s key a n j a2 a3 a6 a7 a8 a9 a10 a11 a12 a13 a14 a15 a16 a17 a18 a19) h (.exit 0, tm', h) := by
  refine ⟨?q1, ?q2, Run.step 30 fun k j => ?q3⟩
  case q3 =>
    simp [c24, tail24, body24, fr24, eq_false hj]
    rfl
  case q2 => rfl
theorem rf_one {T : FuncId → Option AFunc} (s : ByteArray) (key : Int) (h0 h' : Heap) (b v o n : Nat) (E : List (Int × ByteArray)) (hE : rowOf h0 (.sl b v o n 2) = some E) (hn : n ≤ 65536) (hold : ∀ b, b < h0.length → bk h' b = bk h0 b) (hlen : h0.length ≤ h'.length) (j : Nat) (x : Int × ByteArray) (hx : E[j]? = some x) (a2 a3 a6 a7 a8 a9 a10 a11 a12 a13 a14 a15 a16 a17 a18 a19 : AV) :
    (x.1 = key → ∃ tm' H, tm'[4]? = some (.s (.string x.2)) ∧ tm'[5]? = some (.s (.int .i64 0)) ∧ (∀ b, b < h0.length → bk H b = bk h0 b) ∧ Run Try.prog T body24 (fr24 s key (.sl b v o n 2) n j a2 a3 a6 a7 a8 a9 a10 a11 a12 a13 a14 a15 a16 a17 a18 a19) h' (.ret, tm', H)) ∧
    (x.1 ≠ key → ∃ tm' H a10', forget fg24 tm' = fr24 s key (.sl b v o n 2) n ((j : Int) + 1) a2 a3 a6 a7 a8 a9 a10' a11 a12 a13 a14 a15 a16 a17 a18 a19 ∧ (∀ b, b < h0.length → bk H b = bk h0 b) ∧ h0.length ≤ H.length ∧ Run Try.prog T body24 (fr24 s key (.sl b v o n 2) n j a2 a3 a6 a7 a8 a9 a10 a11 a12 a13 a14 a15 a16 a17 a18 a19) h' (.normal, tm', H)) := by
  obtain ⟨e, sz, rw, C, hb, hle, hC1, hl⟩ := rowOf_sl hE
  obtain ⟨hjE, hxe⟩ := List.getElem?_eq_some_iff.1 hx
  have hb' := (hold b (bk_lt hb)).trans hb
  have hrow := row_at (i := j) hC1 hl (by omega)
  rw [hxe] at hrow
  have hle2 : o + j * 2 + 2 ≤ C.length := by omega
  have hjn : (j : Int) < (n : Int) := by omega
  have w3 : IntKind.i64.wrap ((j : Int) + 1) = (j : Int) + 1 := w64k (by omega) (by omega)
  have hob : ∀ b, b < h0.length → b < h'.length := fun b hb => by omega
  refine ⟨fun hk => ⟨?q1, ?q2, ?q3, ?q4, ?q5, Run.step 40 fun k j => ?q6⟩, fun hk => ⟨?r1, ?r2, ?r3, ?r4, ?r5, ?r6, Run.step 40 fun k j => ?r7⟩⟩
  case q6 =>
    simp [c24, tail24, body24, fr24, hjn, hb', hrow, hle2, oneOr, cellsOf, isCell, eq_true hk, w3]
    (first | rfl | (constructor <;> rfl))
  case q3 => rfl
  case q4 => rfl
  case q5 =>
    intro b hb
    simp [hob b hb, hold b hb]
  case r7 =>
    simp [c24, tail24, body24, fr24, hjn, hb', hrow, hle2, oneOr, cellsOf, isCell, eq_false hk, w3]
    (first | rfl | (constructor <;> rfl))
  case r4 =>
    simp [forget, fg24, tail24, c24, fr24]
    rfl
  case r5 =>
    intro b hb
    simp [hob b hb, hold b hb]
  case r6 => simp; omega
theorem rf_loop {T : FuncId → Option AFunc} (s : ByteArray) (key : Int) (h0 : Heap) (b v o n : Nat) (E : List (Int × ByteArray)) (hE : rowOf h0 (.sl b v o n 2) = some E) (hn : n ≤ 65536) : ∀ (d j : Nat) (h' : Heap), j + d = n → (∀ b, b < h0.length → bk h' b = bk h0 b) → h0.length ≤ h'.length → ∀ (a2 a3 a6 a7 a8 a9 a10 a11 a12 a13 a14 a15 a16 a17 a18 a19 : AV),
    (∀ e, (E.drop j).find? (fun e => decide (e.1 = key)) = some e → ∃ tm' H, tm'[4]? = some (.s (.string e.2)) ∧ tm'[5]? = some (.s (.int .i64 0)) ∧ (∀ b, b < h0.length → bk H b = bk h0 b) ∧ Run Try.prog T (.loop fg24 body24) (fr24 s key (.sl b v o n 2) n j a2 a3 a6 a7 a8 a9 a10 a11 a12 a13 a14 a15 a16 a17 a18 a19) h' (.ret, tm', H)) ∧
    ((E.drop j).find? (fun e => decide (e.1 = key)) = none → ∃ tm' H, tm'.length = 33 ∧ (∀ b, b < h0.length → bk H b = bk h0 b) ∧ Run Try.prog T (.loop fg24 body24) (fr24 s key (.sl b v o n 2) n j a2 a3 a6 a7 a8 a9 a10 a11 a12 a13 a14 a15 a16 a17 a18 a19) h' (.exit 0, tm', H)) := by
  have hl : E.length = n := (rowOf_sl hE).choose_spec.choose_spec.choose_spec.choose_spec.2.2.2
  have hfg : ∀ (a : AV) (n j : Int) (a2 a3 a6 a7 a8 a9 a10 a11 a12 a13 a14 a15 a16 a17 a18 a19 : AV), forget fg24 (fr24 s key a n j a2 a3 a6 a7 a8 a9 a10 a11 a12 a13 a14 a15 a16 a17 a18 a19) = fr24 s key a n j a2 a3 a6 a7 a8 a9 a10 a11 a12 a13 a14 a15 a16 a17 a18 a19 := fun a n j a2 a3 a6 a7 a8 a9 a10 a11 a12 a13 a14 a15 a16 a17 a18 a19 => by simp [forget, fg24, tail24, c24, fr24]
  intro d
  induction d with
  | zero =>
    intro j h' hd hold hlen a2 a3 a6 a7 a8 a9 a10 a11 a12 a13 a14 a15 a16 a17 a18 a19
    rw [List.drop_eq_nil_of_le (by omega)]
    refine ⟨fun e he => (by simp at he), fun _ => ?_⟩
    obtain ⟨tm', t1, t2⟩ := rf_end (T := T) s key (.sl b v o n 2) n j (by omega) h' a2 a3 a6 a7 a8 a9 a10 a11 a12 a13 a14 a15 a16 a17 a18 a19
    exact ⟨tm', h', t1, hold, Run.loop_end_f (hfg _ _ _ a2 a3 a6 a7 a8 a9 a10 a11 a12 a13 a14 a15 a16 a17 a18 a19) (by simp) t2⟩
  | succ d ih =>
    intro j h' hd hold hlen a2 a3 a6 a7 a8 a9 a10 a11 a12 a13 a14 a15 a16 a17 a18 a19
    obtain ⟨x, hx⟩ : ∃ x, E[j]? = some x := ⟨_, List.getElem?_eq_getElem (by omega)⟩
    obtain ⟨hlt, hx2⟩ := List.getElem?_eq_some_iff.1 hx
    have e : E.drop j = x :: E.drop (j + 1) := by rw [List.drop_eq_getElem_cons hlt, hx2]
    rw [e, List.find?_cons]
    obtain ⟨k1, k2⟩ := rf_one (T := T) s key h0 h' b v o n E hE hn hold hlen j x hx a2 a3 a6 a7 a8 a9 a10 a11 a12 a13 a14 a15 a16 a17 a18 a19
    by_cases hk : x.1 = key
    · rw [decide_eq_true hk]
      refine ⟨fun e he => ?_, fun he => (by cases he)⟩
      cases he
      obtain ⟨tm', H, t1, t2, t3, t4⟩ := k1 hk
      exact ⟨tm', H, t1, t2, t3, Run.loop_end_f (hfg _ _ _ a2 a3 a6 a7 a8 a9 a10 a11 a12 a13 a14 a15 a16 a17 a18 a19) (by simp) t4⟩
    · rw [decide_eq_false hk]
      obtain ⟨tm1, H1, a10', x1, x2, x3, x4⟩ := k2 hk
      obtain ⟨i1, i2⟩ := ih (j + 1) H1 (by omega) x2 x3 a2 a3 a6 a7 a8 a9 a10' a11 a12 a13 a14 a15 a16 a17 a18 a19
      refine ⟨fun e he => ?_, fun he => ?_⟩
      · obtain ⟨tm', H, t1, t2, t3, t4⟩ := i1 e he
        exact ⟨tm', H, t1, t2, t3, Run.loop_go (hfg _ _ _ a2 a3 a6 a7 a8 a9 a10 a11 a12 a13 a14 a15 a16 a17 a18 a19) x4 x1 t4⟩
      · obtain ⟨tm', H, t1, t2, t3⟩ := i2 he
        exact ⟨tm', H, t1, t2, Run.loop_go (hfg _ _ _ a2 a3 a6 a7 a8 a9 a10 a11 a12 a13 a14 a15 a16 a17 a18 a19) x4 x1 t3⟩
theorem hkFind24_ok {T : FuncId → Option AFunc} (hm : Try.prog.follows .mixedOrders = true) (hT : TabOK Try.prog T) (h24 : T 24 = prepFn Try.prog 24) (hR : T 56 = some (.hook hkRead)) (hc : callable Try.prog 24 = true) : HookSound Try.prog 24 hkFind := by
  refine hookOf hm hT hc fun l h r he => ?_
  unfold hkFind at he
  split at he
  · rename_i s key
    split at he
    · rename_i hs
      cases he
      have c56 := fun k l h => evFn_hook (P := Try.prog) (T := T) (k := k) (f := 56) (args := l) (h := h) hR
      have hlen := readS_len hs
      have hrow := rowOf_new h (readS s).1
      by_cases hw : (readS s).2.2 = 0
      · rw [if_pos hw, if_pos hw]
        have hpre : ∀ {r : Res}, Run Try.prog T tail24 ([.s (.string s), .s (.int .u64 key), .s undef, .s undef, .s (.string ⟨#[]⟩), .s (.int .i64 0), rowN h.length (readS s).1, .s (.string (readS s).2.1), .s (.int .i64 (readS s).2.2), .s undef, .s undef, .tp [rowN h.length (readS s).1, .s (.string (readS s).2.1), .s (.int .i64 (readS s).2.2)], .s (.string s), .tp [rowN h.length (readS s).1, .s (.string (readS s).2.1), .s (.int .i64 (readS s).2.2)], rowN h.length (readS s).1, .s (.string (readS s).2.1), .s (.int .i64 (readS s).2.2), .s (.int .i64 (readS s).2.2), .s (.bool false)] ++ List.replicate 14 (.s undef)) (rowH h (readS s).1) r → Run Try.prog T c24 ([.s (.string s), .s (.int .u64 key)] ++ List.replicate 31 (.s undef)) h r := fun {r} H => by
          apply Run.seq
          · apply Run.step 20; intro k j
            simp
            (first | rfl | (constructor <;> rfl))
          · apply Run.seq
            · apply Run.step 20; intro k j
              simp [c56, hkRead, hs]
              (first | rfl | (constructor <;> rfl))
            · apply Run.seq
              · apply Run.step 20; intro k j
                simp [eq_true hw]
                (first | rfl | (constructor <;> rfl))
              · exact H
        generalize hE : (readS s).1 = E at *
        by_cases hne : E = []
        · subst hne
          obtain ⟨tm', t1, t2⟩ := rf_end (T := T) s key (.s (.slice none 0 0)) 0 0 (by omega) h (.s undef) (.s undef) (.s (.slice none 0 0)) (.s (.string (readS s).2.1)) (.s (.int .i64 (readS s).2.2)) (.s undef) (.s undef) (.tp [(.s (.slice none 0 0)), .s (.string (readS s).2.1), .s (.int .i64 (readS s).2.2)]) (.s (.string s)) (.tp [(.s (.slice none 0 0)), .s (.string (readS s).2.1), .s (.int .i64 (readS s).2.2)]) (.s (.slice none 0 0)) (.s (.string (readS s).2.1)) (.s (.int .i64 (readS s).2.2)) (.s (.int .i64 (readS s).2.2)) (.s (.bool false)) (.s undef)
          refine ⟨(.tp [.s (.string (findF [] key).1), .s (.int .i64 (findF [] key).2)], h), ?_, Drops.refl _ _⟩
          apply FRun.of (e := .ret) (h24.trans p24)
          · apply hpre
            apply Run.seq
            · apply Run.seq
              · apply Run.step 20; intro k j
                simp [rowN]
                (first | rfl | (constructor <;> rfl))
              · apply Run.block_exit
                refine Run.loop_end_f ?_ (by simp) t2
                simp [forget, fg24, tail24, c24, fr24]
            · apply Run.step 20; intro k j
              simp
              (first | rfl | (constructor <;> rfl))
          · exact Or.inl rfl
          · simp [resAs, resA, tupA, t1, findF]
        · have e1 : rowN h.length E = .sl h.length 0 0 E.length 2 := if_neg hne
          rw [e1] at hrow hpre
          obtain ⟨i1, i2⟩ := rf_loop (T := T) s key (rowH h E) h.length 0 0 E.length E hrow hlen E.length 0 (rowH h E) (by omega) (fun _ _ => rfl) (Nat.le_refl _) (.s undef) (.s undef) (.sl h.length 0 0 E.length 2) (.s (.string (readS s).2.1)) (.s (.int .i64 (readS s).2.2)) (.s undef) (.s undef) (.tp [(.sl h.length 0 0 E.length 2), .s (.string (readS s).2.1), .s (.int .i64 (readS s).2.2)]) (.s (.string s)) (.tp [(.sl h.length 0 0 E.length 2), .s (.string (readS s).2.1), .s (.int .i64 (readS s).2.2)]) (.sl h.length 0 0 E.length 2) (.s (.string (readS s).2.1)) (.s (.int .i64 (readS s).2.2)) (.s (.int .i64 (readS s).2.2)) (.s (.bool false)) (.s undef)
          rw [List.drop_zero] at i1 i2
          have hg := rowH_grows h E
          have hgl := hg.len
          cases hf : E.find? (fun e => decide (e.1 = key)) with
          | some e =>
            obtain ⟨tm', H, t1, t2, t3, t4⟩ := i1 e hf
            have e3 : findF E key = (e.2, 0) := by unfold findF; rw [hf]
            rw [e3]
            refine ⟨(.tp [.s (.string e.2), .s (.int .i64 0)], H), ?_, Drops.flat (fun b hb => (t3 b (by omega)).trans (hg b hb)) rfl⟩
            apply FRun.of (e := .ret) (tm' := tm') (h24.trans p24)
            · apply hpre
              apply Run.seq_stop (by simp)
              apply Run.seq
              · apply Run.step 20; intro k j
                simp
                (first | rfl | (constructor <;> rfl))
              · apply Run.block_id (by simp)
                apply Run.loop_go' t4
                simp [forget, fg24, tail24, c24, fr24]
            · exact Or.inl rfl
            · simp [resAs, resA, tupA, t1, t2]
          | none =>
            obtain ⟨tm', H, t1, t3, t4⟩ := i2 hf
            have e3 : findF E key = (⟨#[]⟩, 3) := by unfold findF; rw [hf]
            rw [e3]
            refine ⟨(.tp [.s (.string ⟨#[]⟩), .s (.int .i64 3)], H), ?_, Drops.flat (fun b hb => (t3 b (by omega)).trans (hg b hb)) rfl⟩
            apply FRun.of (e := .ret) (h24.trans p24)
            · apply hpre
              apply Run.seq
              · apply Run.seq
                · apply Run.step 20; intro k j
                  simp
                  (first | rfl | (constructor <;> rfl))
                · apply Run.block_exit
                  apply Run.loop_go' t4
                  simp [forget, fg24, tail24, c24, fr24]
              · apply Run.step 20; intro k j
                simp
                (first | rfl | (constructor <;> rfl))
            · exact Or.inl rfl
            · simp [resAs, resA, tupA, t1]
      · rw [if_neg hw, if_neg hw]
        have hE := readS_err hw
        refine ⟨_, ?_, Drops.refl _ _⟩
        apply FRun.of (e := .ret) (h24.trans p24)
        · apply Run.step 30; intro k j
          simp [c24, c56, hkRead, hs, hE, rowN, rowH, eq_false hw]
          (first | rfl | (constructor <;> rfl))
        · exact Or.inl rfl
        · rfl
    · cases he
  · cases he
end Go.Proofs.Ytpmoellbfgcefaa.AS
end
section
set_option autoImplicit false
set_option maxRecDepth 100000
set_option maxHeartbeats 2000000
set_option linter.unusedSimpArgs false
namespace Go.Proofs.Ytpmoellbfgcefaa.AS
open Go Go.Proofs Go.RowKit Go.Proofs.Ytpmoellbfgcefaa.AS.V

def cellU (k : Int) : AV := .s (.int .u64 k)
def outU (b : Nat) : List Int → AV
  | [] => .s (.slice none 0 0)
  | _ :: L => .sl b L.length 0 (L.length + 1) 1
theorem outU_sl {b m : Nat} {L : List Int} (h : L.length = m + 1) : outU b L = .sl b m 0 (m + 1) 1 := by
  cases L with
  | nil => simp at h
  | cons x L => simp at h; simp [outU, h]
structure InvU (h0 h' : Heap) (b2 : Nat) (K : List Int) : Prop where
  old : ∀ b, b < h0.length → bk h' b = bk h0 b
  len : h0.length ≤ h'.length
  out : K ≠ [] → h0.length ≤ b2 ∧ bk h' b2 = some ⟨K.length - 1, 35, 1, true, K.map cellU⟩
def rowU (n : Nat) (K : List Int) : AV := if K = [] then .s (.slice none 0 0) else .sl n 0 0 K.length 1
def rowUH (h : Heap) (K : List Int) : Heap := if K = [] then h else h ++ [⟨0, 35, 1, true, K.map cellU⟩]
theorem flat_U : ∀ K : List Int, ∃ us, toVs (K.map cellU) = some us
  | [] => ⟨[], rfl⟩
  | x :: K => by
    obtain ⟨us, h⟩ := flat_U K
    exact ⟨.int .u64 x :: us, by simp [cellU, toVs, toV] at h ⊢; simp [h]⟩
theorem rowU_drop {h H : Heap} {b : Nat} {K : List Int} {l : List AV} {us : List Value} (hl : toVs l = some us) (h1 : ∀ b, b < h.length → bk H b = bk h b) (h2 : K ≠ [] → h.length ≤ b ∧ bk H b = some ⟨K.length - 1, 35, 1, true, K.map cellU⟩) :
    Drops h (.tp (outU b K :: l), H) (.tp (rowU h.length K :: l), rowUH h K) := by
  by_cases hK : K = []
  · subst hK
    exact Drops.flat (grows_of h1) (by simp [toV, toVs, outU, hl])
  · obtain ⟨a, c⟩ := h2 hK
    obtain ⟨us', hu⟩ := flat_U K
    have e1 : rowU h.length K = .sl h.length 0 0 K.length 1 := if_neg hK
    have e2 : rowUH h K = h ++ [⟨0, 35, 1, true, K.map cellU⟩] := if_neg hK
    have e3 : outU b K = .sl b (K.length - 1) 0 K.length 1 := by
      cases K with
      | nil => exact absurd rfl hK
      | cons x K => simp [outU]
    rw [e1, e2, e3]
    exact Drops.fresh (k := ⟨K.length - 1, 35, 1, true, K.map cellU⟩) (grows_of h1) a c hu hl
noncomputable def hkKeys : List AV → Heap → Option (AV × Heap)
  | [.s (.string s)], h => if s.size ≤ 9223372036854775807 then some (.tp [rowU h.length ((readS s).1.map (·.1)), .s (.int .i64 (readS s).2.2)], rowUH h ((readS s).1.map (·.1))) else none
  | _, _ => none

def fr27 (s : ByteArray) (a out : AV) (n j : Int) (a1 a2 a3 a4 a5 a6 a8 a9 a10 a11 a12 a13 a14 a15 a28 a29 : AV) : List AV := [.s (.string s), a1, a2, a3, a4, a5, a6, out, a8, a9, a10, a11, a12, a13, a14, a15, a, .s (.int .i64 n), .s (.int .i64 j)] ++ List.replicate 9 .any ++ [a28, a29]
noncomputable def tail27 : ACode := match c27 with
  | .seq _ (.seq _ t) => t
  | _ => .skip
noncomputable def body27 : ACode := match tail27 with
  | .seq _ (.seq (.seq _ (.block _ (.loop _ b))) _) => b
  | _ => .skip
noncomputable def fg27 : List Nat := match tail27 with
  | .seq _ (.seq (.seq _ (.block _ (.loop fg _))) _) => fg
  | _ => []
theorem k27_end {T : FuncId → Option AFunc} (s : ByteArray) (a out : AV) (n j : Int) (hj : ¬ j < n) (h : Heap) (a1 a2 a3 a4 a5 a6 a8 a9 a10 a11 a12 a13 a14 a15 a28 a29 : AV) : Run Try.prog T body27 (fr27 s a out n j a1 a2 a3 a4 a5 a6 a8 a9 a10 a11 a12 a13 a14 a15 a28 a29) h (.exit 0, (fr27 s a out n j a1 a2 a3 a4 a5 a6 a8 a9 a10 a11 a12 a13 a14 a15 a28 a29).set 19 (.s (.bool false)), h) := by
  apply Run.step 30; intro k j
  simp [c27, tail27, body27, fr27, eq_false hj]
theorem k27_one {T : FuncId → Option AFunc} (s : ByteArray) (h0 h' : Heap) (b v o n b2 : Nat) (E : List (Int × ByteArray)) (hE : rowOf h0 (.sl b v o n 2) = some E) (hn : n ≤ 65536) (K : List Int) (hI : InvU h0 h' b2 K) (j : Nat) (x : Int × ByteArray) (hx : E[j]? = some x) (hK : K.length = j) (a1 a2 a3 a4 a5 a6 a8 a9 a10 a11 a12 a13 a14 a15 a28 a29 : AV) :
    ∃ tm' H a9' b2', forget fg27 tm' = fr27 s (.sl b v o n 2) (outU b2' (K ++ [x.1])) n ((j : Int) + 1) a1 a2 a3 a4 a5 a6 a8 a9' a10 a11 a12 a13 a14 a15 a28 a29 ∧ InvU h0 H b2' (K ++ [x.1]) ∧ Run Try.prog T body27 (fr27 s (.sl b v o n 2) (outU b2 K) n j a1 a2 a3 a4 a5 a6 a8 a9 a10 a11 a12 a13 a14 a15 a28 a29) h' (.normal, tm', H) := by
  obtain ⟨e, sz, rw, C, hb, hle, hC1, hl⟩ := rowOf_sl hE
  obtain ⟨hjE, hxe⟩ := List.getElem?_eq_some_iff.1 hx
  have hlen := hI.len
  have hb' := (hI.old b (bk_lt hb)).trans hb
  have hrow := row_at (i := j) hC1 hl (by omega)
  rw [hxe] at hrow
  have hle2 : o + j * 2 + 2 ≤ C.length := by omega
  have hjn : (j : Int) < (n : Int) := by omega
  have w3 : IntKind.i64.wrap ((j : Int) + 1) = (j : Int) + 1 := w64k (by omega) (by omega)
  have hob : ∀ b, b < h0.length → b < h'.length := fun b hb => by omega
  cases K with
  | nil =>
    simp at hK
    subst hK
    refine ⟨?q1, ?q2, ?q3, h'.length + 2, ?q4, ?q5, Run.step 40 fun k j => ?q6⟩
    case q6 =>
      simp at hjn hrow hle2
      simp [c27, tail27, body27, fr27, outU, hjn, hb', hrow, hle2, oneOr, cellsOf, isCell, fillA, apV_nil, show IntKind.i64.wrap 1 = 1 from by decide]
      (first | rfl | (constructor <;> rfl))
    case q4 =>
      simp [forget, fg27, tail27, c27, fr27, outU]
      rfl
    case q5 =>
      refine ⟨fun b hb => ?_, ?_, fun _ => ⟨?_, ?_⟩⟩
      · simp [hob b hb, hI.old b hb]
      · simp; omega
      · omega
      · simp [cellU]
  | cons y K =>
    obtain ⟨o1, o2⟩ := hI.out (by simp)
    simp only [List.length_cons, Nat.add_sub_cancel] at o2 hK
    have hlo := bk_lt o2
    have n1 : b2 ≠ h'.length := by omega
    have n2 : b2 ≠ h'.length + 1 := by omega
    have b1 : (K.length + 1 + 1) * 8 ≤ 140737488355328 := by omega
    have b3 : K.length + 1 + 1 ≤ 9223372036854775807 := by omega
    have hDl : ((y :: K).map cellU).length = K.length + 1 := by simp
    have hall : ((y :: K).map cellU).take (K.length + 1) = (y :: K).map cellU := List.take_of_length_le (by simp)
    have hle3 : K.length + 1 ≤ ((y :: K).map cellU).length := by simp
    have e1 : outU b2 (y :: K) = .sl b2 K.length 0 (K.length + 1) 1 := rfl
    have e2 : outU b2 (y :: K ++ [x.1]) = .sl b2 (K.length + 1) 0 (K.length + 1 + 1) 1 := outU_sl (by simp)
    have e4 : (y :: K ++ [x.1]).map cellU = (y :: K).map cellU ++ [.s (.int .u64 x.1)] := by simp [cellU]
    have e5 : (y :: K ++ [x.1]).length - 1 = K.length + 1 := by simp
    generalize (y :: K).map cellU = D at *
    rw [e1]
    refine ⟨?r1, ?r2, ?r3, b2, ?r4, ?r5, Run.step 40 fun k j => ?r6⟩
    case r6 =>
      simp [c27, tail27, body27, fr27, hjn, hb', hrow, hle2, oneOr, cellsOf, isCell, fillA, apK_s, o2, hlo, n1, n2, b1, b3, hall, hle3, w3]
      (first | rfl | (constructor <;> rfl))
    case r4 =>
      rw [e2]
      simp [forget, fg27, tail27, c27, fr27]
      rfl
    case r5 =>
      refine ⟨fun b hb => ?_, ?_, fun _ => ⟨?_, ?_⟩⟩
      · have h4 : b2 ≠ b := by omega
        simp [hob b hb, h4, hI.old b hb]
      · simp; omega
      · omega
      · rw [e4, e5]
        simp [hlo]
theorem k27_loop {T : FuncId → Option AFunc} (s : ByteArray) (h0 : Heap) (b v o n : Nat) (E : List (Int × ByteArray)) (hE : rowOf h0 (.sl b v o n 2) = some E) (hn : n ≤ 65536) : ∀ (d j : Nat) (h' : Heap) (b2 : Nat) (K : List Int), j + d = n → K.length = j → InvU h0 h' b2 K → ∀ (a1 a2 a3 a4 a5 a6 a8 a9 a10 a11 a12 a13 a14 a15 a28 a29 : AV),
    ∃ a9' b2' H, InvU h0 H b2' (K ++ (E.drop j).map (·.1)) ∧ Run Try.prog T (.loop fg27 body27) (fr27 s (.sl b v o n 2) (outU b2 K) n j a1 a2 a3 a4 a5 a6 a8 a9 a10 a11 a12 a13 a14 a15 a28 a29) h' (.exit 0, (fr27 s (.sl b v o n 2) (outU b2' (K ++ (E.drop j).map (·.1))) n n a1 a2 a3 a4 a5 a6 a8 a9' a10 a11 a12 a13 a14 a15 a28 a29).set 19 (.s (.bool false)), H) := by
  have hl : E.length = n := (rowOf_sl hE).choose_spec.choose_spec.choose_spec.choose_spec.2.2.2
  have hfg : ∀ (a out : AV) (n j : Int) (a1 a2 a3 a4 a5 a6 a8 a9 a10 a11 a12 a13 a14 a15 a28 a29 : AV), forget fg27 (fr27 s a out n j a1 a2 a3 a4 a5 a6 a8 a9 a10 a11 a12 a13 a14 a15 a28 a29) = fr27 s a out n j a1 a2 a3 a4 a5 a6 a8 a9 a10 a11 a12 a13 a14 a15 a28 a29 := fun a out n j a1 a2 a3 a4 a5 a6 a8 a9 a10 a11 a12 a13 a14 a15 a28 a29 => by simp [forget, fg27, tail27, c27, fr27]
  intro d
  induction d with
  | zero =>
    intro j h' b2 K hd hK hI a1 a2 a3 a4 a5 a6 a8 a9 a10 a11 a12 a13 a14 a15 a28 a29
    rw [List.drop_eq_nil_of_le (by omega), List.map_nil, List.append_nil]
    obtain rfl : j = n := by omega
    exact ⟨a9, b2, h', hI, Run.loop_end_f (hfg _ _ _ _ a1 a2 a3 a4 a5 a6 a8 a9 a10 a11 a12 a13 a14 a15 a28 a29) (by simp) (k27_end (T := T) s (.sl b v o j 2) (outU b2 K) j j (by omega) h' a1 a2 a3 a4 a5 a6 a8 a9 a10 a11 a12 a13 a14 a15 a28 a29)⟩
  | succ d ih =>
    intro j h' b2 K hd hK hI a1 a2 a3 a4 a5 a6 a8 a9 a10 a11 a12 a13 a14 a15 a28 a29
    obtain ⟨x, hx⟩ : ∃ x, E[j]? = some x := ⟨_, List.getElem?_eq_getElem (by omega)⟩
    obtain ⟨hlt, hx2⟩ := List.getElem?_eq_some_iff.1 hx
    have e : E.drop j = x :: E.drop (j + 1) := by rw [List.drop_eq_getElem_cons hlt, hx2]
    obtain ⟨tm1, H1, a9', b2', x1, x2, x3⟩ := k27_one (T := T) s h0 h' b v o n b2 E hE hn K hI j x hx hK a1 a2 a3 a4 a5 a6 a8 a9 a10 a11 a12 a13 a14 a15 a28 a29
    obtain ⟨a9'', b3, H, y1, y2⟩ := ih (j + 1) H1 b2' (K ++ [x.1]) (by omega) (by simp [hK]) x2 a1 a2 a3 a4 a5 a6 a8 a9' a10 a11 a12 a13 a14 a15 a28 a29
    rw [List.append_assoc] at y1 y2
    rw [e, List.map_cons]
    exact ⟨a9'', b3, H, y1, Run.loop_go (hfg _ _ _ _ a1 a2 a3 a4 a5 a6 a8 a9 a10 a11 a12 a13 a14 a15 a28 a29) x3 x1 y2⟩
theorem hkKeys27_ok {T : FuncId → Option AFunc} (hm : Try.prog.follows .mixedOrders = true) (hT : TabOK Try.prog T) (hF : T 27 = prepFn Try.prog 27) (hR : T 33 = some (.hook hkRead)) (hc : callable Try.prog 27 = true) : HookSound Try.prog 27 hkKeys := by
  refine hookOf hm hT hc fun l h r he => ?_
  unfold hkKeys at he
  split at he
  · rename_i s
    split at he
    · rename_i hs
      cases he
      have cR := fun k l h => evFn_hook (P := Try.prog) (T := T) (k := k) (f := 33) (args := l) (h := h) hR
      have hlen := readS_len hs
      have hrow := rowOf_new h (readS s).1
      have hpre : ∀ {r : Res}, Run Try.prog T tail27 ([.s (.string s), .s undef, .s (.slice none 0 0), .s (.int .i64 0), rowN h.length (readS s).1, .s (.string (readS s).2.1), .s (.int .i64 (readS s).2.2), .s undef, .s undef, .s undef, .tp [rowN h.length (readS s).1, .s (.string (readS s).2.1), .s (.int .i64 (readS s).2.2)], .s (.string s), .tp [rowN h.length (readS s).1, .s (.string (readS s).2.1), .s (.int .i64 (readS s).2.2)], rowN h.length (readS s).1, .s (.string (readS s).2.1), .s (.int .i64 (readS s).2.2)] ++ List.replicate 14 (.s undef)) (rowH h (readS s).1) r → Run Try.prog T c27 ([.s (.string s)] ++ List.replicate 29 (.s undef)) h r := fun {r} H => by
        apply Run.seq
        · apply Run.step 20; intro k j
          simp
          (first | rfl | (constructor <;> rfl))
        · apply Run.seq
          · apply Run.step 20; intro k j
            simp [cR, hkRead, hs]
            (first | rfl | (constructor <;> rfl))
          · exact H
      generalize hE : (readS s).1 = E at *
      by_cases hne : E = []
      · subst hne
        have t2 := k27_end (T := T) s (.s (.slice none 0 0)) (.s (.slice none 0 0)) 0 0 (by omega) h (.s undef) (.s (.slice none 0 0)) (.s (.int .i64 0)) (.s (.slice none 0 0)) (.s (.string (readS s).2.1)) (.s (.int .i64 (readS s).2.2)) (.s undef) (.s undef) (.tp [(.s (.slice none 0 0)), .s (.string (readS s).2.1), .s (.int .i64 (readS s).2.2)]) (.s (.string s)) (.tp [(.s (.slice none 0 0)), .s (.string (readS s).2.1), .s (.int .i64 (readS s).2.2)]) (.s (.slice none 0 0)) (.s (.string (readS s).2.1)) (.s (.int .i64 (readS s).2.2)) (.s undef) (.s undef)
        refine ⟨(.tp [.s (.slice none 0 0), .s (.int .i64 (readS s).2.2)], h), ?_, Drops.refl _ _⟩
        apply FRun.of (e := .ret) (hF.trans p27)
        · apply hpre
          apply Run.seq
          · apply Run.step 20; intro k j
            simp [rowN]
            (first | rfl | (constructor <;> rfl))
          · apply Run.seq
            · apply Run.seq
              · apply Run.step 20; intro k j
                simp
                (first | rfl | (constructor <;> rfl))
              · apply Run.block_exit
                refine Run.loop_end_f ?_ (by simp) t2
                simp [forget, fg27, tail27, c27, fr27]
            · apply Run.step 20; intro k j
              simp [fr27]
              (first | rfl | (constructor <;> rfl))
        · exact Or.inl rfl
        · rfl
      · have e1 : rowN h.length E = .sl h.length 0 0 E.length 2 := if_neg hne
        rw [e1] at hrow hpre
        obtain ⟨a9', b2', H, y1, y2⟩ := k27_loop (T := T) s (rowH h E) h.length 0 0 E.length E hrow hlen E.length 0 (rowH h E) 0 [] (by omega) rfl ⟨fun _ _ => rfl, Nat.le_refl _, fun h => absurd rfl h⟩ (.s undef) (.s (.slice none 0 0)) (.s (.int .i64 0)) (.sl h.length 0 0 E.length 2) (.s (.string (readS s).2.1)) (.s (.int .i64 (readS s).2.2)) (.s undef) (.s undef) (.tp [(.sl h.length 0 0 E.length 2), .s (.string (readS s).2.1), .s (.int .i64 (readS s).2.2)]) (.s (.string s)) (.tp [(.sl h.length 0 0 E.length 2), .s (.string (readS s).2.1), .s (.int .i64 (readS s).2.2)]) (.sl h.length 0 0 E.length 2) (.s (.string (readS s).2.1)) (.s (.int .i64 (readS s).2.2)) (.s undef) (.s undef)
        rw [List.drop_zero, List.nil_append] at y1 y2
        have hg := rowH_grows h E
        have hgl := hg.len
        refine ⟨(.tp [outU b2' (E.map (·.1)), .s (.int .i64 (readS s).2.2)], H), ?_, rowU_drop (us := [.int .i64 (readS s).2.2]) rfl (fun b hb => (y1.old b (by omega)).trans (hg b hb)) (fun hK => ⟨by have := (y1.out hK).1; omega, (y1.out hK).2⟩)⟩
        apply FRun.of (e := .ret) (hF.trans p27)
        · apply hpre
          apply Run.seq
          · apply Run.step 20; intro k j
            simp
            (first | rfl | (constructor <;> rfl))
          · apply Run.seq
            · apply Run.seq
              · apply Run.step 20; intro k j
                simp
                (first | rfl | (constructor <;> rfl))
              · apply Run.block_exit
                apply Run.loop_go' y2
                simp [forget, fg27, tail27, c27, fr27, outU]
            · apply Run.step 20; intro k j
              simp [fr27]
              (first | rfl | (constructor <;> rfl))
        · exact Or.inl rfl
        · rfl
    · cases he
  · cases he
end Go.Proofs.Ytpmoellbfgcefaa.AS
end
section
set_option autoImplicit false
set_option maxRecDepth 100000
set_option maxHeartbeats 2000000
set_option linter.unusedSimpArgs false
namespace Go.Proofs.Ytpmoellbfgcefaa.AS
open Go Go.Proofs Go.RowKit Go.Proofs.Ytpmoellbfgcefaa.AS.V

def fr28 (s : ByteArray) (a out : AV) (n j : Int) (a1 a2 a3 a4 a5 a6 a8 a9 a10 a11 a12 a13 a14 a15 a28 a29 : AV) : List AV := [.s (.string s), a1, a2, a3, a4, a5, a6, out, a8, a9, a10, a11, a12, a13, a14, a15, a, .s (.int .i64 n), .s (.int .i64 j)] ++ List.replicate 9 .any ++ [a28, a29]
noncomputable def tail28 : ACode := match c28 with
  | .seq _ (.seq _ t) => t
  | _ => .skip
noncomputable def body28 : ACode := match tail28 with
  | .seq _ (.seq (.seq _ (.block _ (.loop _ b))) _) => b
  | _ => .skip
noncomputable def fg28 : List Nat := match tail28 with
  | .seq _ (.seq (.seq _ (.block _ (.loop fg _))) _) => fg
  | _ => []
theorem k28_end {T : FuncId → Option AFunc} (s : ByteArray) (a out : AV) (n j : Int) (hj : ¬ j < n) (h : Heap) (a1 a2 a3 a4 a5 a6 a8 a9 a10 a11 a12 a13 a14 a15 a28 a29 : AV) : Run Try.prog T body28 (fr28 s a out n j a1 a2 a3 a4 a5 a6 a8 a9 a10 a11 a12 a13 a14 a15 a28 a29) h (.exit 0, (fr28 s a out n j a1 a2 a3 a4 a5 a6 a8 a9 a10 a11 a12 a13 a14 a15 a28 a29).set 19 (.s (.bool false)), h) := by
  apply Run.step 30; intro k j
  simp [c28, tail28, body28, fr28, eq_false hj]
theorem k28_one {T : FuncId → Option AFunc} (s : ByteArray) (h0 h' : Heap) (b v o n b2 : Nat) (E : List (Int × ByteArray)) (hE : rowOf h0 (.sl b v o n 2) = some E) (hn : n ≤ 65536) (K : List Int) (hI : InvU h0 h' b2 K) (j : Nat) (x : Int × ByteArray) (hx : E[j]? = some x) (hK : K.length = j) (a1 a2 a3 a4 a5 a6 a8 a9 a10 a11 a12 a13 a14 a15 a28 a29 : AV) :
    ∃ tm' H a9' b2', forget fg28 tm' = fr28 s (.sl b v o n 2) (outU b2' (K ++ [x.1])) n ((j : Int) + 1) a1 a2 a3 a4 a5 a6 a8 a9' a10 a11 a12 a13 a14 a15 a28 a29 ∧ InvU h0 H b2' (K ++ [x.1]) ∧ Run Try.prog T body28 (fr28 s (.sl b v o n 2) (outU b2 K) n j a1 a2 a3 a4 a5 a6 a8 a9 a10 a11 a12 a13 a14 a15 a28 a29) h' (.normal, tm', H) := by
  obtain ⟨e, sz, rw, C, hb, hle, hC1, hl⟩ := rowOf_sl hE
  obtain ⟨hjE, hxe⟩ := List.getElem?_eq_some_iff.1 hx
  have hlen := hI.len
  have hb' := (hI.old b (bk_lt hb)).trans hb
  have hrow := row_at (i := j) hC1 hl (by omega)
  rw [hxe] at hrow
  have hle2 : o + j * 2 + 2 ≤ C.length := by omega
  have hjn : (j : Int) < (n : Int) := by omega
  have w3 : IntKind.i64.wrap ((j : Int) + 1) = (j : Int) + 1 := w64k (by omega) (by omega)
  have hob : ∀ b, b < h0.length → b < h'.length := fun b hb => by omega
  cases K with
  | nil =>
    simp at hK
    subst hK
    refine ⟨?q1, ?q2, ?q3, h'.length + 2, ?q4, ?q5, Run.step 40 fun k j => ?q6⟩
    case q6 =>
      simp at hjn hrow hle2
      simp [c28, tail28, body28, fr28, outU, hjn, hb', hrow, hle2, oneOr, cellsOf, isCell, fillA, apV_nil, show IntKind.i64.wrap 1 = 1 from by decide]
      (first | rfl | (constructor <;> rfl))
    case q4 =>
      simp [forget, fg28, tail28, c28, fr28, outU]
      rfl
    case q5 =>
      refine ⟨fun b hb => ?_, ?_, fun _ => ⟨?_, ?_⟩⟩
      · simp [hob b hb, hI.old b hb]
      · simp; omega
      · omega
      · simp [cellU]
  | cons y K =>
    obtain ⟨o1, o2⟩ := hI.out (by simp)
    simp only [List.length_cons, Nat.add_sub_cancel] at o2 hK
    have hlo := bk_lt o2
    have n1 : b2 ≠ h'.length := by omega
    have n2 : b2 ≠ h'.length + 1 := by omega
    have b1 : (K.length + 1 + 1) * 8 ≤ 140737488355328 := by omega
    have b3 : K.length + 1 + 1 ≤ 9223372036854775807 := by omega
    have hDl : ((y :: K).map cellU).length = K.length + 1 := by simp
    have hall : ((y :: K).map cellU).take (K.length + 1) = (y :: K).map cellU := List.take_of_length_le (by simp)
    have hle3 : K.length + 1 ≤ ((y :: K).map cellU).length := by simp
    have e1 : outU b2 (y :: K) = .sl b2 K.length 0 (K.length + 1) 1 := rfl
    have e2 : outU b2 (y :: K ++ [x.1]) = .sl b2 (K.length + 1) 0 (K.length + 1 + 1) 1 := outU_sl (by simp)
    have e4 : (y :: K ++ [x.1]).map cellU = (y :: K).map cellU ++ [.s (.int .u64 x.1)] := by simp [cellU]
    have e5 : (y :: K ++ [x.1]).length - 1 = K.length + 1 := by simp
    generalize (y :: K).map cellU = D at *
    rw [e1]
    refine ⟨?r1, ?r2, ?r3, b2, ?r4, ?r5, Run.step 40 fun k j => ?r6⟩
    case r6 =>
      simp [c28, tail28, body28, fr28, hjn, hb', hrow, hle2, oneOr, cellsOf, isCell, fillA, apK_s, o2, hlo, n1, n2, b1, b3, hall, hle3, w3]
      (first | rfl | (constructor <;> rfl))
    case r4 =>
      rw [e2]
      simp [forget, fg28, tail28, c28, fr28]
      rfl
    case r5 =>
      refine ⟨fun b hb => ?_, ?_, fun _ => ⟨?_, ?_⟩⟩
      · have h4 : b2 ≠ b := by omega
        simp [hob b hb, h4, hI.old b hb]
      · simp; omega
      · omega
      · rw [e4, e5]
        simp [hlo]
theorem k28_loop {T : FuncId → Option AFunc} (s : ByteArray) (h0 : Heap) (b v o n : Nat) (E : List (Int × ByteArray)) (hE : rowOf h0 (.sl b v o n 2) = some E) (hn : n ≤ 65536) : ∀ (d j : Nat) (h' : Heap) (b2 : Nat) (K : List Int), j + d = n → K.length = j → InvU h0 h' b2 K → ∀ (a1 a2 a3 a4 a5 a6 a8 a9 a10 a11 a12 a13 a14 a15 a28 a29 : AV),
    ∃ a9' b2' H, InvU h0 H b2' (K ++ (E.drop j).map (·.1)) ∧ Run Try.prog T (.loop fg28 body28) (fr28 s (.sl b v o n 2) (outU b2 K) n j a1 a2 a3 a4 a5 a6 a8 a9 a10 a11 a12 a13 a14 a15 a28 a29) h' (.exit 0, (fr28 s (.sl b v o n 2) (outU b2' (K ++ (E.drop j).map (·.1))) n n a1 a2 a3 a4 a5 a6 a8 a9' a10 a11 a12 a13 a14 a15 a28 a29).set 19 (.s (.bool false)), H) := by
  have hl : E.length = n := (rowOf_sl hE).choose_spec.choose_spec.choose_spec.choose_spec.2.2.2
  have hfg : ∀ (a out : AV) (n j : Int) (a1 a2 a3 a4 a5 a6 a8 a9 a10 a11 a12 a13 a14 a15 a28 a29 : AV), forget fg28 (fr28 s a out n j a1 a2 a3 a4 a5 a6 a8 a9 a10 a11 a12 a13 a14 a15 a28 a29) = fr28 s a out n j a1 a2 a3 a4 a5 a6 a8 a9 a10 a11 a12 a13 a14 a15 a28 a29 := fun a out n j a1 a2 a3 a4 a5 a6 a8 a9 a10 a11 a12 a13 a14 a15 a28 a29 => by simp [forget, fg28, tail28, c28, fr28]
  intro d
  induction d with
  | zero =>
    intro j h' b2 K hd hK hI a1 a2 a3 a4 a5 a6 a8 a9 a10 a11 a12 a13 a14 a15 a28 a29
    rw [List.drop_eq_nil_of_le (by omega), List.map_nil, List.append_nil]
    obtain rfl : j = n := by omega
    exact ⟨a9, b2, h', hI, Run.loop_end_f (hfg _ _ _ _ a1 a2 a3 a4 a5 a6 a8 a9 a10 a11 a12 a13 a14 a15 a28 a29) (by simp) (k28_end (T := T) s (.sl b v o j 2) (outU b2 K) j j (by omega) h' a1 a2 a3 a4 a5 a6 a8 a9 a10 a11 a12 a13 a14 a15 a28 a29)⟩
  | succ d ih =>
    intro j h' b2 K hd hK hI a1 a2 a3 a4 a5 a6 a8 a9 a10 a11 a12 a13 a14 a15 a28 a29
    obtain ⟨x, hx⟩ : ∃ x, E[j]? = some x := ⟨_, List.getElem?_eq_getElem (by omega)⟩
    obtain ⟨hlt, hx2⟩ := List.getElem?_eq_some_iff.1 hx
    have e : E.drop j = x :: E.drop (j + 1) := by rw [List.drop_eq_getElem_cons hlt, hx2]
    obtain ⟨tm1, H1, a9', b2', x1, x2, x3⟩ := k28_one (T := T) s h0 h' b v o n b2 E hE hn K hI j x hx hK a1 a2 a3 a4 a5 a6 a8 a9 a10 a11 a12 a13 a14 a15 a28 a29
    obtain ⟨a9'', b3, H, y1, y2⟩ := ih (j + 1) H1 b2' (K ++ [x.1]) (by omega) (by simp [hK]) x2 a1 a2 a3 a4 a5 a6 a8 a9' a10 a11 a12 a13 a14 a15 a28 a29
    rw [List.append_assoc] at y1 y2
    rw [e, List.map_cons]
    exact ⟨a9'', b3, H, y1, Run.loop_go (hfg _ _ _ _ a1 a2 a3 a4 a5 a6 a8 a9 a10 a11 a12 a13 a14 a15 a28 a29) x3 x1 y2⟩
theorem hkKeys28_ok {T : FuncId → Option AFunc} (hm : Try.prog.follows .mixedOrders = true) (hT : TabOK Try.prog T) (hF : T 28 = prepFn Try.prog 28) (hR : T 56 = some (.hook hkRead)) (hc : callable Try.prog 28 = true) : HookSound Try.prog 28 hkKeys := by
  refine hookOf hm hT hc fun l h r he => ?_
  unfold hkKeys at he
  split at he
  · rename_i s
    split at he
    · rename_i hs
      cases he
      have cR := fun k l h => evFn_hook (P := Try.prog) (T := T) (k := k) (f := 56) (args := l) (h := h) hR
      have hlen := readS_len hs
      have hrow := rowOf_new h (readS s).1
      have hpre : ∀ {r : Res}, Run Try.prog T tail28 ([.s (.string s), .s undef, .s (.slice none 0 0), .s (.int .i64 0), rowN h.length (readS s).1, .s (.string (readS s).2.1), .s (.int .i64 (readS s).2.2), .s undef, .s undef, .s undef, .tp [rowN h.length (readS s).1, .s (.string (readS s).2.1), .s (.int .i64 (readS s).2.2)], .s (.string s), .tp [rowN h.length (readS s).1, .s (.string (readS s).2.1), .s (.int .i64 (readS s).2.2)], rowN h.length (readS s).1, .s (.string (readS s).2.1), .s (.int .i64 (readS s).2.2)] ++ List.replicate 14 (.s undef)) (rowH h (readS s).1) r → Run Try.prog T c28 ([.s (.string s)] ++ List.replicate 29 (.s undef)) h r := fun {r} H => by
        apply Run.seq
        · apply Run.step 20; intro k j
          simp
          (first | rfl | (constructor <;> rfl))
        · apply Run.seq
          · apply Run.step 20; intro k j
            simp [cR, hkRead, hs]
            (first | rfl | (constructor <;> rfl))
          · exact H
      generalize hE : (readS s).1 = E at *
      by_cases hne : E = []
      · subst hne
        have t2 := k28_end (T := T) s (.s (.slice none 0 0)) (.s (.slice none 0 0)) 0 0 (by omega) h (.s undef) (.s (.slice none 0 0)) (.s (.int .i64 0)) (.s (.slice none 0 0)) (.s (.string (readS s).2.1)) (.s (.int .i64 (readS s).2.2)) (.s undef) (.s undef) (.tp [(.s (.slice none 0 0)), .s (.string (readS s).2.1), .s (.int .i64 (readS s).2.2)]) (.s (.string s)) (.tp [(.s (.slice none 0 0)), .s (.string (readS s).2.1), .s (.int .i64 (readS s).2.2)]) (.s (.slice none 0 0)) (.s (.string (readS s).2.1)) (.s (.int .i64 (readS s).2.2)) (.s undef) (.s undef)
        refine ⟨(.tp [.s (.slice none 0 0), .s (.int .i64 (readS s).2.2)], h), ?_, Drops.refl _ _⟩
        apply FRun.of (e := .ret) (hF.trans p28)
        · apply hpre
          apply Run.seq
          · apply Run.step 20; intro k j
            simp [rowN]
            (first | rfl | (constructor <;> rfl))
          · apply Run.seq
            · apply Run.seq
              · apply Run.step 20; intro k j
                simp
                (first | rfl | (constructor <;> rfl))
              · apply Run.block_exit
                refine Run.loop_end_f ?_ (by simp) t2
                simp [forget, fg28, tail28, c28, fr28]
            · apply Run.step 20; intro k j
              simp [fr28]
              (first | rfl | (constructor <;> rfl))
        · exact Or.inl rfl
        · rfl
      · have e1 : rowN h.length E = .sl h.length 0 0 E.length 2 := if_neg hne
        rw [e1] at hrow hpre
        obtain ⟨a9', b2', H, y1, y2⟩ := k28_loop (T := T) s (rowH h E) h.length 0 0 E.length E hrow hlen E.length 0 (rowH h E) 0 [] (by omega) rfl ⟨fun _ _ => rfl, Nat.le_refl _, fun h => absurd rfl h⟩ (.s undef) (.s (.slice none 0 0)) (.s (.int .i64 0)) (.sl h.length 0 0 E.length 2) (.s (.string (readS s).2.1)) (.s (.int .i64 (readS s).2.2)) (.s undef) (.s undef) (.tp [(.sl h.length 0 0 E.length 2), .s (.string (readS s).2.1), .s (.int .i64 (readS s).2.2)]) (.s (.string s)) (.tp [(.sl h.length 0 0 E.length 2), .s (.string (readS s).2.1), .s (.int .i64 (readS s).2.2)]) (.sl h.length 0 0 E.length 2) (.s (.string (readS s).2.1)) (.s (.int .i64 (readS s).2.2)) (.s undef) (.s undef)
        rw [List.drop_zero, List.nil_append] at y1 y2
        have hg := rowH_grows h E
        have hgl := hg.len
        refine ⟨(.tp [outU b2' (E.map (·.1)), .s (.int .i64 (readS s).2.2)], H), ?_, rowU_drop (us := [.int .i64 (readS s).2.2]) rfl (fun b hb => (y1.old b (by omega)).trans (hg b hb)) (fun hK => ⟨by have := (y1.out hK).1; omega, (y1.out hK).2⟩)⟩
        apply FRun.of (e := .ret) (hF.trans p28)
        · apply hpre
          apply Run.seq
          · apply Run.step 20; intro k j
            simp
            (first | rfl | (constructor <;> rfl))
          · apply Run.seq
            · apply Run.seq
              · apply Run.step 20; intro k j
                simp
                (first | rfl | (constructor <;> rfl))
              · apply Run.block_exit
                apply Run.loop_go' y2
                simp [forget, fg28, tail28, c28, fr28, outU]
            · apply Run.step 20; intro k j
              simp [fr28]
              (first | rfl | (constructor <;> rfl))
        · exact Or.inl rfl
        · rfl
    · cases he
  · cases he
end Go.Proofs.Ytpmoellbfgcefaa.AS
end
section
set_option autoImplicit false
set_option maxRecDepth 100000
set_option maxHeartbeats 2000000
set_option linter.unusedSimpArgs false
namespace Go.Proofs.Ytpmoellbfgcefaa.AS
open Go Go.Proofs Go.RowKit Go.Proofs.Ytpmoellbfgcefaa.AS.V

theorem entC_cells : ∀ E : List (Int × ByteArray), (E.flatMap entC).all isCell = true
  | [] => rfl
  | x :: E => by
    have := entC_cells E
    rw [List.flatMap_cons, List.all_append, this]
    rfl
/-- A row copied: nothing stays nothing. -/
def cpA (n : Nat) (a : AV) (E : List (Int × ByteArray)) : AV := match a with | .sl _ _ _ _ _ => .sl n 0 0 E.length 2 | _ => .s (.slice none 0 0)
def cpH (h : Heap) (a : AV) (E : List (Int × ByteArray)) : Heap := match a with | .sl _ _ _ _ _ => h ++ [⟨0, 52, 2, true, E.flatMap entC⟩] | _ => h
noncomputable def hkClone : List AV → Heap → Option (AV × Heap)
  | [a], h => match rowOf h a with
    | some E => if E.length ≤ 65536 then some (cpA h.length a E, cpH h a E) else none
    | none => none
  | _, _ => none
theorem hkClone_ok {T : FuncId → Option AFunc} (hm : Try.prog.follows .mixedOrders = true) (hT : TabOK Try.prog T) (h57 : T 57 = prepFn Try.prog 57) (hc : callable Try.prog 57 = true) : HookSound Try.prog 57 hkClone := by
  refine hookOf hm hT hc fun l h r he => ?_
  unfold hkClone at he
  split at he
  · rename_i a
    split at he
    · rename_i E hE
      split at he
      · rename_i hn
        cases he
        have hE' := hE
        unfold rowOf at hE
        split at hE
        · cases hE
          refine ⟨_, ?_, Drops.refl _ _⟩
          apply FRun.of (e := .ret) (h57.trans p57)
          · apply Run.step 20; intro k j
            simp [c57]
            (first | rfl | (constructor <;> rfl))
          · exact Or.inl rfl
          · rfl
        · rename_i b v o n
          have hE : rowOf h (.sl b v o n 2) = some E := hE'
          obtain ⟨e, sz, rw, C, hb, hle, hC1, hl⟩ := rowOf_sl hE
          have hlt := bk_lt hb
          have hcell := entC_cells E
          have e1 : cpA h.length (.sl b v o n 2) E = .sl h.length 0 0 E.length 2 := rfl
          have e2 : cpH h (.sl b v o n 2) E = h ++ [⟨0, 52, 2, true, E.flatMap entC⟩] := rfl
          rw [e1, e2]
          obtain ⟨us, hu⟩ := flat_entC E
          have b1 : n * 24 ≤ 140737488355328 := by omega
          have b2 : n ≤ 9223372036854775807 := by omega
          generalize E.flatMap entC = D at *
          have hcell' : ∀ x ∈ D, isCell x = true := List.all_eq_true.1 hcell
          refine ⟨(.sl h.length 1 0 E.length 2, h ++ [⟨1, 52, 2, true, D⟩]), ?_, Drops.fresh1 (k := ⟨1, 52, 2, true, D⟩) (Grows.app _ _) (Nat.le_refl _) (by simp) hu⟩
          rw [hl]
          apply FRun.of (e := .ret) (h57.trans p57)
          · apply Run.step 20; intro k j
            simp [c57, fillA, hb, hlt, hle, hC1, apK_s, hcell, b1, b2]
            (first | rfl | (constructor <;> rfl))
          · exact Or.inl rfl
          · rfl
        · cases hE
      · cases he
    · cases he
  · cases he

/-- The entries from one key to another. -/
def rangeF (E : List (Int × ByteArray)) (a b : Int) : List (Int × ByteArray) := E.filter fun e => decide (a ≤ e.1) && decide (e.1 ≤ b)
theorem low_cons_lt {x : Int × ByteArray} {E : List (Int × ByteArray)} {k : Int} (h : x.1 < k) : low (x :: E) k = low E k + 1 := by unfold low; simp [h]
theorem low_cons_ge {x : Int × ByteArray} {E : List (Int × ByteArray)} {k : Int} (h : ¬ x.1 < k) : low (x :: E) k = 0 := by unfold low; simp [h]
theorem isAt_cons_lt {x : Int × ByteArray} {E : List (Int × ByteArray)} {k : Int} (h : x.1 < k) : isAt (x :: E) k = isAt E k := by unfold isAt; rw [low_cons_lt h, List.getElem?_cons_succ]
theorem isAt_cons_ge {x : Int × ByteArray} {E : List (Int × ByteArray)} {k : Int} (h : ¬ x.1 < k) : isAt (x :: E) k = decide (x.1 = k) := by unfold isAt; rw [low_cons_ge h]; rfl
/-- Where a key's place ends. -/
def hiOf (E : List (Int × ByteArray)) (k : Int) : Nat := low E k + if isAt E k then 1 else 0
theorem hiOf_cons_le {x : Int × ByteArray} {E : List (Int × ByteArray)} {k : Int} (hA : Asc (x :: E)) (h : x.1 ≤ k) : hiOf (x :: E) k = hiOf E k + 1 := by
  unfold hiOf
  by_cases h1 : x.1 < k
  · rw [low_cons_lt h1, isAt_cons_lt h1]; omega
  · have h2 : x.1 = k := by omega
    rw [low_cons_ge h1, isAt_cons_ge h1, decide_eq_true h2]
    have hA' := List.pairwise_cons.1 hA
    cases E with
    | nil => simp [low, isAt]
    | cons y E =>
      have := hA'.1 y (by simp)
      rw [low_cons_ge (by omega), isAt_cons_ge (by omega), decide_eq_false (by omega)]
      simp
theorem hiOf_cons_gt {x : Int × ByteArray} {E : List (Int × ByteArray)} {k : Int} (h : ¬ x.1 ≤ k) : hiOf (x :: E) k = 0 := by
  unfold hiOf
  rw [low_cons_ge (by omega), isAt_cons_ge (by omega), decide_eq_false (by omega)]; rfl
theorem rangeF_zero : ∀ {E : List (Int × ByteArray)} {a b : Int}, Asc E → (∀ e ∈ E, b < e.1) → rangeF E a b = []
  | E, a, b, _, h => by
    unfold rangeF
    rw [List.filter_eq_nil_iff]
    intro e he
    have := h e he
    simp; omega
theorem range_at : ∀ {E : List (Int × ByteArray)} {a b : Int}, Asc E → a ≤ b → rangeF E a b = (E.drop (low E a)).take (hiOf E b - low E a) ∧ low E a ≤ hiOf E b ∧ hiOf E b ≤ E.length
  | [], a, b, _, _ => by simp [rangeF, low, hiOf, isAt]
  | x :: E, a, b, hA, hab => by
    have hA' := List.pairwise_cons.1 hA
    obtain ⟨i1, i2, i3⟩ := range_at (a := a) (b := b) hA'.2 hab
    by_cases h1 : x.1 < a
    · rw [low_cons_lt h1, hiOf_cons_le hA (by omega)]
      refine ⟨?_, by omega, by simp; omega⟩
      have e : rangeF (x :: E) a b = rangeF E a b := by unfold rangeF; rw [List.filter_cons_of_neg (by simp; omega)]
      rw [e, i1, List.drop_succ_cons]
      congr 1; omega
    · rw [low_cons_ge h1]
      have hlow : low E a = 0 := by
        cases E with
        | nil => rfl
        | cons y E => have := hA'.1 y (by simp); exact low_cons_ge (by omega)
      rw [hlow] at i1
      by_cases h2 : x.1 ≤ b
      · rw [hiOf_cons_le hA h2]
        refine ⟨?_, by omega, by simp; omega⟩
        have e : rangeF (x :: E) a b = x :: rangeF E a b := by unfold rangeF; rw [List.filter_cons_of_pos (by simp; omega)]
        rw [e, i1]; simp
      · rw [hiOf_cons_gt h2]
        refine ⟨?_, by omega, by simp⟩
        rw [rangeF_zero hA (fun e he => by
          rcases List.mem_cons.1 he with rfl | h
          · omega
          · have := hA'.1 e h; omega)]
        simp
end Go.Proofs.Ytpmoellbfgcefaa.AS
end
section
set_option autoImplicit false
set_option maxRecDepth 100000
set_option maxHeartbeats 2000000
set_option linter.unusedSimpArgs false
namespace Go.Proofs.Ytpmoellbfgcefaa.AS
open Go Go.Proofs Go.RowKit Go.Proofs.Ytpmoellbfgcefaa.AS.V

/-- dict.Range: nothing where there is no entry at all; a row of its own, it may be an empty one, else. -/
def rngA (n : Nat) (E F : List (Int × ByteArray)) : AV := if E = [] then .s (.slice none 0 0) else .sl n 0 0 F.length 2
def rngH (h : Heap) (E F : List (Int × ByteArray)) : Heap := if E = [] then h else h ++ [⟨0, 52, 2, true, F.flatMap entC⟩]
noncomputable def hkRange : List AV → Heap → Option (AV × Heap)
  | [.s (.string s), .s (.int .u64 a), .s (.int .u64 b)], h => if s.size ≤ 9223372036854775807 then
      (if b < a then some (.tp [.s (.slice none 0 0), .s (.int .i64 (readS s).2.2)], h) else some (.tp [rngA h.length (readS s).1 (rangeF (readS s).1 a b), .s (.int .i64 (readS s).2.2)], rngH h (readS s).1 (rangeF (readS s).1 a b))) else none
  | _, _ => none
theorem hkRange_ok {T : FuncId → Option AFunc} (hm : Try.prog.follows .mixedOrders = true) (hT : TabOK Try.prog T) (h25 : T 25 = prepFn Try.prog 25) (hR : T 33 = some (.hook hkRead)) (hA : T 55 = some (.hook hkAt)) (hC : T 57 = some (.hook hkClone)) (hc : callable Try.prog 25 = true) : HookSound Try.prog 25 hkRange := by
  refine hookOf hm hT hc fun l h r he => ?_
  unfold hkRange at he
  split at he
  · rename_i s a b
    split at he
    · rename_i hs
      have c33 := fun k l h => evFn_hook (P := Try.prog) (T := T) (k := k) (f := 33) (args := l) (h := h) hR
      have c55 := fun k l h => evFn_hook (P := Try.prog) (T := T) (k := k) (f := 55) (args := l) (h := h) hA
      have c57 := fun k l h => evFn_hook (P := Try.prog) (T := T) (k := k) (f := 57) (args := l) (h := h) hC
      have hasc := readS_asc s
      have hlen := readS_len hs
      have hrow := rowOf_new h (readS s).1
      have hg := rowH_grows h (readS s).1
      by_cases hw : (readS s).2.2 = 0
      · split at he
        · rename_i hba
          cases he
          refine ⟨(.tp [.s (.slice none 0 0), .s (.int .i64 (readS s).2.2)], rowH h (readS s).1), ?_, Drops.flat hg rfl⟩
          apply FRun.of (e := .ret) (h25.trans p25)
          · apply Run.step 30; intro k j
            simp [c25, c33, hkRead, hs, eq_true hw, eq_true hba]
            (first | rfl | (constructor <;> rfl))
          · exact Or.inl rfl
          · rfl
        · rename_i hba
          cases he
          obtain ⟨r1, r2, r3⟩ := range_at hasc (show a ≤ b by omega)
          generalize hE : (readS s).1 = E at *
          have hlen' : E.length ≤ 4611686018427387903 := by omega
          by_cases hne : E = []
          · subst hne
            have e1 : rngA h.length [] (rangeF [] a b) = .s (.slice none 0 0) := rfl
            have e2 : rngH h [] (rangeF [] a b) = h := rfl
            rw [e1, e2]
            refine ⟨_, ?_, Drops.refl _ _⟩
            apply FRun.of (e := .ret) (h25.trans p25)
            · apply Run.step 30; intro k j
              simp [c25, c33, hkRead, hs, hE, eq_true hw, eq_false hba, rowN, rowH, c55, hkAt, rowOf, low, isAt, c57, hkClone, cpA, cpH]
              (first | rfl | (constructor <;> rfl))
            · exact Or.inl rfl
            · simp [resAs, resA, tupA, hw]
          · have e1 : rowN h.length E = .sl h.length 0 0 E.length 2 := if_neg hne
            have e2 : rowH h E = h ++ [⟨0, 52, 2, true, E.flatMap entC⟩] := if_neg hne
            rw [e1, e2] at hrow
            have hF : rangeF E a b = (E.drop (low E a)).take (hiOf E b - low E a) := r1
            have hFl : (rangeF E a b).length = hiOf E b - low E a := by rw [hF]; simp; omega
            have hFn : (rangeF E a b).length ≤ 65536 := by omega
            have q1 : (low E a : Int) ≤ hiOf E b := by omega
            have q2 : (hiOf E b : Int) ≤ E.length := by omega
            have hrow2 : rowOf (h ++ [⟨0, 52, 2, true, E.flatMap entC⟩]) (.sl h.length 0 (low E a * 2) (hiOf E b - low E a) 2) = some (rangeF E a b) := by
              have hl := entC_len E
              simp only [rowOf]
              rw [bk_new, rdK_s, if_pos ⟨rfl, by omega⟩]
              have hd : (E.flatMap entC).drop (low E a * 2) = (E.drop (low E a)).flatMap entC := by
                have := congrArg (List.flatMap entC) (List.take_append_drop (low E a) E)
                rw [List.flatMap_append] at this
                rw [← this, List.drop_left' (by rw [entC_len]; simp; omega)]
              have ht : ∀ (M : List (Int × ByteArray)) (n : Nat), n ≤ M.length → (M.flatMap entC).take (n * 2) = (M.take n).flatMap entC := fun M n hn => by
                have := congrArg (List.flatMap entC) (List.take_append_drop n M)
                rw [List.flatMap_append] at this
                rw [← this, List.take_left' (by rw [entC_len]; simp; omega)]
              rw [hd, ht _ _ (by simp; omega), ← hF, Option.bind_some]
              exact entsA_entC _
            have w3 : IntKind.i64.wrap ((low E b : Int) + 1) = (low E b : Int) + 1 := w64k (by unfold hiOf at r3; omega) (by unfold hiOf at r3; omega)
            have e3 : rngA h.length E (rangeF E a b) = .sl h.length 0 0 (rangeF E a b).length 2 := if_neg hne
            have e4 : rngH h E (rangeF E a b) = h ++ [⟨0, 52, 2, true, (rangeF E a b).flatMap entC⟩] := if_neg hne
            rw [e3, e4]
            obtain ⟨us, hu⟩ := flat_entC (rangeF E a b)
            refine ⟨(.tp [.sl (h.length + 1) 0 0 (rangeF E a b).length 2, .s (.int .i64 (readS s).2.2)], h ++ [⟨0, 52, 2, true, E.flatMap entC⟩] ++ [⟨0, 52, 2, true, (rangeF E a b).flatMap entC⟩]), ?_,
              Drops.fresh (k := ⟨0, 52, 2, true, (rangeF E a b).flatMap entC⟩) (us := us) (vs := [.int .i64 (readS s).2.2]) ((Grows.app _ _).app' _) (by omega) (by simp) hu rfl⟩
            rw [hw]
            generalize rangeF E a b = F at *
            cases hi : isAt E b with
            | true =>
              have eh : hiOf E b = low E b + 1 := by unfold hiOf; rw [hi]; rfl
              rw [eh] at q1 q2 hrow2
              have q1' : (low E a : Int) ≤ (low E b : Int) + 1 := by omega
              have q2' : (low E b : Int) + 1 ≤ E.length := by omega
              have q3 : ((low E b : Int) + 1).toNat = low E b + 1 := by omega
              apply FRun.of (e := .ret) (h25.trans p25)
              · apply Run.step 30; intro k j
                simp [c25, c33, hkRead, hs, hE, eq_true hw, eq_false hba, e1, e2, c55, hkAt, hrow, hasc, hlen', hi, w3, q1', q2', q3, c57, hkClone, hrow2, hFn, cpA, cpH]
                (first | rfl | (constructor <;> rfl))
              · exact Or.inl rfl
              · rfl
            | false =>
              have eh : hiOf E b = low E b := by unfold hiOf; rw [hi]; rfl
              rw [eh] at q1 q2 hrow2
              apply FRun.of (e := .ret) (h25.trans p25)
              · apply Run.step 30; intro k j
                simp [c25, c33, hkRead, hs, hE, eq_true hw, eq_false hba, e1, e2, c55, hkAt, hrow, hasc, hlen', hi, w3, q1, q2, c57, hkClone, hrow2, hFn, cpA, cpH]
                (first | rfl | (constructor <;> rfl))
              · exact Or.inl rfl
              · rfl
      · have hE := readS_err hw
        have e5 : r = (.tp [.s (.slice none 0 0), .s (.int .i64 (readS s).2.2)], h) := by
          split at he
          · cases he; rfl
          · rw [hE] at he; cases he; rfl
        subst e5
        refine ⟨_, ?_, Drops.refl _ _⟩
        apply FRun.of (e := .ret) (h25.trans p25)
        · apply Run.step 30; intro k j
          simp [c25, c33, hkRead, hs, hE, rowN, rowH, eq_false hw]
          (first | rfl | (constructor <;> rfl))
        · exact Or.inl rfl
        · rfl
    · cases he
  · cases he
end Go.Proofs.Ytpmoellbfgcefaa.AS
end
