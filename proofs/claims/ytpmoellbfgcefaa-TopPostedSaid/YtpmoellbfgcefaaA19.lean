/- Of our own: an abstract machine beside the model, its soundness, and walks of the program in it. -/
import Derived.Test.YtpmoellbfgcefaaA18
import Derived.Test.YtpmoellbfgcefaaA13
import Derived.Test.YtpmoellbfgcefaaA8
import Derived.Laws.StructEq
set_option linter.unusedSimpArgs false
set_option linter.unusedVariables false
section
set_option autoImplicit false
set_option maxRecDepth 100000
set_option maxHeartbeats 2000000
set_option linter.unusedSimpArgs false
namespace Go.Proofs.Ytpmoellbfgcefaa.AS
open Go Go.Proofs Go.RowKit Go.Proofs.Ytpmoellbfgcefaa.AS.V

structure InvE (h0 h' : Heap) (b2 : Nat) (K : List (Int × ByteArray)) : Prop where
  old : ∀ b, b < h0.length → bk h' b = bk h0 b
  len : h0.length ≤ h'.length
  out : K ≠ [] → h0.length ≤ b2 ∧ bk h' b2 = some ⟨K.length - 1, 52, 2, true, K.flatMap entC⟩
noncomputable def hkRangeR : List AV → Heap → Option (AV × Heap)
  | [.s (.string s), .s (.int .u64 a), .s (.int .u64 b)], h => if s.size ≤ 9223372036854775807 then some (.tp [rowN h.length (rangeF (readS s).1 a b), .s (.int .i64 (readS s).2.2)], rowH h (rangeF (readS s).1 a b)) else none
  | _, _ => none
def fr26 (s : ByteArray) (ka kb : Int) (a out : AV) (n j : Int) (a3 a4 a5 a6 a7 a8 a9 a10 a12 a13 a14 a15 a16 a17 a18 a19 a41 a42 : AV) : List AV := [.s (.string s), .s (.int .u64 ka), .s (.int .u64 kb), a3, a4, a5, a6, a7, a8, a9, a10, out, a12, a13, a14, a15, a16, a17, a18, a19, a, .s (.int .i64 n), .s (.int .i64 j)] ++ List.replicate 18 .any ++ [a41, a42]
noncomputable def tail26 : ACode := match c26 with
  | .seq _ (.seq _ t) => t
  | _ => .skip
noncomputable def body26 : ACode := match tail26 with
  | .seq _ (.seq (.seq _ (.block _ (.loop _ b))) _) => b
  | _ => .skip
noncomputable def fg26 : List Nat := match tail26 with
  | .seq _ (.seq (.seq _ (.block _ (.loop fg _))) _) => fg
  | _ => []
theorem k26_end {T : FuncId → Option AFunc} (s : ByteArray) (ka kb : Int) (a out : AV) (n j : Int) (hj : ¬ j < n) (h : Heap) (a3 a4 a5 a6 a7 a8 a9 a10 a12 a13 a14 a15 a16 a17 a18 a19 a41 a42 : AV) : Run Try.prog T body26 (fr26 s ka kb a out n j a3 a4 a5 a6 a7 a8 a9 a10 a12 a13 a14 a15 a16 a17 a18 a19 a41 a42) h (.exit 0, (fr26 s ka kb a out n j a3 a4 a5 a6 a7 a8 a9 a10 a12 a13 a14 a15 a16 a17 a18 a19 a41 a42).set 23 (.s (.bool false)), h) := by
  apply Run.step 30; intro k j
  simp [c26, tail26, body26, fr26, eq_false hj]
theorem k26_one {T : FuncId → Option AFunc} (s : ByteArray) (ka kb : Int) (h0 h' : Heap) (b v o n b2 : Nat) (E : List (Int × ByteArray)) (hE : rowOf h0 (.sl b v o n 2) = some E) (hn : n ≤ 65536) (K : List (Int × ByteArray)) (hKl : K.length ≤ 65536) (hI : InvE h0 h' b2 K) (j : Nat) (x : Int × ByteArray) (hx : E[j]? = some x) (a3 a4 a5 a6 a7 a8 a9 a10 a12 a13 a14 a15 a16 a17 a18 a19 a41 a42 : AV) :
    ∃ tm' H a13' b2', forget fg26 tm' = fr26 s ka kb (.sl b v o n 2) (rowE b2' (K ++ rangeF [x] ka kb)) n ((j : Int) + 1) a3 a4 a5 a6 a7 a8 a9 a10 a12 a13' a14 a15 a16 a17 a18 a19 a41 a42 ∧ InvE h0 H b2' (K ++ rangeF [x] ka kb) ∧ Run Try.prog T body26 (fr26 s ka kb (.sl b v o n 2) (rowE b2 K) n j a3 a4 a5 a6 a7 a8 a9 a10 a12 a13 a14 a15 a16 a17 a18 a19 a41 a42) h' (.normal, tm', H) := by
  obtain ⟨e, sz, rw, C, hb, hle, hC1, hl⟩ := rowOf_sl hE
  obtain ⟨hjE, hxe⟩ := List.getElem?_eq_some_iff.1 hx
  have hlen := hI.len
  have hb' := (hI.old b (bk_lt hb)).trans hb
  have hrow := row_at (i := j) hC1 hl (by omega)
  rw [hxe] at hrow
  have hle2 : o + j * 2 + 2 ≤ C.length := by omega
  have hjn : (j : Int) < (n : Int) := by omega
  have w3 : IntKind.i64.wrap ((j : Int) + 1) = (j : Int) + 1 := w64k (by omega) (by omega)
  have hob : ∀ b, b < h0.length → b < h'.length := fun b hb => by omega
  have skip : ∀ (H : Heap) (tm' : List AV) (a13' : AV), (H = h' ++ [⟨0, 52, 2, true, [.s (.int .u64 x.1), .s (.string x.2)]⟩]) → rangeF [x] ka kb = [] → InvE h0 H b2 (K ++ rangeF [x] ka kb) := fun H tm' a13' e1 e2 => by
    subst e1
    rw [e2, List.append_nil]
    refine ⟨fun b hb => ?_, by simp; omega, fun hK => ⟨(hI.out hK).1, ?_⟩⟩
    · simp [hob b hb, hI.old b hb]
    · have := (hI.out hK).2
      rw [bk_app (bk_lt this), this]
  by_cases h1 : ka ≤ x.1
  · by_cases h2 : x.1 ≤ kb
    · have eR : rangeF [x] ka kb = [x] := by unfold rangeF; simp [h1, h2]
      rw [eR]
      cases K with
      | nil =>
        have e2 : rowE (h'.length + 2) ([] ++ [x]) = .sl (h'.length + 2) 0 0 1 2 := rfl
        refine ⟨?q1, ?q2, ?q3, h'.length + 2, ?q4, ?q5, Run.step 40 fun k j => ?q6⟩
        case q6 =>
          simp [c26, tail26, body26, fr26, rowE, hjn, hb', hrow, hle2, oneOr, cellsOf, isCell, fillA, apV_nil, eq_true h1, eq_true h2, w3]
          (first | rfl | (constructor <;> rfl))
        case q4 =>
          rw [e2]
          simp [forget, fg26, tail26, c26, fr26]
          rfl
        case q5 =>
          refine ⟨fun b hb => ?_, ?_, fun _ => ⟨?_, ?_⟩⟩
          · simp [hob b hb, hI.old b hb]
          · simp; omega
          · omega
          · simp [entC]
      | cons y K =>
        obtain ⟨o1, o2⟩ := hI.out (by simp)
        simp only [List.length_cons, Nat.add_sub_cancel] at o2 hKl
        have hlo := bk_lt o2
        have n1 : b2 ≠ h'.length := by omega
        have n2 : b2 ≠ h'.length + 1 := by omega
        have b1 : (K.length + 1 + 1) * 24 ≤ 140737488355328 := by omega
        have b3 : K.length + 1 + 1 ≤ 9223372036854775807 := by omega
        have hDl : ((y :: K).flatMap entC).length = (K.length + 1) * 2 := by rw [entC_len]; simp
        have hall : ((y :: K).flatMap entC).take ((K.length + 1) * 2) = (y :: K).flatMap entC := List.take_of_length_le (by omega)
        have hle3 : (K.length + 1) * 2 ≤ ((y :: K).flatMap entC).length := by omega
        have e1 : rowE b2 (y :: K) = .sl b2 K.length 0 (K.length + 1) 2 := rfl
        have e2 : rowE b2 (y :: K ++ [x]) = .sl b2 (K.length + 1) 0 (K.length + 1 + 1) 2 := by simp [rowE]
        have e4 : (y :: K ++ [x]).flatMap entC = (y :: K).flatMap entC ++ [.s (.int .u64 x.1), .s (.string x.2)] := by simp [entC]
        have e5 : (y :: K ++ [x]).length - 1 = K.length + 1 := by simp
        generalize (y :: K).flatMap entC = D at *
        rw [e1]
        refine ⟨?r1, ?r2, ?r3, b2, ?r4, ?r5, Run.step 40 fun k j => ?r6⟩
        case r6 =>
          simp [c26, tail26, body26, fr26, hjn, hb', hrow, hle2, oneOr, cellsOf, isCell, fillA, apK_s, o2, hlo, n1, n2, b1, b3, hall, hle3, w3, eq_true h1, eq_true h2]
          (first | rfl | (constructor <;> rfl))
        case r4 =>
          rw [e2]
          simp [forget, fg26, tail26, c26, fr26]
          rfl
        case r5 =>
          refine ⟨fun b hb => ?_, ?_, fun _ => ⟨?_, ?_⟩⟩
          · have h4 : b2 ≠ b := by omega
            simp [hob b hb, h4, hI.old b hb]
          · simp; omega
          · omega
          · rw [e4, e5]
            simp [hlo]
    · have eR : rangeF [x] ka kb = [] := by unfold rangeF; simp [h2]
      refine ⟨?s1, _, ?s3, b2, ?s4, skip _ [] .any rfl eR, Run.step 40 fun k j => ?s6⟩
      case s6 =>
        simp [c26, tail26, body26, fr26, hjn, hb', hrow, hle2, oneOr, cellsOf, isCell, w3, eq_true h1, eq_false h2]
        (first | rfl | (constructor <;> rfl))
      case s4 =>
        rw [eR, List.append_nil]
        simp [forget, fg26, tail26, c26, fr26]
        rfl
  · have eR : rangeF [x] ka kb = [] := by unfold rangeF; simp [h1]
    refine ⟨?t1, _, ?t3, b2, ?t4, skip _ [] .any rfl eR, Run.step 40 fun k j => ?t6⟩
    case t6 =>
      simp [c26, tail26, body26, fr26, hjn, hb', hrow, hle2, oneOr, cellsOf, isCell, w3, eq_false h1]
      (first | rfl | (constructor <;> rfl))
    case t4 =>
      rw [eR, List.append_nil]
      simp [forget, fg26, tail26, c26, fr26]
      rfl
theorem k26_loop {T : FuncId → Option AFunc} (s : ByteArray) (ka kb : Int) (h0 : Heap) (b v o n : Nat) (E : List (Int × ByteArray)) (hE : rowOf h0 (.sl b v o n 2) = some E) (hn : n ≤ 65536) : ∀ (d j : Nat) (h' : Heap) (b2 : Nat) (K : List (Int × ByteArray)), j + d = n → K.length ≤ j → InvE h0 h' b2 K → ∀ (a3 a4 a5 a6 a7 a8 a9 a10 a12 a13 a14 a15 a16 a17 a18 a19 a41 a42 : AV),
    ∃ a13' b2' H, InvE h0 H b2' (K ++ rangeF (E.drop j) ka kb) ∧ Run Try.prog T (.loop fg26 body26) (fr26 s ka kb (.sl b v o n 2) (rowE b2 K) n j a3 a4 a5 a6 a7 a8 a9 a10 a12 a13 a14 a15 a16 a17 a18 a19 a41 a42) h' (.exit 0, (fr26 s ka kb (.sl b v o n 2) (rowE b2' (K ++ rangeF (E.drop j) ka kb)) n n a3 a4 a5 a6 a7 a8 a9 a10 a12 a13' a14 a15 a16 a17 a18 a19 a41 a42).set 23 (.s (.bool false)), H) := by
  have hl : E.length = n := (rowOf_sl hE).choose_spec.choose_spec.choose_spec.choose_spec.2.2.2
  have hfg : ∀ (a out : AV) (n j : Int) (a3 a4 a5 a6 a7 a8 a9 a10 a12 a13 a14 a15 a16 a17 a18 a19 a41 a42 : AV), forget fg26 (fr26 s ka kb a out n j a3 a4 a5 a6 a7 a8 a9 a10 a12 a13 a14 a15 a16 a17 a18 a19 a41 a42) = fr26 s ka kb a out n j a3 a4 a5 a6 a7 a8 a9 a10 a12 a13 a14 a15 a16 a17 a18 a19 a41 a42 := fun a out n j a3 a4 a5 a6 a7 a8 a9 a10 a12 a13 a14 a15 a16 a17 a18 a19 a41 a42 => by simp [forget, fg26, tail26, c26, fr26]
  intro d
  induction d with
  | zero =>
    intro j h' b2 K hd hK hI a3 a4 a5 a6 a7 a8 a9 a10 a12 a13 a14 a15 a16 a17 a18 a19 a41 a42
    rw [List.drop_eq_nil_of_le (by omega)]
    have e : rangeF [] ka kb = [] := rfl
    rw [e, List.append_nil]
    obtain rfl : j = n := by omega
    exact ⟨a13, b2, h', hI, Run.loop_end_f (hfg _ _ _ _ a3 a4 a5 a6 a7 a8 a9 a10 a12 a13 a14 a15 a16 a17 a18 a19 a41 a42) (by simp) (k26_end (T := T) s ka kb (.sl b v o j 2) (rowE b2 K) j j (by omega) h' a3 a4 a5 a6 a7 a8 a9 a10 a12 a13 a14 a15 a16 a17 a18 a19 a41 a42)⟩
  | succ d ih =>
    intro j h' b2 K hd hK hI a3 a4 a5 a6 a7 a8 a9 a10 a12 a13 a14 a15 a16 a17 a18 a19 a41 a42
    obtain ⟨x, hx⟩ : ∃ x, E[j]? = some x := ⟨_, List.getElem?_eq_getElem (by omega)⟩
    obtain ⟨hlt, hx2⟩ := List.getElem?_eq_some_iff.1 hx
    have e : rangeF (E.drop j) ka kb = rangeF [x] ka kb ++ rangeF (E.drop (j + 1)) ka kb := by
      rw [List.drop_eq_getElem_cons hlt, hx2]
      unfold rangeF
      rw [← List.filter_append]; rfl
    obtain ⟨tm1, H1, a13', b2', x1, x2, x3⟩ := k26_one (T := T) s ka kb h0 h' b v o n b2 E hE hn K (by omega) hI j x hx a3 a4 a5 a6 a7 a8 a9 a10 a12 a13 a14 a15 a16 a17 a18 a19 a41 a42
    have hr1 : (rangeF [x] ka kb).length ≤ 1 := List.length_filter_le _ _
    obtain ⟨a13'', b3, H, y1, y2⟩ := ih (j + 1) H1 b2' (K ++ rangeF [x] ka kb) (by omega) (by rw [List.length_append]; omega) x2 a3 a4 a5 a6 a7 a8 a9 a10 a12 a13' a14 a15 a16 a17 a18 a19 a41 a42
    rw [List.append_assoc, ← e] at y1 y2
    exact ⟨a13'', b3, H, y1, Run.loop_go (hfg _ _ _ _ a3 a4 a5 a6 a7 a8 a9 a10 a12 a13 a14 a15 a16 a17 a18 a19 a41 a42) x3 x1 y2⟩
theorem hkRangeR_ok {T : FuncId → Option AFunc} (hm : Try.prog.follows .mixedOrders = true) (hT : TabOK Try.prog T) (hF : T 26 = prepFn Try.prog 26) (hR : T 56 = some (.hook hkRead)) (hc : callable Try.prog 26 = true) : HookSound Try.prog 26 hkRangeR := by
  refine hookOf hm hT hc fun l h r he => ?_
  unfold hkRangeR at he
  split at he
  · rename_i s ka kb
    split at he
    · rename_i hs
      cases he
      have cR := fun k l h => evFn_hook (P := Try.prog) (T := T) (k := k) (f := 56) (args := l) (h := h) hR
      have hlen := readS_len hs
      have hrow := rowOf_new h (readS s).1
      have hpre : ∀ {r : Res}, Run Try.prog T tail26 ([.s (.string s), .s (.int .u64 ka), .s (.int .u64 kb), .s undef, .s undef, .s undef, .s (.slice none 0 0), .s (.int .i64 0), rowN h.length (readS s).1, .s (.string (readS s).2.1), .s (.int .i64 (readS s).2.2), .s undef, .s undef, .s undef, .tp [rowN h.length (readS s).1, .s (.string (readS s).2.1), .s (.int .i64 (readS s).2.2)], .s (.string s), .tp [rowN h.length (readS s).1, .s (.string (readS s).2.1), .s (.int .i64 (readS s).2.2)], rowN h.length (readS s).1, .s (.string (readS s).2.1), .s (.int .i64 (readS s).2.2)] ++ List.replicate 23 (.s undef)) (rowH h (readS s).1) r → Run Try.prog T c26 ([.s (.string s), .s (.int .u64 ka), .s (.int .u64 kb)] ++ List.replicate 40 (.s undef)) h r := fun {r} H => by
        apply Run.seq
        · apply Run.step 20; intro k j
          simp
          (first | rfl | (constructor <;> rfl))
        · apply Run.seq
          · apply Run.step 20; intro k j
            simp [cR, hkRead, hs]
            (first | rfl | (constructor <;> rfl))
          · exact H
      generalize hE : (readS s).1 = E at *
      by_cases hne : E = []
      · subst hne
        have t2 := k26_end (T := T) s ka kb (.s (.slice none 0 0)) (.s (.slice none 0 0)) 0 0 (by omega) h (.s undef) (.s undef) (.s undef) (.s (.slice none 0 0)) (.s (.int .i64 0)) (.s (.slice none 0 0)) (.s (.string (readS s).2.1)) (.s (.int .i64 (readS s).2.2)) (.s undef) (.s undef) (.tp [(.s (.slice none 0 0)), .s (.string (readS s).2.1), .s (.int .i64 (readS s).2.2)]) (.s (.string s)) (.tp [(.s (.slice none 0 0)), .s (.string (readS s).2.1), .s (.int .i64 (readS s).2.2)]) (.s (.slice none 0 0)) (.s (.string (readS s).2.1)) (.s (.int .i64 (readS s).2.2)) (.s undef) (.s undef)
        refine ⟨(.tp [.s (.slice none 0 0), .s (.int .i64 (readS s).2.2)], h), ?_, Drops.refl _ _⟩
        apply FRun.of (e := .ret) (hF.trans p26)
        · apply hpre
          apply Run.seq
          · apply Run.step 20; intro k j
            simp [rowN]
            (first | rfl | (constructor <;> rfl))
          · apply Run.seq
            · apply Run.seq
              · apply Run.step 20; intro k j
                simp
                (first | rfl | (constructor <;> rfl))
              · apply Run.block_exit
                refine Run.loop_end_f ?_ (by simp) t2
                simp [forget, fg26, tail26, c26, fr26]
            · apply Run.step 20; intro k j
              simp [fr26]
              (first | rfl | (constructor <;> rfl))
        · exact Or.inl rfl
        · rfl
      · have e1 : rowN h.length E = .sl h.length 0 0 E.length 2 := if_neg hne
        rw [e1] at hrow hpre
        obtain ⟨a13', b2', H, y1, y2⟩ := k26_loop (T := T) s ka kb (rowH h E) h.length 0 0 E.length E hrow hlen E.length 0 (rowH h E) 0 [] (by omega) (by simp) ⟨fun _ _ => rfl, Nat.le_refl _, fun h => absurd rfl h⟩ (.s undef) (.s undef) (.s undef) (.s (.slice none 0 0)) (.s (.int .i64 0)) (.sl h.length 0 0 E.length 2) (.s (.string (readS s).2.1)) (.s (.int .i64 (readS s).2.2)) (.s undef) (.s undef) (.tp [(.sl h.length 0 0 E.length 2), .s (.string (readS s).2.1), .s (.int .i64 (readS s).2.2)]) (.s (.string s)) (.tp [(.sl h.length 0 0 E.length 2), .s (.string (readS s).2.1), .s (.int .i64 (readS s).2.2)]) (.sl h.length 0 0 E.length 2) (.s (.string (readS s).2.1)) (.s (.int .i64 (readS s).2.2)) (.s undef) (.s undef)
        rw [List.drop_zero, List.nil_append] at y1 y2
        have hg := rowH_grows h E
        have hgl := hg.len
        refine ⟨(.tp [rowE b2' (rangeF E ka kb), .s (.int .i64 (readS s).2.2)], H), ?_, row_drop (us := [.int .i64 (readS s).2.2]) rfl (fun b hb => (y1.old b (by omega)).trans (hg b hb)) (fun hK => ⟨by have := (y1.out hK).1; omega, (y1.out hK).2⟩)⟩
        apply FRun.of (e := .ret) (hF.trans p26)
        · apply hpre
          apply Run.seq
          · apply Run.step 20; intro k j
            simp
            (first | rfl | (constructor <;> rfl))
          · apply Run.seq
            · apply Run.seq
              · apply Run.step 20; intro k j
                simp
                (first | rfl | (constructor <;> rfl))
              · apply Run.block_exit
                apply Run.loop_go' y2
                simp [forget, fg26, tail26, c26, fr26, rowE]
            · apply Run.step 20; intro k j
              simp [fr26]
              (first | rfl | (constructor <;> rfl))
        · exact Or.inl rfl
        · rfl
    · cases he
  · cases he
end Go.Proofs.Ytpmoellbfgcefaa.AS
end
section
set_option autoImplicit false
set_option maxRecDepth 100000
set_option maxHeartbeats 1000000
namespace Go.Proofs.Ytpmoellbfgcefaa.AS
open Go Go.Proofs Go.RowKit
theorem eqIn_int (P : Program) (d : Nat) (t : TypeId) (k : IntKind) (a b : Int) (h : P.underlying t = some (.int k)) : semv P (Op.equalIn (d + 1) t (.int k a) (.int k b)) = some (a == b) := by
  simp [Op.equalIn, semv_bind, semv_pure, underlying, program, semv, h]
theorem eqIn_str (P : Program) (d : Nat) (t : TypeId) (a b : ByteArray) (h : P.underlying t = some .string) : semv P (Op.equalIn (d + 1) t (.string a) (.string b)) = some (a.toList == b.toList) := by
  simp [Op.equalIn, semv_bind, semv_pure, underlying, program, semv, h]
  exact beq_toListBytes a b
theorem neq_ent (x y : Operand) (k k' : Int) (d d' : ByteArray) :
    bin2 Try.prog .neq 52 x y (some (.ag [.s (.int .u64 k), .s (.string d)])) (some (.ag [.s (.int .u64 k'), .s (.string d')])) = some (.s (.bool (!(k == k' && d.toList == d'.toList)))) := by
  have hg : Try.prog.eqGuardType Try.prog.depth 52 = false := by kernel_rfl
  have hs : Try.prog.stoodInHeld 52 = false := by kernel_rfl
  have e1 := fun d => eqIn_int Try.prog d 35 .u64 k k' Try.underlying35
  have e2 := fun dd => eqIn_str Try.prog dd 9 d d' Try.underlying9
  simp [bin2, toV, toVs, eqGuard, binOp, Op.equal, Op.maxDepth, semv_bind, semv_pure, program, semv, hg]
  rw [show (10000 : Nat) = 9999 + 1 from rfl, Op.equalIn]
  simp [semv_bind, semv_pure, program, semv, underlying, Try.underlying52, hs]
  have p1 : ∀ (k : Int) (d : ByteArray), semv Try.prog (part 35 #[Value.int IntKind.u64 k, Value.string d] 0) = some (Value.int IntKind.u64 k) := fun k d => by kernel_rfl
  have p2 : ∀ (k : Int) (d : ByteArray), semv Try.prog (part 9 #[Value.int IntKind.u64 k, Value.string d] 1) = some (Value.string d) := fun k d => by kernel_rfl
  rw [p1, p1]
  simp only [Option.bind_some]
  rw [e1 9998]
  simp only [Option.bind_some]
  cases hk : (k == k') with
  | false =>
    simp [semv_bind, semv_pure]
  | true =>
    simp [semv_bind, semv_pure]
    rw [p2, p2]
    simp only [Option.bind_some]
    rw [e2 9998]
    simp only [Option.bind_some]
    cases hd : (d.toList == d'.toList) <;> simp_all [semv_bind, semv_pure]
end Go.Proofs.Ytpmoellbfgcefaa.AS
end
section
set_option autoImplicit false
set_option maxRecDepth 100000
set_option maxHeartbeats 2000000
set_option linter.unusedSimpArgs false
namespace Go.Proofs.Ytpmoellbfgcefaa.AS
open Go Go.Proofs Go.RowKit Go.Proofs.Ytpmoellbfgcefaa.AS.V

def fr30 (a b : AV) (n j : Int) (a2 a3 a5 a6 a7 a8 a9 a10 : AV) : List AV := [a, b, a2, a3, .any, a5, a6, a7, a8, a9, a10, a, .s (.int .i64 n), .s (.int .i64 j)] ++ List.replicate 12 .any
noncomputable def tail30 : ACode := match c30 with
  | .seq _ (.seq _ t) => t
  | _ => .skip
noncomputable def body30 : ACode := match tail30 with
  | .seq (.seq _ (.block _ (.loop _ b))) _ => b
  | _ => .skip
noncomputable def fg30 : List Nat := match tail30 with
  | .seq (.seq _ (.block _ (.loop fg _))) _ => fg
  | _ => []
theorem s30_end {T : FuncId → Option AFunc} (a b : AV) (n j : Int) (hj : ¬ j < n) (h : Heap) (a2 a3 a5 a6 a7 a8 a9 a10 : AV) : Run Try.prog T body30 (fr30 a b n j a2 a3 a5 a6 a7 a8 a9 a10) h (.exit 0, (fr30 a b n j a2 a3 a5 a6 a7 a8 a9 a10).set 14 (.s (.bool false)), h) := by
  apply Run.step 30; intro k j
  simp [c30, tail30, body30, fr30, eq_false hj]
theorem s30_one {T : FuncId → Option AFunc} (h : Heap) (b1 v1 o1 b2 v2 o2 n : Nat) (A B : List (Int × ByteArray)) (hA : rowOf h (.sl b1 v1 o1 n 2) = some A) (hB : rowOf h (.sl b2 v2 o2 n 2) = some B) (hn : n ≤ 4611686018427387903) (j : Nat) (x y : Int × ByteArray) (hx : A[j]? = some x) (hy : B[j]? = some y) (a2 a3 a5 a6 a7 a8 a9 a10 : AV) :
    (x = y → ∃ tm' a5', forget fg30 tm' = fr30 (.sl b1 v1 o1 n 2) (.sl b2 v2 o2 n 2) n ((j : Int) + 1) a2 a3 a5' a6 a7 a8 a9 a10 ∧ Run Try.prog T body30 (fr30 (.sl b1 v1 o1 n 2) (.sl b2 v2 o2 n 2) n j a2 a3 a5 a6 a7 a8 a9 a10) h (.normal, tm', h)) ∧
    (x ≠ y → ∃ tm', tm'[4]? = some (.s (.bool false)) ∧ Run Try.prog T body30 (fr30 (.sl b1 v1 o1 n 2) (.sl b2 v2 o2 n 2) n j a2 a3 a5 a6 a7 a8 a9 a10) h (.ret, tm', h)) := by
  obtain ⟨e1, s1, w1, C1, hb1, hl1, hC1, hn1⟩ := rowOf_sl hA
  obtain ⟨e2, s2, w2, C2, hb2, hl2, hC2, hn2⟩ := rowOf_sl hB
  have hjn' : j < n := by have := (List.getElem?_eq_some_iff.1 hx).1; omega
  have hr1 := row_at (i := j) hC1 hn1 (by omega)
  rw [(List.getElem?_eq_some_iff.1 hx).2] at hr1
  have hr2 := row_at (i := j) hC2 hn2 (by omega)
  rw [(List.getElem?_eq_some_iff.1 hy).2] at hr2

  have hle1 : o1 + j * 2 + 2 ≤ C1.length := by omega
  have hle2 : o2 + j * 2 + 2 ≤ C2.length := by omega
  have hjn : (j : Int) < (n : Int) := by omega
  have w3 : IntKind.i64.wrap ((j : Int) + 1) = (j : Int) + 1 := w64k (by omega) (by omega)
  refine ⟨fun hxy => ?_, fun hxy => ?_⟩
  · subst hxy
    refine ⟨?q1, ?q2, ?q3, Run.step 40 fun k j => ?q4⟩
    case q4 =>
      simp [c30, tail30, body30, fr30, hjn, hb1, hb2, hr1, hr2, hle1, hle2, oneOr, w3, neq_ent]
      (first | rfl | (constructor <;> rfl))
    case q3 =>
      simp [forget, fg30, tail30, c30, fr30]
      rfl
  · have hne : (!(x.1 == y.1 && x.2.toList == y.2.toList)) = true := by
      rw [Bool.not_eq_true', Bool.and_eq_false_iff]
      by_cases h1 : x.1 = y.1
      · right
        simp only [beq_eq_false_iff_ne, ne_eq]
        intro h2
        exact hxy (Prod.ext h1 (V.toList_inj h2))
      · left; simp [h1]
    refine ⟨?r1, ?r2, Run.step 40 fun k j => ?r3⟩
    case r3 =>
      simp [c30, tail30, body30, fr30, hjn, hb1, hb2, hr1, hr2, hle1, hle2, oneOr, w3, neq_ent, -Bool.not_and, hne]
      (first | rfl | (constructor <;> rfl))
    case r2 => rfl
theorem s30_loop {T : FuncId → Option AFunc} (h : Heap) (b1 v1 o1 b2 v2 o2 n : Nat) (A B : List (Int × ByteArray)) (hA : rowOf h (.sl b1 v1 o1 n 2) = some A) (hB : rowOf h (.sl b2 v2 o2 n 2) = some B) (hn : n ≤ 4611686018427387903) : ∀ (d j : Nat), j + d = n → ∀ (a2 a3 a5 a6 a7 a8 a9 a10 : AV),
    (A.drop j = B.drop j → ∃ a5', Run Try.prog T (.loop fg30 body30) (fr30 (.sl b1 v1 o1 n 2) (.sl b2 v2 o2 n 2) n j a2 a3 a5 a6 a7 a8 a9 a10) h (.exit 0, (fr30 (.sl b1 v1 o1 n 2) (.sl b2 v2 o2 n 2) n n a2 a3 a5' a6 a7 a8 a9 a10).set 14 (.s (.bool false)), h)) ∧
    (A.drop j ≠ B.drop j → ∃ tm', tm'[4]? = some (.s (.bool false)) ∧ Run Try.prog T (.loop fg30 body30) (fr30 (.sl b1 v1 o1 n 2) (.sl b2 v2 o2 n 2) n j a2 a3 a5 a6 a7 a8 a9 a10) h (.ret, tm', h)) := by
  have hn1 : A.length = n := (rowOf_sl hA).choose_spec.choose_spec.choose_spec.choose_spec.2.2.2
  have hn2 : B.length = n := (rowOf_sl hB).choose_spec.choose_spec.choose_spec.choose_spec.2.2.2
  have hfg : ∀ (a b : AV) (n j : Int) (a2 a3 a5 a6 a7 a8 a9 a10 : AV), forget fg30 (fr30 a b n j a2 a3 a5 a6 a7 a8 a9 a10) = fr30 a b n j a2 a3 a5 a6 a7 a8 a9 a10 := fun a b n j a2 a3 a5 a6 a7 a8 a9 a10 => by simp [forget, fg30, tail30, c30, fr30]
  intro d
  induction d with
  | zero =>
    intro j hd a2 a3 a5 a6 a7 a8 a9 a10
    obtain rfl : j = n := by omega
    rw [List.drop_eq_nil_of_le (by omega), List.drop_eq_nil_of_le (by omega)]
    exact ⟨fun _ => ⟨a5, Run.loop_end_f (hfg _ _ _ _ a2 a3 a5 a6 a7 a8 a9 a10) (by simp) (s30_end (T := T) _ _ j j (by omega) h a2 a3 a5 a6 a7 a8 a9 a10)⟩, fun h => absurd rfl h⟩
  | succ d ih =>
    intro j hd a2 a3 a5 a6 a7 a8 a9 a10
    have hj1 : j < A.length := by omega
    have hj2 : j < B.length := by omega
    obtain ⟨k1, k2⟩ := s30_one (T := T) h b1 v1 o1 b2 v2 o2 n A B hA hB hn j A[j] B[j] (List.getElem?_eq_getElem hj1) (List.getElem?_eq_getElem hj2) a2 a3 a5 a6 a7 a8 a9 a10
    rw [List.drop_eq_getElem_cons hj1, List.drop_eq_getElem_cons hj2]
    by_cases hxy : A[j] = B[j]
    · obtain ⟨tm', a5', x1, x2⟩ := k1 hxy
      obtain ⟨i1, i2⟩ := ih (j + 1) (by omega) a2 a3 a5' a6 a7 a8 a9 a10
      refine ⟨fun he => ?_, fun he => ?_⟩
      · obtain ⟨z, y⟩ := i1 (List.cons.inj he).2
        exact ⟨z, Run.loop_go (hfg _ _ _ _ a2 a3 a5 a6 a7 a8 a9 a10) x2 x1 y⟩
      · obtain ⟨tm2, y1, y2⟩ := i2 (fun h => he (by rw [hxy, h]))
        exact ⟨tm2, y1, Run.loop_go (hfg _ _ _ _ a2 a3 a5 a6 a7 a8 a9 a10) x2 x1 y2⟩
    · refine ⟨fun he => absurd (List.cons.inj he).1 hxy, fun _ => ?_⟩
      obtain ⟨tm', x1, x2⟩ := k2 hxy
      exact ⟨tm', x1, Run.loop_end_f (hfg _ _ _ _ a2 a3 a5 a6 a7 a8 a9 a10) (by simp) x2⟩
noncomputable def hkSame30 : List AV → Heap → Option (AV × Heap)
  | [a, b], h => match rowOf h a, rowOf h b with
    | some A, some B => if A.length ≤ 4611686018427387903 then some (.s (.bool (decide (A = B))), h) else none
    | _, _ => none
  | _, _ => none
theorem s30_len {h : Heap} {a : AV} {A : List (Int × ByteArray)} (hA : rowOf h a = some A) : lenA (some a) = some (.s (.int .i64 A.length)) := by
  unfold rowOf at hA
  split at hA
  · cases hA; rfl
  · rename_i b v o n
    have hA : rowOf h (.sl b v o n 2) = some A := hA
    have hl := (rowOf_sl hA).choose_spec.choose_spec.choose_spec.choose_spec.2.2.2
    rw [hl]; rfl
  · cases hA
theorem hkSame30_ok {T : FuncId → Option AFunc} (hm : Try.prog.follows .mixedOrders = true) (hT : TabOK Try.prog T) (hF : T 30 = prepFn Try.prog 30) (hc : callable Try.prog 30 = true) : HookSound Try.prog 30 hkSame30 := by
  refine hookOf hm hT hc fun l h r he => ?_
  unfold hkSame30 at he
  split at he
  · rename_i a b
    split at he
    · rename_i A B hA hB
      split at he
      · rename_i hn
        cases he
        refine ⟨_, ?_, Drops.refl _ _⟩
        have la := s30_len hA
        have lb := s30_len hB
        by_cases hl : (A.length : Int) = B.length
        · have hpre : ∀ {r : Res}, Run Try.prog T (.seq (match tail30 with | .seq (.seq _ b) _ => b | _ => .skip) (match tail30 with | .seq _ t => t | _ => .skip)) ([a, b, .s undef, .s undef, .s (.bool false), .s undef, a, .s (.int .i64 A.length), b, .s (.int .i64 B.length), .s (.bool false), a, .s (.int .i64 A.length), .s (.int .i64 0)] ++ List.replicate 12 (.s undef)) h r → Run Try.prog T c30 ([a, b] ++ List.replicate 24 (.s undef)) h r := fun {r} H => by
            apply Run.seq
            · apply Run.step 20; intro k j
              simp
              (first | rfl | (constructor <;> rfl))
            · apply Run.seq
              · apply Run.step 20; intro k j
                simp [la, lb, hl]
                (first | rfl | (constructor <;> rfl))
              · apply Run.seq_seq ?_ H
                apply Run.step 20; intro k j
                simp [la, hl]
          by_cases hz : A.length = 0
          · have eA : A = [] := List.length_eq_zero_iff.1 hz
            have eB : B = [] := List.length_eq_zero_iff.1 (by omega)
            subst eA; subst eB
            have t2 := s30_end (T := T) a b 0 0 (by omega) h (.s undef) (.s undef) (.s undef) a (.s (.int .i64 0)) b (.s (.int .i64 0)) (.s (.bool false))
            apply FRun.of (e := .ret) (hF.trans p30)
            · apply hpre
              apply Run.seq
              · apply Run.block_exit
                refine Run.loop_end_f ?_ (by simp) t2
                simp [forget, fg30, tail30, c30, fr30]
              · apply Run.step 20; intro k j
                simp [fr30, tail30, c30]
                (first | rfl | (constructor <;> rfl))
            · exact Or.inl rfl
            · simp [resAs, resA, tupA]
          · unfold rowOf at hA hB
            split at hA
            · cases hA; simp at hz
            · rename_i b1 v1 o1 n
              split at hB
              · cases hB; simp at hl; simp [hl] at hz
              · rename_i b2 v2 o2 n2
                have hA : rowOf h (.sl b1 v1 o1 n 2) = some A := hA
                have hB : rowOf h (.sl b2 v2 o2 n2 2) = some B := hB
                have q1 := (rowOf_sl hA).choose_spec.choose_spec.choose_spec.choose_spec.2.2.2
                have q2 := (rowOf_sl hB).choose_spec.choose_spec.choose_spec.choose_spec.2.2.2
                obtain rfl : n = n2 := by omega
                rw [q1, q2] at hpre
                obtain ⟨i1, i2⟩ := s30_loop (T := T) h b1 v1 o1 b2 v2 o2 n A B hA hB (by omega) n 0 (by omega) (.s undef) (.s undef) (.s undef) (.sl b1 v1 o1 n 2) (.s (.int .i64 n)) (.sl b2 v2 o2 n 2) (.s (.int .i64 n)) (.s (.bool false))
                rw [List.drop_zero, List.drop_zero] at i1 i2
                by_cases hAB : A = B
                · rw [decide_eq_true hAB]
                  obtain ⟨a5', hr⟩ := i1 hAB
                  apply FRun.of (e := .ret) (hF.trans p30)
                  · apply hpre
                    apply Run.seq
                    · apply Run.block_exit
                      apply Run.loop_go' hr
                      simp [forget, fg30, tail30, c30, fr30]
                    · apply Run.step 20; intro k j
                      simp [fr30, tail30, c30]
                      (first | rfl | (constructor <;> rfl))
                  · exact Or.inl rfl
                  · rfl
                · rw [decide_eq_false hAB]
                  obtain ⟨tm', t1, hr⟩ := i2 hAB
                  apply FRun.of (e := .ret) (tm' := tm') (hF.trans p30)
                  · apply hpre
                    apply Run.seq_stop (by simp)
                    apply Run.block_id (by simp)
                    apply Run.loop_go' hr
                    simp [forget, fg30, tail30, c30, fr30]
                  · exact Or.inl rfl
                  · simp [resAs, resA, tupA, t1]
              · cases hB
            · cases hA
        · have hAB : ¬ A = B := fun h => hl (by rw [h])
          rw [decide_eq_false hAB]
          apply FRun.of (e := .ret) (hF.trans p30)
          · apply Run.step 20; intro k j
            simp [c30, la, lb, eq_false hl]
            (first | rfl | (constructor <;> rfl))
          · exact Or.inl rfl
          · rfl
      · cases he
    · cases he
  · cases he
end Go.Proofs.Ytpmoellbfgcefaa.AS
end
section
set_option autoImplicit false
set_option maxRecDepth 100000
set_option maxHeartbeats 2000000
set_option linter.unusedSimpArgs false
namespace Go.Proofs.Ytpmoellbfgcefaa.AS
open Go Go.Proofs Go.RowKit Go.Proofs.Ytpmoellbfgcefaa.AS.V

def intsA : List AV → Option (List Int)
  | [] => some []
  | .s (.int .u64 k) :: l => (intsA l).map (k :: ·)
  | _ => none
theorem intsA_U : ∀ K : List Int, intsA (K.map cellU) = some K
  | [] => rfl
  | x :: K => by
    have := intsA_U K
    have e : (x :: K).map cellU = .s (.int .u64 x) :: K.map cellU := rfl
    rw [e]
    simp only [intsA]
    rw [this]; rfl
theorem intsA_inv : ∀ (l : List AV) (K : List Int), intsA l = some K → l = K.map cellU
  | [], K, h => by simp [intsA] at h; subst h; rfl
  | x :: l, K, h => by
    unfold intsA at h
    split at h
    · simp_all
    · rename_i k l' heq
      simp only [List.cons.injEq] at heq
      obtain ⟨rfl, rfl⟩ := heq
      simp only [Option.map_eq_some_iff] at h
      obtain ⟨E', h1, rfl⟩ := h
      rw [intsA_inv l E' h1]; rfl
    · cases h
def rowUOf (h : Heap) : AV → Option (List Int)
  | .s (.slice none 0 0) => some []
  | .sl b v o n 1 => (rdK (bk h b) v o n).bind intsA
  | _ => none
theorem rowUOf_sl {h : Heap} {b v o n : Nat} {E : List Int} (H : rowUOf h (.sl b v o n 1) = some E) : ∃ e sz rw C, bk h b = some ⟨v, e, sz, rw, C⟩ ∧ o + n ≤ C.length ∧ (C.drop o).take n = E.map cellU ∧ E.length = n := by
  simp only [rowUOf] at H
  cases hb : bk h b with
  | none => rw [hb] at H; simp [rdK] at H
  | some k =>
    obtain ⟨v', e, sz, rw, C⟩ := k
    rw [hb, rdK_s] at H
    split at H
    · rename_i hc
      obtain ⟨rfl, hc⟩ := hc
      simp only [Option.bind_some] at H
      have h1 := intsA_inv _ _ H
      refine ⟨e, sz, rw, C, rfl, hc, h1, ?_⟩
      have h2 := congrArg List.length h1
      rw [List.length_map, List.length_take, List.length_drop] at h2
      omega
    · simp at H
theorem rowU_at {C : List AV} {E : List Int} {o n i : Nat} {x : Int} (h1 : (C.drop o).take n = E.map cellU) (hi : i < n) (hx : E[i]? = some x) : (C.drop (o + i)).take 1 = [.s (.int .u64 x)] := by
  have e1 : C[o + i]? = ((C.drop o).take n)[i]? := by rw [List.getElem?_take_of_lt hi, List.getElem?_drop]
  rw [List.take_one, List.head?_drop, e1, h1, List.getElem?_map, hx]; rfl
theorem rowU_new (h : Heap) (K : List Int) : rowUOf (rowUH h K) (rowU h.length K) = some K := by
  by_cases hK : K = []
  · subst hK; rfl
  · have e1 : rowU h.length K = .sl h.length 0 0 K.length 1 := if_neg hK
    have e2 : rowUH h K = h ++ [⟨0, 35, 1, true, K.map cellU⟩] := if_neg hK
    rw [e1, e2]
    simp only [rowUOf]
    rw [bk_new, rdK_s, if_pos ⟨rfl, by simp⟩, List.drop_zero, List.take_of_length_le (by simp)]
    exact intsA_U K

def fr31 (a b : AV) (n j : Int) (a2 a3 a5 a6 a7 a8 a9 a10 : AV) : List AV := [a, b, a2, a3, .any, a5, a6, a7, a8, a9, a10, a, .s (.int .i64 n), .s (.int .i64 j)] ++ List.replicate 12 .any
noncomputable def tail31 : ACode := match c31 with
  | .seq _ (.seq _ t) => t
  | _ => .skip
noncomputable def body31 : ACode := match tail31 with
  | .seq (.seq _ (.block _ (.loop _ b))) _ => b
  | _ => .skip
noncomputable def fg31 : List Nat := match tail31 with
  | .seq (.seq _ (.block _ (.loop fg _))) _ => fg
  | _ => []
theorem s31_end {T : FuncId → Option AFunc} (a b : AV) (n j : Int) (hj : ¬ j < n) (h : Heap) (a2 a3 a5 a6 a7 a8 a9 a10 : AV) : Run Try.prog T body31 (fr31 a b n j a2 a3 a5 a6 a7 a8 a9 a10) h (.exit 0, (fr31 a b n j a2 a3 a5 a6 a7 a8 a9 a10).set 14 (.s (.bool false)), h) := by
  apply Run.step 30; intro k j
  simp [c31, tail31, body31, fr31, eq_false hj]
theorem s31_one {T : FuncId → Option AFunc} (h : Heap) (b1 v1 o1 b2 v2 o2 n : Nat) (A B : List (Int)) (hA : rowUOf h (.sl b1 v1 o1 n 1) = some A) (hB : rowUOf h (.sl b2 v2 o2 n 1) = some B) (hn : n ≤ 4611686018427387903) (j : Nat) (x y : Int) (hx : A[j]? = some x) (hy : B[j]? = some y) (a2 a3 a5 a6 a7 a8 a9 a10 : AV) :
    (x = y → ∃ tm' a5', forget fg31 tm' = fr31 (.sl b1 v1 o1 n 1) (.sl b2 v2 o2 n 1) n ((j : Int) + 1) a2 a3 a5' a6 a7 a8 a9 a10 ∧ Run Try.prog T body31 (fr31 (.sl b1 v1 o1 n 1) (.sl b2 v2 o2 n 1) n j a2 a3 a5 a6 a7 a8 a9 a10) h (.normal, tm', h)) ∧
    (x ≠ y → ∃ tm', tm'[4]? = some (.s (.bool false)) ∧ Run Try.prog T body31 (fr31 (.sl b1 v1 o1 n 1) (.sl b2 v2 o2 n 1) n j a2 a3 a5 a6 a7 a8 a9 a10) h (.ret, tm', h)) := by
  obtain ⟨e1, s1, w1, C1, hb1, hl1, hC1, hn1⟩ := rowUOf_sl hA
  obtain ⟨e2, s2, w2, C2, hb2, hl2, hC2, hn2⟩ := rowUOf_sl hB
  have hjn' : j < n := by have := (List.getElem?_eq_some_iff.1 hx).1; omega
  have hr1 := rowU_at (i := j) hC1 (by omega) hx
  have hr2 := rowU_at (i := j) hC2 (by omega) hy

  have hle1 : o1 + j + 1 ≤ C1.length := by omega
  have hle2 : o2 + j + 1 ≤ C2.length := by omega
  have hjn : (j : Int) < (n : Int) := by omega
  have w3 : IntKind.i64.wrap ((j : Int) + 1) = (j : Int) + 1 := w64k (by omega) (by omega)
  refine ⟨fun hxy => ?_, fun hxy => ?_⟩
  · subst hxy
    refine ⟨?q1, ?q2, ?q3, Run.step 40 fun k j => ?q4⟩
    case q4 =>
      simp [c31, tail31, body31, fr31, hjn, hb1, hb2, hr1, hr2, hle1, hle2, oneOr, w3]
      (first | rfl | (constructor <;> rfl))
    case q3 =>
      simp [forget, fg31, tail31, c31, fr31]
      rfl
  · have hne : (!(decide (x = y))) = true := by
      simp [hxy]
    refine ⟨?r1, ?r2, Run.step 40 fun k j => ?r3⟩
    case r3 =>
      simp [c31, tail31, body31, fr31, hjn, hb1, hb2, hr1, hr2, hle1, hle2, oneOr, w3, hxy]
      (first | rfl | (constructor <;> rfl))
    case r2 => rfl
theorem s31_loop {T : FuncId → Option AFunc} (h : Heap) (b1 v1 o1 b2 v2 o2 n : Nat) (A B : List (Int)) (hA : rowUOf h (.sl b1 v1 o1 n 1) = some A) (hB : rowUOf h (.sl b2 v2 o2 n 1) = some B) (hn : n ≤ 4611686018427387903) : ∀ (d j : Nat), j + d = n → ∀ (a2 a3 a5 a6 a7 a8 a9 a10 : AV),
    (A.drop j = B.drop j → ∃ a5', Run Try.prog T (.loop fg31 body31) (fr31 (.sl b1 v1 o1 n 1) (.sl b2 v2 o2 n 1) n j a2 a3 a5 a6 a7 a8 a9 a10) h (.exit 0, (fr31 (.sl b1 v1 o1 n 1) (.sl b2 v2 o2 n 1) n n a2 a3 a5' a6 a7 a8 a9 a10).set 14 (.s (.bool false)), h)) ∧
    (A.drop j ≠ B.drop j → ∃ tm', tm'[4]? = some (.s (.bool false)) ∧ Run Try.prog T (.loop fg31 body31) (fr31 (.sl b1 v1 o1 n 1) (.sl b2 v2 o2 n 1) n j a2 a3 a5 a6 a7 a8 a9 a10) h (.ret, tm', h)) := by
  have hn1 : A.length = n := (rowUOf_sl hA).choose_spec.choose_spec.choose_spec.choose_spec.2.2.2
  have hn2 : B.length = n := (rowUOf_sl hB).choose_spec.choose_spec.choose_spec.choose_spec.2.2.2
  have hfg : ∀ (a b : AV) (n j : Int) (a2 a3 a5 a6 a7 a8 a9 a10 : AV), forget fg31 (fr31 a b n j a2 a3 a5 a6 a7 a8 a9 a10) = fr31 a b n j a2 a3 a5 a6 a7 a8 a9 a10 := fun a b n j a2 a3 a5 a6 a7 a8 a9 a10 => by simp [forget, fg31, tail31, c31, fr31]
  intro d
  induction d with
  | zero =>
    intro j hd a2 a3 a5 a6 a7 a8 a9 a10
    obtain rfl : j = n := by omega
    rw [List.drop_eq_nil_of_le (by omega), List.drop_eq_nil_of_le (by omega)]
    exact ⟨fun _ => ⟨a5, Run.loop_end_f (hfg _ _ _ _ a2 a3 a5 a6 a7 a8 a9 a10) (by simp) (s31_end (T := T) _ _ j j (by omega) h a2 a3 a5 a6 a7 a8 a9 a10)⟩, fun h => absurd rfl h⟩
  | succ d ih =>
    intro j hd a2 a3 a5 a6 a7 a8 a9 a10
    have hj1 : j < A.length := by omega
    have hj2 : j < B.length := by omega
    obtain ⟨k1, k2⟩ := s31_one (T := T) h b1 v1 o1 b2 v2 o2 n A B hA hB hn j A[j] B[j] (List.getElem?_eq_getElem hj1) (List.getElem?_eq_getElem hj2) a2 a3 a5 a6 a7 a8 a9 a10
    rw [List.drop_eq_getElem_cons hj1, List.drop_eq_getElem_cons hj2]
    by_cases hxy : A[j] = B[j]
    · obtain ⟨tm', a5', x1, x2⟩ := k1 hxy
      obtain ⟨i1, i2⟩ := ih (j + 1) (by omega) a2 a3 a5' a6 a7 a8 a9 a10
      refine ⟨fun he => ?_, fun he => ?_⟩
      · obtain ⟨z, y⟩ := i1 (List.cons.inj he).2
        exact ⟨z, Run.loop_go (hfg _ _ _ _ a2 a3 a5 a6 a7 a8 a9 a10) x2 x1 y⟩
      · obtain ⟨tm2, y1, y2⟩ := i2 (fun h => he (by rw [hxy, h]))
        exact ⟨tm2, y1, Run.loop_go (hfg _ _ _ _ a2 a3 a5 a6 a7 a8 a9 a10) x2 x1 y2⟩
    · refine ⟨fun he => absurd (List.cons.inj he).1 hxy, fun _ => ?_⟩
      obtain ⟨tm', x1, x2⟩ := k2 hxy
      exact ⟨tm', x1, Run.loop_end_f (hfg _ _ _ _ a2 a3 a5 a6 a7 a8 a9 a10) (by simp) x2⟩
noncomputable def hkSame31 : List AV → Heap → Option (AV × Heap)
  | [a, b], h => match rowUOf h a, rowUOf h b with
    | some A, some B => if A.length ≤ 4611686018427387903 then some (.s (.bool (decide (A = B))), h) else none
    | _, _ => none
  | _, _ => none
theorem s31_len {h : Heap} {a : AV} {A : List (Int)} (hA : rowUOf h a = some A) : lenA (some a) = some (.s (.int .i64 A.length)) := by
  unfold rowUOf at hA
  split at hA
  · cases hA; rfl
  · rename_i b v o n
    have hA : rowUOf h (.sl b v o n 1) = some A := hA
    have hl := (rowUOf_sl hA).choose_spec.choose_spec.choose_spec.choose_spec.2.2.2
    rw [hl]; rfl
  · cases hA
theorem hkSame31_ok {T : FuncId → Option AFunc} (hm : Try.prog.follows .mixedOrders = true) (hT : TabOK Try.prog T) (hF : T 31 = prepFn Try.prog 31) (hc : callable Try.prog 31 = true) : HookSound Try.prog 31 hkSame31 := by
  refine hookOf hm hT hc fun l h r he => ?_
  unfold hkSame31 at he
  split at he
  · rename_i a b
    split at he
    · rename_i A B hA hB
      split at he
      · rename_i hn
        cases he
        refine ⟨_, ?_, Drops.refl _ _⟩
        have la := s31_len hA
        have lb := s31_len hB
        by_cases hl : (A.length : Int) = B.length
        · have hpre : ∀ {r : Res}, Run Try.prog T (.seq (match tail31 with | .seq (.seq _ b) _ => b | _ => .skip) (match tail31 with | .seq _ t => t | _ => .skip)) ([a, b, .s undef, .s undef, .s (.bool false), .s undef, a, .s (.int .i64 A.length), b, .s (.int .i64 B.length), .s (.bool false), a, .s (.int .i64 A.length), .s (.int .i64 0)] ++ List.replicate 12 (.s undef)) h r → Run Try.prog T c31 ([a, b] ++ List.replicate 24 (.s undef)) h r := fun {r} H => by
            apply Run.seq
            · apply Run.step 20; intro k j
              simp
              (first | rfl | (constructor <;> rfl))
            · apply Run.seq
              · apply Run.step 20; intro k j
                simp [la, lb, hl]
                (first | rfl | (constructor <;> rfl))
              · apply Run.seq_seq ?_ H
                apply Run.step 20; intro k j
                simp [la, hl]
          by_cases hz : A.length = 0
          · have eA : A = [] := List.length_eq_zero_iff.1 hz
            have eB : B = [] := List.length_eq_zero_iff.1 (by omega)
            subst eA; subst eB
            have t2 := s31_end (T := T) a b 0 0 (by omega) h (.s undef) (.s undef) (.s undef) a (.s (.int .i64 0)) b (.s (.int .i64 0)) (.s (.bool false))
            apply FRun.of (e := .ret) (hF.trans p31)
            · apply hpre
              apply Run.seq
              · apply Run.block_exit
                refine Run.loop_end_f ?_ (by simp) t2
                simp [forget, fg31, tail31, c31, fr31]
              · apply Run.step 20; intro k j
                simp [fr31, tail31, c31]
                (first | rfl | (constructor <;> rfl))
            · exact Or.inl rfl
            · simp [resAs, resA, tupA]
          · unfold rowUOf at hA hB
            split at hA
            · cases hA; simp at hz
            · rename_i b1 v1 o1 n
              split at hB
              · cases hB; simp at hl; simp [hl] at hz
              · rename_i b2 v2 o2 n2
                have hA : rowUOf h (.sl b1 v1 o1 n 1) = some A := hA
                have hB : rowUOf h (.sl b2 v2 o2 n2 1) = some B := hB
                have q1 := (rowUOf_sl hA).choose_spec.choose_spec.choose_spec.choose_spec.2.2.2
                have q2 := (rowUOf_sl hB).choose_spec.choose_spec.choose_spec.choose_spec.2.2.2
                obtain rfl : n = n2 := by omega
                rw [q1, q2] at hpre
                obtain ⟨i1, i2⟩ := s31_loop (T := T) h b1 v1 o1 b2 v2 o2 n A B hA hB (by omega) n 0 (by omega) (.s undef) (.s undef) (.s undef) (.sl b1 v1 o1 n 1) (.s (.int .i64 n)) (.sl b2 v2 o2 n 1) (.s (.int .i64 n)) (.s (.bool false))
                rw [List.drop_zero, List.drop_zero] at i1 i2
                by_cases hAB : A = B
                · rw [decide_eq_true hAB]
                  obtain ⟨a5', hr⟩ := i1 hAB
                  apply FRun.of (e := .ret) (hF.trans p31)
                  · apply hpre
                    apply Run.seq
                    · apply Run.block_exit
                      apply Run.loop_go' hr
                      simp [forget, fg31, tail31, c31, fr31]
                    · apply Run.step 20; intro k j
                      simp [fr31, tail31, c31]
                      (first | rfl | (constructor <;> rfl))
                  · exact Or.inl rfl
                  · rfl
                · rw [decide_eq_false hAB]
                  obtain ⟨tm', t1, hr⟩ := i2 hAB
                  apply FRun.of (e := .ret) (tm' := tm') (hF.trans p31)
                  · apply hpre
                    apply Run.seq_stop (by simp)
                    apply Run.block_id (by simp)
                    apply Run.loop_go' hr
                    simp [forget, fg31, tail31, c31, fr31]
                  · exact Or.inl rfl
                  · simp [resAs, resA, tupA, t1]
              · cases hB
            · cases hA
        · have hAB : ¬ A = B := fun h => hl (by rw [h])
          rw [decide_eq_false hAB]
          apply FRun.of (e := .ret) (hF.trans p31)
          · apply Run.step 20; intro k j
            simp [c31, la, lb, eq_false hl]
            (first | rfl | (constructor <;> rfl))
          · exact Or.inl rfl
          · rfl
      · cases he
    · cases he
  · cases he
end Go.Proofs.Ytpmoellbfgcefaa.AS
end
section
set_option autoImplicit false
set_option maxRecDepth 100000
set_option maxHeartbeats 2000000
set_option linter.unusedSimpArgs false
namespace Go.Proofs.Ytpmoellbfgcefaa.AS
open Go Go.Proofs Go.RowKit Go.Proofs.Ytpmoellbfgcefaa.AS.V

theorem hm : Try.prog.follows .mixedOrders = true := by kernel_rfl
noncomputable def T0 : FuncId → Option AFunc := prepFn Try.prog
theorem T0_ok : TabOK Try.prog T0 := tab0 Try.prog
def isTrue : Option (AV × Heap) → Bool
  | some (.s (.bool true), _) => true
  | _ => false
theorem isTrue_of {r : Option (AV × Heap)} (h : isTrue r = true) : ∃ H, r = some (.s (.bool true), H) := by
  unfold isTrue at h
  split at h
  · exact ⟨_, rfl⟩
  · cases h
def hkYes : List AV → Option AV
  | [] => some (.s (.bool true))
  | _ => none
theorem lives29 : isTrue (evFn Try.prog T0 400 29 [] []) = true := by kernel_rfl
theorem hkLives_ok : HookSound Try.prog 29 fun l h => (hkYes l).map fun x => (x, h) := by
  have hc : callable Try.prog 29 = true := by kernel_rfl
  refine hook0 (T := T0) hm T0_ok (fun l x hx => ?_) hc
  unfold hkYes at hx
  split at hx
  · cases hx
    obtain ⟨H, h⟩ := isTrue_of lives29
    exact ⟨hc, ⟨[], rfl⟩, ⟨.bool true, rfl⟩, 400, H, h⟩
  · cases hx
noncomputable def T1 : FuncId → Option AFunc := over T0 60 hkGet
theorem T1_ok : TabOK Try.prog T1 := over_ok T0_ok (hkGet_ok hm T0_ok rfl (by kernel_rfl))
noncomputable def T2 : FuncId → Option AFunc := over T1 76 hkNum
theorem T2_ok : TabOK Try.prog T2 := over_ok T1_ok (hkNum_ok hm T1_ok rfl rfl (by kernel_rfl))
noncomputable def T3 : FuncId → Option AFunc := over T2 33 hkRead
theorem T3_ok : TabOK Try.prog T3 := over_ok T2_ok (hkRead_ok hm T2_ok rfl rfl rfl (by kernel_rfl))
noncomputable def T4 : FuncId → Option AFunc := over T3 85 hkPut
theorem T4_ok : TabOK Try.prog T4 := over_ok T3_ok (hkPut_ok hm T3_ok rfl (by kernel_rfl))
noncomputable def T5 : FuncId → Option AFunc := over T4 75 hkGet
theorem T5_ok : TabOK Try.prog T5 := over_ok T4_ok (hkGet75_ok hm T4_ok rfl rfl (by kernel_rfl))
noncomputable def T6 : FuncId → Option AFunc := over T5 56 hkRead
theorem T6_ok : TabOK Try.prog T6 := over_ok T5_ok (hkRef_ok hm T5_ok rfl rfl (by kernel_rfl))
noncomputable def T7 : FuncId → Option AFunc := over T6 84 hkNaN
theorem T7_ok : TabOK Try.prog T7 := over_ok T6_ok (hkNaN_ok hm T6_ok rfl (by kernel_rfl))
noncomputable def T8 : FuncId → Option AFunc := over T7 74 hk74
theorem T8_ok : TabOK Try.prog T8 := over_ok T7_ok (hk74_ok hm T7_ok rfl rfl (by kernel_rfl))
noncomputable def T9 : FuncId → Option AFunc := over T8 73 hkCmp
theorem T9_ok : TabOK Try.prog T9 := over_ok T8_ok (hkCmp_ok hm T8_ok rfl rfl (by kernel_rfl))
noncomputable def T10 : FuncId → Option AFunc := over T9 72 hk72
theorem T10_ok : TabOK Try.prog T10 := over_ok T9_ok (hk72_ok hm T9_ok rfl rfl (by kernel_rfl))
noncomputable def T11 : FuncId → Option AFunc := over T10 55 hkAt
theorem T11_ok : TabOK Try.prog T11 := over_ok T10_ok (hkAt_ok hm T10_ok rfl rfl (by kernel_rfl))
noncomputable def T12 : FuncId → Option AFunc := over T11 23 hkFind
theorem T12_ok : TabOK Try.prog T12 := over_ok T11_ok (hkFind_ok hm T11_ok rfl rfl rfl (by kernel_rfl))
noncomputable def T13 : FuncId → Option AFunc := over T12 24 hkFind
theorem T13_ok : TabOK Try.prog T13 := over_ok T12_ok (hkFind24_ok hm T12_ok rfl rfl (by kernel_rfl))
noncomputable def T14 : FuncId → Option AFunc := over T13 27 hkKeys
theorem T14_ok : TabOK Try.prog T14 := over_ok T13_ok (hkKeys27_ok hm T13_ok rfl rfl (by kernel_rfl))
noncomputable def T15 : FuncId → Option AFunc := over T14 28 hkKeys
theorem T15_ok : TabOK Try.prog T15 := over_ok T14_ok (hkKeys28_ok hm T14_ok rfl rfl (by kernel_rfl))
noncomputable def T16 : FuncId → Option AFunc := over T15 57 hkClone
theorem T16_ok : TabOK Try.prog T16 := over_ok T15_ok (hkClone_ok hm T15_ok rfl (by kernel_rfl))
noncomputable def T17 : FuncId → Option AFunc := over T16 25 hkRange
theorem T17_ok : TabOK Try.prog T17 := over_ok T16_ok (hkRange_ok hm T16_ok rfl rfl rfl rfl (by kernel_rfl))
noncomputable def T18 : FuncId → Option AFunc := over T17 26 hkRangeR
theorem T18_ok : TabOK Try.prog T18 := over_ok T17_ok (hkRangeR_ok hm T17_ok rfl rfl (by kernel_rfl))
noncomputable def T19 : FuncId → Option AFunc := over T18 30 hkSame30
theorem T19_ok : TabOK Try.prog T19 := over_ok T18_ok (hkSame30_ok hm T18_ok rfl (by kernel_rfl))
noncomputable def T20 : FuncId → Option AFunc := over T19 31 hkSame31
theorem T20_ok : TabOK Try.prog T20 := over_ok T19_ok (hkSame31_ok hm T19_ok rfl (by kernel_rfl))
noncomputable def TD : FuncId → Option AFunc := over T20 29 fun l h => (hkYes l).map fun x => (x, h)
theorem TD_ok : TabOK Try.prog TD := over_ok T20_ok hkLives_ok
theorem TD_23 : TD 23 = some (.hook hkFind) := (Eq.trans (over_ne (T := T20) (f := 29) (by decide)) (Eq.trans (over_ne (T := T19) (f := 31) (by decide)) (Eq.trans (over_ne (T := T18) (f := 30) (by decide)) (Eq.trans (over_ne (T := T17) (f := 26) (by decide)) (Eq.trans (over_ne (T := T16) (f := 25) (by decide)) (Eq.trans (over_ne (T := T15) (f := 57) (by decide)) (Eq.trans (over_ne (T := T14) (f := 28) (by decide)) (Eq.trans (over_ne (T := T13) (f := 27) (by decide)) (Eq.trans (over_ne (T := T12) (f := 24) (by decide)) (over_same T11 23 hkFind))))))))))
theorem TD_24 : TD 24 = some (.hook hkFind) := (Eq.trans (over_ne (T := T20) (f := 29) (by decide)) (Eq.trans (over_ne (T := T19) (f := 31) (by decide)) (Eq.trans (over_ne (T := T18) (f := 30) (by decide)) (Eq.trans (over_ne (T := T17) (f := 26) (by decide)) (Eq.trans (over_ne (T := T16) (f := 25) (by decide)) (Eq.trans (over_ne (T := T15) (f := 57) (by decide)) (Eq.trans (over_ne (T := T14) (f := 28) (by decide)) (Eq.trans (over_ne (T := T13) (f := 27) (by decide)) (over_same T12 24 hkFind)))))))))
theorem TD_25 : TD 25 = some (.hook hkRange) := (Eq.trans (over_ne (T := T20) (f := 29) (by decide)) (Eq.trans (over_ne (T := T19) (f := 31) (by decide)) (Eq.trans (over_ne (T := T18) (f := 30) (by decide)) (Eq.trans (over_ne (T := T17) (f := 26) (by decide)) (over_same T16 25 hkRange)))))
theorem TD_26 : TD 26 = some (.hook hkRangeR) := (Eq.trans (over_ne (T := T20) (f := 29) (by decide)) (Eq.trans (over_ne (T := T19) (f := 31) (by decide)) (Eq.trans (over_ne (T := T18) (f := 30) (by decide)) (over_same T17 26 hkRangeR))))
theorem TD_27 : TD 27 = some (.hook hkKeys) := (Eq.trans (over_ne (T := T20) (f := 29) (by decide)) (Eq.trans (over_ne (T := T19) (f := 31) (by decide)) (Eq.trans (over_ne (T := T18) (f := 30) (by decide)) (Eq.trans (over_ne (T := T17) (f := 26) (by decide)) (Eq.trans (over_ne (T := T16) (f := 25) (by decide)) (Eq.trans (over_ne (T := T15) (f := 57) (by decide)) (Eq.trans (over_ne (T := T14) (f := 28) (by decide)) (over_same T13 27 hkKeys))))))))
theorem TD_28 : TD 28 = some (.hook hkKeys) := (Eq.trans (over_ne (T := T20) (f := 29) (by decide)) (Eq.trans (over_ne (T := T19) (f := 31) (by decide)) (Eq.trans (over_ne (T := T18) (f := 30) (by decide)) (Eq.trans (over_ne (T := T17) (f := 26) (by decide)) (Eq.trans (over_ne (T := T16) (f := 25) (by decide)) (Eq.trans (over_ne (T := T15) (f := 57) (by decide)) (over_same T14 28 hkKeys)))))))
theorem TD_30 : TD 30 = some (.hook hkSame30) := (Eq.trans (over_ne (T := T20) (f := 29) (by decide)) (Eq.trans (over_ne (T := T19) (f := 31) (by decide)) (over_same T18 30 hkSame30)))
theorem TD_31 : TD 31 = some (.hook hkSame31) := (Eq.trans (over_ne (T := T20) (f := 29) (by decide)) (over_same T19 31 hkSame31))
theorem TD_29 : TD 29 = some (.hook fun l h => (hkYes l).map fun x => (x, h)) := over_same _ _ _
theorem TD_5 : TD 5 = prepFn Try.prog 5 := (Eq.trans (over_ne (T := T20) (f := 29) (by decide)) (Eq.trans (over_ne (T := T19) (f := 31) (by decide)) (Eq.trans (over_ne (T := T18) (f := 30) (by decide)) (Eq.trans (over_ne (T := T17) (f := 26) (by decide)) (Eq.trans (over_ne (T := T16) (f := 25) (by decide)) (Eq.trans (over_ne (T := T15) (f := 57) (by decide)) (Eq.trans (over_ne (T := T14) (f := 28) (by decide)) (Eq.trans (over_ne (T := T13) (f := 27) (by decide)) (Eq.trans (over_ne (T := T12) (f := 24) (by decide)) (Eq.trans (over_ne (T := T11) (f := 23) (by decide)) (Eq.trans (over_ne (T := T10) (f := 55) (by decide)) (Eq.trans (over_ne (T := T9) (f := 72) (by decide)) (Eq.trans (over_ne (T := T8) (f := 73) (by decide)) (Eq.trans (over_ne (T := T7) (f := 74) (by decide)) (Eq.trans (over_ne (T := T6) (f := 84) (by decide)) (Eq.trans (over_ne (T := T5) (f := 56) (by decide)) (Eq.trans (over_ne (T := T4) (f := 75) (by decide)) (Eq.trans (over_ne (T := T3) (f := 85) (by decide)) (Eq.trans (over_ne (T := T2) (f := 33) (by decide)) (Eq.trans (over_ne (T := T1) (f := 76) (by decide)) (over_ne (T := T0) (f := 60) (by decide))))))))))))))))))))))
end Go.Proofs.Ytpmoellbfgcefaa.AS
end
