/- Of our own: an abstract machine beside the model, its soundness, and walks of the program in it. -/
import Derived.Test.YtpmoellbfgcefaaA14
set_option linter.unusedSimpArgs false
set_option linter.unusedVariables false
section
set_option autoImplicit false
set_option maxRecDepth 100000
set_option maxHeartbeats 2000000
set_option linter.unusedSimpArgs false
namespace Go.Proofs.Ytpmoellbfgcefaa.AS
open Go Go.Proofs Go.RowKit Go.Proofs.Ytpmoellbfgcefaa.AS.V

theorem bs_nil {T : FuncId → Option AFunc} (hT : T 72 = prepFn Try.prog 72) (key : Int) (h : Heap) : FRun Try.prog T 72 [.s (.slice none 0 0), .s (.int .u64 key), .s (.func (.func 73) #[] #[])] h (.tp [.s (.int .i64 0), .s (.bool false)], h) := by
  have hr := bs_end (T := T) (.s (.slice none 0 0)) key 0 0 h (.s undef) (.s undef) (.s undef) (.s (.int .i64 0)) (.s (.bool false)) (.s undef) (.s (.slice none 0 0)) (.s (.int .i64 0)) (.s (.int .i64 0)) (.s undef) (.s undef) (.s undef) (.s undef) (.s undef) (.s undef) (.s undef) (.s undef) (.s undef) (.s undef) (.s undef) (.s undef) (.s undef) (.s undef)
  apply FRun.of (e := .ret) (hT.trans p72)
  · apply Run.seq
    · apply Run.step 20; intro k j
      simp
      (first | rfl | (constructor <;> rfl))
    · apply Run.seq
      · apply Run.step 20; intro k j
        simp
        (first | rfl | (constructor <;> rfl))
      · apply Run.seq
        · apply Run.step 20; intro k j
          simp
          (first | rfl | (constructor <;> rfl))
        · apply Run.seq
          · apply Run.block_exit
            refine Run.loop_end_f ?_ (by simp) hr
            simp [forget, c72, fr72]
          · apply Run.step 20; intro k j
            simp [fr72]
            (first | rfl | (constructor <;> rfl))
  · exact Or.inl rfl
  · rfl
theorem bs_sl {T : FuncId → Option AFunc} (hT : T 72 = prepFn Try.prog 72) (hC : T 73 = some (.hook hkCmp)) (b v o n : Nat) (key : Int) (E : List (Int × ByteArray)) (h : Heap) (hE : rowOf h (.sl b v o n 2) = some E) (hn : n ≤ 4611686018427387903) (hA : Asc E) : FRun Try.prog T 72 [.sl b v o n 2, .s (.int .u64 key), .s (.func (.func 73) #[] #[])] h (.tp [.s (.int .i64 (low E key)), .s (.bool (isAt E key))], h) := by
  obtain ⟨e, sz, rw, C, hb, hle, hC1, hlen⟩ := rowOf_sl hE
  have hcall := fun k l h => evFn_hook (P := Try.prog) (T := T) (k := k) (f := 73) (args := l) (h := h) hC
  obtain ⟨a11', hr⟩ := bs_loop (T := T) hC b v o n key E h hE hn hA n 0 n (by omega) (by omega) (by omega) (fun i hh hi => by omega) (fun i hh hi => by omega) (.s undef) (.s undef) (.s undef) (.s (.int .i64 0)) (.s (.bool false)) (.s undef) (.sl b v o n 2) (.s (.int .i64 n)) (.s (.int .i64 n)) (.s undef) (.s undef) (.s undef) (.s undef) (.s undef) (.s undef) (.s undef) (.s undef) (.s undef) (.s undef) (.s undef) (.s undef) (.s undef) (.s undef)
  have hlow : low E key ≤ n := by
    rw [← hlen]; unfold low
    exact (List.takeWhile_prefix _).length_le
  have hpre : ∀ {r : Res}, Run Try.prog T tail72 ((((fr72 (.sl b v o n 2) key n (low E key) (low E key) (.s undef) (.s undef) (.s undef) (.s (.int .i64 0)) (.s (.bool false)) a11' (.sl b v o n 2) (.s (.int .i64 n)) (.s (.int .i64 n)) (.s undef) (.s undef) (.s undef) (.s undef) (.s undef) (.s undef) (.s undef) (.s undef) (.s undef) (.s undef) (.s undef) (.s undef) (.s undef) (.s undef)).set 15 (.s (.int .i64 (low E key)))).set 16 (.s (.int .i64 (low E key)))).set 17 (.s (.bool false))) h r → Run Try.prog T c72 ([.sl b v o n 2, .s (.int .u64 key), .s (.func (.func 73) #[] #[])] ++ List.replicate 46 (.s undef)) h r := fun {r} H => by
    apply Run.seq
    · apply Run.step 20; intro k j
      simp
      (first | rfl | (constructor <;> rfl))
    · apply Run.seq
      · apply Run.step 20; intro k j
        simp
        (first | rfl | (constructor <;> rfl))
      · apply Run.seq
        · apply Run.step 20; intro k j
          simp
          (first | rfl | (constructor <;> rfl))
        · apply Run.seq
          · apply Run.block_exit
            apply Run.loop_go' hr
            simp [forget, fg72, c72, fr72]
          · exact H
  rcases Nat.lt_or_ge (low E key) n with hl | hl
  · have hl' : (low E key : Int) < n := by omega
    have hrow := row_at (i := low E key) hC1 hlen hl
    have hle2 : o + low E key * 2 + 2 ≤ C.length := by omega
    obtain ⟨x, hx⟩ : ∃ x, E[low E key]? = some x := ⟨_, List.getElem?_eq_getElem (by omega)⟩
    rw [(List.getElem?_eq_some_iff.1 hx).2] at hrow
    have eI : isAt E key = decide (x.1 = key) := by unfold isAt; rw [hx]
    rw [eI]
    apply FRun.of (e := .ret) (hT.trans p72)
    · apply hpre
      apply Run.step 30; intro k j
      simp [tail72, c72, fr72, eq_true hl', hb, hrow, hle2, oneOr, hcall, hkCmp, cmpI_eq]
      (first | rfl | (constructor <;> rfl))
    · exact Or.inl rfl
    · rfl
  · have hl' : ¬ (low E key : Int) < n := by omega
    have eI : isAt E key = false := by unfold isAt; rw [List.getElem?_eq_none (by omega)]
    rw [eI]
    apply FRun.of (e := .ret) (hT.trans p72)
    · apply hpre
      apply Run.step 30; intro k j
      simp [tail72, c72, fr72, eq_false hl']
      (first | rfl | (constructor <;> rfl))
    · exact Or.inl rfl
    · rfl
noncomputable def hk72 : List AV → Heap → Option (AV × Heap)
  | [a, .s (.int .u64 key), .s (.func (.func f) x y)], h => match rowOf h a with
    | some E => if f = 73 ∧ x.size = 0 ∧ y.size = 0 ∧ Asc E ∧ E.length ≤ 4611686018427387903 then some (.tp [.s (.int .i64 (low E key)), .s (.bool (isAt E key))], h) else none
    | none => none
  | _, _ => none
theorem hk72_ok {T : FuncId → Option AFunc} (hm : Try.prog.follows .mixedOrders = true) (hT : TabOK Try.prog T) (h72 : T 72 = prepFn Try.prog 72) (hC : T 73 = some (.hook hkCmp)) (hc : callable Try.prog 72 = true) : HookSound Try.prog 72 hk72 := by
  refine hookOf hm hT hc fun l h r he => ?_
  unfold hk72 at he
  split at he
  · rename_i a key f x y
    split at he
    · rename_i E hE
      split at he
      · rename_i hA
        cases he
        obtain ⟨rfl, hx, hy, hA⟩ := hA
        obtain rfl := Array.eq_empty_of_size_eq_zero hx
        obtain rfl := Array.eq_empty_of_size_eq_zero hy
        refine ⟨_, ?_, Drops.refl _ _⟩
        unfold rowOf at hE
        split at hE
        · cases hE; exact bs_nil h72 key h
        · rename_i b v o n
          have hE : rowOf h (.sl b v o n 2) = some E := hE
          have hlen : E.length = n := (rowOf_sl hE).choose_spec.choose_spec.choose_spec.choose_spec.2.2.2
          exact bs_sl h72 hC b v o n key E h hE (by omega) hA.1
        · cases hE
      · cases he
    · cases he
  · cases he
noncomputable def hkAt : List AV → Heap → Option (AV × Heap)
  | [a, .s (.int .u64 key)], h => match rowOf h a with
    | some E => if Asc E ∧ E.length ≤ 4611686018427387903 then some (.tp [.s (.int .i64 (low E key)), .s (.bool (isAt E key))], h) else none
    | none => none
  | _, _ => none
theorem hkAt_ok {T : FuncId → Option AFunc} (hm : Try.prog.follows .mixedOrders = true) (hT : TabOK Try.prog T) (h55 : T 55 = prepFn Try.prog 55) (hC : T 72 = some (.hook hk72)) (hc : callable Try.prog 55 = true) : HookSound Try.prog 55 hkAt := by
  refine hookOf hm hT hc fun l h r he => ?_
  unfold hkAt at he
  split at he
  · rename_i a key
    split at he
    · rename_i E hE
      split at he
      · rename_i hA
        cases he
        have hcall := fun k l h => evFn_hook (P := Try.prog) (T := T) (k := k) (f := 72) (args := l) (h := h) hC
        refine ⟨_, ?_, Drops.refl _ _⟩
        apply FRun.of (e := .ret) (h55.trans p55)
        · apply Run.step 20; intro k j
          simp [c55, hcall, hk72, hE, hA]
          (first | rfl | (constructor <;> rfl))
        · exact Or.inl rfl
        · rfl
      · cases he
    · cases he
  · cases he
end Go.Proofs.Ytpmoellbfgcefaa.AS
end
section
set_option autoImplicit false
namespace Go.Proofs.Ytpmoellbfgcefaa.AS
open Go Go.Proofs Go.RowKit Go.Proofs.Ytpmoellbfgcefaa.AS.V

abbrev AscK (L : List (Int × Int)) : Prop := L.Pairwise fun a b => a.1 < b.1
theorem slot1_asc {L : List (Int × Int)} {s : ByteArray} (hA : AscK L) (hr : ∀ x ∈ L, 0 ≤ x.1 ∧ x.1 ≤ 18446744073709551615) (hw : (slot1 L s).2.2 = 0) : AscK (L ++ [(slot1 L s).1]) := by
  apply List.pairwise_append.2
  refine ⟨hA, List.pairwise_singleton _ _, ?_⟩
  intro a ha b hb
  simp only [List.mem_singleton] at hb
  subst hb
  have hne : L ≠ [] := List.ne_nil_of_mem ha
  obtain ⟨M, x, rfl⟩ : ∃ M x, L = M ++ [x] := ⟨L.dropLast, L.getLast hne, (List.dropLast_concat_getLast hne).symm⟩
  have hx := hr x (by simp)
  have hax : a.1 ≤ x.1 := by
    rcases List.mem_append.1 ha with h | h
    · have := (List.pairwise_append.1 hA).2.2 a h x (by simp); omega
    · simp at h; subst h; exact Int.le_refl _
  have hg := gets_range s
  have e0 : (slot1 (M ++ [x]) s).2.2 = (numS (gets s).2.1 (if (gets s).2.2 = 0 ∧ (x.1 = 18446744073709551615 ∨ (gets s).1 > 18446744073709551615 - x.1 - 1) then 7 else (gets s).2.2)).2.2 := by
    simp [slot1, numS_z]
  have e1 : (slot1 (M ++ [x]) s).1.1 = if (gets s).2.2 = 0 then IntKind.u64.wrap ((gets s).1 + IntKind.u64.wrap (x.1 + 1)) else (gets s).1 := by
    simp [slot1, numS_z]
  rw [e0] at hw
  rw [e1]
  split at hw
  · rw [numS_e _ (by decide)] at hw
    simp at hw
  · rename_i hc
    by_cases h0 : (gets s).2.2 = 0
    · rw [if_pos h0]
      have : ¬ (x.1 = 18446744073709551615 ∨ (gets s).1 > 18446744073709551615 - x.1 - 1) := fun h => hc ⟨h0, h⟩
      rw [wu64 (n := x.1 + 1) (by omega) (by omega), wu64 (by omega) (by omega)]
      omega
    · rw [numS_e _ h0] at hw
      exact absurd hw h0
theorem slotsF_asc : ∀ (n : Nat) (L : List (Int × Int)) (s : ByteArray) (w : Int), AscK L → (∀ x ∈ L, 0 ≤ x.1 ∧ x.1 ≤ 18446744073709551615) → (slotsF n L s w).2.2 = 0 → AscK (slotsF n L s w).1
  | 0, L, s, w, hA, _, _ => hA
  | n + 1, L, s, w, hA, hr, hw => by
    rw [slotsF] at hw ⊢
    split
    · exact hA
    · rename_i h0
      rw [if_neg h0] at hw
      by_cases h1 : (slot1 L s).2.2 = 0
      · refine slotsF_asc n _ _ _ (slot1_asc hA hr h1) ?_ hw
        intro x hx
        rcases List.mem_append.1 hx with h | h
        · exact hr x h
        · simp at h; subst h; exact slot1_key L s
      · rw [slotsF_err _ _ _ h1] at hw
        exact absurd hw h1
theorem datF_keys : ∀ (L : List (Int × Int)) (E E' : List (Int × ByteArray)) (r r' : ByteArray), datF L E r = some (E', r') → E'.map (·.1) = E.map (·.1) ++ L.map (·.1)
  | [], E, E', r, r', h => by simp [datF] at h; simp [h.1]
  | x :: L, E, E', r, r', h => by
    rw [datF] at h
    split at h
    · cases h
    · have := datF_keys L _ E' _ r' h
      rw [this]; simp [dat1]
theorem asc_map (E : List (Int × ByteArray)) : Asc E ↔ (E.map (·.1)).Pairwise (· < ·) := by rw [List.pairwise_map]
theorem readS_asc (s : ByteArray) : Asc (readS s).1 := by
  unfold readS
  split
  · exact List.Pairwise.nil
  · rename_i hw
    have hw : (slotsR s).2.2 = 0 := by simpa using hw
    cases hd : datF (slotsR s).1 [] (slotsR s).2.1 with
    | none => exact List.Pairwise.nil
    | some x =>
      obtain ⟨E, r⟩ := x
      simp only
      rw [asc_map, datF_keys _ _ _ _ _ hd, List.map_nil, List.nil_append, List.pairwise_map]
      unfold slotsR at hw ⊢
      split
      · exact List.Pairwise.nil
      · rename_i h
        rw [if_neg h] at hw
        exact slotsF_asc _ [] _ _ List.Pairwise.nil (by simp) hw
theorem readS_len {s : ByteArray} (hs : s.size ≤ 9223372036854775807) : (readS s).1.length ≤ 65536 := by
  unfold readS
  split
  · simp
  · cases hd : datF (slotsR s).1 [] (slotsR s).2.1 with
    | none => simp
    | some x =>
      obtain ⟨E, r⟩ := x
      have h1 := congrArg List.length (datF_keys _ _ _ _ _ hd)
      have h2 := (slotsR_inv hs).2.2
      simp at h1
      simp only
      omega
theorem readS_err {s : ByteArray} (h : (readS s).2.2 ≠ 0) : (readS s).1 = [] := by
  unfold readS at h ⊢
  split
  · rfl
  · rename_i hw
    rw [if_neg hw] at h
    cases hd : datF (slotsR s).1 [] (slotsR s).2.1 with
    | none => rfl
    | some x => rw [hd] at h; exact absurd rfl h
theorem rowOf_new (h : Heap) (E : List (Int × ByteArray)) : rowOf (rowH h E) (rowN h.length E) = some E := by
  by_cases hE : E = []
  · subst hE; rfl
  · have e1 : rowN h.length E = .sl h.length 0 0 E.length 2 := if_neg hE
    have e2 : rowH h E = h ++ [⟨0, 52, 2, true, E.flatMap entC⟩] := if_neg hE
    have hl := entC_len E
    rw [e1, e2]
    simp only [rowOf]
    rw [bk_new, rdK_s, if_pos ⟨rfl, by omega⟩, List.drop_zero, List.take_of_length_le (by omega)]
    exact entsA_entC E
def findF (E : List (Int × ByteArray)) (key : Int) : ByteArray × Int := match E.find? fun e => decide (e.1 = key) with | some e => (e.2, 0) | none => (⟨#[]⟩, 3)
theorem low_at {E : List (Int × ByteArray)} {key : Int} (h : isAt E key = true) : ∃ e, E[low E key]? = some e ∧ e.1 = key := by
  unfold isAt at h
  split at h
  · rename_i e he; exact ⟨e, he, by simpa using h⟩
  · cases h
theorem find_at : ∀ {E : List (Int × ByteArray)} {key : Int}, Asc E → E.find? (fun e => decide (e.1 = key)) = if isAt E key then E[low E key]? else none
  | [], key, _ => by simp [isAt, low]
  | x :: E, key, hA => by
    have hA' := List.pairwise_cons.1 hA
    rw [List.find?_cons]
    by_cases h1 : x.1 < key
    · have hl : low (x :: E) key = low E key + 1 := by unfold low; simp [List.takeWhile_cons, h1]
      have hi : isAt (x :: E) key = isAt E key := by unfold isAt; rw [hl, List.getElem?_cons_succ]
      have hne : decide (x.1 = key) = false := by simp; omega
      rw [hne, hi, hl, List.getElem?_cons_succ]
      exact find_at hA'.2
    · have hl : low (x :: E) key = 0 := by unfold low; simp [List.takeWhile_cons, h1]
      have hi : isAt (x :: E) key = decide (x.1 = key) := by unfold isAt; rw [hl]; rfl
      rw [hi, hl]
      by_cases h2 : x.1 = key
      · simp [h2]
      · simp [h2]
        intro a b hab
        have := hA'.1 (a, b) hab
        simp at this
        omega
theorem findF_at {E : List (Int × ByteArray)} {key : Int} (hA : Asc E) {e : Int × ByteArray} (h : isAt E key = true) (he : E[low E key]? = some e) : findF E key = (e.2, 0) := by
  unfold findF; rw [find_at hA, if_pos h, he]
theorem findF_no {E : List (Int × ByteArray)} {key : Int} (hA : Asc E) (h : isAt E key = false) : findF E key = (⟨#[]⟩, 3) := by
  unfold findF; rw [find_at hA, h]; rfl
end Go.Proofs.Ytpmoellbfgcefaa.AS
end
section
set_option autoImplicit false
set_option maxRecDepth 100000
set_option maxHeartbeats 2000000
set_option linter.unusedSimpArgs false
namespace Go.Proofs.Ytpmoellbfgcefaa.AS
open Go Go.Proofs Go.RowKit Go.Proofs.Ytpmoellbfgcefaa.AS.V

noncomputable def hkFind : List AV → Heap → Option (AV × Heap)
  | [.s (.string s), .s (.int .u64 key)], h => if s.size ≤ 9223372036854775807 then some (.tp [.s (.string (if (readS s).2.2 = 0 then (findF (readS s).1 key).1 else ⟨#[]⟩)), .s (.int .i64 (if (readS s).2.2 = 0 then (findF (readS s).1 key).2 else (readS s).2.2))], h) else none
  | _, _ => none
theorem rowH_grows (h : Heap) (E : List (Int × ByteArray)) : Grows h (rowH h E) := by
  unfold rowH; split
  · exact Grows.refl h
  · exact Grows.app h _
theorem hkFind_ok {T : FuncId → Option AFunc} (hm : Try.prog.follows .mixedOrders = true) (hT : TabOK Try.prog T) (h23 : T 23 = prepFn Try.prog 23) (hR : T 33 = some (.hook hkRead)) (hA : T 55 = some (.hook hkAt)) (hc : callable Try.prog 23 = true) : HookSound Try.prog 23 hkFind := by
  refine hookOf hm hT hc fun l h r he => ?_
  unfold hkFind at he
  split at he
  · rename_i s key
    split at he
    · rename_i hs
      cases he
      have c33 := fun k l h => evFn_hook (P := Try.prog) (T := T) (k := k) (f := 33) (args := l) (h := h) hR
      have c55 := fun k l h => evFn_hook (P := Try.prog) (T := T) (k := k) (f := 55) (args := l) (h := h) hA
      have hasc := readS_asc s
      have hlen := readS_len hs
      have hrow := rowOf_new h (readS s).1
      by_cases hw : (readS s).2.2 = 0
      · rw [if_pos hw, if_pos hw]
        generalize hE : (readS s).1 = E at *
        have hlen' : E.length ≤ 4611686018427387903 := by omega
        refine ⟨(.tp [.s (.string (findF E key).1), .s (.int .i64 (findF E key).2)], rowH h E), ?_, Drops.flat (rowH_grows h E) rfl⟩
        cases hi : isAt E key with
        | false =>
          rw [findF_no hasc hi]
          apply FRun.of (e := .ret) (h23.trans p23)
          · apply Run.step 30; intro k j
            simp [c23, c33, hkRead, hs, hE, eq_true hw, c55, hkAt, hrow, hasc, hlen', hi]
            (first | rfl | (constructor <;> rfl))
          · exact Or.inl rfl
          · rfl
        | true =>
          obtain ⟨e, he, _⟩ := low_at hi
          rw [findF_at hasc hi he]
          have hlt : low E key < E.length := (List.getElem?_eq_some_iff.1 he).1
          have hlt' : (low E key : Int) < E.length := by omega
          have hne : E ≠ [] := by intro h; rw [h] at hlt; simp at hlt
          have e1 : rowN h.length E = .sl h.length 0 0 E.length 2 := if_neg hne
          have e2 : rowH h E = h ++ [⟨0, 52, 2, true, E.flatMap entC⟩] := if_neg hne
          rw [e1, e2] at hrow
          rw [e2]
          have hg : (E.flatMap entC)[low E key * 2 + 1]? = some (.s (.string e.2)) := by
            have hs' : E = E.take (low E key) ++ e :: E.drop (low E key + 1) := by
              rw [← (List.getElem?_eq_some_iff.1 he).2, List.getElem_cons_drop, List.take_append_drop]
            have hl : ((E.take (low E key)).flatMap entC).length = low E key * 2 := by rw [entC_len]; simp; omega
            conv => lhs; rw [show (E.flatMap entC) = ((E.take (low E key) ++ e :: E.drop (low E key + 1)).flatMap entC) from by rw [← hs']]
            rw [List.flatMap_append, List.getElem?_append_right (by omega), hl]
            simp [entC]
          have hCl : low E key * 2 + 1 + 1 ≤ (E.flatMap entC).length := by rw [entC_len]; omega
          have hd : ((E.flatMap entC).drop (low E key * 2 + 1)).take 1 = [.s (.string e.2)] := by
            rw [List.take_one, List.head?_drop, hg]; rfl
          generalize E.flatMap entC = C at *
          apply FRun.of (e := .ret) (h23.trans p23)
          · apply Run.step 30; intro k j
            simp [c23, c33, hkRead, hs, hE, eq_true hw, c55, hkAt, hrow, hasc, hlen', hi, e1, e2, hlt', hCl, hd, hg, oneOr]
            (first | rfl | (constructor <;> rfl))
          · exact Or.inl rfl
          · rfl
      · rw [if_neg hw, if_neg hw]
        have hE := readS_err hw
        refine ⟨_, ?_, Drops.refl _ _⟩
        apply FRun.of (e := .ret) (h23.trans p23)
        · apply Run.step 30; intro k j
          simp [c23, c33, hkRead, hs, hE, rowN, rowH, eq_false hw]
          (first | rfl | (constructor <;> rfl))
        · exact Or.inl rfl
        · rfl
    · cases he
  · cases he
end Go.Proofs.Ytpmoellbfgcefaa.AS
end
section
set_option autoImplicit false
set_option maxRecDepth 100000
set_option maxHeartbeats 2000000
set_option linter.unusedSimpArgs false
namespace Go.Proofs.Ytpmoellbfgcefaa.AS
open Go Go.Proofs Go.RowKit Go.Proofs.Ytpmoellbfgcefaa.AS.V

def fr24 (s : ByteArray) (key : Int) (a : AV) (n j : Int) (a2 a3 a6 a7 a8 a9 a10 a11 a12 a13 a14 a15 a16 a17 a18 a19 : AV) : List AV := [.s (.string s), .s (.int .u64 key), a2, a3, .any, .any, a6, a7, a8, a9, a10, a11, a12, a13, a14, a15, a16, a17, a18, a19, a, .s (.int .i64 n), .s (.int .i64 j)] ++ List.replicate 10 .any
noncomputable def tail24 : ACode := match c24 with
  | .seq _ (.seq _ (.seq _ t)) => t
  | _ => .skip
noncomputable def body24 : ACode := match tail24 with
  | .seq (.seq _ (.block _ (.loop _ b))) _ => b
  | _ => .skip
noncomputable def fg24 : List Nat := match tail24 with
  | .seq (.seq _ (.block _ (.loop fg _))) _ => fg
  | _ => []
theorem rf_end {T : FuncId → Option AFunc} (s : ByteArray) (key : Int) (a : AV) (n j : Int) (hj : ¬ j < n) (h : Heap) (a2 a3 a6 a7 a8 a9 a10 a11 a12 a13 a14 a15 a16 a17 a18 a19 : AV) : ∃ tm', tm'.length = 33 ∧ Run Try.prog T body24 (fr24 s key a n j a2 a3 a6 a7 a8 a9 a10 a11 a12 a13 a14 a15 a16 a17 a18 a19) h (.exit 0, tm', h) := by
  refine ⟨?q1, ?q2, Run.step 30 fun k j => ?q3⟩
  case q3 =>
    simp [c24, tail24, body24, fr24, eq_false hj]
    rfl
  case q2 => rfl
theorem rf_one {T : FuncId → Option AFunc} (s : ByteArray) (key : Int) (h0 h' : Heap) (b v o n : Nat) (E : List (Int × ByteArray)) (hE : rowOf h0 (.sl b v o n 2) = some E) (hn : n ≤ 65536) (hold : ∀ b, b < h0.length → bk h' b = bk h0 b) (hlen : h0.length ≤ h'.length) (j : Nat) (x : Int × ByteArray) (hx : E[j]? = some x) (a2 a3 a6 a7 a8 a9 a10 a11 a12 a13 a14 a15 a16 a17 a18 a19 : AV) :
    (x.1 = key → ∃ tm' H, tm'[4]? = some (.s (.string x.2)) ∧ tm'[5]? = some (.s (.int .i64 0)) ∧ (∀ b, b < h0.length → bk H b = bk h0 b) ∧ Run Try.prog T body24 (fr24 s key (.sl b v o n 2) n j a2 a3 a6 a7 a8 a9 a10 a11 a12 a13 a14 a15 a16 a17 a18 a19) h' (.ret, tm', H)) ∧
    (x.1 ≠ key → ∃ tm' H a10', forget fg24 tm' = fr24 s key (.sl b v o n 2) n ((j : Int) + 1) a2 a3 a6 a7 a8 a9 a10' a11 a12 a13 a14 a15 a16 a17 a18 a19 ∧ (∀ b, b < h0.length → bk H b = bk h0 b) ∧ h0.length ≤ H.length ∧ Run Try.prog T body24 (fr24 s key (.sl b v o n 2) n j a2 a3 a6 a7 a8 a9 a10 a11 a12 a13 a14 a15 a16 a17 a18 a19) h' (.normal, tm', H)) := by
  obtain ⟨e, sz, rw, C, hb, hle, hC1, hl⟩ := rowOf_sl hE
  obtain ⟨hjE, hxe⟩ := List.getElem?_eq_some_iff.1 hx
  have hb' := (hold b (bk_lt hb)).trans hb
  have hrow := row_at (i := j) hC1 hl (by omega)
  rw [hxe] at hrow
  have hle2 : o + j * 2 + 2 ≤ C.length := by omega
  have hjn : (j : Int) < (n : Int) := by omega
  have w3 : IntKind.i64.wrap ((j : Int) + 1) = (j : Int) + 1 := w64k (by omega) (by omega)
  have hob : ∀ b, b < h0.length → b < h'.length := fun b hb => by omega
  refine ⟨fun hk => ⟨?q1, ?q2, ?q3, ?q4, ?q5, Run.step 40 fun k j => ?q6⟩, fun hk => ⟨?r1, ?r2, ?r3, ?r4, ?r5, ?r6, Run.step 40 fun k j => ?r7⟩⟩
  case q6 =>
    simp [c24, tail24, body24, fr24, hjn, hb', hrow, hle2, oneOr, cellsOf, isCell, eq_true hk, w3]
    (first | rfl | (constructor <;> rfl))
  case q3 => rfl
  case q4 => rfl
  case q5 =>
    intro b hb
    simp [hob b hb, hold b hb]
  case r7 =>
    simp [c24, tail24, body24, fr24, hjn, hb', hrow, hle2, oneOr, cellsOf, isCell, eq_false hk, w3]
    (first | rfl | (constructor <;> rfl))
  case r4 =>
    simp [forget, fg24, tail24, c24, fr24]
    rfl
  case r5 =>
    intro b hb
    simp [hob b hb, hold b hb]
  case r6 => simp; omega
theorem rf_loop {T : FuncId → Option AFunc} (s : ByteArray) (key : Int) (h0 : Heap) (b v o n : Nat) (E : List (Int × ByteArray)) (hE : rowOf h0 (.sl b v o n 2) = some E) (hn : n ≤ 65536) : ∀ (d j : Nat) (h' : Heap), j + d = n → (∀ b, b < h0.length → bk h' b = bk h0 b) → h0.length ≤ h'.length → ∀ (a2 a3 a6 a7 a8 a9 a10 a11 a12 a13 a14 a15 a16 a17 a18 a19 : AV),
    (∀ e, (E.drop j).find? (fun e => decide (e.1 = key)) = some e → ∃ tm' H, tm'[4]? = some (.s (.string e.2)) ∧ tm'[5]? = some (.s (.int .i64 0)) ∧ (∀ b, b < h0.length → bk H b = bk h0 b) ∧ Run Try.prog T (.loop fg24 body24) (fr24 s key (.sl b v o n 2) n j a2 a3 a6 a7 a8 a9 a10 a11 a12 a13 a14 a15 a16 a17 a18 a19) h' (.ret, tm', H)) ∧
    ((E.drop j).find? (fun e => decide (e.1 = key)) = none → ∃ tm' H, tm'.length = 33 ∧ (∀ b, b < h0.length → bk H b = bk h0 b) ∧ Run Try.prog T (.loop fg24 body24) (fr24 s key (.sl b v o n 2) n j a2 a3 a6 a7 a8 a9 a10 a11 a12 a13 a14 a15 a16 a17 a18 a19) h' (.exit 0, tm', H)) := by
  have hl : E.length = n := (rowOf_sl hE).choose_spec.choose_spec.choose_spec.choose_spec.2.2.2
  have hfg : ∀ (a : AV) (n j : Int) (a2 a3 a6 a7 a8 a9 a10 a11 a12 a13 a14 a15 a16 a17 a18 a19 : AV), forget fg24 (fr24 s key a n j a2 a3 a6 a7 a8 a9 a10 a11 a12 a13 a14 a15 a16 a17 a18 a19) = fr24 s key a n j a2 a3 a6 a7 a8 a9 a10 a11 a12 a13 a14 a15 a16 a17 a18 a19 := fun a n j a2 a3 a6 a7 a8 a9 a10 a11 a12 a13 a14 a15 a16 a17 a18 a19 => by simp [forget, fg24, tail24, c24, fr24]
  intro d
  induction d with
  | zero =>
    intro j h' hd hold hlen a2 a3 a6 a7 a8 a9 a10 a11 a12 a13 a14 a15 a16 a17 a18 a19
    rw [List.drop_eq_nil_of_le (by omega)]
    refine ⟨fun e he => (by simp at he), fun _ => ?_⟩
    obtain ⟨tm', t1, t2⟩ := rf_end (T := T) s key (.sl b v o n 2) n j (by omega) h' a2 a3 a6 a7 a8 a9 a10 a11 a12 a13 a14 a15 a16 a17 a18 a19
    exact ⟨tm', h', t1, hold, Run.loop_end_f (hfg _ _ _ a2 a3 a6 a7 a8 a9 a10 a11 a12 a13 a14 a15 a16 a17 a18 a19) (by simp) t2⟩
  | succ d ih =>
    intro j h' hd hold hlen a2 a3 a6 a7 a8 a9 a10 a11 a12 a13 a14 a15 a16 a17 a18 a19
    obtain ⟨x, hx⟩ : ∃ x, E[j]? = some x := ⟨_, List.getElem?_eq_getElem (by omega)⟩
    obtain ⟨hlt, hx2⟩ := List.getElem?_eq_some_iff.1 hx
    have e : E.drop j = x :: E.drop (j + 1) := by rw [List.drop_eq_getElem_cons hlt, hx2]
    rw [e, List.find?_cons]
    obtain ⟨k1, k2⟩ := rf_one (T := T) s key h0 h' b v o n E hE hn hold hlen j x hx a2 a3 a6 a7 a8 a9 a10 a11 a12 a13 a14 a15 a16 a17 a18 a19
    by_cases hk : x.1 = key
    · rw [decide_eq_true hk]
      refine ⟨fun e he => ?_, fun he => (by cases he)⟩
      cases he
      obtain ⟨tm', H, t1, t2, t3, t4⟩ := k1 hk
      exact ⟨tm', H, t1, t2, t3, Run.loop_end_f (hfg _ _ _ a2 a3 a6 a7 a8 a9 a10 a11 a12 a13 a14 a15 a16 a17 a18 a19) (by simp) t4⟩
    · rw [decide_eq_false hk]
      obtain ⟨tm1, H1, a10', x1, x2, x3, x4⟩ := k2 hk
      obtain ⟨i1, i2⟩ := ih (j + 1) H1 (by omega) x2 x3 a2 a3 a6 a7 a8 a9 a10' a11 a12 a13 a14 a15 a16 a17 a18 a19
      refine ⟨fun e he => ?_, fun he => ?_⟩
      · obtain ⟨tm', H, t1, t2, t3, t4⟩ := i1 e he
        exact ⟨tm', H, t1, t2, t3, Run.loop_go (hfg _ _ _ a2 a3 a6 a7 a8 a9 a10 a11 a12 a13 a14 a15 a16 a17 a18 a19) x4 x1 t4⟩
      · obtain ⟨tm', H, t1, t2, t3⟩ := i2 he
        exact ⟨tm', H, t1, t2, Run.loop_go (hfg _ _ _ a2 a3 a6 a7 a8 a9 a10 a11 a12 a13 a14 a15 a16 a17 a18 a19) x4 x1 t3⟩
theorem hkFind24_ok {T : FuncId → Option AFunc} (hm : Try.prog.follows .mixedOrders = true) (hT : TabOK Try.prog T) (h24 : T 24 = prepFn Try.prog 24) (hR : T 56 = some (.hook hkRead)) (hc : callable Try.prog 24 = true) : HookSound Try.prog 24 hkFind := by
  refine hookOf hm hT hc fun l h r he => ?_
  unfold hkFind at he
  split at he
  · rename_i s key
    split at he
    · rename_i hs
      cases he
      have c56 := fun k l h => evFn_hook (P := Try.prog) (T := T) (k := k) (f := 56) (args := l) (h := h) hR
      have hlen := readS_len hs
      have hrow := rowOf_new h (readS s).1
      by_cases hw : (readS s).2.2 = 0
      · rw [if_pos hw, if_pos hw]
        have hpre : ∀ {r : Res}, Run Try.prog T tail24 ([.s (.string s), .s (.int .u64 key), .s undef, .s undef, .s (.string ⟨#[]⟩), .s (.int .i64 0), rowN h.length (readS s).1, .s (.string (readS s).2.1), .s (.int .i64 (readS s).2.2), .s undef, .s undef, .tp [rowN h.length (readS s).1, .s (.string (readS s).2.1), .s (.int .i64 (readS s).2.2)], .s (.string s), .tp [rowN h.length (readS s).1, .s (.string (readS s).2.1), .s (.int .i64 (readS s).2.2)], rowN h.length (readS s).1, .s (.string (readS s).2.1), .s (.int .i64 (readS s).2.2), .s (.int .i64 (readS s).2.2), .s (.bool false)] ++ List.replicate 14 (.s undef)) (rowH h (readS s).1) r → Run Try.prog T c24 ([.s (.string s), .s (.int .u64 key)] ++ List.replicate 31 (.s undef)) h r := fun {r} H => by
          apply Run.seq
          · apply Run.step 20; intro k j
            simp
            (first | rfl | (constructor <;> rfl))
          · apply Run.seq
            · apply Run.step 20; intro k j
              simp [c56, hkRead, hs]
              (first | rfl | (constructor <;> rfl))
            · apply Run.seq
              · apply Run.step 20; intro k j
                simp [eq_true hw]
                (first | rfl | (constructor <;> rfl))
              · exact H
        generalize hE : (readS s).1 = E at *
        by_cases hne : E = []
        · subst hne
          obtain ⟨tm', t1, t2⟩ := rf_end (T := T) s key (.s (.slice none 0 0)) 0 0 (by omega) h (.s undef) (.s undef) (.s (.slice none 0 0)) (.s (.string (readS s).2.1)) (.s (.int .i64 (readS s).2.2)) (.s undef) (.s undef) (.tp [(.s (.slice none 0 0)), .s (.string (readS s).2.1), .s (.int .i64 (readS s).2.2)]) (.s (.string s)) (.tp [(.s (.slice none 0 0)), .s (.string (readS s).2.1), .s (.int .i64 (readS s).2.2)]) (.s (.slice none 0 0)) (.s (.string (readS s).2.1)) (.s (.int .i64 (readS s).2.2)) (.s (.int .i64 (readS s).2.2)) (.s (.bool false)) (.s undef)
          refine ⟨(.tp [.s (.string (findF [] key).1), .s (.int .i64 (findF [] key).2)], h), ?_, Drops.refl _ _⟩
          apply FRun.of (e := .ret) (h24.trans p24)
          · apply hpre
            apply Run.seq
            · apply Run.seq
              · apply Run.step 20; intro k j
                simp [rowN]
                (first | rfl | (constructor <;> rfl))
              · apply Run.block_exit
                refine Run.loop_end_f ?_ (by simp) t2
                simp [forget, fg24, tail24, c24, fr24]
            · apply Run.step 20; intro k j
              simp
              (first | rfl | (constructor <;> rfl))
          · exact Or.inl rfl
          · simp [resAs, resA, tupA, t1, findF]
        · have e1 : rowN h.length E = .sl h.length 0 0 E.length 2 := if_neg hne
          rw [e1] at hrow hpre
          obtain ⟨i1, i2⟩ := rf_loop (T := T) s key (rowH h E) h.length 0 0 E.length E hrow hlen E.length 0 (rowH h E) (by omega) (fun _ _ => rfl) (Nat.le_refl _) (.s undef) (.s undef) (.sl h.length 0 0 E.length 2) (.s (.string (readS s).2.1)) (.s (.int .i64 (readS s).2.2)) (.s undef) (.s undef) (.tp [(.sl h.length 0 0 E.length 2), .s (.string (readS s).2.1), .s (.int .i64 (readS s).2.2)]) (.s (.string s)) (.tp [(.sl h.length 0 0 E.length 2), .s (.string (readS s).2.1), .s (.int .i64 (readS s).2.2)]) (.sl h.length 0 0 E.length 2) (.s (.string (readS s).2.1)) (.s (.int .i64 (readS s).2.2)) (.s (.int .i64 (readS s).2.2)) (.s (.bool false)) (.s undef)
          rw [List.drop_zero] at i1 i2
          have hg := rowH_grows h E
          have hgl := hg.len
          cases hf : E.find? (fun e => decide (e.1 = key)) with
          | some e =>
            obtain ⟨tm', H, t1, t2, t3, t4⟩ := i1 e hf
            have e3 : findF E key = (e.2, 0) := by unfold findF; rw [hf]
            rw [e3]
            refine ⟨(.tp [.s (.string e.2), .s (.int .i64 0)], H), ?_, Drops.flat (fun b hb => (t3 b (by omega)).trans (hg b hb)) rfl⟩
            apply FRun.of (e := .ret) (tm' := tm') (h24.trans p24)
            · apply hpre
              apply Run.seq_stop (by simp)
              apply Run.seq
              · apply Run.step 20; intro k j
                simp
                (first | rfl | (constructor <;> rfl))
              · apply Run.block_id (by simp)
                apply Run.loop_go' t4
                simp [forget, fg24, tail24, c24, fr24]
            · exact Or.inl rfl
            · simp [resAs, resA, tupA, t1, t2]
          | none =>
            obtain ⟨tm', H, t1, t3, t4⟩ := i2 hf
            have e3 : findF E key = (⟨#[]⟩, 3) := by unfold findF; rw [hf]
            rw [e3]
            refine ⟨(.tp [.s (.string ⟨#[]⟩), .s (.int .i64 3)], H), ?_, Drops.flat (fun b hb => (t3 b (by omega)).trans (hg b hb)) rfl⟩
            apply FRun.of (e := .ret) (h24.trans p24)
            · apply hpre
              apply Run.seq
              · apply Run.seq
                · apply Run.step 20; intro k j
                  simp
                  (first | rfl | (constructor <;> rfl))
                · apply Run.block_exit
                  apply Run.loop_go' t4
                  simp [forget, fg24, tail24, c24, fr24]
              · apply Run.step 20; intro k j
                simp
                (first | rfl | (constructor <;> rfl))
            · exact Or.inl rfl
            · simp [resAs, resA, tupA, t1]
      · rw [if_neg hw, if_neg hw]
        have hE := readS_err hw
        refine ⟨_, ?_, Drops.refl _ _⟩
        apply FRun.of (e := .ret) (h24.trans p24)
        · apply Run.step 30; intro k j
          simp [c24, c56, hkRead, hs, hE, rowN, rowH, eq_false hw]
          (first | rfl | (constructor <;> rfl))
        · exact Or.inl rfl
        · rfl
    · cases he
  · cases he
end Go.Proofs.Ytpmoellbfgcefaa.AS
end
section
set_option autoImplicit false
set_option maxRecDepth 100000
set_option maxHeartbeats 2000000
set_option linter.unusedSimpArgs false
namespace Go.Proofs.Ytpmoellbfgcefaa.AS
open Go Go.Proofs Go.RowKit Go.Proofs.Ytpmoellbfgcefaa.AS.V

def cellU (k : Int) : AV := .s (.int .u64 k)
def outU (b : Nat) : List Int → AV
  | [] => .s (.slice none 0 0)
  | _ :: L => .sl b L.length 0 (L.length + 1) 1
theorem outU_sl {b m : Nat} {L : List Int} (h : L.length = m + 1) : outU b L = .sl b m 0 (m + 1) 1 := by
  cases L with
  | nil => simp at h
  | cons x L => simp at h; simp [outU, h]
structure InvU (h0 h' : Heap) (b2 : Nat) (K : List Int) : Prop where
  old : ∀ b, b < h0.length → bk h' b = bk h0 b
  len : h0.length ≤ h'.length
  out : K ≠ [] → h0.length ≤ b2 ∧ bk h' b2 = some ⟨K.length - 1, 35, 1, true, K.map cellU⟩
def rowU (n : Nat) (K : List Int) : AV := if K = [] then .s (.slice none 0 0) else .sl n 0 0 K.length 1
def rowUH (h : Heap) (K : List Int) : Heap := if K = [] then h else h ++ [⟨0, 35, 1, true, K.map cellU⟩]
theorem flat_U : ∀ K : List Int, ∃ us, toVs (K.map cellU) = some us
  | [] => ⟨[], rfl⟩
  | x :: K => by
    obtain ⟨us, h⟩ := flat_U K
    exact ⟨.int .u64 x :: us, by simp [cellU, toVs, toV] at h ⊢; simp [h]⟩
theorem rowU_drop {h H : Heap} {b : Nat} {K : List Int} {l : List AV} {us : List Value} (hl : toVs l = some us) (h1 : ∀ b, b < h.length → bk H b = bk h b) (h2 : K ≠ [] → h.length ≤ b ∧ bk H b = some ⟨K.length - 1, 35, 1, true, K.map cellU⟩) :
    Drops h (.tp (outU b K :: l), H) (.tp (rowU h.length K :: l), rowUH h K) := by
  by_cases hK : K = []
  · subst hK
    exact Drops.flat (grows_of h1) (by simp [toV, toVs, outU, hl])
  · obtain ⟨a, c⟩ := h2 hK
    obtain ⟨us', hu⟩ := flat_U K
    have e1 : rowU h.length K = .sl h.length 0 0 K.length 1 := if_neg hK
    have e2 : rowUH h K = h ++ [⟨0, 35, 1, true, K.map cellU⟩] := if_neg hK
    have e3 : outU b K = .sl b (K.length - 1) 0 K.length 1 := by
      cases K with
      | nil => exact absurd rfl hK
      | cons x K => simp [outU]
    rw [e1, e2, e3]
    exact Drops.fresh (k := ⟨K.length - 1, 35, 1, true, K.map cellU⟩) (grows_of h1) a c hu hl
noncomputable def hkKeys : List AV → Heap → Option (AV × Heap)
  | [.s (.string s)], h => if s.size ≤ 9223372036854775807 then some (.tp [rowU h.length ((readS s).1.map (·.1)), .s (.int .i64 (readS s).2.2)], rowUH h ((readS s).1.map (·.1))) else none
  | _, _ => none

def fr27 (s : ByteArray) (a out : AV) (n j : Int) (a1 a2 a3 a4 a5 a6 a8 a9 a10 a11 a12 a13 a14 a15 a28 a29 : AV) : List AV := [.s (.string s), a1, a2, a3, a4, a5, a6, out, a8, a9, a10, a11, a12, a13, a14, a15, a, .s (.int .i64 n), .s (.int .i64 j)] ++ List.replicate 9 .any ++ [a28, a29]
noncomputable def tail27 : ACode := match c27 with
  | .seq _ (.seq _ t) => t
  | _ => .skip
noncomputable def body27 : ACode := match tail27 with
  | .seq _ (.seq (.seq _ (.block _ (.loop _ b))) _) => b
  | _ => .skip
noncomputable def fg27 : List Nat := match tail27 with
  | .seq _ (.seq (.seq _ (.block _ (.loop fg _))) _) => fg
  | _ => []
theorem k27_end {T : FuncId → Option AFunc} (s : ByteArray) (a out : AV) (n j : Int) (hj : ¬ j < n) (h : Heap) (a1 a2 a3 a4 a5 a6 a8 a9 a10 a11 a12 a13 a14 a15 a28 a29 : AV) : Run Try.prog T body27 (fr27 s a out n j a1 a2 a3 a4 a5 a6 a8 a9 a10 a11 a12 a13 a14 a15 a28 a29) h (.exit 0, (fr27 s a out n j a1 a2 a3 a4 a5 a6 a8 a9 a10 a11 a12 a13 a14 a15 a28 a29).set 19 (.s (.bool false)), h) := by
  apply Run.step 30; intro k j
  simp [c27, tail27, body27, fr27, eq_false hj]
theorem k27_one {T : FuncId → Option AFunc} (s : ByteArray) (h0 h' : Heap) (b v o n b2 : Nat) (E : List (Int × ByteArray)) (hE : rowOf h0 (.sl b v o n 2) = some E) (hn : n ≤ 65536) (K : List Int) (hI : InvU h0 h' b2 K) (j : Nat) (x : Int × ByteArray) (hx : E[j]? = some x) (hK : K.length = j) (a1 a2 a3 a4 a5 a6 a8 a9 a10 a11 a12 a13 a14 a15 a28 a29 : AV) :
    ∃ tm' H a9' b2', forget fg27 tm' = fr27 s (.sl b v o n 2) (outU b2' (K ++ [x.1])) n ((j : Int) + 1) a1 a2 a3 a4 a5 a6 a8 a9' a10 a11 a12 a13 a14 a15 a28 a29 ∧ InvU h0 H b2' (K ++ [x.1]) ∧ Run Try.prog T body27 (fr27 s (.sl b v o n 2) (outU b2 K) n j a1 a2 a3 a4 a5 a6 a8 a9 a10 a11 a12 a13 a14 a15 a28 a29) h' (.normal, tm', H) := by
  obtain ⟨e, sz, rw, C, hb, hle, hC1, hl⟩ := rowOf_sl hE
  obtain ⟨hjE, hxe⟩ := List.getElem?_eq_some_iff.1 hx
  have hlen := hI.len
  have hb' := (hI.old b (bk_lt hb)).trans hb
  have hrow := row_at (i := j) hC1 hl (by omega)
  rw [hxe] at hrow
  have hle2 : o + j * 2 + 2 ≤ C.length := by omega
  have hjn : (j : Int) < (n : Int) := by omega
  have w3 : IntKind.i64.wrap ((j : Int) + 1) = (j : Int) + 1 := w64k (by omega) (by omega)
  have hob : ∀ b, b < h0.length → b < h'.length := fun b hb => by omega
  cases K with
  | nil =>
    simp at hK
    subst hK
    refine ⟨?q1, ?q2, ?q3, h'.length + 2, ?q4, ?q5, Run.step 40 fun k j => ?q6⟩
    case q6 =>
      simp at hjn hrow hle2
      simp [c27, tail27, body27, fr27, outU, hjn, hb', hrow, hle2, oneOr, cellsOf, isCell, fillA, apV_nil, show IntKind.i64.wrap 1 = 1 from by decide]
      (first | rfl | (constructor <;> rfl))
    case q4 =>
      simp [forget, fg27, tail27, c27, fr27, outU]
      rfl
    case q5 =>
      refine ⟨fun b hb => ?_, ?_, fun _ => ⟨?_, ?_⟩⟩
      · simp [hob b hb, hI.old b hb]
      · simp; omega
      · omega
      · simp [cellU]
  | cons y K =>
    obtain ⟨o1, o2⟩ := hI.out (by simp)
    simp only [List.length_cons, Nat.add_sub_cancel] at o2 hK
    have hlo := bk_lt o2
    have n1 : b2 ≠ h'.length := by omega
    have n2 : b2 ≠ h'.length + 1 := by omega
    have b1 : (K.length + 1 + 1) * 8 ≤ 140737488355328 := by omega
    have b3 : K.length + 1 + 1 ≤ 9223372036854775807 := by omega
    have hDl : ((y :: K).map cellU).length = K.length + 1 := by simp
    have hall : ((y :: K).map cellU).take (K.length + 1) = (y :: K).map cellU := List.take_of_length_le (by simp)
    have hle3 : K.length + 1 ≤ ((y :: K).map cellU).length := by simp
    have e1 : outU b2 (y :: K) = .sl b2 K.length 0 (K.length + 1) 1 := rfl
    have e2 : outU b2 (y :: K ++ [x.1]) = .sl b2 (K.length + 1) 0 (K.length + 1 + 1) 1 := outU_sl (by simp)
    have e4 : (y :: K ++ [x.1]).map cellU = (y :: K).map cellU ++ [.s (.int .u64 x.1)] := by simp [cellU]
    have e5 : (y :: K ++ [x.1]).length - 1 = K.length + 1 := by simp
    generalize (y :: K).map cellU = D at *
    rw [e1]
    refine ⟨?r1, ?r2, ?r3, b2, ?r4, ?r5, Run.step 40 fun k j => ?r6⟩
    case r6 =>
      simp [c27, tail27, body27, fr27, hjn, hb', hrow, hle2, oneOr, cellsOf, isCell, fillA, apK_s, o2, hlo, n1, n2, b1, b3, hall, hle3, w3]
      (first | rfl | (constructor <;> rfl))
    case r4 =>
      rw [e2]
      simp [forget, fg27, tail27, c27, fr27]
      rfl
    case r5 =>
      refine ⟨fun b hb => ?_, ?_, fun _ => ⟨?_, ?_⟩⟩
      · have h4 : b2 ≠ b := by omega
        simp [hob b hb, h4, hI.old b hb]
      · simp; omega
      · omega
      · rw [e4, e5]
        simp [hlo]
theorem k27_loop {T : FuncId → Option AFunc} (s : ByteArray) (h0 : Heap) (b v o n : Nat) (E : List (Int × ByteArray)) (hE : rowOf h0 (.sl b v o n 2) = some E) (hn : n ≤ 65536) : ∀ (d j : Nat) (h' : Heap) (b2 : Nat) (K : List Int), j + d = n → K.length = j → InvU h0 h' b2 K → ∀ (a1 a2 a3 a4 a5 a6 a8 a9 a10 a11 a12 a13 a14 a15 a28 a29 : AV),
    ∃ a9' b2' H, InvU h0 H b2' (K ++ (E.drop j).map (·.1)) ∧ Run Try.prog T (.loop fg27 body27) (fr27 s (.sl b v o n 2) (outU b2 K) n j a1 a2 a3 a4 a5 a6 a8 a9 a10 a11 a12 a13 a14 a15 a28 a29) h' (.exit 0, (fr27 s (.sl b v o n 2) (outU b2' (K ++ (E.drop j).map (·.1))) n n a1 a2 a3 a4 a5 a6 a8 a9' a10 a11 a12 a13 a14 a15 a28 a29).set 19 (.s (.bool false)), H) := by
  have hl : E.length = n := (rowOf_sl hE).choose_spec.choose_spec.choose_spec.choose_spec.2.2.2
  have hfg : ∀ (a out : AV) (n j : Int) (a1 a2 a3 a4 a5 a6 a8 a9 a10 a11 a12 a13 a14 a15 a28 a29 : AV), forget fg27 (fr27 s a out n j a1 a2 a3 a4 a5 a6 a8 a9 a10 a11 a12 a13 a14 a15 a28 a29) = fr27 s a out n j a1 a2 a3 a4 a5 a6 a8 a9 a10 a11 a12 a13 a14 a15 a28 a29 := fun a out n j a1 a2 a3 a4 a5 a6 a8 a9 a10 a11 a12 a13 a14 a15 a28 a29 => by simp [forget, fg27, tail27, c27, fr27]
  intro d
  induction d with
  | zero =>
    intro j h' b2 K hd hK hI a1 a2 a3 a4 a5 a6 a8 a9 a10 a11 a12 a13 a14 a15 a28 a29
    rw [List.drop_eq_nil_of_le (by omega), List.map_nil, List.append_nil]
    obtain rfl : j = n := by omega
    exact ⟨a9, b2, h', hI, Run.loop_end_f (hfg _ _ _ _ a1 a2 a3 a4 a5 a6 a8 a9 a10 a11 a12 a13 a14 a15 a28 a29) (by simp) (k27_end (T := T) s (.sl b v o j 2) (outU b2 K) j j (by omega) h' a1 a2 a3 a4 a5 a6 a8 a9 a10 a11 a12 a13 a14 a15 a28 a29)⟩
  | succ d ih =>
    intro j h' b2 K hd hK hI a1 a2 a3 a4 a5 a6 a8 a9 a10 a11 a12 a13 a14 a15 a28 a29
    obtain ⟨x, hx⟩ : ∃ x, E[j]? = some x := ⟨_, List.getElem?_eq_getElem (by omega)⟩
    obtain ⟨hlt, hx2⟩ := List.getElem?_eq_some_iff.1 hx
    have e : E.drop j = x :: E.drop (j + 1) := by rw [List.drop_eq_getElem_cons hlt, hx2]
    obtain ⟨tm1, H1, a9', b2', x1, x2, x3⟩ := k27_one (T := T) s h0 h' b v o n b2 E hE hn K hI j x hx hK a1 a2 a3 a4 a5 a6 a8 a9 a10 a11 a12 a13 a14 a15 a28 a29
    obtain ⟨a9'', b3, H, y1, y2⟩ := ih (j + 1) H1 b2' (K ++ [x.1]) (by omega) (by simp [hK]) x2 a1 a2 a3 a4 a5 a6 a8 a9' a10 a11 a12 a13 a14 a15 a28 a29
    rw [List.append_assoc] at y1 y2
    rw [e, List.map_cons]
    exact ⟨a9'', b3, H, y1, Run.loop_go (hfg _ _ _ _ a1 a2 a3 a4 a5 a6 a8 a9 a10 a11 a12 a13 a14 a15 a28 a29) x3 x1 y2⟩
theorem hkKeys27_ok {T : FuncId → Option AFunc} (hm : Try.prog.follows .mixedOrders = true) (hT : TabOK Try.prog T) (hF : T 27 = prepFn Try.prog 27) (hR : T 33 = some (.hook hkRead)) (hc : callable Try.prog 27 = true) : HookSound Try.prog 27 hkKeys := by
  refine hookOf hm hT hc fun l h r he => ?_
  unfold hkKeys at he
  split at he
  · rename_i s
    split at he
    · rename_i hs
      cases he
      have cR := fun k l h => evFn_hook (P := Try.prog) (T := T) (k := k) (f := 33) (args := l) (h := h) hR
      have hlen := readS_len hs
      have hrow := rowOf_new h (readS s).1
      have hpre : ∀ {r : Res}, Run Try.prog T tail27 ([.s (.string s), .s undef, .s (.slice none 0 0), .s (.int .i64 0), rowN h.length (readS s).1, .s (.string (readS s).2.1), .s (.int .i64 (readS s).2.2), .s undef, .s undef, .s undef, .tp [rowN h.length (readS s).1, .s (.string (readS s).2.1), .s (.int .i64 (readS s).2.2)], .s (.string s), .tp [rowN h.length (readS s).1, .s (.string (readS s).2.1), .s (.int .i64 (readS s).2.2)], rowN h.length (readS s).1, .s (.string (readS s).2.1), .s (.int .i64 (readS s).2.2)] ++ List.replicate 14 (.s undef)) (rowH h (readS s).1) r → Run Try.prog T c27 ([.s (.string s)] ++ List.replicate 29 (.s undef)) h r := fun {r} H => by
        apply Run.seq
        · apply Run.step 20; intro k j
          simp
          (first | rfl | (constructor <;> rfl))
        · apply Run.seq
          · apply Run.step 20; intro k j
            simp [cR, hkRead, hs]
            (first | rfl | (constructor <;> rfl))
          · exact H
      generalize hE : (readS s).1 = E at *
      by_cases hne : E = []
      · subst hne
        have t2 := k27_end (T := T) s (.s (.slice none 0 0)) (.s (.slice none 0 0)) 0 0 (by omega) h (.s undef) (.s (.slice none 0 0)) (.s (.int .i64 0)) (.s (.slice none 0 0)) (.s (.string (readS s).2.1)) (.s (.int .i64 (readS s).2.2)) (.s undef) (.s undef) (.tp [(.s (.slice none 0 0)), .s (.string (readS s).2.1), .s (.int .i64 (readS s).2.2)]) (.s (.string s)) (.tp [(.s (.slice none 0 0)), .s (.string (readS s).2.1), .s (.int .i64 (readS s).2.2)]) (.s (.slice none 0 0)) (.s (.string (readS s).2.1)) (.s (.int .i64 (readS s).2.2)) (.s undef) (.s undef)
        refine ⟨(.tp [.s (.slice none 0 0), .s (.int .i64 (readS s).2.2)], h), ?_, Drops.refl _ _⟩
        apply FRun.of (e := .ret) (hF.trans p27)
        · apply hpre
          apply Run.seq
          · apply Run.step 20; intro k j
            simp [rowN]
            (first | rfl | (constructor <;> rfl))
          · apply Run.seq
            · apply Run.seq
              · apply Run.step 20; intro k j
                simp
                (first | rfl | (constructor <;> rfl))
              · apply Run.block_exit
                refine Run.loop_end_f ?_ (by simp) t2
                simp [forget, fg27, tail27, c27, fr27]
            · apply Run.step 20; intro k j
              simp [fr27]
              (first | rfl | (constructor <;> rfl))
        · exact Or.inl rfl
        · rfl
      · have e1 : rowN h.length E = .sl h.length 0 0 E.length 2 := if_neg hne
        rw [e1] at hrow hpre
        obtain ⟨a9', b2', H, y1, y2⟩ := k27_loop (T := T) s (rowH h E) h.length 0 0 E.length E hrow hlen E.length 0 (rowH h E) 0 [] (by omega) rfl ⟨fun _ _ => rfl, Nat.le_refl _, fun h => absurd rfl h⟩ (.s undef) (.s (.slice none 0 0)) (.s (.int .i64 0)) (.sl h.length 0 0 E.length 2) (.s (.string (readS s).2.1)) (.s (.int .i64 (readS s).2.2)) (.s undef) (.s undef) (.tp [(.sl h.length 0 0 E.length 2), .s (.string (readS s).2.1), .s (.int .i64 (readS s).2.2)]) (.s (.string s)) (.tp [(.sl h.length 0 0 E.length 2), .s (.string (readS s).2.1), .s (.int .i64 (readS s).2.2)]) (.sl h.length 0 0 E.length 2) (.s (.string (readS s).2.1)) (.s (.int .i64 (readS s).2.2)) (.s undef) (.s undef)
        rw [List.drop_zero, List.nil_append] at y1 y2
        have hg := rowH_grows h E
        have hgl := hg.len
        refine ⟨(.tp [outU b2' (E.map (·.1)), .s (.int .i64 (readS s).2.2)], H), ?_, rowU_drop (us := [.int .i64 (readS s).2.2]) rfl (fun b hb => (y1.old b (by omega)).trans (hg b hb)) (fun hK => ⟨by have := (y1.out hK).1; omega, (y1.out hK).2⟩)⟩
        apply FRun.of (e := .ret) (hF.trans p27)
        · apply hpre
          apply Run.seq
          · apply Run.step 20; intro k j
            simp
            (first | rfl | (constructor <;> rfl))
          · apply Run.seq
            · apply Run.seq
              · apply Run.step 20; intro k j
                simp
                (first | rfl | (constructor <;> rfl))
              · apply Run.block_exit
                apply Run.loop_go' y2
                simp [forget, fg27, tail27, c27, fr27, outU]
            · apply Run.step 20; intro k j
              simp [fr27]
              (first | rfl | (constructor <;> rfl))
        · exact Or.inl rfl
        · rfl
    · cases he
  · cases he
end Go.Proofs.Ytpmoellbfgcefaa.AS
end
section
set_option autoImplicit false
set_option maxRecDepth 100000
set_option maxHeartbeats 2000000
set_option linter.unusedSimpArgs false
namespace Go.Proofs.Ytpmoellbfgcefaa.AS
open Go Go.Proofs Go.RowKit Go.Proofs.Ytpmoellbfgcefaa.AS.V

def fr28 (s : ByteArray) (a out : AV) (n j : Int) (a1 a2 a3 a4 a5 a6 a8 a9 a10 a11 a12 a13 a14 a15 a28 a29 : AV) : List AV := [.s (.string s), a1, a2, a3, a4, a5, a6, out, a8, a9, a10, a11, a12, a13, a14, a15, a, .s (.int .i64 n), .s (.int .i64 j)] ++ List.replicate 9 .any ++ [a28, a29]
noncomputable def tail28 : ACode := match c28 with
  | .seq _ (.seq _ t) => t
  | _ => .skip
noncomputable def body28 : ACode := match tail28 with
  | .seq _ (.seq (.seq _ (.block _ (.loop _ b))) _) => b
  | _ => .skip
noncomputable def fg28 : List Nat := match tail28 with
  | .seq _ (.seq (.seq _ (.block _ (.loop fg _))) _) => fg
  | _ => []
theorem k28_end {T : FuncId → Option AFunc} (s : ByteArray) (a out : AV) (n j : Int) (hj : ¬ j < n) (h : Heap) (a1 a2 a3 a4 a5 a6 a8 a9 a10 a11 a12 a13 a14 a15 a28 a29 : AV) : Run Try.prog T body28 (fr28 s a out n j a1 a2 a3 a4 a5 a6 a8 a9 a10 a11 a12 a13 a14 a15 a28 a29) h (.exit 0, (fr28 s a out n j a1 a2 a3 a4 a5 a6 a8 a9 a10 a11 a12 a13 a14 a15 a28 a29).set 19 (.s (.bool false)), h) := by
  apply Run.step 30; intro k j
  simp [c28, tail28, body28, fr28, eq_false hj]
theorem k28_one {T : FuncId → Option AFunc} (s : ByteArray) (h0 h' : Heap) (b v o n b2 : Nat) (E : List (Int × ByteArray)) (hE : rowOf h0 (.sl b v o n 2) = some E) (hn : n ≤ 65536) (K : List Int) (hI : InvU h0 h' b2 K) (j : Nat) (x : Int × ByteArray) (hx : E[j]? = some x) (hK : K.length = j) (a1 a2 a3 a4 a5 a6 a8 a9 a10 a11 a12 a13 a14 a15 a28 a29 : AV) :
    ∃ tm' H a9' b2', forget fg28 tm' = fr28 s (.sl b v o n 2) (outU b2' (K ++ [x.1])) n ((j : Int) + 1) a1 a2 a3 a4 a5 a6 a8 a9' a10 a11 a12 a13 a14 a15 a28 a29 ∧ InvU h0 H b2' (K ++ [x.1]) ∧ Run Try.prog T body28 (fr28 s (.sl b v o n 2) (outU b2 K) n j a1 a2 a3 a4 a5 a6 a8 a9 a10 a11 a12 a13 a14 a15 a28 a29) h' (.normal, tm', H) := by
  obtain ⟨e, sz, rw, C, hb, hle, hC1, hl⟩ := rowOf_sl hE
  obtain ⟨hjE, hxe⟩ := List.getElem?_eq_some_iff.1 hx
  have hlen := hI.len
  have hb' := (hI.old b (bk_lt hb)).trans hb
  have hrow := row_at (i := j) hC1 hl (by omega)
  rw [hxe] at hrow
  have hle2 : o + j * 2 + 2 ≤ C.length := by omega
  have hjn : (j : Int) < (n : Int) := by omega
  have w3 : IntKind.i64.wrap ((j : Int) + 1) = (j : Int) + 1 := w64k (by omega) (by omega)
  have hob : ∀ b, b < h0.length → b < h'.length := fun b hb => by omega
  cases K with
  | nil =>
    simp at hK
    subst hK
    refine ⟨?q1, ?q2, ?q3, h'.length + 2, ?q4, ?q5, Run.step 40 fun k j => ?q6⟩
    case q6 =>
      simp at hjn hrow hle2
      simp [c28, tail28, body28, fr28, outU, hjn, hb', hrow, hle2, oneOr, cellsOf, isCell, fillA, apV_nil, show IntKind.i64.wrap 1 = 1 from by decide]
      (first | rfl | (constructor <;> rfl))
    case q4 =>
      simp [forget, fg28, tail28, c28, fr28, outU]
      rfl
    case q5 =>
      refine ⟨fun b hb => ?_, ?_, fun _ => ⟨?_, ?_⟩⟩
      · simp [hob b hb, hI.old b hb]
      · simp; omega
      · omega
      · simp [cellU]
  | cons y K =>
    obtain ⟨o1, o2⟩ := hI.out (by simp)
    simp only [List.length_cons, Nat.add_sub_cancel] at o2 hK
    have hlo := bk_lt o2
    have n1 : b2 ≠ h'.length := by omega
    have n2 : b2 ≠ h'.length + 1 := by omega
    have b1 : (K.length + 1 + 1) * 8 ≤ 140737488355328 := by omega
    have b3 : K.length + 1 + 1 ≤ 9223372036854775807 := by omega
    have hDl : ((y :: K).map cellU).length = K.length + 1 := by simp
    have hall : ((y :: K).map cellU).take (K.length + 1) = (y :: K).map cellU := List.take_of_length_le (by simp)
    have hle3 : K.length + 1 ≤ ((y :: K).map cellU).length := by simp
    have e1 : outU b2 (y :: K) = .sl b2 K.length 0 (K.length + 1) 1 := rfl
    have e2 : outU b2 (y :: K ++ [x.1]) = .sl b2 (K.length + 1) 0 (K.length + 1 + 1) 1 := outU_sl (by simp)
    have e4 : (y :: K ++ [x.1]).map cellU = (y :: K).map cellU ++ [.s (.int .u64 x.1)] := by simp [cellU]
    have e5 : (y :: K ++ [x.1]).length - 1 = K.length + 1 := by simp
    generalize (y :: K).map cellU = D at *
    rw [e1]
    refine ⟨?r1, ?r2, ?r3, b2, ?r4, ?r5, Run.step 40 fun k j => ?r6⟩
    case r6 =>
      simp [c28, tail28, body28, fr28, hjn, hb', hrow, hle2, oneOr, cellsOf, isCell, fillA, apK_s, o2, hlo, n1, n2, b1, b3, hall, hle3, w3]
      (first | rfl | (constructor <;> rfl))
    case r4 =>
      rw [e2]
      simp [forget, fg28, tail28, c28, fr28]
      rfl
    case r5 =>
      refine ⟨fun b hb => ?_, ?_, fun _ => ⟨?_, ?_⟩⟩
      · have h4 : b2 ≠ b := by omega
        simp [hob b hb, h4, hI.old b hb]
      · simp; omega
      · omega
      · rw [e4, e5]
        simp [hlo]
theorem k28_loop {T : FuncId → Option AFunc} (s : ByteArray) (h0 : Heap) (b v o n : Nat) (E : List (Int × ByteArray)) (hE : rowOf h0 (.sl b v o n 2) = some E) (hn : n ≤ 65536) : ∀ (d j : Nat) (h' : Heap) (b2 : Nat) (K : List Int), j + d = n → K.length = j → InvU h0 h' b2 K → ∀ (a1 a2 a3 a4 a5 a6 a8 a9 a10 a11 a12 a13 a14 a15 a28 a29 : AV),
    ∃ a9' b2' H, InvU h0 H b2' (K ++ (E.drop j).map (·.1)) ∧ Run Try.prog T (.loop fg28 body28) (fr28 s (.sl b v o n 2) (outU b2 K) n j a1 a2 a3 a4 a5 a6 a8 a9 a10 a11 a12 a13 a14 a15 a28 a29) h' (.exit 0, (fr28 s (.sl b v o n 2) (outU b2' (K ++ (E.drop j).map (·.1))) n n a1 a2 a3 a4 a5 a6 a8 a9' a10 a11 a12 a13 a14 a15 a28 a29).set 19 (.s (.bool false)), H) := by
  have hl : E.length = n := (rowOf_sl hE).choose_spec.choose_spec.choose_spec.choose_spec.2.2.2
  have hfg : ∀ (a out : AV) (n j : Int) (a1 a2 a3 a4 a5 a6 a8 a9 a10 a11 a12 a13 a14 a15 a28 a29 : AV), forget fg28 (fr28 s a out n j a1 a2 a3 a4 a5 a6 a8 a9 a10 a11 a12 a13 a14 a15 a28 a29) = fr28 s a out n j a1 a2 a3 a4 a5 a6 a8 a9 a10 a11 a12 a13 a14 a15 a28 a29 := fun a out n j a1 a2 a3 a4 a5 a6 a8 a9 a10 a11 a12 a13 a14 a15 a28 a29 => by simp [forget, fg28, tail28, c28, fr28]
  intro d
  induction d with
  | zero =>
    intro j h' b2 K hd hK hI a1 a2 a3 a4 a5 a6 a8 a9 a10 a11 a12 a13 a14 a15 a28 a29
    rw [List.drop_eq_nil_of_le (by omega), List.map_nil, List.append_nil]
    obtain rfl : j = n := by omega
    exact ⟨a9, b2, h', hI, Run.loop_end_f (hfg _ _ _ _ a1 a2 a3 a4 a5 a6 a8 a9 a10 a11 a12 a13 a14 a15 a28 a29) (by simp) (k28_end (T := T) s (.sl b v o j 2) (outU b2 K) j j (by omega) h' a1 a2 a3 a4 a5 a6 a8 a9 a10 a11 a12 a13 a14 a15 a28 a29)⟩
  | succ d ih =>
    intro j h' b2 K hd hK hI a1 a2 a3 a4 a5 a6 a8 a9 a10 a11 a12 a13 a14 a15 a28 a29
    obtain ⟨x, hx⟩ : ∃ x, E[j]? = some x := ⟨_, List.getElem?_eq_getElem (by omega)⟩
    obtain ⟨hlt, hx2⟩ := List.getElem?_eq_some_iff.1 hx
    have e : E.drop j = x :: E.drop (j + 1) := by rw [List.drop_eq_getElem_cons hlt, hx2]
    obtain ⟨tm1, H1, a9', b2', x1, x2, x3⟩ := k28_one (T := T) s h0 h' b v o n b2 E hE hn K hI j x hx hK a1 a2 a3 a4 a5 a6 a8 a9 a10 a11 a12 a13 a14 a15 a28 a29
    obtain ⟨a9'', b3, H, y1, y2⟩ := ih (j + 1) H1 b2' (K ++ [x.1]) (by omega) (by simp [hK]) x2 a1 a2 a3 a4 a5 a6 a8 a9' a10 a11 a12 a13 a14 a15 a28 a29
    rw [List.append_assoc] at y1 y2
    rw [e, List.map_cons]
    exact ⟨a9'', b3, H, y1, Run.loop_go (hfg _ _ _ _ a1 a2 a3 a4 a5 a6 a8 a9 a10 a11 a12 a13 a14 a15 a28 a29) x3 x1 y2⟩
theorem hkKeys28_ok {T : FuncId → Option AFunc} (hm : Try.prog.follows .mixedOrders = true) (hT : TabOK Try.prog T) (hF : T 28 = prepFn Try.prog 28) (hR : T 56 = some (.hook hkRead)) (hc : callable Try.prog 28 = true) : HookSound Try.prog 28 hkKeys := by
  refine hookOf hm hT hc fun l h r he => ?_
  unfold hkKeys at he
  split at he
  · rename_i s
    split at he
    · rename_i hs
      cases he
      have cR := fun k l h => evFn_hook (P := Try.prog) (T := T) (k := k) (f := 56) (args := l) (h := h) hR
      have hlen := readS_len hs
      have hrow := rowOf_new h (readS s).1
      have hpre : ∀ {r : Res}, Run Try.prog T tail28 ([.s (.string s), .s undef, .s (.slice none 0 0), .s (.int .i64 0), rowN h.length (readS s).1, .s (.string (readS s).2.1), .s (.int .i64 (readS s).2.2), .s undef, .s undef, .s undef, .tp [rowN h.length (readS s).1, .s (.string (readS s).2.1), .s (.int .i64 (readS s).2.2)], .s (.string s), .tp [rowN h.length (readS s).1, .s (.string (readS s).2.1), .s (.int .i64 (readS s).2.2)], rowN h.length (readS s).1, .s (.string (readS s).2.1), .s (.int .i64 (readS s).2.2)] ++ List.replicate 14 (.s undef)) (rowH h (readS s).1) r → Run Try.prog T c28 ([.s (.string s)] ++ List.replicate 29 (.s undef)) h r := fun {r} H => by
        apply Run.seq
        · apply Run.step 20; intro k j
          simp
          (first | rfl | (constructor <;> rfl))
        · apply Run.seq
          · apply Run.step 20; intro k j
            simp [cR, hkRead, hs]
            (first | rfl | (constructor <;> rfl))
          · exact H
      generalize hE : (readS s).1 = E at *
      by_cases hne : E = []
      · subst hne
        have t2 := k28_end (T := T) s (.s (.slice none 0 0)) (.s (.slice none 0 0)) 0 0 (by omega) h (.s undef) (.s (.slice none 0 0)) (.s (.int .i64 0)) (.s (.slice none 0 0)) (.s (.string (readS s).2.1)) (.s (.int .i64 (readS s).2.2)) (.s undef) (.s undef) (.tp [(.s (.slice none 0 0)), .s (.string (readS s).2.1), .s (.int .i64 (readS s).2.2)]) (.s (.string s)) (.tp [(.s (.slice none 0 0)), .s (.string (readS s).2.1), .s (.int .i64 (readS s).2.2)]) (.s (.slice none 0 0)) (.s (.string (readS s).2.1)) (.s (.int .i64 (readS s).2.2)) (.s undef) (.s undef)
        refine ⟨(.tp [.s (.slice none 0 0), .s (.int .i64 (readS s).2.2)], h), ?_, Drops.refl _ _⟩
        apply FRun.of (e := .ret) (hF.trans p28)
        · apply hpre
          apply Run.seq
          · apply Run.step 20; intro k j
            simp [rowN]
            (first | rfl | (constructor <;> rfl))
          · apply Run.seq
            · apply Run.seq
              · apply Run.step 20; intro k j
                simp
                (first | rfl | (constructor <;> rfl))
              · apply Run.block_exit
                refine Run.loop_end_f ?_ (by simp) t2
                simp [forget, fg28, tail28, c28, fr28]
            · apply Run.step 20; intro k j
              simp [fr28]
              (first | rfl | (constructor <;> rfl))
        · exact Or.inl rfl
        · rfl
      · have e1 : rowN h.length E = .sl h.length 0 0 E.length 2 := if_neg hne
        rw [e1] at hrow hpre
        obtain ⟨a9', b2', H, y1, y2⟩ := k28_loop (T := T) s (rowH h E) h.length 0 0 E.length E hrow hlen E.length 0 (rowH h E) 0 [] (by omega) rfl ⟨fun _ _ => rfl, Nat.le_refl _, fun h => absurd rfl h⟩ (.s undef) (.s (.slice none 0 0)) (.s (.int .i64 0)) (.sl h.length 0 0 E.length 2) (.s (.string (readS s).2.1)) (.s (.int .i64 (readS s).2.2)) (.s undef) (.s undef) (.tp [(.sl h.length 0 0 E.length 2), .s (.string (readS s).2.1), .s (.int .i64 (readS s).2.2)]) (.s (.string s)) (.tp [(.sl h.length 0 0 E.length 2), .s (.string (readS s).2.1), .s (.int .i64 (readS s).2.2)]) (.sl h.length 0 0 E.length 2) (.s (.string (readS s).2.1)) (.s (.int .i64 (readS s).2.2)) (.s undef) (.s undef)
        rw [List.drop_zero, List.nil_append] at y1 y2
        have hg := rowH_grows h E
        have hgl := hg.len
        refine ⟨(.tp [outU b2' (E.map (·.1)), .s (.int .i64 (readS s).2.2)], H), ?_, rowU_drop (us := [.int .i64 (readS s).2.2]) rfl (fun b hb => (y1.old b (by omega)).trans (hg b hb)) (fun hK => ⟨by have := (y1.out hK).1; omega, (y1.out hK).2⟩)⟩
        apply FRun.of (e := .ret) (hF.trans p28)
        · apply hpre
          apply Run.seq
          · apply Run.step 20; intro k j
            simp
            (first | rfl | (constructor <;> rfl))
          · apply Run.seq
            · apply Run.seq
              · apply Run.step 20; intro k j
                simp
                (first | rfl | (constructor <;> rfl))
              · apply Run.block_exit
                apply Run.loop_go' y2
                simp [forget, fg28, tail28, c28, fr28, outU]
            · apply Run.step 20; intro k j
              simp [fr28]
              (first | rfl | (constructor <;> rfl))
        · exact Or.inl rfl
        · rfl
    · cases he
  · cases he
end Go.Proofs.Ytpmoellbfgcefaa.AS
end
