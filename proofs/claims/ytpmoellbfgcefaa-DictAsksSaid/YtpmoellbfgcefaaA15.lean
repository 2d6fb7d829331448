/- Of our own: an abstract machine beside the model, its soundness, and walks of the program in it. -/
import Derived.Test.YtpmoellbfgcefaaA14
set_option linter.unusedSimpArgs false
set_option linter.unusedVariables false
section
set_option autoImplicit false
set_option maxRecDepth 100000
set_option maxHeartbeats 2000000
set_option linter.unusedSimpArgs false
namespace Go.Proofs.Ytpmoellbfgcefaa.AS
open Go Go.Proofs Go.RowKit Go.Proofs.Ytpmoellbfgcefaa.AS.V

theorem bk_grows {h h1 : Heap} (g : Grows h h1) {b : Nat} {k : Blk} (e : bk h b = some k) : bk h1 b = some k := (g b (bk_lt e)).trans e
theorem rdK_grows {h h1 : Heap} (g : Grows h h1) {b v o n : Nat} {l : List AV} (e : rdK (bk h b) v o n = some l) : rdK (bk h1 b) v o n = some l := by
  cases hb : bk h b with
  | none => rw [hb] at e; simp [rdK] at e
  | some k => rw [bk_grows g hb, ← hb]; exact e
theorem rowOf_grows {h h1 : Heap} (g : Grows h h1) {a : AV} {E : List (Int × ByteArray)} (e : rowOf h a = some E) : rowOf h1 a = some E := by
  unfold rowOf at e ⊢
  split at e
  · exact e
  · rename_i b v o n
    cases hr : rdK (bk h b) v o (n * 2) with
    | none => rw [hr] at e; cases e
    | some l => rw [rdK_grows g hr]; rw [hr] at e; exact e
  · cases e
theorem rowUOf_grows {h h1 : Heap} (g : Grows h h1) {a : AV} {E : List Int} (e : rowUOf h a = some E) : rowUOf h1 a = some E := by
  unfold rowUOf at e ⊢
  split at e
  · exact e
  · rename_i b v o n
    cases hr : rdK (bk h b) v o n with
    | none => rw [hr] at e; cases e
    | some l => rw [rdK_grows g hr]; rw [hr] at e; exact e
  · cases e
theorem rowUH_grows (h : Heap) (K : List Int) : Grows h (rowUH h K) := by
  unfold rowUH; split
  · exact Grows.refl h
  · exact Grows.app h _
theorem rangeF_empty {E : List (Int × ByteArray)} {a b : Int} (h : b < a) : rangeF E a b = [] := by
  unfold rangeF
  rw [List.filter_eq_nil_iff]
  intro e _
  simp; omega
theorem range25 (s : ByteArray) (hs : s.size ≤ 9223372036854775807) (a b : Int) (h : Heap) : ∃ A H, hkRange [.s (.string s), .s (.int .u64 a), .s (.int .u64 b)] h = some (.tp [A, .s (.int .i64 (readS s).2.2)], H) ∧ rowOf H A = some (rangeF (readS s).1 a b) ∧ Grows h H := by
  by_cases hb : b < a
  · exact ⟨.s (.slice none 0 0), h, by simp [hkRange, hs, hb], by rw [rangeF_empty hb]; rfl, Grows.refl h⟩
  · refine ⟨_, _, by simp only [hkRange]; rw [if_pos hs, if_neg hb], ?_, ?_⟩
    · by_cases hE : (readS s).1 = []
      · rw [hE]; rfl
      · have e1 : ∀ F, rngA h.length (readS s).1 F = .sl h.length 0 0 F.length 2 := fun F => if_neg hE
        have e2 : ∀ F, rngH h (readS s).1 F = h ++ [⟨0, 52, 2, true, F.flatMap entC⟩] := fun F => if_neg hE
        rw [e1, e2]
        generalize rangeF (readS s).1 a b = F
        have hl := entC_len F
        simp only [rowOf]
        rw [bk_new, rdK_s, if_pos ⟨rfl, by omega⟩, List.drop_zero, List.take_of_length_le (by omega)]
        exact entsA_entC F
    · unfold rngH; split
      · exact Grows.refl h
      · exact Grows.app h _
theorem asks_run {T : FuncId → Option AFunc} (h23 : T 23 = some (.hook hkFind)) (h24 : T 24 = some (.hook hkFind)) (h25 : T 25 = some (.hook hkRange)) (h26 : T 26 = some (.hook hkRangeR)) (h27 : T 27 = some (.hook hkKeys)) (h28 : T 28 = some (.hook hkKeys)) (h30 : T 30 = some (.hook hkSame30)) (h31 : T 31 = some (.hook hkSame31)) (h29 : T 29 = some (.hook fun l h => (hkYes l).map fun x => (x, h))) (h5 : T 5 = prepFn Try.prog 5) (s : ByteArray) (hs : s.size ≤ 9223372036854775807) (key to : Int) (h : Heap) : ∃ H, FRun Try.prog T 5 [.s (.string s), .s (.int .u64 key), .s (.int .u64 to)] h (.s (.bool true), H) := by
  have c23 := fun k l h => evFn_hook (P := Try.prog) (T := T) (k := k) (f := 23) (args := l) (h := h) h23
  have c24 := fun k l h => evFn_hook (P := Try.prog) (T := T) (k := k) (f := 24) (args := l) (h := h) h24
  have c25 := fun k l h => evFn_hook (P := Try.prog) (T := T) (k := k) (f := 25) (args := l) (h := h) h25
  have c26 := fun k l h => evFn_hook (P := Try.prog) (T := T) (k := k) (f := 26) (args := l) (h := h) h26
  have c27 := fun k l h => evFn_hook (P := Try.prog) (T := T) (k := k) (f := 27) (args := l) (h := h) h27
  have c28 := fun k l h => evFn_hook (P := Try.prog) (T := T) (k := k) (f := 28) (args := l) (h := h) h28
  have c29 := fun k l h => evFn_hook (P := Try.prog) (T := T) (k := k) (f := 29) (args := l) (h := h) h29
  have c30 := fun k l h => evFn_hook (P := Try.prog) (T := T) (k := k) (f := 30) (args := l) (h := h) h30
  have c31 := fun k l h => evFn_hook (P := Try.prog) (T := T) (k := k) (f := 31) (args := l) (h := h) h31
  have hT : T 5 = prepFn Try.prog 5 := h5
  have hlen := readS_len hs
  have hf : ∀ h, hkFind [.s (.string s), .s (.int .u64 key)] h = some (.tp [.s (.string (if (readS s).2.2 = 0 then (findF (readS s).1 key).1 else ⟨#[]⟩)), .s (.int .i64 (if (readS s).2.2 = 0 then (findF (readS s).1 key).2 else (readS s).2.2))], h) := fun h => by simp only [hkFind]; rw [if_pos hs]
  generalize (if (readS s).2.2 = 0 then (findF (readS s).1 key).1 else ⟨#[]⟩) = fd at hf
  generalize (if (readS s).2.2 = 0 then (findF (readS s).1 key).2 else (readS s).2.2) = fe at hf
  obtain ⟨A1, H1, e25, r25, g1⟩ := range25 s hs key to h
  have e26 : hkRangeR [.s (.string s), .s (.int .u64 key), .s (.int .u64 to)] H1 = some (.tp [rowN H1.length (rangeF (readS s).1 key to), .s (.int .i64 (readS s).2.2)], rowH H1 (rangeF (readS s).1 key to)) := by simp only [hkRangeR]; rw [if_pos hs]
  have r26 := rowOf_new H1 (rangeF (readS s).1 key to)
  have g2 := rowH_grows H1 (rangeF (readS s).1 key to)
  have hF : (rangeF (readS s).1 key to).length ≤ 4611686018427387903 := by
    have := List.length_filter_le (fun e : Int × ByteArray => decide (key ≤ e.1) && decide (e.1 ≤ to)) (readS s).1
    unfold rangeF; omega
  generalize rowN H1.length (rangeF (readS s).1 key to) = A2 at *
  generalize rowH H1 (rangeF (readS s).1 key to) = H2 at *
  generalize rangeF (readS s).1 key to = F at *
  have e27 : ∀ h, hkKeys [.s (.string s)] h = some (.tp [rowU h.length ((readS s).1.map (·.1)), .s (.int .i64 (readS s).2.2)], rowUH h ((readS s).1.map (·.1))) := fun h => by simp only [hkKeys]; rw [if_pos hs]
  have r27 := rowU_new H2 ((readS s).1.map (·.1))
  have g3 := rowUH_grows H2 ((readS s).1.map (·.1))
  have r28 := rowU_new (rowUH H2 ((readS s).1.map (·.1))) ((readS s).1.map (·.1))
  have g4 := rowUH_grows (rowUH H2 ((readS s).1.map (·.1))) ((readS s).1.map (·.1))
  have hK : ((readS s).1.map (·.1)).length ≤ 4611686018427387903 := by simp; omega
  have e27' := e27 H2
  have e28' := e27 (rowUH H2 ((readS s).1.map (·.1)))
  clear e27
  generalize (readS s).1.map (·.1) = K at *
  generalize (readS s).2.2 = w at *
  generalize rowU H2.length K = A3 at *
  generalize rowUH H2 K = H3 at *
  generalize rowU H3.length K = A4 at *
  generalize rowUH H3 K = H4 at *
  have q1 := rowOf_grows g4 (rowOf_grows g3 (rowOf_grows g2 r25))
  have q2 := rowOf_grows g4 (rowOf_grows g3 r26)
  have q3 := rowUOf_grows g4 r27
  refine ⟨H4, ?_⟩
  apply FRun.of (e := .ret) (hT.trans p5)
  · apply Run.seq
    · apply Run.step 30; intro k j
      simp
      (first | rfl | (constructor <;> rfl))
    · apply Run.seq
      · apply Run.step 30; intro k j
        simp [c23, hf]
        (first | rfl | (constructor <;> rfl))
      · apply Run.seq
        · apply Run.step 30; intro k j
          simp [c24, hf]
          (first | rfl | (constructor <;> rfl))
        · apply Run.seq
          · apply Run.step 30; intro k j
            simp [c25, e25]
            (first | rfl | (constructor <;> rfl))
          · apply Run.seq
            · apply Run.step 30; intro k j
              simp [c26, e26]
              (first | rfl | (constructor <;> rfl))
            · apply Run.seq
              · apply Run.step 30; intro k j
                simp [c27, e27']
                (first | rfl | (constructor <;> rfl))
              · apply Run.seq
                · apply Run.step 30; intro k j
                  simp [c28, e28']
                  (first | rfl | (constructor <;> rfl))
                · apply Run.seq
                  · apply Run.reg_cut 5
                    · apply Run.step 10; intro k j
                      simp [c29, c30, c31, hkYes, hkSame30, hkSame31, q1, q2, q3, r28, hF, hK]
                      (first | rfl | (constructor <;> rfl))
                    · apply Run.reg_cut 5
                      · apply Run.step 10; intro k j
                        simp [c29, c30, c31, hkYes, hkSame30, hkSame31, q1, q2, q3, r28, hF, hK]
                        (first | rfl | (constructor <;> rfl))
                      · apply Run.reg_cut 5
                        · apply Run.step 10; intro k j
                          simp [c29, c30, c31, hkYes, hkSame30, hkSame31, q1, q2, q3, r28, hF, hK]
                          (first | rfl | (constructor <;> rfl))
                        · apply Run.reg_cut 5
                          · apply Run.step 10; intro k j
                            simp [c29, c30, c31, hkYes, hkSame30, hkSame31, q1, q2, q3, r28, hF, hK]
                            (first | rfl | (constructor <;> rfl))
                          · apply Run.reg_cut 5
                            · apply Run.step 10; intro k j
                              simp [c29, c30, c31, hkYes, hkSame30, hkSame31, q1, q2, q3, r28, hF, hK]
                              (first | rfl | (constructor <;> rfl))
                            · apply Run.reg_cut 5
                              · apply Run.step 10; intro k j
                                simp [c29, c30, c31, hkYes, hkSame30, hkSame31, q1, q2, q3, r28, hF, hK]
                                (first | rfl | (constructor <;> rfl))
                              · apply Run.step 10; intro k j
                                simp [c29, c30, c31, hkYes, hkSame30, hkSame31, q1, q2, q3, r28, hF, hK]
                                (first | rfl | (constructor <;> rfl))
                  · apply Run.step 10; intro k j
                    simp
                    (first | rfl | (constructor <;> rfl))
  · exact Or.inl rfl
  · rfl
theorem asks (s : ByteArray) (hs : s.size ≤ 9223372036854775807) (key to : Int) : ∃ H, FRun Try.prog TD 5 [.s (.string s), .s (.int .u64 key), .s (.int .u64 to)] [] (.s (.bool true), H) :=
  asks_run TD_23 TD_24 TD_25 TD_26 TD_27 TD_28 TD_30 TD_31 TD_29 TD_5 s hs key to []
end Go.Proofs.Ytpmoellbfgcefaa.AS
end
