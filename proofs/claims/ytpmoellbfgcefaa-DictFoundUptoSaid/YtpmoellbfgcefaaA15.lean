/- Of our own: an abstract machine beside the model, its soundness, and walks of the program in it. -/
import Derived.Test.YtpmoellbfgcefaaA14
import Derived.Test.YtpmoellbfgcefaaA6
import Derived.Test.YtpmoellbfgcefaaProg
set_option linter.unusedSimpArgs false
set_option linter.unusedVariables false
section
set_option autoImplicit false
set_option maxRecDepth 100000
set_option maxHeartbeats 2000000
set_option linter.unusedSimpArgs false
namespace Go.Proofs.Ytpmoellbfgcefaa.AS
open Go Go.Proofs Go.RowKit Go.Proofs.Ytpmoellbfgcefaa.AS.V

theorem bk_grows {h h1 : Heap} (g : Grows h h1) {b : Nat} {k : Blk} (e : bk h b = some k) : bk h1 b = some k := (g b (bk_lt e)).trans e
theorem rdK_grows {h h1 : Heap} (g : Grows h h1) {b v o n : Nat} {l : List AV} (e : rdK (bk h b) v o n = some l) : rdK (bk h1 b) v o n = some l := by
  cases hb : bk h b with
  | none => rw [hb] at e; simp [rdK] at e
  | some k => rw [bk_grows g hb, ← hb]; exact e
theorem rowOf_grows {h h1 : Heap} (g : Grows h h1) {a : AV} {E : List (Int × ByteArray)} (e : rowOf h a = some E) : rowOf h1 a = some E := by
  unfold rowOf at e ⊢
  split at e
  · exact e
  · rename_i b v o n
    cases hr : rdK (bk h b) v o (n * 2) with
    | none => rw [hr] at e; cases e
    | some l => rw [rdK_grows g hr]; rw [hr] at e; exact e
  · cases e
theorem rowUOf_grows {h h1 : Heap} (g : Grows h h1) {a : AV} {E : List Int} (e : rowUOf h a = some E) : rowUOf h1 a = some E := by
  unfold rowUOf at e ⊢
  split at e
  · exact e
  · rename_i b v o n
    cases hr : rdK (bk h b) v o n with
    | none => rw [hr] at e; cases e
    | some l => rw [rdK_grows g hr]; rw [hr] at e; exact e
  · cases e
theorem rowUH_grows (h : Heap) (K : List Int) : Grows h (rowUH h K) := by
  unfold rowUH; split
  · exact Grows.refl h
  · exact Grows.app h _
theorem rangeF_empty {E : List (Int × ByteArray)} {a b : Int} (h : b < a) : rangeF E a b = [] := by
  unfold rangeF
  rw [List.filter_eq_nil_iff]
  intro e _
  simp; omega
theorem range25 (s : ByteArray) (hs : s.size ≤ 9223372036854775807) (a b : Int) (h : Heap) : ∃ A H, hkRange [.s (.string s), .s (.int .u64 a), .s (.int .u64 b)] h = some (.tp [A, .s (.int .i64 (readS s).2.2)], H) ∧ rowOf H A = some (rangeF (readS s).1 a b) ∧ Grows h H := by
  by_cases hb : b < a
  · exact ⟨.s (.slice none 0 0), h, by simp [hkRange, hs, hb], by rw [rangeF_empty hb]; rfl, Grows.refl h⟩
  · refine ⟨_, _, by simp only [hkRange]; rw [if_pos hs, if_neg hb], ?_, ?_⟩
    · by_cases hE : (readS s).1 = []
      · rw [hE]; rfl
      · have e1 : ∀ F, rngA h.length (readS s).1 F = .sl h.length 0 0 F.length 2 := fun F => if_neg hE
        have e2 : ∀ F, rngH h (readS s).1 F = h ++ [⟨0, 52, 2, true, F.flatMap entC⟩] := fun F => if_neg hE
        rw [e1, e2]
        generalize rangeF (readS s).1 a b = F
        have hl := entC_len F
        simp only [rowOf]
        rw [bk_new, rdK_s, if_pos ⟨rfl, by omega⟩, List.drop_zero, List.take_of_length_le (by omega)]
        exact entsA_entC F
    · unfold rngH; split
      · exact Grows.refl h
      · exact Grows.app h _
theorem asks_run {T : FuncId → Option AFunc} (h23 : T 23 = some (.hook hkFind)) (h24 : T 24 = some (.hook hkFind)) (h25 : T 25 = some (.hook hkRange)) (h26 : T 26 = some (.hook hkRangeR)) (h27 : T 27 = some (.hook hkKeys)) (h28 : T 28 = some (.hook hkKeys)) (h30 : T 30 = some (.hook hkSame30)) (h31 : T 31 = some (.hook hkSame31)) (h29 : T 29 = some (.hook fun l h => (hkYes l).map fun x => (x, h))) (h5 : T 5 = prepFn Try.prog 5) (s : ByteArray) (hs : s.size ≤ 9223372036854775807) (key to : Int) (h : Heap) : ∃ H, FRun Try.prog T 5 [.s (.string s), .s (.int .u64 key), .s (.int .u64 to)] h (.s (.bool true), H) := by
  have c23 := fun k l h => evFn_hook (P := Try.prog) (T := T) (k := k) (f := 23) (args := l) (h := h) h23
  have c24 := fun k l h => evFn_hook (P := Try.prog) (T := T) (k := k) (f := 24) (args := l) (h := h) h24
  have c25 := fun k l h => evFn_hook (P := Try.prog) (T := T) (k := k) (f := 25) (args := l) (h := h) h25
  have c26 := fun k l h => evFn_hook (P := Try.prog) (T := T) (k := k) (f := 26) (args := l) (h := h) h26
  have c27 := fun k l h => evFn_hook (P := Try.prog) (T := T) (k := k) (f := 27) (args := l) (h := h) h27
  have c28 := fun k l h => evFn_hook (P := Try.prog) (T := T) (k := k) (f := 28) (args := l) (h := h) h28
  have c29 := fun k l h => evFn_hook (P := Try.prog) (T := T) (k := k) (f := 29) (args := l) (h := h) h29
  have c30 := fun k l h => evFn_hook (P := Try.prog) (T := T) (k := k) (f := 30) (args := l) (h := h) h30
  have c31 := fun k l h => evFn_hook (P := Try.prog) (T := T) (k := k) (f := 31) (args := l) (h := h) h31
  have hT : T 5 = prepFn Try.prog 5 := h5
  have hlen := readS_len hs
  have hf : ∀ h, hkFind [.s (.string s), .s (.int .u64 key)] h = some (.tp [.s (.string (if (readS s).2.2 = 0 then (findF (readS s).1 key).1 else ⟨#[]⟩)), .s (.int .i64 (if (readS s).2.2 = 0 then (findF (readS s).1 key).2 else (readS s).2.2))], h) := fun h => by simp only [hkFind]; rw [if_pos hs]
  generalize (if (readS s).2.2 = 0 then (findF (readS s).1 key).1 else ⟨#[]⟩) = fd at hf
  generalize (if (readS s).2.2 = 0 then (findF (readS s).1 key).2 else (readS s).2.2) = fe at hf
  obtain ⟨A1, H1, e25, r25, g1⟩ := range25 s hs key to h
  have e26 : hkRangeR [.s (.string s), .s (.int .u64 key), .s (.int .u64 to)] H1 = some (.tp [rowN H1.length (rangeF (readS s).1 key to), .s (.int .i64 (readS s).2.2)], rowH H1 (rangeF (readS s).1 key to)) := by simp only [hkRangeR]; rw [if_pos hs]
  have r26 := rowOf_new H1 (rangeF (readS s).1 key to)
  have g2 := rowH_grows H1 (rangeF (readS s).1 key to)
  have hF : (rangeF (readS s).1 key to).length ≤ 4611686018427387903 := by
    have := List.length_filter_le (fun e : Int × ByteArray => decide (key ≤ e.1) && decide (e.1 ≤ to)) (readS s).1
    unfold rangeF; omega
  generalize rowN H1.length (rangeF (readS s).1 key to) = A2 at *
  generalize rowH H1 (rangeF (readS s).1 key to) = H2 at *
  generalize rangeF (readS s).1 key to = F at *
  have e27 : ∀ h, hkKeys [.s (.string s)] h = some (.tp [rowU h.length ((readS s).1.map (·.1)), .s (.int .i64 (readS s).2.2)], rowUH h ((readS s).1.map (·.1))) := fun h => by simp only [hkKeys]; rw [if_pos hs]
  have r27 := rowU_new H2 ((readS s).1.map (·.1))
  have g3 := rowUH_grows H2 ((readS s).1.map (·.1))
  have r28 := rowU_new (rowUH H2 ((readS s).1.map (·.1))) ((readS s).1.map (·.1))
  have g4 := rowUH_grows (rowUH H2 ((readS s).1.map (·.1))) ((readS s).1.map (·.1))
  have hK : ((readS s).1.map (·.1)).length ≤ 4611686018427387903 := by simp; omega
  have e27' := e27 H2
  have e28' := e27 (rowUH H2 ((readS s).1.map (·.1)))
  clear e27
  generalize (readS s).1.map (·.1) = K at *
  generalize (readS s).2.2 = w at *
  generalize rowU H2.length K = A3 at *
  generalize rowUH H2 K = H3 at *
  generalize rowU H3.length K = A4 at *
  generalize rowUH H3 K = H4 at *
  have q1 := rowOf_grows g4 (rowOf_grows g3 (rowOf_grows g2 r25))
  have q2 := rowOf_grows g4 (rowOf_grows g3 r26)
  have q3 := rowUOf_grows g4 r27
  refine ⟨H4, ?_⟩
  apply FRun.of (e := .ret) (hT.trans p5)
  · apply Run.seq
    · apply Run.step 30; intro k j
      simp
      (first | rfl | (constructor <;> rfl))
    · apply Run.seq
      · apply Run.step 30; intro k j
        simp [c23, hf]
        (first | rfl | (constructor <;> rfl))
      · apply Run.seq
        · apply Run.step 30; intro k j
          simp [c24, hf]
          (first | rfl | (constructor <;> rfl))
        · apply Run.seq
          · apply Run.step 30; intro k j
            simp [c25, e25]
            (first | rfl | (constructor <;> rfl))
          · apply Run.seq
            · apply Run.step 30; intro k j
              simp [c26, e26]
              (first | rfl | (constructor <;> rfl))
            · apply Run.seq
              · apply Run.step 30; intro k j
                simp [c27, e27']
                (first | rfl | (constructor <;> rfl))
              · apply Run.seq
                · apply Run.step 30; intro k j
                  simp [c28, e28']
                  (first | rfl | (constructor <;> rfl))
                · apply Run.seq
                  · apply Run.reg_cut 5
                    · apply Run.step 10; intro k j
                      simp [c29, c30, c31, hkYes, hkSame30, hkSame31, q1, q2, q3, r28, hF, hK]
                      (first | rfl | (constructor <;> rfl))
                    · apply Run.reg_cut 5
                      · apply Run.step 10; intro k j
                        simp [c29, c30, c31, hkYes, hkSame30, hkSame31, q1, q2, q3, r28, hF, hK]
                        (first | rfl | (constructor <;> rfl))
                      · apply Run.reg_cut 5
                        · apply Run.step 10; intro k j
                          simp [c29, c30, c31, hkYes, hkSame30, hkSame31, q1, q2, q3, r28, hF, hK]
                          (first | rfl | (constructor <;> rfl))
                        · apply Run.reg_cut 5
                          · apply Run.step 10; intro k j
                            simp [c29, c30, c31, hkYes, hkSame30, hkSame31, q1, q2, q3, r28, hF, hK]
                            (first | rfl | (constructor <;> rfl))
                          · apply Run.reg_cut 5
                            · apply Run.step 10; intro k j
                              simp [c29, c30, c31, hkYes, hkSame30, hkSame31, q1, q2, q3, r28, hF, hK]
                              (first | rfl | (constructor <;> rfl))
                            · apply Run.reg_cut 5
                              · apply Run.step 10; intro k j
                                simp [c29, c30, c31, hkYes, hkSame30, hkSame31, q1, q2, q3, r28, hF, hK]
                                (first | rfl | (constructor <;> rfl))
                              · apply Run.step 10; intro k j
                                simp [c29, c30, c31, hkYes, hkSame30, hkSame31, q1, q2, q3, r28, hF, hK]
                                (first | rfl | (constructor <;> rfl))
                  · apply Run.step 10; intro k j
                    simp
                    (first | rfl | (constructor <;> rfl))
  · exact Or.inl rfl
  · rfl
theorem asks (s : ByteArray) (hs : s.size ≤ 9223372036854775807) (key to : Int) : ∃ H, FRun Try.prog TD 5 [.s (.string s), .s (.int .u64 key), .s (.int .u64 to)] [] (.s (.bool true), H) :=
  asks_run TD_23 TD_24 TD_25 TD_26 TD_27 TD_28 TD_30 TD_31 TD_29 TD_5 s hs key to []
end Go.Proofs.Ytpmoellbfgcefaa.AS
end
section
set_option maxRecDepth 100000
namespace Go.Proofs.Ytpmoellbfgcefaa.AS
open Go Go.Proofs
noncomputable def c6 : ACode := (ACode.seq (ACode.reg [⟨(some 4), none, (AOp.p (POp.mv (Operand.const (Value.bool false))))⟩]) (ACode.seq (ACode.seq (ACode.reg [⟨(some 15), none, (AOp.e (EOp.call 29 []))⟩, ⟨(some 16), none, (AOp.p (POp.sc (Op.unOp UnOp.not 4 (Operand.tmp 15)) 4))⟩]) (ACode.cond (Operand.tmp 16) (ACode.seq (ACode.reg [⟨(some 4), none, (AOp.p (POp.mv (Operand.const (Value.bool false))))⟩]) ACode.ret) ACode.skip)) (ACode.seq (ACode.reg [⟨(some 18), none, (AOp.p (POp.mv (Operand.tmp 0)))⟩, ⟨(some 19), none, (AOp.e (EOp.call 32 [(Operand.tmp 18)]))⟩, ⟨(some 17), none, (AOp.p (POp.mv (Operand.tmp 19)))⟩, ⟨(some 20), none, (AOp.p (POp.ext (Operand.tmp 17) 0))⟩, ⟨(some 21), none, (AOp.p (POp.ext (Operand.tmp 17) 1))⟩, ⟨(some 5), none, (AOp.p (POp.mv (Operand.tmp 20)))⟩, ⟨(some 6), none, (AOp.p (POp.mv (Operand.tmp 21)))⟩]) (ACode.seq (ACode.seq (ACode.reg [⟨(some 22), none, (AOp.p (POp.mv (Operand.tmp 6)))⟩, ⟨(some 23), none, (AOp.p (POp.sc (Op.binOp BinOp.eql 24 (Operand.tmp 22) (Operand.const (Value.int IntKind.i64 (0 : Int))) 24) 4))⟩]) (ACode.cond (Operand.tmp 23) (ACode.seq (ACode.reg [⟨(some 25), none, (AOp.p (POp.mv (Operand.tmp 5)))⟩, ⟨(some 26), none, (AOp.p (POp.mv (Operand.tmp 1)))⟩, ⟨(some 27), none, (AOp.p (POp.sc (Op.binOp BinOp.add 9 (Operand.tmp 25) (Operand.tmp 26) 9) 9))⟩, ⟨(some 28), none, (AOp.e (EOp.call 33 [(Operand.tmp 27)]))⟩, ⟨(some 24), none, (AOp.p (POp.mv (Operand.tmp 28)))⟩, ⟨(some 29), none, (AOp.p (POp.ext (Operand.tmp 24) 0))⟩, ⟨(some 30), none, (AOp.p (POp.ext (Operand.tmp 24) 1))⟩, ⟨(some 31), none, (AOp.p (POp.ext (Operand.tmp 24) 2))⟩, ⟨(some 7), none, (AOp.p (POp.mv (Operand.tmp 29)))⟩, ⟨(some 8), none, (AOp.p (POp.mv (Operand.tmp 30)))⟩, ⟨(some 9), none, (AOp.p (POp.mv (Operand.tmp 31)))⟩]) (ACode.seq (ACode.reg [⟨(some 32), none, (AOp.p (POp.mv (Operand.tmp 9)))⟩, ⟨(some 33), none, (AOp.p (POp.sc (Op.binOp BinOp.neq 24 (Operand.tmp 32) (Operand.const (Value.int IntKind.i64 (0 : Int))) 24) 4))⟩, ⟨(some 34), none, (AOp.p (POp.mv (Operand.tmp 33)))⟩, ⟨(some 35), (some (34, false)), (AOp.p (POp.mv (Operand.tmp 7)))⟩, ⟨(some 36), (some (34, false)), (AOp.p (POp.mv (Operand.tmp 0)))⟩, ⟨(some 37), (some (34, false)), (AOp.e (EOp.call 30 [(Operand.tmp 35), (Operand.tmp 36)]))⟩, ⟨(some 38), (some (34, false)), (AOp.p (POp.sc (Op.unOp UnOp.not 4 (Operand.tmp 37)) 4))⟩, ⟨(some 39), none, (AOp.p (POp.pick (Operand.tmp 34) (Operand.const (Value.bool true)) (Operand.tmp 38)))⟩, ⟨(some 40), none, (AOp.p (POp.mv (Operand.tmp 39)))⟩, ⟨(some 41), (some (40, false)), (AOp.p (POp.mv (Operand.tmp 8)))⟩, ⟨(some 42), (some (40, false)), (AOp.p (POp.mv (Operand.tmp 1)))⟩, ⟨(some 43), (some (40, false)), (AOp.p (POp.sc (Op.binOp BinOp.neq 9 (Operand.tmp 41) (Operand.tmp 42) 9) 4))⟩, ⟨(some 44), none, (AOp.p (POp.pick (Operand.tmp 40) (Operand.const (Value.bool true)) (Operand.tmp 43)))⟩]) (ACode.cond (Operand.tmp 44) (ACode.seq (ACode.reg [⟨(some 4), none, (AOp.p (POp.mv (Operand.const (Value.bool false))))⟩]) ACode.ret) ACode.skip))) ACode.skip)) (ACode.seq (ACode.reg [⟨(some 46), none, (AOp.p (POp.mv (Operand.tmp 1)))⟩, ⟨(some 47), none, (AOp.e (EOp.call 33 [(Operand.tmp 46)]))⟩, ⟨(some 45), none, (AOp.p (POp.mv (Operand.tmp 47)))⟩, ⟨(some 48), none, (AOp.p (POp.ext (Operand.tmp 45) 0))⟩, ⟨(some 49), none, (AOp.p (POp.ext (Operand.tmp 45) 1))⟩, ⟨(some 50), none, (AOp.p (POp.ext (Operand.tmp 45) 2))⟩, ⟨(some 10), none, (AOp.p (POp.mv (Operand.tmp 48)))⟩, ⟨(some 11), none, (AOp.p (POp.mv (Operand.tmp 49)))⟩, ⟨(some 12), none, (AOp.p (POp.mv (Operand.tmp 50)))⟩]) (ACode.seq (ACode.seq (ACode.reg [⟨(some 51), none, (AOp.p (POp.mv (Operand.tmp 12)))⟩, ⟨(some 52), none, (AOp.p (POp.sc (Op.binOp BinOp.neq 24 (Operand.tmp 51) (Operand.const (Value.int IntKind.i64 (0 : Int))) 24) 4))⟩]) (ACode.cond (Operand.tmp 52) (ACode.seq (ACode.reg [⟨(some 53), none, (AOp.p (POp.mv (Operand.tmp 10)))⟩, ⟨(some 54), none, (AOp.p (POp.lenS (Operand.tmp 53)))⟩, ⟨(some 55), none, (AOp.p (POp.sc (Op.binOp BinOp.eql 3 (Operand.tmp 54) (Operand.const (Value.int IntKind.i64 (0 : Int))) 3) 4))⟩, ⟨(some 56), none, (AOp.p (POp.mv (Operand.tmp 55)))⟩, ⟨(some 57), (some (56, true)), (AOp.p (POp.mv (Operand.tmp 11)))⟩, ⟨(some 58), (some (56, true)), (AOp.p (POp.sc (Op.binOp BinOp.eql 9 (Operand.tmp 57) (Operand.const (Value.string ⟨#[]⟩)) 9) 4))⟩, ⟨(some 59), none, (AOp.p (POp.pick (Operand.tmp 56) (Operand.tmp 58) (Operand.const (Value.bool false))))⟩, ⟨(some 4), none, (AOp.p (POp.mv (Operand.tmp 59)))⟩]) ACode.ret) ACode.skip)) (ACode.seq (ACode.reg [⟨(some 61), none, (AOp.p (POp.mv (Operand.tmp 10)))⟩, ⟨(some 62), none, (AOp.e (EOp.call 32 [(Operand.tmp 61)]))⟩, ⟨(some 60), none, (AOp.p (POp.mv (Operand.tmp 62)))⟩, ⟨(some 63), none, (AOp.p (POp.ext (Operand.tmp 60) 0))⟩, ⟨(some 64), none, (AOp.p (POp.ext (Operand.tmp 60) 1))⟩, ⟨(some 13), none, (AOp.p (POp.mv (Operand.tmp 63)))⟩, ⟨(some 14), none, (AOp.p (POp.mv (Operand.tmp 64)))⟩]) (ACode.seq (ACode.reg [⟨(some 65), none, (AOp.p (POp.mv (Operand.tmp 14)))⟩, ⟨(some 66), none, (AOp.p (POp.sc (Op.binOp BinOp.eql 24 (Operand.tmp 65) (Operand.const (Value.int IntKind.i64 (0 : Int))) 24) 4))⟩, ⟨(some 67), none, (AOp.p (POp.mv (Operand.tmp 66)))⟩, ⟨(some 68), (some (67, true)), (AOp.p (POp.mv (Operand.tmp 13)))⟩, ⟨(some 69), (some (67, true)), (AOp.p (POp.mv (Operand.tmp 11)))⟩, ⟨(some 70), (some (67, true)), (AOp.p (POp.sc (Op.binOp BinOp.add 9 (Operand.tmp 68) (Operand.tmp 69) 9) 9))⟩, ⟨(some 71), (some (67, true)), (AOp.p (POp.mv (Operand.tmp 1)))⟩, ⟨(some 72), (some (67, true)), (AOp.p (POp.sc (Op.binOp BinOp.eql 9 (Operand.tmp 70) (Operand.tmp 71) 9) 4))⟩, ⟨(some 73), none, (AOp.p (POp.pick (Operand.tmp 67) (Operand.tmp 72) (Operand.const (Value.bool false))))⟩, ⟨(some 4), none, (AOp.p (POp.mv (Operand.tmp 73)))⟩]) ACode.ret))))))))
theorem p6 : prepFn Try.prog 6 = some (.code 74 [(ARes.tmp 4)] c6) := by kernel_rfl
noncomputable def c7 : ACode := (ACode.seq (ACode.reg [⟨(some 4), none, (AOp.p (POp.mv (Operand.const (Value.bool false))))⟩]) (ACode.seq (ACode.seq (ACode.reg [⟨(some 16), none, (AOp.e (EOp.call 29 []))⟩, ⟨(some 17), none, (AOp.p (POp.sc (Op.unOp UnOp.not 4 (Operand.tmp 16)) 4))⟩]) (ACode.cond (Operand.tmp 17) (ACode.seq (ACode.reg [⟨(some 4), none, (AOp.p (POp.mv (Operand.const (Value.bool false))))⟩]) ACode.ret) ACode.skip)) (ACode.seq (ACode.reg [⟨(some 19), none, (AOp.p (POp.mv (Operand.tmp 0)))⟩, ⟨(some 20), none, (AOp.e (EOp.call 32 [(Operand.tmp 19)]))⟩, ⟨(some 18), none, (AOp.p (POp.mv (Operand.tmp 20)))⟩, ⟨(some 21), none, (AOp.p (POp.ext (Operand.tmp 18) 0))⟩, ⟨(some 22), none, (AOp.p (POp.ext (Operand.tmp 18) 1))⟩, ⟨(some 5), none, (AOp.p (POp.mv (Operand.tmp 21)))⟩, ⟨(some 6), none, (AOp.p (POp.mv (Operand.tmp 22)))⟩]) (ACode.seq (ACode.seq (ACode.reg [⟨(some 23), none, (AOp.p (POp.mv (Operand.tmp 6)))⟩, ⟨(some 24), none, (AOp.p (POp.sc (Op.binOp BinOp.neq 24 (Operand.tmp 23) (Operand.const (Value.int IntKind.i64 (0 : Int))) 24) 4))⟩]) (ACode.cond (Operand.tmp 24) (ACode.seq (ACode.reg [⟨(some 25), none, (AOp.p (POp.mv (Operand.tmp 5)))⟩, ⟨(some 26), none, (AOp.p (POp.sc (Op.binOp BinOp.eql 9 (Operand.tmp 25) (Operand.const (Value.string ⟨#[]⟩)) 9) 4))⟩, ⟨(some 4), none, (AOp.p (POp.mv (Operand.tmp 26)))⟩]) ACode.ret) ACode.skip)) (ACode.seq (ACode.reg [⟨(some 7), none, (AOp.p (POp.mv (Operand.const (Value.bool false))))⟩]) (ACode.seq (ACode.seq (ACode.reg [⟨(some 27), none, (AOp.p (POp.mv (Operand.tmp 0)))⟩, ⟨(some 28), none, (AOp.p (POp.lenS (Operand.tmp 27)))⟩, ⟨(some 29), none, (AOp.p (POp.mv (Operand.const (Value.int IntKind.i64 (0 : Int)))))⟩]) (ACode.block 0 (ACode.loop [4, 30, 31, 32, 33, 34, 35, 36, 37, 38, 39, 40, 41, 42, 43, 44, 45, 46, 47, 48, 49, 50, 51, 52, 53, 54, 55, 56, 57, 58, 59, 60, 61, 62, 63, 64, 65, 66, 67, 68, 69, 70, 71, 72, 73, 74, 75, 76, 77, 78, 79, 80, 81, 82, 83] (ACode.seq (ACode.reg [⟨(some 30), none, (AOp.p (POp.sc (Op.binOp BinOp.lss 3 (Operand.tmp 29) (Operand.tmp 28) 3) 0))⟩]) (ACode.seq (ACode.cond (Operand.tmp 30) ACode.skip (ACode.exit 0)) (ACode.seq (ACode.block 1 (ACode.seq (ACode.reg [⟨(some 31), none, (AOp.p (POp.mv (Operand.tmp 29)))⟩, ⟨(some 32), none, (AOp.p (POp.iaddr 2 (Operand.tmp 27) (Operand.tmp 29)))⟩, ⟨(some 33), none, (AOp.r (ROp.load true 2 (Operand.tmp 32)))⟩, ⟨(some 9), none, (AOp.e (EOp.new 52 2 [(Value.int IntKind.u64 (0 : Int)), (Value.string ⟨#[]⟩)]))⟩, ⟨(some 8), none, (AOp.p (POp.mv (Operand.tmp 31)))⟩, ⟨none, none, (AOp.e (EOp.store 2 (Operand.tmp 9) (Operand.tmp 33)))⟩]) (ACode.seq (ACode.seq (ACode.reg [⟨(some 34), none, (AOp.p (POp.mv (Operand.tmp 8)))⟩, ⟨(some 35), none, (AOp.p (POp.sc (Op.binOp BinOp.eql 3 (Operand.tmp 34) (Operand.const (Value.int IntKind.i64 (60 : Int))) 3) 4))⟩]) (ACode.cond (Operand.tmp 35) (ACode.exit 0) ACode.skip)) (ACode.seq (ACode.reg [⟨(some 36), none, (AOp.p (POp.mv (Operand.tmp 7)))⟩, ⟨(some 37), none, (AOp.p (POp.mv (Operand.tmp 36)))⟩, ⟨(some 38), (some (37, false)), (AOp.p (POp.faddr 0 (Operand.tmp 9)))⟩, ⟨(some 39), (some (37, false)), (AOp.r (ROp.load false 1 (Operand.tmp 38)))⟩, ⟨(some 40), (some (37, false)), (AOp.p (POp.mv (Operand.tmp 1)))⟩, ⟨(some 41), (some (37, false)), (AOp.p (POp.sc (Op.binOp BinOp.eql 35 (Operand.tmp 39) (Operand.tmp 40) 35) 4))⟩, ⟨(some 42), none, (AOp.p (POp.pick (Operand.tmp 37) (Operand.const (Value.bool true)) (Operand.tmp 41)))⟩, ⟨(some 7), none, (AOp.p (POp.mv (Operand.tmp 42)))⟩]) (ACode.seq (ACode.reg [⟨(some 44), none, (AOp.p (POp.mv (Operand.tmp 5)))⟩, ⟨(some 45), none, (AOp.p (POp.faddr 0 (Operand.tmp 9)))⟩, ⟨(some 46), none, (AOp.r (ROp.load false 1 (Operand.tmp 45)))⟩, ⟨(some 47), none, (AOp.e (EOp.call 23 [(Operand.tmp 44), (Operand.tmp 46)]))⟩, ⟨(some 43), none, (AOp.p (POp.mv (Operand.tmp 47)))⟩, ⟨(some 48), none, (AOp.p (POp.ext (Operand.tmp 43) 0))⟩, ⟨(some 49), none, (AOp.p (POp.ext (Operand.tmp 43) 1))⟩, ⟨(some 10), none, (AOp.p (POp.mv (Operand.tmp 48)))⟩, ⟨(some 11), none, (AOp.p (POp.mv (Operand.tmp 49)))⟩]) (ACode.seq (ACode.reg [⟨(some 51), none, (AOp.p (POp.mv (Operand.tmp 5)))⟩, ⟨(some 52), none, (AOp.p (POp.faddr 0 (Operand.tmp 9)))⟩, ⟨(some 53), none, (AOp.r (ROp.load false 1 (Operand.tmp 52)))⟩, ⟨(some 54), none, (AOp.p (POp.faddr 0 (Operand.tmp 9)))⟩, ⟨(some 55), none, (AOp.r (ROp.load false 1 (Operand.tmp 54)))⟩, ⟨(some 56), none, (AOp.e (EOp.call 25 [(Operand.tmp 51), (Operand.tmp 53), (Operand.tmp 55)]))⟩, ⟨(some 50), none, (AOp.p (POp.mv (Operand.tmp 56)))⟩, ⟨(some 57), none, (AOp.p (POp.ext (Operand.tmp 50) 0))⟩, ⟨(some 58), none, (AOp.p (POp.ext (Operand.tmp 50) 1))⟩, ⟨(some 12), none, (AOp.p (POp.mv (Operand.tmp 57)))⟩, ⟨(some 13), none, (AOp.p (POp.mv (Operand.tmp 58)))⟩]) (ACode.seq (ACode.draw [⟨(some 59), none, (AOp.p (POp.mv (Operand.tmp 11)))⟩, ⟨(some 60), none, (AOp.p (POp.sc (Op.binOp BinOp.neq 24 (Operand.tmp 59) (Operand.const (Value.int IntKind.i64 (0 : Int))) 24) 4))⟩, ⟨(some 61), none, (AOp.p (POp.mv (Operand.tmp 60)))⟩, ⟨(some 62), (some (61, false)), (AOp.p (POp.mv (Operand.tmp 10)))⟩, ⟨(some 63), (some (61, false)), (AOp.p (POp.faddr 1 (Operand.tmp 9)))⟩, ⟨(some 64), (some (61, false)), (AOp.r (ROp.load false 1 (Operand.tmp 63)))⟩, ⟨(some 65), (some (61, false)), (AOp.p (POp.sc (Op.binOp BinOp.neq 9 (Operand.tmp 62) (Operand.tmp 64) 9) 4))⟩, ⟨(some 66), none, (AOp.p (POp.pick (Operand.tmp 61) (Operand.const (Value.bool true)) (Operand.tmp 65)))⟩, ⟨(some 67), none, (AOp.p (POp.mv (Operand.tmp 66)))⟩, ⟨(some 68), (some (67, false)), (AOp.p (POp.mv (Operand.tmp 13)))⟩, ⟨(some 69), (some (67, false)), (AOp.p (POp.sc (Op.binOp BinOp.neq 24 (Operand.tmp 68) (Operand.const (Value.int IntKind.i64 (0 : Int))) 24) 4))⟩, ⟨(some 70), none, (AOp.p (POp.pick (Operand.tmp 67) (Operand.const (Value.bool true)) (Operand.tmp 69)))⟩, ⟨(some 71), none, (AOp.p (POp.mv (Operand.tmp 70)))⟩, ⟨(some 72), (some (71, false)), (AOp.p (POp.mv (Operand.tmp 12)))⟩, ⟨(some 73), (some (71, false)), (AOp.p (POp.lenS (Operand.tmp 72)))⟩, ⟨(some 74), (some (71, false)), (AOp.p (POp.sc (Op.binOp BinOp.neq 3 (Operand.tmp 73) (Operand.const (Value.int IntKind.i64 (1 : Int))) 3) 4))⟩, ⟨(some 75), none, (AOp.p (POp.pick (Operand.tmp 71) (Operand.const (Value.bool true)) (Operand.tmp 74)))⟩, ⟨(some 76), none, (AOp.p (POp.mv (Operand.tmp 75)))⟩, ⟨(some 77), (some (76, false)), (AOp.p (POp.mv (Operand.tmp 12)))⟩, ⟨(some 78), (some (76, false)), (AOp.p (POp.iaddr 2 (Operand.tmp 77) (Operand.const (Value.int IntKind.i64 (0 : Int)))))⟩, ⟨(some 79), (some (76, false)), (AOp.r (ROp.load true 2 (Operand.tmp 78)))⟩, ⟨(some 80), (some (76, false)), (AOp.r (ROp.load true 2 (Operand.tmp 9)))⟩, ⟨(some 81), (some (76, false)), (AOp.p (POp.sc (Op.binOp BinOp.neq 52 (Operand.tmp 79) (Operand.tmp 80) 52) 4))⟩, ⟨(some 82), none, (AOp.p (POp.pick (Operand.tmp 76) (Operand.const (Value.bool true)) (Operand.tmp 81)))⟩] []) (ACode.cond (Operand.tmp 82) (ACode.seq (ACode.reg [⟨(some 4), none, (AOp.p (POp.mv (Operand.const (Value.bool false))))⟩]) ACode.ret) ACode.skip)))))))) (ACode.reg [⟨(some 83), none, (AOp.p (POp.sc (Op.binOp BinOp.add 3 (Operand.tmp 29) (Operand.const (Value.int IntKind.i64 (1 : Int))) 3) 3))⟩, ⟨(some 29), none, (AOp.p (POp.mv (Operand.tmp 83)))⟩]))))))) (ACode.seq (ACode.reg [⟨(some 85), none, (AOp.p (POp.mv (Operand.tmp 5)))⟩, ⟨(some 86), none, (AOp.p (POp.mv (Operand.tmp 1)))⟩, ⟨(some 87), none, (AOp.e (EOp.call 23 [(Operand.tmp 85), (Operand.tmp 86)]))⟩, ⟨(some 84), none, (AOp.p (POp.mv (Operand.tmp 87)))⟩, ⟨(some 88), none, (AOp.p (POp.ext (Operand.tmp 84) 0))⟩, ⟨(some 89), none, (AOp.p (POp.ext (Operand.tmp 84) 1))⟩, ⟨(some 14), none, (AOp.p (POp.mv (Operand.tmp 88)))⟩, ⟨(some 15), none, (AOp.p (POp.mv (Operand.tmp 89)))⟩]) (ACode.seq (ACode.reg [⟨(some 90), none, (AOp.p (POp.mv (Operand.tmp 0)))⟩, ⟨(some 91), none, (AOp.p (POp.lenS (Operand.tmp 90)))⟩, ⟨(some 92), none, (AOp.p (POp.sc (Op.binOp BinOp.gtr 3 (Operand.tmp 91) (Operand.const (Value.int IntKind.i64 (60 : Int))) 3) 4))⟩, ⟨(some 93), none, (AOp.p (POp.mv (Operand.tmp 92)))⟩, ⟨(some 94), (some (93, false)), (AOp.p (POp.mv (Operand.tmp 15)))⟩, ⟨(some 95), (some (93, false)), (AOp.p (POp.sc (Op.binOp BinOp.eql 24 (Operand.tmp 94) (Operand.const (Value.int IntKind.i64 (0 : Int))) 24) 4))⟩, ⟨(some 96), (some (93, false)), (AOp.p (POp.mv (Operand.tmp 7)))⟩, ⟨(some 97), (some (93, false)), (AOp.p (POp.sc (Op.binOp BinOp.eql 4 (Operand.tmp 95) (Operand.tmp 96) 4) 4))⟩, ⟨(some 98), none, (AOp.p (POp.pick (Operand.tmp 93) (Operand.const (Value.bool true)) (Operand.tmp 97)))⟩, ⟨(some 4), none, (AOp.p (POp.mv (Operand.tmp 98)))⟩]) ACode.ret))))))))
theorem p7 : prepFn Try.prog 7 = some (.code 99 [(ARes.tmp 4)] c7) := by kernel_rfl
end Go.Proofs.Ytpmoellbfgcefaa.AS
end
section
set_option autoImplicit false
set_option maxRecDepth 100000
set_option maxHeartbeats 2000000
set_option linter.unusedSimpArgs false
namespace Go.Proofs.Ytpmoellbfgcefaa.AS
open Go Go.Proofs Go.RowKit Go.Proofs.Ytpmoellbfgcefaa.AS.V

def blkOf : AV → Option Nat
  | .sl b _ _ _ _ => some b
  | _ => none
/-- A row of bytes that may be put behind. -/
def rowB (h : Heap) (a : AV) (B : List Int) : Prop := (a = .s (.slice none 0 0) ∧ B = []) ∨ ∃ b v, a = .sl b v 0 B.length 1 ∧ bk h b = some ⟨v, 5, 1, true, by8 B⟩
/-- What an append leaves. -/
structure Ap (h H : Heap) (a a' : AV) : Prop where
  keep : ∀ c, c < h.length → blkOf a ≠ some c → bk H c = bk h c
  len : h.length ≤ H.length
  place : ∀ c, blkOf a' = some c → h.length ≤ c ∨ blkOf a = some c
theorem Ap.trans {h H G : Heap} {a a' a'' : AV} (x : Ap h H a a') (y : Ap H G a' a'') : Ap h G a a'' := by
  refine ⟨fun c hc hn => ?_, Nat.le_trans x.len y.len, fun c hc => ?_⟩
  · rw [y.keep c (Nat.lt_of_lt_of_le hc x.len) (fun e => (x.place c e).elim (fun h => by omega) hn), x.keep c hc hn]
  · rcases y.place c hc with h | h
    · exact Or.inl (Nat.le_trans x.len h)
    · exact x.place c h
def fr58 (b : AV) (n : Int) (a2 a3 a15 a16 a17 a18 a19 : AV) : List AV := [b, .s (.int .u64 n), a2, a3, .s (.slice none 0 0)] ++ List.replicate 10 .any ++ [a15, a16, a17, a18, a19]
noncomputable def body58 : ACode := match c58 with
  | .seq _ (.seq (.block _ (.loop _ b)) _) => b
  | _ => .skip
noncomputable def fg58 : List Nat := match c58 with
  | .seq _ (.seq (.block _ (.loop fg _)) _) => fg
  | _ => []
noncomputable def tail58 : ACode := match c58 with
  | .seq _ (.seq _ t) => t
  | _ => .skip
theorem by8_len (B : List Int) : (by8 B).length = B.length := by simp [by8]
theorem app_end {T : FuncId → Option AFunc} (n : Int) (h0 : 0 ≤ n) (h1 : n < 128) (h : Heap) (a : AV) (B : List Int) (hB : B.length + 1 ≤ 140737488355328) (hI : rowB h a B) (a2 a3 a15 a16 a17 a18 a19 : AV) :
    ∃ H a' tm', Ap h H a a' ∧ rowB H a' (B ++ [n]) ∧ tm'[4]? = some a' ∧ Run Try.prog T (.seq (.block 0 (.loop fg58 body58)) tail58) (fr58 a n a2 a3 a15 a16 a17 a18 a19) h (.ret, tm', H) := by
  have w8 : IntKind.u8.wrap n = n := by simp [IntKind.wrap, IntKind.bits, IntKind.signed]; omega
  have hn : ¬ 128 ≤ n := by omega
  have hn2 : n ≤ 127 := by omega
  have hx : Run Try.prog T (.block 0 (.loop fg58 body58)) (fr58 a n a2 a3 a15 a16 a17 a18 a19) h (.normal, [a, .s (.int .u64 n), a2, a3, .s (.slice none 0 0), .s (.int .u64 n), .s (.bool false)] ++ List.replicate 8 .any ++ [a15, a16, a17, a18, a19], h) := by
    apply Run.block_exit
    refine Run.loop_end (by simp) (Run.step 30 fun k j => ?_)
    simp [c58, fg58, body58, fr58, forget, hn, hn2]
  rcases hI with ⟨rfl, rfl⟩ | ⟨b, v, rfl, hb2⟩
  · refine ⟨?qH, ?qa, ?qtm, ?qap, ?qrow, ?qo, Run.seq hx (Run.step 30 fun k j => ?qrun)⟩
    case qrun =>
      simp [c58, tail58, w8, fillA, cellsOf, apV_nil, isCell, bytesA, Try.underlying5, Try.underlying35]
      (constructor <;> rfl)
    case qo => rfl
    case qap => exact ⟨fun c hc _ => by simp [hc], by simp, fun c hc => Or.inl (by simp [blkOf] at hc; omega)⟩
    case qrow => exact Or.inr ⟨_, _, rfl, by simp [by8]⟩
  · have hlb := bk_lt hb2
    have n1 : b ≠ h.length := by omega
    have b2 : B.length + 1 ≤ 9223372036854775807 := by omega
    have e1 : by8 (B ++ [n]) = by8 B ++ [.s (.int .u8 n)] := by simp [by8]
    have hC := by8_len B
    generalize by8 B = C at hb2 hC e1
    have hle1 : B.length ≤ C.length := by omega
    have hall : C.take B.length = C := List.take_of_length_le (by omega)
    refine ⟨?qH2, ?qa2, ?qtm2, ?qap2, ?qrow2, ?qo2, Run.seq hx (Run.step 30 fun k j => ?qrun2)⟩
    case qrun2 =>
      simp [c58, tail58, w8, fillA, cellsOf, apK_s, isCell, Try.underlying5, Try.underlying35, hb2, hlb, n1, hB, b2, hall, hle1]
      (constructor <;> rfl)
    case qo2 => rfl
    case qap2 =>
      refine ⟨fun c hc hn => ?_, by simp, fun c hc => Or.inr hc⟩
      have : b ≠ c := fun e => hn (by rw [e]; rfl)
      simp [hc, this]
    case qrow2 => exact Or.inr ⟨b, v + 1, by simp, by rw [e1]; simp [hlb]⟩
theorem bits_or128 : ∀ x, x < 256 → bits BinOp.or IntKind.u8 ((x : Nat) : Int) 128 = (x : Int) % 128 + 128 := by decide +kernel
theorem app_one {T : FuncId → Option AFunc} (n : Int) (h0 : 128 ≤ n) (h1 : n ≤ 18446744073709551615) (h : Heap) (a : AV) (B : List Int) (hB : B.length + 1 ≤ 140737488355328) (hI : rowB h a B) (a2 a3 a15 a16 a17 a18 a19 : AV) :
    ∃ H a' tm', Ap h H a a' ∧ rowB H a' (B ++ [n % 128 + 128]) ∧ forget fg58 tm' = fr58 a' (n / 128) a2 a3 a15 a16 a17 a18 a19 ∧ Run Try.prog T body58 (fr58 a n a2 a3 a15 a16 a17 a18 a19) h (.normal, tm', H) := by
  have hn : 128 ≤ n := by omega
  have hn2 : ¬ n ≤ 127 := by omega
  have t1 : n.tmod 128 = n % 128 := Int.tmod_eq_emod_of_nonneg (by omega)
  have t2 : n.tdiv 128 = n / 128 := Int.tdiv_eq_ediv_of_nonneg (by omega)
  have q1 : bits BinOp.or IntKind.u8 (n % 256) 128 = n % 128 + 128 := by
    have := bits_or128 (n % 256).toNat (by omega)
    rw [show (((n % 256).toNat : Nat) : Int) = n % 256 by omega] at this
    rw [this]; omega
  have q2 : n.fdiv (2 ^ min 7 IntKind.u64.bits) = n / 128 := Int.fdiv_eq_ediv_of_nonneg _ (by decide)
  have w8 : IntKind.u8.wrap n = n % 256 := by simp [IntKind.wrap, IntKind.bits, IntKind.signed]
  have w9 : IntKind.u8.wrap (n % 128 + 128) = n % 128 + 128 := by simp [IntKind.wrap, IntKind.bits, IntKind.signed]; omega
  have wq : IntKind.u64.wrap (n / 128) = n / 128 := wu64 (by omega) (by omega)
  rcases hI with ⟨rfl, rfl⟩ | ⟨b, v, rfl, hb2⟩
  · refine ⟨?qH, ?qa, ?qtm, ?qap, ?qrow, ?qfg, Run.step 30 fun k j => ?qrun⟩
    case qrun =>
      simp [c58, body58, fr58, w8, w9, wq, t1, t2, q1, q2, hn, hn2, fillA, cellsOf, apV_nil, isCell, Try.underlying5, Try.underlying35]
      (constructor <;> rfl)
    case qfg => simp [forget, fg58, c58, fr58]; rfl
    case qap => exact ⟨fun c hc _ => by simp [hc], by simp, fun c hc => Or.inl (by simp [blkOf] at hc; omega)⟩
    case qrow => exact Or.inr ⟨_, _, rfl, by simp [by8]⟩
  · have hlb := bk_lt hb2
    have n1 : b ≠ h.length := by omega
    have b2 : B.length + 1 ≤ 9223372036854775807 := by omega
    have e1 : by8 (B ++ [n % 128 + 128]) = by8 B ++ [.s (.int .u8 (n % 128 + 128))] := by simp [by8]
    have hC := by8_len B
    generalize by8 B = C at hb2 hC e1
    have hle1 : B.length ≤ C.length := by omega
    have hall : C.take B.length = C := List.take_of_length_le (by omega)
    refine ⟨?qH2, ?qa2, ?qtm2, ?qap2, ?qrow2, ?qfg2, Run.step 30 fun k j => ?qrun2⟩
    case qrun2 =>
      simp [c58, body58, fr58, w8, w9, wq, t1, t2, q1, q2, hn, hn2, fillA, cellsOf, apK_s, isCell, Try.underlying5, Try.underlying35, hb2, hlb, n1, hB, b2, hall, hle1]
      (constructor <;> rfl)
    case qfg2 => simp [forget, fg58, c58, fr58]; rfl
    case qap2 =>
      refine ⟨fun c hc hn => ?_, by simp, fun c hc => Or.inr hc⟩
      have : b ≠ c := fun e => hn (by rw [e]; rfl)
      simp [hc, this]
    case qrow2 => exact Or.inr ⟨b, v + 1, by simp, by rw [e1]; simp [hlb]⟩
theorem app_l {T : FuncId → Option AFunc} : ∀ n, 0 ≤ n → n ≤ 18446744073709551615 → ∀ (h : Heap) (a : AV) (B : List Int), B.length + (leb n).length ≤ 140737488355328 → rowB h a B → ∀ (a2 a3 a15 a16 a17 a18 a19 : AV),
    ∃ H a' tm', Ap h H a a' ∧ rowB H a' (B ++ leb n) ∧ tm'[4]? = some a' ∧ Run Try.prog T (.seq (.block 0 (.loop fg58 body58)) tail58) (fr58 a n a2 a3 a15 a16 a17 a18 a19) h (.ret, tm', H) := by
  apply leb_ind (P := fun n => ∀ (h : Heap) (a : AV) (B : List Int), B.length + (leb n).length ≤ 140737488355328 → rowB h a B → ∀ (a2 a3 a15 a16 a17 a18 a19 : AV),
    ∃ H a' tm', Ap h H a a' ∧ rowB H a' (B ++ leb n) ∧ tm'[4]? = some a' ∧ Run Try.prog T (.seq (.block 0 (.loop fg58 body58)) tail58) (fr58 a n a2 a3 a15 a16 a17 a18 a19) h (.ret, tm', H))
  · intro n h0 h1 h a B hB hI a2 a3 a15 a16 a17 a18 a19
    rw [leb_lt h1] at hB ⊢
    exact app_end n h0 h1 h a B hB hI a2 a3 a15 a16 a17 a18 a19
  · intro n h0 h1 ih h a B hB hI a2 a3 a15 a16 a17 a18 a19
    rw [leb_ge h0 h1] at hB ⊢
    simp only [List.length_cons] at hB
    obtain ⟨H, a', tm', x1, x2, x3, x4⟩ := app_one (T := T) n h0 h1 h a B (by omega) hI a2 a3 a15 a16 a17 a18 a19
    obtain ⟨H2, a2', tm2, y1, y2, y3, y4⟩ := ih H a' (B ++ [n % 128 + 128]) (by simp; omega) x2 a2 a3 a15 a16 a17 a18 a19
    refine ⟨H2, a2', tm2, x1.trans y1, by simpa using y2, y3, ?_⟩
    have hfg : forget fg58 (fr58 a n a2 a3 a15 a16 a17 a18 a19) = fr58 a n a2 a3 a15 a16 a17 a18 a19 := by simp [forget, fg58, c58, fr58]
    exact Run.seq_block_loop hfg x4 x3 y4
theorem app_run {T : FuncId → Option AFunc} (hT : T 58 = prepFn Try.prog 58) (n : Int) (h0 : 0 ≤ n) (h1 : n ≤ 18446744073709551615) (h : Heap) (a : AV) (B : List Int) (hB : B.length ≤ 140737488300000) (hI : rowB h a B) :
    ∃ H a', FRun Try.prog T 58 [a, .s (.int .u64 n)] h (a', H) ∧ Ap h H a a' ∧ rowB H a' (B ++ leb n) := by
  have hl := (leb_length_le h0 h1).2
  obtain ⟨H, a', tm', x1, x2, x3, x4⟩ := app_l (T := T) n h0 h1 h a B (by omega) hI (.s undef) (.s undef) (.s undef) (.s undef) (.s undef) (.s undef) (.s undef)
  refine ⟨H, a', ?_, x1, x2⟩
  apply FRun.of (e := .ret) (tm' := tm') (hT.trans p58)
  · apply Run.seq
    · apply Run.step 20; intro k j
      simp
      (constructor <;> rfl)
    · exact Run.seq_block_forget (by simp [forget, fg58, c58, fr58]) x4
  · exact Or.inl rfl
  · simp [resAs, resA, x3, tupA]
end Go.Proofs.Ytpmoellbfgcefaa.AS
end
section
set_option autoImplicit false
set_option maxRecDepth 100000
set_option maxHeartbeats 2000000
set_option linter.unusedSimpArgs false
namespace Go.Proofs.Ytpmoellbfgcefaa.AS
open Go Go.Proofs Go.RowKit Go.Proofs.Ytpmoellbfgcefaa.AS.V

theorem by8_cells (C : List Int) : (by8 C).all isCell = true := by simp [by8, isCell]
theorem by8_app (B C : List Int) : by8 (B ++ C) = by8 B ++ by8 C := by simp [by8]
theorem rowB.mono {h H : Heap} {a : AV} {B : List Int} (x : rowB h a B) (hk : ∀ c, blkOf a = some c → bk H c = bk h c) : rowB H a B := by
  rcases x with x | ⟨b, v, rfl, hb⟩
  · exact Or.inl x
  · exact Or.inr ⟨b, v, rfl, by rw [hk b rfl, hb]⟩
theorem rowB.lt {h : Heap} {a : AV} {B : List Int} (x : rowB h a B) {c : Nat} (hc : blkOf a = some c) : c < h.length := by
  rcases x with ⟨rfl, _⟩ | ⟨b, v, rfl, hb⟩
  · cases hc
  · cases hc; exact bk_lt hb
theorem ap_row {h : Heap} {a : AV} {B : List Int} (hI : rowB h a B) (C : List Int) (hB : B.length + C.length ≤ 140737488355328) :
    ∃ H a', apV 5 1 1 h (some a) (some (C.length, by8 C)) = some (a', H) ∧ Ap h H a a' ∧ rowB H a' (B ++ C) := by
  rcases hI with ⟨rfl, rfl⟩ | ⟨b, v, rfl, hb⟩
  · cases C with
    | nil => exact ⟨h, _, rfl, ⟨fun _ _ _ => rfl, Nat.le_refl _, fun c hc => by cases hc⟩, Or.inl ⟨rfl, rfl⟩⟩
    | cons x C =>
      simp only [List.length_nil, List.length_cons] at hB
      refine ⟨_, _, apV_nil 5 1 1 _ _ (by simp) (by8_cells _) (by simp only [List.length_cons]; omega) (by simp only [List.length_cons]; omega), ⟨fun c hc _ => by simp [hc], by simp, fun c hc => Or.inl (by simp [blkOf] at hc; omega)⟩, Or.inr ⟨_, _, rfl, ?_⟩⟩
      simp
  · have hlb := bk_lt hb
    refine ⟨_, _, (apV_sl 5 1 1 C.length b v 0 B.length 1 (by8 C)).trans ((congrArg _ hb).trans (apK_s _ _ _ _ _ _ _ _ _ _ _ _ _ _ ⟨rfl, rfl, rfl, rfl, by rw [by8_len]; omega, by8_cells _, by omega, by omega⟩)), ?_, Or.inr ⟨b, v + 1, by simp, ?_⟩⟩
    · refine ⟨fun c hc hn => ?_, by simp, fun c hc => Or.inr hc⟩
      have : b ≠ c := fun e => hn (by rw [e]; rfl)
      simp [hc, this]
    · have hall : (by8 B).take B.length = by8 B := List.take_of_length_le (by rw [by8_len]; omega)
      simp [hlb, by8_app, hall]
theorem bytesOf_by8 (s : ByteArray) : by8 (bytesOf s) = s.data.toList.map fun b => .s (.int .u8 b.toNat) := by simp [by8, bytesOf]
theorem src_row {h : Heap} {a : AV} {B : List Int} (hI : rowB h a B) : srcW 1 h (some a) = some (B.length, by8 B) := by
  rcases hI with ⟨rfl, rfl⟩ | ⟨b, v, rfl, hb⟩
  · rfl
  · have hall : (by8 B).take B.length = by8 B := List.take_of_length_le (by rw [by8_len]; omega)
    simp [hb, rdK, by8_len, hall]
theorem b2_row {h : Heap} {a : AV} {B : List Int} (hI : rowB h a B) : b2V h (some a) = some (.s (.string (strOfNums B))) := by
  rcases hI with ⟨rfl, rfl⟩ | ⟨b, v, rfl, hb⟩
  · rfl
  · have hall : (by8 B).take B.length = by8 B := List.take_of_length_le (by rw [by8_len]; omega)
    simp [hb, rdK, by8_len, hall, bytesA_by8]

/-- The keys rise. -/
def okOrd : List (Int × ByteArray) → Bool
  | x :: y :: l => decide (x.1 < y.1) && okOrd (y :: l)
  | _ => true
/-- The numbers of the entries. -/
def wrF : List (Int × ByteArray) → Int → List Int
  | [], _ => []
  | x :: l, next => (leb (IntKind.u64.wrap (x.1 - next)) ++ leb x.2.size) ++ wrF l (IntKind.u64.wrap (x.1 + 1))
def dsz : List (Int × ByteArray) → Nat
  | [] => 0
  | x :: l => x.2.size + dsz l
def dat : List (Int × ByteArray) → List Int
  | [] => []
  | x :: l => bytesOf x.2 ++ dat l
theorem dat_len : ∀ E, (dat E).length = dsz E
  | [] => rfl
  | x :: l => by simp [dat, dsz, dat_len l, bytesOf_length]
def wrS (E : List (Int × ByteArray)) : ByteArray × Int :=
  if okOrd E = false then (⟨#[]⟩, 12) else if 65536 < E.length then (⟨#[]⟩, 15) else (strOfNums ((leb E.length ++ wrF E 0) ++ dat E), 0)

def fr32 (a : AV) (i : Int) (a1 a5 a6 a7 a8 a9 : AV) (R : List AV) : List AV := a :: a1 :: .any :: .any :: .s (.int .i64 i) :: a5 :: a6 :: a7 :: a8 :: a9 :: .any :: .any :: .any :: .any :: .any :: .any :: .any :: .any :: .any :: .any :: .any :: .any :: .any :: .any :: .any :: .any :: .any :: .any :: R
noncomputable def lp32 : ACode := match c32 with
  | .seq _ (.seq (.seq _ (.block _ l)) _) => l
  | _ => .skip
noncomputable def tl32 : ACode := match c32 with
  | .seq _ (.seq _ t) => t
  | _ => .skip
noncomputable def body32 : ACode := match lp32 with
  | .loop _ b => b
  | _ => .skip
noncomputable def fg32 : List Nat := match lp32 with
  | .loop fg _ => fg
  | _ => []
theorem o32_end {T : FuncId → Option AFunc} (a : AV) (n i : Int) (hla : lenA (some a) = some (.s (.int .i64 n))) (hj : ¬ i < n) (h : Heap) (a1 a5 a6 a7 a8 a9 : AV) (R : List AV) :
    Run Try.prog T body32 (fr32 a i a1 a5 a6 a7 a8 a9 R) h (.exit 0, ((((fr32 a i a1 a5 a6 a7 a8 a9 R).set 10 (.s (.int .i64 i))).set 11 a).set 12 (.s (.int .i64 n))).set 13 (.s (.bool false)), h) := by
  apply Run.step 30; intro k j
  simp [c32, lp32, body32, fr32, hla, eq_false hj]
theorem o32_one {T : FuncId → Option AFunc} (h : Heap) (b v o n : Nat) (E : List (Int × ByteArray)) (hA : rowOf h (.sl b v o n 2) = some E) (hn : n ≤ 4611686018427387903) (i : Nat) (x y : Int × ByteArray) (hx : E[i]? = some x) (hy : E[i + 1]? = some y) (a1 a5 a6 a7 a8 a9 : AV) (R : List AV) :
    (x.1 < y.1 → ∃ tm', forget fg32 tm' = fr32 (.sl b v o n 2) (((i + 1 : Nat) : Int) + 1) a1 a5 a6 a7 a8 a9 R ∧ Run Try.prog T body32 (fr32 (.sl b v o n 2) ((i + 1 : Nat) : Int) a1 a5 a6 a7 a8 a9 R) h (.normal, tm', h)) ∧
    (¬ x.1 < y.1 → ∃ tm', tm'[2]? = some (.s (.string ⟨#[]⟩)) ∧ tm'[3]? = some (.s (.int .i64 12)) ∧ Run Try.prog T body32 (fr32 (.sl b v o n 2) ((i + 1 : Nat) : Int) a1 a5 a6 a7 a8 a9 R) h (.ret, tm', h)) := by
  obtain ⟨e1, s1, w1, C1, hb1, hl1, hC1, hn1⟩ := rowOf_sl hA
  have hin : i + 1 < n := by have := (List.getElem?_eq_some_iff.1 hy).1; omega
  have hr1 := row_at (i := i + 1) hC1 hn1 hin
  rw [(List.getElem?_eq_some_iff.1 hy).2] at hr1
  have hr2 := row_at (i := i) hC1 hn1 (by omega)
  rw [(List.getElem?_eq_some_iff.1 hx).2] at hr2
  have hle1 : o + (i + 1) * 2 + 2 ≤ C1.length := by omega
  have hle2 : o + i * 2 + 2 ≤ C1.length := by omega
  have hr1' : (C1.drop (o + (i + 1) * 2)).take 1 = [.s (.int .u64 y.1)] := by
    have := congrArg (List.take 1) hr1
    rw [List.take_take] at this
    simpa using this
  have hr2' : (C1.drop (o + i * 2)).take 1 = [.s (.int .u64 x.1)] := by
    have := congrArg (List.take 1) hr2
    rw [List.take_take] at this
    simpa using this
  have hle1' : o + (i + 1) * 2 + 1 ≤ C1.length := by omega
  have hle2' : o + i * 2 + 1 ≤ C1.length := by omega
  have hjn : ((i : Int) + 1) < (n : Int) := by omega
  have hin' : i < n := by omega
  have w6 : (0 : Int) ≤ (i : Int) + 1 := by omega
  have w3 : IntKind.i64.wrap ((i : Int) + 1 + 1) = (i : Int) + 1 + 1 := w64k (by omega) (by omega)
  have w4 : IntKind.i64.wrap ((i : Int) + 1 - 1) = (i : Int) := by rw [show (i : Int) + 1 - 1 = i by omega]; exact w64k (by omega) (by omega)
  have w5 : IntKind.i64.wrap (i : Int) = (i : Int) := w64k (by omega) (by omega)
  refine ⟨fun hxy => ?_, fun hxy => ?_⟩
  · have hd : ¬ y.1 ≤ x.1 := by omega
    refine ⟨?q1, ?q3, Run.step 40 fun k j => ?q4⟩
    case q4 =>
      simp [c32, lp32, body32, fr32, eq_true hjn, hin, hin', hb1, hr1', hr2', hle1', hle2', oneOr, w3, w4, w5, w6, eq_false hd]
      (first | rfl | (constructor <;> rfl))
    case q3 =>
      simp [forget, fg32, lp32, c32, fr32]
      try rfl
  · have hd : y.1 ≤ x.1 := by omega
    refine ⟨?r1, ?r2, ?r4, Run.step 40 fun k j => ?r3⟩
    case r3 =>
      simp [c32, lp32, body32, fr32, eq_true hjn, hin, hin', hb1, hr1', hr2', hle1', hle2', oneOr, w3, w4, w5, w6, eq_true hd]
      (first | rfl | (constructor <;> rfl))
    case r2 => rfl
    case r4 => rfl
end Go.Proofs.Ytpmoellbfgcefaa.AS
end
section
set_option autoImplicit false
set_option maxRecDepth 100000
set_option maxHeartbeats 2000000
set_option linter.unusedSimpArgs false
namespace Go.Proofs.Ytpmoellbfgcefaa.AS
open Go Go.Proofs Go.RowKit Go.Proofs.Ytpmoellbfgcefaa.AS.V

theorem o32_loop {T : FuncId → Option AFunc} (h : Heap) (b v o n : Nat) (E : List (Int × ByteArray)) (hA : rowOf h (.sl b v o n 2) = some E) (hn : n ≤ 4611686018427387903) (a1 a5 a6 a7 a8 a9 : AV) (R : List AV) : ∀ (d i : Nat), i + 1 + d = n →
    (okOrd (E.drop i) = true → Run Try.prog T (.loop fg32 body32) (fr32 (.sl b v o n 2) ((i + 1 : Nat) : Int) a1 a5 a6 a7 a8 a9 R) h (.exit 0, ((((fr32 (.sl b v o n 2) (n : Int) a1 a5 a6 a7 a8 a9 R).set 10 (.s (.int .i64 n))).set 11 (.sl b v o n 2)).set 12 (.s (.int .i64 n))).set 13 (.s (.bool false)), h)) ∧
    (okOrd (E.drop i) = false → ∃ tm', tm'[2]? = some (.s (.string ⟨#[]⟩)) ∧ tm'[3]? = some (.s (.int .i64 12)) ∧ Run Try.prog T (.loop fg32 body32) (fr32 (.sl b v o n 2) ((i + 1 : Nat) : Int) a1 a5 a6 a7 a8 a9 R) h (.ret, tm', h)) := by
  have hn1 : E.length = n := (rowOf_sl hA).choose_spec.choose_spec.choose_spec.choose_spec.2.2.2
  have hfg : ∀ (i : Int), forget fg32 (fr32 (.sl b v o n 2) i a1 a5 a6 a7 a8 a9 R) = fr32 (.sl b v o n 2) i a1 a5 a6 a7 a8 a9 R := fun i => by simp [forget, fg32, lp32, c32, fr32]
  intro d
  induction d with
  | zero =>
    intro i hd
    obtain rfl : i + 1 = n := by omega
    have e : E.drop i = [E[i]'(by omega)] := by
      rw [List.drop_eq_getElem_cons (by omega), List.drop_eq_nil_of_le (by omega)]
    rw [e]
    refine ⟨fun _ => Run.loop_end_f (hfg _) (by simp) (o32_end (T := T) _ ((i + 1 : Nat) : Int) _ rfl (by omega) h a1 a5 a6 a7 a8 a9 R), fun h => by simp [okOrd] at h⟩
  | succ d ih =>
    intro i hd
    have h1 : i < E.length := by omega
    have h2 : i + 1 < E.length := by omega
    obtain ⟨k1, k2⟩ := o32_one (T := T) h b v o n E hA hn i E[i] E[i + 1] (List.getElem?_eq_getElem h1) (List.getElem?_eq_getElem h2) a1 a5 a6 a7 a8 a9 R
    rw [List.drop_eq_getElem_cons h1, List.drop_eq_getElem_cons h2]
    by_cases hxy : (E[i]).1 < (E[i + 1]).1
    · obtain ⟨tm', x1, x2⟩ := k1 hxy
      obtain ⟨i1, i2⟩ := ih (i + 1) (by omega)
      rw [List.drop_eq_getElem_cons h2] at i1 i2
      simp only [okOrd, hxy, decide_true, Bool.true_and]
      refine ⟨fun he => Run.loop_go (hfg _) x2 (by rw [x1]; rfl) (i1 he), fun he => ?_⟩
      obtain ⟨tm2, y1, y2, y3⟩ := i2 he
      exact ⟨tm2, y1, y2, Run.loop_go (hfg _) x2 (by rw [x1]; rfl) y3⟩
    · obtain ⟨tm', x1, x2, x3⟩ := k2 hxy
      simp only [okOrd, hxy, decide_false, Bool.false_and]
      exact ⟨fun h => absurd h (by simp), fun _ => ⟨tm', x1, x2, Run.loop_end_f (hfg _) (by simp) x3⟩⟩

structure InvW (g h : Heap) (b d : AV) (B D : List Int) : Prop where
  old : ∀ c, c < g.length → bk h c = bk g c
  len : g.length ≤ h.length
  rb : rowB h b B
  rd : rowB h d D
  pb : ∀ c, blkOf b = some c → g.length ≤ c
  pd : ∀ c, blkOf d = some c → g.length ≤ c
  sep : ∀ c, blkOf b = some c → blkOf d ≠ some c
theorem InvW.swap {g h : Heap} {b d : AV} {B D : List Int} (x : InvW g h b d B D) : InvW g h d b D B := ⟨x.old, x.len, x.rd, x.rb, x.pd, x.pb, fun c h1 h2 => x.sep c h2 h1⟩
theorem InvW.grow {g h H : Heap} {b d : AV} {B D : List Int} (x : InvW g h b d B D) (hk : ∀ c, c < h.length → bk H c = bk h c) (hl : h.length ≤ H.length) : InvW g H b d B D :=
  ⟨fun c hc => by rw [hk c (Nat.lt_of_lt_of_le hc x.len), x.old c hc], Nat.le_trans x.len hl, x.rb.mono fun c hc => hk c (x.rb.lt hc), x.rd.mono fun c hc => hk c (x.rd.lt hc), x.pb, x.pd, x.sep⟩
theorem InvW.ap {g h H : Heap} {b d b' : AV} {B D B' : List Int} (x : InvW g h b d B D) (y : Ap h H b b') (r : rowB H b' B') : InvW g H b' d B' D := by
  have hn : ∀ c, c < g.length → blkOf b ≠ some c := fun c hc e => by have := x.pb c e; omega
  refine ⟨fun c hc => by rw [y.keep c (Nat.lt_of_lt_of_le hc x.len) (hn c hc), x.old c hc], Nat.le_trans x.len y.len, r, x.rd.mono fun c hc => y.keep c (x.rd.lt hc) fun e => x.sep c e hc, fun c hc => ?_, x.pd, fun c hc hd => ?_⟩
  · rcases y.place c hc with h | h
    · exact Nat.le_trans x.len h
    · exact x.pb c h
  · rcases y.place c hc with h | h
    · have := x.rd.lt hd; omega
    · exact x.sep c h hd

def fr32b (a b d : AV) (nx n j : Int) (a1 a2 a3 a4 a8 a9 a10 a11 a12 a13 a14 a15 a16 a17 a18 a19 a20 a21 a22 a23 a24 a25 a26 a27 a28 a29 a30 a31 a32 a33 a34 a61 a62 a63 a64 : AV) : List AV := [a, a1, a2, a3, a4, b, d, .s (.int .u64 nx), a8, a9, a10, a11, a12, a13, a14, a15, a16, a17, a18, a19, a20, a21, a22, a23, a24, a25, a26, a27, a28, a29, a30, a31, a32, a33, a34, a, .s (.int .i64 n), .s (.int .i64 j)] ++ List.replicate 23 .any ++ [a61, a62, a63, a64]
noncomputable def tl32b : ACode := match tl32 with
  | .seq _ (.seq _ (.seq _ (.seq _ t))) => t
  | _ => .skip
noncomputable def lp32b : ACode := match tl32 with
  | .seq _ (.seq _ (.seq _ (.seq _ (.seq (.seq _ (.block _ l)) _)))) => l
  | _ => .skip
noncomputable def body32b : ACode := match lp32b with
  | .loop _ b => b
  | _ => .skip
noncomputable def fg32b : List Nat := match lp32b with
  | .loop fg _ => fg
  | _ => []
theorem w32_end {T : FuncId → Option AFunc} (a b d : AV) (nx n j : Int) (hj : ¬ j < n) (h : Heap) (a1 a2 a3 a4 a8 a9 a10 a11 a12 a13 a14 a15 a16 a17 a18 a19 a20 a21 a22 a23 a24 a25 a26 a27 a28 a29 a30 a31 a32 a33 a34 a61 a62 a63 a64 : AV) :
    Run Try.prog T body32b (fr32b a b d nx n j a1 a2 a3 a4 a8 a9 a10 a11 a12 a13 a14 a15 a16 a17 a18 a19 a20 a21 a22 a23 a24 a25 a26 a27 a28 a29 a30 a31 a32 a33 a34 a61 a62 a63 a64) h (.exit 2, (fr32b a b d nx n j a1 a2 a3 a4 a8 a9 a10 a11 a12 a13 a14 a15 a16 a17 a18 a19 a20 a21 a22 a23 a24 a25 a26 a27 a28 a29 a30 a31 a32 a33 a34 a61 a62 a63 a64).set 38 (.s (.bool false)), h) := by
  apply Run.step 30; intro k j
  simp [c32, lp32b, tl32, body32b, fr32b, eq_false hj]
theorem w32_one {T : FuncId → Option AFunc} (hT : T 58 = prepFn Try.prog 58) (g h : Heap) (b0 v0 o0 n : Nat) (E : List (Int × ByteArray)) (hb0 : b0 < g.length) (hA : rowOf g (.sl b0 v0 o0 n 2) = some E) (hn : n ≤ 4611686018427387903) (j : Nat) (x : Int × ByteArray) (hx : E[j]? = some x) (hz : x.2.size ≤ 70368744177664) (b d : AV) (nx : Int) (B D : List Int) (hB : B.length ≤ 140737488200000) (hD : D.length + x.2.size ≤ 140737488355328) (hI : InvW g h b d B D) (a1 a2 a3 a4 a8 a9 a10 a11 a12 a13 a14 a15 a16 a17 a18 a19 a20 a21 a22 a23 a24 a25 a26 a27 a28 a29 a30 a31 a32 a33 a34 a61 a62 a63 a64 : AV) :
    ∃ H b' d' a9' tm', InvW g H b' d' (B ++ (leb (IntKind.u64.wrap (x.1 - nx)) ++ leb x.2.size)) (D ++ bytesOf x.2) ∧ forget fg32b tm' = fr32b (.sl b0 v0 o0 n 2) b' d' (IntKind.u64.wrap (x.1 + 1)) n ((j : Int) + 1) a1 a2 a3 a4 a8 a9' a10 a11 a12 a13 a14 a15 a16 a17 a18 a19 a20 a21 a22 a23 a24 a25 a26 a27 a28 a29 a30 a31 a32 a33 a34 a61 a62 a63 a64 ∧ Run Try.prog T body32b (fr32b (.sl b0 v0 o0 n 2) b d nx n j a1 a2 a3 a4 a8 a9 a10 a11 a12 a13 a14 a15 a16 a17 a18 a19 a20 a21 a22 a23 a24 a25 a26 a27 a28 a29 a30 a31 a32 a33 a34 a61 a62 a63 a64) h (.normal, tm', H) := by
  obtain ⟨e1, s1, w1, C1, hb1, hl1, hC1, hn1⟩ := rowOf_sl hA
  have hb1 : bk h b0 = _ := (hI.old b0 hb0).trans hb1
  have hjn' : j < n := by have := (List.getElem?_eq_some_iff.1 hx).1; omega
  have hr1 := row_at (i := j) hC1 hn1 (by omega)
  rw [(List.getElem?_eq_some_iff.1 hx).2] at hr1
  have hle1 : o0 + j * 2 + 2 ≤ C1.length := by omega
  have hjn : (j : Int) < (n : Int) := by omega
  have w3 : IntKind.i64.wrap ((j : Int) + 1) = (j : Int) + 1 := w64k (by omega) (by omega)
  have hg0 : 0 ≤ IntKind.u64.wrap (x.1 - nx) ∧ IntKind.u64.wrap (x.1 - nx) ≤ 18446744073709551615 := by simp [IntKind.wrap, IntKind.bits, IntKind.signed]; omega
  have w4 : IntKind.u64.wrap (x.2.size : Int) = (x.2.size : Int) := wu64 (by omega) (by omega)
  -- the entry's own block
  generalize hh1 : h ++ [(⟨0, 52, 2, true, [.s (.int .u64 x.1), .s (.string x.2)]⟩ : Blk)] = h1
  have hI1 : InvW g h1 b d B D := by
    subst hh1
    exact hI.grow (fun c hc => by simp [hc]) (by simp)
  have p1 : bk h1 h.length = some ⟨0, 52, 2, true, [.s (.int .u64 x.1), .s (.string x.2)]⟩ := by subst hh1; simp
  have l1 : h.length < h1.length := by subst hh1; simp
  have nb : blkOf b ≠ some h.length := fun e => by have := hI.rb.lt e; omega
  have nd : blkOf d ≠ some h.length := fun e => by have := hI.rd.lt e; omega
  have hl1 := leb_length_le hg0.1 hg0.2
  obtain ⟨H2, b2, f2, y2, r2⟩ := app_run (T := T) hT (IntKind.u64.wrap (x.1 - nx)) hg0.1 hg0.2 h1 b B (by omega) hI1.rb
  have hI2 := hI1.ap y2 r2
  have p2 : bk H2 h.length = _ := (y2.keep h.length l1 nb).trans p1
  have nb2 : blkOf b2 ≠ some h.length := fun e => by
    rcases y2.place _ e with h | h
    · omega
    · exact nb h
  have l2 : h.length < H2.length := Nat.lt_of_lt_of_le l1 y2.len
  have hl2 := leb_length_le (n := (x.2.size : Int)) (by omega) (by omega)
  obtain ⟨H3, b3, f3, y3, r3⟩ := app_run (T := T) hT (x.2.size : Int) (by omega) (by omega) H2 b2 _ (by rw [List.length_append]; omega) r2
  have hI3 := hI2.ap y3 r3
  have p3 : bk H3 h.length = _ := (y3.keep h.length l2 nb2).trans p2
  have l3 : h.length < H3.length := Nat.lt_of_lt_of_le l2 y3.len
  obtain ⟨H4, d4, f4, y4, r4⟩ := ap_row hI3.rd (bytesOf x.2) (by rw [bytesOf_length]; omega)
  have hI4 := (hI3.swap.ap y4 r4).swap
  have p4 : bk H4 h.length = _ := (y4.keep h.length l3 nd).trans p3
  rw [bytesOf_by8, bytesOf_length] at f4
  obtain ⟨J2, g2⟩ := f2.get
  obtain ⟨J3, g3⟩ := f3.get
  refine ⟨H4, b3, d4, .pt h.length 0 0, ?tm, by rw [← List.append_assoc]; exact hI4, ?fg, ?run⟩
  case run =>
    apply Run.seq
    · apply Run.step 20; intro k j
      simp [c32, lp32b, tl32, body32b, fr32b, eq_true hjn]
      (first | rfl | (constructor <;> rfl))
    · apply Run.seq
      · apply Run.step 20; intro k j
        simp
        (first | rfl | (constructor <;> rfl))
      · apply Run.seq
        · apply Run.block_id (by simp)
          apply Run.seq
          · apply Run.step 20; intro k j
            simp [hjn', hb1, hr1, hle1, hh1, p1, oneOr, cellsOf, isCell]
            (first | rfl | (constructor <;> rfl))
          · apply Run.seq
            · apply Run.stepJ 20 J2; intro k j hj
              simp [p1, oneOr, g2 j hj]
              (first | rfl | (constructor <;> rfl))
            · apply Run.seq
              · apply Run.stepJ 20 J3; intro k j hj
                simp [p2, oneOr, w4, g3 j hj]
                (first | rfl | (constructor <;> rfl))
              · apply Run.seq
                · apply Run.step 20; intro k j
                  simp [p3, oneOr, f4]
                  (first | rfl | (constructor <;> rfl))
                · apply Run.step 20; intro k j
                  simp [p4, oneOr]
                  (first | rfl | (constructor <;> rfl))
        · apply Run.step 20; intro k j
          simp [w3]
          (first | rfl | (constructor <;> rfl))
  case fg =>
    simp [forget, fg32b, lp32b, tl32, c32, fr32b]
    try rfl
end Go.Proofs.Ytpmoellbfgcefaa.AS
end
