/- Of our own: an abstract machine beside the model, its soundness, and walks of the program in it. -/
import Derived.Test.YtpmoellbfgcefaaA19
import Derived.Test.YtpmoellbfgcefaaA20
set_option linter.unusedSimpArgs false
set_option linter.unusedVariables false
section
set_option autoImplicit false
set_option maxRecDepth 100000
set_option maxHeartbeats 2000000
set_option linter.unusedSimpArgs false
namespace Go.Proofs.Ytpmoellbfgcefaa.AS
open Go Go.Proofs Go.RowKit Go.Proofs.Ytpmoellbfgcefaa.AS.V

theorem bk_grows {h h1 : Heap} (g : Grows h h1) {b : Nat} {k : Blk} (e : bk h b = some k) : bk h1 b = some k := (g b (bk_lt e)).trans e
theorem rdK_grows {h h1 : Heap} (g : Grows h h1) {b v o n : Nat} {l : List AV} (e : rdK (bk h b) v o n = some l) : rdK (bk h1 b) v o n = some l := by
  cases hb : bk h b with
  | none => rw [hb] at e; simp [rdK] at e
  | some k => rw [bk_grows g hb, ← hb]; exact e
theorem rowOf_grows {h h1 : Heap} (g : Grows h h1) {a : AV} {E : List (Int × ByteArray)} (e : rowOf h a = some E) : rowOf h1 a = some E := by
  unfold rowOf at e ⊢
  split at e
  · exact e
  · rename_i b v o n
    cases hr : rdK (bk h b) v o (n * 2) with
    | none => rw [hr] at e; cases e
    | some l => rw [rdK_grows g hr]; rw [hr] at e; exact e
  · cases e
theorem rowUOf_grows {h h1 : Heap} (g : Grows h h1) {a : AV} {E : List Int} (e : rowUOf h a = some E) : rowUOf h1 a = some E := by
  unfold rowUOf at e ⊢
  split at e
  · exact e
  · rename_i b v o n
    cases hr : rdK (bk h b) v o n with
    | none => rw [hr] at e; cases e
    | some l => rw [rdK_grows g hr]; rw [hr] at e; exact e
  · cases e
theorem rowUH_grows (h : Heap) (K : List Int) : Grows h (rowUH h K) := by
  unfold rowUH; split
  · exact Grows.refl h
  · exact Grows.app h _
theorem rangeF_empty {E : List (Int × ByteArray)} {a b : Int} (h : b < a) : rangeF E a b = [] := by
  unfold rangeF
  rw [List.filter_eq_nil_iff]
  intro e _
  simp; omega
theorem range25 (s : ByteArray) (hs : s.size ≤ 9223372036854775807) (a b : Int) (h : Heap) : ∃ A H, hkRange [.s (.string s), .s (.int .u64 a), .s (.int .u64 b)] h = some (.tp [A, .s (.int .i64 (readS s).2.2)], H) ∧ rowOf H A = some (rangeF (readS s).1 a b) ∧ Grows h H := by
  by_cases hb : b < a
  · exact ⟨.s (.slice none 0 0), h, by simp [hkRange, hs, hb], by rw [rangeF_empty hb]; rfl, Grows.refl h⟩
  · refine ⟨_, _, by simp only [hkRange]; rw [if_pos hs, if_neg hb], ?_, ?_⟩
    · by_cases hE : (readS s).1 = []
      · rw [hE]; rfl
      · have e1 : ∀ F, rngA h.length (readS s).1 F = .sl h.length 0 0 F.length 2 := fun F => if_neg hE
        have e2 : ∀ F, rngH h (readS s).1 F = h ++ [⟨0, 52, 2, true, F.flatMap entC⟩] := fun F => if_neg hE
        rw [e1, e2]
        generalize rangeF (readS s).1 a b = F
        have hl := entC_len F
        simp only [rowOf]
        rw [bk_new, rdK_s, if_pos ⟨rfl, by omega⟩, List.drop_zero, List.take_of_length_le (by omega)]
        exact entsA_entC F
    · unfold rngH; split
      · exact Grows.refl h
      · exact Grows.app h _
theorem asks_run {T : FuncId → Option AFunc} (h23 : T 23 = some (.hook hkFind)) (h24 : T 24 = some (.hook hkFind)) (h25 : T 25 = some (.hook hkRange)) (h26 : T 26 = some (.hook hkRangeR)) (h27 : T 27 = some (.hook hkKeys)) (h28 : T 28 = some (.hook hkKeys)) (h30 : T 30 = some (.hook hkSame30)) (h31 : T 31 = some (.hook hkSame31)) (h29 : T 29 = some (.hook fun l h => (hkYes l).map fun x => (x, h))) (h5 : T 5 = prepFn Try.prog 5) (s : ByteArray) (hs : s.size ≤ 9223372036854775807) (key to : Int) (h : Heap) : ∃ H, FRun Try.prog T 5 [.s (.string s), .s (.int .u64 key), .s (.int .u64 to)] h (.s (.bool true), H) := by
  have c23 := fun k l h => evFn_hook (P := Try.prog) (T := T) (k := k) (f := 23) (args := l) (h := h) h23
  have c24 := fun k l h => evFn_hook (P := Try.prog) (T := T) (k := k) (f := 24) (args := l) (h := h) h24
  have c25 := fun k l h => evFn_hook (P := Try.prog) (T := T) (k := k) (f := 25) (args := l) (h := h) h25
  have c26 := fun k l h => evFn_hook (P := Try.prog) (T := T) (k := k) (f := 26) (args := l) (h := h) h26
  have c27 := fun k l h => evFn_hook (P := Try.prog) (T := T) (k := k) (f := 27) (args := l) (h := h) h27
  have c28 := fun k l h => evFn_hook (P := Try.prog) (T := T) (k := k) (f := 28) (args := l) (h := h) h28
  have c29 := fun k l h => evFn_hook (P := Try.prog) (T := T) (k := k) (f := 29) (args := l) (h := h) h29
  have c30 := fun k l h => evFn_hook (P := Try.prog) (T := T) (k := k) (f := 30) (args := l) (h := h) h30
  have c31 := fun k l h => evFn_hook (P := Try.prog) (T := T) (k := k) (f := 31) (args := l) (h := h) h31
  have hT : T 5 = prepFn Try.prog 5 := h5
  have hlen := readS_len hs
  have hf : ∀ h, hkFind [.s (.string s), .s (.int .u64 key)] h = some (.tp [.s (.string (if (readS s).2.2 = 0 then (findF (readS s).1 key).1 else ⟨#[]⟩)), .s (.int .i64 (if (readS s).2.2 = 0 then (findF (readS s).1 key).2 else (readS s).2.2))], h) := fun h => by simp only [hkFind]; rw [if_pos hs]
  generalize (if (readS s).2.2 = 0 then (findF (readS s).1 key).1 else ⟨#[]⟩) = fd at hf
  generalize (if (readS s).2.2 = 0 then (findF (readS s).1 key).2 else (readS s).2.2) = fe at hf
  obtain ⟨A1, H1, e25, r25, g1⟩ := range25 s hs key to h
  have e26 : hkRangeR [.s (.string s), .s (.int .u64 key), .s (.int .u64 to)] H1 = some (.tp [rowN H1.length (rangeF (readS s).1 key to), .s (.int .i64 (readS s).2.2)], rowH H1 (rangeF (readS s).1 key to)) := by simp only [hkRangeR]; rw [if_pos hs]
  have r26 := rowOf_new H1 (rangeF (readS s).1 key to)
  have g2 := rowH_grows H1 (rangeF (readS s).1 key to)
  have hF : (rangeF (readS s).1 key to).length ≤ 4611686018427387903 := by
    have := List.length_filter_le (fun e : Int × ByteArray => decide (key ≤ e.1) && decide (e.1 ≤ to)) (readS s).1
    unfold rangeF; omega
  generalize rowN H1.length (rangeF (readS s).1 key to) = A2 at *
  generalize rowH H1 (rangeF (readS s).1 key to) = H2 at *
  generalize rangeF (readS s).1 key to = F at *
  have e27 : ∀ h, hkKeys [.s (.string s)] h = some (.tp [rowU h.length ((readS s).1.map (·.1)), .s (.int .i64 (readS s).2.2)], rowUH h ((readS s).1.map (·.1))) := fun h => by simp only [hkKeys]; rw [if_pos hs]
  have r27 := rowU_new H2 ((readS s).1.map (·.1))
  have g3 := rowUH_grows H2 ((readS s).1.map (·.1))
  have r28 := rowU_new (rowUH H2 ((readS s).1.map (·.1))) ((readS s).1.map (·.1))
  have g4 := rowUH_grows (rowUH H2 ((readS s).1.map (·.1))) ((readS s).1.map (·.1))
  have hK : ((readS s).1.map (·.1)).length ≤ 4611686018427387903 := by simp; omega
  have e27' := e27 H2
  have e28' := e27 (rowUH H2 ((readS s).1.map (·.1)))
  clear e27
  generalize (readS s).1.map (·.1) = K at *
  generalize (readS s).2.2 = w at *
  generalize rowU H2.length K = A3 at *
  generalize rowUH H2 K = H3 at *
  generalize rowU H3.length K = A4 at *
  generalize rowUH H3 K = H4 at *
  have q1 := rowOf_grows g4 (rowOf_grows g3 (rowOf_grows g2 r25))
  have q2 := rowOf_grows g4 (rowOf_grows g3 r26)
  have q3 := rowUOf_grows g4 r27
  refine ⟨H4, ?_⟩
  apply FRun.of (e := .ret) (hT.trans p5)
  · apply Run.seq
    · apply Run.step 30; intro k j
      simp
      (first | rfl | (constructor <;> rfl))
    · apply Run.seq
      · apply Run.step 30; intro k j
        simp [c23, hf]
        (first | rfl | (constructor <;> rfl))
      · apply Run.seq
        · apply Run.step 30; intro k j
          simp [c24, hf]
          (first | rfl | (constructor <;> rfl))
        · apply Run.seq
          · apply Run.step 30; intro k j
            simp [c25, e25]
            (first | rfl | (constructor <;> rfl))
          · apply Run.seq
            · apply Run.step 30; intro k j
              simp [c26, e26]
              (first | rfl | (constructor <;> rfl))
            · apply Run.seq
              · apply Run.step 30; intro k j
                simp [c27, e27']
                (first | rfl | (constructor <;> rfl))
              · apply Run.seq
                · apply Run.step 30; intro k j
                  simp [c28, e28']
                  (first | rfl | (constructor <;> rfl))
                · apply Run.seq
                  · apply Run.reg_cut 5
                    · apply Run.step 10; intro k j
                      simp [c29, c30, c31, hkYes, hkSame30, hkSame31, q1, q2, q3, r28, hF, hK]
                      (first | rfl | (constructor <;> rfl))
                    · apply Run.reg_cut 5
                      · apply Run.step 10; intro k j
                        simp [c29, c30, c31, hkYes, hkSame30, hkSame31, q1, q2, q3, r28, hF, hK]
                        (first | rfl | (constructor <;> rfl))
                      · apply Run.reg_cut 5
                        · apply Run.step 10; intro k j
                          simp [c29, c30, c31, hkYes, hkSame30, hkSame31, q1, q2, q3, r28, hF, hK]
                          (first | rfl | (constructor <;> rfl))
                        · apply Run.reg_cut 5
                          · apply Run.step 10; intro k j
                            simp [c29, c30, c31, hkYes, hkSame30, hkSame31, q1, q2, q3, r28, hF, hK]
                            (first | rfl | (constructor <;> rfl))
                          · apply Run.reg_cut 5
                            · apply Run.step 10; intro k j
                              simp [c29, c30, c31, hkYes, hkSame30, hkSame31, q1, q2, q3, r28, hF, hK]
                              (first | rfl | (constructor <;> rfl))
                            · apply Run.reg_cut 5
                              · apply Run.step 10; intro k j
                                simp [c29, c30, c31, hkYes, hkSame30, hkSame31, q1, q2, q3, r28, hF, hK]
                                (first | rfl | (constructor <;> rfl))
                              · apply Run.step 10; intro k j
                                simp [c29, c30, c31, hkYes, hkSame30, hkSame31, q1, q2, q3, r28, hF, hK]
                                (first | rfl | (constructor <;> rfl))
                  · apply Run.step 10; intro k j
                    simp
                    (first | rfl | (constructor <;> rfl))
  · exact Or.inl rfl
  · rfl
theorem asks (s : ByteArray) (hs : s.size ≤ 9223372036854775807) (key to : Int) : ∃ H, FRun Try.prog TD 5 [.s (.string s), .s (.int .u64 key), .s (.int .u64 to)] [] (.s (.bool true), H) :=
  asks_run TD_23 TD_24 TD_25 TD_26 TD_27 TD_28 TD_30 TD_31 TD_29 TD_5 s hs key to []
end Go.Proofs.Ytpmoellbfgcefaa.AS
end
section
set_option autoImplicit false
namespace Go.Proofs.Ytpmoellbfgcefaa.AS
open Go Go.RowKit
theorem runDraw_ev {P : Program} {g : CallF} : ∀ (ops : List AOper) (tm : List AV) (h : Heap) (r : List AV × Heap), evOps P g ops tm h = some r → ∃ hs xs, runDraw P g ops tm h = some (hs, xs, r)
  | [], tm, h, r, H => by simp only [evOps, Option.some.injEq] at H; subst H; exact ⟨_, _, rfl⟩
  | o :: rest, tm, h, r, H => by
    simp only [evOps] at H
    simp only [runDraw]
    cases hw : wantA tm o.guard with
    | none => rw [hw] at H; cases H
    | some b =>
      rw [hw] at H
      cases b with
      | false =>
        simp only at H ⊢
        obtain ⟨hs, xs, e⟩ := runDraw_ev rest _ _ r H
        rw [e]; exact ⟨_, _, rfl⟩
      | true =>
        simp only at H ⊢
        cases ho : opV P g tm h o.op with
        | none => rw [ho] at H; cases H
        | some x =>
          obtain ⟨x, h'⟩ := x
          rw [ho] at H
          simp only at H ⊢
          obtain ⟨hs, xs, e⟩ := runDraw_ev rest _ _ r H
          rw [e]; exact ⟨_, _, rfl⟩
/-- A region whose order is open, and whose reads need no look at other heaps, as one in order. -/
theorem Run.draw0 {P : Program} {T : FuncId → Option AFunc} {l : List AOper} {tm tm' : List AV} {h h' : Heap} (H : Run P T (.reg l) tm h (.normal, tm', h')) : Run P T (.draw l []) tm h (.normal, tm', h') := by
  obtain ⟨K, H⟩ := H
  refine ⟨K + 1, fun k j hk hj => ?_⟩
  have h1 := H k j (by omega) (by omega)
  obtain ⟨k, rfl⟩ : ∃ k', k = k' + 1 := ⟨k - 1, by omega⟩
  rw [evC_reg] at h1
  cases he : evOps P (evFn P T j) l tm h with
  | none => rw [he] at h1; cases h1
  | some r =>
    rw [he] at h1
    obtain ⟨hs, xs, e⟩ := runDraw_ev l tm h r he
    simp only [evC, e, chkDraw]
    exact h1
theorem find_mem : ∀ {E : List (Int × ByteArray)}, Asc E → ∀ {x}, x ∈ E → E.find? (fun e => decide (e.1 = x.1)) = some x
  | y :: E, ha, x, hx => by
    rcases List.mem_cons.1 hx with rfl | hx
    · simp
    · have := (List.pairwise_cons.1 ha).1 x hx
      rw [List.find?_cons_of_neg (by simp; omega)]
      exact find_mem (List.pairwise_cons.1 ha).2 hx
theorem range_one : ∀ {E : List (Int × ByteArray)}, Asc E → ∀ {x}, x ∈ E → rangeF E x.1 x.1 = [x]
  | y :: E, ha, x, hx => by
    obtain ⟨h1, h2⟩ := List.pairwise_cons.1 ha
    have hp : ∀ e : Int × ByteArray, (decide (x.1 ≤ e.1) && decide (e.1 ≤ x.1)) = decide (e.1 = x.1) := fun e => by
      rw [← Bool.decide_and]; congr 1; apply propext; omega
    rcases List.mem_cons.1 hx with rfl | hx
    · unfold rangeF
      rw [List.filter_cons_of_pos (by simp), List.filter_eq_nil_iff.2 (fun e he => by have := h1 e he; simp; omega)]
    · have := h1 x hx
      have ih := range_one h2 hx
      unfold rangeF at ih ⊢
      rw [List.filter_cons_of_neg (by simp; omega)]
      exact ih
def anyK (E : List (Int × ByteArray)) (key : Int) : Bool := E.any fun e => decide (e.1 = key)
theorem find_any (E : List (Int × ByteArray)) (key : Int) : decide ((findF E key).2 = 0) = anyK E key := by
  unfold findF anyK
  cases h : E.find? (fun e => decide (e.1 = key)) with
  | none => 
    have : (E.any fun e => decide (e.1 = key)) = false := by
      rw [List.any_eq_false]
      exact fun e he => List.find?_eq_none.1 h e he
    rw [this]; simp
  | some e =>
    have h1 := List.find?_some h
    have h2 := List.mem_of_find?_eq_some h
    have : (E.any fun e => decide (e.1 = key)) = true := List.any_eq_true.2 ⟨e, h2, h1⟩
    rw [this]; simp
end Go.Proofs.Ytpmoellbfgcefaa.AS
end
section
set_option autoImplicit false
set_option maxRecDepth 100000
set_option maxHeartbeats 4000000
set_option linter.unusedSimpArgs false
namespace Go.Proofs.Ytpmoellbfgcefaa.AS
open Go Go.Proofs Go.RowKit Go.Proofs.Ytpmoellbfgcefaa.AS.V

def gapW (x y : Int) : Int := IntKind.u64.wrap (IntKind.u32.wrap (IntKind.u32.wrap (y - x) - 1))
def restF : List Int → List Int
  | x :: y :: l => leb (gapW x y) ++ restF (y :: l)
  | _ => []
theorem u64_range (n : Int) : 0 ≤ IntKind.u64.wrap n ∧ IntKind.u64.wrap n ≤ 18446744073709551615 := wrap_range n
theorem restF_len : ∀ L : List Int, (restF L).length ≤ 10 * L.length
  | [] => by simp [restF]
  | [x] => by simp [restF]
  | x :: y :: l => by
    have h1 := leb_length_le (n := gapW x y) (u64_range _).1 (u64_range _).2
    have h2 := restF_len (y :: l)
    simp only [restF, List.length_append, List.length_cons] at h2 ⊢
    omega
def fr41 (p5 p6 : Nat) (x t8 : AV) (k : Int) (a0 a1 a2 a3 a4 a10 a11 a12 a13 a14 a15 a16 a17 a18 a19 a20 a21 a42 a43 a44 a45 a46 a47 a48 a49 a50 a51 a52 a53 a54 a55 a56 a57 a58 a59 a60 a61 a62 a63 a64 a65 a66 a67 a68 a69 a70 : AV) : List AV := [a0, a1, a2, a3, a4, .pt p5 0 0, .pt p6 0 0, x, t8, .s (.int .i64 k), a10, a11, a12, a13, a14, a15, a16, a17, a18, a19, a20, a21] ++ List.replicate 20 .any ++ [a42, a43, a44, a45, a46, a47, a48, a49, a50, a51, a52, a53, a54, a55, a56, a57, a58, a59, a60, a61, a62, a63, a64, a65, a66, a67, a68, a69, a70]
noncomputable def rf41 : ACode := match c41 with
  | .seq _ (.seq _ (.seq _ (.seq _ (.seq (.seq _ (.block _ r)) _)))) => r
  | _ => .skip
noncomputable def tl41 : ACode := match c41 with
  | .seq _ (.seq _ (.seq _ (.seq _ (.seq _ t)))) => t
  | _ => .skip
noncomputable def rb41 : ACode := match rf41 with
  | .rangeF _ _ _ b => b
  | _ => .skip
noncomputable def ra41 : ACode := match rf41 with
  | .rangeF _ _ a _ => a
  | _ => .skip
noncomputable def lp41 : ACode := match rb41 with
  | .block _ (.seq _ (.seq (.seq _ (.block _ l)) _)) => l
  | _ => .skip
noncomputable def rt41 : ACode := match rb41 with
  | .block _ (.seq _ (.seq _ t)) => t
  | _ => .skip
noncomputable def body41 : ACode := match lp41 with
  | .loop _ b => b
  | _ => .skip
noncomputable def fg41 : List Nat := match lp41 with
  | .loop fg _ => fg
  | _ => []
theorem g41_end {T : FuncId → Option AFunc} (p5 p6 b v o e : Nat) (t8 : AV) (k : Int) (hk : ¬ k < e) (h : Heap) (a0 a1 a2 a3 a4 a10 a11 a12 a13 a14 a15 a16 a17 a18 a19 a20 a21 a42 a43 a44 a45 a46 a47 a48 a49 a50 a51 a52 a53 a54 a55 a56 a57 a58 a59 a60 a61 a62 a63 a64 a65 a66 a67 a68 a69 a70 : AV) :
    Run Try.prog T body41 (fr41 p5 p6 (.sl b v o e 1) t8 k a0 a1 a2 a3 a4 a10 a11 a12 a13 a14 a15 a16 a17 a18 a19 a20 a21 a42 a43 a44 a45 a46 a47 a48 a49 a50 a51 a52 a53 a54 a55 a56 a57 a58 a59 a60 a61 a62 a63 a64 a65 a66 a67 a68 a69 a70) h (.exit 2, ((((fr41 p5 p6 (.sl b v o e 1) t8 k a0 a1 a2 a3 a4 a10 a11 a12 a13 a14 a15 a16 a17 a18 a19 a20 a21 a42 a43 a44 a45 a46 a47 a48 a49 a50 a51 a52 a53 a54 a55 a56 a57 a58 a59 a60 a61 a62 a63 a64 a65 a66 a67 a68 a69 a70).set 22 (.s (.int .i64 k))).set 23 (.sl b v o e 1)).set 24 (.s (.int .i64 e))).set 25 (.s (.bool false)), h) := by
  apply Run.step 30; intro k j
  simp [c41, rf41, rb41, lp41, body41, fr41, eq_false hk]
theorem g41_one {T : FuncId → Option AFunc} (hT : T 58 = prepFn Try.prog 58) (p5 p6 b v o e : Nat) (t8 : AV) (C : List Int) (R : List Int) (h : Heap) (hA : rowWOf h (.sl b v o e 1) = some C) (he : e ≤ 32) (k : Nat) (x y : Int) (hx : C[k]? = some x) (hy : C[k + 1]? = some y) (hR : R.length ≤ 1000) (hI : rowB h t8 R) (a0 a1 a2 a3 a4 a10 a11 a12 a13 a14 a15 a16 a17 a18 a19 a20 a21 a42 a43 a44 a45 a46 a47 a48 a49 a50 a51 a52 a53 a54 a55 a56 a57 a58 a59 a60 a61 a62 a63 a64 a65 a66 a67 a68 a69 a70 : AV) :
    ∃ H t8' tm', Ap h H t8 t8' ∧ rowB H t8' (R ++ leb (gapW x y)) ∧ forget fg41 tm' = fr41 p5 p6 (.sl b v o e 1) t8' (((k + 1 : Nat) : Int) + 1) a0 a1 a2 a3 a4 a10 a11 a12 a13 a14 a15 a16 a17 a18 a19 a20 a21 a42 a43 a44 a45 a46 a47 a48 a49 a50 a51 a52 a53 a54 a55 a56 a57 a58 a59 a60 a61 a62 a63 a64 a65 a66 a67 a68 a69 a70 ∧ Run Try.prog T body41 (fr41 p5 p6 (.sl b v o e 1) t8 ((k + 1 : Nat) : Int) a0 a1 a2 a3 a4 a10 a11 a12 a13 a14 a15 a16 a17 a18 a19 a20 a21 a42 a43 a44 a45 a46 a47 a48 a49 a50 a51 a52 a53 a54 a55 a56 a57 a58 a59 a60 a61 a62 a63 a64 a65 a66 a67 a68 a69 a70) h (.normal, tm', H) := by
  obtain ⟨e1, s1, w1, C1, hb1, hl1, hC1, hn1⟩ := rowWOf_sl hA
  have hin : k + 1 < e := by have := (List.getElem?_eq_some_iff.1 hy).1; omega
  have hr1 := rowW_at hC1 hin hy
  have hr2 := rowW_at hC1 (by omega : k < e) hx
  have hle1 : o + (k + 1) + 1 ≤ C1.length := by omega
  have hle2 : o + k + 1 ≤ C1.length := by omega
  have hjn : ((k : Int) + 1) < (e : Int) := by omega
  have hin' : k < e := by omega
  have w6 : (0 : Int) ≤ (k : Int) + 1 := by omega
  have w3 : IntKind.i64.wrap ((k : Int) + 1 + 1) = (k : Int) + 1 + 1 := w64k (by omega) (by omega)
  have w5 : IntKind.i64.wrap (k : Int) = (k : Int) := w64k (by omega) (by omega)
  obtain ⟨H, t8', f1, y1, r1⟩ := app_run (T := T) hT (gapW x y) (u64_range _).1 (u64_range _).2 h t8 R (by omega) hI
  obtain ⟨J, g1⟩ := f1.get
  have g1 : ∀ j, J ≤ j → evFn Try.prog T (j + 1) 58 [t8, .s (.int .u64 (IntKind.u64.wrap (IntKind.u32.wrap (IntKind.u32.wrap (y - x) - 1))))] h = some (t8', H) := g1
  refine ⟨H, t8', ?q1, y1, r1, ?q3, ?q4⟩
  case q4 =>
    apply Run.seq
    · apply Run.step 20; intro k j
      simp [c41, rf41, rb41, lp41, body41, fr41, eq_true hjn]
      (first | rfl | (constructor <;> rfl))
    · apply Run.seq
      · apply Run.block_id (by simp)
        apply Run.draw0
        apply Run.reg_cut 6
        · apply Run.step 10; intro k j
          simp [hin, eq_true hjn, hb1, hr1, hle1, oneOr, w6]
          (first | rfl | (constructor <;> rfl))
        · apply Run.stepJ 10 J; intro k j hj
          simp [hin', hb1, hr2, hle2, oneOr, w5, g1 j hj]
          (first | rfl | (constructor <;> rfl))
      · apply Run.step 20; intro k j
        simp [w3]
        (first | rfl | (constructor <;> rfl))
  case q3 =>
    simp [forget, fg41, lp41, rb41, rf41, c41, fr41]
    try rfl
theorem g41_loop {T : FuncId → Option AFunc} (hT : T 58 = prepFn Try.prog 58) (p5 p6 b v o e : Nat) (C : List Int) (h0 : Heap) (hA : rowWOf h0 (.sl b v o e 1) = some C) (hb : b < h0.length) (he : e ≤ 32) (a0 a1 a2 a3 a4 a10 a11 a12 a13 a14 a15 a16 a17 a18 a19 a20 a21 a42 a43 a44 a45 a46 a47 a48 a49 a50 a51 a52 a53 a54 a55 a56 a57 a58 a59 a60 a61 a62 a63 a64 a65 a66 a67 a68 a69 a70 : AV) : ∀ (d k : Nat) (t8 : AV) (R : List Int) (h : Heap), k + 1 + d = e → R.length + 10 * d ≤ 1000 → rowB h t8 R → (∀ c, c < h0.length → bk h c = bk h0 c) → h0.length ≤ h.length → (∀ c, blkOf t8 = some c → h0.length ≤ c) →
    ∃ H t8', rowB H t8' (R ++ restF (C.drop k)) ∧ (∀ c, c < h0.length → bk H c = bk h0 c) ∧ h0.length ≤ H.length ∧ (∀ c, blkOf t8' = some c → h0.length ≤ c) ∧
      Run Try.prog T (.loop fg41 body41) (fr41 p5 p6 (.sl b v o e 1) t8 ((k + 1 : Nat) : Int) a0 a1 a2 a3 a4 a10 a11 a12 a13 a14 a15 a16 a17 a18 a19 a20 a21 a42 a43 a44 a45 a46 a47 a48 a49 a50 a51 a52 a53 a54 a55 a56 a57 a58 a59 a60 a61 a62 a63 a64 a65 a66 a67 a68 a69 a70) h (.exit 2, ((((fr41 p5 p6 (.sl b v o e 1) t8' (e : Int) a0 a1 a2 a3 a4 a10 a11 a12 a13 a14 a15 a16 a17 a18 a19 a20 a21 a42 a43 a44 a45 a46 a47 a48 a49 a50 a51 a52 a53 a54 a55 a56 a57 a58 a59 a60 a61 a62 a63 a64 a65 a66 a67 a68 a69 a70).set 22 (.s (.int .i64 e))).set 23 (.sl b v o e 1)).set 24 (.s (.int .i64 e))).set 25 (.s (.bool false)), H) := by
  have hn1 : C.length = e := (rowWOf_sl hA).choose_spec.choose_spec.choose_spec.choose_spec.2.2.2
  have hfg : ∀ (t8 : AV) (k : Int), forget fg41 (fr41 p5 p6 (.sl b v o e 1) t8 k a0 a1 a2 a3 a4 a10 a11 a12 a13 a14 a15 a16 a17 a18 a19 a20 a21 a42 a43 a44 a45 a46 a47 a48 a49 a50 a51 a52 a53 a54 a55 a56 a57 a58 a59 a60 a61 a62 a63 a64 a65 a66 a67 a68 a69 a70) = fr41 p5 p6 (.sl b v o e 1) t8 k a0 a1 a2 a3 a4 a10 a11 a12 a13 a14 a15 a16 a17 a18 a19 a20 a21 a42 a43 a44 a45 a46 a47 a48 a49 a50 a51 a52 a53 a54 a55 a56 a57 a58 a59 a60 a61 a62 a63 a64 a65 a66 a67 a68 a69 a70 := fun t8 k => by simp [forget, fg41, lp41, rb41, rf41, c41, fr41]
  intro d
  induction d with
  | zero =>
    intro k t8 R h hd hR hI ho hl hp
    obtain rfl : k + 1 = e := by omega
    have er : C.drop k = [C[k]'(by omega)] := by
      rw [List.drop_eq_getElem_cons (by omega), List.drop_eq_nil_of_le (by omega)]
    rw [er]
    exact ⟨h, t8, by simpa [restF] using hI, ho, hl, hp, Run.loop_end_f (hfg _ _) (by simp) (g41_end (T := T) p5 p6 b v o (k + 1) t8 ((k + 1 : Nat) : Int) (by omega) h a0 a1 a2 a3 a4 a10 a11 a12 a13 a14 a15 a16 a17 a18 a19 a20 a21 a42 a43 a44 a45 a46 a47 a48 a49 a50 a51 a52 a53 a54 a55 a56 a57 a58 a59 a60 a61 a62 a63 a64 a65 a66 a67 a68 a69 a70)⟩
  | succ d ih =>
    intro k t8 R h hd hR hI ho hl hp
    have h1 : k < C.length := by omega
    have h2 : k + 1 < C.length := by omega
    have hA' : rowWOf h (.sl b v o e 1) = some C := by
      simp only [rowWOf] at hA ⊢
      rw [ho b hb]; exact hA
    obtain ⟨H, t8', tm', x1, x2, x3, x4⟩ := g41_one (T := T) hT p5 p6 b v o e t8 C R h hA' he k C[k] C[k + 1] (List.getElem?_eq_getElem h1) (List.getElem?_eq_getElem h2) (by omega) hI a0 a1 a2 a3 a4 a10 a11 a12 a13 a14 a15 a16 a17 a18 a19 a20 a21 a42 a43 a44 a45 a46 a47 a48 a49 a50 a51 a52 a53 a54 a55 a56 a57 a58 a59 a60 a61 a62 a63 a64 a65 a66 a67 a68 a69 a70
    have hg := leb_length_le (n := gapW C[k] C[k + 1]) (u64_range _).1 (u64_range _).2
    obtain ⟨G, t82, y1, y2, y3, y4, y5⟩ := ih (k + 1) t8' _ H (by omega) (by rw [List.length_append]; omega) x2 (fun c hc => by
      rw [x1.keep c (Nat.lt_of_lt_of_le hc hl) (fun e => by have := hp c e; omega), ho c hc]) (Nat.le_trans hl x1.len) (fun c hc => (x1.place c hc).elim (fun h => Nat.le_trans hl h) (hp c))
    refine ⟨G, t82, ?_, y2, y3, y4, Run.loop_go (hfg _ _) x4 x3 y5⟩
    rw [List.drop_eq_getElem_cons h1, List.drop_eq_getElem_cons h2]
    simp only [restF]
    rw [← List.append_assoc, ← List.drop_eq_getElem_cons h2]
    exact y1
end Go.Proofs.Ytpmoellbfgcefaa.AS
end
section
set_option autoImplicit false
set_option maxRecDepth 100000
set_option maxHeartbeats 4000000
set_option linter.unusedSimpArgs false
namespace Go.Proofs.Ytpmoellbfgcefaa.AS
open Go Go.Proofs Go.RowKit Go.Proofs.Ytpmoellbfgcefaa.AS.V

theorem rowB.cells {h : Heap} {a : AV} {B : List Int} (x : rowB h a B) : cellsOf a = some [a] ∧ isCell a = true := by
  rcases x with ⟨rfl, _⟩ | ⟨b, v, rfl, _⟩ <;> exact ⟨rfl, rfl⟩
theorem rowB.cast {h : Heap} {a : AV} {B B' : List Int} (x : rowB h a B) (e : B = B') : rowB h a B' := e ▸ x
theorem cells_int (k : IntKind) (n : Int) : cellsOf (.s (.int k n)) = some [.s (.int k n)] := rfl
theorem rowB.len {h : Heap} {a : AV} {B : List Int} (x : rowB h a B) : lenA (some a) = some (.s (.int .i64 B.length)) := by
  rcases x with ⟨rfl, rfl⟩ | ⟨b, v, rfl, _⟩ <;> rfl
theorem bk_put {G : Heap} {p : Nat} {k : Blk} (h : p < G.length) : bk (G.set p k) p = some k := by simp [h]
theorem bk_oth {G : Heap} {p c : Nat} {k : Blk} (h : c ≠ p) : bk (G.set p k) c = bk G c := by
  have : p ≠ c := fun e => h e.symm
  simp [bk, List.getElem?_set, this]
/-- A block's bytes written. -/
def blkS (C : List Int) (last : Int) : List Int := leb (IntKind.u64.wrap (IntKind.u32.wrap (C.headD 0 - last))) ++ (leb C.length ++ (leb (restF C).length ++ restF C))

def fq41 (p5 p6 : Nat) (a0 a1 a2 a3 a4 a7 a8 a9 a10 a11 a12 a13 a14 a15 a16 a17 a18 a19 a20 a21 a22 a23 a24 a25 a26 a27 a28 a29 a30 a31 a32 a33 a34 a35 a36 a37 a38 a39 a40 a41 a42 a43 a44 a45 a46 a47 a48 a49 a50 a51 a52 a53 a54 a55 a56 a57 a58 a59 a60 a61 a62 a63 a64 a65 a66 a67 a68 a69 a70 : AV) : List AV := [a0, a1, a2, a3, a4, .pt p5 0 0, .pt p6 0 0, a7, a8, a9, a10, a11, a12, a13, a14, a15, a16, a17, a18, a19, a20, a21, a22, a23, a24, a25, a26, a27, a28, a29, a30, a31, a32, a33, a34, a35, a36, a37, a38, a39, a40, a41, a42, a43, a44, a45, a46, a47, a48, a49, a50, a51, a52, a53, a54, a55, a56, a57, a58, a59, a60, a61, a62, a63, a64, a65, a66, a67, a68, a69, a70]
/-- What a round of Pack keeps, and what it turns. -/
structure Rnd (H G : Heap) (p5 p6 : Nat) (bv bv' : AV) : Prop where
  keep : ∀ c, c < H.length → c ≠ p5 → c ≠ p6 → blkOf bv ≠ some c → bk G c = bk H c
  len : H.length ≤ G.length
  place : ∀ c, blkOf bv' = some c → H.length ≤ c ∨ blkOf bv = some c
theorem rnd41 {T : FuncId → Option AFunc} (hT : T 58 = prepFn Try.prog 58) (p5 p6 b v o e : Nat) (C : List Int) (H : Heap) (hA : rowWOf H (.sl b v o e 1) = some C) (he0 : 0 < e) (he : e ≤ 32) (bv : AV) (B : List Int) (last : Int) (hB : B.length ≤ 140737488200000)
    (i5 : bk H p5 = some ⟨0, 86, 1, true, [bv]⟩) (i6 : bk H p6 = some ⟨0, 32, 1, true, [.s (.int .u32 last)]⟩) (hI : rowB H bv B) (hn6 : b ≠ p6) (a0 a1 a2 a3 a4 a7 a8 a9 a10 a11 a12 a13 a14 a15 a16 a17 a18 a19 a20 a21 a22 a23 a24 a25 a26 a27 a28 a29 a30 a31 a32 a33 a34 a35 a36 a37 a38 a39 a40 a41 a42 a43 a44 a45 a46 a47 a48 a49 a50 a51 a52 a53 a54 a55 a56 a57 a58 a59 a60 a61 a62 a63 a64 a65 a66 a67 a68 a69 a70 : AV) :
    ∃ tm1 tm2 G bv', Rnd H G p5 p6 bv bv' ∧ bk G p5 = some ⟨0, 86, 1, true, [bv']⟩ ∧ bk G p6 = some ⟨0, 32, 1, true, [.s (.int .u32 (C.getLastD 0))]⟩ ∧ rowB G bv' (B ++ blkS C last) ∧
      Run Try.prog T ra41 (putPs [21] [.sl b v o e 1] (fq41 p5 p6 a0 a1 a2 a3 a4 a7 a8 a9 a10 a11 a12 a13 a14 a15 a16 a17 a18 a19 a20 a21 a22 a23 a24 a25 a26 a27 a28 a29 a30 a31 a32 a33 a34 a35 a36 a37 a38 a39 a40 a41 a42 a43 a44 a45 a46 a47 a48 a49 a50 a51 a52 a53 a54 a55 a56 a57 a58 a59 a60 a61 a62 a63 a64 a65 a66 a67 a68 a69 a70)) H (.normal, tm1, H) ∧ Run Try.prog T rb41 tm1 H (.normal, tm2, G) := by
  have hlen : C.length = e := (rowWOf_sl hA).choose_spec.choose_spec.choose_spec.choose_spec.2.2.2
  have l5 := bk_lt i5
  have l6 := bk_lt i6
  have n5 : blkOf bv ≠ some p5 := fun h => by
    rcases hI with ⟨rfl, _⟩ | ⟨c, w, rfl, hc⟩
    · cases h
    · cases h; rw [i5] at hc; cases hc
  have n6 : blkOf bv ≠ some p6 := fun h => by
    rcases hI with ⟨rfl, _⟩ | ⟨c, w, rfl, hc⟩
    · cases h
    · cases h; rw [i6] at hc; cases hc
  have n56 : p5 ≠ p6 := fun h => by subst h; rw [i5] at i6; cases i6
  obtain ⟨e1, s1, w1, C1, hb1, hl1, hC1, _⟩ := rowWOf_sl hA
  have lb := bk_lt hb1
  have nb5 : b ≠ p5 := fun h => by
    subst h; rw [i5] at hb1; cases hb1
    obtain ⟨x, hx⟩ : ∃ x, C[0]? = some x := ⟨_, List.getElem?_eq_getElem (by omega)⟩
    have hr := rowW_at hC1 he0 hx
    have ho : o = 0 := by simp only [List.length_cons, List.length_nil] at hl1; omega
    subst ho
    simp only [Nat.add_zero, List.drop_zero, List.take_succ_cons, List.take_zero, List.cons.injEq, and_true] at hr
    subst hr
    rcases hI with ⟨h, _⟩ | ⟨c, w, h, _⟩ <;> cases h
  have nbv : blkOf bv ≠ some b := fun h => by
    rcases hI with ⟨rfl, _⟩ | ⟨c, w, rfl, hc⟩
    · cases h
    · cases h
      rw [hb1] at hc
      simp only [Option.some.injEq, Blk.mk.injEq] at hc
      obtain ⟨_, _, _, _, rfl⟩ := hc
      obtain ⟨x, hx⟩ : ∃ x, C[0]? = some x := ⟨_, List.getElem?_eq_getElem (by omega)⟩
      have hr := rowW_at hC1 he0 hx
      have hm : (AV.s (.int .u32 x)) ∈ by8 B := by
        have : (AV.s (.int .u32 x)) ∈ ((by8 B).drop (o + 0)).take 1 := by rw [hr]; simp
        exact List.mem_of_mem_drop (List.mem_of_mem_take this)
      simp [by8] at hm
  -- the gaps
  obtain ⟨x0, hx0⟩ : ∃ x, C[0]? = some x := ⟨_, List.getElem?_eq_getElem (by omega)⟩
  have hh0 : C.headD 0 = x0 := by cases C with | nil => cases hx0 | cons y l => simp at hx0; simp [hx0]
  obtain ⟨xl, hxl⟩ : ∃ x, C[e - 1]? = some x := ⟨_, List.getElem?_eq_getElem (by omega)⟩
  have hhl : C.getLastD 0 = xl := by rw [List.getLastD_eq_getLast?, List.getLast?_eq_getElem?, hlen, hxl]; rfl
  have hr0 := rowW_at hC1 he0 hx0
  rw [Nat.add_zero] at hr0
  have hrl := rowW_at hC1 (by omega : e - 1 < e) hxl
  obtain ⟨G1, t8, g1, g2, g3, g4, g5⟩ := g41_loop (T := T) hT p5 p6 b v o e C H hA lb he a0 a1 a2 a3 a4 a10 a11 a12 a13 a14 a15 a16 a17 a18 a19 a20 (.sl b v o e 1) a42 a43 a44 a45 a46 a47 a48 a49 a50 a51 a52 a53 a54 a55 a56 a57 a58 a59 a60 a61 a62 a63 a64 a65 a66 a67 a68 a69 a70 (e - 1) 0 (.s (.slice none 0 0)) [] H (by omega) (by simp; omega) (Or.inl ⟨rfl, rfl⟩) (fun _ _ => rfl) (Nat.le_refl _) (fun c hc => by simp [blkOf] at hc)
  rw [List.nil_append, List.drop_zero] at g1
  have hRl := restF_len C
  have lR := g1.len
  -- the four appends
  have I1 : rowB G1 bv B := hI.mono fun c hc => g2 c (hI.lt hc)
  obtain ⟨G2, b1, f2, y2, r2⟩ := app_run (T := T) hT (IntKind.u64.wrap (IntKind.u32.wrap (x0 - last))) (u64_range _).1 (u64_range _).2 G1 bv B (by omega) I1
  have q2 := leb_length_le (n := IntKind.u64.wrap (IntKind.u32.wrap (x0 - last))) (u64_range _).1 (u64_range _).2
  obtain ⟨J2, j2⟩ := f2.get
  have a5 : bk G1 p5 = _ := (g2 p5 l5).trans i5
  have a6 : bk G1 p6 = _ := (g2 p6 l6).trans i6
  have ab : bk G1 b = _ := (g2 b lb).trans hb1
  have b5 : bk G2 p5 = _ := (y2.keep p5 (Nat.lt_of_lt_of_le l5 g3) n5).trans a5
  have nb1_5 : blkOf b1 ≠ some p5 := fun e => (y2.place _ e).elim (fun h => by omega) n5
  have nb1_6 : blkOf b1 ≠ some p6 := fun e => (y2.place _ e).elim (fun h => by omega) n6
  have nt5 : blkOf t8 ≠ some p5 := fun e => by have := g4 _ e; omega
  have nt6 : blkOf t8 ≠ some p6 := fun e => by have := g4 _ e; omega
  have ntv : ∀ c, blkOf t8 = some c → blkOf bv ≠ some c := fun c h1 h2 => by have := g4 c h1; have := hI.lt h2; omega
  obtain ⟨K2, hK2⟩ : ∃ K, K = G2.set p5 ⟨0, 86, 1, true, [b1]⟩ := ⟨_, rfl⟩
  have lK2 : K2.length = G2.length := by rw [hK2]; simp
  have lG2 := Nat.le_trans g3 y2.len
  have k5 : bk K2 p5 = some ⟨0, 86, 1, true, [b1]⟩ := by rw [hK2]; exact bk_put (by omega)
  have kr : rowB K2 b1 (B ++ leb (IntKind.u64.wrap (IntKind.u32.wrap (x0 - last)))) := by rw [hK2]; exact r2.mono fun c hc => bk_oth (fun e => nb1_5 (by rw [← e]; exact hc))
  have t2 : rowB K2 t8 (restF C) := by
    refine g1.mono fun c hc => ?_
    rw [hK2, bk_oth (fun e => nt5 (by rw [← e]; exact hc)), y2.keep c (g1.lt hc) (ntv c hc)]
  have kk2 : ∀ c, c < H.length → c ≠ p5 → blkOf bv ≠ some c → bk K2 c = bk H c := fun c h1 h2 h3 => by rw [hK2, bk_oth h2, y2.keep c (by omega) h3, g2 c h1]
  have p2 : ∀ c, blkOf b1 = some c → H.length ≤ c ∨ blkOf bv = some c := fun c hc => (y2.place c hc).imp (fun h => by omega) id
  have d2 : ∀ c, blkOf t8 = some c → blkOf b1 ≠ some c := fun c h1 h2 => by
    rcases y2.place c h2 with h | h
    · have := g1.lt h1; omega
    · exact ntv c h1 h
  -- the second
  obtain ⟨G3, b2, f3, y3, r3⟩ := app_run (T := T) hT (e : Int) (by omega) (by omega) K2 b1 _ (by rw [List.length_append]; omega) kr
  have q3 := leb_length_le (n := (e : Int)) (by omega) (by omega)
  obtain ⟨J3, j3⟩ := f3.get
  have nb2_5 : blkOf b2 ≠ some p5 := fun e => (y3.place _ e).elim (fun h => by omega) nb1_5
  obtain ⟨K3, hK3⟩ : ∃ K, K = G3.set p5 ⟨0, 86, 1, true, [b2]⟩ := ⟨_, rfl⟩
  have lK3 : K3.length = G3.length := by rw [hK3]; simp
  have lG3 := y3.len
  have v3 : bk G3 p5 = some ⟨0, 86, 1, true, [b1]⟩ := (y3.keep p5 (by omega) nb1_5).trans k5
  have k5' : bk K3 p5 = some ⟨0, 86, 1, true, [b2]⟩ := by rw [hK3]; exact bk_put (by omega)
  have kr3 := r3.mono (H := K3) fun c hc => by rw [hK3]; exact bk_oth (fun e => nb2_5 (by rw [← e]; exact hc))
  have t3 : rowB K3 t8 (restF C) := by
    refine t2.mono fun c hc => ?_
    rw [hK3, bk_oth (fun e => nt5 (by rw [← e]; exact hc)), y3.keep c (t2.lt hc) (d2 c hc)]
  have kk3 : ∀ c, c < H.length → c ≠ p5 → blkOf bv ≠ some c → bk K3 c = bk H c := fun c h1 h2 h3 => by
    rw [hK3, bk_oth h2, y3.keep c (by omega) (fun e => (p2 c e).elim (fun h => by omega) h3), kk2 c h1 h2 h3]
  have p3 : ∀ c, blkOf b2 = some c → H.length ≤ c ∨ blkOf bv = some c := fun c hc => (y3.place c hc).elim (fun h => Or.inl (by omega)) (p2 c)
  have d3 : ∀ c, blkOf t8 = some c → blkOf b2 ≠ some c := fun c h1 h2 => by
    rcases y3.place c h2 with h | h
    · have := t2.lt h1; omega
    · exact d2 c h1 h
  -- the third
  have wR : IntKind.u64.wrap ((restF C).length : Int) = ((restF C).length : Int) := wu64 (by omega) (by omega)
  have we : IntKind.u64.wrap (e : Int) = (e : Int) := wu64 (by omega) (by omega)
  obtain ⟨G4, b3, f4, y4, r4⟩ := app_run (T := T) hT ((restF C).length : Int) (by omega) (by omega) K3 b2 _ (by simp only [List.length_append]; omega) kr3
  have q4 := leb_length_le (n := ((restF C).length : Int)) (by omega) (by omega)
  obtain ⟨J4, j4⟩ := f4.get
  have nb3_5 : blkOf b3 ≠ some p5 := fun e => (y4.place _ e).elim (fun h => by omega) nb2_5
  obtain ⟨K4, hK4⟩ : ∃ K, K = G4.set p5 ⟨0, 86, 1, true, [b3]⟩ := ⟨_, rfl⟩
  have lK4 : K4.length = G4.length := by rw [hK4]; simp
  have lG4 := y4.len
  have v4 : bk G4 p5 = some ⟨0, 86, 1, true, [b2]⟩ := (y4.keep p5 (by omega) nb2_5).trans k5'
  have k5'' : bk K4 p5 = some ⟨0, 86, 1, true, [b3]⟩ := by rw [hK4]; exact bk_put (by omega)
  have kr4 := r4.mono (H := K4) fun c hc => by rw [hK4]; exact bk_oth (fun e => nb3_5 (by rw [← e]; exact hc))
  have t4 : rowB K4 t8 (restF C) := by
    refine t3.mono fun c hc => ?_
    rw [hK4, bk_oth (fun e => nt5 (by rw [← e]; exact hc)), y4.keep c (t3.lt hc) (d3 c hc)]
  have kk4 : ∀ c, c < H.length → c ≠ p5 → blkOf bv ≠ some c → bk K4 c = bk H c := fun c h1 h2 h3 => by
    rw [hK4, bk_oth h2, y4.keep c (by omega) (fun e => (p3 c e).elim (fun h => by omega) h3), kk3 c h1 h2 h3]
  have p4 : ∀ c, blkOf b3 = some c → H.length ≤ c ∨ blkOf bv = some c := fun c hc => (y4.place c hc).elim (fun h => Or.inl (by omega)) (p3 c)
  -- the fourth
  obtain ⟨G5, b4, f5, y5, r5⟩ := ap_row kr4 (restF C) (by simp only [List.length_append]; omega)
  have s5 := src_row t4
  have nb4_5 : blkOf b4 ≠ some p5 := fun e => (y5.place _ e).elim (fun h => by omega) nb3_5
  obtain ⟨K5, hK5⟩ : ∃ K, K = G5.set p5 ⟨0, 86, 1, true, [b4]⟩ := ⟨_, rfl⟩
  have lK5 : K5.length = G5.length := by rw [hK5]; simp
  have lG5 := y5.len
  have v5 : bk G5 p5 = some ⟨0, 86, 1, true, [b3]⟩ := (y5.keep p5 (by omega) nb3_5).trans k5''
  have k55 : bk K5 p5 = some ⟨0, 86, 1, true, [b4]⟩ := by rw [hK5]; exact bk_put (by omega)
  have kr5 := r5.mono (H := K5) fun c hc => by rw [hK5]; exact bk_oth (fun e => nb4_5 (by rw [← e]; exact hc))
  have kk5 : ∀ c, c < H.length → c ≠ p5 → blkOf bv ≠ some c → bk K5 c = bk H c := fun c h1 h2 h3 => by
    rw [hK5, bk_oth h2, y5.keep c (by omega) (fun e => (p4 c e).elim (fun h => by omega) h3), kk4 c h1 h2 h3]
  have p5' : ∀ c, blkOf b4 = some c → H.length ≤ c ∨ blkOf bv = some c := fun c hc => (y5.place c hc).elim (fun h => Or.inl (by omega)) (p4 c)
  have nb4_6 : blkOf b4 ≠ some p6 := fun e => (p5' p6 e).elim (fun h => by omega) n6
  have k56 : bk K5 p6 = some ⟨0, 32, 1, true, [.s (.int .u32 last)]⟩ := (kk5 p6 l6 (Ne.symm n56) n6).trans i6
  have k5b : bk K5 b = _ := (kk5 b lb nb5 nbv).trans hb1
  refine ⟨?tm1, ?tm2, K5.set p6 ⟨0, 32, 1, true, [.s (.int .u32 (C.getLastD 0))]⟩, b4, ⟨fun c h1 h2 h3 h4 => (bk_oth h3).trans (kk5 c h1 h2 h4), by simp; omega, p5'⟩, (bk_oth n56).trans k55, bk_put (by omega), ?row, ?ra, ?rb⟩
  case row =>
    refine (kr5.mono fun c hc => bk_oth (fun e => nb4_6 (by rw [← e]; exact hc))).cast ?_
    rw [blkS, hh0, hlen]
    simp only [List.append_assoc]
  case ra =>
    apply Run.step 10; intro k j
    simp [c41, rf41, ra41, fq41, putPs]
    (first | rfl | (constructor <;> rfl))
  case rb =>
    have c1 := (rowB.cells r2).1
    have c2 := (rowB.cells r3).1
    have c3 := (rowB.cells r4).1
    have c4 := (rowB.cells r5).1
    have ic1 := (rowB.cells r2).2
    have ic2 := (rowB.cells r3).2
    have ic3 := (rowB.cells r4).2
    have ic4 := (rowB.cells r5).2
    have hle0 : o + 1 ≤ C1.length := by omega
    have hlel : o + (e - 1) + 1 ≤ C1.length := by omega
    have he0' : (0 : Int) < (e : Int) := by omega
    have wl : IntKind.i64.wrap ((e : Int) - 1) = ((e - 1 : Nat) : Int) := by rw [show (e : Int) - 1 = ((e - 1 : Nat) : Int) by omega]; exact w64k (by omega) (by omega)
    have hel : ((e - 1 : Nat) : Int) < (e : Int) := by omega
    have hel' : e - 1 < e := by omega
    apply Run.block_id (by simp)
    apply Run.seq
    · apply Run.step 10; intro k j
      simp [fq41]
      (first | rfl | (constructor <;> rfl))
    · apply Run.seq
      · apply Run.seq
        · apply Run.step 10; intro k j
          simp
          (first | rfl | (constructor <;> rfl))
        · apply Run.block_exit
          refine Run.loop_go' g5 ?_
          simp [forget, fg41, lp41, rb41, rf41, c41, fr41]
      · apply Run.seq
        · apply Run.draw0
          apply Run.stepJ 30 J2; intro k j hj
          simp [fr41, a5, a6, ab, oneOr, hr0, hle0, he0', he0, j2 j hj, b5, c1, ic1, ← hK2]
          (first | rfl | (constructor <;> rfl))
        · apply Run.seq
          · apply Run.stepJ 30 J3; intro k j hj
            simp [k5, oneOr, we, j3 j hj, v3, c2, ic2, ← hK3]
            (first | rfl | (constructor <;> rfl))
          · apply Run.seq
            · apply Run.stepJ 30 J4; intro k j hj
              simp [k5', oneOr, lR, wR, j4 j hj, v4, c3, ic3, ← hK4]
              (first | rfl | (constructor <;> rfl))
            · apply Run.seq
              · apply Run.step 30; intro k j
                simp [k5'', oneOr, s5, f5, v5, c4, ic4, ← hK5]
                (first | rfl | (constructor <;> rfl))
              · apply Run.step 30; intro k j
                simp [k5b, wl, hel, hel', hrl, hlel, oneOr, cells_int, isCell, k56, ← hhl]
                (first | rfl | (constructor <;> rfl))
end Go.Proofs.Ytpmoellbfgcefaa.AS
end
section
set_option autoImplicit false
set_option maxRecDepth 100000
set_option maxHeartbeats 4000000
set_option linter.unusedSimpArgs false
namespace Go.Proofs.Ytpmoellbfgcefaa.AS
open Go Go.Proofs Go.RowKit Go.Proofs.Ytpmoellbfgcefaa.AS.V

/-- The blocks' bytes. -/
def packF : Nat → List Int → Int → List Int
  | 0, _, _ => []
  | m + 1, L, last => blkS (L.take 32) last ++ packF m (L.drop 32) ((L.take 32).getLastD 0)
def packS (L : List Int) : ByteArray × Int := if chkS L ≠ 0 then (⟨#[]⟩, chkS L) else (strOfNums (leb L.length ++ packF ((L.length + 31) / 32) L 0), 0)
theorem intsWA_W : ∀ K : List Int, intsWA (K.map cellW) = some K := intsWA_U
theorem rowW_sub {h : Heap} {b v o n i e : Nat} {L : List Int} (hA : rowWOf h (.sl b v o n 1) = some L) (he : i + e ≤ n) : rowWOf h (.sl b v (o + i) e 1) = some ((L.drop i).take e) := by
  obtain ⟨e1, s1, w1, C1, hb1, hl1, hC1, hn1⟩ := rowWOf_sl hA
  simp only [rowWOf]
  rw [hb1, rdK_s, if_pos ⟨rfl, by omega⟩]
  have h1 : (C1.drop (o + i)).take e = ((L.drop i).take e).map cellW := by
    rw [List.map_take, List.map_drop, ← hC1, List.drop_take, List.drop_drop, List.take_take]
    congr 1
    omega
  rw [h1]
  exact intsWA_W _
theorem rowW_keep {h H : Heap} {b v o n : Nat} {L : List Int} (hA : rowWOf h (.sl b v o n 1) = some L) (hk : bk H b = bk h b) : rowWOf H (.sl b v o n 1) = some L := by
  simp only [rowWOf] at hA ⊢
  rw [hk]; exact hA
theorem blkS_len (C : List Int) (last : Int) (hC : C.length ≤ 32) : (blkS C last).length ≤ 400 := by
  have h1 := leb_length_le (n := IntKind.u64.wrap (IntKind.u32.wrap (C.headD 0 - last))) (u64_range _).1 (u64_range _).2
  have h2 := leb_length_le (n := (C.length : Int)) (by omega) (by omega)
  have h4 := restF_len C
  have h3 := leb_length_le (n := ((restF C).length : Int)) (by omega) (by omega)
  simp only [blkS, List.length_append]
  omega

theorem rounds41 {T : FuncId → Option AFunc} (hT : T 58 = prepFn Try.prog 58) (g : Nat) (p5 p6 bs bn Bk b v o n : Nat) (L : List Int) (hb : b < g) (h5 : g ≤ p5) (h6 : g ≤ p6) (d1 : bs ≠ p5) (d2 : bs ≠ p6) (d3 : bn ≠ p5) (d4 : bn ≠ p6) (a0 a1 a2 a3 a4 a7 a8 a9 a10 a11 a12 a13 a14 a15 a16 a17 a18 a19 a20 a21 a22 a23 a24 a25 a26 a27 a28 a29 a30 a31 a32 a33 a34 a35 a36 a37 a38 a39 a40 a41 a42 a43 a44 a45 a46 a47 a48 a49 a50 a51 a52 a53 a54 a55 a56 a57 a58 a59 a60 a61 a62 a63 a64 a65 a66 a67 a68 a69 a70 : AV) : ∀ (m i : Nat) (H : Heap) (bv : AV) (B : List Int) (last : Int),
    n - i ≤ 32 * m → (m ≠ 0 → i + 32 * (m - 1) < n) → B.length + 400 * m ≤ 140737488200000 → g ≤ H.length → rowWOf H (.sl b v o n 1) = some L →
    bk H p5 = some ⟨0, 86, 1, true, [bv]⟩ → bk H p6 = some ⟨0, 32, 1, true, [.s (.int .u32 last)]⟩ → rowB H bv B → (∀ c, blkOf bv = some c → g ≤ c) →
    bk H bs = some ⟨0, 23, 1, true, [.sl b v o n 1]⟩ ∧ bk H bn = some ⟨0, 3, 1, true, [.s (.int .i64 32)]⟩ →
    ∃ hs : List Heap, hs.length = m ∧ (∀ x ∈ hs, bk x bs = some ⟨0, 23, 1, true, [.sl b v o n 1]⟩ ∧ bk x bn = some ⟨0, 3, 1, true, [.s (.int .i64 32)]⟩) ∧ (∀ c ∈ chEvs Bk b v o n i H hs, EvOK Try.prog T Bk [21] (fq41 p5 p6 a0 a1 a2 a3 a4 a7 a8 a9 a10 a11 a12 a13 a14 a15 a16 a17 a18 a19 a20 a21 a22 a23 a24 a25 a26 a27 a28 a29 a30 a31 a32 a33 a34 a35 a36 a37 a38 a39 a40 a41 a42 a43 a44 a45 a46 a47 a48 a49 a50 a51 a52 a53 a54 a55 a56 a57 a58 a59 a60 a61 a62 a63 a64 a65 a66 a67 a68 a69 a70) ra41 rb41 c) ∧
      ∃ bv', bk (lastH H hs) p5 = some ⟨0, 86, 1, true, [bv']⟩ ∧ rowB (lastH H hs) bv' (B ++ packF m (L.drop i) last) ∧ (∀ c, c < g → bk (lastH H hs) c = bk H c) ∧ g ≤ (lastH H hs).length := by
  intro m
  induction m with
  | zero =>
    intro i H bv B last h1 _ _ hg hA i5 i6 hI hp hx
    exact ⟨[], rfl, by simp, by simp [chEvs], bv, i5, by simpa [packF, lastH] using hI, fun _ _ => rfl, hg⟩
  | succ m ih =>
    intro i H bv B last h1 h2 hB hg hA i5 i6 hI hp hx
    have hi : i < n := by have := h2 (by simp); omega
    have hLn : L.length = n := (rowWOf_sl hA).choose_spec.choose_spec.choose_spec.choose_spec.2.2.2
    obtain ⟨e, he⟩ : ∃ e, e = if n - i < 32 then n - i else 32 := ⟨_, rfl⟩
    have he1 : 0 < e := by rw [he]; split <;> omega
    have he2 : e ≤ 32 := by rw [he]; split <;> omega
    have he3 : i + e ≤ n := by rw [he]; split <;> omega
    have hC : (L.drop i).take e = (L.drop i).take 32 := by
      rw [he]; split
      · rw [List.take_of_length_le (by rw [List.length_drop]; omega), List.take_of_length_le (by rw [List.length_drop]; omega)]
      · rfl
    have hAs := rowW_sub hA he3
    obtain ⟨tm1, tm2, G, bv', R, q5, q6, qr, ra, rb⟩ := rnd41 (T := T) hT p5 p6 b v (o + i) e _ H hAs he1 he2 bv B last (by omega) i5 i6 hI (by omega) a0 a1 a2 a3 a4 a7 a8 a9 a10 a11 a12 a13 a14 a15 a16 a17 a18 a19 a20 a21 a22 a23 a24 a25 a26 a27 a28 a29 a30 a31 a32 a33 a34 a35 a36 a37 a38 a39 a40 a41 a42 a43 a44 a45 a46 a47 a48 a49 a50 a51 a52 a53 a54 a55 a56 a57 a58 a59 a60 a61 a62 a63 a64 a65 a66 a67 a68 a69 a70
    rw [hC] at q6 qr
    have nbs : blkOf bv ≠ some bs := fun h => by
      rcases hI with ⟨rfl, _⟩ | ⟨c, w, rfl, hc⟩
      · cases h
      · cases h; rw [hx.1] at hc; cases hc
    have nbn : blkOf bv ≠ some bn := fun h => by
      rcases hI with ⟨rfl, _⟩ | ⟨c, w, rfl, hc⟩
      · cases h
      · cases h; rw [hx.2] at hc; cases hc
    have hxG : bk G bs = some ⟨0, 23, 1, true, [.sl b v o n 1]⟩ ∧ bk G bn = some ⟨0, 3, 1, true, [.s (.int .i64 32)]⟩ :=
      ⟨(R.keep bs (bk_lt hx.1) d1 d2 nbs).trans hx.1, (R.keep bn (bk_lt hx.2) d3 d4 nbn).trans hx.2⟩
    have hold : ∀ c, c < g → bk G c = bk H c := fun c hc => R.keep c (by omega) (by omega) (by omega) (fun e => by have := hp c e; omega)
    have hlb := blkS_len ((L.drop i).take 32) last (by simp; omega)
    obtain ⟨hs, k1, k2, k3, bv2, k4, k5, k6, k7⟩ := ih (i + 32) G bv' _ _ (by omega) (fun hm => by have := h2 (by simp); omega) (by rw [List.length_append]; omega) (Nat.le_trans hg R.len) (rowW_keep hA (hold b hb)) q5 q6 qr (fun c hc => (R.place c hc).elim (fun h => by omega) (hp c)) hxG
    refine ⟨G :: hs, by simp [k1], ?_, ?_, bv2, k4, ?_, fun c hc => (k6 c hc).trans (hold c hc), k7⟩
    · intro x hx'
      rcases List.mem_cons.1 hx' with rfl | hx'
      · exact hxG
      · exact k2 x hx'
    · intro c hc
      simp only [chEvs, List.mem_cons] at hc
      rcases hc with rfl | hc
      · rw [← he]
        exact .inr ⟨rfl, rfl, tm1, H, tm2, G, ra, rb, rfl⟩
      · exact k3 c hc
    · refine k5.cast ?_
      rw [packF, List.append_assoc, List.drop_drop]
end Go.Proofs.Ytpmoellbfgcefaa.AS
end
section
set_option autoImplicit false
set_option maxRecDepth 100000
set_option maxHeartbeats 4000000
set_option linter.unusedSimpArgs false
namespace Go.Proofs.Ytpmoellbfgcefaa.AS
open Go Go.Proofs Go.RowKit Go.Proofs.Ytpmoellbfgcefaa.AS.V

theorem pack_run {T : FuncId → Option AFunc} (hm : Try.prog.follows .mixedOrders = true) (hTab : TabOK Try.prog T) (hT : T 41 = prepFn Try.prog 41) (h20 : T 20 = some (.hook hkCheck)) (h58 : T 58 = prepFn Try.prog 58) (h65 : T 65 = prepFn Try.prog 65) (h : Heap) (a : AV) (L : List Int) (hA : rowWOf h a = some L) (hn : L.length ≤ 4611686018427387903) :
    ∃ H, FRun Try.prog T 41 [a] h (.tp [.s (.string (packS L).1), .s (.int .i64 (packS L).2)], H) ∧ (∀ c, c < h.length → bk H c = bk h c) := by
  have c20 := fun k l h => evFn_hook (P := Try.prog) (T := T) (k := k) (f := 20) (args := l) (h := h) h20
  have hla := lenW hA
  have q20 : hkCheck [a] h = some (.s (.int .i64 (chkS L)), h) := by simp only [hkCheck, hA]; rw [if_pos hn]
  suffices hs : ∃ H tm', Run Try.prog T c41 ([a] ++ List.replicate 70 (.s undef)) h (.ret, tm', H) ∧ (∀ c, c < h.length → bk H c = bk h c) ∧ tm'[2]? = some (.s (.string (packS L).1)) ∧ tm'[3]? = some (.s (.int .i64 (packS L).2)) by
    obtain ⟨H, tm', h1, h2, h3, h4⟩ := hs
    exact ⟨H, FRun.of (e := .ret) (tm' := tm') (hT.trans p41) h1 (Or.inl rfl) (by simp [resAs, resA, h3, h4, tupA]), h2⟩
  by_cases hw : chkS L = 0
  · have hlen : L.length ≤ 65536 := by
      unfold chkS at hw
      split at hw
      · simp at hw
      · split at hw
        · simp at hw
        · omega
    have hps : packS L = (strOfNums (leb L.length ++ packF ((L.length + 31) / 32) L 0), 0) := by simp [packS, hw]
    rw [hps]
    rw [hw] at q20
    have wn : IntKind.u64.wrap (L.length : Int) = (L.length : Int) := wu64 (by omega) (by omega)
    have qn := leb_length_le (n := (L.length : Int)) (by omega) (by omega)
    obtain ⟨H1, b1, f1, y1, r1⟩ := app_run (T := T) h58 (L.length : Int) (by omega) (by omega) h (.s (.slice none 0 0)) [] (by simp) (Or.inl ⟨rfl, rfl⟩)
    rw [List.nil_append] at r1
    obtain ⟨J1, j1⟩ := f1.get
    have cb := (rowB.cells r1).1
    have ib := (rowB.cells r1).2
    have ha : a = .s (.slice none 0 0) ∨ ∃ b v o n, a = .sl b v o n 1 := by
      unfold rowWOf at hA
      split at hA
      · exact .inl rfl
      · exact .inr ⟨_, _, _, _, rfl⟩
      · cases hA
    obtain ⟨K, hK⟩ : ∃ K : Heap, K = H1 ++ [⟨0, 86, 1, true, [b1]⟩, ⟨0, 32, 1, true, [.s (.int .u32 0)]⟩] := ⟨_, rfl⟩
    have lK : K.length = H1.length + 2 := by rw [hK]; simp
    have fc := chunk_run (T := T) h65 a ha K
    rw [lK] at fc
    obtain ⟨J2, j2⟩ := fc.get
    obtain ⟨H0, hH0⟩ : ∃ H0 : Heap, H0 = K ++ [⟨0, 23, 1, true, [a]⟩, ⟨0, 3, 1, true, [.s (.int .i64 32)]⟩] := ⟨_, rfl⟩
    have l0 : H0.length = H1.length + 4 := by rw [hH0]; simp [lK]
    rw [← hH0] at j2
    obtain ⟨HL, hHL⟩ : ∃ HL : Heap, HL = H0 ++ [loopBlk] := ⟨_, rfl⟩
    have lL : HL.length = H1.length + 5 := by rw [hHL]; simp [l0]
    have eHL : HL = H1 ++ [⟨0, 86, 1, true, [b1]⟩, ⟨0, 32, 1, true, [.s (.int .u32 0)]⟩, ⟨0, 23, 1, true, [a]⟩, ⟨0, 3, 1, true, [.s (.int .i64 32)]⟩, loopBlk] := by rw [hHL, hH0, hK]; simp
    have o1 : ∀ c, c < H1.length → bk HL c = bk H1 c := fun c hc => by rw [eHL]; simp [bk, List.getElem?_append_left hc]
    have x5 : bk HL H1.length = some ⟨0, 86, 1, true, [b1]⟩ := by rw [eHL]; simp [bk]
    have x6 : bk HL (H1.length + 1) = some ⟨0, 32, 1, true, [.s (.int .u32 0)]⟩ := by rw [eHL]; simp [bk]
    have xs : bk HL (H1.length + 2) = some ⟨0, 23, 1, true, [a]⟩ := by rw [eHL]; simp [bk]
    have xn : bk HL (H1.length + 3) = some ⟨0, 3, 1, true, [.s (.int .i64 32)]⟩ := by rw [eHL]; simp [bk]
    have rL : rowB HL b1 (leb L.length) := r1.mono fun c hc => o1 c (r1.lt hc)
    have oh : ∀ c, c < h.length → bk HL c = bk h c := fun c hc => by rw [o1 c (Nat.lt_of_lt_of_le hc y1.len), y1.keep c hc (by simp [blkOf])]
    have pb : ∀ c, blkOf b1 = some c → h.length ≤ c := fun c hc => (y1.place c hc).elim id (fun h => by simp [blkOf] at h)
    -- the loop
    have hloop : ∃ G bv', Run Try.prog T rf41 (fq41 H1.length (H1.length + 1) a (.s undef) (.s (.string ⟨#[]⟩)) (.s (.int .i64 0)) (.s (.int .i64 0)) (.s undef) (.s undef) (.s undef) a (.s (.int .i64 0)) (.s (.int .i64 0)) (.s (.bool false)) (.s undef) a (.s (.int .i64 L.length)) (.s (.int .u64 L.length)) b1 a (.fn (.func 80) [] [.pt (H1.length + 2) 0 0, .pt (H1.length + 3) 0 0]) (.s undef) (.s undef) (.s undef) (.s undef) (.s undef) (.s undef) (.s undef) (.s undef) (.s undef) (.s undef) (.s undef) (.s undef) (.s undef) (.s undef) (.s undef) (.s undef) (.s undef) (.s undef) (.s undef) (.s undef) (.s undef) (.s undef) (.s undef) (.s undef) (.s undef) (.s undef) (.s undef) (.s undef) (.s undef) (.s undef) (.s undef) (.s undef) (.s undef) (.s undef) (.s undef) (.s undef) (.s undef) (.s undef) (.s undef) (.s undef) (.s undef) (.s undef) (.s undef) (.s undef) (.s undef) (.s undef) (.s undef) (.s undef) (.s undef) (.s undef)) H0 (.normal, fq41 H1.length (H1.length + 1) a (.s undef) (.s (.string ⟨#[]⟩)) (.s (.int .i64 0)) (.s (.int .i64 0)) (.s undef) (.s undef) (.s undef) a (.s (.int .i64 0)) (.s (.int .i64 0)) (.s (.bool false)) (.s undef) a (.s (.int .i64 L.length)) (.s (.int .u64 L.length)) b1 a (.fn (.func 80) [] [.pt (H1.length + 2) 0 0, .pt (H1.length + 3) 0 0]) (.s undef) (.s undef) (.s undef) (.s undef) (.s undef) (.s undef) (.s undef) (.s undef) (.s undef) (.s undef) (.s undef) (.s undef) (.s undef) (.s undef) (.s undef) (.s undef) (.s undef) (.s undef) (.s undef) (.s undef) (.s undef) (.s undef) (.s undef) (.s undef) (.s undef) (.s undef) (.s undef) (.s undef) (.s undef) (.s undef) (.s undef) (.s undef) (.s undef) (.s undef) (.s undef) (.s undef) (.s undef) (.s undef) (.s undef) (.s undef) (.s undef) (.s undef) (.s undef) (.s undef) (.s undef) (.s undef) (.s undef) (.s undef) (.s undef) (.s undef), G) ∧ (∀ c, c < h.length → bk G c = bk h c) ∧ bk G H1.length = some ⟨0, 86, 1, true, [bv']⟩ ∧ rowB G bv' (leb L.length ++ packF ((L.length + 31) / 32) L 0) := by
      rcases ha with rfl | ⟨b, v, o, n, rfl⟩
      · have hL : L = [] := by simp [rowWOf] at hA; first | exact hA | exact hA.symm
        subst hL
        obtain ⟨tmI, hit⟩ := it80_nil H0.length (H1.length + 2) (H1.length + 3) HL xs
        refine ⟨HL, b1, ?_, oh, x5, by simpa [packF] using rL⟩
        have := Run.rangeF (T := T) hm hTab (f := .tmp 20) (ps := [21]) (asg := ra41) (body := rb41) (tm := fq41 H1.length (H1.length + 1) (.s (.slice none 0 0)) (.s undef) (.s (.string ⟨#[]⟩)) (.s (.int .i64 0)) (.s (.int .i64 0)) (.s undef) (.s undef) (.s undef) (.s (.slice none 0 0)) (.s (.int .i64 0)) (.s (.int .i64 0)) (.s (.bool false)) (.s undef) (.s (.slice none 0 0)) (.s (.int .i64 ([] : List Int).length)) (.s (.int .u64 ([] : List Int).length)) b1 (.s (.slice none 0 0)) (.fn (.func 80) [] [.pt (H1.length + 2) 0 0, .pt (H1.length + 3) 0 0]) (.s undef) (.s undef) (.s undef) (.s undef) (.s undef) (.s undef) (.s undef) (.s undef) (.s undef) (.s undef) (.s undef) (.s undef) (.s undef) (.s undef) (.s undef) (.s undef) (.s undef) (.s undef) (.s undef) (.s undef) (.s undef) (.s undef) (.s undef) (.s undef) (.s undef) (.s undef) (.s undef) (.s undef) (.s undef) (.s undef) (.s undef) (.s undef) (.s undef) (.s undef) (.s undef) (.s undef) (.s undef) (.s undef) (.s undef) (.s undef) (.s undef) (.s undef) (.s undef) (.s undef) (.s undef) (.s undef) (.s undef) (.s undef) (.s undef) (.s undef)) (h := H0) (gf := 80) (cap := [.pt (H1.length + 2) 0 0, .pt (H1.length + 3) 0 0]) rfl p80 [] (.inr rfl) (by rw [← hHL]; exact hit) (by simp)
        exact this
      · have hb : b < h.length := bk_lt (rowWOf_sl hA).choose_spec.choose_spec.choose_spec.choose_spec.1
        have hLn : L.length = n := (rowWOf_sl hA).choose_spec.choose_spec.choose_spec.choose_spec.2.2.2
        obtain ⟨hs, k1, k2, k3, bv', k4, k5, k6, k7⟩ := rounds41 (T := T) h58 h.length H1.length (H1.length + 1) (H1.length + 2) (H1.length + 3) H0.length b v o n L hb y1.len (by have := y1.len; omega) (by omega) (by omega) (by omega) (by omega) (.sl b v o n 1) (.s undef) (.s (.string ⟨#[]⟩)) (.s (.int .i64 0)) (.s (.int .i64 0)) (.s undef) (.s undef) (.s undef) (.sl b v o n 1) (.s (.int .i64 0)) (.s (.int .i64 0)) (.s (.bool false)) (.s undef) (.sl b v o n 1) (.s (.int .i64 L.length)) (.s (.int .u64 L.length)) b1 (.sl b v o n 1) (.fn (.func 80) [] [.pt (H1.length + 2) 0 0, .pt (H1.length + 3) 0 0]) (.s undef) (.s undef) (.s undef) (.s undef) (.s undef) (.s undef) (.s undef) (.s undef) (.s undef) (.s undef) (.s undef) (.s undef) (.s undef) (.s undef) (.s undef) (.s undef) (.s undef) (.s undef) (.s undef) (.s undef) (.s undef) (.s undef) (.s undef) (.s undef) (.s undef) (.s undef) (.s undef) (.s undef) (.s undef) (.s undef) (.s undef) (.s undef) (.s undef) (.s undef) (.s undef) (.s undef) (.s undef) (.s undef) (.s undef) (.s undef) (.s undef) (.s undef) (.s undef) (.s undef) (.s undef) (.s undef) (.s undef) (.s undef) (.s undef) (.s undef) ((L.length + 31) / 32) 0 HL b1 (leb L.length) 0 (by omega) (fun hm => by omega) (by omega) (by have := y1.len; omega) (rowW_keep hA (oh b hb)) x5 x6 rL pb ⟨xs, xn⟩
        rw [List.drop_zero] at k5
        obtain ⟨tmI, hit⟩ := it80 H0.length (H1.length + 2) (H1.length + 3) b v o n (by omega) hs HL (by omega) (fun hne => by have := List.length_pos_iff.2 hne; omega) (fun x hx => by
          rcases List.mem_cons.1 hx with rfl | hx
          · exact ⟨xs, xn⟩
          · exact k2 x hx)
        refine ⟨lastH HL hs, bv', ?_, fun c hc => (k6 c hc).trans (oh c hc), k4, k5⟩
        exact Run.rangeF (T := T) hm hTab (f := .tmp 20) (ps := [21]) (asg := ra41) (body := rb41) (h := H0) (gf := 80) (cap := [.pt (H1.length + 2) 0 0, .pt (H1.length + 3) 0 0]) rfl p80 _ (.inr rfl) (by rw [← hHL]; exact hit) k3
    obtain ⟨G, bv', g1, g2, g3, g4⟩ := hloop
    have q3 := b2_row g4
    refine ⟨G, ?qtm, ?q1, g2, ?q2, ?q3⟩
    case q1 =>
      apply Run.seq
      · apply Run.step 20; intro k j
        simp
        (first | rfl | (constructor <;> rfl))
      · apply Run.seq
        · apply Run.seq
          · apply Run.step 20; intro k j
            simp [c20, q20]
            (first | rfl | (constructor <;> rfl))
          · apply Run.step 20; intro k j
            simp
            (first | rfl | (constructor <;> rfl))
        · apply Run.seq
          · apply Run.stepJ 20 J1; intro k j hj
            simp [hla, wn, j1 j hj, cb, ib]
            (first | rfl | (constructor <;> rfl))
          · apply Run.seq
            · apply Run.step 20; intro k j
              simp [cells_int, isCell]
              (first | rfl | (constructor <;> rfl))
            · apply Run.seq
              · apply Run.seq
                · apply Run.stepJ 20 J2; intro k j hj
                  simp [← hK, j2 j hj]
                  (first | rfl | (constructor <;> rfl))
                · apply Run.block_id (by simp)
                  exact g1
              · apply Run.seq
                · apply Run.step 20; intro k j
                  simp [fq41, g3, oneOr, q3]
                  (first | rfl | (constructor <;> rfl))
                · apply Run.step 10; intro k j
                  simp
                  (first | rfl | (constructor <;> rfl))
    case q2 => rfl
    case q3 => rfl
  · have hps : packS L = (⟨#[]⟩, chkS L) := by simp [packS, hw]
    rw [hps]
    refine ⟨h, ?rtm, ?r1, fun _ _ => rfl, ?r2, ?r3⟩
    case r1 =>
      apply Run.seq
      · apply Run.step 20; intro k j
        simp
        (first | rfl | (constructor <;> rfl))
      · apply Run.seq_stop (by simp)
        apply Run.seq
        · apply Run.step 20; intro k j
          simp [c20, q20]
          (first | rfl | (constructor <;> rfl))
        · apply Run.step 20; intro k j
          simp [hw]
          (first | rfl | (constructor <;> rfl))
    case r2 => rfl
    case r3 => rfl
end Go.Proofs.Ytpmoellbfgcefaa.AS
end
