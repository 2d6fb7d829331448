/- Of our own: an abstract machine beside the model, its soundness, and walks of the program in it. -/
import Derived.Test.YtpmoellbfgcefaaA16
import Derived.Test.YtpmoellbfgcefaaA12
import Derived.ChangeArms
import Derived.ChangeSame
import Derived.DataReads
import Derived.WideShapes
set_option linter.unusedSimpArgs false
set_option linter.unusedVariables false
section
set_option autoImplicit false
set_option maxRecDepth 100000
set_option maxHeartbeats 2000000
set_option linter.unusedSimpArgs false
namespace Go.Proofs.Ytpmoellbfgcefaa.AS
open Go Go.Proofs Go.RowKit Go.Proofs.Ytpmoellbfgcefaa.AS.V

def fr7 (l : AV) (key : Int) (s : ByteArray) (is : Bool) (n j : Int) (a2 a3 a6 a8 a9 a10 a11 a12 a13 a14 a15 a16 a17 a18 a19 a20 a21 a22 a23 a24 a25 a26 a84 a85 a86 a87 a88 a89 a90 a91 a92 a93 a94 a95 a96 a97 a98 : AV) : List AV := [l, .s (.int .u64 key), a2, a3, .any, .s (.string s), a6, .s (.bool is), a8, a9, a10, a11, a12, a13, a14, a15, a16, a17, a18, a19, a20, a21, a22, a23, a24, a25, a26, l, .s (.int .i64 n), .s (.int .i64 j)] ++ List.replicate 54 .any ++ [a84, a85, a86, a87, a88, a89, a90, a91, a92, a93, a94, a95, a96, a97, a98]
noncomputable def rest7 : ACode := match c7 with
  | .seq _ (.seq _ (.seq _ (.seq _ (.seq _ (.seq (.seq _ t) u))))) => .seq t u
  | _ => .skip
noncomputable def lp7 : ACode := match rest7 with
  | .seq (.block _ l) _ => l
  | _ => .skip
noncomputable def tl7 : ACode := match rest7 with
  | .seq _ t => t
  | _ => .skip
noncomputable def body7 : ACode := match lp7 with
  | .loop _ b => b
  | _ => .skip
noncomputable def fg7 : List Nat := match lp7 with
  | .loop fg _ => fg
  | _ => []
noncomputable def drops7 : List AOper := match body7 with
  | .seq _ (.seq _ (.seq (.block _ (.seq _ (.seq _ (.seq _ (.seq _ (.seq _ (.seq (.draw ops _) _))))))) _)) => ops
  | _ => []
theorem hk23 {s : ByteArray} {E : List (Int × ByteArray)} (hs : s.size ≤ 9223372036854775807) (hr : readS s = (E, ⟨#[]⟩, 0)) (k : Int) (h : Heap) : hkFind [.s (.string s), .s (.int .u64 k)] h = some (.tp [.s (.string (findF E k).1), .s (.int .i64 (findF E k).2)], h) := by
  simp only [hkFind]; rw [if_pos hs, hr]; rfl
theorem lsS_ne (d : ByteArray) : (d.toList == d.toList) = true := by simp

theorem f7_tail (l : AV) (key : Int) (s : ByteArray) (is : Bool) (E : List (Int × ByteArray)) (h : Heap) (hs : s.size ≤ 9223372036854775807) (hr : readS s = (E, ⟨#[]⟩, 0)) (hl : rowOf h l = some E) (hf : E.length ≤ 60 → is = anyK E key) (a2 a3 a4 a6 a8 a9 a10 a11 a12 a13 a14 a15 a16 a17 a18 a19 a20 a21 a22 a23 a24 a25 a26 a27 a28 a29 a30 a31 a32 a33 a34 a35 a36 a37 a38 a39 a40 a41 a42 a43 a44 a45 a46 a47 a48 a49 a50 a51 a52 a53 a54 a55 a56 a57 a58 a59 a60 a61 a62 a63 a64 a65 a66 a67 a68 a69 a70 a71 a72 a73 a74 a75 a76 a77 a78 a79 a80 a81 a82 a83 a84 a85 a86 a87 a88 a89 a90 a91 a92 a93 a94 a95 a96 a97 a98 : AV) :
    ∃ H tm', tm'[4]? = some (.s (.bool true)) ∧ Run Try.prog TW tl7 [l, .s (.int .u64 key), a2, a3, a4, .s (.string s), a6, .s (.bool is), a8, a9, a10, a11, a12, a13, a14, a15, a16, a17, a18, a19, a20, a21, a22, a23, a24, a25, a26, a27, a28, a29, a30, a31, a32, a33, a34, a35, a36, a37, a38, a39, a40, a41, a42, a43, a44, a45, a46, a47, a48, a49, a50, a51, a52, a53, a54, a55, a56, a57, a58, a59, a60, a61, a62, a63, a64, a65, a66, a67, a68, a69, a70, a71, a72, a73, a74, a75, a76, a77, a78, a79, a80, a81, a82, a83, a84, a85, a86, a87, a88, a89, a90, a91, a92, a93, a94, a95, a96, a97, a98] h (.ret, tm', H) := by
  have c23 := fun k l h => evFn_hook (P := Try.prog) (T := TW) (k := k) (f := 23) (args := l) (h := h) TW_23
  have q1 := hk23 hs hr key h
  have hla := s30_len hl
  have hb : (decide ((findF E key).2 = 0)) = anyK E key := find_any E key
  generalize hfd : (findF E key).1 = fd at q1
  generalize hfe : (findF E key).2 = fe at q1 hb
  by_cases hn : (60 : Int) < E.length
  · refine ⟨?qH, ?qtm, ?q1, ?q2⟩
    case q2 =>
      apply Run.seq
      · apply Run.step 20; intro k j
        simp [c7, tl7, rest7, c23, q1]
        all_goals (first | rfl | (constructor <;> rfl))
      · apply Run.seq
        · apply Run.step 20; intro k j
          simp [hla, eq_true hn]
          all_goals (first | rfl | (constructor <;> rfl))
        · apply Run.step 10; intro k j
          simp
          all_goals (first | rfl | (constructor <;> rfl))
    case q1 => rfl
  · have hi := hf (by omega)
    rw [hi, ← hb]
    refine ⟨?rH, ?rtm, ?r1, ?r2⟩
    case r2 =>
      apply Run.seq
      · apply Run.step 20; intro k j
        simp [c7, tl7, rest7, c23, q1]
        all_goals (first | rfl | (constructor <;> rfl))
      · apply Run.seq
        · apply Run.step 20; intro k j
          simp [hla, eq_false hn]
          all_goals (first | rfl | (constructor <;> rfl))
        · apply Run.step 10; intro k j
          simp
          all_goals (first | rfl | (constructor <;> rfl))
    case r1 => rfl

theorem f7_end {T : FuncId → Option AFunc} (l : AV) (key : Int) (s : ByteArray) (is : Bool) (n j : Int) (hj : ¬ j < n) (h : Heap) (a2 a3 a6 a8 a9 a10 a11 a12 a13 a14 a15 a16 a17 a18 a19 a20 a21 a22 a23 a24 a25 a26 a84 a85 a86 a87 a88 a89 a90 a91 a92 a93 a94 a95 a96 a97 a98 : AV) :
    Run Try.prog T body7 (fr7 l key s is n j a2 a3 a6 a8 a9 a10 a11 a12 a13 a14 a15 a16 a17 a18 a19 a20 a21 a22 a23 a24 a25 a26 a84 a85 a86 a87 a88 a89 a90 a91 a92 a93 a94 a95 a96 a97 a98) h (.exit 0, (fr7 l key s is n j a2 a3 a6 a8 a9 a10 a11 a12 a13 a14 a15 a16 a17 a18 a19 a20 a21 a22 a23 a24 a25 a26 a84 a85 a86 a87 a88 a89 a90 a91 a92 a93 a94 a95 a96 a97 a98).set 30 (.s (.bool false)), h) := by
  apply Run.step 30; intro k j
  simp [c7, lp7, rest7, body7, fr7, eq_false hj]
theorem f7_one (g h : Heap) (b0 v0 o0 n : Nat) (E : List (Int × ByteArray)) (hg : Grows g h) (hA : rowOf g (.sl b0 v0 o0 n 2) = some E) (hn : n ≤ 4611686018427387903) (ha : Asc E) (s : ByteArray) (hs : s.size ≤ 9223372036854775807) (hr : readS s = (E, ⟨#[]⟩, 0)) (key : Int) (is : Bool) (j : Nat) (hj60 : j ≠ 60) (x : Int × ByteArray) (hx : E[j]? = some x) (a2 a3 a6 a8 a9 a10 a11 a12 a13 a14 a15 a16 a17 a18 a19 a20 a21 a22 a23 a24 a25 a26 a84 a85 a86 a87 a88 a89 a90 a91 a92 a93 a94 a95 a96 a97 a98 : AV) :
    ∃ H tm' a8' a9' a10' a11' a12' a13', Grows h H ∧ forget fg7 tm' = fr7 (.sl b0 v0 o0 n 2) key s (is || decide (x.1 = key)) n ((j : Int) + 1) a2 a3 a6 a8' a9' a10' a11' a12' a13' a14 a15 a16 a17 a18 a19 a20 a21 a22 a23 a24 a25 a26 a84 a85 a86 a87 a88 a89 a90 a91 a92 a93 a94 a95 a96 a97 a98 ∧ Run Try.prog TW body7 (fr7 (.sl b0 v0 o0 n 2) key s is n j a2 a3 a6 a8 a9 a10 a11 a12 a13 a14 a15 a16 a17 a18 a19 a20 a21 a22 a23 a24 a25 a26 a84 a85 a86 a87 a88 a89 a90 a91 a92 a93 a94 a95 a96 a97 a98) h (.normal, tm', H) := by
  have c23 := fun k l h => evFn_hook (P := Try.prog) (T := TW) (k := k) (f := 23) (args := l) (h := h) TW_23
  have c25 := fun k l h => evFn_hook (P := Try.prog) (T := TW) (k := k) (f := 25) (args := l) (h := h) TW_25
  obtain ⟨e1, s1, w1, C1, hb1, hl1, hC1, hn1⟩ := rowOf_sl (rowOf_grows hg hA)
  have hjn' : j < n := by have := (List.getElem?_eq_some_iff.1 hx).1; omega
  have hxm : x ∈ E := List.mem_of_getElem? hx
  have hr1 := row_at (i := j) hC1 hn1 (by omega)
  rw [(List.getElem?_eq_some_iff.1 hx).2] at hr1
  have hle1 : o0 + j * 2 + 2 ≤ C1.length := by omega
  have hjn : (j : Int) < (n : Int) := by omega
  have h60 : ¬ (j : Int) = 60 := by omega
  have w3 : IntKind.i64.wrap ((j : Int) + 1) = (j : Int) + 1 := w64k (by omega) (by omega)
  generalize hh1 : h ++ [(⟨0, 52, 2, true, [.s (.int .u64 x.1), .s (.string x.2)]⟩ : Blk)] = h1
  have g1 : Grows h h1 := by subst hh1; exact Grows.app h _
  have p1 : bk h1 h.length = some ⟨0, 52, 2, true, [.s (.int .u64 x.1), .s (.string x.2)]⟩ := by subst hh1; simp
  have q1 := hk23 hs hr x.1 h1
  have hfm : findF E x.1 = (x.2, 0) := by unfold findF; rw [find_mem ha hxm]
  rw [hfm] at q1
  simp only at q1
  obtain ⟨A, H2, q2, r2, g2⟩ := range25 s hs x.1 x.1 h1
  rw [hr] at q2 r2
  simp only at q2 r2
  rw [range_one ha hxm] at r2
  have p2 := bk_grows g2 p1
  have hla := s30_len r2
  obtain ⟨b, v, o, hAe⟩ : ∃ b v o, A = .sl b v o 1 2 := by
    unfold rowOf at r2
    split at r2
    · cases r2
    · rename_i b v o m
      have := (rowOf_sl (h := H2) (b := b) (v := v) (o := o) (n := m) (E := [x]) r2).choose_spec.choose_spec.choose_spec.choose_spec.2.2.2
      simp at this
      subst this
      exact ⟨b, v, o, rfl⟩
    · cases r2
  subst hAe
  obtain ⟨e3, s3, w3', C3, hb3, hl3, hC3, _⟩ := rowOf_sl r2
  simp only [Nat.one_mul] at hl3 hC3
  have hC3 : (C3.drop o).take 2 = [.s (.int .u64 x.1), .s (.string x.2)] := by rw [hC3]; rfl
  cases is with
  | false =>
    refine ⟨H2, ?tmF, ?w8F, ?w9F, ?w10F, ?w11F, ?w12F, ?w13F, g1.trans g2, ?fgF, ?runF⟩
    case runF =>
      apply Run.seq
      · apply Run.step 20; intro k j
        simp [c7, lp7, rest7, body7, fr7, eq_true hjn]
        all_goals (first | rfl | (constructor <;> rfl))
      · apply Run.seq
        · apply Run.step 20; intro k j
          simp
          all_goals (first | rfl | (constructor <;> rfl))
        · apply Run.seq
          · apply Run.block_id (by simp)
            apply Run.seq
            · apply Run.step 20; intro k j
              simp [hjn', hb1, hr1, hle1, hh1, p1, oneOr, cellsOf, isCell]
              all_goals (first | rfl | (constructor <;> rfl))
            · apply Run.seq
              · apply Run.step 20; intro k j
                simp [eq_false h60]
                all_goals (first | rfl | (constructor <;> rfl))
              · apply Run.seq
                · apply Run.step 20; intro k j
                  simp [p1, oneOr]
                  all_goals (first | rfl | (constructor <;> rfl))
                · apply Run.seq
                  · apply Run.step 20; intro k j
                    simp [p1, oneOr, c23, q1]
                    all_goals (first | rfl | (constructor <;> rfl))
                  · apply Run.seq
                    · apply Run.step 20; intro k j
                      simp [p1, oneOr, c25, q2]
                      all_goals (first | rfl | (constructor <;> rfl))
                    · apply Run.seq
                      · apply Run.draw0
                        apply Run.reg_cut 5
                        · apply Run.step 10; intro k j
                          simp [p2, oneOr, hla, hb3, hl3, hC3, neq_ent]
                          all_goals (first | rfl | (constructor <;> rfl))
                        · skip
                          apply Run.reg_cut 5
                          · apply Run.step 10; intro k j
                            simp [p2, oneOr, hla, hb3, hl3, hC3, neq_ent]
                            all_goals (first | rfl | (constructor <;> rfl))
                          · skip
                            apply Run.reg_cut 5
                            · apply Run.step 10; intro k j
                              simp [p2, oneOr, hla, hb3, hl3, hC3, neq_ent]
                              all_goals (first | rfl | (constructor <;> rfl))
                            · skip
                              apply Run.reg_cut 5
                              · apply Run.step 10; intro k j
                                simp [p2, oneOr, hla, hb3, hl3, hC3, neq_ent]
                                all_goals (first | rfl | (constructor <;> rfl))
                              · skip
                                apply Run.step 10; intro k j
                                simp [p2, oneOr, hla, hb3, hl3, hC3, neq_ent]
                                all_goals (first | rfl | (constructor <;> rfl))

                      · apply Run.step 20; intro k j
                        simp
                        all_goals (first | rfl | (constructor <;> rfl))
          · apply Run.step 20; intro k j
            simp [w3]
            all_goals (first | rfl | (constructor <;> rfl))
    case fgF =>
      simp [forget, fg7, lp7, rest7, c7, fr7]
      all_goals (first | rfl | (refine ⟨?_, ?_, ?_, ?_, ?_, ?_⟩ <;> rfl))
  | true =>
    refine ⟨H2, ?tmT, ?w8T, ?w9T, ?w10T, ?w11T, ?w12T, ?w13T, g1.trans g2, ?fgT, ?runT⟩
    case runT =>
      apply Run.seq
      · apply Run.step 20; intro k j
        simp [c7, lp7, rest7, body7, fr7, eq_true hjn]
        all_goals (first | rfl | (constructor <;> rfl))
      · apply Run.seq
        · apply Run.step 20; intro k j
          simp
          all_goals (first | rfl | (constructor <;> rfl))
        · apply Run.seq
          · apply Run.block_id (by simp)
            apply Run.seq
            · apply Run.step 20; intro k j
              simp [hjn', hb1, hr1, hle1, hh1, p1, oneOr, cellsOf, isCell]
              all_goals (first | rfl | (constructor <;> rfl))
            · apply Run.seq
              · apply Run.step 20; intro k j
                simp [eq_false h60]
                all_goals (first | rfl | (constructor <;> rfl))
              · apply Run.seq
                · apply Run.step 20; intro k j
                  simp [p1, oneOr]
                  all_goals (first | rfl | (constructor <;> rfl))
                · apply Run.seq
                  · apply Run.step 20; intro k j
                    simp [p1, oneOr, c23, q1]
                    all_goals (first | rfl | (constructor <;> rfl))
                  · apply Run.seq
                    · apply Run.step 20; intro k j
                      simp [p1, oneOr, c25, q2]
                      all_goals (first | rfl | (constructor <;> rfl))
                    · apply Run.seq
                      · apply Run.draw0
                        apply Run.reg_cut 5
                        · apply Run.step 10; intro k j
                          simp [p2, oneOr, hla, hb3, hl3, hC3, neq_ent]
                          all_goals (first | rfl | (constructor <;> rfl))
                        · skip
                          apply Run.reg_cut 5
                          · apply Run.step 10; intro k j
                            simp [p2, oneOr, hla, hb3, hl3, hC3, neq_ent]
                            all_goals (first | rfl | (constructor <;> rfl))
                          · skip
                            apply Run.reg_cut 5
                            · apply Run.step 10; intro k j
                              simp [p2, oneOr, hla, hb3, hl3, hC3, neq_ent]
                              all_goals (first | rfl | (constructor <;> rfl))
                            · skip
                              apply Run.reg_cut 5
                              · apply Run.step 10; intro k j
                                simp [p2, oneOr, hla, hb3, hl3, hC3, neq_ent]
                                all_goals (first | rfl | (constructor <;> rfl))
                              · skip
                                apply Run.step 10; intro k j
                                simp [p2, oneOr, hla, hb3, hl3, hC3, neq_ent]
                                all_goals (first | rfl | (constructor <;> rfl))

                      · apply Run.step 20; intro k j
                        simp
                        all_goals (first | rfl | (constructor <;> rfl))
          · apply Run.step 20; intro k j
            simp [w3]
            all_goals (first | rfl | (constructor <;> rfl))
    case fgT =>
      simp [forget, fg7, lp7, rest7, c7, fr7]
      all_goals (first | rfl | (refine ⟨?_, ?_, ?_, ?_, ?_, ?_⟩ <;> rfl))
theorem f7_all (g : Heap) (b0 v0 o0 n : Nat) (E : List (Int × ByteArray)) (hA : rowOf g (.sl b0 v0 o0 n 2) = some E) (hn : n ≤ 4611686018427387903) (ha : Asc E) (s : ByteArray) (hs : s.size ≤ 9223372036854775807) (hr : readS s = (E, ⟨#[]⟩, 0)) (key : Int) (a2 a3 a6 a14 a15 a16 a17 a18 a19 a20 a21 a22 a23 a24 a25 a26 a84 a85 a86 a87 a88 a89 a90 a91 a92 a93 a94 a95 a96 a97 a98 : AV) :
    ∀ (k j : Nat), j + k = n → j ≤ 60 → ∀ (h : Heap) (is : Bool) (a8 a9 a10 a11 a12 a13 : AV), Grows g h → is = anyK (E.take j) key →
    ∃ H tm', tm'[4]? = some (.s (.bool true)) ∧ Run Try.prog TW (.seq (.block 0 (.loop fg7 body7)) tl7) (fr7 (.sl b0 v0 o0 n 2) key s is n j a2 a3 a6 a8 a9 a10 a11 a12 a13 a14 a15 a16 a17 a18 a19 a20 a21 a22 a23 a24 a25 a26 a84 a85 a86 a87 a88 a89 a90 a91 a92 a93 a94 a95 a96 a97 a98) h (.ret, tm', H) := by
  have hn1 : E.length = n := (rowOf_sl hA).choose_spec.choose_spec.choose_spec.choose_spec.2.2.2
  have hfg : ∀ (is : Bool) (j : Int) (a8 a9 a10 a11 a12 a13 : AV), forget fg7 (fr7 (.sl b0 v0 o0 n 2) key s is n j a2 a3 a6 a8 a9 a10 a11 a12 a13 a14 a15 a16 a17 a18 a19 a20 a21 a22 a23 a24 a25 a26 a84 a85 a86 a87 a88 a89 a90 a91 a92 a93 a94 a95 a96 a97 a98) = fr7 (.sl b0 v0 o0 n 2) key s is n j a2 a3 a6 a8 a9 a10 a11 a12 a13 a14 a15 a16 a17 a18 a19 a20 a21 a22 a23 a24 a25 a26 a84 a85 a86 a87 a88 a89 a90 a91 a92 a93 a94 a95 a96 a97 a98 := fun is j a8 a9 a10 a11 a12 a13 => by simp [forget, fg7, lp7, rest7, c7, fr7]
  intro k
  induction k with
  | zero =>
    intro j hd hj h is a8 a9 a10 a11 a12 a13 hg hi
    obtain rfl : j = n := by omega
    rw [List.take_of_length_le (by omega)] at hi
    obtain ⟨H, tm', x1, x2⟩ := f7_tail (.sl b0 v0 o0 j 2) key s is E h hs hr (rowOf_grows hg hA) (fun _ => hi) a2 a3 .any a6 a8 a9 a10 a11 a12 a13 a14 a15 a16 a17 a18 a19 a20 a21 a22 a23 a24 a25 a26 (.sl b0 v0 o0 j 2) (.s (.int .i64 (j:Int))) (.s (.int .i64 j)) (.s (.bool false)) .any .any .any .any .any .any .any .any .any .any .any .any .any .any .any .any .any .any .any .any .any .any .any .any .any .any .any .any .any .any .any .any .any .any .any .any .any .any .any .any .any .any .any .any .any .any .any .any .any .any .any .any .any a84 a85 a86 a87 a88 a89 a90 a91 a92 a93 a94 a95 a96 a97 a98
    exact ⟨H, tm', x1, Run.seq (Run.block_exit (Run.loop_end_f (hfg _ _ _ _ _ _ _ _) (by simp) (f7_end _ key s is j j (by omega) h a2 a3 a6 a8 a9 a10 a11 a12 a13 a14 a15 a16 a17 a18 a19 a20 a21 a22 a23 a24 a25 a26 a84 a85 a86 a87 a88 a89 a90 a91 a92 a93 a94 a95 a96 a97 a98))) x2⟩
  | succ k ih =>
    intro j hd hj h is a8 a9 a10 a11 a12 a13 hg hi
    have hjE : j < E.length := by omega
    by_cases h60 : j = 60
    · obtain ⟨e1, s1, w1, C1, hb1, hl1, hC1, hn1'⟩ := rowOf_sl (rowOf_grows hg hA)
      have hr1 := row_at (i := j) hC1 hn1' (by omega)
      have hle1 : o0 + j * 2 + 2 ≤ C1.length := by omega
      have hjn : (j : Int) < (n : Int) := by omega
      have hjn' : j < n := by omega
      have h60' : (j : Int) = 60 := by omega
      generalize hx : E[j] = x at hr1
      generalize hh1 : h ++ [(⟨0, 52, 2, true, [.s (.int .u64 x.1), .s (.string x.2)]⟩ : Blk)] = h1
      have g1 : Grows h h1 := by subst hh1; exact Grows.app h _
      have p1 : bk h1 h.length = some ⟨0, 52, 2, true, [.s (.int .u64 x.1), .s (.string x.2)]⟩ := by subst hh1; simp
      obtain ⟨H, tm', x1, x2⟩ := f7_tail (.sl b0 v0 o0 n 2) key s is E h1 hs hr (rowOf_grows (hg.trans g1) hA) (fun h => by omega) a2 a3 .any a6 (.s (.int .i64 j)) (.pt h.length 0 0) a10 a11 a12 a13 a14 a15 a16 a17 a18 a19 a20 a21 a22 a23 a24 a25 a26 (.sl b0 v0 o0 n 2) (.s (.int .i64 (n:Int))) (.s (.int .i64 j)) (.s (.bool true)) (.s (.int .i64 j)) (.pt b0 v0 (o0 + j * 2)) (.ag [.s (.int .u64 x.1), .s (.string x.2)]) (.s (.int .i64 j)) (.s (.bool true)) .any .any .any .any .any .any .any .any .any .any .any .any .any .any .any .any .any .any .any .any .any .any .any .any .any .any .any .any .any .any .any .any .any .any .any .any .any .any .any .any .any .any .any .any .any .any .any .any a84 a85 a86 a87 a88 a89 a90 a91 a92 a93 a94 a95 a96 a97 a98
      refine ⟨H, tm', x1, Run.seq (Run.block_exit (Run.loop_end_f (hfg _ _ _ _ _ _ _ _) (by simp) ?_)) x2⟩
      apply Run.seq
      · apply Run.step 20; intro k j
        simp [c7, lp7, rest7, body7, fr7, eq_true hjn]
        all_goals (first | rfl | (constructor <;> rfl))
      · apply Run.seq
        · apply Run.step 20; intro k j
          simp
          all_goals (first | rfl | (constructor <;> rfl))
        · apply Run.seq_stop (by simp)
          refine Run.to (Run.block (i := 1) (e := .exit 0) ?_) rfl
          apply Run.seq
          · apply Run.step 20; intro k j
            simp [hjn', hb1, hr1, hle1, hh1, p1, oneOr, cellsOf, isCell]
            all_goals (first | rfl | (constructor <;> rfl))
          · apply Run.seq_stop (by simp)
            apply Run.step 20; intro k j
            simp [eq_true h60']
            all_goals (first | rfl | (constructor <;> rfl))
    · obtain ⟨H, tm', a8', a9', a10', a11', a12', a13', x1, x2, x3⟩ := f7_one g h b0 v0 o0 n E hg hA hn ha s hs hr key is j h60 E[j] (List.getElem?_eq_getElem hjE) a2 a3 a6 a8 a9 a10 a11 a12 a13 a14 a15 a16 a17 a18 a19 a20 a21 a22 a23 a24 a25 a26 a84 a85 a86 a87 a88 a89 a90 a91 a92 a93 a94 a95 a96 a97 a98
      obtain ⟨G, tm2, y1, y2⟩ := ih (j + 1) (by omega) (by omega) H (is || decide (E[j].1 = key)) a8' a9' a10' a11' a12' a13' (hg.trans x1) (by rw [List.take_succ_eq_append_getElem hjE, hi]; simp only [anyK, List.any_append, List.any_cons, List.any_nil, Bool.or_false])
      exact ⟨G, tm2, y1, Run.seq_block_loop (hfg _ _ _ _ _ _ _ _) x3 x2 y2⟩
theorem found_run (l : AV) (key : Int) (E : List (Int × ByteArray)) (h : Heap) (hl : rowOf h l = some E) (hd : dsz E ≤ 1048576) (hn : E.length ≤ 1048576) (hk : ∀ x ∈ E, 0 ≤ x.1 ∧ x.1 ≤ 18446744073709551615) :
    ∃ H, FRun Try.prog TW 7 [l, .s (.int .u64 key)] h (.s (.bool true), H) := by
  have c29 := fun k l h => evFn_hook (P := Try.prog) (T := TW) (k := k) (f := 29) (args := l) (h := h) TW_29
  have c32 := fun k l h => evFn_hook (P := Try.prog) (T := TW) (k := k) (f := 32) (args := l) (h := h) TW_32
  have q1 : hkWrite [l] h = some (.tp [.s (.string (wrS E).1), .s (.int .i64 (wrS E).2)], h) := by
    simp only [hkWrite, hl]
    rw [if_pos ⟨by omega, by omega⟩]
  have hla := s30_len hl
  suffices hs : ∃ H tm', Run Try.prog TW c7 ([l, .s (.int .u64 key)] ++ List.replicate 97 (.s undef)) h (.ret, tm', H) ∧ tm'[4]? = some (.s (.bool true)) by
    obtain ⟨H, tm', h1, h2⟩ := hs
    exact ⟨H, FRun.of (e := .ret) (tm' := tm') (TW_7.trans p7) h1 (Or.inl rfl) (by simp [resAs, resA, h2, tupA])⟩
  by_cases hw : (wrS E).2 = 0
  · have ho : okOrd E = true ∧ E.length ≤ 65536 := by
      unfold wrS at hw
      split at hw
      · simp at hw
      · split at hw
        · simp at hw
        · rename_i h1 h2
          exact ⟨by simpa using h1, by omega⟩
    have hz : ∀ x ∈ E, x.2.size ≤ 9223372036854775807 := fun x hx => by have := dsz_mem E x hx; omega
    have hrw := read_write ho.1 ho.2 hk hz (strOfNums [])
    have ea : (wrS E).1 ++ strOfNums [] = (wrS E).1 := V.bytesOf_inj (by rw [bytesOf_append, bytesOf_strOf (by simp), List.append_nil])
    rw [ea] at hrw
    have hsz : (wrS E).1.size ≤ 9223372036854775807 := by
      rw [← bytesOf_length, wrS]
      have h2 : ¬ 65536 < E.length := by omega
      have h3 := leb_length_le (n := (E.length : Int)) (by omega) (by omega)
      have h4 := wrF_len E 0 (fun x hx => by have := dsz_mem E x hx; omega)
      simp only [ho.1, h2, Bool.true_eq_false, if_false]
      rw [bytesOf_length, strOfNums_size]
      simp only [List.length_append, dat_len]
      omega
    have hempty : strOfNums [] = (⟨#[]⟩ : ByteArray) := rfl
    rw [hempty] at hrw
    rw [hw] at q1
    generalize (wrS E).1 = s at *
    have hpre : ∀ {r : Res}, Run Try.prog TW (.seq (.block 0 (.loop fg7 body7)) tl7) (fr7 l key s false E.length 0 (.s undef) (.s undef) (.s (.int .i64 0)) (.s undef) (.s undef) (.s undef) (.s undef) (.s undef) (.s undef) (.s undef) (.s undef) (.s (.bool true)) (.s (.bool false)) (.tp [.s (.string s), .s (.int .i64 0)]) l (.tp [.s (.string s), .s (.int .i64 0)]) (.s (.string s)) (.s (.int .i64 0)) (.s (.int .i64 0)) (.s (.bool false)) (.s undef) (.s undef) (.s undef) (.s undef) (.s undef) (.s undef) (.s undef) (.s undef) (.s undef) (.s undef) (.s undef) (.s undef) (.s undef) (.s undef) (.s undef) (.s undef) (.s undef)) h r → Run Try.prog TW c7 ([l, .s (.int .u64 key)] ++ List.replicate 97 (.s undef)) h r := by
      intro r H
      apply Run.seq
      · apply Run.step 20; intro k j
        simp
        all_goals (first | rfl | (constructor <;> rfl))
      · apply Run.seq
        · apply Run.step 20; intro k j
          simp [c29, hkYes]
          all_goals (first | rfl | (constructor <;> rfl))
        · apply Run.seq
          · apply Run.step 20; intro k j
            simp [c32, q1]
            all_goals (first | rfl | (constructor <;> rfl))
          · apply Run.seq
            · apply Run.step 20; intro k j
              simp
              all_goals (first | rfl | (constructor <;> rfl))
            · apply Run.seq
              · apply Run.step 20; intro k j
                simp
                all_goals (first | rfl | (constructor <;> rfl))
              · apply Run.seq_seq
                · apply Run.step 20; intro k j
                  simp [hla]
                  all_goals (first | rfl | (constructor <;> rfl))
                · exact Run.seq_block_forget (by simp [forget, fg7, lp7, rest7, c7, fr7]) H
    unfold rowOf at hl
    split at hl
    · cases hl
      obtain ⟨H, tm', x1, x2⟩ := f7_tail (.s (.slice none 0 0)) key s false [] h hsz hrw rfl (fun _ => rfl) (.s undef) (.s undef) .any (.s (.int .i64 0)) (.s undef) (.s undef) (.s undef) (.s undef) (.s undef) (.s undef) (.s undef) (.s undef) (.s (.bool true)) (.s (.bool false)) (.tp [.s (.string s), .s (.int .i64 0)]) (.s (.slice none 0 0)) (.tp [.s (.string s), .s (.int .i64 0)]) (.s (.string s)) (.s (.int .i64 0)) (.s (.int .i64 0)) (.s (.bool false)) (.s undef) (.s undef) (.s (.slice none 0 0)) (.s (.int .i64 0)) (.s (.int .i64 0)) (.s (.bool false)) .any .any .any .any .any .any .any .any .any .any .any .any .any .any .any .any .any .any .any .any .any .any .any .any .any .any .any .any .any .any .any .any .any .any .any .any .any .any .any .any .any .any .any .any .any .any .any .any .any .any .any .any .any (.s undef) (.s undef) (.s undef) (.s undef) (.s undef) (.s undef) (.s undef) (.s undef) (.s undef) (.s undef) (.s undef) (.s undef) (.s undef) (.s undef) (.s undef)
      refine ⟨H, tm', hpre (Run.seq (Run.block_exit (Run.loop_end_f ?_ (by simp) (f7_end (T := TW) (.s (.slice none 0 0)) key s false 0 0 (by simp) h (.s undef) (.s undef) (.s (.int .i64 0)) (.s undef) (.s undef) (.s undef) (.s undef) (.s undef) (.s undef) (.s undef) (.s undef) (.s (.bool true)) (.s (.bool false)) (.tp [.s (.string s), .s (.int .i64 0)]) (.s (.slice none 0 0)) (.tp [.s (.string s), .s (.int .i64 0)]) (.s (.string s)) (.s (.int .i64 0)) (.s (.int .i64 0)) (.s (.bool false)) (.s undef) (.s undef) (.s undef) (.s undef) (.s undef) (.s undef) (.s undef) (.s undef) (.s undef) (.s undef) (.s undef) (.s undef) (.s undef) (.s undef) (.s undef) (.s undef) (.s undef)))) x2), x1⟩
      simp [forget, fg7, lp7, rest7, c7, fr7]
    · rename_i b v o n
      have hl : rowOf h (.sl b v o n 2) = some E := hl
      have hn1 : E.length = n := (rowOf_sl hl).choose_spec.choose_spec.choose_spec.choose_spec.2.2.2
      obtain ⟨H, tm', x1, x2⟩ := f7_all h b v o n E hl (by omega) ((okOrd_asc E).1 ho.1) s hsz hrw key (.s undef) (.s undef) (.s (.int .i64 0)) (.s undef) (.s undef) (.s (.bool true)) (.s (.bool false)) (.tp [.s (.string s), .s (.int .i64 0)]) (.sl b v o n 2) (.tp [.s (.string s), .s (.int .i64 0)]) (.s (.string s)) (.s (.int .i64 0)) (.s (.int .i64 0)) (.s (.bool false)) (.s undef) (.s undef) (.s undef) (.s undef) (.s undef) (.s undef) (.s undef) (.s undef) (.s undef) (.s undef) (.s undef) (.s undef) (.s undef) (.s undef) (.s undef) (.s undef) (.s undef) n 0 (by omega) (by omega) h false (.s undef) (.s undef) (.s undef) (.s undef) (.s undef) (.s undef) (Grows.refl h) rfl
      rw [hn1] at hpre
      exact ⟨H, tm', hpre x2, x1⟩
    · cases hl
  · have hs : (wrS E).1 = ⟨#[]⟩ := by
      unfold wrS at hw ⊢
      split
      · rfl
      · split
        · rfl
        · rename_i h1 h2
          rw [if_neg h1, if_neg h2] at hw
          exact absurd rfl hw
    rw [hs] at q1
    generalize (wrS E).2 = w at q1 hw
    refine ⟨h, ?wtm, ?w1, ?w2⟩
    case w1 =>
      apply Run.seq
      · apply Run.step 20; intro k j
        simp
        all_goals (first | rfl | (constructor <;> rfl))
      · apply Run.seq
        · apply Run.step 20; intro k j
          simp [c29, hkYes]
          all_goals (first | rfl | (constructor <;> rfl))
        · apply Run.seq
          · apply Run.step 20; intro k j
            simp [c32, q1]
            all_goals (first | rfl | (constructor <;> rfl))
          · apply Run.seq_stop (by simp)
            apply Run.step 20; intro k j
            simp [hw]
            all_goals (first | rfl | (constructor <;> rfl))
    case w2 => rfl
end Go.Proofs.Ytpmoellbfgcefaa.AS
end
section
set_option autoImplicit false
namespace Go.Proofs.Ytpmoellbfgcefaa.AS
open Go Go.RowKit Go.ChangeShapes Go.WideShapes

/-- An argument's memory as a block of the abstract heap, to be read alone. -/
theorem HR.arg {P : Program} {W : World} {ρ : PM} {h : Heap} (H : HR P W.heap.size W ρ h W) (B off : Nat) (e : TypeId) (sz : Nat) (l : List AV) (hB : B < W.heap.size)
    (hl : ∀ (j : Nat) (x : AV), l[j]? = some x → ∃ v, W.cell? ⟨B, off + j, none⟩ = some v ∧ RV ρ W x v) :
    HR P W.heap.size W (upd ρ h.length 0 ⟨B, off, e, sz, false⟩) (h ++ [⟨0, e, sz, false, l⟩]) W ∧ Ext ρ (upd ρ h.length 0 ⟨B, off, e, sz, false⟩) := by
  have hx : Ext ρ (upd ρ h.length 0 ⟨B, off, e, sz, false⟩) := upd_ext _ (H.fresh _ _ (Nat.le_refl _))
  refine ⟨⟨H.below, H.hbase, ?_, ?_, ?_⟩, hx⟩
  · intro b ver hlen
    simp only [List.length_append, List.length_cons, List.length_nil] at hlen
    unfold upd
    rw [if_neg (by omega)]
    exact H.fresh _ _ (by omega)
  · intro b k hbk
    rcases Nat.lt_or_ge b h.length with hlt | hge
    · rw [List.getElem?_append_left hlt] at hbk
      obtain ⟨p, h1, h2, h3, h4, h5, h6, h7, h8⟩ := H.blk b k hbk
      refine ⟨p, hx _ _ _ h1, ?_, h3, h4, h5, h6, fun j x hj => ?_, h8⟩
      · intro v hv
        unfold upd
        rw [if_neg (by omega)]
        exact h2 v hv
      · obtain ⟨v, hv, hr⟩ := h7 j x hj
        exact ⟨v, hv, RV_mono hx (Keep.refl _) _ _ hr⟩
    · have hbe : b = h.length := by
        have := (List.getElem?_eq_some_iff.1 hbk).1
        simp at this
        omega
      subst hbe
      simp at hbk
      subst hbk
      refine ⟨⟨B, off, e, sz, false⟩, upd_same _ _ _ _, ?_, rfl, rfl, rfl, hB, ?_, fun h => by cases h⟩
      · intro v hv
        unfold upd
        rw [if_neg (by simp at hv; omega)]
        exact H.fresh _ _ (Nat.le_refl _)
      · intro j x hj
        obtain ⟨v, hv, hr⟩ := hl j x hj
        exact ⟨v, hv, RV_mono hx (Keep.refl _) _ _ hr⟩
  · intro b b' k k' p p' hbk hbk' hp hp' hrw heq
    have lt_old : ∀ b k p, h[b]? = some k → ρ b k.ver = some p → k.rw = true → W.heap.size ≤ p.blk := by
      intro b k p hb hp hr
      obtain ⟨q, h1, _, _, _, _, _, _, h8⟩ := H.blk b k hb
      rw [hp] at h1; cases h1; exact (h8 hr).1
    rcases Nat.lt_or_ge b h.length with hlt | hge
    · rw [List.getElem?_append_left hlt] at hbk
      unfold upd at hp
      rw [if_neg (by omega)] at hp
      rcases Nat.lt_or_ge b' h.length with hlt' | hge'
      · rw [List.getElem?_append_left hlt'] at hbk'
        unfold upd at hp'
        rw [if_neg (by omega)] at hp'
        exact H.inj b b' k k' p p' hbk hbk' hp hp' hrw heq
      · have hbe : b' = h.length := by
          have := (List.getElem?_eq_some_iff.1 hbk').1
          simp at this
          omega
        subst hbe
        simp at hbk'
        subst hbk'
        rw [upd_same] at hp'
        cases hp'
        have := lt_old b k p hbk hp hrw
        simp only at heq
        omega
    · have hbe : b = h.length := by
        have := (List.getElem?_eq_some_iff.1 hbk).1
        simp at this
        omega
      subst hbe
      simp at hbk
      subst hbk
      cases hrw

/-- Values of a type without memory behind them: their cells, and what is known of them. -/
structure Flat (P : Program) (t : TypeId) (α : Type) (bulk : (H : Type) → DataW H → Nat) where
  cells : α → List Value
  sz : Nat
  size : α → Nat
  wf : α → Prop
  len : ∀ a, (cells a).length = sz
  cellsOf : P.cellsOf t = sz
  opens : ∀ (H : Type) (enc : TypeId × Value → H) (W : World) (fuel : Nat) (cs : List Value) (x : DataW H × List MemPlace), DataW.trod enc P W 0 (fun _ => true) true fuel t cs = some x → ∃ a, cs = cells a ∧ size a ≤ bulk H x.1 ∧ wf a
def sizes {α : Type} (size : α → Nat) : List α → Nat
  | [] => 0
  | a :: l => size a + sizes size l
theorem sizes_append {α : Type} (size : α → Nat) (l r : List α) : sizes size (l ++ r) = sizes size l + sizes size r := by
  induction l with
  | nil => simp [sizes]
  | cons a l ih => simp only [List.cons_append, sizes, ih]; omega
theorem flat_len {α : Type} {cells : α → List Value} {sz : Nat} (h : ∀ a, (cells a).length = sz) : ∀ l : List α, (l.flatMap cells).length = l.length * sz
  | [] => by simp
  | a :: l => by rw [List.flatMap_cons, List.length_append, h, flat_len h l, List.length_cons, Nat.succ_mul]; omega
/-- A slice of such values. -/
theorem open_flat {P : Program} {bulk : (H : Type) → DataW H → Nat} {bulks : (H : Type) → List (DataW H) → Nat} (hb0 : ∀ H, bulks H [] = 0) (hb1 : ∀ H d l, bulks H (d :: l) = bulk H d + bulks H l) (hb2 : ∀ H e s, bulks H e + 1 ≤ bulk H (.slice e s))
    {t e : TypeId} {α : Type} (F : Flat P e α bulk) (hu : P.underlying t = some (.slice e)) {H : Type} {enc : TypeId × Value → H} {W : World} {a : Option Addr} {len cap : Nat} {D : DataW H} {ps : List MemPlace}
    (hD : DataW.Trod enc P W 0 (fun _ => true) true t (.slice a len cap) D ps) :
    ∃ l : List α, len = l.length ∧ len ≤ cap ∧ cap ≤ maxLen ∧ (a = none → len = 0 ∧ cap = 0) ∧ (∀ x, a = some x → ∀ j v, (l.flatMap F.cells)[j]? = some v → W.cell? (x.add j) = some v) ∧ sizes F.size l ≤ bulk H D ∧ ∀ y ∈ l, F.wf y := by
  obtain ⟨fuel, hf⟩ := hD
  rcases DataW.trod_slice hu hf with ⟨hcs, hx⟩ | ⟨x, len', cap', elems, rest, n, rfl, hcs, hx, hb, hl, hm, hlen, hel, hsp, hns⟩
  · simp [Value.cells] at hcs
    obtain ⟨rfl, rfl, rfl⟩ := hcs
    exact ⟨[], rfl, Nat.le_refl _, by simp [maxLen], fun _ => ⟨rfl, rfl⟩, fun x hx => (by cases hx), by simp [sizes], by simp⟩
  · simp [Value.cells] at hcs
    obtain ⟨rfl, rfl, rfl⟩ := hcs
    cases hx
    have key : ∀ m, m ≤ len → ∃ l : List α, l.length = m ∧ (∀ j v, (l.flatMap F.cells)[j]? = some v → W.cell? (x.add j) = some v) ∧ sizes F.size l ≤ bulks H ((elems.take m).map (·.1)) ∧ ∀ y ∈ l, F.wf y := by
      intro m
      induction m with
      | zero => intro _; exact ⟨[], rfl, by simp, by simp [sizes], by simp⟩
      | succ m ih =>
        intro hm'
        obtain ⟨l, hl1, hl2, hl3, hl4⟩ := ih (by omega)
        have hlt : m < elems.length := by omega
        have he := hel m (by omega)
        rw [List.getElem?_eq_getElem hlt, Option.bind_eq_some_iff] at he
        obtain ⟨c, hcs, htr⟩ := he
        obtain ⟨p, hK, hbk, hwf⟩ := F.opens H enc W n c _ htr
        refine ⟨l ++ [p], by simp [hl1], ?_, ?_, ?_⟩
        · intro j v hj
          have hfl := flat_len F.len l
          rw [List.flatMap_append] at hj
          rcases Nat.lt_or_ge j (l.flatMap F.cells).length with hjl | hjl
          · rw [List.getElem?_append_left hjl] at hj
            exact hl2 j v hj
          · rw [List.getElem?_append_right hjl] at hj
            obtain ⟨_, hcl, hce⟩ := World.cells?_some hcs
            simp only [List.flatMap_cons, List.flatMap_nil, List.append_nil] at hj
            rw [← hK] at hj
            have hlt2 : j - (l.flatMap F.cells).length < P.cellsOf e := by rw [← hcl]; exact (List.getElem?_eq_some_iff.1 hj).1
            have := hce _ hlt2
            rw [hj, Addr.add_add, F.cellsOf, hfl, hl1] at this
            rw [hfl, hl1] at hjl
            rw [show m * F.sz + (j - m * F.sz) = j by omega] at this
            exact this
        · rw [List.take_succ_eq_append_getElem hlt, List.map_append, sizes_append]
          have happ : ∀ a b : List (DataW H), bulks H (a ++ b) = bulks H a + bulks H b := by
            intro a b
            induction a with
            | nil => simp [hb0]
            | cons d a ih => simp only [List.cons_append, hb1, ih]; omega
          rw [happ]
          simp only [sizes, List.map_cons, List.map_nil, hb1, hb0]
          omega
        · intro y hy
          rcases List.mem_append.1 hy with h | h
          · exact hl4 y h
          · simp at h; subst h; exact hwf
    obtain ⟨l, hl1, hl2, hl3, hl4⟩ := key len (Nat.le_refl _)
    refine ⟨l, hl1.symm, hl, hm, fun h => (by cases h), fun y hy => ?_, ?_, hl4⟩
    · cases hy; exact hl2
    · rw [List.take_of_length_le (by omega)] at hl3
      exact Nat.le_trans hl3 (Nat.le_trans (Nat.le_succ _) (hb2 H _ _))
/-- A slice's place. -/
theorem okWide_place {P : Program} {t e : TypeId} {W : World} {r : Reach} {base : Nat} {x : Addr} {len cap : Nat} (hu : P.underlying t = some (.slice e)) (h : Value.okWide P W r base t (.slice (some x) len cap)) : ∃ B off, x = ⟨B, off, none⟩ ∧ B < W.heap.size := by
  simp only [Value.okWide, hu, Cell.okWide, Cell.ok, World.has] at h
  obtain ⟨_, _, _, hs, row, cells, hsh, _⟩ := h
  obtain ⟨B, off, spot⟩ := x
  simp only at hs hsh
  subst hs
  refine ⟨B, off, rfl, ?_⟩
  rcases Nat.lt_or_ge B W.heap.size with h | h
  · exact h
  · simp [World.shape?, Array.getElem?_eq_none h] at hsh
/-- An argument that is a slice, in the abstract heap. -/
theorem slice_arg {P : Program} {W : World} {ρ : PM} {h : Heap} (H : HR P W.heap.size W ρ h W) {t e : TypeId} {sz : Nat} {l : List Value} {a : Option Addr} {len cap : Nat} {r : Reach} {base : Nat} (hu : P.underlying t = some (.slice e)) (hok : Value.okWide P W r base t (.slice a len cap))
    (hl : len ≤ cap) (h0 : a = none → len = 0 ∧ cap = 0) (hc : ∀ x, a = some x → ∀ j v, l[j]? = some v → W.cell? (x.add j) = some v) :
    ∃ ρ' x bs, HR P W.heap.size W ρ' (h ++ bs) W ∧ Ext ρ ρ' ∧ RV ρ' W x (.slice a len cap) ∧ ((x = .s (.slice none 0 0) ∧ bs = [] ∧ len = 0) ∨ (x = .sl h.length 0 0 len sz ∧ bs = [⟨0, e, sz, false, l.map .s⟩])) := by
  cases a with
  | none =>
    obtain ⟨rfl, rfl⟩ := h0 rfl
    exact ⟨ρ, .s (.slice none 0 0), [], by simpa using H, Ext.refl _, rfl, Or.inl ⟨rfl, rfl, rfl⟩⟩
  | some x =>
    obtain ⟨B, off, rfl, hB⟩ := okWide_place hu hok
    obtain ⟨H', hx⟩ := H.arg B off e sz (l.map .s) hB (by
      intro j x hj
      rw [List.getElem?_map, Option.map_eq_some_iff] at hj
      obtain ⟨v, hv, rfl⟩ := hj
      refine ⟨v, ?_, rfl⟩
      have := hc _ rfl j v hv
      unfold Addr.add at this
      split at this
      · rename_i h0; subst h0; exact this
      · exact this)
    refine ⟨_, .sl h.length 0 0 len sz, _, H', hx, ⟨_, cap, _, ⟨upd_same _ _ _ _, rfl⟩, rfl, hl, Or.inr rfl, fun h => by cases h⟩, Or.inr ⟨rfl, rfl⟩⟩
end Go.Proofs.Ytpmoellbfgcefaa.AS
end
