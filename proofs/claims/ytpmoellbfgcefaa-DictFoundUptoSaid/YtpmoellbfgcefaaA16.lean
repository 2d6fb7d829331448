/- Of our own: an abstract machine beside the model, its soundness, and walks of the program in it. -/
import Derived.Test.YtpmoellbfgcefaaA15
import Derived.Test.YtpmoellbfgcefaaA12
set_option linter.unusedSimpArgs false
set_option linter.unusedVariables false
section
set_option autoImplicit false
set_option maxRecDepth 100000
set_option maxHeartbeats 2000000
set_option linter.unusedSimpArgs false
namespace Go.Proofs.Ytpmoellbfgcefaa.AS
open Go Go.Proofs Go.RowKit Go.Proofs.Ytpmoellbfgcefaa.AS.V

theorem wrF_len : ∀ (E : List (Int × ByteArray)) (nx : Int), (∀ x ∈ E, x.2.size ≤ 70368744177664) → (wrF E nx).length ≤ 20 * E.length
  | [], _, _ => by simp [wrF]
  | x :: l, nx, hz => by
    have h1 := leb_length_le (n := IntKind.u64.wrap (x.1 - nx)) (by simp [IntKind.wrap, IntKind.bits, IntKind.signed]; omega) (by simp [IntKind.wrap, IntKind.bits, IntKind.signed]; omega)
    have h0 := hz x (by simp)
    have h2 := leb_length_le (n := (x.2.size : Int)) (by omega) (by omega)
    have h3 := wrF_len l (IntKind.u64.wrap (x.1 + 1)) (fun y hy => hz y (by simp [hy]))
    simp only [wrF, List.length_append, List.length_cons]
    omega
theorem dsz_mem : ∀ (E : List (Int × ByteArray)) (x : Int × ByteArray), x ∈ E → x.2.size ≤ dsz E
  | y :: l, x, h => by
    rcases List.mem_cons.mp h with rfl | h
    · simp [dsz]
    · have := dsz_mem l x h
      simp [dsz]; omega
theorem w32_loop {T : FuncId → Option AFunc} (hT : T 58 = prepFn Try.prog 58) (g : Heap) (b0 v0 o0 n : Nat) (E : List (Int × ByteArray)) (hb0 : b0 < g.length) (hA : rowOf g (.sl b0 v0 o0 n 2) = some E) (hn : n ≤ 4611686018427387903) (a1 a2 a3 a4 a8 a10 a11 a12 a13 a14 a15 a16 a17 a18 a19 a20 a21 a22 a23 a24 a25 a26 a27 a28 a29 a30 a31 a32 a33 a34 a61 a62 a63 a64 : AV) :
    ∀ (k j : Nat), j + k = n → ∀ (h : Heap) (b d : AV) (nx : Int) (B D : List Int) (a9 : AV), B.length + 20 * k ≤ 140737488200000 → D.length + dsz (E.drop j) ≤ 70368744177664 → InvW g h b d B D →
    ∃ H b' d' nx' a9', InvW g H b' d' (B ++ wrF (E.drop j) nx) (D ++ dat (E.drop j)) ∧ Run Try.prog T (.loop fg32b body32b) (fr32b (.sl b0 v0 o0 n 2) b d nx n j a1 a2 a3 a4 a8 a9 a10 a11 a12 a13 a14 a15 a16 a17 a18 a19 a20 a21 a22 a23 a24 a25 a26 a27 a28 a29 a30 a31 a32 a33 a34 a61 a62 a63 a64) h (.exit 2, (fr32b (.sl b0 v0 o0 n 2) b' d' nx' n n a1 a2 a3 a4 a8 a9' a10 a11 a12 a13 a14 a15 a16 a17 a18 a19 a20 a21 a22 a23 a24 a25 a26 a27 a28 a29 a30 a31 a32 a33 a34 a61 a62 a63 a64).set 38 (.s (.bool false)), H) := by
  have hn1 : E.length = n := (rowOf_sl hA).choose_spec.choose_spec.choose_spec.choose_spec.2.2.2
  have hfg : ∀ (b d : AV) (nx j : Int) (a9 : AV), forget fg32b (fr32b (.sl b0 v0 o0 n 2) b d nx n j a1 a2 a3 a4 a8 a9 a10 a11 a12 a13 a14 a15 a16 a17 a18 a19 a20 a21 a22 a23 a24 a25 a26 a27 a28 a29 a30 a31 a32 a33 a34 a61 a62 a63 a64) = fr32b (.sl b0 v0 o0 n 2) b d nx n j a1 a2 a3 a4 a8 a9 a10 a11 a12 a13 a14 a15 a16 a17 a18 a19 a20 a21 a22 a23 a24 a25 a26 a27 a28 a29 a30 a31 a32 a33 a34 a61 a62 a63 a64 := fun b d nx j a9 => by simp [forget, fg32b, lp32b, tl32, c32, fr32b]
  intro k
  induction k with
  | zero =>
    intro j hd h b d nx B D a9 hB hD hI
    obtain rfl : j = n := by omega
    rw [List.drop_eq_nil_of_le (by omega)]
    refine ⟨h, b, d, nx, a9, by simpa [wrF, dat] using hI, Run.loop_end_f (hfg _ _ _ _ _) (by simp) (w32_end (T := T) _ b d nx j j (by omega) h a1 a2 a3 a4 a8 a9 a10 a11 a12 a13 a14 a15 a16 a17 a18 a19 a20 a21 a22 a23 a24 a25 a26 a27 a28 a29 a30 a31 a32 a33 a34 a61 a62 a63 a64)⟩
  | succ k ih =>
    intro j hd h b d nx B D a9 hB hD hI
    have hj : j < E.length := by omega
    rw [List.drop_eq_getElem_cons hj] at hD ⊢
    simp only [dsz] at hD
    obtain ⟨H, b', d', a9', tm', x1, x2, x3⟩ := w32_one (T := T) hT g h b0 v0 o0 n E hb0 hA hn j E[j] (List.getElem?_eq_getElem hj) (by omega) b d nx B D (by omega) (by omega) hI a1 a2 a3 a4 a8 a9 a10 a11 a12 a13 a14 a15 a16 a17 a18 a19 a20 a21 a22 a23 a24 a25 a26 a27 a28 a29 a30 a31 a32 a33 a34 a61 a62 a63 a64
    have h1 := leb_length_le (n := IntKind.u64.wrap (E[j].1 - nx)) (by simp [IntKind.wrap, IntKind.bits, IntKind.signed]; omega) (by simp [IntKind.wrap, IntKind.bits, IntKind.signed]; omega)
    have h2 := leb_length_le (n := (E[j].2.size : Int)) (by omega) (by omega)
    obtain ⟨G, b2, d2, nx2, a92, y1, y2⟩ := ih (j + 1) (by omega) H b' d' (IntKind.u64.wrap (E[j].1 + 1)) _ _ a9' (by simp only [List.length_append]; omega) (by simp only [List.length_append, bytesOf_length]; omega) x1
    refine ⟨G, b2, d2, nx2, a92, ?_, Run.loop_go (hfg _ _ _ _ _) x3 x2 y2⟩
    simp only [wrF, dat]
    simpa only [List.append_assoc] using y1

noncomputable def hkWrite : List AV → Heap → Option (AV × Heap)
  | [a], h => match rowOf h a with
    | some E => if E.length ≤ 4611686018427387903 ∧ dsz E ≤ 70368744177664 then some (.tp [.s (.string (wrS E).1), .s (.int .i64 (wrS E).2)], h) else none
    | none => none
  | _, _ => none
theorem o32_all {T : FuncId → Option AFunc} (h : Heap) (a : AV) (E : List (Int × ByteArray)) (hA : rowOf h a = some E) (hn : E.length ≤ 4611686018427387903) (a1 a5 a6 a7 a8 a9 : AV) (R : List AV) :
    (okOrd E = true → ∃ i, Run Try.prog T (.loop fg32 body32) (fr32 a 1 a1 a5 a6 a7 a8 a9 R) h (.exit 0, ((((fr32 a i a1 a5 a6 a7 a8 a9 R).set 10 (.s (.int .i64 i))).set 11 a).set 12 (.s (.int .i64 E.length))).set 13 (.s (.bool false)), h)) ∧
    (okOrd E = false → ∃ tm', tm'[2]? = some (.s (.string ⟨#[]⟩)) ∧ tm'[3]? = some (.s (.int .i64 12)) ∧ Run Try.prog T (.loop fg32 body32) (fr32 a 1 a1 a5 a6 a7 a8 a9 R) h (.ret, tm', h)) := by
  have hl := s30_len hA
  have hfg : ∀ (i : Int), forget fg32 (fr32 a i a1 a5 a6 a7 a8 a9 R) = fr32 a i a1 a5 a6 a7 a8 a9 R := fun i => by simp [forget, fg32, lp32, c32, fr32]
  cases E with
  | nil => exact ⟨fun _ => ⟨1, Run.loop_end_f (hfg _) (by simp) (o32_end (T := T) a _ 1 hl (by simp) h a1 a5 a6 a7 a8 a9 R)⟩, fun h => absurd h (by simp [okOrd])⟩
  | cons x E =>
    unfold rowOf at hA
    split at hA
    · cases hA
    · rename_i b v o n
      have hA : rowOf h (.sl b v o n 2) = some (x :: E) := hA
      have hn1 : (x :: E).length = n := (rowOf_sl hA).choose_spec.choose_spec.choose_spec.choose_spec.2.2.2
      simp only [List.length_cons] at hn1 hn
      obtain ⟨i1, i2⟩ := o32_loop (T := T) h b v o n (x :: E) hA (by omega) a1 a5 a6 a7 a8 a9 R (n - 1) 0 (by omega)
      refine ⟨fun he => ⟨n, ?_⟩, i2⟩
      have := i1 he
      rw [List.length_cons, hn1]
      exact this
    · cases hA
theorem write_run {T : FuncId → Option AFunc} (hT : T 32 = prepFn Try.prog 32) (h58 : T 58 = prepFn Try.prog 58) (h : Heap) (a : AV) (E : List (Int × ByteArray)) (hA : rowOf h a = some E) (hn : E.length ≤ 4611686018427387903) (hd : dsz E ≤ 70368744177664) :
    ∃ H, FRun Try.prog T 32 [a] h (.tp [.s (.string (wrS E).1), .s (.int .i64 (wrS E).2)], H) ∧ (∀ c, c < h.length → bk H c = bk h c) := by
  have hla := s30_len hA
  obtain ⟨o1, o2⟩ := o32_all (T := T) h a E hA hn (.s undef) (.s undef) (.s undef) (.s undef) (.s undef) (.s undef) [(.s undef), (.s undef), (.s undef), (.s undef), (.s undef), (.s undef), (.s undef), (.s undef), (.s undef), (.s undef), (.s undef), (.s undef), (.s undef), (.s undef), (.s undef), (.s undef), (.s undef), (.s undef), (.s undef), (.s undef), (.s undef), (.s undef), (.s undef), (.s undef), (.s undef), (.s undef), (.s undef), (.s undef), (.s undef), (.s undef), (.s undef), (.s undef), (.s undef), (.s undef), (.s undef), (.s undef), (.s undef)]
  suffices hs : ∃ H tm', Run Try.prog T c32 ([a] ++ List.replicate 64 (.s undef)) h (.ret, tm', H) ∧ (∀ c, c < h.length → bk H c = bk h c) ∧ tm'[2]? = some (.s (.string (wrS E).1)) ∧ tm'[3]? = some (.s (.int .i64 (wrS E).2)) by
    obtain ⟨H, tm', h1, h2, h3, h4⟩ := hs
    refine ⟨H, FRun.of (e := .ret) (tm' := tm') (hT.trans p32) h1 (Or.inl rfl) (by simp [resAs, resA, h3, h4, tupA]), h2⟩
  have hpre : ∀ {r : Res}, Run Try.prog T (.seq (.block 0 (.loop fg32 body32)) tl32) (fr32 a 1 (.s undef) (.s undef) (.s undef) (.s undef) (.s undef) (.s undef) [(.s undef), (.s undef), (.s undef), (.s undef), (.s undef), (.s undef), (.s undef), (.s undef), (.s undef), (.s undef), (.s undef), (.s undef), (.s undef), (.s undef), (.s undef), (.s undef), (.s undef), (.s undef), (.s undef), (.s undef), (.s undef), (.s undef), (.s undef), (.s undef), (.s undef), (.s undef), (.s undef), (.s undef), (.s undef), (.s undef), (.s undef), (.s undef), (.s undef), (.s undef), (.s undef), (.s undef), (.s undef)]) h r → Run Try.prog T c32 ([a] ++ List.replicate 64 (.s undef)) h r := by
    intro r H
    apply Run.seq
    · apply Run.step 20; intro k j
      simp
      (first | rfl | (constructor <;> rfl))
    · apply Run.seq_seq
      · apply Run.step 20; intro k j
        simp
        (first | rfl | (constructor <;> rfl))
      · exact Run.seq_block_forget (by simp [forget, fg32, lp32, c32, fr32]) H
  by_cases ho : okOrd E = true
  · obtain ⟨i, hi⟩ := o1 ho
    by_cases hm : 65536 < E.length
    · have hw : wrS E = (⟨#[]⟩, 15) := by simp [wrS, ho, hm]
      rw [hw]
      have hm' : (65536 : Int) < (E.length : Int) := by omega
      refine ⟨h, ?qtm, hpre (Run.seq (Run.block_exit hi) (Run.seq_stop (by simp) ?qrun)), fun _ _ => rfl, ?q2, ?q3⟩
      case qrun =>
        apply Run.step 30; intro k j
        simp [c32, tl32, fr32, hla, eq_true hm']
        (first | rfl | (constructor <;> rfl))
      case q2 => rfl
      case q3 => rfl
    · have hw : wrS E = (strOfNums ((leb E.length ++ wrF E 0) ++ dat E), 0) := by simp [wrS, ho, hm]
      rw [hw]
      have hm' : ¬ (65536 : Int) < (E.length : Int) := by omega
      have hc0 := leb_length_le (n := (E.length : Int)) (by omega) (by omega)
      have we : IntKind.u64.wrap (E.length : Int) = (E.length : Int) := wu64 (by omega) (by omega)
      obtain ⟨H1, b1, f1, y1, r1⟩ := app_run (T := T) h58 (E.length : Int) (by omega) (by omega) h (.s (.slice none 0 0)) [] (by simp) (Or.inl ⟨rfl, rfl⟩)
      rw [List.nil_append] at r1
      have I1 : InvW h H1 b1 (.s (.slice none 0 0)) (leb E.length) [] :=
        ⟨fun c hc => y1.keep c hc (by simp [blkOf]), y1.len, r1, Or.inl ⟨rfl, rfl⟩, fun c hc => (y1.place c hc).elim id (fun h => by simp [blkOf] at h), fun c hc => by simp [blkOf] at hc, fun c _ h => by simp [blkOf] at h⟩
      have hsz : ∀ x ∈ E, x.2.size ≤ 70368744177664 := fun x hx => Nat.le_trans (dsz_mem E x hx) hd
      have hlen := wrF_len E 0 hsz
      have L2 : ∀ (a1 a2 a3 a4 a8 a9 a10 a11 a12 a13 a14 a15 a16 a17 a18 a19 a20 a21 a22 a23 a24 a25 a26 a27 a28 a29 a30 a31 a32 a33 a34 a61 a62 a63 a64 : AV), ∃ H b' d' nx' a9', InvW h H b' d' (leb E.length ++ wrF E 0) (dat E) ∧ Run Try.prog T (.loop fg32b body32b) (fr32b a b1 (.s (.slice none 0 0)) 0 E.length 0 a1 a2 a3 a4 a8 a9 a10 a11 a12 a13 a14 a15 a16 a17 a18 a19 a20 a21 a22 a23 a24 a25 a26 a27 a28 a29 a30 a31 a32 a33 a34 a61 a62 a63 a64) H1 (.exit 2, (fr32b a b' d' nx' E.length E.length a1 a2 a3 a4 a8 a9' a10 a11 a12 a13 a14 a15 a16 a17 a18 a19 a20 a21 a22 a23 a24 a25 a26 a27 a28 a29 a30 a31 a32 a33 a34 a61 a62 a63 a64).set 38 (.s (.bool false)), H) := by
        intro a1 a2 a3 a4 a8 a9 a10 a11 a12 a13 a14 a15 a16 a17 a18 a19 a20 a21 a22 a23 a24 a25 a26 a27 a28 a29 a30 a31 a32 a33 a34 a61 a62 a63 a64
        have hfg : ∀ (b d : AV) (nx j : Int) (a9 : AV), forget fg32b (fr32b a b d nx E.length j a1 a2 a3 a4 a8 a9 a10 a11 a12 a13 a14 a15 a16 a17 a18 a19 a20 a21 a22 a23 a24 a25 a26 a27 a28 a29 a30 a31 a32 a33 a34 a61 a62 a63 a64) = fr32b a b d nx E.length j a1 a2 a3 a4 a8 a9 a10 a11 a12 a13 a14 a15 a16 a17 a18 a19 a20 a21 a22 a23 a24 a25 a26 a27 a28 a29 a30 a31 a32 a33 a34 a61 a62 a63 a64 := fun b d nx j a9 => by simp [forget, fg32b, lp32b, tl32, c32, fr32b]
        cases hE : E with
        | nil =>
          subst hE
          exact ⟨H1, b1, _, 0, a9, by simpa [wrF, dat] using I1, Run.loop_end_f (hfg _ _ _ _ _) (by simp) (w32_end (T := T) a b1 _ 0 0 0 (by omega) H1 a1 a2 a3 a4 a8 a9 a10 a11 a12 a13 a14 a15 a16 a17 a18 a19 a20 a21 a22 a23 a24 a25 a26 a27 a28 a29 a30 a31 a32 a33 a34 a61 a62 a63 a64)⟩
        | cons x E' =>
          rw [← hE]
          unfold rowOf at hA
          split at hA
          · cases hA; cases hE
          · rename_i b v o n
            have hA : rowOf h (.sl b v o n 2) = some E := hA
            obtain ⟨_, _, _, _, hbk, _, _, hn1⟩ := rowOf_sl hA
            obtain ⟨H, b', d', nx', a9', z1, z2⟩ := w32_loop (T := T) h58 h b v o n E (bk_lt hbk) hA (by omega) a1 a2 a3 a4 a8 a10 a11 a12 a13 a14 a15 a16 a17 a18 a19 a20 a21 a22 a23 a24 a25 a26 a27 a28 a29 a30 a31 a32 a33 a34 a61 a62 a63 a64 n 0 (by omega) H1 b1 (.s (.slice none 0 0)) 0 (leb E.length) [] a9 (by omega) (by simp; omega) I1
            refine ⟨H, b', d', nx', a9', by simpa using z1, ?_⟩
            rw [hn1]
            exact z2
          · cases hA
      obtain ⟨J1, g1⟩ := f1.get
      obtain ⟨H2, b2, d2, nx2, a92, I2, R2⟩ := L2 (.s undef) .any .any (.s (.int .i64 i)) (.s undef) (.s undef) (.s (.int .i64 i)) a (.s (.int .i64 E.length)) (.s (.bool false)) .any .any .any .any .any .any .any .any .any .any .any .any .any .any a (.s (.int .i64 E.length)) (.s (.bool false)) a (.s (.int .i64 E.length)) (.s (.int .u64 E.length)) b1 (.s undef) (.s undef) (.s undef) (.s undef)
      obtain ⟨H3, b3, f3, y3, r3⟩ := ap_row I2.rb (dat E) (by rw [List.length_append, dat_len]; omega)
      have s3 := src_row I2.rd
      have q3 := b2_row r3
      have hold : ∀ c, c < h.length → bk H3 c = bk h c := fun c hc => by
        rw [y3.keep c (Nat.lt_of_lt_of_le hc I2.len) (fun e => by have := I2.pb c e; omega), I2.old c hc]
      refine ⟨H3, ?qtm2, hpre (Run.seq (Run.block_exit hi) ?qrun2), hold, ?q22, ?q32⟩
      case qrun2 =>
        apply Run.seq
        · apply Run.step 30; intro k j
          simp [c32, tl32, fr32, hla, eq_false hm']
          (first | rfl | (constructor <;> rfl))
        · apply Run.seq
          · apply Run.stepJ 30 J1; intro k j hj
            simp [hla, we, g1 j hj]
            (first | rfl | (constructor <;> rfl))
          · apply Run.seq
            · apply Run.step 30; intro k j
              simp
              (first | rfl | (constructor <;> rfl))
            · apply Run.seq
              · apply Run.step 30; intro k j
                simp
                (first | rfl | (constructor <;> rfl))
              · apply Run.seq_seq
                · apply Run.step 30; intro k j
                  simp [hla]
                  (first | rfl | (constructor <;> rfl))
                · apply Run.seq
                  · apply Run.block_exit
                    refine Run.loop_go' R2 ?_
                    simp [forget, fg32b, lp32b, tl32, c32, fr32b]
                  · apply Run.seq
                    · apply Run.step 30; intro k j
                      simp [fr32b, s3, f3, q3]
                      (first | rfl | (constructor <;> rfl))
                    · apply Run.step 30; intro k j
                      simp
                      (first | rfl | (constructor <;> rfl))
      case q22 => simp
      case q32 => rfl
  · obtain ⟨tm', h1, h2, h3⟩ := o2 (by simpa using ho)
    have hw : wrS E = (⟨#[]⟩, 12) := by simp [wrS, ho]
    rw [hw]
    exact ⟨h, tm', hpre (Run.seq_stop (by simp) (Run.block_id (by simp) h3)), fun _ _ => rfl, h1, h2⟩
theorem hkWrite_ok {T : FuncId → Option AFunc} (hm : Try.prog.follows .mixedOrders = true) (hT : TabOK Try.prog T) (hF : T 32 = prepFn Try.prog 32) (h58 : T 58 = prepFn Try.prog 58) (hc : callable Try.prog 32 = true) : HookSound Try.prog 32 hkWrite := by
  refine hookOf hm hT hc fun l h r he => ?_
  unfold hkWrite at he
  split at he
  · rename_i a
    split at he
    · rename_i E hA
      split at he
      · rename_i hn
        cases he
        obtain ⟨H, h1, h2⟩ := write_run hF h58 h a E hA hn.1 hn.2
        exact ⟨_, h1, Drops.flat (grows_of h2) rfl⟩
      · cases he
    · cases he
  · cases he
theorem call32 : callable Try.prog 32 = true := by kernel_rfl
noncomputable def TW : FuncId → Option AFunc := over TD 32 hkWrite
theorem TW_ok : TabOK Try.prog TW := over_ok TD_ok (hkWrite_ok hm TD_ok rfl rfl call32)
end Go.Proofs.Ytpmoellbfgcefaa.AS
end
section
set_option autoImplicit false
set_option maxRecDepth 100000
set_option linter.unusedSimpArgs false
namespace Go.Proofs.Ytpmoellbfgcefaa.AS
open Go Go.Proofs Go.RowKit Go.Proofs.Ytpmoellbfgcefaa.AS.V

def wrP : List (Int × ByteArray) → Int → ByteArray
  | [], _ => strOfNums []
  | x :: l, nx => (puts (IntKind.u64.wrap (x.1 - nx)) ++ puts x.2.size) ++ wrP l (IntKind.u64.wrap (x.1 + 1))
def datP : List (Int × ByteArray) → ByteArray
  | [] => strOfNums []
  | x :: l => x.2 ++ datP l
theorem wrF_P : ∀ (E : List (Int × ByteArray)) (nx : Int), strOfNums (wrF E nx) = wrP E nx
  | [], _ => rfl
  | x :: l, nx => by simp only [wrF, wrP, strOf_append, wrF_P l]; rfl
theorem dat_P : ∀ (E : List (Int × ByteArray)), strOfNums (dat E) = datP E
  | [] => rfl
  | x :: l => by simp only [dat, datP, strOf_append, dat_P l, strOf_bytesOf]
theorem nil_app (s : ByteArray) : strOfNums [] ++ s = s := bytesOf_inj (by rw [bytesOf_append]; simp [bytesOf, strOfNums])
theorem app_as (a b c : ByteArray) : (a ++ b) ++ c = a ++ (b ++ c) := bytesOf_inj (by simp only [bytesOf_append, List.append_assoc])
theorem app_size (a b : ByteArray) : (a ++ b).size = a.size + b.size := by
  rw [← bytesOf_length, bytesOf_append, List.length_append, bytesOf_length, bytesOf_length]
theorem datP_size : ∀ E, (datP E).size = dsz E
  | [] => by simp [datP, dsz, ← bytesOf_length, bytesOf, strOfNums]
  | x :: l => by simp only [datP, dsz, app_size, datP_size l]
theorem wrS_ok {E : List (Int × ByteArray)} (ho : okOrd E = true) (hn : E.length ≤ 65536) : wrS E = (puts E.length ++ (wrP E 0 ++ datP E), 0) := by
  have : ¬ 65536 < E.length := by omega
  simp only [wrS, ho, this, Bool.true_eq_false, if_false, strOf_append, wrF_P, dat_P, puts, app_as]
theorem okOrd_asc : ∀ E : List (Int × ByteArray), okOrd E = true ↔ Asc E
  | [] => by simp [okOrd]
  | [x] => by simp [okOrd]
  | x :: y :: l => by
    have := okOrd_asc (y :: l)
    simp only [okOrd, Bool.and_eq_true, decide_eq_true_eq, this, Asc, List.pairwise_cons, List.mem_cons]
    constructor
    · rintro ⟨h1, h2, h3⟩
      refine ⟨?_, h2, h3⟩
      rintro z (rfl | hz)
      · exact h1
      · exact Int.lt_trans h1 (h2 z hz)
    · rintro ⟨h1, h2, h3⟩
      exact ⟨h1 y (Or.inl rfl), h2, h3⟩
/-- What comes behind the entries L. -/
def nxt (L : List (Int × Int)) : Int := if L = [] then 0 else IntKind.u64.wrap ((L.getLastD (0, 0)).1 + 1)
theorem nxt_snoc (L : List (Int × Int)) (x : Int × Int) : nxt (L ++ [x]) = IntKind.u64.wrap (x.1 + 1) := by simp [nxt]
theorem numS0 (s : ByteArray) : numS s 0 = gets s := if_pos rfl
theorem last_lt {L : List (Int × Int)} {k : Int} (hL : L ≠ []) (h : ∀ x ∈ L, x.1 < k) : (L.getLastD (0, 0)).1 < k := by
  rw [List.getLastD_eq_getLast?, List.getLast?_eq_some_getLast hL]
  exact h _ (List.getLast_mem hL)
theorem last_ge {L : List (Int × Int)} (hL : L ≠ []) (h : ∀ x ∈ L, 0 ≤ x.1 ∧ x.1 ≤ 18446744073709551615) : 0 ≤ (L.getLastD (0, 0)).1 ∧ (L.getLastD (0, 0)).1 ≤ 18446744073709551615 := by
  rw [List.getLastD_eq_getLast?, List.getLast?_eq_some_getLast hL]
  exact h _ (List.getLast_mem hL)
theorem slot1_put (L : List (Int × Int)) (hr : ∀ x ∈ L, 0 ≤ x.1 ∧ x.1 ≤ 18446744073709551615) (k : Int) (z : Nat) (hk : 0 ≤ k ∧ k ≤ 18446744073709551615) (hz : z ≤ 9223372036854775807) (hlt : ∀ x ∈ L, x.1 < k) (t : ByteArray) :
    slot1 L ((puts (IntKind.u64.wrap (k - nxt L)) ++ puts z) ++ t) = ((k, (z : Int)), t, 0) := by
  have hg := wrap_range (k - nxt L)
  have e1 := gets_puts hg.1 hg.2 (puts z ++ t)
  have e2 := gets_puts (n := (z : Int)) (by omega) (by omega) t
  by_cases hL : L = []
  · subst hL
    have e3 : IntKind.u64.wrap (k - nxt []) = k := by rw [nxt, if_pos rfl, Int.sub_zero]; exact wu64 hk.1 hk.2
    rw [e3] at e1 ⊢
    simp [slot1, app_as, numS0, e1, e2]
  · have h1 := last_lt hL hlt
    have h2 := last_ge hL hr
    simp only [slot1, app_as, numS0, e1]
    simp only [nxt, if_neg hL] at hg ⊢
    rw [wu64 (n := (L.getLastD (0, 0)).1 + 1) (by omega) (by omega)] at hg ⊢
    rw [wu64 (n := k - ((L.getLastD (0, 0)).1 + 1)) (by omega) (by omega)]
    rw [if_pos ⟨hL, trivial⟩, if_neg (by omega), numS0, e2, show k - ((L.getLastD (0, 0)).1 + 1) + ((L.getLastD (0, 0)).1 + 1) = k by omega, wu64 hk.1 hk.2]
theorem slotsF_put : ∀ (E : List (Int × ByteArray)) (L : List (Int × Int)) (t : ByteArray), Asc E → (∀ x ∈ E, 0 ≤ x.1 ∧ x.1 ≤ 18446744073709551615) → (∀ x ∈ E, x.2.size ≤ 9223372036854775807) → (∀ x ∈ L, 0 ≤ x.1 ∧ x.1 ≤ 18446744073709551615) → (∀ x ∈ L, ∀ y ∈ E, x.1 < y.1) →
    slotsF E.length L (wrP E (nxt L) ++ t) 0 = (L ++ E.map (fun x => (x.1, (x.2.size : Int))), t, 0)
  | [], L, t, _, _, _, _, _ => by simp [slotsF, wrP, nil_app]
  | x :: E, L, t, ha, hk, hz, hr, hl => by
    have hx := hk x (by simp)
    have e := slot1_put L hr x.1 x.2.size hx (hz x (by simp)) (fun y hy => hl y hy x (by simp)) (wrP E (IntKind.u64.wrap (x.1 + 1)) ++ t)
    have ih := slotsF_put E (L ++ [(x.1, (x.2.size : Int))]) t (List.pairwise_cons.1 ha).2 (fun y hy => hk y (by simp [hy])) (fun y hy => hz y (by simp [hy]))
      (fun y hy => by rcases List.mem_append.1 hy with h | h; exact hr y h; simp at h; subst h; exact hx)
      (fun y hy w hw => by rcases List.mem_append.1 hy with h | h; exact hl y h w (by simp [hw]); simp at h; subst h; exact (List.pairwise_cons.1 ha).1 w hw)
    rw [nxt_snoc] at ih
    simp only [List.length_cons, slotsF, ne_eq, not_true_eq_false, if_false, wrP]
    rw [app_as (puts _ ++ puts _), e, ih]
    simp
theorem datF_put : ∀ (E E0 : List (Int × ByteArray)) (s : ByteArray), datF (E.map fun x => (x.1, (x.2.size : Int))) E0 (datP E ++ s) = some (E0 ++ E, s)
  | [], E0, s => by simp [datF, datP, nil_app]
  | x :: E, E0, s => by
    have e0 : (datP (x :: E) ++ s) = x.2 ++ (datP E ++ s) := by simp only [datP, app_as]
    have hl : ¬ (((x.2 ++ (datP E ++ s)).size : Nat) : Int) < (x.2.size : Int) := by rw [app_size]; omega
    have hle : x.2.size ≤ (x.2 ++ (datP E ++ s)).size := by rw [app_size]; omega
    have e1 : (x.2 ++ (datP E ++ s)).extract 0 x.2.size = x.2 := bytesOf_inj (by
      rw [bytesOf_extract _ _ _ hle, bytesOf_append, List.drop_zero, List.take_append_of_le_length (by rw [bytesOf_length]; exact Nat.le_refl _), List.take_of_length_le (by rw [bytesOf_length]; exact Nat.le_refl _)])
    have e2 : (x.2 ++ (datP E ++ s)).extract x.2.size (x.2 ++ (datP E ++ s)).size = datP E ++ s := bytesOf_inj (by
      rw [bytesOf_extract _ _ _ (Nat.le_refl _), List.take_of_length_le (by rw [bytesOf_length]; exact Nat.le_refl _), bytesOf_append, List.drop_left' (bytesOf_length _)])
    have ih := datF_put E (E0 ++ [x]) s
    rw [e0]
    simp only [List.map_cons, datF, hl, if_false, dat1, Int.toNat_natCast, e1, e2]
    rw [ih]; simp
/-- What is written is read. -/
theorem read_write {E : List (Int × ByteArray)} (ho : okOrd E = true) (hn : E.length ≤ 65536) (hk : ∀ x ∈ E, 0 ≤ x.1 ∧ x.1 ≤ 18446744073709551615) (hz : ∀ x ∈ E, x.2.size ≤ 9223372036854775807) (s : ByteArray) : readS ((wrS E).1 ++ s) = (E, s, 0) := by
  rw [wrS_ok ho hn]
  have e1 := gets_puts (n := (E.length : Int)) (by omega) (by omega) ((wrP E 0 ++ datP E) ++ s)
  have hs : slotsR ((puts E.length ++ (wrP E 0 ++ datP E)) ++ s) = (E.map (fun x => (x.1, (x.2.size : Int))), datP E ++ s, 0) := by
    have := slotsF_put E [] (datP E ++ s) ((okOrd_asc E).1 ho) hk hz (by simp) (by simp)
    rw [nxt, if_pos rfl, List.nil_append] at this
    simp only [slotsR, numS0, app_as] at e1 ⊢
    rw [e1]
    simp only [Int.toNat_natCast]
    rw [if_neg (by omega), this]
  simp only [readS, hs, ne_eq, not_true_eq_false, if_false]
  have := datF_put E [] s
  rw [List.nil_append] at this
  rw [this]
def wrKs : List (Int × Int) → Int → ByteArray
  | [], _ => strOfNums []
  | x :: l, nx => (puts (IntKind.u64.wrap (x.1 - nx)) ++ puts x.2) ++ wrKs l (IntKind.u64.wrap (x.1 + 1))
theorem wrKs_P : ∀ (E : List (Int × ByteArray)) (nx : Int), wrKs (E.map fun x => (x.1, (x.2.size : Int))) nx = wrP E nx
  | [], _ => rfl
  | x :: l, nx => by simp only [List.map_cons, wrKs, wrP, wrKs_P l]
theorem slot1_got {L : List (Int × Int)} (hr : ∀ x ∈ L, 0 ≤ x.1 ∧ x.1 ≤ 18446744073709551615) {s : ByteArray} (hw : (slot1 L s).2.2 = 0) :
    s = (puts (IntKind.u64.wrap ((slot1 L s).1.1 - nxt L)) ++ puts (slot1 L s).1.2) ++ (slot1 L s).2.1 ∧ 0 ≤ (slot1 L s).1.2 := by
  obtain ⟨n, r, w, hg⟩ : ∃ n r w, gets s = (n, r, w) := ⟨_, _, _, rfl⟩
  by_cases hL : L = []
  · subst hL
    simp only [slot1, numS0, hg, nxt] at hw ⊢
    simp only [ne_eq, not_true_eq_false, false_and, if_false, if_true, Int.sub_zero] at hw ⊢
    by_cases h0 : w = 0
    · subst h0
      obtain ⟨rfl, h1, h2⟩ := gets_ok hg
      obtain ⟨n2, r2, w2, hg2⟩ : ∃ n r1 w, gets r = (n, r1, w) := ⟨_, _, _, Prod.ext rfl (Prod.ext rfl rfl)⟩
      simp only [numS0, hg2] at hw ⊢
      subst hw
      obtain ⟨rfl, h3, h4⟩ := gets_ok hg2
      rw [wu64 h1 h2, app_as]
      exact ⟨rfl, h3⟩
    · rw [numS_e _ h0] at hw
      exact absurd hw h0
  · have h2 := last_ge hL hr
    simp only [slot1, numS0, hg, nxt, if_neg hL] at hw ⊢
    by_cases hc : L ≠ [] ∧ w = 0 ∧ ((L.getLastD (0, 0)).1 = 18446744073709551615 ∨ n > 18446744073709551615 - (L.getLastD (0, 0)).1 - 1)
    · rw [if_pos hc, numS_e _ (by decide)] at hw
      simp at hw
    · rw [if_neg hc] at hw ⊢
      by_cases h0 : w = 0
      · subst h0
        have hc' : ¬ ((L.getLastD (0, 0)).1 = 18446744073709551615 ∨ n > 18446744073709551615 - (L.getLastD (0, 0)).1 - 1) := fun h => hc ⟨hL, rfl, h⟩
        obtain ⟨rfl, h1, h3⟩ := gets_ok hg
        obtain ⟨n2, r2, w2, hg2⟩ : ∃ n r1 w, gets r = (n, r1, w) := ⟨_, _, _, Prod.ext rfl (Prod.ext rfl rfl)⟩
        simp only [numS0, hg2] at hw ⊢
        subst hw
        obtain ⟨rfl, h4, h5⟩ := gets_ok hg2
        rw [if_pos ⟨hL, trivial⟩, wu64 (n := (L.getLastD (0, 0)).1 + 1) (by omega) (by omega), wu64 (n := n + ((L.getLastD (0, 0)).1 + 1)) (by omega) (by omega),
          show n + ((L.getLastD (0, 0)).1 + 1) - ((L.getLastD (0, 0)).1 + 1) = n by omega, wu64 h1 h3, app_as]
        exact ⟨rfl, h4⟩
      · rw [numS_e _ h0] at hw
        exact absurd hw h0
theorem slotsF_got : ∀ (n : Nat) (L : List (Int × Int)) (s : ByteArray), (∀ x ∈ L, 0 ≤ x.1 ∧ x.1 ≤ 18446744073709551615) → (slotsF n L s 0).2.2 = 0 →
    ∃ K, (slotsF n L s 0).1 = L ++ K ∧ K.length = n ∧ (∀ x ∈ K, 0 ≤ x.2) ∧ s = wrKs K (nxt L) ++ (slotsF n L s 0).2.1
  | 0, L, s, _, _ => ⟨[], by simp [slotsF], rfl, by simp, by simp [wrKs, slotsF, nil_app]⟩
  | n + 1, L, s, hr, hw => by
    rw [slotsF, if_neg (by simp)] at hw ⊢
    by_cases h1 : (slot1 L s).2.2 = 0
    · have hs := slot1_got hr h1
      have hk := slot1_key L s
      rw [h1] at hw ⊢
      obtain ⟨K, k1, k2, k3, k4⟩ := slotsF_got n (L ++ [(slot1 L s).1]) (slot1 L s).2.1 (fun x hx => by rcases List.mem_append.1 hx with h | h; exact hr x h; simp at h; subst h; exact hk) hw
      refine ⟨(slot1 L s).1 :: K, by rw [k1]; simp, by simp [k2], fun x hx => ?_, ?_⟩
      · rcases List.mem_cons.1 hx with rfl | hx
        · exact hs.2
        · exact k3 x hx
      · rw [nxt_snoc] at k4
        rw [wrKs, app_as, ← k4]
        exact hs.1
    · rw [slotsF_err _ _ _ h1] at hw
      exact absurd hw h1
theorem datF_got : ∀ (L : List (Int × Int)) (E E' : List (Int × ByteArray)) (r r' : ByteArray), (∀ x ∈ L, 0 ≤ x.2) → datF L E r = some (E', r') → ∃ F, E' = E ++ F ∧ F.map (fun x => (x.1, (x.2.size : Int))) = L ∧ r = datP F ++ r'
  | [], E, E', r, r', _, h => by
    simp only [datF, Option.some.injEq, Prod.mk.injEq] at h
    exact ⟨[], by simp [h.1], rfl, by simp [datP, nil_app, h.2]⟩
  | x :: L, E, E', r, r', hL, h => by
    rw [datF] at h
    split at h
    · cases h
    · rename_i hc
      have hx := hL x (by simp)
      have hle : x.2.toNat ≤ r.size := by omega
      obtain ⟨F, f1, f2, f3⟩ := datF_got L _ E' _ r' (fun y hy => hL y (by simp [hy])) h
      refine ⟨dat1 x r :: F, by rw [f1]; simp, ?_, ?_⟩
      · have : (dat1 x r).2.size = x.2.toNat := by
          rw [← bytesOf_length, dat1, bytesOf_extract _ _ _ hle, List.drop_zero, List.length_take, bytesOf_length]; omega
        simp only [List.map_cons, f2, this]
        congr 1
        ext
        · rfl
        · simp only; omega
      · simp only [datP, app_as, ← f3, dat1]
        apply bytesOf_inj
        rw [bytesOf_append, bytesOf_extract _ _ _ hle, bytesOf_extract _ _ _ (Nat.le_refl _), List.drop_zero, List.take_of_length_le (i := r.size) (by rw [bytesOf_length]; exact Nat.le_refl _), List.take_append_drop]
/-- What is read has its bytes. -/
theorem write_read {s : ByteArray} (hs : s.size ≤ 9223372036854775807) (hw : (readS s).2.2 = 0) : wrS (readS s).1 = ((wrS (readS s).1).1, 0) ∧ (wrS (readS s).1).1 ++ (readS s).2.1 = s ∧ dsz (readS s).1 ≤ s.size := by
  have ha := readS_asc s
  have hl := readS_len hs
  rw [wrS_ok ((okOrd_asc _).2 ha) hl]
  refine ⟨rfl, ?_⟩
  unfold readS at hw hl ⊢
  split at hw
  · rename_i h; exact absurd hw h
  · rename_i h00
    have h0 : (slotsR s).2.2 = 0 := by simpa using h00
    rw [if_neg h00] at hl ⊢
    cases hd : datF (slotsR s).1 [] (slotsR s).2.1 with
    | none => rw [hd] at hw; simp at hw
    | some x =>
      obtain ⟨E, r⟩ := x
      rw [hd] at hl
      simp only at hl ⊢
      clear h00 hw ha
      unfold slotsR at h0 hd
      split at h0
      · simp at h0
      · rename_i hc
        rw [if_neg hc] at hd
        obtain ⟨n, s1, w1, hg⟩ : ∃ n r w, gets s = (n, r, w) := ⟨_, _, _, rfl⟩
        simp only [numS0, hg] at h0 hd hc
        by_cases h1 : w1 = 0
        · subst h1
          obtain ⟨rfl, g1, g2⟩ := gets_ok hg
          obtain ⟨K, k1, k2, k3, k4⟩ := slotsF_got n.toNat [] s1 (by simp) h0
          rw [k1, List.nil_append] at hd
          obtain ⟨F, f1, f2, f3⟩ := datF_got K [] E _ r k3 hd
          rw [List.nil_append] at f1
          subst f1
          have hn : ((E.length : Nat) : Int) = n := by
            have := congrArg List.length f2
            rw [List.length_map] at this
            omega
          rw [f3, ← f2, wrKs_P, nxt, if_pos rfl] at k4
          refine ⟨by rw [hn, k4]; simp only [app_as], ?_⟩
          rw [k4]
          simp only [app_size, datP_size]
          omega
        · rcases gets_err s with h | h | h
          · rw [hg] at h; exact absurd h h1
          · rw [hg] at h; cases h; simp [slotsF] at h0
          · rw [hg] at h; cases h; simp [slotsF] at h0
end Go.Proofs.Ytpmoellbfgcefaa.AS
end
section
set_option autoImplicit false
namespace Go.Proofs.Ytpmoellbfgcefaa.AS
open Go Go.RowKit
/-- Strings joined. -/
theorem bin_addS {P : Program} {t : TypeId} (x y : Operand) (a b : ByteArray) (h : a.size + b.size ≤ 9223372036854775807) : bin2 P .add t x y (some (.s (.string a))) (some (.s (.string b))) = some (.s (.string (a ++ b))) := by
  simp [bin2, toV, eqGuard, binOp, Op.stringOp]
  rw [if_neg (by omega)]
  simp [semv_pure]
end Go.Proofs.Ytpmoellbfgcefaa.AS
end
section
set_option autoImplicit false
set_option maxRecDepth 100000
set_option maxHeartbeats 2000000
set_option linter.unusedSimpArgs false
namespace Go.Proofs.Ytpmoellbfgcefaa.AS
open Go Go.Proofs Go.RowKit Go.Proofs.Ytpmoellbfgcefaa.AS.V

theorem TW_32 : TW 32 = some (.hook hkWrite) := over_same TD 32 hkWrite
theorem TW_33 : TW 33 = some (.hook hkRead) := by kernel_rfl
theorem TW_30 : TW 30 = some (.hook hkSame30) := (over_ne (T := TD) (f := 32) (by decide)).trans TD_30
theorem TW_29 : TW 29 = some (.hook fun l h => (hkYes l).map fun x => (x, h)) := (over_ne (T := TD) (f := 32) (by decide)).trans TD_29
theorem TW_23 : TW 23 = some (.hook hkFind) := (over_ne (T := TD) (f := 32) (by decide)).trans TD_23
theorem TW_25 : TW 25 = some (.hook hkRange) := (over_ne (T := TD) (f := 32) (by decide)).trans TD_25
theorem TW_6 : TW 6 = prepFn Try.prog 6 := by kernel_rfl
theorem TW_7 : TW 7 = prepFn Try.prog 7 := by kernel_rfl
theorem read_err {s : ByteArray} (h : (readS s).2.2 ≠ 0) : (readS s).1 = [] ∧ (readS s).2.1 = ⟨#[]⟩ := by
  unfold readS at h ⊢
  split
  · exact ⟨rfl, rfl⟩
  · split
    · rename_i h1 _ _ _ h2
      rw [if_neg h1, h2] at h
      exact absurd rfl h
    · exact ⟨rfl, rfl⟩

noncomputable def tl6 : ACode := match c6 with
  | .seq _ (.seq (.seq _ (.cond _ _ _)) (.seq _ (.seq _ t))) => t
  | .seq _ (.seq _ (.seq _ (.seq _ (.seq _ t)))) => t
  | _ => .skip
theorem back_tail (s : ByteArray) (hs : s.size ≤ 70368744177664) (h : Heap) (a0 a2 a3 a4 a5 a6 a7 a8 a9 a10 a11 a12 a13 a14 a15 a16 a17 a18 a19 a20 a21 a22 a23 a24 a25 a26 a27 a28 a29 a30 a31 a32 a33 a34 a35 a36 a37 a38 a39 a40 a41 a42 a43 a44 a45 a46 a47 a48 a49 a50 a51 a52 a53 a54 a55 a56 a57 a58 a59 a60 a61 a62 a63 a64 a65 a66 a67 a68 a69 a70 a71 a72 a73 : AV) :
    ∃ H tm', tm'[4]? = some (.s (.bool true)) ∧ Run Try.prog TW tl6 [a0, .s (.string s), a2, a3, a4, a5, a6, a7, a8, a9, a10, a11, a12, a13, a14, a15, a16, a17, a18, a19, a20, a21, a22, a23, a24, a25, a26, a27, a28, a29, a30, a31, a32, a33, a34, a35, a36, a37, a38, a39, a40, a41, a42, a43, a44, a45, a46, a47, a48, a49, a50, a51, a52, a53, a54, a55, a56, a57, a58, a59, a60, a61, a62, a63, a64, a65, a66, a67, a68, a69, a70, a71, a72, a73] h (.ret, tm', H) := by
  have c32 := fun k l h => evFn_hook (P := Try.prog) (T := TW) (k := k) (f := 32) (args := l) (h := h) TW_32
  have c33 := fun k l h => evFn_hook (P := Try.prog) (T := TW) (k := k) (f := 33) (args := l) (h := h) TW_33
  have hs' : s.size ≤ 9223372036854775807 := by omega
  have q1 : hkRead [.s (.string s)] h = some (.tp [rowN h.length (readS s).1, .s (.string (readS s).2.1), .s (.int .i64 (readS s).2.2)], rowH h (readS s).1) := by simp only [hkRead]; rw [if_pos hs']
  have r1 := rowOf_new h (readS s).1
  have l1 := s30_len r1
  have b1 := readS_len hs'
  by_cases hw : (readS s).2.2 = 0
  · obtain ⟨w1, w2, w3⟩ := write_read hs' hw
    have q2 : hkWrite [rowN h.length (readS s).1] (rowH h (readS s).1) = some (.tp [.s (.string (wrS (readS s).1).1), .s (.int .i64 0)], rowH h (readS s).1) := by
      simp only [hkWrite, r1]
      rw [if_pos ⟨by omega, by omega⟩, w1]
    rw [hw] at q1
    generalize hm : rowN h.length (readS s).1 = m at q1 q2
    generalize hh : rowH h (readS s).1 = h1 at q1 q2
    generalize (readS s).2.1 = rest at q1 w2
    generalize (wrS (readS s).1).1 = u at q2 w2
    have hj := bin_addS (P := Try.prog) (t := 9) (.tmp 68) (.tmp 69) u rest (by have := congrArg ByteArray.size w2; rw [app_size] at this; omega)
    refine ⟨?qH, ?qtm, ?q1, ?q2⟩
    case q2 =>
      apply Run.seq
      · apply Run.step 20; intro k j
        simp [c6, tl6, c33, q1]
        all_goals (first | rfl | (constructor <;> rfl))
      · apply Run.seq
        · apply Run.step 20; intro k j
          simp
          all_goals (first | rfl | (constructor <;> rfl))
        · apply Run.seq
          · apply Run.step 20; intro k j
            simp [c32, q2]
            all_goals (first | rfl | (constructor <;> rfl))
          · apply Run.seq
            · apply Run.step 20; intro k j
              simp [← w2, hj]
              all_goals (first | rfl | (constructor <;> rfl))
            · apply Run.step 10; intro k j
              simp
              all_goals (first | rfl | (constructor <;> rfl))
    case q1 => rfl
  · obtain ⟨e1, e2⟩ := read_err hw
    have hm : rowN h.length (readS s).1 = .s (.slice none 0 0) := by rw [e1]; rfl
    have hh : rowH h (readS s).1 = h := by rw [e1]; rfl
    rw [hm, hh, e2] at q1
    generalize (readS s).2.2 = w at q1 hw
    refine ⟨?rH, ?rtm, ?r1, ?r2⟩
    case r2 =>
      apply Run.seq
      · apply Run.step 20; intro k j
        simp [c6, tl6, c33, q1]
        all_goals (first | rfl | (constructor <;> rfl))
      · apply Run.seq_stop (by simp)
        apply Run.step 20; intro k j
        simp [hw]
        all_goals (first | rfl | (constructor <;> rfl))
    case r1 => rfl

theorem back_run (l : AV) (s : ByteArray) (E : List (Int × ByteArray)) (h : Heap) (hl : rowOf h l = some E) (hs : s.size ≤ 1048576) (hd : dsz E ≤ 1048576) (hn : E.length ≤ 1048576) (hk : ∀ x ∈ E, 0 ≤ x.1 ∧ x.1 ≤ 18446744073709551615) :
    ∃ H, FRun Try.prog TW 6 [l, .s (.string s)] h (.s (.bool true), H) := by
  have c29 := fun k l h => evFn_hook (P := Try.prog) (T := TW) (k := k) (f := 29) (args := l) (h := h) TW_29
  have c30 := fun k l h => evFn_hook (P := Try.prog) (T := TW) (k := k) (f := 30) (args := l) (h := h) TW_30
  have c32 := fun k l h => evFn_hook (P := Try.prog) (T := TW) (k := k) (f := 32) (args := l) (h := h) TW_32
  have c33 := fun k l h => evFn_hook (P := Try.prog) (T := TW) (k := k) (f := 33) (args := l) (h := h) TW_33
  have q1 : hkWrite [l] h = some (.tp [.s (.string (wrS E).1), .s (.int .i64 (wrS E).2)], h) := by
    simp only [hkWrite, hl]
    rw [if_pos ⟨by omega, by omega⟩]
  suffices hs : ∃ H tm', Run Try.prog TW c6 ([l, .s (.string s)] ++ List.replicate 72 (.s undef)) h (.ret, tm', H) ∧ tm'[4]? = some (.s (.bool true)) by
    obtain ⟨H, tm', h1, h2⟩ := hs
    exact ⟨H, FRun.of (e := .ret) (tm' := tm') (TW_6.trans p6) h1 (Or.inl rfl) (by simp [resAs, resA, h2, tupA])⟩
  have hpre : ∀ {r : Res}, Run Try.prog TW (match c6 with | .seq _ (.seq _ (.seq _ t)) => t | _ => .skip) [l, (.s (.string s)), (.s undef), (.s undef), (.s (.bool false)), (.s (.string (wrS E).1)), (.s (.int .i64 (wrS E).2)), (.s undef), (.s undef), (.s undef), (.s undef), (.s undef), (.s undef), (.s undef), (.s undef), (.s (.bool true)), (.s (.bool false)), (.tp [.s (.string (wrS E).1), .s (.int .i64 (wrS E).2)]), l, (.tp [.s (.string (wrS E).1), .s (.int .i64 (wrS E).2)]), (.s (.string (wrS E).1)), (.s (.int .i64 (wrS E).2)), (.s undef), (.s undef), (.s undef), (.s undef), (.s undef), (.s undef), (.s undef), (.s undef), (.s undef), (.s undef), (.s undef), (.s undef), (.s undef), (.s undef), (.s undef), (.s undef), (.s undef), (.s undef), (.s undef), (.s undef), (.s undef), (.s undef), (.s undef), (.s undef), (.s undef), (.s undef), (.s undef), (.s undef), (.s undef), (.s undef), (.s undef), (.s undef), (.s undef), (.s undef), (.s undef), (.s undef), (.s undef), (.s undef), (.s undef), (.s undef), (.s undef), (.s undef), (.s undef), (.s undef), (.s undef), (.s undef), (.s undef), (.s undef), (.s undef), (.s undef), (.s undef), (.s undef)] h r → Run Try.prog TW c6 ([l, .s (.string s)] ++ List.replicate 72 (.s undef)) h r := by
    intro r H
    apply Run.seq
    · apply Run.step 20; intro k j
      simp
      all_goals (first | rfl | (constructor <;> rfl))
    · apply Run.seq
      · apply Run.step 20; intro k j
        simp [c29, hkYes]
        all_goals (first | rfl | (constructor <;> rfl))
      · apply Run.seq ?_ H
        apply Run.step 20; intro k j
        simp [c32, q1]
        all_goals (first | rfl | (constructor <;> rfl))
  by_cases hw : (wrS E).2 = 0
  · have ho : okOrd E = true ∧ E.length ≤ 65536 := by
      unfold wrS at hw
      split at hw
      · simp at hw
      · split at hw
        · simp at hw
        · rename_i h1 h2
          exact ⟨by simpa using h1, by omega⟩
    have hz : ∀ x ∈ E, x.2.size ≤ 9223372036854775807 := fun x hx => by have := dsz_mem E x hx; omega
    have hrw := read_write ho.1 ho.2 hk hz s
    have hsz : (wrS E).1.size ≤ 4194304 := by
      rw [← bytesOf_length, wrS]
      have h2 : ¬ 65536 < E.length := by omega
      have h3 := leb_length_le (n := (E.length : Int)) (by omega) (by omega)
      have h4 := wrF_len E 0 (fun x hx => by have := dsz_mem E x hx; omega)
      simp only [ho.1, h2, Bool.true_eq_false, if_false]
      rw [bytesOf_length, strOfNums_size]
      simp only [List.length_append, dat_len]
      omega
    have hj := bin_addS (P := Try.prog) (t := 9) (.tmp 25) (.tmp 26) (wrS E).1 s (by omega)
    have q2 : hkRead [.s (.string ((wrS E).1 ++ s))] h = some (.tp [rowN h.length E, .s (.string s), .s (.int .i64 0)], rowH h E) := by
      simp only [hkRead]; rw [if_pos (by rw [app_size]; omega), hrw]
    have q3 : hkSame30 [rowN h.length E, l] (rowH h E) = some (.s (.bool true), rowH h E) := by
      simp only [hkSame30, rowOf_new, rowOf_grows (rowH_grows h E) hl]
      rw [if_pos (by omega)]
      simp
    generalize (wrS E).1 = t at *
    rw [hw] at hpre
    generalize rowN h.length E = m at *
    generalize rowH h E = h1 at *
    obtain ⟨H, tm', z1, z2⟩ := back_tail s (by omega) h1 l (.s undef) (.s undef) (.s (.bool false)) (.s (.string t)) (.s (.int .i64 0)) m (.s (.string s)) (.s (.int .i64 0)) (.s undef) (.s undef) (.s undef) (.s undef) (.s undef) (.s (.bool true)) (.s (.bool false)) (.tp [.s (.string t), .s (.int .i64 0)]) l (.tp [.s (.string t), .s (.int .i64 0)]) (.s (.string t)) (.s (.int .i64 0)) (.s (.int .i64 0)) (.s (.bool true)) (.tp [m, .s (.string s), .s (.int .i64 0)]) (.s (.string t)) (.s (.string s)) (.s (.string (t ++ s))) (.tp [m, .s (.string s), .s (.int .i64 0)]) m (.s (.string s)) (.s (.int .i64 0)) (.s (.int .i64 0)) (.s (.bool false)) (.s (.bool false)) m l (.s (.bool true)) (.s (.bool false)) (.s (.bool false)) (.s (.bool false)) (.s (.string s)) (.s (.string s)) (.s (.bool false)) (.s (.bool false)) (.s undef) (.s undef) (.s undef) (.s undef) (.s undef) (.s undef) (.s undef) (.s undef) (.s undef) (.s undef) (.s undef) (.s undef) (.s undef) (.s undef) (.s undef) (.s undef) (.s undef) (.s undef) (.s undef) (.s undef) (.s undef) (.s undef) (.s undef) (.s undef) (.s undef) (.s undef) (.s undef) (.s undef) (.s undef)
    refine ⟨H, tm', hpre (Run.seq ?_ z2), z1⟩
    apply Run.seq
    · apply Run.step 20; intro k j
      simp [c6]
      all_goals (first | rfl | (constructor <;> rfl))
    · apply Run.cond (t := true) rfl
      apply Run.seq
      · apply Run.step 30; intro k j
        simp [c33, hj, q2]
        all_goals (first | rfl | (constructor <;> rfl))
      · apply Run.step 40; intro k j
        simp [c30, q3]
        all_goals (first | rfl | (constructor <;> rfl))
  · obtain ⟨H, tm', z1, z2⟩ := back_tail s (by omega) h l (.s undef) (.s undef) (.s (.bool false)) (.s (.string (wrS E).1)) (.s (.int .i64 (wrS E).2)) (.s undef) (.s undef) (.s undef) (.s undef) (.s undef) (.s undef) (.s undef) (.s undef) (.s (.bool true)) (.s (.bool false)) (.tp [.s (.string (wrS E).1), .s (.int .i64 (wrS E).2)]) l (.tp [.s (.string (wrS E).1), .s (.int .i64 (wrS E).2)]) (.s (.string (wrS E).1)) (.s (.int .i64 (wrS E).2)) (.s (.int .i64 (wrS E).2)) (.s (.bool false)) (.s undef) (.s undef) (.s undef) (.s undef) (.s undef) (.s undef) (.s undef) (.s undef) (.s undef) (.s undef) (.s undef) (.s undef) (.s undef) (.s undef) (.s undef) (.s undef) (.s undef) (.s undef) (.s undef) (.s undef) (.s undef) (.s undef) (.s undef) (.s undef) (.s undef) (.s undef) (.s undef) (.s undef) (.s undef) (.s undef) (.s undef) (.s undef) (.s undef) (.s undef) (.s undef) (.s undef) (.s undef) (.s undef) (.s undef) (.s undef) (.s undef) (.s undef) (.s undef) (.s undef) (.s undef) (.s undef) (.s undef) (.s undef) (.s undef) (.s undef)
    refine ⟨H, tm', hpre (Run.seq ?_ z2), z1⟩
    apply Run.step 20; intro k j
    simp [c6, hw]
    all_goals (first | rfl | (constructor <;> rfl))
end Go.Proofs.Ytpmoellbfgcefaa.AS
end
section
set_option autoImplicit false
namespace Go.Proofs.Ytpmoellbfgcefaa.AS
open Go Go.RowKit
theorem runDraw_ev {P : Program} {g : CallF} : ∀ (ops : List AOper) (tm : List AV) (h : Heap) (r : List AV × Heap), evOps P g ops tm h = some r → ∃ hs xs, runDraw P g ops tm h = some (hs, xs, r)
  | [], tm, h, r, H => by simp only [evOps, Option.some.injEq] at H; subst H; exact ⟨_, _, rfl⟩
  | o :: rest, tm, h, r, H => by
    simp only [evOps] at H
    simp only [runDraw]
    cases hw : wantA tm o.guard with
    | none => rw [hw] at H; cases H
    | some b =>
      rw [hw] at H
      cases b with
      | false =>
        simp only at H ⊢
        obtain ⟨hs, xs, e⟩ := runDraw_ev rest _ _ r H
        rw [e]; exact ⟨_, _, rfl⟩
      | true =>
        simp only at H ⊢
        cases ho : opV P g tm h o.op with
        | none => rw [ho] at H; cases H
        | some x =>
          obtain ⟨x, h'⟩ := x
          rw [ho] at H
          simp only at H ⊢
          obtain ⟨hs, xs, e⟩ := runDraw_ev rest _ _ r H
          rw [e]; exact ⟨_, _, rfl⟩
/-- A region whose order is open, and whose reads need no look at other heaps, as one in order. -/
theorem Run.draw0 {P : Program} {T : FuncId → Option AFunc} {l : List AOper} {tm tm' : List AV} {h h' : Heap} (H : Run P T (.reg l) tm h (.normal, tm', h')) : Run P T (.draw l []) tm h (.normal, tm', h') := by
  obtain ⟨K, H⟩ := H
  refine ⟨K + 1, fun k j hk hj => ?_⟩
  have h1 := H k j (by omega) (by omega)
  obtain ⟨k, rfl⟩ : ∃ k', k = k' + 1 := ⟨k - 1, by omega⟩
  rw [evC_reg] at h1
  cases he : evOps P (evFn P T j) l tm h with
  | none => rw [he] at h1; cases h1
  | some r =>
    rw [he] at h1
    obtain ⟨hs, xs, e⟩ := runDraw_ev l tm h r he
    simp only [evC, e, chkDraw]
    exact h1
theorem find_mem : ∀ {E : List (Int × ByteArray)}, Asc E → ∀ {x}, x ∈ E → E.find? (fun e => decide (e.1 = x.1)) = some x
  | y :: E, ha, x, hx => by
    rcases List.mem_cons.1 hx with rfl | hx
    · simp
    · have := (List.pairwise_cons.1 ha).1 x hx
      rw [List.find?_cons_of_neg (by simp; omega)]
      exact find_mem (List.pairwise_cons.1 ha).2 hx
theorem range_one : ∀ {E : List (Int × ByteArray)}, Asc E → ∀ {x}, x ∈ E → rangeF E x.1 x.1 = [x]
  | y :: E, ha, x, hx => by
    obtain ⟨h1, h2⟩ := List.pairwise_cons.1 ha
    have hp : ∀ e : Int × ByteArray, (decide (x.1 ≤ e.1) && decide (e.1 ≤ x.1)) = decide (e.1 = x.1) := fun e => by
      rw [← Bool.decide_and]; congr 1; apply propext; omega
    rcases List.mem_cons.1 hx with rfl | hx
    · unfold rangeF
      rw [List.filter_cons_of_pos (by simp), List.filter_eq_nil_iff.2 (fun e he => by have := h1 e he; simp; omega)]
    · have := h1 x hx
      have ih := range_one h2 hx
      unfold rangeF at ih ⊢
      rw [List.filter_cons_of_neg (by simp; omega)]
      exact ih
def anyK (E : List (Int × ByteArray)) (key : Int) : Bool := E.any fun e => decide (e.1 = key)
theorem find_any (E : List (Int × ByteArray)) (key : Int) : decide ((findF E key).2 = 0) = anyK E key := by
  unfold findF anyK
  cases h : E.find? (fun e => decide (e.1 = key)) with
  | none => 
    have : (E.any fun e => decide (e.1 = key)) = false := by
      rw [List.any_eq_false]
      exact fun e he => List.find?_eq_none.1 h e he
    rw [this]; simp
  | some e =>
    have h1 := List.find?_some h
    have h2 := List.mem_of_find?_eq_some h
    have : (E.any fun e => decide (e.1 = key)) = true := List.any_eq_true.2 ⟨e, h2, h1⟩
    rw [this]; simp
end Go.Proofs.Ytpmoellbfgcefaa.AS
end
