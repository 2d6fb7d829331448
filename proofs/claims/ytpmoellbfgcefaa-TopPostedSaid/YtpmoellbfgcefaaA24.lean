/- Of our own: an abstract machine beside the model, its soundness, and walks of the program in it. -/
import Derived.Test.YtpmoellbfgcefaaA23
import Derived.Test.YtpmoellbfgcefaaA21
import Derived.Test.YtpmoellbfgcefaaA19
set_option linter.unusedSimpArgs false
set_option linter.unusedVariables false
section
set_option autoImplicit false
set_option maxRecDepth 100000
set_option maxHeartbeats 2000000
set_option linter.unusedSimpArgs false
namespace Go.Proofs.Ytpmoellbfgcefaa.AS
open Go Go.Proofs Go.RowKit Go.Proofs.Ytpmoellbfgcefaa.AS.V

theorem wrF_len : ∀ (E : List (Int × ByteArray)) (nx : Int), (∀ x ∈ E, x.2.size ≤ 70368744177664) → (wrF E nx).length ≤ 20 * E.length
  | [], _, _ => by simp [wrF]
  | x :: l, nx, hz => by
    have h1 := leb_length_le (n := IntKind.u64.wrap (x.1 - nx)) (by simp [IntKind.wrap, IntKind.bits, IntKind.signed]; omega) (by simp [IntKind.wrap, IntKind.bits, IntKind.signed]; omega)
    have h0 := hz x (by simp)
    have h2 := leb_length_le (n := (x.2.size : Int)) (by omega) (by omega)
    have h3 := wrF_len l (IntKind.u64.wrap (x.1 + 1)) (fun y hy => hz y (by simp [hy]))
    simp only [wrF, List.length_append, List.length_cons]
    omega
theorem dsz_mem : ∀ (E : List (Int × ByteArray)) (x : Int × ByteArray), x ∈ E → x.2.size ≤ dsz E
  | y :: l, x, h => by
    rcases List.mem_cons.mp h with rfl | h
    · simp [dsz]
    · have := dsz_mem l x h
      simp [dsz]; omega
theorem w32_loop {T : FuncId → Option AFunc} (hT : T 58 = prepFn Try.prog 58) (g : Heap) (b0 v0 o0 n : Nat) (E : List (Int × ByteArray)) (hb0 : b0 < g.length) (hA : rowOf g (.sl b0 v0 o0 n 2) = some E) (hn : n ≤ 4611686018427387903) (a1 a2 a3 a4 a8 a10 a11 a12 a13 a14 a15 a16 a17 a18 a19 a20 a21 a22 a23 a24 a25 a26 a27 a28 a29 a30 a31 a32 a33 a34 a61 a62 a63 a64 : AV) :
    ∀ (k j : Nat), j + k = n → ∀ (h : Heap) (b d : AV) (nx : Int) (B D : List Int) (a9 : AV), B.length + 20 * k ≤ 140737488200000 → D.length + dsz (E.drop j) ≤ 70368744177664 → InvW g h b d B D →
    ∃ H b' d' nx' a9', InvW g H b' d' (B ++ wrF (E.drop j) nx) (D ++ dat (E.drop j)) ∧ Run Try.prog T (.loop fg32b body32b) (fr32b (.sl b0 v0 o0 n 2) b d nx n j a1 a2 a3 a4 a8 a9 a10 a11 a12 a13 a14 a15 a16 a17 a18 a19 a20 a21 a22 a23 a24 a25 a26 a27 a28 a29 a30 a31 a32 a33 a34 a61 a62 a63 a64) h (.exit 2, (fr32b (.sl b0 v0 o0 n 2) b' d' nx' n n a1 a2 a3 a4 a8 a9' a10 a11 a12 a13 a14 a15 a16 a17 a18 a19 a20 a21 a22 a23 a24 a25 a26 a27 a28 a29 a30 a31 a32 a33 a34 a61 a62 a63 a64).set 38 (.s (.bool false)), H) := by
  have hn1 : E.length = n := (rowOf_sl hA).choose_spec.choose_spec.choose_spec.choose_spec.2.2.2
  have hfg : ∀ (b d : AV) (nx j : Int) (a9 : AV), forget fg32b (fr32b (.sl b0 v0 o0 n 2) b d nx n j a1 a2 a3 a4 a8 a9 a10 a11 a12 a13 a14 a15 a16 a17 a18 a19 a20 a21 a22 a23 a24 a25 a26 a27 a28 a29 a30 a31 a32 a33 a34 a61 a62 a63 a64) = fr32b (.sl b0 v0 o0 n 2) b d nx n j a1 a2 a3 a4 a8 a9 a10 a11 a12 a13 a14 a15 a16 a17 a18 a19 a20 a21 a22 a23 a24 a25 a26 a27 a28 a29 a30 a31 a32 a33 a34 a61 a62 a63 a64 := fun b d nx j a9 => by simp [forget, fg32b, lp32b, tl32, c32, fr32b]
  intro k
  induction k with
  | zero =>
    intro j hd h b d nx B D a9 hB hD hI
    obtain rfl : j = n := by omega
    rw [List.drop_eq_nil_of_le (by omega)]
    refine ⟨h, b, d, nx, a9, by simpa [wrF, dat] using hI, Run.loop_end_f (hfg _ _ _ _ _) (by simp) (w32_end (T := T) _ b d nx j j (by omega) h a1 a2 a3 a4 a8 a9 a10 a11 a12 a13 a14 a15 a16 a17 a18 a19 a20 a21 a22 a23 a24 a25 a26 a27 a28 a29 a30 a31 a32 a33 a34 a61 a62 a63 a64)⟩
  | succ k ih =>
    intro j hd h b d nx B D a9 hB hD hI
    have hj : j < E.length := by omega
    rw [List.drop_eq_getElem_cons hj] at hD ⊢
    simp only [dsz] at hD
    obtain ⟨H, b', d', a9', tm', x1, x2, x3⟩ := w32_one (T := T) hT g h b0 v0 o0 n E hb0 hA hn j E[j] (List.getElem?_eq_getElem hj) (by omega) b d nx B D (by omega) (by omega) hI a1 a2 a3 a4 a8 a9 a10 a11 a12 a13 a14 a15 a16 a17 a18 a19 a20 a21 a22 a23 a24 a25 a26 a27 a28 a29 a30 a31 a32 a33 a34 a61 a62 a63 a64
    have h1 := leb_length_le (n := IntKind.u64.wrap (E[j].1 - nx)) (by simp [IntKind.wrap, IntKind.bits, IntKind.signed]; omega) (by simp [IntKind.wrap, IntKind.bits, IntKind.signed]; omega)
    have h2 := leb_length_le (n := (E[j].2.size : Int)) (by omega) (by omega)
    obtain ⟨G, b2, d2, nx2, a92, y1, y2⟩ := ih (j + 1) (by omega) H b' d' (IntKind.u64.wrap (E[j].1 + 1)) _ _ a9' (by simp only [List.length_append]; omega) (by simp only [List.length_append, bytesOf_length]; omega) x1
    refine ⟨G, b2, d2, nx2, a92, ?_, Run.loop_go (hfg _ _ _ _ _) x3 x2 y2⟩
    simp only [wrF, dat]
    simpa only [List.append_assoc] using y1

noncomputable def hkWrite : List AV → Heap → Option (AV × Heap)
  | [a], h => match rowOf h a with
    | some E => if E.length ≤ 4611686018427387903 ∧ dsz E ≤ 70368744177664 then some (.tp [.s (.string (wrS E).1), .s (.int .i64 (wrS E).2)], h) else none
    | none => none
  | _, _ => none
theorem o32_all {T : FuncId → Option AFunc} (h : Heap) (a : AV) (E : List (Int × ByteArray)) (hA : rowOf h a = some E) (hn : E.length ≤ 4611686018427387903) (a1 a5 a6 a7 a8 a9 : AV) (R : List AV) :
    (okOrd E = true → ∃ i, Run Try.prog T (.loop fg32 body32) (fr32 a 1 a1 a5 a6 a7 a8 a9 R) h (.exit 0, ((((fr32 a i a1 a5 a6 a7 a8 a9 R).set 10 (.s (.int .i64 i))).set 11 a).set 12 (.s (.int .i64 E.length))).set 13 (.s (.bool false)), h)) ∧
    (okOrd E = false → ∃ tm', tm'[2]? = some (.s (.string ⟨#[]⟩)) ∧ tm'[3]? = some (.s (.int .i64 12)) ∧ Run Try.prog T (.loop fg32 body32) (fr32 a 1 a1 a5 a6 a7 a8 a9 R) h (.ret, tm', h)) := by
  have hl := s30_len hA
  have hfg : ∀ (i : Int), forget fg32 (fr32 a i a1 a5 a6 a7 a8 a9 R) = fr32 a i a1 a5 a6 a7 a8 a9 R := fun i => by simp [forget, fg32, lp32, c32, fr32]
  cases E with
  | nil => exact ⟨fun _ => ⟨1, Run.loop_end_f (hfg _) (by simp) (o32_end (T := T) a _ 1 hl (by simp) h a1 a5 a6 a7 a8 a9 R)⟩, fun h => absurd h (by simp [okOrd])⟩
  | cons x E =>
    unfold rowOf at hA
    split at hA
    · cases hA
    · rename_i b v o n
      have hA : rowOf h (.sl b v o n 2) = some (x :: E) := hA
      have hn1 : (x :: E).length = n := (rowOf_sl hA).choose_spec.choose_spec.choose_spec.choose_spec.2.2.2
      simp only [List.length_cons] at hn1 hn
      obtain ⟨i1, i2⟩ := o32_loop (T := T) h b v o n (x :: E) hA (by omega) a1 a5 a6 a7 a8 a9 R (n - 1) 0 (by omega)
      refine ⟨fun he => ⟨n, ?_⟩, i2⟩
      have := i1 he
      rw [List.length_cons, hn1]
      exact this
    · cases hA
theorem write_run {T : FuncId → Option AFunc} (hT : T 32 = prepFn Try.prog 32) (h58 : T 58 = prepFn Try.prog 58) (h : Heap) (a : AV) (E : List (Int × ByteArray)) (hA : rowOf h a = some E) (hn : E.length ≤ 4611686018427387903) (hd : dsz E ≤ 70368744177664) :
    ∃ H, FRun Try.prog T 32 [a] h (.tp [.s (.string (wrS E).1), .s (.int .i64 (wrS E).2)], H) ∧ (∀ c, c < h.length → bk H c = bk h c) := by
  have hla := s30_len hA
  obtain ⟨o1, o2⟩ := o32_all (T := T) h a E hA hn (.s undef) (.s undef) (.s undef) (.s undef) (.s undef) (.s undef) [(.s undef), (.s undef), (.s undef), (.s undef), (.s undef), (.s undef), (.s undef), (.s undef), (.s undef), (.s undef), (.s undef), (.s undef), (.s undef), (.s undef), (.s undef), (.s undef), (.s undef), (.s undef), (.s undef), (.s undef), (.s undef), (.s undef), (.s undef), (.s undef), (.s undef), (.s undef), (.s undef), (.s undef), (.s undef), (.s undef), (.s undef), (.s undef), (.s undef), (.s undef), (.s undef), (.s undef), (.s undef)]
  suffices hs : ∃ H tm', Run Try.prog T c32 ([a] ++ List.replicate 64 (.s undef)) h (.ret, tm', H) ∧ (∀ c, c < h.length → bk H c = bk h c) ∧ tm'[2]? = some (.s (.string (wrS E).1)) ∧ tm'[3]? = some (.s (.int .i64 (wrS E).2)) by
    obtain ⟨H, tm', h1, h2, h3, h4⟩ := hs
    refine ⟨H, FRun.of (e := .ret) (tm' := tm') (hT.trans p32) h1 (Or.inl rfl) (by simp [resAs, resA, h3, h4, tupA]), h2⟩
  have hpre : ∀ {r : Res}, Run Try.prog T (.seq (.block 0 (.loop fg32 body32)) tl32) (fr32 a 1 (.s undef) (.s undef) (.s undef) (.s undef) (.s undef) (.s undef) [(.s undef), (.s undef), (.s undef), (.s undef), (.s undef), (.s undef), (.s undef), (.s undef), (.s undef), (.s undef), (.s undef), (.s undef), (.s undef), (.s undef), (.s undef), (.s undef), (.s undef), (.s undef), (.s undef), (.s undef), (.s undef), (.s undef), (.s undef), (.s undef), (.s undef), (.s undef), (.s undef), (.s undef), (.s undef), (.s undef), (.s undef), (.s undef), (.s undef), (.s undef), (.s undef), (.s undef), (.s undef)]) h r → Run Try.prog T c32 ([a] ++ List.replicate 64 (.s undef)) h r := by
    intro r H
    apply Run.seq
    · apply Run.step 20; intro k j
      simp
      (first | rfl | (constructor <;> rfl))
    · apply Run.seq_seq
      · apply Run.step 20; intro k j
        simp
        (first | rfl | (constructor <;> rfl))
      · exact Run.seq_block_forget (by simp [forget, fg32, lp32, c32, fr32]) H
  by_cases ho : okOrd E = true
  · obtain ⟨i, hi⟩ := o1 ho
    by_cases hm : 65536 < E.length
    · have hw : wrS E = (⟨#[]⟩, 15) := by simp [wrS, ho, hm]
      rw [hw]
      have hm' : (65536 : Int) < (E.length : Int) := by omega
      refine ⟨h, ?qtm, hpre (Run.seq (Run.block_exit hi) (Run.seq_stop (by simp) ?qrun)), fun _ _ => rfl, ?q2, ?q3⟩
      case qrun =>
        apply Run.step 30; intro k j
        simp [c32, tl32, fr32, hla, eq_true hm']
        (first | rfl | (constructor <;> rfl))
      case q2 => rfl
      case q3 => rfl
    · have hw : wrS E = (strOfNums ((leb E.length ++ wrF E 0) ++ dat E), 0) := by simp [wrS, ho, hm]
      rw [hw]
      have hm' : ¬ (65536 : Int) < (E.length : Int) := by omega
      have hc0 := leb_length_le (n := (E.length : Int)) (by omega) (by omega)
      have we : IntKind.u64.wrap (E.length : Int) = (E.length : Int) := wu64 (by omega) (by omega)
      obtain ⟨H1, b1, f1, y1, r1⟩ := app_run (T := T) h58 (E.length : Int) (by omega) (by omega) h (.s (.slice none 0 0)) [] (by simp) (Or.inl ⟨rfl, rfl⟩)
      rw [List.nil_append] at r1
      have I1 : InvW h H1 b1 (.s (.slice none 0 0)) (leb E.length) [] :=
        ⟨fun c hc => y1.keep c hc (by simp [blkOf]), y1.len, r1, Or.inl ⟨rfl, rfl⟩, fun c hc => (y1.place c hc).elim id (fun h => by simp [blkOf] at h), fun c hc => by simp [blkOf] at hc, fun c _ h => by simp [blkOf] at h⟩
      have hsz : ∀ x ∈ E, x.2.size ≤ 70368744177664 := fun x hx => Nat.le_trans (dsz_mem E x hx) hd
      have hlen := wrF_len E 0 hsz
      have L2 : ∀ (a1 a2 a3 a4 a8 a9 a10 a11 a12 a13 a14 a15 a16 a17 a18 a19 a20 a21 a22 a23 a24 a25 a26 a27 a28 a29 a30 a31 a32 a33 a34 a61 a62 a63 a64 : AV), ∃ H b' d' nx' a9', InvW h H b' d' (leb E.length ++ wrF E 0) (dat E) ∧ Run Try.prog T (.loop fg32b body32b) (fr32b a b1 (.s (.slice none 0 0)) 0 E.length 0 a1 a2 a3 a4 a8 a9 a10 a11 a12 a13 a14 a15 a16 a17 a18 a19 a20 a21 a22 a23 a24 a25 a26 a27 a28 a29 a30 a31 a32 a33 a34 a61 a62 a63 a64) H1 (.exit 2, (fr32b a b' d' nx' E.length E.length a1 a2 a3 a4 a8 a9' a10 a11 a12 a13 a14 a15 a16 a17 a18 a19 a20 a21 a22 a23 a24 a25 a26 a27 a28 a29 a30 a31 a32 a33 a34 a61 a62 a63 a64).set 38 (.s (.bool false)), H) := by
        intro a1 a2 a3 a4 a8 a9 a10 a11 a12 a13 a14 a15 a16 a17 a18 a19 a20 a21 a22 a23 a24 a25 a26 a27 a28 a29 a30 a31 a32 a33 a34 a61 a62 a63 a64
        have hfg : ∀ (b d : AV) (nx j : Int) (a9 : AV), forget fg32b (fr32b a b d nx E.length j a1 a2 a3 a4 a8 a9 a10 a11 a12 a13 a14 a15 a16 a17 a18 a19 a20 a21 a22 a23 a24 a25 a26 a27 a28 a29 a30 a31 a32 a33 a34 a61 a62 a63 a64) = fr32b a b d nx E.length j a1 a2 a3 a4 a8 a9 a10 a11 a12 a13 a14 a15 a16 a17 a18 a19 a20 a21 a22 a23 a24 a25 a26 a27 a28 a29 a30 a31 a32 a33 a34 a61 a62 a63 a64 := fun b d nx j a9 => by simp [forget, fg32b, lp32b, tl32, c32, fr32b]
        cases hE : E with
        | nil =>
          subst hE
          exact ⟨H1, b1, _, 0, a9, by simpa [wrF, dat] using I1, Run.loop_end_f (hfg _ _ _ _ _) (by simp) (w32_end (T := T) a b1 _ 0 0 0 (by omega) H1 a1 a2 a3 a4 a8 a9 a10 a11 a12 a13 a14 a15 a16 a17 a18 a19 a20 a21 a22 a23 a24 a25 a26 a27 a28 a29 a30 a31 a32 a33 a34 a61 a62 a63 a64)⟩
        | cons x E' =>
          rw [← hE]
          unfold rowOf at hA
          split at hA
          · cases hA; cases hE
          · rename_i b v o n
            have hA : rowOf h (.sl b v o n 2) = some E := hA
            obtain ⟨_, _, _, _, hbk, _, _, hn1⟩ := rowOf_sl hA
            obtain ⟨H, b', d', nx', a9', z1, z2⟩ := w32_loop (T := T) h58 h b v o n E (bk_lt hbk) hA (by omega) a1 a2 a3 a4 a8 a10 a11 a12 a13 a14 a15 a16 a17 a18 a19 a20 a21 a22 a23 a24 a25 a26 a27 a28 a29 a30 a31 a32 a33 a34 a61 a62 a63 a64 n 0 (by omega) H1 b1 (.s (.slice none 0 0)) 0 (leb E.length) [] a9 (by omega) (by simp; omega) I1
            refine ⟨H, b', d', nx', a9', by simpa using z1, ?_⟩
            rw [hn1]
            exact z2
          · cases hA
      obtain ⟨J1, g1⟩ := f1.get
      obtain ⟨H2, b2, d2, nx2, a92, I2, R2⟩ := L2 (.s undef) .any .any (.s (.int .i64 i)) (.s undef) (.s undef) (.s (.int .i64 i)) a (.s (.int .i64 E.length)) (.s (.bool false)) .any .any .any .any .any .any .any .any .any .any .any .any .any .any a (.s (.int .i64 E.length)) (.s (.bool false)) a (.s (.int .i64 E.length)) (.s (.int .u64 E.length)) b1 (.s undef) (.s undef) (.s undef) (.s undef)
      obtain ⟨H3, b3, f3, y3, r3⟩ := ap_row I2.rb (dat E) (by rw [List.length_append, dat_len]; omega)
      have s3 := src_row I2.rd
      have q3 := b2_row r3
      have hold : ∀ c, c < h.length → bk H3 c = bk h c := fun c hc => by
        rw [y3.keep c (Nat.lt_of_lt_of_le hc I2.len) (fun e => by have := I2.pb c e; omega), I2.old c hc]
      refine ⟨H3, ?qtm2, hpre (Run.seq (Run.block_exit hi) ?qrun2), hold, ?q22, ?q32⟩
      case qrun2 =>
        apply Run.seq
        · apply Run.step 30; intro k j
          simp [c32, tl32, fr32, hla, eq_false hm']
          (first | rfl | (constructor <;> rfl))
        · apply Run.seq
          · apply Run.stepJ 30 J1; intro k j hj
            simp [hla, we, g1 j hj]
            (first | rfl | (constructor <;> rfl))
          · apply Run.seq
            · apply Run.step 30; intro k j
              simp
              (first | rfl | (constructor <;> rfl))
            · apply Run.seq
              · apply Run.step 30; intro k j
                simp
                (first | rfl | (constructor <;> rfl))
              · apply Run.seq_seq
                · apply Run.step 30; intro k j
                  simp [hla]
                  (first | rfl | (constructor <;> rfl))
                · apply Run.seq
                  · apply Run.block_exit
                    refine Run.loop_go' R2 ?_
                    simp [forget, fg32b, lp32b, tl32, c32, fr32b]
                  · apply Run.seq
                    · apply Run.step 30; intro k j
                      simp [fr32b, s3, f3, q3]
                      (first | rfl | (constructor <;> rfl))
                    · apply Run.step 30; intro k j
                      simp
                      (first | rfl | (constructor <;> rfl))
      case q22 => simp
      case q32 => rfl
  · obtain ⟨tm', h1, h2, h3⟩ := o2 (by simpa using ho)
    have hw : wrS E = (⟨#[]⟩, 12) := by simp [wrS, ho]
    rw [hw]
    exact ⟨h, tm', hpre (Run.seq_stop (by simp) (Run.block_id (by simp) h3)), fun _ _ => rfl, h1, h2⟩
theorem hkWrite_ok {T : FuncId → Option AFunc} (hm : Try.prog.follows .mixedOrders = true) (hT : TabOK Try.prog T) (hF : T 32 = prepFn Try.prog 32) (h58 : T 58 = prepFn Try.prog 58) (hc : callable Try.prog 32 = true) : HookSound Try.prog 32 hkWrite := by
  refine hookOf hm hT hc fun l h r he => ?_
  unfold hkWrite at he
  split at he
  · rename_i a
    split at he
    · rename_i E hA
      split at he
      · rename_i hn
        cases he
        obtain ⟨H, h1, h2⟩ := write_run hF h58 h a E hA hn.1 hn.2
        exact ⟨_, h1, Drops.flat (grows_of h2) rfl⟩
      · cases he
    · cases he
  · cases he
theorem call32 : callable Try.prog 32 = true := by kernel_rfl
noncomputable def TW : FuncId → Option AFunc := over TD 32 hkWrite
theorem TW_ok : TabOK Try.prog TW := over_ok TD_ok (hkWrite_ok hm TD_ok rfl rfl call32)
end Go.Proofs.Ytpmoellbfgcefaa.AS
end
section
set_option autoImplicit false
set_option maxRecDepth 100000
set_option linter.unusedSimpArgs false
namespace Go.Proofs.Ytpmoellbfgcefaa.AS
open Go Go.Proofs Go.RowKit Go.Proofs.Ytpmoellbfgcefaa.AS.V

def wrP : List (Int × ByteArray) → Int → ByteArray
  | [], _ => strOfNums []
  | x :: l, nx => (puts (IntKind.u64.wrap (x.1 - nx)) ++ puts x.2.size) ++ wrP l (IntKind.u64.wrap (x.1 + 1))
def datP : List (Int × ByteArray) → ByteArray
  | [] => strOfNums []
  | x :: l => x.2 ++ datP l
theorem wrF_P : ∀ (E : List (Int × ByteArray)) (nx : Int), strOfNums (wrF E nx) = wrP E nx
  | [], _ => rfl
  | x :: l, nx => by simp only [wrF, wrP, strOf_append, wrF_P l]; rfl
theorem dat_P : ∀ (E : List (Int × ByteArray)), strOfNums (dat E) = datP E
  | [] => rfl
  | x :: l => by simp only [dat, datP, strOf_append, dat_P l, strOf_bytesOf]
theorem nil_app (s : ByteArray) : strOfNums [] ++ s = s := bytesOf_inj (by rw [bytesOf_append]; simp [bytesOf, strOfNums])
theorem app_as (a b c : ByteArray) : (a ++ b) ++ c = a ++ (b ++ c) := bytesOf_inj (by simp only [bytesOf_append, List.append_assoc])
theorem app_size (a b : ByteArray) : (a ++ b).size = a.size + b.size := by
  rw [← bytesOf_length, bytesOf_append, List.length_append, bytesOf_length, bytesOf_length]
theorem datP_size : ∀ E, (datP E).size = dsz E
  | [] => by simp [datP, dsz, ← bytesOf_length, bytesOf, strOfNums]
  | x :: l => by simp only [datP, dsz, app_size, datP_size l]
theorem wrS_ok {E : List (Int × ByteArray)} (ho : okOrd E = true) (hn : E.length ≤ 65536) : wrS E = (puts E.length ++ (wrP E 0 ++ datP E), 0) := by
  have : ¬ 65536 < E.length := by omega
  simp only [wrS, ho, this, Bool.true_eq_false, if_false, strOf_append, wrF_P, dat_P, puts, app_as]
theorem okOrd_asc : ∀ E : List (Int × ByteArray), okOrd E = true ↔ Asc E
  | [] => by simp [okOrd]
  | [x] => by simp [okOrd]
  | x :: y :: l => by
    have := okOrd_asc (y :: l)
    simp only [okOrd, Bool.and_eq_true, decide_eq_true_eq, this, Asc, List.pairwise_cons, List.mem_cons]
    constructor
    · rintro ⟨h1, h2, h3⟩
      refine ⟨?_, h2, h3⟩
      rintro z (rfl | hz)
      · exact h1
      · exact Int.lt_trans h1 (h2 z hz)
    · rintro ⟨h1, h2, h3⟩
      exact ⟨h1 y (Or.inl rfl), h2, h3⟩
/-- What comes behind the entries L. -/
def nxt (L : List (Int × Int)) : Int := if L = [] then 0 else IntKind.u64.wrap ((L.getLastD (0, 0)).1 + 1)
theorem nxt_snoc (L : List (Int × Int)) (x : Int × Int) : nxt (L ++ [x]) = IntKind.u64.wrap (x.1 + 1) := by simp [nxt]
theorem numS0 (s : ByteArray) : numS s 0 = gets s := if_pos rfl
theorem last_lt {L : List (Int × Int)} {k : Int} (hL : L ≠ []) (h : ∀ x ∈ L, x.1 < k) : (L.getLastD (0, 0)).1 < k := by
  rw [List.getLastD_eq_getLast?, List.getLast?_eq_some_getLast hL]
  exact h _ (List.getLast_mem hL)
theorem last_ge {L : List (Int × Int)} (hL : L ≠ []) (h : ∀ x ∈ L, 0 ≤ x.1 ∧ x.1 ≤ 18446744073709551615) : 0 ≤ (L.getLastD (0, 0)).1 ∧ (L.getLastD (0, 0)).1 ≤ 18446744073709551615 := by
  rw [List.getLastD_eq_getLast?, List.getLast?_eq_some_getLast hL]
  exact h _ (List.getLast_mem hL)
theorem slot1_put (L : List (Int × Int)) (hr : ∀ x ∈ L, 0 ≤ x.1 ∧ x.1 ≤ 18446744073709551615) (k : Int) (z : Nat) (hk : 0 ≤ k ∧ k ≤ 18446744073709551615) (hz : z ≤ 9223372036854775807) (hlt : ∀ x ∈ L, x.1 < k) (t : ByteArray) :
    slot1 L ((puts (IntKind.u64.wrap (k - nxt L)) ++ puts z) ++ t) = ((k, (z : Int)), t, 0) := by
  have hg := wrap_range (k - nxt L)
  have e1 := gets_puts hg.1 hg.2 (puts z ++ t)
  have e2 := gets_puts (n := (z : Int)) (by omega) (by omega) t
  by_cases hL : L = []
  · subst hL
    have e3 : IntKind.u64.wrap (k - nxt []) = k := by rw [nxt, if_pos rfl, Int.sub_zero]; exact wu64 hk.1 hk.2
    rw [e3] at e1 ⊢
    simp [slot1, app_as, numS0, e1, e2]
  · have h1 := last_lt hL hlt
    have h2 := last_ge hL hr
    simp only [slot1, app_as, numS0, e1]
    simp only [nxt, if_neg hL] at hg ⊢
    rw [wu64 (n := (L.getLastD (0, 0)).1 + 1) (by omega) (by omega)] at hg ⊢
    rw [wu64 (n := k - ((L.getLastD (0, 0)).1 + 1)) (by omega) (by omega)]
    rw [if_pos ⟨hL, trivial⟩, if_neg (by omega), numS0, e2, show k - ((L.getLastD (0, 0)).1 + 1) + ((L.getLastD (0, 0)).1 + 1) = k by omega, wu64 hk.1 hk.2]
theorem slotsF_put : ∀ (E : List (Int × ByteArray)) (L : List (Int × Int)) (t : ByteArray), Asc E → (∀ x ∈ E, 0 ≤ x.1 ∧ x.1 ≤ 18446744073709551615) → (∀ x ∈ E, x.2.size ≤ 9223372036854775807) → (∀ x ∈ L, 0 ≤ x.1 ∧ x.1 ≤ 18446744073709551615) → (∀ x ∈ L, ∀ y ∈ E, x.1 < y.1) →
    slotsF E.length L (wrP E (nxt L) ++ t) 0 = (L ++ E.map (fun x => (x.1, (x.2.size : Int))), t, 0)
  | [], L, t, _, _, _, _, _ => by simp [slotsF, wrP, nil_app]
  | x :: E, L, t, ha, hk, hz, hr, hl => by
    have hx := hk x (by simp)
    have e := slot1_put L hr x.1 x.2.size hx (hz x (by simp)) (fun y hy => hl y hy x (by simp)) (wrP E (IntKind.u64.wrap (x.1 + 1)) ++ t)
    have ih := slotsF_put E (L ++ [(x.1, (x.2.size : Int))]) t (List.pairwise_cons.1 ha).2 (fun y hy => hk y (by simp [hy])) (fun y hy => hz y (by simp [hy]))
      (fun y hy => by rcases List.mem_append.1 hy with h | h; exact hr y h; simp at h; subst h; exact hx)
      (fun y hy w hw => by rcases List.mem_append.1 hy with h | h; exact hl y h w (by simp [hw]); simp at h; subst h; exact (List.pairwise_cons.1 ha).1 w hw)
    rw [nxt_snoc] at ih
    simp only [List.length_cons, slotsF, ne_eq, not_true_eq_false, if_false, wrP]
    rw [app_as (puts _ ++ puts _), e, ih]
    simp
theorem datF_put : ∀ (E E0 : List (Int × ByteArray)) (s : ByteArray), datF (E.map fun x => (x.1, (x.2.size : Int))) E0 (datP E ++ s) = some (E0 ++ E, s)
  | [], E0, s => by simp [datF, datP, nil_app]
  | x :: E, E0, s => by
    have e0 : (datP (x :: E) ++ s) = x.2 ++ (datP E ++ s) := by simp only [datP, app_as]
    have hl : ¬ (((x.2 ++ (datP E ++ s)).size : Nat) : Int) < (x.2.size : Int) := by rw [app_size]; omega
    have hle : x.2.size ≤ (x.2 ++ (datP E ++ s)).size := by rw [app_size]; omega
    have e1 : (x.2 ++ (datP E ++ s)).extract 0 x.2.size = x.2 := bytesOf_inj (by
      rw [bytesOf_extract _ _ _ hle, bytesOf_append, List.drop_zero, List.take_append_of_le_length (by rw [bytesOf_length]; exact Nat.le_refl _), List.take_of_length_le (by rw [bytesOf_length]; exact Nat.le_refl _)])
    have e2 : (x.2 ++ (datP E ++ s)).extract x.2.size (x.2 ++ (datP E ++ s)).size = datP E ++ s := bytesOf_inj (by
      rw [bytesOf_extract _ _ _ (Nat.le_refl _), List.take_of_length_le (by rw [bytesOf_length]; exact Nat.le_refl _), bytesOf_append, List.drop_left' (bytesOf_length _)])
    have ih := datF_put E (E0 ++ [x]) s
    rw [e0]
    simp only [List.map_cons, datF, hl, if_false, dat1, Int.toNat_natCast, e1, e2]
    rw [ih]; simp
/-- What is written is read. -/
theorem read_write {E : List (Int × ByteArray)} (ho : okOrd E = true) (hn : E.length ≤ 65536) (hk : ∀ x ∈ E, 0 ≤ x.1 ∧ x.1 ≤ 18446744073709551615) (hz : ∀ x ∈ E, x.2.size ≤ 9223372036854775807) (s : ByteArray) : readS ((wrS E).1 ++ s) = (E, s, 0) := by
  rw [wrS_ok ho hn]
  have e1 := gets_puts (n := (E.length : Int)) (by omega) (by omega) ((wrP E 0 ++ datP E) ++ s)
  have hs : slotsR ((puts E.length ++ (wrP E 0 ++ datP E)) ++ s) = (E.map (fun x => (x.1, (x.2.size : Int))), datP E ++ s, 0) := by
    have := slotsF_put E [] (datP E ++ s) ((okOrd_asc E).1 ho) hk hz (by simp) (by simp)
    rw [nxt, if_pos rfl, List.nil_append] at this
    simp only [slotsR, numS0, app_as] at e1 ⊢
    rw [e1]
    simp only [Int.toNat_natCast]
    rw [if_neg (by omega), this]
  simp only [readS, hs, ne_eq, not_true_eq_false, if_false]
  have := datF_put E [] s
  rw [List.nil_append] at this
  rw [this]
def wrKs : List (Int × Int) → Int → ByteArray
  | [], _ => strOfNums []
  | x :: l, nx => (puts (IntKind.u64.wrap (x.1 - nx)) ++ puts x.2) ++ wrKs l (IntKind.u64.wrap (x.1 + 1))
theorem wrKs_P : ∀ (E : List (Int × ByteArray)) (nx : Int), wrKs (E.map fun x => (x.1, (x.2.size : Int))) nx = wrP E nx
  | [], _ => rfl
  | x :: l, nx => by simp only [List.map_cons, wrKs, wrP, wrKs_P l]
theorem slot1_got {L : List (Int × Int)} (hr : ∀ x ∈ L, 0 ≤ x.1 ∧ x.1 ≤ 18446744073709551615) {s : ByteArray} (hw : (slot1 L s).2.2 = 0) :
    s = (puts (IntKind.u64.wrap ((slot1 L s).1.1 - nxt L)) ++ puts (slot1 L s).1.2) ++ (slot1 L s).2.1 ∧ 0 ≤ (slot1 L s).1.2 := by
  obtain ⟨n, r, w, hg⟩ : ∃ n r w, gets s = (n, r, w) := ⟨_, _, _, rfl⟩
  by_cases hL : L = []
  · subst hL
    simp only [slot1, numS0, hg, nxt] at hw ⊢
    simp only [ne_eq, not_true_eq_false, false_and, if_false, if_true, Int.sub_zero] at hw ⊢
    by_cases h0 : w = 0
    · subst h0
      obtain ⟨rfl, h1, h2⟩ := gets_ok hg
      obtain ⟨n2, r2, w2, hg2⟩ : ∃ n r1 w, gets r = (n, r1, w) := ⟨_, _, _, Prod.ext rfl (Prod.ext rfl rfl)⟩
      simp only [numS0, hg2] at hw ⊢
      subst hw
      obtain ⟨rfl, h3, h4⟩ := gets_ok hg2
      rw [wu64 h1 h2, app_as]
      exact ⟨rfl, h3⟩
    · rw [numS_e _ h0] at hw
      exact absurd hw h0
  · have h2 := last_ge hL hr
    simp only [slot1, numS0, hg, nxt, if_neg hL] at hw ⊢
    by_cases hc : L ≠ [] ∧ w = 0 ∧ ((L.getLastD (0, 0)).1 = 18446744073709551615 ∨ n > 18446744073709551615 - (L.getLastD (0, 0)).1 - 1)
    · rw [if_pos hc, numS_e _ (by decide)] at hw
      simp at hw
    · rw [if_neg hc] at hw ⊢
      by_cases h0 : w = 0
      · subst h0
        have hc' : ¬ ((L.getLastD (0, 0)).1 = 18446744073709551615 ∨ n > 18446744073709551615 - (L.getLastD (0, 0)).1 - 1) := fun h => hc ⟨hL, rfl, h⟩
        obtain ⟨rfl, h1, h3⟩ := gets_ok hg
        obtain ⟨n2, r2, w2, hg2⟩ : ∃ n r1 w, gets r = (n, r1, w) := ⟨_, _, _, Prod.ext rfl (Prod.ext rfl rfl)⟩
        simp only [numS0, hg2] at hw ⊢
        subst hw
        obtain ⟨rfl, h4, h5⟩ := gets_ok hg2
        rw [if_pos ⟨hL, trivial⟩, wu64 (n := (L.getLastD (0, 0)).1 + 1) (by omega) (by omega), wu64 (n := n + ((L.getLastD (0, 0)).1 + 1)) (by omega) (by omega),
          show n + ((L.getLastD (0, 0)).1 + 1) - ((L.getLastD (0, 0)).1 + 1) = n by omega, wu64 h1 h3, app_as]
        exact ⟨rfl, h4⟩
      · rw [numS_e _ h0] at hw
        exact absurd hw h0
theorem slotsF_got : ∀ (n : Nat) (L : List (Int × Int)) (s : ByteArray), (∀ x ∈ L, 0 ≤ x.1 ∧ x.1 ≤ 18446744073709551615) → (slotsF n L s 0).2.2 = 0 →
    ∃ K, (slotsF n L s 0).1 = L ++ K ∧ K.length = n ∧ (∀ x ∈ K, 0 ≤ x.2) ∧ s = wrKs K (nxt L) ++ (slotsF n L s 0).2.1
  | 0, L, s, _, _ => ⟨[], by simp [slotsF], rfl, by simp, by simp [wrKs, slotsF, nil_app]⟩
  | n + 1, L, s, hr, hw => by
    rw [slotsF, if_neg (by simp)] at hw ⊢
    by_cases h1 : (slot1 L s).2.2 = 0
    · have hs := slot1_got hr h1
      have hk := slot1_key L s
      rw [h1] at hw ⊢
      obtain ⟨K, k1, k2, k3, k4⟩ := slotsF_got n (L ++ [(slot1 L s).1]) (slot1 L s).2.1 (fun x hx => by rcases List.mem_append.1 hx with h | h; exact hr x h; simp at h; subst h; exact hk) hw
      refine ⟨(slot1 L s).1 :: K, by rw [k1]; simp, by simp [k2], fun x hx => ?_, ?_⟩
      · rcases List.mem_cons.1 hx with rfl | hx
        · exact hs.2
        · exact k3 x hx
      · rw [nxt_snoc] at k4
        rw [wrKs, app_as, ← k4]
        exact hs.1
    · rw [slotsF_err _ _ _ h1] at hw
      exact absurd hw h1
theorem datF_got : ∀ (L : List (Int × Int)) (E E' : List (Int × ByteArray)) (r r' : ByteArray), (∀ x ∈ L, 0 ≤ x.2) → datF L E r = some (E', r') → ∃ F, E' = E ++ F ∧ F.map (fun x => (x.1, (x.2.size : Int))) = L ∧ r = datP F ++ r'
  | [], E, E', r, r', _, h => by
    simp only [datF, Option.some.injEq, Prod.mk.injEq] at h
    exact ⟨[], by simp [h.1], rfl, by simp [datP, nil_app, h.2]⟩
  | x :: L, E, E', r, r', hL, h => by
    rw [datF] at h
    split at h
    · cases h
    · rename_i hc
      have hx := hL x (by simp)
      have hle : x.2.toNat ≤ r.size := by omega
      obtain ⟨F, f1, f2, f3⟩ := datF_got L _ E' _ r' (fun y hy => hL y (by simp [hy])) h
      refine ⟨dat1 x r :: F, by rw [f1]; simp, ?_, ?_⟩
      · have : (dat1 x r).2.size = x.2.toNat := by
          rw [← bytesOf_length, dat1, bytesOf_extract _ _ _ hle, List.drop_zero, List.length_take, bytesOf_length]; omega
        simp only [List.map_cons, f2, this]
        congr 1
        ext
        · rfl
        · simp only; omega
      · simp only [datP, app_as, ← f3, dat1]
        apply bytesOf_inj
        rw [bytesOf_append, bytesOf_extract _ _ _ hle, bytesOf_extract _ _ _ (Nat.le_refl _), List.drop_zero, List.take_of_length_le (i := r.size) (by rw [bytesOf_length]; exact Nat.le_refl _), List.take_append_drop]
/-- What is read has its bytes. -/
theorem write_read {s : ByteArray} (hs : s.size ≤ 9223372036854775807) (hw : (readS s).2.2 = 0) : wrS (readS s).1 = ((wrS (readS s).1).1, 0) ∧ (wrS (readS s).1).1 ++ (readS s).2.1 = s ∧ dsz (readS s).1 ≤ s.size := by
  have ha := readS_asc s
  have hl := readS_len hs
  rw [wrS_ok ((okOrd_asc _).2 ha) hl]
  refine ⟨rfl, ?_⟩
  unfold readS at hw hl ⊢
  split at hw
  · rename_i h; exact absurd hw h
  · rename_i h00
    have h0 : (slotsR s).2.2 = 0 := by simpa using h00
    rw [if_neg h00] at hl ⊢
    cases hd : datF (slotsR s).1 [] (slotsR s).2.1 with
    | none => rw [hd] at hw; simp at hw
    | some x =>
      obtain ⟨E, r⟩ := x
      rw [hd] at hl
      simp only at hl ⊢
      clear h00 hw ha
      unfold slotsR at h0 hd
      split at h0
      · simp at h0
      · rename_i hc
        rw [if_neg hc] at hd
        obtain ⟨n, s1, w1, hg⟩ : ∃ n r w, gets s = (n, r, w) := ⟨_, _, _, rfl⟩
        simp only [numS0, hg] at h0 hd hc
        by_cases h1 : w1 = 0
        · subst h1
          obtain ⟨rfl, g1, g2⟩ := gets_ok hg
          obtain ⟨K, k1, k2, k3, k4⟩ := slotsF_got n.toNat [] s1 (by simp) h0
          rw [k1, List.nil_append] at hd
          obtain ⟨F, f1, f2, f3⟩ := datF_got K [] E _ r k3 hd
          rw [List.nil_append] at f1
          subst f1
          have hn : ((E.length : Nat) : Int) = n := by
            have := congrArg List.length f2
            rw [List.length_map] at this
            omega
          rw [f3, ← f2, wrKs_P, nxt, if_pos rfl] at k4
          refine ⟨by rw [hn, k4]; simp only [app_as], ?_⟩
          rw [k4]
          simp only [app_size, datP_size]
          omega
        · rcases gets_err s with h | h | h
          · rw [hg] at h; exact absurd h h1
          · rw [hg] at h; cases h; simp [slotsF] at h0
          · rw [hg] at h; cases h; simp [slotsF] at h0
end Go.Proofs.Ytpmoellbfgcefaa.AS
end
section
set_option autoImplicit false
set_option maxRecDepth 100000
set_option maxHeartbeats 1000000
namespace Go.Proofs.Ytpmoellbfgcefaa.AS
open Go Go.Proofs Go.RowKit Go.Proofs.Ytpmoellbfgcefaa.AS.V

/-- Numbers that rise from a bound on. -/
def asc : Int → List Int → Prop
  | _, [] => True
  | b, x :: l => b ≤ x ∧ x ≤ 4294967295 ∧ asc (x + 1) l
theorem asc_le {b c : Int} (h : c ≤ b) : ∀ {l : List Int}, asc b l → asc c l
  | [], _ => trivial
  | _ :: _, ⟨h1, h2, h3⟩ => ⟨by omega, h2, h3⟩
theorem okW_asc : ∀ {L : List Int} {b : Int}, asc b L → okW L = true
  | [], _, _ => rfl
  | [_], _, _ => rfl
  | x :: y :: l, _, ⟨_, _, h⟩ => by
    simp only [okW, Bool.and_eq_true, decide_eq_true_eq]
    exact ⟨by have := h.1; omega, okW_asc h⟩
theorem asc_okW : ∀ {L : List Int}, okW L = true → (∀ x ∈ L, 0 ≤ x ∧ x ≤ 4294967295) → asc 0 L
  | [], _, _ => trivial
  | x :: l, h, hr => by
    have hx := hr x (by simp)
    refine ⟨hx.1, hx.2, ?_⟩
    have go : ∀ {l : List Int} {x : Int}, okW (x :: l) = true → (∀ y ∈ l, 0 ≤ y ∧ y ≤ 4294967295) → asc (x + 1) l := by
      intro l
      induction l with
      | nil => intros; trivial
      | cons y l ih =>
        intro x h hr
        simp only [okW, Bool.and_eq_true, decide_eq_true_eq] at h
        exact ⟨by omega, (hr y (by simp)).2, ih h.2 (fun z hz => hr z (by simp [hz]))⟩
    exact go h (fun y hy => hr y (by simp [hy]))
theorem ext_l (a b : ByteArray) : (a ++ b).extract 0 a.size = a := by
  apply bytesOf_inj
  rw [bytesOf_extract _ _ _ (by rw [app_size]; omega), bytesOf_append, List.drop_zero, ← bytesOf_length a, List.take_left]
theorem ext_r (a b : ByteArray) : (a ++ b).extract a.size (a ++ b).size = b := by
  apply bytesOf_inj
  rw [bytesOf_extract _ _ _ (Nat.le_refl _), bytesOf_append, app_size, ← bytesOf_length a, ← bytesOf_length b, List.take_of_length_le (by simp), List.drop_left]
theorem ext_cut (s : ByteArray) (n : Nat) (h : n ≤ s.size) : s.extract 0 n ++ s.extract n s.size = s := by
  apply bytesOf_inj
  rw [bytesOf_append, bytesOf_extract _ _ _ h, bytesOf_extract _ _ _ (Nat.le_refl _), List.drop_zero, ← bytesOf_length s, List.take_length, List.take_append_drop]
theorem app_assoc (a b c : ByteArray) : (a ++ b) ++ c = a ++ (b ++ c) := by
  apply bytesOf_inj; simp only [bytesOf_append, List.append_assoc]
theorem app_nil (a : ByteArray) : a ++ ⟨#[]⟩ = a := by
  apply bytesOf_inj; rw [bytesOf_append]; simp [bytesOf]
theorem strOf_nil : strOfNums [] = ⟨#[]⟩ := rfl
theorem wu32' (n : Int) : IntKind.u32.wrap n = n % 4294967296 := by
  unfold IntKind.wrap
  simp only [IntKind.bits, IntKind.signed, Bool.false_and]
  rfl
theorem gapW_eq {x y : Int} (h0 : 0 ≤ x) (h : x + 1 ≤ y) (hy : y ≤ 4294967295) : gapW x y = y - x - 1 := by
  unfold gapW
  rw [wu32', wu32', wu64'] <;> omega
theorem restG_put : ∀ (l O : List Int) (n : Int) (t : ByteArray), 0 ≤ n → asc (n + 1) l → restG l.length O (strOfNums (restF (n :: l)) ++ t) n = some (O ++ l, t)
  | [], O, n, t, _, _ => by rw [show restF [n] = [] from rfl, nil_app]; simp [restG]
  | y :: l, O, n, t, h0, ⟨h1, h2, h3⟩ => by
    have hg := gapW_eq h0 h1 h2
    have e := gets_puts (n := gapW n y) (by omega) (by omega) (strOfNums (restF (y :: l)) ++ t)
    have e2 : strOfNums (restF (n :: y :: l)) ++ t = puts (gapW n y) ++ (strOfNums (restF (y :: l)) ++ t) := by
      rw [restF, strOf_append, app_assoc]; rfl
    rw [List.length_cons, restG, e2, e]
    simp only
    rw [if_neg (by omega), hg, show n + (y - n - 1 + 1) = y by omega, restG_put l (O ++ [y]) y t (by omega) h3]
    simp
theorem restG_ok : ∀ (k : Nat) (O : List Int) (s : ByteArray) (n : Int) (O' : List Int) (s' : ByteArray), 0 ≤ n → restG k O s n = some (O', s') → ∃ l, O' = O ++ l ∧ l.length = k ∧ s = strOfNums (restF (n :: l)) ++ s' ∧ asc (n + 1) l
  | 0, O, s, n, O', s', _, h => by
    simp only [restG, Option.some.injEq, Prod.mk.injEq] at h
    obtain ⟨rfl, rfl⟩ := h
    exact ⟨[], by simp, rfl, by rw [show restF [n] = [] from rfl, nil_app], trivial⟩
  | k + 1, O, s, n, O', s', h0, h => by
    simp only [restG] at h
    split at h
    · cases h
    · rename_i hc
      obtain ⟨g, r, w, hg⟩ : ∃ g r w, gets s = (g, r, w) := ⟨_, _, _, rfl⟩
      rw [hg] at hc h
      simp only at hc h
      obtain rfl : w = 0 := by omega
      obtain ⟨hs, hg0, hg1⟩ := gets_ok hg
      obtain ⟨l, e1, e2, e3, e4⟩ := restG_ok k _ _ _ O' s' (by omega) h
      refine ⟨(n + (g + 1)) :: l, by rw [e1]; simp, by simp [e2], ?_, ⟨by omega, by omega, e4⟩⟩
      rw [hs, e3, restF, gapW_eq h0 (by omega) (by omega), strOf_append, app_assoc, show n + (g + 1) - n - 1 = g by omega]
      rfl
/-- A block put, and read again. -/
theorem blkR_put (x : Int) (l : List Int) (left last : Int) (sm : Bool) (t : ByteArray) (hl : ((x :: l).length : Int) = if 32 < left then 32 else left) (h0 : 0 ≤ last) (h : asc (if sm then last + 1 else last) (x :: l)) :
    blkR (strOfNums (blkS (x :: l) last) ++ t) left last sm = (x :: l, t, left - (x :: l).length, (x :: l).getLastD 0, true, 0) := by
  obtain ⟨a, b, c, ha, hb, hc, he⟩ := blkR_eq (strOfNums (blkS (x :: l) last) ++ t) left last sm
  obtain ⟨h1, h2, h3⟩ := h
  have hx : last ≤ x := by split at h1 <;> omega
  have hn : (x :: l).length ≤ 32 := by have : ((x :: l).length : Int) ≤ 32 := by rw [hl]; split <;> omega
                                       omega
  have hd : IntKind.u64.wrap (IntKind.u32.wrap (x - last)) = x - last := by rw [wu32', wu64'] <;> omega
  have e0 : strOfNums (blkS (x :: l) last) ++ t = puts (x - last) ++ (puts (x :: l).length ++ (puts (restF (x :: l)).length ++ (strOfNums (restF (x :: l)) ++ t))) := by
    rw [blkS, List.headD_cons, hd, strOf_append, strOf_append, strOf_append, app_assoc, app_assoc, app_assoc]; rfl
  have hrl := restF_len (x :: l)
  have g1 := gets_puts (n := x - last) (by omega) (by omega) (puts (x :: l).length ++ (puts (restF (x :: l)).length ++ (strOfNums (restF (x :: l)) ++ t)))
  have g2 := gets_puts (n := ((x :: l).length : Int)) (by omega) (by omega) (puts (restF (x :: l)).length ++ (strOfNums (restF (x :: l)) ++ t))
  have g3 := gets_puts (n := ((restF (x :: l)).length : Int)) (by omega) (by omega) (strOfNums (restF (x :: l)) ++ t)
  rw [e0] at ha
  have ha' : a = (x - last, puts (x :: l).length ++ (puts (restF (x :: l)).length ++ (strOfNums (restF (x :: l)) ++ t)), 0) := by
    rw [ha, numR, g1, if_neg (by simp), if_neg]
    simp only
    split at h1 <;> rename_i hsm <;> simp only [hsm, if_true, if_false] <;> simp <;> omega
  have hb' : b = (((x :: l).length : Int), puts (restF (x :: l)).length ++ (strOfNums (restF (x :: l)) ++ t), 0) := by
    rw [hb, ha', ← hl, numR]
    simp only
    rw [g2, if_neg (by simp), if_neg]
    simp only
    omega
  have hc' : c = (((restF (x :: l)).length : Int), strOfNums (restF (x :: l)) ++ t, 0) := by
    rw [hc, hb', numR]
    simp only
    rw [g3, if_neg (by simp), if_neg]
    simp only
    omega
  have hsz : (strOfNums (restF (x :: l))).size = (restF (x :: l)).length := strOfNums_size _
  have hr := restG_put l [x] x ⟨#[]⟩ (by omega) h3
  rw [app_nil] at hr
  rw [he, hc', ha', ← hl]
  simp only
  rw [show last + (x - last) = x by omega, wu64 (by omega) (by omega)]
  unfold blkE
  simp only
  rw [if_neg (by simp), if_neg (by omega), if_neg (by rw [app_size, hsz]; omega), ← hsz, Int.toNat_natCast, Int.toNat_natCast, ext_l, ext_r, List.length_cons, Nat.add_sub_cancel, hr]
  simp
/-- A block read is one that was put. -/
theorem blkR_got {s : ByteArray} {left last : Int} {sm : Bool} (hl : 1 ≤ left) (h0 : 0 ≤ last ∧ last ≤ 4294967295) (hw : (blkR s left last sm).2.2.2.2.2 = 0) :
    ∃ x l, blkR s left last sm = (x :: l, (blkR s left last sm).2.1, left - (x :: l).length, (x :: l).getLastD 0, true, 0) ∧ ((x :: l).length : Int) = (if 32 < left then 32 else left) ∧ asc (if sm then last + 1 else last) (x :: l) ∧ s = strOfNums (blkS (x :: l) last) ++ (blkR s left last sm).2.1 := by
  obtain ⟨a, b, c, ha, hb, hc, he⟩ := blkR_eq s left last sm
  have hlen := (blkR_left hl hw).2
  rw [he] at hw hlen ⊢
  generalize hwt : (if 32 < left then 32 else left) = want at *
  have hwr : 1 ≤ want ∧ want ≤ 32 := by rw [← hwt]; split <;> omega
  unfold blkE at hw hlen ⊢
  split at hw
  · rename_i h; exact absurd hw h
  · rename_i h1
    rw [if_neg h1] at hlen ⊢
    split at hw
    · simp at hw
    · rename_i h2
      rw [if_neg h2] at hlen ⊢
      split at hw
      · simp at hw
      · rename_i h3
        rw [if_neg h3] at hlen ⊢
        split at hw
        · simp at hw
        · rename_i O s' hG
          split at hw
          · rename_i h4
            simp only [hG, if_pos h4] at hlen ⊢
            subst h4
            have hc0 : c.2.2 = 0 := by simpa using h1
            obtain ⟨hb0, hc1, hc2⟩ := numR_ok (hc ▸ hc0)
            rw [← hc] at hc1 hc2
            obtain ⟨ha0, hb1, hb2⟩ := numR_ok (hb ▸ hb0)
            rw [← hb] at hb1 hb2
            obtain ⟨_, ha1, ha2⟩ := numR_ok (ha ▸ ha0)
            rw [← ha] at ha1 ha2
            have hbw : b.1 = want := by omega
            have gg : ∀ (s : ByteArray) (w x y : Int), (numR s w x y).2.2 = 0 → s = puts (numR s w x y).1 ++ (numR s w x y).2.1 := by
              intro s w x y h
              have := numR_ok h
              unfold numR at h ⊢
              split at h
              · rename_i hw; exact absurd h hw
              · rename_i hw
                rw [if_neg hw]
                split at h
                · simp at h
                · rename_i hcc
                  rw [if_neg hcc]
                  exact (gets_ok (s := s) (n := (gets s).1) (r := (gets s).2.1) (Prod.ext rfl (Prod.ext rfl h))).1
            have s1 := gg _ _ _ _ (ha ▸ ha0)
            have s2 := gg _ _ _ _ (hb ▸ hb0)
            have s3 := gg _ _ _ _ (hc ▸ hc0)
            rw [← ha] at s1; rw [← hb] at s2; rw [← hc] at s3
            have hwa : IntKind.u64.wrap (last + a.1) = last + a.1 := wu64 (by split at ha1 <;> omega) (by omega)
            rw [hwa] at hG h2
            have ha10 : 0 ≤ a.1 := by split at ha1 <;> omega
            obtain ⟨l, e1, e2, e3, e4⟩ := restG_ok _ _ _ _ _ _ (by omega) hG
            rw [app_nil] at e3
            have hO : O = (last + a.1) :: l := by rw [e1]; rfl
            have hcz : c.1.toNat ≤ c.2.1.size := by omega
            refine ⟨last + a.1, l, by rw [hO], by rw [← hO]; exact hlen, ⟨by split at ha1 <;> rename_i hsm <;> simp [hsm] <;> omega, by omega, e4⟩, ?_⟩
            have hlc : ((restF ((last + a.1) :: l)).length : Int) = c.1 := by
              have : (c.2.1.extract 0 c.1.toNat).size = c.1.toNat := by
                rw [← bytesOf_length, bytesOf_extract _ _ _ hcz, List.drop_zero, List.length_take, bytesOf_length]; omega
              rw [e3, strOfNums_size] at this
              omega
            have hd : IntKind.u64.wrap (IntKind.u32.wrap (last + a.1 - last)) = a.1 := by rw [wu32', wu64'] <;> omega
            have hn : (((last + a.1) :: l).length : Int) = b.1 := by rw [← hO, hlen, hbw]
            rw [blkS, List.headD_cons, hd, hlc, hn, strOf_append, strOf_append, strOf_append, app_assoc, app_assoc, app_assoc, ← e3, ext_cut _ _ hcz]
            exact s1.trans (by rw [s2, s3]; rfl)
          · simp at hw
theorem asc_split : ∀ {C D : List Int} {b : Int}, asc b (C ++ D) → asc b C ∧ asc (if C = [] then b else C.getLastD 0 + 1) D
  | [], D, b, h => ⟨trivial, by simpa using h⟩
  | [x], D, b, ⟨h1, h2, h3⟩ => ⟨⟨h1, h2, trivial⟩, by simpa using h3⟩
  | x :: y :: C, D, b, ⟨h1, h2, h3⟩ => by
    obtain ⟨i1, i2⟩ := asc_split (C := y :: C) h3
    refine ⟨⟨h1, h2, i1⟩, ?_⟩
    simpa using i2
theorem asc_join : ∀ {C D : List Int} {b : Int}, asc b C → asc (if C = [] then b else C.getLastD 0 + 1) D → asc b (C ++ D)
  | [], D, b, _, h => by simpa using h
  | [x], D, b, ⟨h1, h2, _⟩, h => ⟨h1, h2, by simpa using h⟩
  | x :: y :: C, D, b, ⟨h1, h2, h3⟩, h => ⟨h1, h2, asc_join (C := y :: C) h3 (by simpa using h)⟩
theorem asc_last : ∀ {C : List Int} {b : Int}, asc b C → C ≠ [] → b ≤ C.getLastD 0 ∧ C.getLastD 0 ≤ 4294967295
  | [], _, _, h => absurd rfl h
  | [x], b, ⟨h1, h2, _⟩, _ => ⟨by simpa using h1, by simpa using h2⟩
  | x :: y :: C, b, ⟨h1, h2, h3⟩, _ => by
    obtain ⟨i1, i2⟩ := asc_last (C := y :: C) h3 (by simp)
    have e : (x :: y :: C).getLastD 0 = (y :: C).getLastD 0 := by simp
    rw [e]
    exact ⟨by omega, i2⟩
/-- All put, and read again. -/
theorem unpF_put : ∀ (m k : Nat) (L : List Int) (last : Int) (sm : Bool) (t : ByteArray) (acc : List Int), m = (L.length + 31) / 32 → L.length ≤ k → 0 ≤ last → asc (if sm then last + 1 else last) L →
    ∃ la sm', unpF k (strOfNums (packF m L last) ++ t) L.length last sm 0 acc = (acc ++ L, t, 0, la, sm', 0)
  | 0, k, L, last, sm, t, acc, hm, hk, h0, h => by
    have : L = [] := List.length_eq_zero_iff.1 (by omega)
    subst this
    refine ⟨last, sm, ?_⟩
    rw [unpF_stop k (.inr (by simp)), packF, nil_app]
    simp
  | m + 1, k, L, last, sm, t, acc, hm, hk, h0, h => by
    obtain ⟨k, rfl⟩ : ∃ k', k = k' + 1 := ⟨k - 1, by omega⟩
    have hC : L.take 32 ++ L.drop 32 = L := List.take_append_drop 32 L
    obtain ⟨i1, i2⟩ := asc_split (C := L.take 32) (D := L.drop 32) (hC.symm ▸ h)
    have hne : L.take 32 ≠ [] := by
      intro e
      have := congrArg List.length e
      rw [List.length_take, List.length_nil] at this
      omega
    rw [if_neg hne] at i2
    have hll := asc_last i1 hne
    obtain ⟨x, l, hxl⟩ : ∃ x l, L.take 32 = x :: l := by
      cases hc : L.take 32 with
      | nil => exact absurd hc hne
      | cons x l => exact ⟨x, l, rfl⟩
    have hlt : (L.take 32).length = if L.length < 32 then L.length else 32 := by rw [List.length_take]; split <;> omega
    have hb := blkR_put x l L.length last sm (strOfNums (packF m (L.drop 32) ((x :: l).getLastD 0)) ++ t) (by rw [← hxl, hlt]; split <;> split <;> omega) h0 (hxl ▸ i1)
    rw [hxl] at i2 hll
    have e1 : strOfNums (packF (m + 1) L last) ++ t = strOfNums (blkS (x :: l) last) ++ (strOfNums (packF m (L.drop 32) ((x :: l).getLastD 0)) ++ t) := by
      rw [packF, hxl, strOf_append, app_assoc]
    have e2 : (L.length : Int) - (x :: l).length = (L.drop 32).length := by rw [← hxl, hlt, List.length_drop]; split <;> omega
    rw [unpF, if_neg (fun h => h.elim (fun h => h rfl) (fun h => h (by omega))), e1, hb]
    simp only
    rw [if_neg (by simp), e2]
    obtain ⟨la, sm', e3⟩ := unpF_put m k (L.drop 32) ((x :: l).getLastD 0) true t (acc ++ (x :: l)) (by rw [List.length_drop]; omega) (by rw [List.length_drop]; omega) (by split at hll <;> omega) (by simpa using i2)
    refine ⟨la, sm', ?_⟩
    rw [e3, List.append_assoc, ← hxl, hC]
/-- All read is what was put. -/
theorem unpF_got : ∀ (k : Nat) (s : ByteArray) (left last : Int) (sm : Bool) (acc : List Int), 0 ≤ left → left ≤ k → 0 ≤ last ∧ last ≤ 4294967295 → (unpF k s left last sm 0 acc).2.2.2.2.2 = 0 →
    ∃ M, (unpF k s left last sm 0 acc).1 = acc ++ M ∧ (M.length : Int) = left ∧ asc (if sm then last + 1 else last) M ∧ s = strOfNums (packF ((M.length + 31) / 32) M last) ++ (unpF k s left last sm 0 acc).2.1
  | 0, s, left, last, sm, acc, h0, hk, hl, hw => ⟨[], by simp [unpF], by simp; omega, trivial, by rw [show ((([] : List Int).length + 31) / 32) = 0 from rfl, packF, nil_app]; rfl⟩
  | k + 1, s, left, last, sm, acc, h0, hk, hl, hw => by
    by_cases hc : (0 : Int) ≠ 0 ∨ ¬ 0 < left
    · rw [unpF_stop _ hc]
      refine ⟨[], by simp, by simp; omega, trivial, by rw [show ((([] : List Int).length + 31) / 32) = 0 from rfl, packF, nil_app]⟩
    · have hl1 : 1 ≤ left := by omega
      rw [unpF, if_neg hc] at hw ⊢
      by_cases hw1 : (blkR s left last sm).2.2.2.2.2 = 0
      · rw [if_neg (by simpa using hw1)] at hw ⊢
        obtain ⟨x, l, e1, e2, e3, e4⟩ := blkR_got hl1 hl hw1
        generalize hs1 : (blkR s left last sm).2.1 = s1 at *
        rw [e1] at hw ⊢
        simp only at hw ⊢
        have hll := asc_last e3 (by simp)
        have hpos : 0 < (x :: l).length := by simp
        have h1n : ((x :: l).length : Int) ≤ left := by rw [e2]; split <;> omega
        have h2n : (x :: l).length ≤ 32 := by have : ((x :: l).length : Int) ≤ 32 := by rw [e2]; split <;> omega
                                              omega
        have hlast : 0 ≤ (x :: l).getLastD 0 := by split at hll <;> omega
        obtain ⟨M, m1, m2, m3, m4⟩ := unpF_got k s1 (left - (x :: l).length) ((x :: l).getLastD 0) true (acc ++ (x :: l)) (by omega) (by omega) ⟨hlast, hll.2⟩ hw
        rw [m1]
        refine ⟨(x :: l) ++ M, by simp, by rw [List.length_append]; omega, asc_join e3 (by simpa using m3), ?_⟩
        have hlM : ((x :: l) ++ M).length = (x :: l).length + M.length := List.length_append
        have ht : ((x :: l) ++ M).take 32 = x :: l ∧ ((x :: l) ++ M).drop 32 = M := by
          by_cases h32 : (x :: l).length = 32
          · exact ⟨by rw [← h32, List.take_left], by rw [← h32, List.drop_left]⟩
          · have : M = [] := List.length_eq_zero_iff.1 (by split at e2 <;> omega)
            subst this
            simp only [List.append_nil] at *
            exact ⟨List.take_of_length_le h2n, List.drop_of_length_le h2n⟩
        have hmm : (((x :: l) ++ M).length + 31) / 32 = (M.length + 31) / 32 + 1 := by
          rw [hlM]
          by_cases h32 : (x :: l).length = 32
          · omega
          · have : M.length = 0 := by split at e2 <;> omega
            have : 0 < (x :: l).length := by simp
            omega
        rw [hmm, packF, ht.1, ht.2, strOf_append, app_assoc, ← m4]
        exact e4
      · rw [if_pos hw1] at hw
        exact absurd hw hw1
theorem unpack_pack {L : List Int} (hc : chkS L = 0) (hr : ∀ x ∈ L, 0 ≤ x ∧ x ≤ 4294967295) (s : ByteArray) : unpackS ((packS L).1 ++ s) = (L, s, 0) := by
  have hp : packS L = (strOfNums (leb L.length ++ packF ((L.length + 31) / 32) L 0), 0) := by simp [packS, hc]
  have hL : okW L = true ∧ L.length ≤ 65536 := by
    unfold chkS at hc
    split at hc
    · simp at hc
    · split at hc
      · simp at hc
      · rename_i h1 h2
        exact ⟨by simpa using h1, by omega⟩
  have ha := asc_okW hL.1 hr
  have hg := gets_puts (n := (L.length : Int)) (by omega) (by omega) (strOfNums (packF ((L.length + 31) / 32) L 0) ++ s)
  have e0 : (packS L).1 ++ s = puts L.length ++ (strOfNums (packF ((L.length + 31) / 32) L 0) ++ s) := by rw [hp, strOf_append, app_assoc]; rfl
  have ho : openS ((packS L).1 ++ s) = (strOfNums (packF ((L.length + 31) / 32) L 0) ++ s, (((packS L).1 ++ s).size : Int), (L.length : Int), 0) := by
    unfold openS
    rw [e0, hg, if_neg (by simp), if_neg (by simp only; omega)]
  obtain ⟨la, sm', hu⟩ := unpF_put _ L.length L 0 false s [] rfl (Nat.le_refl _) (by omega) (by simpa using ha)
  unfold unpackS
  rw [ho]
  simp only [Int.toNat_natCast]
  rw [hu]
  simp
theorem pack_unpack {s : ByteArray} (hw : (unpackS s).2.2 = 0) : chkS (unpackS s).1 = 0 ∧ asc 0 (unpackS s).1 ∧ (unpackS s).1.length ≤ 65536 ∧ (packS (unpackS s).1).1 ++ (unpackS s).2.1 = s := by
  unfold unpackS at hw ⊢
  split at hw
  · rename_i h; exact absurd hw h
  · rename_i h1
    rw [if_neg h1]
    have h1 : (unpF (openS s).2.2.1.toNat (openS s).1 (openS s).2.2.1 0 false (openS s).2.2.2 []).2.2.2.2.2 = 0 := by simpa using h1
    simp only
    obtain ⟨r1, r2, _⟩ := openS_range s
    have hopen : (openS s).2.2.2 = 0 := by
      by_cases h : (openS s).2.2.2 = 0
      · exact h
      · rw [unpF_stop _ (.inl h)] at h1; exact absurd h1 h
    rw [hopen] at h1 ⊢
    have hsz : s = puts (openS s).2.2.1 ++ (openS s).1 := by
      unfold openS at hopen ⊢
      split at hopen
      · rename_i h; exact absurd hopen h
      · rename_i h
        rw [if_neg h]
        split at hopen
        · simp at hopen
        · rename_i h2
          rw [if_neg h2]
          exact (gets_ok (s := s) (n := (gets s).1) (r := (gets s).2.1) (Prod.ext rfl (Prod.ext rfl (by simpa using h)))).1
    obtain ⟨M, m1, m2, m3, m4⟩ := unpF_got (openS s).2.2.1.toNat (openS s).1 (openS s).2.2.1 0 false [] r1 (by omega) ⟨by omega, by omega⟩ h1
    rw [List.nil_append] at m1
    rw [m1]
    have hasc : asc 0 M := by simpa using m3
    have hck : chkS M = 0 := by
      unfold chkS
      rw [if_neg (by rw [okW_asc hasc]; simp), if_neg (by omega)]
    refine ⟨hck, hasc, by omega, ?_⟩
    have hp : packS M = (strOfNums (leb M.length ++ packF ((M.length + 31) / 32) M 0), 0) := by simp [packS, hck]
    rw [hp, strOf_append, app_assoc, ← m4, m2]
    exact hsz.symm
theorem unpack_err {s : ByteArray} (hw : (unpackS s).2.2 ≠ 0) : (unpackS s).1 = [] ∧ (unpackS s).2.1 = ⟨#[]⟩ := by
  unfold unpackS at hw ⊢
  split at hw
  · rename_i h; rw [if_pos h]; exact ⟨rfl, rfl⟩
  · exact absurd rfl hw
end Go.Proofs.Ytpmoellbfgcefaa.AS
end
section
set_option autoImplicit false
set_option maxRecDepth 100000
set_option maxHeartbeats 4000000
set_option linter.unusedSimpArgs false
namespace Go.Proofs.Ytpmoellbfgcefaa.AS
open Go Go.Proofs Go.RowKit Go.Proofs.Ytpmoellbfgcefaa.AS.V

theorem rowS_drop {h H : Heap} {a : AV} {K : List Int} {l : List AV} {us : List Value} (hl : toVs l = some us) (hr : rowS H a K) (h1 : ∀ b, b < h.length → bk H b = bk h b) (h2 : ∀ b, blkOf a = some b → h.length ≤ b) :
    Drops h (.tp (a :: l), H) (.tp (rowW h.length K :: l), rowWH h K) := by
  rcases hr with ⟨rfl, rfl⟩ | ⟨b, v, rfl, hb, hK⟩
  · exact Drops.flat (grows_of h1) (by simp [toV, toVs, hl])
  · obtain ⟨us', hu⟩ := flat_W K
    have e1 : rowW h.length K = .sl h.length 0 0 K.length 1 := if_neg hK
    have e2 : rowWH h K = h ++ [⟨0, 32, 1, true, K.map cellW⟩] := if_neg hK
    rw [e1, e2]
    exact Drops.fresh (k := ⟨v, 32, 1, true, K.map cellW⟩) (grows_of h1) (h2 b rfl) hb hu hl
theorem rowS_of {h : Heap} {a : AV} {K : List Int} (hr : rowS h a K) : rowWOf h a = some K := by
  rcases hr with ⟨rfl, rfl⟩ | ⟨b, v, rfl, hb, hK⟩
  · rfl
  · simp only [rowWOf]
    rw [hb, rdK_s, if_pos ⟨rfl, by simp⟩, List.drop_zero, List.take_of_length_le (by simp)]
    exact intsWA_U K
theorem rowWOf_grows {h h1 : Heap} (g : Grows h h1) {a : AV} {E : List Int} (e : rowWOf h a = some E) : rowWOf h1 a = some E := by
  unfold rowWOf at e ⊢
  split at e
  · exact e
  · rename_i b v o n
    cases hr : rdK (bk h b) v o n with
    | none => rw [hr] at e; cases e
    | some l => rw [rdK_grows g hr]; rw [hr] at e; exact e
  · cases e
theorem rowWH_grows (h : Heap) (K : List Int) : Grows h (rowWH h K) := by
  unfold rowWH; split
  · exact Grows.refl h
  · exact Grows.app h _
def hkPack : List AV → Heap → Option (AV × Heap)
  | [a], h => match rowWOf h a with
    | some L => if L.length ≤ 4611686018427387903 then some (.tp [.s (.string (packS L).1), .s (.int .i64 (packS L).2)], h) else none
    | none => none
  | _, _ => none
theorem hkPack_ok {T : FuncId → Option AFunc} (hm : Try.prog.follows .mixedOrders = true) (hT : TabOK Try.prog T) (hF : T 41 = prepFn Try.prog 41) (h20 : T 20 = some (.hook hkCheck)) (h58 : T 58 = prepFn Try.prog 58) (h65 : T 65 = prepFn Try.prog 65) (hc : callable Try.prog 41 = true) : HookSound Try.prog 41 hkPack := by
  refine hookOf hm hT hc fun l h r he => ?_
  unfold hkPack at he
  split at he
  · rename_i a
    split at he
    · rename_i L hA
      split at he
      · rename_i hn
        cases he
        obtain ⟨H, f1, f2⟩ := pack_run hm hT hF h20 h58 h65 h a L hA hn
        exact ⟨_, f1, Drops.flat (grows_of f2) rfl⟩
      · cases he
    · cases he
  · cases he
noncomputable def hkUnpack : List AV → Heap → Option (AV × Heap)
  | [.s (.string s)], h => if s.size ≤ 9223372036854775807 then some (.tp [rowW h.length (unpackS s).1, .s (.string (unpackS s).2.1), .s (.int .i64 (unpackS s).2.2)], rowWH h (unpackS s).1) else none
  | _, _ => none
theorem hkUnpack_ok {T : FuncId → Option AFunc} (hm : Try.prog.follows .mixedOrders = true) (hTab : TabOK Try.prog T) (hT : T 42 = prepFn Try.prog 42) (h66 : T 66 = prepFn Try.prog 66) (h67 : T 67 = prepFn Try.prog 67) (h82 : T 82 = prepFn Try.prog 82) (h88 : T 88 = prepFn Try.prog 88) (h89 : T 89 = prepFn Try.prog 89) (h60 : T 60 = some (.hook hkGet)) (hc : callable Try.prog 42 = true) : HookSound Try.prog 42 hkUnpack := by
  refine hookOf hm hTab hc fun l h r he => ?_
  unfold hkUnpack at he
  split at he
  · rename_i s
    split at he
    · rename_i hs
      cases he
      obtain ⟨H, a, f1, f2, f3, f4, f5⟩ := unpack_run hm hTab hT h66 h67 h82 h88 h89 h60 h s hs
      exact ⟨_, f1, rowS_drop (us := [.string (unpackS s).2.1, .int .i64 (unpackS s).2.2]) rfl f2 f3 f5⟩
    · cases he
  · cases he
theorem packs40 : isTrue (evFn Try.prog T0 400 40 [] []) = true := by kernel_rfl
theorem hkPacks_ok : HookSound Try.prog 40 fun l h => (hkYes l).map fun x => (x, h) := by
  have hc : callable Try.prog 40 = true := by kernel_rfl
  refine hook0 (T := T0) hm T0_ok (fun l x hx => ?_) hc
  unfold hkYes at hx
  split at hx
  · cases hx
    obtain ⟨H, h⟩ := isTrue_of packs40
    exact ⟨hc, ⟨[], rfl⟩, ⟨.bool true, rfl⟩, 400, H, h⟩
  · cases hx
noncomputable def P2 : FuncId → Option AFunc := over T1 20 hkCheck
theorem P2_ok : TabOK Try.prog P2 := over_ok T1_ok (hkCheck_ok hm T1_ok rfl (by kernel_rfl))
noncomputable def P3 : FuncId → Option AFunc := over P2 41 hkPack
theorem P3_ok : TabOK Try.prog P3 := over_ok P2_ok (hkPack_ok hm P2_ok rfl (over_same _ _ _) rfl rfl (by kernel_rfl))
noncomputable def P4 : FuncId → Option AFunc := over P3 42 hkUnpack
theorem P4_ok : TabOK Try.prog P4 := over_ok P3_ok (hkUnpack_ok hm P3_ok rfl rfl rfl rfl rfl rfl (by kernel_rfl) (by kernel_rfl))
noncomputable def P5 : FuncId → Option AFunc := over P4 19 hkSame19
theorem P5_ok : TabOK Try.prog P5 := over_ok P4_ok (hkSame19_ok hm P4_ok rfl (by kernel_rfl))
noncomputable def TP : FuncId → Option AFunc := over P5 40 fun l h => (hkYes l).map fun x => (x, h)
theorem TP_ok : TabOK Try.prog TP := over_ok P5_ok hkPacks_ok
theorem TP_40 : TP 40 = some (.hook fun l h => (hkYes l).map fun x => (x, h)) := over_same _ _ _
theorem TP_19 : TP 19 = some (.hook hkSame19) := (over_ne (T := P5) (f := 40) (by decide)).trans (over_same P4 19 hkSame19)
theorem TP_42 : TP 42 = some (.hook hkUnpack) := (over_ne (T := P5) (f := 40) (by decide)).trans ((over_ne (T := P4) (f := 19) (by decide)).trans (over_same P3 42 hkUnpack))
theorem TP_41 : TP 41 = some (.hook hkPack) := (over_ne (T := P5) (f := 40) (by decide)).trans ((over_ne (T := P4) (f := 19) (by decide)).trans ((over_ne (T := P3) (f := 42) (by decide)).trans (over_same P2 41 hkPack)))
theorem TP_9 : TP 9 = prepFn Try.prog 9 := rfl
end Go.Proofs.Ytpmoellbfgcefaa.AS
end
