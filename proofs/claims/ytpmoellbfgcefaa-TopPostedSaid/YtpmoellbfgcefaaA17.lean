/- Of our own: an abstract machine beside the model, its soundness, and walks of the program in it. -/
import Derived.Test.YtpmoellbfgcefaaA16
import Derived.Test.YtpmoellbfgcefaaA8
set_option linter.unusedSimpArgs false
set_option linter.unusedVariables false
section
set_option autoImplicit false
set_option maxRecDepth 100000
set_option maxHeartbeats 2000000
set_option linter.unusedSimpArgs false
namespace Go.Proofs.Ytpmoellbfgcefaa.AS
open Go Go.Proofs Go.RowKit Go.Proofs.Ytpmoellbfgcefaa.AS.V

theorem rq_loop {T : FuncId → Option AFunc} (s0 : ByteArray) (h0 : Heap) (bo bs m : Nat) (L : List (Int × Int)) (hL : L.length = m + 1) (hm : m < 65536) (hsz : ∀ x ∈ L, 0 ≤ x.2 ∧ x.2 ≤ 18446744073709551615) (many i : Int) : ∀ (d j : Nat) (h' : Heap) (E : List (Int × ByteArray)) (r : ByteArray), j + d = m + 1 → E.length = j → r.size ≤ 9223372036854775807 → InvQ h0 h' bo bs L E j → ∀ (a1 a7 a11 a12 a13 a14 a15 a16 a17 a18 a19 a20 a21 a22 a23 a24 a25 a26 a27 a28 a29 a30 a31 a32 a108 a109 : AV),
    (∀ E' r', datF (L.drop j) E r = some (E', r') → ∃ H tm', tm'.length = 110 ∧ tm'[6]? = some (.s (.string r')) ∧ tm'[8]? = some (.sl bo m 0 (m + 1) 2) ∧ InvQ h0 H bo bs L E' (m + 1) ∧ E'.length = m + 1 ∧ Run Try.prog T (.loop fg56b body56b) (fr56b s0 many r (.sl bo m 0 (m + 1) 2) (.sl bs m 0 (m + 1) 1) (.sl bs m 0 (m + 1) 1) i ((m : Int) + 1) j a1 a7 a11 a12 a13 a14 a15 a16 a17 a18 a19 a20 a21 a22 a23 a24 a25 a26 a27 a28 a29 a30 a31 a32 a108 a109) h' (.exit 2, tm', H)) ∧
    (datF (L.drop j) E r = none → ∃ tm' H, err3 tm' 5 ∧ (∀ b, b < h0.length → bk H b = bk h0 b) ∧ Run Try.prog T (.loop fg56b body56b) (fr56b s0 many r (.sl bo m 0 (m + 1) 2) (.sl bs m 0 (m + 1) 1) (.sl bs m 0 (m + 1) 1) i ((m : Int) + 1) j a1 a7 a11 a12 a13 a14 a15 a16 a17 a18 a19 a20 a21 a22 a23 a24 a25 a26 a27 a28 a29 a30 a31 a32 a108 a109) h' (.ret, tm', H)) := by
  have hfg : ∀ (rest : ByteArray) (out sizes sv : AV) (N j : Int) (a1 a7 a11 a12 a13 a14 a15 a16 a17 a18 a19 a20 a21 a22 a23 a24 a25 a26 a27 a28 a29 a30 a31 a32 a108 a109 : AV), forget fg56b (fr56b s0 many rest out sizes sv i N j a1 a7 a11 a12 a13 a14 a15 a16 a17 a18 a19 a20 a21 a22 a23 a24 a25 a26 a27 a28 a29 a30 a31 a32 a108 a109) = fr56b s0 many rest out sizes sv i N j a1 a7 a11 a12 a13 a14 a15 a16 a17 a18 a19 a20 a21 a22 a23 a24 a25 a26 a27 a28 a29 a30 a31 a32 a108 a109 := fun rest out sizes sv N j a1 a7 a11 a12 a13 a14 a15 a16 a17 a18 a19 a20 a21 a22 a23 a24 a25 a26 a27 a28 a29 a30 a31 a32 a108 a109 => by
    simp [forget, fg56b, tail56b, tail56, c56, fr56b]
  intro d
  induction d with
  | zero =>
    intro j h' E r hd hE hr hI a1 a7 a11 a12 a13 a14 a15 a16 a17 a18 a19 a20 a21 a22 a23 a24 a25 a26 a27 a28 a29 a30 a31 a32 a108 a109
    rw [List.drop_eq_nil_of_le (by omega)]
    refine ⟨fun E' r' he => ?_, fun he => by simp [datF] at he⟩
    simp only [datF, Option.some.injEq, Prod.mk.injEq] at he
    obtain ⟨rfl, rfl⟩ := he
    obtain ⟨tm', t1, t2, t3, t4⟩ := rq_end (T := T) s0 h' many r (.sl bo m 0 (m + 1) 2) (.sl bs m 0 (m + 1) 1) (.sl bs m 0 (m + 1) 1) i ((m : Int) + 1) j (by omega) a1 a7 a11 a12 a13 a14 a15 a16 a17 a18 a19 a20 a21 a22 a23 a24 a25 a26 a27 a28 a29 a30 a31 a32 a108 a109
    have hj : j = m + 1 := by omega
    exact ⟨h', tm', t1, t2, t3, hj ▸ hI, by omega, Run.loop_end_f (hfg _ _ _ _ _ _ a1 a7 a11 a12 a13 a14 a15 a16 a17 a18 a19 a20 a21 a22 a23 a24 a25 a26 a27 a28 a29 a30 a31 a32 a108 a109) (by simp) t4⟩
  | succ d ih =>
    intro j h' E r hd hE hr hI a1 a7 a11 a12 a13 a14 a15 a16 a17 a18 a19 a20 a21 a22 a23 a24 a25 a26 a27 a28 a29 a30 a31 a32 a108 a109
    obtain ⟨x, hx⟩ : ∃ x, L[j]? = some x := ⟨_, List.getElem?_eq_getElem (by omega)⟩
    obtain ⟨hlt, hx2⟩ := List.getElem?_eq_some_iff.1 hx
    have hxm : x ∈ L := hx2 ▸ List.getElem_mem hlt
    have e : L.drop j = x :: L.drop (j + 1) := by rw [List.drop_eq_getElem_cons hlt, hx2]
    rw [e]
    obtain ⟨z0, z1⟩ := hsz x hxm
    obtain ⟨k1, k2⟩ := rq_one (T := T) s0 h0 h' bo bs m j L E r hr hL hm (by omega) hE x hx z0 z1 hI many i a1 a7 a11 a12 a13 a14 a15 a16 a17 a18 a19 a20 a21 a22 a23 a24 a25 a26 a27 a28 a29 a30 a31 a32 a108 a109
    by_cases hs : (r.size : Int) < x.2
    · have e2 : datF (x :: L.drop (j + 1)) E r = none := by rw [datF, if_pos hs]
      rw [e2]
      refine ⟨fun E' r' he => (by cases he), fun _ => ?_⟩
      obtain ⟨tm', t1, t5⟩ := k1 hs
      exact ⟨tm', h', t1, hI.old, Run.loop_end_f (hfg _ _ _ _ _ _ a1 a7 a11 a12 a13 a14 a15 a16 a17 a18 a19 a20 a21 a22 a23 a24 a25 a26 a27 a28 a29 a30 a31 a32 a108 a109) (by simp) t5⟩
    · have e2 : datF (x :: L.drop (j + 1)) E r = datF (L.drop (j + 1)) (E ++ [dat1 x r]) (r.extract x.2.toNat r.size) := by rw [datF, if_neg hs]
      rw [e2]
      obtain ⟨H, a17', a18', tm1, t1, t2, t3⟩ := k2 hs
      have hsz2 : (r.extract x.2.toNat r.size).size ≤ 9223372036854775807 := by rw [ByteArray.size_extract]; omega
      obtain ⟨i1, i2⟩ := ih (j + 1) H (E ++ [dat1 x r]) (r.extract x.2.toNat r.size) (by omega) (by simp [hE]) hsz2 t2 a1 a7 a11 a12 a13 a14 a15 a16 a17' a18' a19 a20 a21 a22 a23 a24 a25 a26 a27 a28 a29 a30 a31 a32 a108 a109
      refine ⟨fun E' r' he => ?_, fun he => ?_⟩
      · obtain ⟨H2, tm2, y1, y2, y3, y4, y5, y6⟩ := i1 E' r' he
        exact ⟨H2, tm2, y1, y2, y3, y4, y5, Run.loop_go (hfg _ _ _ _ _ _ a1 a7 a11 a12 a13 a14 a15 a16 a17 a18 a19 a20 a21 a22 a23 a24 a25 a26 a27 a28 a29 a30 a31 a32 a108 a109) t3 t1 y6⟩
      · obtain ⟨tm2, H2, y1, y2, y3⟩ := i2 he
        exact ⟨tm2, H2, y1, y2, Run.loop_go (hfg _ _ _ _ _ _ a1 a7 a11 a12 a13 a14 a15 a16 a17 a18 a19 a20 a21 a22 a23 a24 a25 a26 a27 a28 a29 a30 a31 a32 a108 a109) t3 t1 y3⟩

/-- The second half: from behind the first loop. -/
theorem rq_tail {T : FuncId → Option AFunc} (s0 : ByteArray) (h0 h1 : Heap) (bo bs : Nat) (L : List (Int × Int)) (r : ByteArray) (hr : r.size ≤ 9223372036854775807) (hl : L.length ≤ 65536) (hsz : ∀ x ∈ L, 0 ≤ x.2 ∧ x.2 ≤ 18446744073709551615) (hI : InvR h0 h1 bo bs L) (many : Int) (a1 a7 a11 a12 a13 a14 a15 a16 a17 a18 a19 a20 a21 a22 a23 a24 a25 a26 a27 a28 a29 : AV) :
    ∃ H tm', tm'[2]? = some (rowE bo (match datF L [] r with | some (E, _) => E | none => [])) ∧ tm'[3]? = some (.s (.string (match datF L [] r with | some (_, r) => r | none => ⟨#[]⟩))) ∧ tm'[4]? = some (.s (.int .i64 (match datF L [] r with | some _ => 0 | none => 5))) ∧
      (∀ b, b < h0.length → bk H b = bk h0 b) ∧ h0.length ≤ H.length ∧ (∀ E r', datF L [] r = some (E, r') → E ≠ [] → h0.length ≤ bo ∧ bk H bo = some ⟨E.length - 1, 52, 2, true, E.flatMap entC⟩) ∧
      Run Try.prog T tail56b (fx56 s0 many r (outK bo L) (outS bs L) many a1 a7 a11 a12 a13 a14 a15 a16 a17 a18 a19 a20 a21 a22 a23 a24 a25 a26 a27 a28 a29 (.s undef) (.s undef) (.s undef) (.s undef) (.s undef) (.s undef) (.s undef) (.s undef) (.s undef) (.s undef) (.s undef) (.s undef) (.s undef) (.s undef) (.s undef) (.s undef) (.s undef) (.s undef) (.s undef) (.s undef) (.s undef) (.s undef) (.s undef) (.s undef) (.s undef)) h1 (.ret, tm', H) := by
  have hend : ∀ (H : Heap) (out : AV) (r' : ByteArray) (tm : List AV), tm.length = 110 → tm[6]? = some (.s (.string r')) → tm[8]? = some out →
      ∃ tm', tm'[2]? = some out ∧ tm'[3]? = some (.s (.string r')) ∧ tm'[4]? = some (.s (.int .i64 0)) ∧ Run Try.prog T (match tail56b with | .seq _ t => t | _ => .skip) tm H (.ret, tm', H) := by
    intro H out r' tm l t5 t7
    have g5 := (List.getElem?_eq_some_iff.1 t5).2
    have g7 := (List.getElem?_eq_some_iff.1 t7).2
    refine ⟨?tm, ?o1, ?o2, ?o3, Run.step 30 fun k j => ?run⟩
    case run =>
      simp [tail56b, tail56, c56, l, t5, t7, g5, g7]
      rfl
    case o1 => simp [l, g7]
    case o2 => simp [l, g5]
    case o3 => simp [l]
  cases L with
  | nil =>
    obtain ⟨tm', t1, t2, t3, t4⟩ := rq_end (T := T) s0 h1 many r (.s (.slice none 0 0)) (.s (.slice none 0 0)) (.s (.slice none 0 0)) many 0 0 (by omega) a1 a7 a11 a12 a13 a14 a15 a16 a17 a18 a19 a20 a21 a22 a23 a24 a25 a26 a27 a28 a29 (.s (.int .u64 many)) (.s (.int .u64 many)) (.s (.bool false)) (.s undef) (.s undef)
    obtain ⟨tm2, x1, x2, x3, x4⟩ := hend h1 _ r tm' t1 t2 t3
    refine ⟨h1, tm2, x1, x2, x3, hI.old, hI.len, fun E r' he hE => by simp [datF] at he; exact absurd he.1 (by first | exact hE | exact Ne.symm hE), ?_⟩
    apply Run.seq
    · apply Run.seq
      · apply Run.step 20; intro k j
        simp [fx56, outS, outK]
        (first | rfl | (constructor <;> rfl))
      · apply Run.block_exit
        refine Run.loop_end_f ?_ (by simp) t4
        simp [forget, tail56b, tail56, c56, fr56b]
    · exact x4
  | cons y L =>
    have eK : outK bo (y :: L) = .sl bo L.length 0 (L.length + 1) 2 := rfl
    have eS : outS bs (y :: L) = .sl bs L.length 0 (L.length + 1) 1 := rfl
    rw [eK, eS]
    obtain ⟨o1, o2, o3, o4, o5⟩ := hI.out (by simp)
    obtain ⟨i1, i2⟩ := rq_loop (T := T) s0 h0 bo bs L.length (y :: L) (by simp) (by simp at hl; omega) hsz many many (L.length + 1) 0 h1 [] r (by omega) rfl hr ⟨hI.old, hI.len, o1, o3, o4, o5⟩ a1 a7 a11 a12 a13 a14 a15 a16 a17 a18 a19 a20 a21 a22 a23 a24 a25 a26 a27 a28 a29 (.s (.int .u64 many)) (.s (.int .u64 many)) (.s (.bool false)) (.s undef) (.s undef)
    rw [List.drop_zero] at i1 i2
    have hpre : ∀ {e : Ex} {tm' : List AV} {H : Heap}, Run Try.prog T (.loop fg56b body56b) (fr56b s0 many r (.sl bo L.length 0 (L.length + 1) 2) (.sl bs L.length 0 (L.length + 1) 1) (.sl bs L.length 0 (L.length + 1) 1) many ((L.length : Int) + 1) ((0 : Nat) : Int) a1 a7 a11 a12 a13 a14 a15 a16 a17 a18 a19 a20 a21 a22 a23 a24 a25 a26 a27 a28 a29 (.s (.int .u64 many)) (.s (.int .u64 many)) (.s (.bool false)) (.s undef) (.s undef)) h1 (e, tm', H) → Run Try.prog T (.loop fg56b body56b) ((((fx56 s0 many r (.sl bo L.length 0 (L.length + 1) 2) (.sl bs L.length 0 (L.length + 1) 1) many a1 a7 a11 a12 a13 a14 a15 a16 a17 a18 a19 a20 a21 a22 a23 a24 a25 a26 a27 a28 a29 (.s undef) (.s undef) (.s undef) (.s undef) (.s undef) (.s undef) (.s undef) (.s undef) (.s undef) (.s undef) (.s undef) (.s undef) (.s undef) (.s undef) (.s undef) (.s undef) (.s undef) (.s undef) (.s undef) (.s undef) (.s undef) (.s undef) (.s undef) (.s undef) (.s undef)).set 85 (.sl bs L.length 0 (L.length + 1) 1)).set 86 (.s (.int .i64 ((L.length : Int) + 1)))).set 87 (.s (.int .i64 0))) h1 (e, tm', H) := fun {e tm' H} hr => by
      apply Run.loop_go' hr
      simp [forget, fg56b, tail56b, tail56, c56, fr56b, fx56]
    cases he : datF (y :: L) [] r with
    | some res =>
      obtain ⟨E', r'⟩ := res
      obtain ⟨H, tm', t1, t2, t3, t4, t6, t5⟩ := i1 E' r' he
      obtain ⟨tm2, x1, x2, x3, x4⟩ := hend H _ r' tm' t1 t2 t3
      have hEn : E' ≠ [] := by intro h; rw [h] at t6; simp at t6
      refine ⟨H, tm2, ?_, x2, x3, t4.old, t4.len, fun E r' he hE => ?_, ?_⟩
      · rw [rowE_sl hEn, t6]; exact x1
      · simp only [Option.some.injEq, Prod.mk.injEq] at he
        obtain ⟨rfl, rfl⟩ := he
        have := t4.out
        rw [List.drop_eq_nil_of_le (by simp), List.map_nil, List.append_nil, List.length_cons, Nat.add_sub_cancel] at this
        exact ⟨o1, by rw [t6, Nat.add_sub_cancel]; exact this⟩
      · apply Run.seq
        · apply Run.seq
          · apply Run.step 20; intro k j
            simp [fx56]
            (first | rfl | (constructor <;> rfl))
          · apply Run.block_exit
            exact hpre t5
        · exact x4
    | none =>
      obtain ⟨tm', H, t1, t4, t5⟩ := i2 he
      have hlen : h0.length ≤ H.length := by
        rcases Nat.eq_zero_or_pos h0.length with h0' | h0'
        · omega
        · have := t4 (h0.length - 1) (by omega)
          have e1 : bk h0 (h0.length - 1) = some (h0[h0.length - 1]'(by omega)) := List.getElem?_eq_getElem (by omega)
          rw [e1] at this
          have := bk_lt this
          omega
      refine ⟨H, tm', t1.1, t1.2.1, t1.2.2, t4, hlen, fun E r' he => (by cases he), ?_⟩
      apply Run.seq_stop (by simp)
      apply Run.seq
      · apply Run.step 20; intro k j
        simp [fx56]
        (first | rfl | (constructor <;> rfl))
      · apply Run.block_id (by simp)
        exact hpre t5
end Go.Proofs.Ytpmoellbfgcefaa.AS
end
section
set_option autoImplicit false
set_option maxRecDepth 100000
set_option maxHeartbeats 2000000
set_option linter.unusedSimpArgs false
namespace Go.Proofs.Ytpmoellbfgcefaa.AS
open Go Go.Proofs Go.RowKit Go.Proofs.Ytpmoellbfgcefaa.AS.V

theorem ref_run {T : FuncId → Option AFunc} (hT : T 56 = prepFn Try.prog 56) (hG : T 75 = some (.hook hkGet)) (h0 : Heap) (s : ByteArray) (hs : s.size ≤ 9223372036854775807) :
    ∃ H bd, FRun Try.prog T 56 [.s (.string s)] h0 (.tp [rowE bd (readS s).1, .s (.string (readS s).2.1), .s (.int .i64 (readS s).2.2)], H) ∧ (∀ b, b < h0.length → bk H b = bk h0 b) ∧ h0.length ≤ H.length ∧
      ((readS s).1 ≠ [] → h0.length ≤ bd ∧ bk H bd = some ⟨(readS s).1.length - 1, 52, 2, true, (readS s).1.flatMap entC⟩) := by
  have hcall := fun k l h => evFn_hook (P := Try.prog) (T := T) (k := k) (f := 75) (args := l) (h := h) hG
  have hs1 := gets_size hs
  have hr := (gets_range s).1
  by_cases hw : (gets s).2.2 = 0
  · by_cases hbig : 65536 < (gets s).1
    · have e : readS s = ([], ⟨#[]⟩, 15) := by
        have : slotsR s = ([], (gets s).2.1, 15) := by unfold slotsR; rw [numS_z, if_pos ⟨hw, hbig⟩]
        unfold readS; rw [this]; simp
      rw [e]
      refine ⟨h0, 0, ?_, fun _ _ => rfl, Nat.le_refl _, fun h => absurd rfl h⟩
      apply FRun.of (e := .ret) (hT.trans p56)
      · apply Run.seq
        · apply Run.step 20; intro k j
          simp
          (first | rfl | (constructor <;> rfl))
        · apply Run.seq
          · apply Run.step 20; intro k j
            simp [hcall, hkGet, hs]
            (first | rfl | (constructor <;> rfl))
          · apply Run.step 30; intro k j
            simp [eq_true hw, eq_true hbig]
            (first | rfl | (constructor <;> rfl))
      · exact Or.inl rfl
      · rfl
    · have e0 : slotsR s = slotsF (gets s).1.toNat [] (gets s).2.1 0 := by unfold slotsR; rw [numS_z, if_neg (by omega), hw]
      have hI : InvR h0 h0 0 0 [] := ⟨fun _ _ => rfl, Nat.le_refl _, fun h => absurd rfl h⟩
      have hpre : ∀ {r : Res}, Run Try.prog T (match tail56 with | .seq _ (.seq _ t) => t | _ => .skip) ([.s (.string s), .s undef, .s (.slice none 0 0), .s (.string ⟨#[]⟩), .s (.int .i64 0), .s (.int .u64 (gets s).1), .s (.string (gets s).2.1), .s (.int .i64 (gets s).2.2), .s (.slice none 0 0), .s (.slice none 0 0), .s undef, .s undef, .s undef, .s undef, .s undef, .s undef, .s undef, .s undef, .s undef, .tp [.s (.int .u64 (gets s).1), .s (.string (gets s).2.1), .s (.int .i64 (gets s).2.2)], .s (.string s), .tp [.s (.int .u64 (gets s).1), .s (.string (gets s).2.1), .s (.int .i64 (gets s).2.2)], .s (.int .u64 (gets s).1), .s (.string (gets s).2.1), .s (.int .i64 (gets s).2.2), .s (.int .i64 (gets s).2.2), .s (.bool false), .s undef, .s (.int .u64 (gets s).1), .s (.bool false)] ++ List.replicate 80 (.s undef)) h0 r → Run Try.prog T c56 ([.s (.string s)] ++ List.replicate 109 (.s undef)) h0 r := fun {r} H => by
        apply Run.seq
        · apply Run.step 20; intro k j
          simp
          (first | rfl | (constructor <;> rfl))
        · apply Run.seq
          · apply Run.step 20; intro k j
            simp [hcall, hkGet, hs]
            (first | rfl | (constructor <;> rfl))
          · apply Run.seq
            · apply Run.step 20; intro k j
              simp [eq_true hw]
              (first | rfl | (constructor <;> rfl))
            · apply Run.seq
              · apply Run.step 20; intro k j
                simp [eq_false hbig]
                (first | rfl | (constructor <;> rfl))
              · apply Run.seq
                · apply Run.step 20; intro k j
                  simp
                  (first | rfl | (constructor <;> rfl))
                · apply Run.seq
                  · apply Run.step 20; intro k j
                    simp
                    (first | rfl | (constructor <;> rfl))
                  · exact H
      obtain ⟨l1, l2⟩ := ref_loop (T := T) hG s h0 (gets s).1 (by omega) (gets s).1.toNat h0 0 0 [] (gets s).2.1 hs1 (by simp; omega) hI (by simp) (.s undef) (.s (.int .i64 (gets s).2.2)) (.s undef) (.s undef) (.s undef) (.s undef) (.s undef) (.s undef) (.s undef) (.s undef) (.tp [.s (.int .u64 (gets s).1), .s (.string (gets s).2.1), .s (.int .i64 (gets s).2.2)]) (.s (.string s)) (.tp [.s (.int .u64 (gets s).1), .s (.string (gets s).2.1), .s (.int .i64 (gets s).2.2)]) (.s (.int .u64 (gets s).1)) (.s (.string (gets s).2.1)) (.s (.int .i64 (gets s).2.2)) (.s (.int .i64 (gets s).2.2)) (.s (.bool false)) (.s undef) (.s (.int .u64 (gets s).1)) (.s (.bool false)) (.s undef) (.s undef) (.s undef) (.s undef) (.s undef) (.s undef) (.s undef) (.s undef) (.s undef) (.s undef) (.s undef) (.s undef) (.s undef) (.s undef) (.s undef) (.s undef) (.s undef) (.s undef) (.s undef) (.s undef) (.s undef) (.s undef) (.s undef) (.s undef) (.s undef)
      obtain ⟨v1, v2, v3⟩ := slotsR_inv hs
      rw [e0] at v1 v2 v3
      by_cases hw2 : (slotsF (gets s).1.toNat [] (gets s).2.1 0).2.2 = 0
      · obtain ⟨H1, bo, bs, b11, b12, b13, b14, b15, b16, i1, i2⟩ := l1 hw2
        have e : readS s = (match datF (slotsF (gets s).1.toNat [] (gets s).2.1 0).1 [] (slotsF (gets s).1.toNat [] (gets s).2.1 0).2.1 with | some (E, r) => (E, r, 0) | none => ([], ⟨#[]⟩, 5)) := by
          unfold readS; rw [e0, if_neg (by simpa using hw2)]
          cases datF (slotsF (gets s).1.toNat [] (gets s).2.1 0).1 [] (slotsF (gets s).1.toNat [] (gets s).2.1 0).2.1 <;> rfl
        obtain ⟨H, tm', x1, x2, x3, x4, x5, x6, x7⟩ := rq_tail (T := T) s h0 H1 bo bs _ _ v1 v3 v2 i1 (gets s).1 (.s undef) (.s (.int .i64 (gets s).2.2)) b11 b12 b13 b14 b15 b16 (.s undef) (.s undef) (.tp [.s (.int .u64 (gets s).1), .s (.string (gets s).2.1), .s (.int .i64 (gets s).2.2)]) (.s (.string s)) (.tp [.s (.int .u64 (gets s).1), .s (.string (gets s).2.1), .s (.int .i64 (gets s).2.2)]) (.s (.int .u64 (gets s).1)) (.s (.string (gets s).2.1)) (.s (.int .i64 (gets s).2.2)) (.s (.int .i64 (gets s).2.2)) (.s (.bool false)) (.s undef) (.s (.int .u64 (gets s).1)) (.s (.bool false))
        refine ⟨H, bo, FRun.of (e := .ret) (tm' := tm') (hT.trans p56) (hpre ?_) (Or.inl rfl) ?_, x4, x5, ?_⟩
        · apply Run.seq
          · apply Run.seq
            · apply Run.step 20; intro k j
              simp
              (first | rfl | (constructor <;> rfl))
            · apply Run.block_exit
              apply Run.loop_go' i2
              simp [forget, fg56, tail56, c56, fr56, outK, outS]
          · exact x7
        · rw [e]
          simp only [resAs, resA, x1, x2, x3]
          cases datF (slotsF (gets s).1.toNat [] (gets s).2.1 0).1 [] (slotsF (gets s).1.toNat [] (gets s).2.1 0).2.1 <;> rfl
        · rw [e]
          intro hne
          cases hd : datF (slotsF (gets s).1.toNat [] (gets s).2.1 0).1 [] (slotsF (gets s).1.toNat [] (gets s).2.1 0).2.1 with
          | none => rw [hd] at hne; exact absurd rfl hne
          | some res =>
            obtain ⟨E, r⟩ := res
            rw [hd] at hne
            exact x6 E r hd hne
      · obtain ⟨tm', H, t1, t4, t5⟩ := l2 hw2
        have e : readS s = ([], ⟨#[]⟩, (slotsF (gets s).1.toNat [] (gets s).2.1 0).2.2) := by
          unfold readS; rw [e0, if_pos hw2]
        have hlen : h0.length ≤ H.length := by
          rcases Nat.eq_zero_or_pos h0.length with h0' | h0'
          · omega
          · have := t4 (h0.length - 1) (by omega)
            have e1 : bk h0 (h0.length - 1) = some (h0[h0.length - 1]'(by omega)) := List.getElem?_eq_getElem (by omega)
            rw [e1] at this
            have := bk_lt this
            omega
        rw [e]
        refine ⟨H, 0, FRun.of (e := .ret) (tm' := tm') (hT.trans p56) (hpre ?_) (Or.inl rfl) ?_, t4, hlen, fun h => absurd rfl h⟩
        · apply Run.seq_stop (by simp)
          apply Run.seq
          · apply Run.step 20; intro k j
            simp
            (first | rfl | (constructor <;> rfl))
          · apply Run.block_id (by simp)
            apply Run.loop_go' t5
            simp [forget, fg56, tail56, c56, fr56, outK, outS]
        · simp [resAs, resA, t1.1, t1.2.1, t1.2.2, tupA, rowE]
  · have e : readS s = ([], ⟨#[]⟩, (gets s).2.2) := by
      have : slotsR s = ([], (gets s).2.1, (gets s).2.2) := by unfold slotsR; rw [numS_z, if_neg (fun h => hw h.1), slotsF_err _ _ _ hw]
      unfold readS; rw [this]; simp [hw]
    rw [e]
    refine ⟨h0, 0, ?_, fun _ _ => rfl, Nat.le_refl _, fun h => absurd rfl h⟩
    apply FRun.of (e := .ret) (hT.trans p56)
    · apply Run.seq
      · apply Run.step 20; intro k j
        simp
        (first | rfl | (constructor <;> rfl))
      · apply Run.seq
        · apply Run.step 20; intro k j
          simp [hcall, hkGet, hs]
          (first | rfl | (constructor <;> rfl))
        · apply Run.step 30; intro k j
          simp [eq_false hw]
          (first | rfl | (constructor <;> rfl))
    · exact Or.inl rfl
    · rfl
theorem hkRef_ok {T : FuncId → Option AFunc} (hm : Try.prog.follows .mixedOrders = true) (hT : TabOK Try.prog T) (h56 : T 56 = prepFn Try.prog 56) (hG : T 75 = some (.hook hkGet)) (hc : callable Try.prog 56 = true) : HookSound Try.prog 56 hkRead := by
  refine hookOf hm hT hc fun l h r he => ?_
  unfold hkRead at he
  split at he
  · rename_i s
    split at he
    · rename_i hs
      cases he
      obtain ⟨H, bd, hF, h1, h2, h3⟩ := ref_run h56 hG h s hs
      exact ⟨_, hF, row_drop (us := [.string (readS s).2.1, .int .i64 (readS s).2.2]) rfl h1 h3⟩
    · cases he
  · cases he
end Go.Proofs.Ytpmoellbfgcefaa.AS
end
section
set_option autoImplicit false
set_option maxRecDepth 100000
set_option maxHeartbeats 2000000
set_option linter.unusedSimpArgs false
namespace Go.Proofs.Ytpmoellbfgcefaa.AS
open Go Go.Proofs Go.RowKit Go.Proofs.Ytpmoellbfgcefaa.AS.V

noncomputable def c84 : ACode := (ACode.seq (ACode.reg [⟨(some 2), none, (AOp.p (POp.mv (Operand.const (Value.bool false))))⟩]) (ACode.seq (ACode.reg [⟨(some 3), none, (AOp.p (POp.mv (Operand.tmp 0)))⟩, ⟨(some 4), none, (AOp.p (POp.mv (Operand.tmp 0)))⟩, ⟨(some 5), none, (AOp.p (POp.sc (Op.binOp BinOp.neq 35 (Operand.tmp 3) (Operand.tmp 4) 35) 4))⟩, ⟨(some 2), none, (AOp.p (POp.mv (Operand.tmp 5)))⟩]) ACode.ret))
theorem p84 : prepFn Try.prog 84 = some (.code 6 [(ARes.tmp 2)] c84) := by kernel_rfl

def hkNaN : List AV → Heap → Option (AV × Heap)
  | [.s (.int .u64 _)], h => some (.s (.bool false), h)
  | _, _ => none
theorem hkNaN_ok {T : FuncId → Option AFunc} (hm : Try.prog.follows .mixedOrders = true) (hT : TabOK Try.prog T) (h84 : T 84 = prepFn Try.prog 84) (hc : callable Try.prog 84 = true) : HookSound Try.prog 84 hkNaN := by
  refine hookOf hm hT hc fun l h r he => ?_
  unfold hkNaN at he
  split at he
  · rename_i n
    cases he
    refine ⟨_, ?_, Drops.refl _ _⟩
    apply FRun.of (e := .ret) (h84.trans p84)
    · apply Run.step 20; intro k j
      simp [c84]
      (first | rfl | (constructor <;> rfl))
    · exact Or.inl rfl
    · rfl
  · cases he
def cmpI (a b : Int) : Int := if a < b then -1 else if b < a then 1 else 0
def hk74 : List AV → Heap → Option (AV × Heap)
  | [.s (.int .u64 a), .s (.int .u64 b)], h => some (.s (.int .i64 (cmpI a b)), h)
  | _, _ => none
theorem hk74_ok {T : FuncId → Option AFunc} (hm : Try.prog.follows .mixedOrders = true) (hT : TabOK Try.prog T) (h74 : T 74 = prepFn Try.prog 74) (hN : T 84 = some (.hook hkNaN)) (hc : callable Try.prog 74 = true) : HookSound Try.prog 74 hk74 := by
  refine hookOf hm hT hc fun l h r he => ?_
  unfold hk74 at he
  split at he
  · rename_i a b
    cases he
    refine ⟨_, ?_, Drops.refl _ _⟩
    have hcall := fun k l h => evFn_hook (P := Try.prog) (T := T) (k := k) (f := 84) (args := l) (h := h) hN
    by_cases h1 : a < b
    · have e : cmpI a b = -1 := if_pos h1
      rw [e]
      apply FRun.of (e := .ret) (h74.trans p74)
      · apply Run.step 20; intro k j
        simp [c74, hcall, hkNaN, eq_true h1]
        (first | rfl | (constructor <;> rfl))
      · exact Or.inl rfl
      · rfl
    · by_cases h2 : b < a
      · have e : cmpI a b = 1 := by unfold cmpI; rw [if_neg h1, if_pos h2]
        rw [e]
        apply FRun.of (e := .ret) (h74.trans p74)
        · apply Run.step 20; intro k j
          simp [c74, hcall, hkNaN, eq_false h1, eq_true h2]
          (first | rfl | (constructor <;> rfl))
        · exact Or.inl rfl
        · rfl
      · have e : cmpI a b = 0 := by unfold cmpI; rw [if_neg h1, if_neg h2]
        rw [e]
        apply FRun.of (e := .ret) (h74.trans p74)
        · apply Run.step 20; intro k j
          simp [c74, hcall, hkNaN, eq_false h1, eq_false h2]
          (first | rfl | (constructor <;> rfl))
        · exact Or.inl rfl
        · rfl
  · cases he
def hkCmp : List AV → Heap → Option (AV × Heap)
  | [.ag [.s (.int .u64 a), .s (.string _)], .s (.int .u64 b)], h => some (.s (.int .i64 (cmpI a b)), h)
  | _, _ => none
theorem hkCmp_ok {T : FuncId → Option AFunc} (hm : Try.prog.follows .mixedOrders = true) (hT : TabOK Try.prog T) (h73 : T 73 = prepFn Try.prog 73) (hN : T 74 = some (.hook hk74)) (hc : callable Try.prog 73 = true) : HookSound Try.prog 73 hkCmp := by
  refine hookOf hm hT hc fun l h r he => ?_
  unfold hkCmp at he
  split at he
  · rename_i a d b
    cases he
    have hcall := fun k l h => evFn_hook (P := Try.prog) (T := T) (k := k) (f := 74) (args := l) (h := h) hN
    refine ⟨(.s (.int .i64 (cmpI a b)), h ++ [⟨0, 52, 2, true, [.s (.int .u64 a), .s (.string d)]⟩]), ?_, Drops.flat (Grows.app _ _) rfl⟩
    apply FRun.of (e := .ret) (h73.trans p73)
    · apply Run.step 20; intro k j
      simp [c73, hcall, hk74, cellsOf, oneOr]
      (first | rfl | (constructor <;> rfl))
    · exact Or.inl rfl
    · rfl
  · cases he

/-! ### Where a key is -/
/-- The entries that a row has. -/
def entsA : List AV → Option (List (Int × ByteArray))
  | [] => some []
  | .s (.int .u64 k) :: .s (.string d) :: l => (entsA l).map ((k, d) :: ·)
  | _ => none
theorem entsA_entC : ∀ E : List (Int × ByteArray), entsA (E.flatMap entC) = some E
  | [] => rfl
  | x :: E => by
    have := entsA_entC E
    simp [entC, entsA, this]
theorem entsA_inv : ∀ (l : List AV) (E : List (Int × ByteArray)), entsA l = some E → l = E.flatMap entC
  | [], E, h => by simp [entsA] at h; subst h; rfl
  | .s (.int .u64 k) :: .s (.string d) :: l, E, h => by
    simp only [entsA, Option.map_eq_some_iff] at h
    obtain ⟨E', h1, rfl⟩ := h
    rw [entsA_inv l E' h1]; simp [entC]
  | [x], E, h => by unfold entsA at h; split at h <;> simp_all
  | x :: y :: l, E, h => by
    unfold entsA at h
    split at h
    · simp_all
    · rename_i k d l' heq
      simp only [List.cons.injEq] at heq
      obtain ⟨rfl, rfl, rfl⟩ := heq
      simp only [Option.map_eq_some_iff] at h
      obtain ⟨E', h1, rfl⟩ := h
      rw [entsA_inv l E' h1]; simp [entC]
    · cases h
end Go.Proofs.Ytpmoellbfgcefaa.AS
end
section
set_option autoImplicit false
set_option maxRecDepth 100000
set_option maxHeartbeats 2000000
set_option linter.unusedSimpArgs false
namespace Go.Proofs.Ytpmoellbfgcefaa.AS
open Go Go.Proofs Go.RowKit Go.Proofs.Ytpmoellbfgcefaa.AS.V

def rowOf (h : Heap) : AV → Option (List (Int × ByteArray))
  | .s (.slice none 0 0) => some []
  | .sl b v o n 2 => (rdK (bk h b) v o (n * 2)).bind entsA
  | _ => none
theorem rowOf_sl {h : Heap} {b v o n : Nat} {E : List (Int × ByteArray)} (H : rowOf h (.sl b v o n 2) = some E) : ∃ e sz rw C, bk h b = some ⟨v, e, sz, rw, C⟩ ∧ o + n * 2 ≤ C.length ∧ (C.drop o).take (n * 2) = E.flatMap entC ∧ E.length = n := by
  simp only [rowOf] at H
  cases hb : bk h b with
  | none => rw [hb] at H; simp [rdK] at H
  | some k =>
    obtain ⟨v', e, sz, rw, C⟩ := k
    rw [hb, rdK_s] at H
    split at H
    · rename_i hc
      obtain ⟨rfl, hc⟩ := hc
      simp only [Option.bind_some] at H
      have h1 := entsA_inv _ _ H
      refine ⟨e, sz, rw, C, rfl, hc, h1, ?_⟩
      have h2 := congrArg List.length h1
      rw [entC_len, List.length_take, List.length_drop] at h2
      omega
    · simp at H
theorem row_at {C : List AV} {E : List (Int × ByteArray)} {o n i : Nat} (h1 : (C.drop o).take (n * 2) = E.flatMap entC) (hn : E.length = n) (hi : i < n) : (C.drop (o + i * 2)).take 2 = [.s (.int .u64 (E[i]'(by omega)).1), .s (.string (E[i]'(by omega)).2)] := by
  have e1 : (C.drop (o + i * 2)).take 2 = (((C.drop o).take (n * 2)).drop (i * 2)).take 2 := by
    rw [List.drop_take, List.drop_drop, List.take_take]
    congr 1
    omega
  rw [e1, h1]
  have hs : E = E.take i ++ E[i]'(by omega) :: E.drop (i + 1) := by rw [List.getElem_cons_drop, List.take_append_drop]
  have hl : ((E.take i).flatMap entC).length = i * 2 := by rw [entC_len]; simp; omega
  conv => lhs; rw [hs]
  rw [List.flatMap_append, List.flatMap_cons, List.drop_left' hl]
  rfl
def low (E : List (Int × ByteArray)) (k : Int) : Nat := (E.takeWhile fun e => decide (e.1 < k)).length
def isAt (E : List (Int × ByteArray)) (k : Int) : Bool := match E[low E k]? with | some e => decide (e.1 = k) | none => false
theorem low_of {k : Int} : ∀ (E : List (Int × ByteArray)) (lo : Nat), lo ≤ E.length → (∀ i (hi : i < E.length), i < lo → E[i].1 < k) → (∀ i (hi : i < E.length), lo ≤ i → ¬ E[i].1 < k) → low E k = lo
  | [], lo, h, _, _ => by simp at h; subst h; rfl
  | x :: E, lo, h, h1, h2 => by
    cases lo with
    | zero =>
      have := h2 0 (by simp) (by omega)
      simp only [List.getElem_cons_zero] at this
      simp [low, List.takeWhile_cons, this]
    | succ lo =>
      have := h1 0 (by simp) (by omega)
      simp only [List.getElem_cons_zero] at this
      have ih := low_of E lo (by simpa using h) (fun i hi hl => h1 (i + 1) (by simp; omega) (by omega)) (fun i hi hl => h2 (i + 1) (by simp; omega) (by omega))
      unfold low at ih ⊢
      simp [List.takeWhile_cons, this, ih]
abbrev Asc (E : List (Int × ByteArray)) : Prop := E.Pairwise fun a b => a.1 < b.1

def fr72 (a : AV) (key : Int) (n i j : Int) (a3 a4 a5 a6 a7 a11 a12 a13 a14 a35 a36 a37 a38 a39 a40 a41 a42 a43 a44 a45 a46 a47 a48 : AV) : List AV := [a, .s (.int .u64 key), .s (.func (.func 73) #[] #[]), a3, a4, a5, a6, a7, .s (.int .i64 n), .s (.int .i64 i), .s (.int .i64 j), a11, a12, a13, a14] ++ List.replicate 20 .any ++ [a35, a36, a37, a38, a39, a40, a41, a42, a43, a44, a45, a46, a47, a48]
noncomputable def body72 : ACode := match c72 with
  | .seq _ (.seq _ (.seq _ (.seq (.block _ (.loop _ b)) _))) => b
  | _ => .skip
noncomputable def fg72 : List Nat := match c72 with
  | .seq _ (.seq _ (.seq _ (.seq (.block _ (.loop fg _)) _))) => fg
  | _ => []
noncomputable def tail72 : ACode := match c72 with
  | .seq _ (.seq _ (.seq _ (.seq _ t))) => t
  | _ => .skip
theorem cmpI_lt (a b : Int) : (cmpI a b < 0) = (a < b) := by
  unfold cmpI
  apply propext
  constructor
  · intro h; split at h
    · assumption
    · split at h <;> omega
  · intro h; rw [if_pos h]; omega
theorem cmpI_eq (a b : Int) : (cmpI a b = 0) = (a = b) := by
  unfold cmpI
  apply propext
  constructor
  · intro h; split at h
    · omega
    · split at h <;> omega
  · intro h; rw [if_neg (by omega), if_neg (by omega)]
theorem bs_end {T : FuncId → Option AFunc} (a : AV) (key n i : Int) (h : Heap) (a3 a4 a5 a6 a7 a11 a12 a13 a14 a35 a36 a37 a38 a39 a40 a41 a42 a43 a44 a45 a46 a47 a48 : AV) : Run Try.prog T body72 (fr72 a key n i i a3 a4 a5 a6 a7 a11 a12 a13 a14 a35 a36 a37 a38 a39 a40 a41 a42 a43 a44 a45 a46 a47 a48) h (.exit 0, (((fr72 a key n i i a3 a4 a5 a6 a7 a11 a12 a13 a14 a35 a36 a37 a38 a39 a40 a41 a42 a43 a44 a45 a46 a47 a48).set 15 (.s (.int .i64 i))).set 16 (.s (.int .i64 i))).set 17 (.s (.bool false)), h) := by
  apply Run.step 30; intro k j
  simp [c72, body72, fr72]
theorem bs_one {T : FuncId → Option AFunc} (hC : T 73 = some (.hook hkCmp)) (b v o n : Nat) (key : Int) (E : List (Int × ByteArray)) (h : Heap) (hE : rowOf h (.sl b v o n 2) = some E) (hn : n ≤ 4611686018427387903) (lo hi m : Nat) (h1 : lo < hi) (h2 : hi ≤ n) (hmd : (lo + hi) / 2 = m) (x : Int × ByteArray) (hx : E[m]? = some x) (a3 a4 a5 a6 a7 a11 a12 a13 a14 a35 a36 a37 a38 a39 a40 a41 a42 a43 a44 a45 a46 a47 a48 : AV) :
    ∃ a11' tm', forget fg72 tm' = fr72 (.sl b v o n 2) key n (if x.1 < key then (m : Int) + 1 else lo) (if x.1 < key then (hi : Int) else m) a3 a4 a5 a6 a7 a11' a12 a13 a14 a35 a36 a37 a38 a39 a40 a41 a42 a43 a44 a45 a46 a47 a48 ∧ Run Try.prog T body72 (fr72 (.sl b v o n 2) key n lo hi a3 a4 a5 a6 a7 a11 a12 a13 a14 a35 a36 a37 a38 a39 a40 a41 a42 a43 a44 a45 a46 a47 a48) h (.normal, tm', h) := by
  obtain ⟨e, sz, rw, C, hb, hle, hC1, hlen⟩ := rowOf_sl hE
  have hcall := fun k l h => evFn_hook (P := Try.prog) (T := T) (k := k) (f := 73) (args := l) (h := h) hC
  have hij : (lo : Int) < (hi : Int) := by omega
  have hrow := row_at (i := m) hC1 hlen (by omega)
  rw [(List.getElem?_eq_some_iff.1 hx).2] at hrow
  have hle2 : o + m * 2 + 2 ≤ C.length := by omega
  have hdiv : Int.fdiv ((lo : Int) + hi) 2 = (m : Int) := by
    rw [Int.fdiv_eq_ediv_of_nonneg _ (by omega)]; omega
  have hmn : (m : Int) < (n : Int) := by omega
  have w0 : IntKind.i64.wrap ((lo : Int) + hi) = (lo : Int) + hi := w64k (by omega) (by omega)
  have w1 : IntKind.u64.wrap ((lo : Int) + hi) = (lo : Int) + hi := wu64 (by omega) (by omega)
  have w2 : IntKind.i64.wrap (m : Int) = m := w64k (by omega) (by omega)
  have w3 : IntKind.i64.wrap ((m : Int) + 1) = (m : Int) + 1 := w64k (by omega) (by omega)
  by_cases hc : x.1 < key
  · rw [if_pos hc, if_pos hc]
    refine ⟨?r1, ?r2, ?r3, Run.step 30 fun k j => ?r4⟩
    case r4 =>
      simp [c72, body72, fr72, hij, w0, w1, w2, w3, hdiv, hmn, hb, hrow, hle2, oneOr, hcall, hkCmp, cmpI_lt, eq_true hc, IntKind.bits, Try.underlying114, Try.underlying3]
      (first | rfl | (constructor <;> rfl))
    case r3 =>
      simp [forget, fg72, c72, fr72]
      rfl
  · rw [if_neg hc, if_neg hc]
    refine ⟨?r5, ?r6, ?r7, Run.step 30 fun k j => ?r8⟩
    case r8 =>
      simp [c72, body72, fr72, hij, w0, w1, w2, w3, hdiv, hmn, hb, hrow, hle2, oneOr, hcall, hkCmp, cmpI_lt, eq_false hc, IntKind.bits, Try.underlying114, Try.underlying3]
      (first | rfl | (constructor <;> rfl))
    case r7 =>
      simp [forget, fg72, c72, fr72]
      rfl
theorem bs_loop {T : FuncId → Option AFunc} (hC : T 73 = some (.hook hkCmp)) (b v o n : Nat) (key : Int) (E : List (Int × ByteArray)) (h : Heap) (hE : rowOf h (.sl b v o n 2) = some E) (hn : n ≤ 4611686018427387903) (hA : Asc E) : ∀ (d lo hi : Nat), hi - lo ≤ d → lo ≤ hi → hi ≤ n → (∀ i (hh : i < E.length), i < lo → E[i].1 < key) → (∀ i (hh : i < E.length), hi ≤ i → ¬ E[i].1 < key) → ∀ (a3 a4 a5 a6 a7 a11 a12 a13 a14 a35 a36 a37 a38 a39 a40 a41 a42 a43 a44 a45 a46 a47 a48 : AV),
    ∃ a11', Run Try.prog T (.loop fg72 body72) (fr72 (.sl b v o n 2) key n lo hi a3 a4 a5 a6 a7 a11 a12 a13 a14 a35 a36 a37 a38 a39 a40 a41 a42 a43 a44 a45 a46 a47 a48) h (.exit 0, (((fr72 (.sl b v o n 2) key n (low E key) (low E key) a3 a4 a5 a6 a7 a11' a12 a13 a14 a35 a36 a37 a38 a39 a40 a41 a42 a43 a44 a45 a46 a47 a48).set 15 (.s (.int .i64 (low E key)))).set 16 (.s (.int .i64 (low E key)))).set 17 (.s (.bool false)), h) := by
  have hlen : E.length = n := (rowOf_sl hE).choose_spec.choose_spec.choose_spec.choose_spec.2.2.2
  have hfg : ∀ (i j : Int) (a3 a4 a5 a6 a7 a11 a12 a13 a14 a35 a36 a37 a38 a39 a40 a41 a42 a43 a44 a45 a46 a47 a48 : AV), forget fg72 (fr72 (.sl b v o n 2) key n i j a3 a4 a5 a6 a7 a11 a12 a13 a14 a35 a36 a37 a38 a39 a40 a41 a42 a43 a44 a45 a46 a47 a48) = fr72 (.sl b v o n 2) key n i j a3 a4 a5 a6 a7 a11 a12 a13 a14 a35 a36 a37 a38 a39 a40 a41 a42 a43 a44 a45 a46 a47 a48 := fun i j a3 a4 a5 a6 a7 a11 a12 a13 a14 a35 a36 a37 a38 a39 a40 a41 a42 a43 a44 a45 a46 a47 a48 => by simp [forget, fg72, c72, fr72]
  have hfin : ∀ (lo : Nat), lo ≤ n → (∀ i (hh : i < E.length), i < lo → E[i].1 < key) → (∀ i (hh : i < E.length), lo ≤ i → ¬ E[i].1 < key) → ∀ (a3 a4 a5 a6 a7 a11 a12 a13 a14 a35 a36 a37 a38 a39 a40 a41 a42 a43 a44 a45 a46 a47 a48 : AV), ∃ a11', Run Try.prog T (.loop fg72 body72) (fr72 (.sl b v o n 2) key n lo lo a3 a4 a5 a6 a7 a11 a12 a13 a14 a35 a36 a37 a38 a39 a40 a41 a42 a43 a44 a45 a46 a47 a48) h (.exit 0, (((fr72 (.sl b v o n 2) key n (low E key) (low E key) a3 a4 a5 a6 a7 a11' a12 a13 a14 a35 a36 a37 a38 a39 a40 a41 a42 a43 a44 a45 a46 a47 a48).set 15 (.s (.int .i64 (low E key)))).set 16 (.s (.int .i64 (low E key)))).set 17 (.s (.bool false)), h) := by
    intro lo hl p1 p2 a3 a4 a5 a6 a7 a11 a12 a13 a14 a35 a36 a37 a38 a39 a40 a41 a42 a43 a44 a45 a46 a47 a48
    rw [low_of E lo (by omega) p1 p2]
    exact ⟨a11, Run.loop_end_f (hfg _ _ a3 a4 a5 a6 a7 a11 a12 a13 a14 a35 a36 a37 a38 a39 a40 a41 a42 a43 a44 a45 a46 a47 a48) (by simp) (bs_end (T := T) (.sl b v o n 2) key n lo h a3 a4 a5 a6 a7 a11 a12 a13 a14 a35 a36 a37 a38 a39 a40 a41 a42 a43 a44 a45 a46 a47 a48)⟩
  intro d
  induction d with
  | zero =>
    intro lo hi hd h1 h2 p1 p2 a3 a4 a5 a6 a7 a11 a12 a13 a14 a35 a36 a37 a38 a39 a40 a41 a42 a43 a44 a45 a46 a47 a48
    obtain rfl : lo = hi := by omega
    exact hfin lo h2 p1 p2 a3 a4 a5 a6 a7 a11 a12 a13 a14 a35 a36 a37 a38 a39 a40 a41 a42 a43 a44 a45 a46 a47 a48
  | succ d ih =>
    intro lo hi hd h1 h2 p1 p2 a3 a4 a5 a6 a7 a11 a12 a13 a14 a35 a36 a37 a38 a39 a40 a41 a42 a43 a44 a45 a46 a47 a48
    rcases Nat.lt_or_ge lo hi with hlt | hge
    · obtain ⟨m, hmd⟩ : ∃ m, (lo + hi) / 2 = m := ⟨_, rfl⟩
      have hmE : m < E.length := by omega
      obtain ⟨a11', tm', x1, x2⟩ := bs_one (T := T) hC b v o n key E h hE hn lo hi m hlt h2 hmd E[m] (List.getElem?_eq_getElem hmE) a3 a4 a5 a6 a7 a11 a12 a13 a14 a35 a36 a37 a38 a39 a40 a41 a42 a43 a44 a45 a46 a47 a48
      have hA' := List.pairwise_iff_getElem.1 hA
      by_cases hc : E[m].1 < key
      · rw [if_pos hc, if_pos hc] at x1
        obtain ⟨z, y⟩ := ih (m + 1) hi (by omega) (by omega) h2 (fun i hh hi' => by
          rcases Nat.lt_or_ge i m with h3 | h3
          · have := hA' i m hh hmE h3; omega
          · obtain rfl : i = m := by omega
            exact hc) p2 a3 a4 a5 a6 a7 a11' a12 a13 a14 a35 a36 a37 a38 a39 a40 a41 a42 a43 a44 a45 a46 a47 a48
        exact ⟨z, Run.loop_go (hfg _ _ a3 a4 a5 a6 a7 a11 a12 a13 a14 a35 a36 a37 a38 a39 a40 a41 a42 a43 a44 a45 a46 a47 a48) x2 x1 y⟩
      · rw [if_neg hc, if_neg hc] at x1
        obtain ⟨z, y⟩ := ih lo m (by omega) (by omega) (by omega) p1 (fun i hh hi' => by
          rcases Nat.lt_or_ge m i with h3 | h3
          · have := hA' m i hmE hh h3; omega
          · obtain rfl : i = m := by omega
            exact hc) a3 a4 a5 a6 a7 a11' a12 a13 a14 a35 a36 a37 a38 a39 a40 a41 a42 a43 a44 a45 a46 a47 a48
        exact ⟨z, Run.loop_go (hfg _ _ a3 a4 a5 a6 a7 a11 a12 a13 a14 a35 a36 a37 a38 a39 a40 a41 a42 a43 a44 a45 a46 a47 a48) x2 x1 y⟩
    · obtain rfl : lo = hi := by omega
      exact hfin lo h2 p1 p2 a3 a4 a5 a6 a7 a11 a12 a13 a14 a35 a36 a37 a38 a39 a40 a41 a42 a43 a44 a45 a46 a47 a48
end Go.Proofs.Ytpmoellbfgcefaa.AS
end
section
set_option autoImplicit false
set_option maxRecDepth 100000
set_option maxHeartbeats 2000000
set_option linter.unusedSimpArgs false
namespace Go.Proofs.Ytpmoellbfgcefaa.AS
open Go Go.Proofs Go.RowKit Go.Proofs.Ytpmoellbfgcefaa.AS.V

theorem bs_nil {T : FuncId → Option AFunc} (hT : T 72 = prepFn Try.prog 72) (key : Int) (h : Heap) : FRun Try.prog T 72 [.s (.slice none 0 0), .s (.int .u64 key), .s (.func (.func 73) #[] #[])] h (.tp [.s (.int .i64 0), .s (.bool false)], h) := by
  have hr := bs_end (T := T) (.s (.slice none 0 0)) key 0 0 h (.s undef) (.s undef) (.s undef) (.s (.int .i64 0)) (.s (.bool false)) (.s undef) (.s (.slice none 0 0)) (.s (.int .i64 0)) (.s (.int .i64 0)) (.s undef) (.s undef) (.s undef) (.s undef) (.s undef) (.s undef) (.s undef) (.s undef) (.s undef) (.s undef) (.s undef) (.s undef) (.s undef) (.s undef)
  apply FRun.of (e := .ret) (hT.trans p72)
  · apply Run.seq
    · apply Run.step 20; intro k j
      simp
      (first | rfl | (constructor <;> rfl))
    · apply Run.seq
      · apply Run.step 20; intro k j
        simp
        (first | rfl | (constructor <;> rfl))
      · apply Run.seq
        · apply Run.step 20; intro k j
          simp
          (first | rfl | (constructor <;> rfl))
        · apply Run.seq
          · apply Run.block_exit
            refine Run.loop_end_f ?_ (by simp) hr
            simp [forget, c72, fr72]
          · apply Run.step 20; intro k j
            simp [fr72]
            (first | rfl | (constructor <;> rfl))
  · exact Or.inl rfl
  · rfl
theorem bs_sl {T : FuncId → Option AFunc} (hT : T 72 = prepFn Try.prog 72) (hC : T 73 = some (.hook hkCmp)) (b v o n : Nat) (key : Int) (E : List (Int × ByteArray)) (h : Heap) (hE : rowOf h (.sl b v o n 2) = some E) (hn : n ≤ 4611686018427387903) (hA : Asc E) : FRun Try.prog T 72 [.sl b v o n 2, .s (.int .u64 key), .s (.func (.func 73) #[] #[])] h (.tp [.s (.int .i64 (low E key)), .s (.bool (isAt E key))], h) := by
  obtain ⟨e, sz, rw, C, hb, hle, hC1, hlen⟩ := rowOf_sl hE
  have hcall := fun k l h => evFn_hook (P := Try.prog) (T := T) (k := k) (f := 73) (args := l) (h := h) hC
  obtain ⟨a11', hr⟩ := bs_loop (T := T) hC b v o n key E h hE hn hA n 0 n (by omega) (by omega) (by omega) (fun i hh hi => by omega) (fun i hh hi => by omega) (.s undef) (.s undef) (.s undef) (.s (.int .i64 0)) (.s (.bool false)) (.s undef) (.sl b v o n 2) (.s (.int .i64 n)) (.s (.int .i64 n)) (.s undef) (.s undef) (.s undef) (.s undef) (.s undef) (.s undef) (.s undef) (.s undef) (.s undef) (.s undef) (.s undef) (.s undef) (.s undef) (.s undef)
  have hlow : low E key ≤ n := by
    rw [← hlen]; unfold low
    exact (List.takeWhile_prefix _).length_le
  have hpre : ∀ {r : Res}, Run Try.prog T tail72 ((((fr72 (.sl b v o n 2) key n (low E key) (low E key) (.s undef) (.s undef) (.s undef) (.s (.int .i64 0)) (.s (.bool false)) a11' (.sl b v o n 2) (.s (.int .i64 n)) (.s (.int .i64 n)) (.s undef) (.s undef) (.s undef) (.s undef) (.s undef) (.s undef) (.s undef) (.s undef) (.s undef) (.s undef) (.s undef) (.s undef) (.s undef) (.s undef)).set 15 (.s (.int .i64 (low E key)))).set 16 (.s (.int .i64 (low E key)))).set 17 (.s (.bool false))) h r → Run Try.prog T c72 ([.sl b v o n 2, .s (.int .u64 key), .s (.func (.func 73) #[] #[])] ++ List.replicate 46 (.s undef)) h r := fun {r} H => by
    apply Run.seq
    · apply Run.step 20; intro k j
      simp
      (first | rfl | (constructor <;> rfl))
    · apply Run.seq
      · apply Run.step 20; intro k j
        simp
        (first | rfl | (constructor <;> rfl))
      · apply Run.seq
        · apply Run.step 20; intro k j
          simp
          (first | rfl | (constructor <;> rfl))
        · apply Run.seq
          · apply Run.block_exit
            apply Run.loop_go' hr
            simp [forget, fg72, c72, fr72]
          · exact H
  rcases Nat.lt_or_ge (low E key) n with hl | hl
  · have hl' : (low E key : Int) < n := by omega
    have hrow := row_at (i := low E key) hC1 hlen hl
    have hle2 : o + low E key * 2 + 2 ≤ C.length := by omega
    obtain ⟨x, hx⟩ : ∃ x, E[low E key]? = some x := ⟨_, List.getElem?_eq_getElem (by omega)⟩
    rw [(List.getElem?_eq_some_iff.1 hx).2] at hrow
    have eI : isAt E key = decide (x.1 = key) := by unfold isAt; rw [hx]
    rw [eI]
    apply FRun.of (e := .ret) (hT.trans p72)
    · apply hpre
      apply Run.step 30; intro k j
      simp [tail72, c72, fr72, eq_true hl', hb, hrow, hle2, oneOr, hcall, hkCmp, cmpI_eq]
      (first | rfl | (constructor <;> rfl))
    · exact Or.inl rfl
    · rfl
  · have hl' : ¬ (low E key : Int) < n := by omega
    have eI : isAt E key = false := by unfold isAt; rw [List.getElem?_eq_none (by omega)]
    rw [eI]
    apply FRun.of (e := .ret) (hT.trans p72)
    · apply hpre
      apply Run.step 30; intro k j
      simp [tail72, c72, fr72, eq_false hl']
      (first | rfl | (constructor <;> rfl))
    · exact Or.inl rfl
    · rfl
noncomputable def hk72 : List AV → Heap → Option (AV × Heap)
  | [a, .s (.int .u64 key), .s (.func (.func f) x y)], h => match rowOf h a with
    | some E => if f = 73 ∧ x.size = 0 ∧ y.size = 0 ∧ Asc E ∧ E.length ≤ 4611686018427387903 then some (.tp [.s (.int .i64 (low E key)), .s (.bool (isAt E key))], h) else none
    | none => none
  | _, _ => none
theorem hk72_ok {T : FuncId → Option AFunc} (hm : Try.prog.follows .mixedOrders = true) (hT : TabOK Try.prog T) (h72 : T 72 = prepFn Try.prog 72) (hC : T 73 = some (.hook hkCmp)) (hc : callable Try.prog 72 = true) : HookSound Try.prog 72 hk72 := by
  refine hookOf hm hT hc fun l h r he => ?_
  unfold hk72 at he
  split at he
  · rename_i a key f x y
    split at he
    · rename_i E hE
      split at he
      · rename_i hA
        cases he
        obtain ⟨rfl, hx, hy, hA⟩ := hA
        obtain rfl := Array.eq_empty_of_size_eq_zero hx
        obtain rfl := Array.eq_empty_of_size_eq_zero hy
        refine ⟨_, ?_, Drops.refl _ _⟩
        unfold rowOf at hE
        split at hE
        · cases hE; exact bs_nil h72 key h
        · rename_i b v o n
          have hE : rowOf h (.sl b v o n 2) = some E := hE
          have hlen : E.length = n := (rowOf_sl hE).choose_spec.choose_spec.choose_spec.choose_spec.2.2.2
          exact bs_sl h72 hC b v o n key E h hE (by omega) hA.1
        · cases hE
      · cases he
    · cases he
  · cases he
noncomputable def hkAt : List AV → Heap → Option (AV × Heap)
  | [a, .s (.int .u64 key)], h => match rowOf h a with
    | some E => if Asc E ∧ E.length ≤ 4611686018427387903 then some (.tp [.s (.int .i64 (low E key)), .s (.bool (isAt E key))], h) else none
    | none => none
  | _, _ => none
theorem hkAt_ok {T : FuncId → Option AFunc} (hm : Try.prog.follows .mixedOrders = true) (hT : TabOK Try.prog T) (h55 : T 55 = prepFn Try.prog 55) (hC : T 72 = some (.hook hk72)) (hc : callable Try.prog 55 = true) : HookSound Try.prog 55 hkAt := by
  refine hookOf hm hT hc fun l h r he => ?_
  unfold hkAt at he
  split at he
  · rename_i a key
    split at he
    · rename_i E hE
      split at he
      · rename_i hA
        cases he
        have hcall := fun k l h => evFn_hook (P := Try.prog) (T := T) (k := k) (f := 72) (args := l) (h := h) hC
        refine ⟨_, ?_, Drops.refl _ _⟩
        apply FRun.of (e := .ret) (h55.trans p55)
        · apply Run.step 20; intro k j
          simp [c55, hcall, hk72, hE, hA]
          (first | rfl | (constructor <;> rfl))
        · exact Or.inl rfl
        · rfl
      · cases he
    · cases he
  · cases he
end Go.Proofs.Ytpmoellbfgcefaa.AS
end
section
set_option autoImplicit false
namespace Go.Proofs.Ytpmoellbfgcefaa.AS
open Go Go.Proofs Go.RowKit Go.Proofs.Ytpmoellbfgcefaa.AS.V

abbrev AscK (L : List (Int × Int)) : Prop := L.Pairwise fun a b => a.1 < b.1
theorem slot1_asc {L : List (Int × Int)} {s : ByteArray} (hA : AscK L) (hr : ∀ x ∈ L, 0 ≤ x.1 ∧ x.1 ≤ 18446744073709551615) (hw : (slot1 L s).2.2 = 0) : AscK (L ++ [(slot1 L s).1]) := by
  apply List.pairwise_append.2
  refine ⟨hA, List.pairwise_singleton _ _, ?_⟩
  intro a ha b hb
  simp only [List.mem_singleton] at hb
  subst hb
  have hne : L ≠ [] := List.ne_nil_of_mem ha
  obtain ⟨M, x, rfl⟩ : ∃ M x, L = M ++ [x] := ⟨L.dropLast, L.getLast hne, (List.dropLast_concat_getLast hne).symm⟩
  have hx := hr x (by simp)
  have hax : a.1 ≤ x.1 := by
    rcases List.mem_append.1 ha with h | h
    · have := (List.pairwise_append.1 hA).2.2 a h x (by simp); omega
    · simp at h; subst h; exact Int.le_refl _
  have hg := gets_range s
  have e0 : (slot1 (M ++ [x]) s).2.2 = (numS (gets s).2.1 (if (gets s).2.2 = 0 ∧ (x.1 = 18446744073709551615 ∨ (gets s).1 > 18446744073709551615 - x.1 - 1) then 7 else (gets s).2.2)).2.2 := by
    simp [slot1, numS_z]
  have e1 : (slot1 (M ++ [x]) s).1.1 = if (gets s).2.2 = 0 then IntKind.u64.wrap ((gets s).1 + IntKind.u64.wrap (x.1 + 1)) else (gets s).1 := by
    simp [slot1, numS_z]
  rw [e0] at hw
  rw [e1]
  split at hw
  · rw [numS_e _ (by decide)] at hw
    simp at hw
  · rename_i hc
    by_cases h0 : (gets s).2.2 = 0
    · rw [if_pos h0]
      have : ¬ (x.1 = 18446744073709551615 ∨ (gets s).1 > 18446744073709551615 - x.1 - 1) := fun h => hc ⟨h0, h⟩
      rw [wu64 (n := x.1 + 1) (by omega) (by omega), wu64 (by omega) (by omega)]
      omega
    · rw [numS_e _ h0] at hw
      exact absurd hw h0
theorem slotsF_asc : ∀ (n : Nat) (L : List (Int × Int)) (s : ByteArray) (w : Int), AscK L → (∀ x ∈ L, 0 ≤ x.1 ∧ x.1 ≤ 18446744073709551615) → (slotsF n L s w).2.2 = 0 → AscK (slotsF n L s w).1
  | 0, L, s, w, hA, _, _ => hA
  | n + 1, L, s, w, hA, hr, hw => by
    rw [slotsF] at hw ⊢
    split
    · exact hA
    · rename_i h0
      rw [if_neg h0] at hw
      by_cases h1 : (slot1 L s).2.2 = 0
      · refine slotsF_asc n _ _ _ (slot1_asc hA hr h1) ?_ hw
        intro x hx
        rcases List.mem_append.1 hx with h | h
        · exact hr x h
        · simp at h; subst h; exact slot1_key L s
      · rw [slotsF_err _ _ _ h1] at hw
        exact absurd hw h1
theorem datF_keys : ∀ (L : List (Int × Int)) (E E' : List (Int × ByteArray)) (r r' : ByteArray), datF L E r = some (E', r') → E'.map (·.1) = E.map (·.1) ++ L.map (·.1)
  | [], E, E', r, r', h => by simp [datF] at h; simp [h.1]
  | x :: L, E, E', r, r', h => by
    rw [datF] at h
    split at h
    · cases h
    · have := datF_keys L _ E' _ r' h
      rw [this]; simp [dat1]
theorem asc_map (E : List (Int × ByteArray)) : Asc E ↔ (E.map (·.1)).Pairwise (· < ·) := by rw [List.pairwise_map]
theorem readS_asc (s : ByteArray) : Asc (readS s).1 := by
  unfold readS
  split
  · exact List.Pairwise.nil
  · rename_i hw
    have hw : (slotsR s).2.2 = 0 := by simpa using hw
    cases hd : datF (slotsR s).1 [] (slotsR s).2.1 with
    | none => exact List.Pairwise.nil
    | some x =>
      obtain ⟨E, r⟩ := x
      simp only
      rw [asc_map, datF_keys _ _ _ _ _ hd, List.map_nil, List.nil_append, List.pairwise_map]
      unfold slotsR at hw ⊢
      split
      · exact List.Pairwise.nil
      · rename_i h
        rw [if_neg h] at hw
        exact slotsF_asc _ [] _ _ List.Pairwise.nil (by simp) hw
theorem readS_len {s : ByteArray} (hs : s.size ≤ 9223372036854775807) : (readS s).1.length ≤ 65536 := by
  unfold readS
  split
  · simp
  · cases hd : datF (slotsR s).1 [] (slotsR s).2.1 with
    | none => simp
    | some x =>
      obtain ⟨E, r⟩ := x
      have h1 := congrArg List.length (datF_keys _ _ _ _ _ hd)
      have h2 := (slotsR_inv hs).2.2
      simp at h1
      simp only
      omega
theorem readS_err {s : ByteArray} (h : (readS s).2.2 ≠ 0) : (readS s).1 = [] := by
  unfold readS at h ⊢
  split
  · rfl
  · rename_i hw
    rw [if_neg hw] at h
    cases hd : datF (slotsR s).1 [] (slotsR s).2.1 with
    | none => rfl
    | some x => rw [hd] at h; exact absurd rfl h
theorem rowOf_new (h : Heap) (E : List (Int × ByteArray)) : rowOf (rowH h E) (rowN h.length E) = some E := by
  by_cases hE : E = []
  · subst hE; rfl
  · have e1 : rowN h.length E = .sl h.length 0 0 E.length 2 := if_neg hE
    have e2 : rowH h E = h ++ [⟨0, 52, 2, true, E.flatMap entC⟩] := if_neg hE
    have hl := entC_len E
    rw [e1, e2]
    simp only [rowOf]
    rw [bk_new, rdK_s, if_pos ⟨rfl, by omega⟩, List.drop_zero, List.take_of_length_le (by omega)]
    exact entsA_entC E
def findF (E : List (Int × ByteArray)) (key : Int) : ByteArray × Int := match E.find? fun e => decide (e.1 = key) with | some e => (e.2, 0) | none => (⟨#[]⟩, 3)
theorem low_at {E : List (Int × ByteArray)} {key : Int} (h : isAt E key = true) : ∃ e, E[low E key]? = some e ∧ e.1 = key := by
  unfold isAt at h
  split at h
  · rename_i e he; exact ⟨e, he, by simpa using h⟩
  · cases h
theorem find_at : ∀ {E : List (Int × ByteArray)} {key : Int}, Asc E → E.find? (fun e => decide (e.1 = key)) = if isAt E key then E[low E key]? else none
  | [], key, _ => by simp [isAt, low]
  | x :: E, key, hA => by
    have hA' := List.pairwise_cons.1 hA
    rw [List.find?_cons]
    by_cases h1 : x.1 < key
    · have hl : low (x :: E) key = low E key + 1 := by unfold low; simp [List.takeWhile_cons, h1]
      have hi : isAt (x :: E) key = isAt E key := by unfold isAt; rw [hl, List.getElem?_cons_succ]
      have hne : decide (x.1 = key) = false := by simp; omega
      rw [hne, hi, hl, List.getElem?_cons_succ]
      exact find_at hA'.2
    · have hl : low (x :: E) key = 0 := by unfold low; simp [List.takeWhile_cons, h1]
      have hi : isAt (x :: E) key = decide (x.1 = key) := by unfold isAt; rw [hl]; rfl
      rw [hi, hl]
      by_cases h2 : x.1 = key
      · simp [h2]
      · simp [h2]
        intro a b hab
        have := hA'.1 (a, b) hab
        simp at this
        omega
theorem findF_at {E : List (Int × ByteArray)} {key : Int} (hA : Asc E) {e : Int × ByteArray} (h : isAt E key = true) (he : E[low E key]? = some e) : findF E key = (e.2, 0) := by
  unfold findF; rw [find_at hA, if_pos h, he]
theorem findF_no {E : List (Int × ByteArray)} {key : Int} (hA : Asc E) (h : isAt E key = false) : findF E key = (⟨#[]⟩, 3) := by
  unfold findF; rw [find_at hA, h]; rfl
end Go.Proofs.Ytpmoellbfgcefaa.AS
end
section
set_option autoImplicit false
set_option maxRecDepth 100000
set_option maxHeartbeats 2000000
set_option linter.unusedSimpArgs false
namespace Go.Proofs.Ytpmoellbfgcefaa.AS
open Go Go.Proofs Go.RowKit Go.Proofs.Ytpmoellbfgcefaa.AS.V

noncomputable def hkFind : List AV → Heap → Option (AV × Heap)
  | [.s (.string s), .s (.int .u64 key)], h => if s.size ≤ 9223372036854775807 then some (.tp [.s (.string (if (readS s).2.2 = 0 then (findF (readS s).1 key).1 else ⟨#[]⟩)), .s (.int .i64 (if (readS s).2.2 = 0 then (findF (readS s).1 key).2 else (readS s).2.2))], h) else none
  | _, _ => none
theorem rowH_grows (h : Heap) (E : List (Int × ByteArray)) : Grows h (rowH h E) := by
  unfold rowH; split
  · exact Grows.refl h
  · exact Grows.app h _
theorem hkFind_ok {T : FuncId → Option AFunc} (hm : Try.prog.follows .mixedOrders = true) (hT : TabOK Try.prog T) (h23 : T 23 = prepFn Try.prog 23) (hR : T 33 = some (.hook hkRead)) (hA : T 55 = some (.hook hkAt)) (hc : callable Try.prog 23 = true) : HookSound Try.prog 23 hkFind := by
  refine hookOf hm hT hc fun l h r he => ?_
  unfold hkFind at he
  split at he
  · rename_i s key
    split at he
    · rename_i hs
      cases he
      have c33 := fun k l h => evFn_hook (P := Try.prog) (T := T) (k := k) (f := 33) (args := l) (h := h) hR
      have c55 := fun k l h => evFn_hook (P := Try.prog) (T := T) (k := k) (f := 55) (args := l) (h := h) hA
      have hasc := readS_asc s
      have hlen := readS_len hs
      have hrow := rowOf_new h (readS s).1
      by_cases hw : (readS s).2.2 = 0
      · rw [if_pos hw, if_pos hw]
        generalize hE : (readS s).1 = E at *
        have hlen' : E.length ≤ 4611686018427387903 := by omega
        refine ⟨(.tp [.s (.string (findF E key).1), .s (.int .i64 (findF E key).2)], rowH h E), ?_, Drops.flat (rowH_grows h E) rfl⟩
        cases hi : isAt E key with
        | false =>
          rw [findF_no hasc hi]
          apply FRun.of (e := .ret) (h23.trans p23)
          · apply Run.step 30; intro k j
            simp [c23, c33, hkRead, hs, hE, eq_true hw, c55, hkAt, hrow, hasc, hlen', hi]
            (first | rfl | (constructor <;> rfl))
          · exact Or.inl rfl
          · rfl
        | true =>
          obtain ⟨e, he, _⟩ := low_at hi
          rw [findF_at hasc hi he]
          have hlt : low E key < E.length := (List.getElem?_eq_some_iff.1 he).1
          have hlt' : (low E key : Int) < E.length := by omega
          have hne : E ≠ [] := by intro h; rw [h] at hlt; simp at hlt
          have e1 : rowN h.length E = .sl h.length 0 0 E.length 2 := if_neg hne
          have e2 : rowH h E = h ++ [⟨0, 52, 2, true, E.flatMap entC⟩] := if_neg hne
          rw [e1, e2] at hrow
          rw [e2]
          have hg : (E.flatMap entC)[low E key * 2 + 1]? = some (.s (.string e.2)) := by
            have hs' : E = E.take (low E key) ++ e :: E.drop (low E key + 1) := by
              rw [← (List.getElem?_eq_some_iff.1 he).2, List.getElem_cons_drop, List.take_append_drop]
            have hl : ((E.take (low E key)).flatMap entC).length = low E key * 2 := by rw [entC_len]; simp; omega
            conv => lhs; rw [show (E.flatMap entC) = ((E.take (low E key) ++ e :: E.drop (low E key + 1)).flatMap entC) from by rw [← hs']]
            rw [List.flatMap_append, List.getElem?_append_right (by omega), hl]
            simp [entC]
          have hCl : low E key * 2 + 1 + 1 ≤ (E.flatMap entC).length := by rw [entC_len]; omega
          have hd : ((E.flatMap entC).drop (low E key * 2 + 1)).take 1 = [.s (.string e.2)] := by
            rw [List.take_one, List.head?_drop, hg]; rfl
          generalize E.flatMap entC = C at *
          apply FRun.of (e := .ret) (h23.trans p23)
          · apply Run.step 30; intro k j
            simp [c23, c33, hkRead, hs, hE, eq_true hw, c55, hkAt, hrow, hasc, hlen', hi, e1, e2, hlt', hCl, hd, hg, oneOr]
            (first | rfl | (constructor <;> rfl))
          · exact Or.inl rfl
          · rfl
      · rw [if_neg hw, if_neg hw]
        have hE := readS_err hw
        refine ⟨_, ?_, Drops.refl _ _⟩
        apply FRun.of (e := .ret) (h23.trans p23)
        · apply Run.step 30; intro k j
          simp [c23, c33, hkRead, hs, hE, rowN, rowH, eq_false hw]
          (first | rfl | (constructor <;> rfl))
        · exact Or.inl rfl
        · rfl
    · cases he
  · cases he
end Go.Proofs.Ytpmoellbfgcefaa.AS
end
