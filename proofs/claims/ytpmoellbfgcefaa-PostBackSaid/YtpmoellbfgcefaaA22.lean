/- Of our own: an abstract machine beside the model, its soundness, and walks of the program in it. -/
import Derived.Test.YtpmoellbfgcefaaA21
import Derived.Test.YtpmoellbfgcefaaA9
import Derived.Test.YtpmoellbfgcefaaA8
import Derived.ChangeArms
import Derived.ChangeSame
import Derived.DataReads
import Derived.WideShapes
set_option linter.unusedSimpArgs false
set_option linter.unusedVariables false
section
set_option autoImplicit false
set_option maxRecDepth 100000
set_option maxHeartbeats 2000000
set_option linter.unusedSimpArgs false
namespace Go.Proofs.Ytpmoellbfgcefaa.AS
open Go Go.Proofs Go.RowKit Go.Proofs.Ytpmoellbfgcefaa.AS.V

theorem packF_len : ∀ (m : Nat) (L : List Int) (last : Int), (packF m L last).length ≤ m * 400
  | 0, _, _ => by simp [packF]
  | m + 1, L, last => by
    have h := packF_len m (L.drop 32) ((L.take 32).getLastD 0)
    have hC : (L.take 32).length ≤ 32 := by rw [List.length_take]; omega
    have h1 := leb_length_le (n := IntKind.u64.wrap (IntKind.u32.wrap ((L.take 32).headD 0 - last))) (u64_range _).1 (u64_range _).2
    have h2 := restF_len (L.take 32)
    have h3 := leb_length_le (n := ((L.take 32).length : Int)) (by omega) (by omega)
    have h4 := leb_length_le (n := ((restF (L.take 32)).length : Int)) (by omega) (by omega)
    simp only [packF, blkS, List.length_append]
    omega
theorem packS_size (L : List Int) : (packS L).1.size ≤ 1000000 := by
  unfold packS
  split
  · exact Nat.zero_le _
  · rename_i h
    have hL : L.length ≤ 65536 := by
      have h : chkS L = 0 := by simpa using h
      unfold chkS at h
      split at h
      · simp at h
      · split at h
        · simp at h
        · omega
    have h1 := packF_len ((L.length + 31) / 32) L 0
    have h2 := leb_length_le (n := (L.length : Int)) (by omega) (by omega)
    simp only [strOfNums_size, List.length_append]
    omega
noncomputable def tl9 : ACode := match c9 with
  | .seq _ (.seq (.seq _ (.cond _ _ _)) (.seq _ (.seq _ t))) => t
  | .seq _ (.seq _ (.seq _ (.seq _ (.seq _ t)))) => t
  | _ => .skip
theorem back9_tail (s : ByteArray) (hs : s.size ≤ 140737488355328) (h : Heap) (a0 a2 a3 a4 a5 a6 a7 a8 a9 a10 a11 a12 a13 a14 a15 a16 a17 a18 a19 a20 a21 a22 a23 a24 a25 a26 a27 a28 a29 a30 a31 a32 a33 a34 a35 a36 a37 a38 a39 a40 a41 a42 a43 a44 a45 a46 a47 a48 a49 a50 a51 a52 a53 a54 a55 a56 a57 a58 a59 a60 a61 a62 a63 a64 a65 a66 a67 a68 a69 a70 a71 a72 a73 : AV) :
    ∃ H tm', tm'[4]? = some (.s (.bool true)) ∧ Run Try.prog TP tl9 [a0, .s (.string s), a2, a3, a4, a5, a6, a7, a8, a9, a10, a11, a12, a13, a14, a15, a16, a17, a18, a19, a20, a21, a22, a23, a24, a25, a26, a27, a28, a29, a30, a31, a32, a33, a34, a35, a36, a37, a38, a39, a40, a41, a42, a43, a44, a45, a46, a47, a48, a49, a50, a51, a52, a53, a54, a55, a56, a57, a58, a59, a60, a61, a62, a63, a64, a65, a66, a67, a68, a69, a70, a71, a72, a73] h (.ret, tm', H) := by
  have c41' := fun k l h => evFn_hook (P := Try.prog) (T := TP) (k := k) (f := 41) (args := l) (h := h) TP_41
  have c42' := fun k l h => evFn_hook (P := Try.prog) (T := TP) (k := k) (f := 42) (args := l) (h := h) TP_42
  have hs' : s.size ≤ 9223372036854775807 := by omega
  have q1 : hkUnpack [.s (.string s)] h = some (.tp [rowW h.length (unpackS s).1, .s (.string (unpackS s).2.1), .s (.int .i64 (unpackS s).2.2)], rowWH h (unpackS s).1) := by simp only [hkUnpack]; rw [if_pos hs']
  have r1 := rowW_new h (unpackS s).1
  have l1 := s19_len r1
  have b1 : (unpackS s).1.length ≤ 65536 := by
    by_cases hw : (unpackS s).2.2 = 0
    · exact (pack_unpack hw).2.2.1
    · rw [(unpack_err hw).1]; simp
  by_cases hw : (unpackS s).2.2 = 0
  · obtain ⟨w0, w3, w4, w2⟩ := pack_unpack hw
    have w1 : packS (unpackS s).1 = ((packS (unpackS s).1).1, 0) := by simp [packS, w0]
    have q2 : hkPack [rowW h.length (unpackS s).1] (rowWH h (unpackS s).1) = some (.tp [.s (.string (packS (unpackS s).1).1), .s (.int .i64 0)], rowWH h (unpackS s).1) := by
      simp only [hkPack, r1]
      rw [if_pos (by omega), w1]
    rw [hw] at q1
    generalize hm : rowW h.length (unpackS s).1 = m at q1 q2
    generalize hh : rowWH h (unpackS s).1 = h1 at q1 q2
    generalize (unpackS s).2.1 = rest at q1 w2
    generalize (packS (unpackS s).1).1 = u at q2 w2
    have hj := bin_addS (P := Try.prog) (t := 9) (.tmp 68) (.tmp 69) u rest (by have := congrArg ByteArray.size w2; rw [app_size] at this; omega)
    refine ⟨?qH, ?qtm, ?q1, ?q2⟩
    case q2 =>
      apply Run.seq
      · apply Run.step 20; intro k j
        simp [c9, tl9, c42', q1]
        all_goals (first | rfl | (constructor <;> rfl))
      · apply Run.seq
        · apply Run.step 20; intro k j
          simp
          all_goals (first | rfl | (constructor <;> rfl))
        · apply Run.seq
          · apply Run.step 20; intro k j
            simp [c41', q2]
            all_goals (first | rfl | (constructor <;> rfl))
          · apply Run.seq
            · apply Run.step 20; intro k j
              simp [← w2, hj]
              all_goals (first | rfl | (constructor <;> rfl))
            · apply Run.step 10; intro k j
              simp
              all_goals (first | rfl | (constructor <;> rfl))
    case q1 => rfl
  · obtain ⟨e1, e2⟩ := unpack_err hw
    have hm : rowW h.length (unpackS s).1 = .s (.slice none 0 0) := by rw [e1]; rfl
    have hh : rowWH h (unpackS s).1 = h := by rw [e1]; rfl
    rw [hm, hh, e2] at q1
    generalize (unpackS s).2.2 = w at q1 hw
    refine ⟨?rH, ?rtm, ?r1, ?r2⟩
    case r2 =>
      apply Run.seq
      · apply Run.step 20; intro k j
        simp [c9, tl9, c42', q1]
        all_goals (first | rfl | (constructor <;> rfl))
      · apply Run.seq_stop (by simp)
        apply Run.step 20; intro k j
        simp [hw]
        all_goals (first | rfl | (constructor <;> rfl))
    case r1 => rfl

theorem back9_run (l : AV) (s : ByteArray) (E : List Int) (h : Heap) (hl : rowWOf h l = some E) (hs : s.size ≤ 140737488355328) (hn : E.length ≤ 140737488355328) (hk : ∀ x ∈ E, 0 ≤ x ∧ x ≤ 4294967295) :
    ∃ H, FRun Try.prog TP 9 [l, .s (.string s)] h (.s (.bool true), H) := by
  have c40' := fun k l h => evFn_hook (P := Try.prog) (T := TP) (k := k) (f := 40) (args := l) (h := h) TP_40
  have c19' := fun k l h => evFn_hook (P := Try.prog) (T := TP) (k := k) (f := 19) (args := l) (h := h) TP_19
  have c41' := fun k l h => evFn_hook (P := Try.prog) (T := TP) (k := k) (f := 41) (args := l) (h := h) TP_41
  have c42' := fun k l h => evFn_hook (P := Try.prog) (T := TP) (k := k) (f := 42) (args := l) (h := h) TP_42
  have q1 : hkPack [l] h = some (.tp [.s (.string (packS E).1), .s (.int .i64 (packS E).2)], h) := by
    simp only [hkPack, hl]
    rw [if_pos (by omega)]
  suffices hs : ∃ H tm', Run Try.prog TP c9 ([l, .s (.string s)] ++ List.replicate 72 (.s undef)) h (.ret, tm', H) ∧ tm'[4]? = some (.s (.bool true)) by
    obtain ⟨H, tm', h1, h2⟩ := hs
    exact ⟨H, FRun.of (e := .ret) (tm' := tm') (TP_9.trans p9) h1 (Or.inl rfl) (by simp [resAs, resA, h2, tupA])⟩
  have hpre : ∀ {r : Res}, Run Try.prog TP (match c9 with | .seq _ (.seq _ (.seq _ t)) => t | _ => .skip) [l, (.s (.string s)), (.s undef), (.s undef), (.s (.bool false)), (.s (.string (packS E).1)), (.s (.int .i64 (packS E).2)), (.s undef), (.s undef), (.s undef), (.s undef), (.s undef), (.s undef), (.s undef), (.s undef), (.s (.bool true)), (.s (.bool false)), (.tp [.s (.string (packS E).1), .s (.int .i64 (packS E).2)]), l, (.tp [.s (.string (packS E).1), .s (.int .i64 (packS E).2)]), (.s (.string (packS E).1)), (.s (.int .i64 (packS E).2)), (.s undef), (.s undef), (.s undef), (.s undef), (.s undef), (.s undef), (.s undef), (.s undef), (.s undef), (.s undef), (.s undef), (.s undef), (.s undef), (.s undef), (.s undef), (.s undef), (.s undef), (.s undef), (.s undef), (.s undef), (.s undef), (.s undef), (.s undef), (.s undef), (.s undef), (.s undef), (.s undef), (.s undef), (.s undef), (.s undef), (.s undef), (.s undef), (.s undef), (.s undef), (.s undef), (.s undef), (.s undef), (.s undef), (.s undef), (.s undef), (.s undef), (.s undef), (.s undef), (.s undef), (.s undef), (.s undef), (.s undef), (.s undef), (.s undef), (.s undef), (.s undef), (.s undef)] h r → Run Try.prog TP c9 ([l, .s (.string s)] ++ List.replicate 72 (.s undef)) h r := by
    intro r H
    apply Run.seq
    · apply Run.step 20; intro k j
      simp
      all_goals (first | rfl | (constructor <;> rfl))
    · apply Run.seq
      · apply Run.step 20; intro k j
        simp [c40', hkYes]
        all_goals (first | rfl | (constructor <;> rfl))
      · apply Run.seq ?_ H
        apply Run.step 20; intro k j
        simp [c41', q1]
        all_goals (first | rfl | (constructor <;> rfl))
  by_cases hw : (packS E).2 = 0
  · have hw' : chkS E = 0 := by
      unfold packS at hw
      split at hw
      · exact hw
      · rename_i h; simpa using h
    have hrw := unpack_pack hw' hk s
    have hsz := packS_size E
    have hj := bin_addS (P := Try.prog) (t := 9) (.tmp 25) (.tmp 26) (packS E).1 s (by omega)
    have q2 : hkUnpack [.s (.string ((packS E).1 ++ s))] h = some (.tp [rowW h.length E, .s (.string s), .s (.int .i64 0)], rowWH h E) := by
      simp only [hkUnpack]; rw [if_pos (by rw [app_size]; omega), hrw]
    have q3 : hkSame19 [rowW h.length E, l] (rowWH h E) = some (.s (.bool true), rowWH h E) := by
      simp only [hkSame19, rowW_new, rowWOf_grows (rowWH_grows h E) hl]
      rw [if_pos (by omega)]
      simp
    generalize (packS E).1 = t at *
    rw [hw] at hpre
    generalize rowW h.length E = m at *
    generalize rowWH h E = h1 at *
    obtain ⟨H, tm', z1, z2⟩ := back9_tail s (by omega) h1 l (.s undef) (.s undef) (.s (.bool false)) (.s (.string t)) (.s (.int .i64 0)) m (.s (.string s)) (.s (.int .i64 0)) (.s undef) (.s undef) (.s undef) (.s undef) (.s undef) (.s (.bool true)) (.s (.bool false)) (.tp [.s (.string t), .s (.int .i64 0)]) l (.tp [.s (.string t), .s (.int .i64 0)]) (.s (.string t)) (.s (.int .i64 0)) (.s (.int .i64 0)) (.s (.bool true)) (.tp [m, .s (.string s), .s (.int .i64 0)]) (.s (.string t)) (.s (.string s)) (.s (.string (t ++ s))) (.tp [m, .s (.string s), .s (.int .i64 0)]) m (.s (.string s)) (.s (.int .i64 0)) (.s (.int .i64 0)) (.s (.bool false)) (.s (.bool false)) m l (.s (.bool true)) (.s (.bool false)) (.s (.bool false)) (.s (.bool false)) (.s (.string s)) (.s (.string s)) (.s (.bool false)) (.s (.bool false)) (.s undef) (.s undef) (.s undef) (.s undef) (.s undef) (.s undef) (.s undef) (.s undef) (.s undef) (.s undef) (.s undef) (.s undef) (.s undef) (.s undef) (.s undef) (.s undef) (.s undef) (.s undef) (.s undef) (.s undef) (.s undef) (.s undef) (.s undef) (.s undef) (.s undef) (.s undef) (.s undef) (.s undef) (.s undef)
    refine ⟨H, tm', hpre (Run.seq ?_ z2), z1⟩
    apply Run.seq
    · apply Run.step 20; intro k j
      simp [c9]
      all_goals (first | rfl | (constructor <;> rfl))
    · apply Run.cond (t := true) rfl
      apply Run.seq
      · apply Run.step 30; intro k j
        simp [c42', hj, q2]
        all_goals (first | rfl | (constructor <;> rfl))
      · apply Run.step 40; intro k j
        simp [c19', q3]
        all_goals (first | rfl | (constructor <;> rfl))
  · obtain ⟨H, tm', z1, z2⟩ := back9_tail s (by omega) h l (.s undef) (.s undef) (.s (.bool false)) (.s (.string (packS E).1)) (.s (.int .i64 (packS E).2)) (.s undef) (.s undef) (.s undef) (.s undef) (.s undef) (.s undef) (.s undef) (.s undef) (.s (.bool true)) (.s (.bool false)) (.tp [.s (.string (packS E).1), .s (.int .i64 (packS E).2)]) l (.tp [.s (.string (packS E).1), .s (.int .i64 (packS E).2)]) (.s (.string (packS E).1)) (.s (.int .i64 (packS E).2)) (.s (.int .i64 (packS E).2)) (.s (.bool false)) (.s undef) (.s undef) (.s undef) (.s undef) (.s undef) (.s undef) (.s undef) (.s undef) (.s undef) (.s undef) (.s undef) (.s undef) (.s undef) (.s undef) (.s undef) (.s undef) (.s undef) (.s undef) (.s undef) (.s undef) (.s undef) (.s undef) (.s undef) (.s undef) (.s undef) (.s undef) (.s undef) (.s undef) (.s undef) (.s undef) (.s undef) (.s undef) (.s undef) (.s undef) (.s undef) (.s undef) (.s undef) (.s undef) (.s undef) (.s undef) (.s undef) (.s undef) (.s undef) (.s undef) (.s undef) (.s undef) (.s undef) (.s undef) (.s undef) (.s undef)
    refine ⟨H, tm', hpre (Run.seq ?_ z2), z1⟩
    apply Run.step 20; intro k j
    simp [c9, hw]
    all_goals (first | rfl | (constructor <;> rfl))
end Go.Proofs.Ytpmoellbfgcefaa.AS
end
section
set_option autoImplicit false
namespace Go.Proofs.Ytpmoellbfgcefaa.AS
open Go Go.RowKit Go.ChangeShapes Go.WideShapes

/-- An argument's memory as a block of the abstract heap, to be read alone. -/
theorem HR.arg {P : Program} {W : World} {ρ : PM} {h : Heap} (H : HR P W.heap.size W ρ h W) (B off : Nat) (e : TypeId) (sz : Nat) (l : List AV) (hB : B < W.heap.size)
    (hl : ∀ (j : Nat) (x : AV), l[j]? = some x → ∃ v, W.cell? ⟨B, off + j, none⟩ = some v ∧ RV ρ W x v) :
    HR P W.heap.size W (upd ρ h.length 0 ⟨B, off, e, sz, false⟩) (h ++ [⟨0, e, sz, false, l⟩]) W ∧ Ext ρ (upd ρ h.length 0 ⟨B, off, e, sz, false⟩) := by
  have hx : Ext ρ (upd ρ h.length 0 ⟨B, off, e, sz, false⟩) := upd_ext _ (H.fresh _ _ (Nat.le_refl _))
  refine ⟨⟨H.below, H.hbase, ?_, ?_, ?_⟩, hx⟩
  · intro b ver hlen
    simp only [List.length_append, List.length_cons, List.length_nil] at hlen
    unfold upd
    rw [if_neg (by omega)]
    exact H.fresh _ _ (by omega)
  · intro b k hbk
    rcases Nat.lt_or_ge b h.length with hlt | hge
    · rw [List.getElem?_append_left hlt] at hbk
      obtain ⟨p, h1, h2, h3, h4, h5, h6, h7, h8⟩ := H.blk b k hbk
      refine ⟨p, hx _ _ _ h1, ?_, h3, h4, h5, h6, fun j x hj => ?_, h8⟩
      · intro v hv
        unfold upd
        rw [if_neg (by omega)]
        exact h2 v hv
      · obtain ⟨v, hv, hr⟩ := h7 j x hj
        exact ⟨v, hv, RV_mono hx (Keep.refl _) _ _ hr⟩
    · have hbe : b = h.length := by
        have := (List.getElem?_eq_some_iff.1 hbk).1
        simp at this
        omega
      subst hbe
      simp at hbk
      subst hbk
      refine ⟨⟨B, off, e, sz, false⟩, upd_same _ _ _ _, ?_, rfl, rfl, rfl, hB, ?_, fun h => by cases h⟩
      · intro v hv
        unfold upd
        rw [if_neg (by simp at hv; omega)]
        exact H.fresh _ _ (Nat.le_refl _)
      · intro j x hj
        obtain ⟨v, hv, hr⟩ := hl j x hj
        exact ⟨v, hv, RV_mono hx (Keep.refl _) _ _ hr⟩
  · intro b b' k k' p p' hbk hbk' hp hp' hrw heq
    have lt_old : ∀ b k p, h[b]? = some k → ρ b k.ver = some p → k.rw = true → W.heap.size ≤ p.blk := by
      intro b k p hb hp hr
      obtain ⟨q, h1, _, _, _, _, _, _, h8⟩ := H.blk b k hb
      rw [hp] at h1; cases h1; exact (h8 hr).1
    rcases Nat.lt_or_ge b h.length with hlt | hge
    · rw [List.getElem?_append_left hlt] at hbk
      unfold upd at hp
      rw [if_neg (by omega)] at hp
      rcases Nat.lt_or_ge b' h.length with hlt' | hge'
      · rw [List.getElem?_append_left hlt'] at hbk'
        unfold upd at hp'
        rw [if_neg (by omega)] at hp'
        exact H.inj b b' k k' p p' hbk hbk' hp hp' hrw heq
      · have hbe : b' = h.length := by
          have := (List.getElem?_eq_some_iff.1 hbk').1
          simp at this
          omega
        subst hbe
        simp at hbk'
        subst hbk'
        rw [upd_same] at hp'
        cases hp'
        have := lt_old b k p hbk hp hrw
        simp only at heq
        omega
    · have hbe : b = h.length := by
        have := (List.getElem?_eq_some_iff.1 hbk).1
        simp at this
        omega
      subst hbe
      simp at hbk
      subst hbk
      cases hrw

/-- Values of a type without memory behind them: their cells, and what is known of them. -/
structure Flat (P : Program) (t : TypeId) (α : Type) (bulk : (H : Type) → DataW H → Nat) where
  cells : α → List Value
  sz : Nat
  size : α → Nat
  wf : α → Prop
  len : ∀ a, (cells a).length = sz
  cellsOf : P.cellsOf t = sz
  opens : ∀ (H : Type) (enc : TypeId × Value → H) (W : World) (fuel : Nat) (cs : List Value) (x : DataW H × List MemPlace), DataW.trod enc P W 0 (fun _ => true) true fuel t cs = some x → ∃ a, cs = cells a ∧ size a ≤ bulk H x.1 ∧ wf a
def sizes {α : Type} (size : α → Nat) : List α → Nat
  | [] => 0
  | a :: l => size a + sizes size l
theorem sizes_append {α : Type} (size : α → Nat) (l r : List α) : sizes size (l ++ r) = sizes size l + sizes size r := by
  induction l with
  | nil => simp [sizes]
  | cons a l ih => simp only [List.cons_append, sizes, ih]; omega
theorem flat_len {α : Type} {cells : α → List Value} {sz : Nat} (h : ∀ a, (cells a).length = sz) : ∀ l : List α, (l.flatMap cells).length = l.length * sz
  | [] => by simp
  | a :: l => by rw [List.flatMap_cons, List.length_append, h, flat_len h l, List.length_cons, Nat.succ_mul]; omega
/-- A slice of such values. -/
theorem open_flat {P : Program} {bulk : (H : Type) → DataW H → Nat} {bulks : (H : Type) → List (DataW H) → Nat} (hb0 : ∀ H, bulks H [] = 0) (hb1 : ∀ H d l, bulks H (d :: l) = bulk H d + bulks H l) (hb2 : ∀ H e s, bulks H e + 1 ≤ bulk H (.slice e s))
    {t e : TypeId} {α : Type} (F : Flat P e α bulk) (hu : P.underlying t = some (.slice e)) {H : Type} {enc : TypeId × Value → H} {W : World} {a : Option Addr} {len cap : Nat} {D : DataW H} {ps : List MemPlace}
    (hD : DataW.Trod enc P W 0 (fun _ => true) true t (.slice a len cap) D ps) :
    ∃ l : List α, len = l.length ∧ len ≤ cap ∧ cap ≤ maxLen ∧ (a = none → len = 0 ∧ cap = 0) ∧ (∀ x, a = some x → ∀ j v, (l.flatMap F.cells)[j]? = some v → W.cell? (x.add j) = some v) ∧ sizes F.size l ≤ bulk H D ∧ ∀ y ∈ l, F.wf y := by
  obtain ⟨fuel, hf⟩ := hD
  rcases DataW.trod_slice hu hf with ⟨hcs, hx⟩ | ⟨x, len', cap', elems, rest, n, rfl, hcs, hx, hb, hl, hm, hlen, hel, hsp, hns⟩
  · simp [Value.cells] at hcs
    obtain ⟨rfl, rfl, rfl⟩ := hcs
    exact ⟨[], rfl, Nat.le_refl _, by simp [maxLen], fun _ => ⟨rfl, rfl⟩, fun x hx => (by cases hx), by simp [sizes], by simp⟩
  · simp [Value.cells] at hcs
    obtain ⟨rfl, rfl, rfl⟩ := hcs
    cases hx
    have key : ∀ m, m ≤ len → ∃ l : List α, l.length = m ∧ (∀ j v, (l.flatMap F.cells)[j]? = some v → W.cell? (x.add j) = some v) ∧ sizes F.size l ≤ bulks H ((elems.take m).map (·.1)) ∧ ∀ y ∈ l, F.wf y := by
      intro m
      induction m with
      | zero => intro _; exact ⟨[], rfl, by simp, by simp [sizes], by simp⟩
      | succ m ih =>
        intro hm'
        obtain ⟨l, hl1, hl2, hl3, hl4⟩ := ih (by omega)
        have hlt : m < elems.length := by omega
        have he := hel m (by omega)
        rw [List.getElem?_eq_getElem hlt, Option.bind_eq_some_iff] at he
        obtain ⟨c, hcs, htr⟩ := he
        obtain ⟨p, hK, hbk, hwf⟩ := F.opens H enc W n c _ htr
        refine ⟨l ++ [p], by simp [hl1], ?_, ?_, ?_⟩
        · intro j v hj
          have hfl := flat_len F.len l
          rw [List.flatMap_append] at hj
          rcases Nat.lt_or_ge j (l.flatMap F.cells).length with hjl | hjl
          · rw [List.getElem?_append_left hjl] at hj
            exact hl2 j v hj
          · rw [List.getElem?_append_right hjl] at hj
            obtain ⟨_, hcl, hce⟩ := World.cells?_some hcs
            simp only [List.flatMap_cons, List.flatMap_nil, List.append_nil] at hj
            rw [← hK] at hj
            have hlt2 : j - (l.flatMap F.cells).length < P.cellsOf e := by rw [← hcl]; exact (List.getElem?_eq_some_iff.1 hj).1
            have := hce _ hlt2
            rw [hj, Addr.add_add, F.cellsOf, hfl, hl1] at this
            rw [hfl, hl1] at hjl
            rw [show m * F.sz + (j - m * F.sz) = j by omega] at this
            exact this
        · rw [List.take_succ_eq_append_getElem hlt, List.map_append, sizes_append]
          have happ : ∀ a b : List (DataW H), bulks H (a ++ b) = bulks H a + bulks H b := by
            intro a b
            induction a with
            | nil => simp [hb0]
            | cons d a ih => simp only [List.cons_append, hb1, ih]; omega
          rw [happ]
          simp only [sizes, List.map_cons, List.map_nil, hb1, hb0]
          omega
        · intro y hy
          rcases List.mem_append.1 hy with h | h
          · exact hl4 y h
          · simp at h; subst h; exact hwf
    obtain ⟨l, hl1, hl2, hl3, hl4⟩ := key len (Nat.le_refl _)
    refine ⟨l, hl1.symm, hl, hm, fun h => (by cases h), fun y hy => ?_, ?_, hl4⟩
    · cases hy; exact hl2
    · rw [List.take_of_length_le (by omega)] at hl3
      exact Nat.le_trans hl3 (Nat.le_trans (Nat.le_succ _) (hb2 H _ _))
/-- A slice's place. -/
theorem okWide_place {P : Program} {t e : TypeId} {W : World} {r : Reach} {base : Nat} {x : Addr} {len cap : Nat} (hu : P.underlying t = some (.slice e)) (h : Value.okWide P W r base t (.slice (some x) len cap)) : ∃ B off, x = ⟨B, off, none⟩ ∧ B < W.heap.size := by
  simp only [Value.okWide, hu, Cell.okWide, Cell.ok, World.has] at h
  obtain ⟨_, _, _, hs, row, cells, hsh, _⟩ := h
  obtain ⟨B, off, spot⟩ := x
  simp only at hs hsh
  subst hs
  refine ⟨B, off, rfl, ?_⟩
  rcases Nat.lt_or_ge B W.heap.size with h | h
  · exact h
  · simp [World.shape?, Array.getElem?_eq_none h] at hsh
/-- An argument that is a slice, in the abstract heap. -/
theorem slice_arg {P : Program} {W : World} {ρ : PM} {h : Heap} (H : HR P W.heap.size W ρ h W) {t e : TypeId} {sz : Nat} {l : List Value} {a : Option Addr} {len cap : Nat} {r : Reach} {base : Nat} (hu : P.underlying t = some (.slice e)) (hok : Value.okWide P W r base t (.slice a len cap))
    (hl : len ≤ cap) (h0 : a = none → len = 0 ∧ cap = 0) (hc : ∀ x, a = some x → ∀ j v, l[j]? = some v → W.cell? (x.add j) = some v) :
    ∃ ρ' x bs, HR P W.heap.size W ρ' (h ++ bs) W ∧ Ext ρ ρ' ∧ RV ρ' W x (.slice a len cap) ∧ ((x = .s (.slice none 0 0) ∧ bs = [] ∧ len = 0) ∨ (x = .sl h.length 0 0 len sz ∧ bs = [⟨0, e, sz, false, l.map .s⟩])) := by
  cases a with
  | none =>
    obtain ⟨rfl, rfl⟩ := h0 rfl
    exact ⟨ρ, .s (.slice none 0 0), [], by simpa using H, Ext.refl _, rfl, Or.inl ⟨rfl, rfl, rfl⟩⟩
  | some x =>
    obtain ⟨B, off, rfl, hB⟩ := okWide_place hu hok
    obtain ⟨H', hx⟩ := H.arg B off e sz (l.map .s) hB (by
      intro j x hj
      rw [List.getElem?_map, Option.map_eq_some_iff] at hj
      obtain ⟨v, hv, rfl⟩ := hj
      refine ⟨v, ?_, rfl⟩
      have := hc _ rfl j v hv
      unfold Addr.add at this
      split at this
      · rename_i h0; subst h0; exact this
      · exact this)
    refine ⟨_, .sl h.length 0 0 len sz, _, H', hx, ⟨_, cap, _, ⟨upd_same _ _ _ _, rfl⟩, rfl, hl, Or.inr rfl, fun h => by cases h⟩, Or.inr ⟨rfl, rfl⟩⟩
end Go.Proofs.Ytpmoellbfgcefaa.AS
end
section
set_option autoImplicit false
namespace Go.Proofs.Ytpmoellbfgcefaa.AS
open Go Go.RowKit Go.ChangeShapes Go.WideShapes
/-- A slice's reading has as many elements. -/
theorem slice_len {P : Program} {t e : TypeId} (hu : P.underlying t = some (.slice e)) {H : Type} {enc : TypeId × Value → H} {W : World} {a : Option Addr} {len cap : Nat} {D : DataW H} {ps : List MemPlace}
    (hD : DataW.Trod enc P W 0 (fun _ => true) true t (.slice a len cap) D ps) : len = 0 ∨ ∃ el sp, D = .slice el sp ∧ el.length = len := by
  obtain ⟨fuel, hf⟩ := hD
  rcases DataW.trod_slice hu hf with ⟨hcs, hx⟩ | ⟨x, len', cap', elems, rest, n, rfl, hcs, hx, hb, hl, hm, hlen, hel, hsp, hns⟩
  · simp [Value.cells] at hcs
    exact .inl hcs.2.1
  · simp [Value.cells] at hcs
    obtain ⟨rfl, rfl, rfl⟩ := hcs
    cases hx
    exact .inr ⟨_, _, rfl, by simp [hlen]⟩
end Go.Proofs.Ytpmoellbfgcefaa.AS
end
