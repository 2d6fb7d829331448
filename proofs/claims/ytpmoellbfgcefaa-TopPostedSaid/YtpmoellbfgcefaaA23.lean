/- Of our own: an abstract machine beside the model, its soundness, and walks of the program in it. -/
import Derived.Test.YtpmoellbfgcefaaA22
import Derived.Test.YtpmoellbfgcefaaA20
set_option linter.unusedSimpArgs false
set_option linter.unusedVariables false
section
set_option autoImplicit false
set_option maxRecDepth 100000
set_option maxHeartbeats 4000000
set_option linter.unusedSimpArgs false
namespace Go.Proofs.Ytpmoellbfgcefaa.AS
open Go Go.Proofs Go.RowKit Go.Proofs.Ytpmoellbfgcefaa.AS.V

theorem numR_ok {s : ByteArray} {w a b : Int} (h : (numR s w a b).2.2 = 0) : w = 0 ∧ a ≤ (numR s w a b).1 ∧ (numR s w a b).1 ≤ b := by
  unfold numR at h ⊢
  split at h
  · rename_i hw; exact absurd h hw
  · rename_i hw
    rw [if_neg hw]
    split at h
    · simp at h
    · rename_i hc
      rw [if_neg hc]
      refine ⟨by simpa using hw, ?_, ?_⟩
      · by_cases hl : (gets s).1 < a
        · exact absurd ⟨h, .inl hl⟩ hc
        · omega
      · by_cases hl : b < (gets s).1
        · exact absurd ⟨h, .inr hl⟩ hc
        · omega
/-- What a call of block leaves. -/
structure BlkOut (h H : Heap) (br vr : Nat) (all : Int) (x : AV) (R : List Int × ByteArray × Int × Int × Bool × Int) : Prop where
  keep : ∀ c, c < h.length → c ≠ br → bk H c = bk h c
  len : h.length ≤ H.length
  rd : bk H br = some ⟨vr, 111, 6, true, rdC R.2.1 all R.2.2.1 R.2.2.2.1 R.2.2.2.2.1 R.2.2.2.2.2⟩
  nil : R.2.2.2.2.2 ≠ 0 → x = .s (.slice none 0 0)
  row : R.2.2.2.2.2 = 0 → ∃ bo vo, x = .sl bo vo 0 R.1.length 1 ∧ h.length ≤ bo ∧ bk H bo = some ⟨vo, 32, 1, true, R.1.map cellW⟩ ∧ 1 ≤ R.1.length ∧ R.1.length ≤ 32
theorem block_run {T : FuncId → Option AFunc} (h82 : T 82 = prepFn Try.prog 82) (h88 : T 88 = prepFn Try.prog 88) (h89 : T 89 = prepFn Try.prog 89) (h60 : T 60 = some (.hook hkGet)) (h : Heap) (br vr : Nat) (s : ByteArray) (hs : s.size ≤ 9223372036854775807) (all left last : Int) (hl : 1 ≤ left ∧ left ≤ 65536) (sm : Bool) (hb : bk h br = some ⟨vr, 111, 6, true, rdC s all left last sm 0⟩) :
    ∃ H x, FRun Try.prog T 82 [.pt br vr 0] h (x, H) ∧ BlkOut h H br vr all x (blkR s left last sm) := by
  obtain ⟨a, ha⟩ : ∃ a, a = numR s 0 (if sm then 1 else 0) 4294967295 := ⟨_, rfl⟩
  obtain ⟨want, hw⟩ : ∃ want : Int, want = if 32 < left then 32 else left := ⟨_, rfl⟩
  obtain ⟨b, hb'⟩ : ∃ b, b = numR a.2.1 a.2.2 want want := ⟨_, rfl⟩
  obtain ⟨c, hc⟩ : ∃ c, c = numR b.2.1 b.2.2 0 18446744073709551615 := ⟨_, rfl⟩
  have hR : blkR s left last sm = (if c.2.2 ≠ 0 then ([], c.2.1, left, last, sm, c.2.2)
      else if 4294967295 < IntKind.u64.wrap (last + a.1) then ([], c.2.1, left, last, sm, 7)
      else if (c.2.1.size : Int) < c.1 then ([], c.2.1, left, last, sm, 5)
      else match restG (want.toNat - 1) [IntKind.u64.wrap (last + a.1)] (c.2.1.extract 0 c.1.toNat) (IntKind.u64.wrap (last + a.1)) with
        | none => ([], c.2.1, left, last, sm, 7)
        | some (O, s') => if s' = ⟨#[]⟩ then (O, c.2.1.extract c.1.toNat c.2.1.size, left - O.length, O.getLastD 0, true, 0) else ([], c.2.1, left, last, sm, 7)) := by
    rw [hc, hb', hw, ha]; rfl
  rw [hR]
  have hsa : a.2.1.size ≤ 9223372036854775807 := by rw [ha]; exact numR_size hs _ _ _
  have hsb : b.2.1.size ≤ 9223372036854775807 := by rw [hb']; exact numR_size hsa _ _ _
  have hsc : c.2.1.size ≤ 9223372036854775807 := by rw [hc]; exact numR_size hsb _ _ _
  have hcr : 0 ≤ c.1 := by rw [hc]; exact (numR_range _ _ _ _).1
  have hwr := wrap_range (last + a.1)
  obtain ⟨H, tm, b3, k3, l3, ⟨x1, x2, x3, x4, x8, x9, x10, x11, x12, x13, x14, x15, x16, x17, x18, x19, x20, x21, x22, x23, x24, x25, x26, x27, x28, x29, x30, x31, x32, rfl⟩, hrun⟩ := blk_head (T := T) h88 h60 h br vr s hs all left last hl sm hb _ rfl a b c want ha hw hb' hc
  have fin : ∀ (tm' : List AV) (G : Heap) (x : AV), tm'[2]? = some x → Run Try.prog T tl82 (fr82 (.pt br vr 0) (IntKind.u64.wrap (last + a.1)) b.1 c.1 x1 x2 x3 x4 x8 x9 x10 x11 x12 x13 x14 x15 x16 x17 x18 x19 x20 x21 x22 x23 x24 x25 x26 x27 x28 x29 x30 x31 x32) H (.ret, tm', G) → FRun Try.prog T 82 [.pt br vr 0] h (x, G) := fun tm' G x h1 h2 =>
    FRun.of (e := .ret) (tm' := tm') (h82.trans p82) (hrun _ h2) (Or.inl rfl) (by simp [resAs, resA, h1, tupA])
  have hlt := bk_lt b3
  generalize IntKind.u64.wrap (last + a.1) = first at *
  by_cases h1 : c.2.2 = 0
  · rw [if_neg (by simpa using h1)]
    by_cases h2 : 4294967295 < first
    · rw [if_pos h2]
      obtain ⟨tm', y1, y2⟩ := blk_e2 (T := T) H br vr c.2.1 hsc all left last sm c.2.2 first b.1 c.1 b3 h1 h2 x1 x2 x3 x4 x8 x9 x10 x11 x12 x13 x14 x15 x16 x17 x18 x19 x20 x21 x22 x23 x24 x25 x26 x27 x28 x29 x30 x31 x32
      exact ⟨_, _, fin _ _ _ y1 y2, fun c _ h => (bk_oth h).trans (k3 c h), by simp; omega, bk_put hlt, fun _ => rfl, fun h => by simp at h⟩
    · rw [if_neg h2]
      by_cases h3 : (c.2.1.size : Int) < c.1
      · rw [if_pos h3]
        obtain ⟨tm', y1, y2⟩ := blk_e3 (T := T) H br vr c.2.1 hsc all left last sm c.2.2 first b.1 c.1 b3 h1 h2 h3 x1 x2 x3 x4 x8 x9 x10 x11 x12 x13 x14 x15 x16 x17 x18 x19 x20 x21 x22 x23 x24 x25 x26 x27 x28 x29 x30 x31 x32
        exact ⟨_, _, fin _ _ _ y1 y2, fun c _ h => (bk_oth h).trans (k3 c h), by simp; omega, bk_put hlt, fun _ => rfl, fun h => by simp at h⟩
      · rw [if_neg h3]
        have hb2 : b.2.2 = 0 := (numR_ok (hc ▸ h1)).1
        have hb1 : b.1 = want := by
          have := numR_ok (s := a.2.1) (w := a.2.2) (a := want) (b := want) (hb' ▸ hb2)
          rw [← hb'] at this
          omega
        have hwant : 1 ≤ want ∧ want ≤ 32 := by rw [hw]; split <;> omega
        obtain ⟨k, hk⟩ : ∃ k : Nat, want = ((1 + k : Nat) : Int) := ⟨want.toNat - 1, by omega⟩
        have hkn : want.toNat - 1 = k := by omega
        rw [hkn]
        rw [hb1, hk] at fin
        rw [h1] at b3
        obtain ⟨i1, i2⟩ := blk_ok (T := T) h89 h60 H br vr c.2.1 hsc all left last hl sm first c.1 k (by omega) hwr.1 h2 hcr h3 b3 x1 x2 x3 x4 x8 x9 x10 x11 x12 x13 x14 x15 x16 x17 x18 x19 x20 x21 x22 x23 x24 x25 x26 x27 x28 x29 x30 x31 x32
        have bad : (restG k [first] (c.2.1.extract 0 c.1.toNat) first = none ∨ ∃ O s', restG k [first] (c.2.1.extract 0 c.1.toNat) first = some (O, s') ∧ s' ≠ ⟨#[]⟩) → ∃ H x, FRun Try.prog T 82 [.pt br vr 0] h (x, H) ∧ BlkOut h H br vr all x ([], c.2.1, left, last, sm, 7) := fun he => by
          obtain ⟨G, tm', y1, y2, y3, y4, y5⟩ := i2 he
          exact ⟨G, _, fin _ _ _ y1 y5, fun c h1 h2 => (y2 c (by omega) h2).trans (k3 c h2), by omega, y4, fun _ => rfl, fun h => by simp at h⟩
        cases he : restG k [first] (c.2.1.extract 0 c.1.toNat) first with
        | none => exact bad (.inl he)
        | some p =>
          obtain ⟨O, s'⟩ := p
          simp only
          by_cases hs' : s' = ⟨#[]⟩
          · rw [if_pos hs']
            obtain ⟨G, tm', bo, vo, y1, y2, y3, y4, y5, y6, y7, y8⟩ := i1 O s' he hs'
            exact ⟨G, _, fin _ _ _ y1 y8, fun c h1 h2 => (y5 c (by omega) h2).trans (k3 c h2), by omega, y7, fun h => absurd rfl h, fun _ => ⟨bo, vo, rfl, by omega, y4, by simp only; omega, by simp only; omega⟩⟩
          · rw [if_neg hs']
            exact bad (.inr ⟨O, s', he, hs'⟩)
  · rw [if_pos h1]
    obtain ⟨tm', y1, y2⟩ := blk_e1 (T := T) H br vr c.2.1 hsc all left last sm c.2.2 first b.1 c.1 b3 h1 x1 x2 x3 x4 x8 x9 x10 x11 x12 x13 x14 x15 x16 x17 x18 x19 x20 x21 x22 x23 x24 x25 x26 x27 x28 x29 x30 x31 x32
    exact ⟨_, _, fin _ _ _ y1 y2, fun c _ h => k3 c h, by omega, b3, fun _ => rfl, fun h => absurd h h1⟩
end Go.Proofs.Ytpmoellbfgcefaa.AS
end
section
set_option autoImplicit false
set_option maxRecDepth 100000
set_option maxHeartbeats 4000000
set_option linter.unusedSimpArgs false
namespace Go.Proofs.Ytpmoellbfgcefaa.AS
open Go Go.Proofs Go.RowKit Go.Proofs.Ytpmoellbfgcefaa.AS.V

/-- A row of numbers that may be put behind. -/
def rowS (h : Heap) (a : AV) (B : List Int) : Prop := (a = .s (.slice none 0 0) ∧ B = []) ∨ ∃ b v, a = .sl b v 0 B.length 1 ∧ bk h b = some ⟨v, 32, 1, true, B.map cellW⟩ ∧ B ≠ []
theorem rowS.mono {h H : Heap} {a : AV} {B : List Int} (x : rowS h a B) (hk : ∀ c, blkOf a = some c → bk H c = bk h c) : rowS H a B := by
  rcases x with x | ⟨b, v, rfl, hb, hn⟩
  · exact Or.inl x
  · exact Or.inr ⟨b, v, rfl, by rw [hk b rfl, hb], hn⟩
theorem rowS.lt {h : Heap} {a : AV} {B : List Int} (x : rowS h a B) {c : Nat} (hc : blkOf a = some c) : c < h.length := by
  rcases x with ⟨rfl, _⟩ | ⟨b, v, rfl, hb, _⟩
  · cases hc
  · cases hc; exact bk_lt hb
theorem rowS.cells {h : Heap} {a : AV} {B : List Int} (x : rowS h a B) : cellsOf a = some [a] ∧ isCell a = true := by
  rcases x with ⟨rfl, _⟩ | ⟨b, v, rfl, _⟩ <;> exact ⟨rfl, rfl⟩
theorem rowS.cast {h : Heap} {a : AV} {B B' : List Int} (x : rowS h a B) (e : B = B') : rowS h a B' := e ▸ x
theorem cellW_cells (C : List Int) : (C.map cellW).all isCell = true := by simp [cellW, isCell]
theorem ap_rowS {h : Heap} {a : AV} {B : List Int} (hI : rowS h a B) (C : List Int) (hB : (B.length + C.length) * 4 ≤ 140737488355328) :
    ∃ H a', apV 32 1 4 h (some a) (some (C.length, C.map cellW)) = some (a', H) ∧ Ap h H a a' ∧ rowS H a' (B ++ C) := by
  rcases hI with ⟨rfl, rfl⟩ | ⟨b, v, rfl, hb, hn⟩
  · cases C with
    | nil => exact ⟨h, _, rfl, ⟨fun _ _ _ => rfl, Nat.le_refl _, fun c hc => by cases hc⟩, Or.inl ⟨rfl, rfl⟩⟩
    | cons x C =>
      simp only [List.length_nil, List.length_cons] at hB
      refine ⟨_, _, apV_nil 32 1 4 _ _ (by simp) (cellW_cells _) (by simp only [List.length_cons]; omega) (by simp only [List.length_cons]; omega), ⟨fun c hc _ => by simp [hc], by simp, fun c hc => Or.inl (by simp [blkOf] at hc; omega)⟩, Or.inr ⟨_, _, rfl, ?_, by simp⟩⟩
      simp
  · have hlb := bk_lt hb
    refine ⟨_, _, (apV_sl 32 1 4 C.length b v 0 B.length 1 (C.map cellW)).trans ((congrArg _ hb).trans (apK_s _ _ _ _ _ _ _ _ _ _ _ _ _ _ ⟨rfl, rfl, rfl, rfl, by simp, cellW_cells _, by omega, by omega⟩)), ?_, Or.inr ⟨b, v + 1, by simp, ?_, by simp [hn]⟩⟩
    · refine ⟨fun c hc hn => ?_, by simp, fun c hc => Or.inr hc⟩
      have : b ≠ c := fun e => hn (by rw [e]; rfl)
      simp [hc, this]
    · have hall : (B.map cellW).take B.length = B.map cellW := List.take_of_length_le (by simp)
      simp [hlb, hall]
theorem src_rowS {h : Heap} {b v : Nat} {B : List Int} (hb : bk h b = some ⟨v, 32, 1, true, B.map cellW⟩) : srcW 1 h (some (.sl b v 0 B.length 1)) = some (B.length, B.map cellW) := by
  have hall : (B.map cellW).take B.length = B.map cellW := List.take_of_length_le (by simp)
  simp [hb, rdK, hall]
def fr81 (B bx : Nat) (a2 a3 a4 : AV) : List AV := [.yl B, .pt bx 0 0, a2, a3, a4] ++ List.replicate 36 .any
noncomputable def lp81 : ACode := match c81 with
  | .block _ l => l
  | _ => .skip
noncomputable def body81 : ACode := match lp81 with
  | .loop _ b => b
  | _ => .skip
noncomputable def fg81 : List Nat := match lp81 with
  | .loop fg _ => fg
  | _ => []
theorem u81_end {C : CallF → Prop} (B bx br vr : Nat) (h : Heap) (s : ByteArray) (all left last : Int) (sm : Bool) (w : Int) (hx : bk h bx = some ⟨0, 105, 1, true, [.pt br vr 0]⟩) (hb : bk h br = some ⟨vr, 111, 6, true, rdC s all left last sm w⟩) (he : w ≠ 0 ∨ ¬ 0 < left) (a2 a3 a4 : AV) :
    ∃ tm', RunU Try.prog C body81 (fr81 B bx a2 a3 a4) h (.exit 0, tm', h) := by
  have hlt := bk_lt hb
  have hltx := bk_lt hx
  unfold rdC at hb
  by_cases hw : w = 0
  · have hl : ¬ 0 < left := he.elim (fun h => absurd hw h) id
    refine ⟨?q1, RunU.step 30 fun g hg k => ?q2⟩
    case q2 =>
      simp [c81, lp81, body81, fr81, hx, hb, hlt, hltx, oneOr, nilV, hw, eq_false hl]
      (first | rfl | (constructor <;> rfl))
  · refine ⟨?r1, RunU.step 30 fun g hg k => ?r2⟩
    case r2 =>
      simp [c81, lp81, body81, fr81, hx, hb, hlt, hltx, oneOr, nilV, hw]
      (first | rfl | (constructor <;> rfl))
theorem u81_one {C : CallF → Prop} (B bx br vr : Nat) (h h1 h2 : Heap) (s : ByteArray) (hs : s.size ≤ 9223372036854775807) (all left last : Int) (hall : 0 ≤ all ∧ all ≤ 9223372036854775807) (sm : Bool) (hl : 0 < left) (hx : bk h bx = some ⟨0, 105, 1, true, [.pt br vr 0]⟩) (hb : bk h br = some ⟨vr, 111, 6, true, rdC s all left last sm 0⟩) (x : AV)
    (hx1 : bk h1 bx = some ⟨0, 105, 1, true, [.pt br vr 0]⟩) (s1 : ByteArray) (left1 last1 : Int) (sm1 : Bool) (w1 : Int) (hb1 : bk h1 br = some ⟨vr, 111, 6, true, rdC s1 all left1 last1 sm1 w1⟩)
    (hc : ∀ g, C g → g 82 [.pt br vr 0] h = some (x, h1)) (hy : w1 = 0 → ∀ g, C g → g (1000000000 + B) [.s (.int .i64 (all - s.size)), x] h1 = some (.s (.bool true), h2)) (hn : w1 ≠ 0 → h2 = h1) (a2 a3 a4 : AV) :
    ∃ tm' a3' a4', forget fg81 tm' = fr81 B bx a2 a3' a4' ∧ RunU Try.prog C body81 (fr81 B bx a2 a3 a4) h (.normal, tm', h2) := by
  have hlt := bk_lt hb
  have hltx := bk_lt hx
  have hlt1 := bk_lt hb1
  have hltx1 := bk_lt hx1
  have wsz : IntKind.i64.wrap (all - (s.size : Int)) = all - s.size := w64k (by omega) (by omega)
  unfold rdC at hb hb1
  by_cases hw : w1 = 0
  · have hy2 := hy hw
    subst hw
    refine ⟨?q1, ?q2, ?q3, ?q4, ?q5⟩
    case q5 =>
      apply RunU.seq
      · apply RunU.step 30; intro g hg k
        simp [c81, lp81, body81, fr81, hx, hb, hlt, hltx, oneOr, nilV, eq_true hl]
        (first | rfl | (constructor <;> rfl))
      · apply RunU.block_id (by simp)
        apply RunU.seq
        · apply RunU.step 30; intro g hg k
          simp [hx, hb, hlt, hltx, oneOr, nilV, wsz, Try.underlying9]
          (first | rfl | (constructor <;> rfl))
        · apply RunU.seq
          · apply RunU.step 30; intro g hg k
            simp [hx, oneOr, hc g hg]
            (first | rfl | (constructor <;> rfl))
          · apply RunU.step 40; intro g hg k
            simp [hx1, hb1, hlt1, hltx1, oneOr, nilV, hy2 g hg]
            (first | rfl | (constructor <;> rfl))
    case q4 =>
      simp [forget, fg81, lp81, c81, fr81]
      all_goals (first | rfl | (refine ⟨?_, ?_⟩ <;> rfl))
  · have hn := hn hw
    subst hn
    refine ⟨?r1, ?r2, ?r3, ?r4, ?r5⟩
    case r5 =>
      apply RunU.seq
      · apply RunU.step 30; intro g hg k
        simp [c81, lp81, body81, fr81, hx, hb, hlt, hltx, oneOr, nilV, eq_true hl]
        (first | rfl | (constructor <;> rfl))
      · apply RunU.block_id (by simp)
        apply RunU.seq
        · apply RunU.step 30; intro g hg k
          simp [hx, hb, hlt, hltx, oneOr, nilV, wsz, Try.underlying9]
          (first | rfl | (constructor <;> rfl))
        · apply RunU.seq
          · apply RunU.step 30; intro g hg k
            simp [hx, oneOr, hc g hg]
            (first | rfl | (constructor <;> rfl))
          · apply RunU.step 40; intro g hg k
            simp [hx1, hb1, hlt1, hltx1, oneOr, nilV, hw]
            (first | rfl | (constructor <;> rfl))
    case r4 =>
      simp [forget, fg81, lp81, c81, fr81]
      all_goals (first | rfl | (refine ⟨?_, ?_⟩ <;> rfl))
end Go.Proofs.Ytpmoellbfgcefaa.AS
end
section
set_option autoImplicit false
set_option maxRecDepth 100000
set_option maxHeartbeats 4000000
set_option linter.unusedSimpArgs false
namespace Go.Proofs.Ytpmoellbfgcefaa.AS
open Go Go.Proofs Go.RowKit Go.Proofs.Ytpmoellbfgcefaa.AS.V

def fq42 (p6 : Nat) (a0 a1 a2 a3 a4 a5 a7 a8 a9 a10 a11 a12 a13 a14 a15 a16 a17 a18 a19 a20 a21 a22 a23 a24 a25 a26 a27 a28 a29 a30 a31 : AV) : List AV := [a0, a1, a2, a3, a4, a5, .pt p6 0 0, a7, a8, a9, a10, a11, a12, a13, a14, a15, a16, a17, a18, a19, a20, a21, a22, a23, a24, a25, a26, a27, a28, a29, a30, a31]
noncomputable def rf42 : ACode := match c42 with
  | .seq _ (.seq _ (.seq _ (.seq (.seq _ (.block _ r)) _))) => r
  | _ => .skip
noncomputable def tl42 : ACode := match c42 with
  | .seq _ (.seq _ (.seq _ (.seq _ t))) => t
  | _ => .skip
noncomputable def rb42 : ACode := match rf42 with
  | .rangeF _ _ _ b => b
  | _ => .skip
noncomputable def ra42 : ACode := match rf42 with
  | .rangeF _ _ a _ => a
  | _ => .skip
theorem rnd42 {T : FuncId → Option AFunc} (p6 : Nat) (at1 ov : AV) (bo vo : Nat) (acc O : List Int) (H : Heap) (i6 : bk H p6 = some ⟨0, 23, 1, true, [ov]⟩) (hI : rowS H ov acc) (hO : bk H bo = some ⟨vo, 32, 1, true, O.map cellW⟩) (hB : acc.length + O.length ≤ 1000000) (a0 a1 a2 a3 a4 a5 a7 a8 a9 a10 a11 a12 a13 a14 a15 a16 a17 a18 a19 a20 a21 a22 a23 a24 a25 a26 a27 a28 a29 a30 a31 : AV) :
    ∃ tm1 tm2 G ov', Run Try.prog T ra42 (putPs [13, 14] [at1, .sl bo vo 0 O.length 1] (fq42 p6 a0 a1 a2 a3 a4 a5 a7 a8 a9 a10 a11 a12 a13 a14 a15 a16 a17 a18 a19 a20 a21 a22 a23 a24 a25 a26 a27 a28 a29 a30 a31)) H (.normal, tm1, H) ∧ Run Try.prog T rb42 tm1 H (.normal, tm2, G) ∧ bk G p6 = some ⟨0, 23, 1, true, [ov']⟩ ∧ rowS G ov' (acc ++ O) ∧
      (∀ c, c < H.length → c ≠ p6 → blkOf ov ≠ some c → bk G c = bk H c) ∧ H.length ≤ G.length ∧ (∀ c, blkOf ov' = some c → H.length ≤ c ∨ blkOf ov = some c) := by
  have l6 := bk_lt i6
  have n6 : blkOf ov ≠ some p6 := fun h => by
    rcases hI with ⟨rfl, _⟩ | ⟨c, w, rfl, hc, _⟩
    · cases h
    · cases h; rw [i6] at hc; cases hc
  obtain ⟨G, ov', f1, y1, r1⟩ := ap_rowS hI O (by omega)
  have s1 := src_rowS hO
  have n6' : blkOf ov' ≠ some p6 := fun h => (y1.place _ h).elim (fun h => by omega) n6
  have v6 : bk G p6 = some ⟨0, 23, 1, true, [ov]⟩ := (y1.keep p6 l6 n6).trans i6
  have lG := y1.len
  have co := (rowS.cells r1).1
  have io := (rowS.cells r1).2
  refine ⟨?tm1, ?tm2, G.set p6 ⟨0, 23, 1, true, [ov']⟩, ov', ?ra, ?rb, bk_put (by omega), r1.mono fun c hc => bk_oth (fun e => n6' (by rw [← e]; exact hc)), fun c h1 h2 h3 => (bk_oth h2).trans (y1.keep c h1 h3), by simp; omega, y1.place⟩
  case ra =>
    apply Run.step 10; intro k j
    simp [c42, rf42, ra42, fq42, putPs]
    (first | rfl | (constructor <;> rfl))
  case rb =>
    apply Run.block_id (by simp)
    apply Run.step 30; intro k j
    simp [i6, oneOr, s1, f1, v6, co, io]
    (first | rfl | (constructor <;> rfl))
theorem restG_len : ∀ (k : Nat) (O : List Int) (s : ByteArray) (n : Int) (O' : List Int) (s' : ByteArray), restG k O s n = some (O', s') → O'.length = O.length + k
  | 0, O, s, n, O', s', h => by simp only [restG, Option.some.injEq, Prod.mk.injEq] at h; obtain ⟨rfl, _⟩ := h; rfl
  | k + 1, O, s, n, O', s', h => by
    simp only [restG] at h
    split at h
    · cases h
    · have := restG_len k _ _ _ O' s' h
      rw [List.length_append, List.length_singleton] at this
      omega
theorem numR_shorter (s : ByteArray) (w a b : Int) : (numR s w a b).2.1.size ≤ s.size := by
  have := gets_shorter s
  unfold numR
  split
  · exact Nat.le_refl _
  · split
    · simp only; omega
    · omega
def blkE (first want : Int) (c : Int × ByteArray × Int) (left last : Int) (sm : Bool) : List Int × ByteArray × Int × Int × Bool × Int :=
  if c.2.2 ≠ 0 then ([], c.2.1, left, last, sm, c.2.2)
  else if 4294967295 < first then ([], c.2.1, left, last, sm, 7)
  else if (c.2.1.size : Int) < c.1 then ([], c.2.1, left, last, sm, 5)
  else match restG (want.toNat - 1) [first] (c.2.1.extract 0 c.1.toNat) first with
    | none => ([], c.2.1, left, last, sm, 7)
    | some (O, s') => if s' = ⟨#[]⟩ then (O, c.2.1.extract c.1.toNat c.2.1.size, left - O.length, O.getLastD 0, true, 0) else ([], c.2.1, left, last, sm, 7)
theorem blkR_eq (s : ByteArray) (left last : Int) (sm : Bool) : ∃ a b c, a = numR s 0 (if sm then 1 else 0) 4294967295 ∧ b = numR a.2.1 a.2.2 (if 32 < left then 32 else left) (if 32 < left then 32 else left) ∧ c = numR b.2.1 b.2.2 0 18446744073709551615 ∧ blkR s left last sm = blkE (IntKind.u64.wrap (last + a.1)) (if 32 < left then 32 else left) c left last sm :=
  ⟨_, _, _, rfl, rfl, rfl, rfl⟩
theorem blkE_size (first want : Int) (c : Int × ByteArray × Int) (left last : Int) (sm : Bool) : (blkE first want c left last sm).2.1.size ≤ c.2.1.size := by
  have h4 : (c.2.1.extract c.1.toNat c.2.1.size).size ≤ c.2.1.size := by
    rw [← bytesOf_length, bytesOf_extract _ _ _ (Nat.le_refl _), List.length_drop, List.length_take, bytesOf_length]; omega
  unfold blkE
  split
  · simp only; omega
  · split
    · simp only; omega
    · split
      · simp only; omega
      · split
        · simp only; omega
        · split <;> (simp only; omega)
theorem blkR_size (s : ByteArray) (left last : Int) (sm : Bool) : (blkR s left last sm).2.1.size ≤ s.size := by
  obtain ⟨a, b, c, ha, hb, hc, he⟩ := blkR_eq s left last sm
  rw [he]
  have h1 := numR_shorter s 0 (if sm then 1 else 0) 4294967295
  rw [← ha] at h1
  have h2 := numR_shorter a.2.1 a.2.2 (if 32 < left then 32 else left) (if 32 < left then 32 else left)
  rw [← hb] at h2
  have h3 := numR_shorter b.2.1 b.2.2 0 18446744073709551615
  rw [← hc] at h3
  have h4 := blkE_size (IntKind.u64.wrap (last + a.1)) (if 32 < left then 32 else left) c left last sm
  omega
theorem blkE_left {first want : Int} {c : Int × ByteArray × Int} {left last : Int} {sm : Bool} (hw : (blkE first want c left last sm).2.2.2.2.2 = 0) : (blkE first want c left last sm).2.2.1 = left - (blkE first want c left last sm).1.length ∧ (blkE first want c left last sm).1.length = want.toNat - 1 + 1 := by
  unfold blkE at hw ⊢
  split at hw
  · rename_i h; exact absurd hw h
  · rename_i h1
    rw [if_neg h1]
    split at hw
    · simp at hw
    · rename_i h2
      rw [if_neg h2]
      split at hw
      · simp at hw
      · rename_i h3
        rw [if_neg h3]
        split at hw
        · simp at hw
        · rename_i O s' he
          split at hw
          · rename_i h4
            simp only [he, if_pos h4]
            have := restG_len _ _ _ _ _ _ he
            rw [List.length_singleton] at this
            exact ⟨trivial, by omega⟩
          · simp at hw
theorem blkR_left {s : ByteArray} {left last : Int} {sm : Bool} (hl : 1 ≤ left) (hw : (blkR s left last sm).2.2.2.2.2 = 0) : (blkR s left last sm).2.2.1 = left - (blkR s left last sm).1.length ∧ ((blkR s left last sm).1.length : Int) = (if 32 < left then 32 else left) := by
  obtain ⟨a, b, c, ha, hb, hc, he⟩ := blkR_eq s left last sm
  rw [he] at hw ⊢
  have := blkE_left hw
  refine ⟨this.1, ?_⟩
  rw [this.2]
  split <;> omega
/-- All that is unpacked. -/
def unpF : Nat → ByteArray → Int → Int → Bool → Int → List Int → List Int × ByteArray × Int × Int × Bool × Int
  | 0, s, left, last, sm, w, acc => (acc, s, left, last, sm, w)
  | k + 1, s, left, last, sm, w, acc => if w ≠ 0 ∨ ¬ 0 < left then (acc, s, left, last, sm, w) else
      if (blkR s left last sm).2.2.2.2.2 ≠ 0 then (acc, (blkR s left last sm).2) else unpF k (blkR s left last sm).2.1 (blkR s left last sm).2.2.1 (blkR s left last sm).2.2.2.1 (blkR s left last sm).2.2.2.2.1 0 (acc ++ (blkR s left last sm).1)
end Go.Proofs.Ytpmoellbfgcefaa.AS
end
section
set_option autoImplicit false
set_option maxRecDepth 100000
set_option maxHeartbeats 4000000
set_option linter.unusedSimpArgs false
namespace Go.Proofs.Ytpmoellbfgcefaa.AS
open Go Go.Proofs Go.RowKit Go.Proofs.Ytpmoellbfgcefaa.AS.V

theorem unpF_stop (k : Nat) {s : ByteArray} {left last : Int} {sm : Bool} {w : Int} {acc : List Int} (h : w ≠ 0 ∨ ¬ 0 < left) : unpF k s left last sm w acc = (acc, s, left, last, sm, w) := by
  cases k with
  | zero => rfl
  | succ k => unfold unpF; rw [if_pos h]
theorem it81 {T : FuncId → Option AFunc} (h82 : T 82 = prepFn Try.prog 82) (h88 : T 88 = prepFn Try.prog 88) (h89 : T 89 = prepFn Try.prog 89) (h60 : T 60 = some (.hook hkGet)) (B bx br vr p6 n0 : Nat) (all : Int) (hall : 0 ≤ all ∧ all ≤ 9223372036854775807) (hn : n0 ≤ bx ∧ n0 ≤ br ∧ n0 ≤ p6) (d1 : bx ≠ br) (d2 : p6 ≠ br) (d3 : p6 ≠ bx) (a0 a1 c2 c3 c4 c5 a7 a8 a9 a10 a11 a12 a13 a14 a15 a16 a17 a18 a19 a20 a21 a22 a23 a24 a25 a26 a27 a28 a29 a30 a31 : AV) :
    ∀ (k : Nat) (s : ByteArray) (left last : Int) (sm : Bool) (w : Int) (acc : List Int) (h : Heap) (ov a2 a3 a4 : AV), left ≤ k → s.size ≤ 9223372036854775807 → acc.length + left ≤ 65536 →
      bk h bx = some ⟨0, 105, 1, true, [.pt br vr 0]⟩ → bk h br = some ⟨vr, 111, 6, true, rdC s all left last sm w⟩ → bk h p6 = some ⟨0, 23, 1, true, [ov]⟩ → rowS h ov acc → (∀ c, blkOf ov = some c → n0 ≤ c ∧ c ≠ bx ∧ c ≠ br) →
      ∃ evs tm' H ov', RunU Try.prog (EvC evs) (.loop fg81 body81) (fr81 B bx a2 a3 a4) h (.exit 0, tm', H) ∧
        (∀ c ∈ evs, EvOK Try.prog T B [13, 14] (fq42 p6 a0 a1 c2 c3 c4 c5 a7 a8 a9 a10 a11 a12 a13 a14 a15 a16 a17 a18 a19 a20 a21 a22 a23 a24 a25 a26 a27 a28 a29 a30 a31) ra42 rb42 c) ∧
        (∀ c, c < n0 → bk H c = bk h c) ∧ bk H p6 = some ⟨0, 23, 1, true, [ov']⟩ ∧ rowS H ov' (unpF k s left last sm w acc).1 ∧ (∀ c, blkOf ov' = some c → n0 ≤ c) ∧
        bk H br = some ⟨vr, 111, 6, true, rdC (unpF k s left last sm w acc).2.1 all (unpF k s left last sm w acc).2.2.1 (unpF k s left last sm w acc).2.2.2.1 (unpF k s left last sm w acc).2.2.2.2.1 (unpF k s left last sm w acc).2.2.2.2.2⟩ := by
  intro k
  have fin : ∀ (k : Nat) (s : ByteArray) (left last : Int) (sm : Bool) (w : Int) (acc : List Int) (h : Heap) (ov a2 a3 a4 : AV), w ≠ 0 ∨ ¬ 0 < left →
      bk h bx = some ⟨0, 105, 1, true, [.pt br vr 0]⟩ → bk h br = some ⟨vr, 111, 6, true, rdC s all left last sm w⟩ → bk h p6 = some ⟨0, 23, 1, true, [ov]⟩ → rowS h ov acc → (∀ c, blkOf ov = some c → n0 ≤ c ∧ c ≠ bx ∧ c ≠ br) →
      ∃ evs tm' H ov', RunU Try.prog (EvC evs) (.loop fg81 body81) (fr81 B bx a2 a3 a4) h (.exit 0, tm', H) ∧
        (∀ c ∈ evs, EvOK Try.prog T B [13, 14] (fq42 p6 a0 a1 c2 c3 c4 c5 a7 a8 a9 a10 a11 a12 a13 a14 a15 a16 a17 a18 a19 a20 a21 a22 a23 a24 a25 a26 a27 a28 a29 a30 a31) ra42 rb42 c) ∧
        (∀ c, c < n0 → bk H c = bk h c) ∧ bk H p6 = some ⟨0, 23, 1, true, [ov']⟩ ∧ rowS H ov' (unpF k s left last sm w acc).1 ∧ (∀ c, blkOf ov' = some c → n0 ≤ c) ∧
        bk H br = some ⟨vr, 111, 6, true, rdC (unpF k s left last sm w acc).2.1 all (unpF k s left last sm w acc).2.2.1 (unpF k s left last sm w acc).2.2.2.1 (unpF k s left last sm w acc).2.2.2.2.1 (unpF k s left last sm w acc).2.2.2.2.2⟩ := by
    intro k s left last sm w acc h ov a2 a3 a4 he hx hb i6 hI hP
    rw [unpF_stop k he]
    obtain ⟨tm', H⟩ := u81_end (C := EvC []) B bx br vr h s all left last sm w hx hb he a2 a3 a4
    exact ⟨[], tm', h, ov, RunU.loop_end (by simp [forget, fg81, lp81, c81, fr81]) (by simp) H, fun c hc => absurd hc (List.not_mem_nil), fun _ _ => rfl, i6, hI, fun c hc => (hP c hc).1, hb⟩
  induction k with
  | zero =>
    intro s left last sm w acc h ov a2 a3 a4 hk hs hacc hx hb i6 hI hP
    exact fin 0 s left last sm w acc h ov a2 a3 a4 (.inr (by omega)) hx hb i6 hI hP
  | succ k ih =>
    intro s left last sm w acc h ov a2 a3 a4 hk hs hacc hx hb i6 hI hP
    by_cases he : w ≠ 0 ∨ ¬ 0 < left
    · exact fin (k + 1) s left last sm w acc h ov a2 a3 a4 he hx hb i6 hI hP
    · have hw : w = 0 := by
        by_cases h : w = 0
        · exact h
        · exact absurd (.inl h) he
      have hl : 0 < left := by
        by_cases h : 0 < left
        · exact h
        · exact absurd (.inr h) he
      subst hw
      have hu : unpF (k + 1) s left last sm 0 acc = if (blkR s left last sm).2.2.2.2.2 ≠ 0 then (acc, (blkR s left last sm).2) else unpF k (blkR s left last sm).2.1 (blkR s left last sm).2.2.1 (blkR s left last sm).2.2.2.1 (blkR s left last sm).2.2.2.2.1 0 (acc ++ (blkR s left last sm).1) := by
        rw [unpF, if_neg he]
      obtain ⟨h1, x, f1, y1⟩ := block_run (T := T) h82 h88 h89 h60 h br vr s hs all left last ⟨by omega, by omega⟩ sm hb
      have lx := bk_lt hx
      have lb := bk_lt hb
      have l6 := bk_lt i6
      have hx1 : bk h1 bx = some ⟨0, 105, 1, true, [.pt br vr 0]⟩ := (y1.keep bx lx d1).trans hx
      have hi1 : bk h1 p6 = some ⟨0, 23, 1, true, [ov]⟩ := (y1.keep p6 l6 d2).trans i6
      have hI1 : rowS h1 ov acc := hI.mono fun c hc => y1.keep c (hI.lt hc) (hP c hc).2.2
      have hzs := blkR_size s left last sm
      rw [hu]
      by_cases hw1 : (blkR s left last sm).2.2.2.2.2 = 0
      · obtain ⟨bo, vo, rfl, hbo, hO, o1, o2⟩ := y1.row hw1
        obtain ⟨bl1, bl2⟩ := blkR_left (by omega) hw1
        have hR := y1.rd
        rw [if_neg (by simpa using hw1)]
        rw [hw1] at hR
        generalize blkR s left last sm = R at *
        obtain ⟨tm1, tm2, G, ov', ra, rb, g6, gI, gk, gl, gp⟩ := rnd42 (T := T) p6 (.s (.int .i64 (all - s.size))) ov bo vo acc R.1 h1 hi1 hI1 hO (by omega) a0 a1 c2 c3 c4 c5 a7 a8 a9 a10 a11 a12 a13 a14 a15 a16 a17 a18 a19 a20 a21 a22 a23 a24 a25 a26 a27 a28 a29 a30 a31
        have hlen := y1.len
        obtain ⟨tm', a3', a4', e1, r1⟩ := u81_one (C := EvC [(82, [.pt br vr 0], h, (AV.sl bo vo 0 R.1.length 1, h1)), (1000000000 + B, [.s (.int .i64 (all - s.size)), .sl bo vo 0 R.1.length 1], h1, (.s (.bool true), G))]) B bx br vr h h1 G s hs all left last hall sm hl hx hb (.sl bo vo 0 R.1.length 1) hx1 R.2.1 R.2.2.1 R.2.2.2.1 R.2.2.2.2.1 0 hR (fun g hg => hg _ (List.mem_cons_self ..)) (fun _ g hg => hg _ (List.mem_cons_of_mem _ (List.mem_cons_self ..))) (fun h => absurd rfl h) a2 a3 a4
        have q : ∀ c, blkOf ov' = some c → n0 ≤ c ∧ c ≠ bx ∧ c ≠ br := fun c hc => (gp c hc).elim (fun hg => ⟨by omega, by omega, by omega⟩) (hP c)
        have nbx : blkOf ov ≠ some bx := fun h => (hP bx h).2.1 rfl
        have nbr : blkOf ov ≠ some br := fun h => (hP br h).2.2 rfl
        obtain ⟨evs, tm2', H, ovz, z1, z2, z3, z4, z5, z6, z7⟩ := ih R.2.1 R.2.2.1 R.2.2.2.1 R.2.2.2.2.1 0 (acc ++ R.1) G ov' a2 a3' a4' (by omega) (by omega) (by simp only [List.length_append]; omega)
          ((gk bx (by omega) (by omega) nbx).trans hx1) ((gk br (by omega) (by omega) nbr).trans hR) g6 gI q
        refine ⟨(82, [.pt br vr 0], h, (AV.sl bo vo 0 R.1.length 1, h1)) :: (1000000000 + B, [.s (.int .i64 (all - s.size)), .sl bo vo 0 R.1.length 1], h1, (.s (.bool true), G)) :: evs, tm2', H, ovz, RunU.loop_go (by simp [forget, fg81, lp81, c81, fr81]) (r1.mono fun g hg c hc => hg c ?_) e1 (z1.mono fun g hg c hc => hg c (List.mem_cons_of_mem _ (List.mem_cons_of_mem _ hc))), ?_, fun c hc => ?_, z4, z5, z6, z7⟩
        · rcases List.mem_cons.1 hc with rfl | hc
          · exact List.mem_cons_self ..
          · rcases List.mem_cons.1 hc with rfl | hc
            · exact List.mem_cons_of_mem _ (List.mem_cons_self ..)
            · exact absurd hc (List.not_mem_nil)
        · intro c hc
          rcases List.mem_cons.1 hc with rfl | hc
          · exact .inl ⟨by simp, f1⟩
          · rcases List.mem_cons.1 hc with rfl | hc
            · exact .inr ⟨rfl, rfl, tm1, h1, tm2, G, ra, rb, rfl⟩
            · exact z2 c hc
        · rw [z3 c hc, gk c (by omega) (by omega) (fun e => by have := (hP c e).1; omega), y1.keep c (by omega) (by omega)]
      · have hx' := y1.nil hw1
        have hR := y1.rd
        subst hx'
        rw [if_pos hw1]
        generalize blkR s left last sm = R at *
        obtain ⟨tm', a3', a4', e1, r1⟩ := u81_one (C := EvC [(82, [.pt br vr 0], h, (AV.s (.slice none 0 0), h1))]) B bx br vr h h1 h1 s hs all left last hall sm hl hx hb (.s (.slice none 0 0)) hx1 R.2.1 R.2.2.1 R.2.2.2.1 R.2.2.2.2.1 R.2.2.2.2.2 hR (fun g hg => hg _ (List.mem_cons_self ..)) (fun h => absurd h hw1) (fun _ => rfl) a2 a3 a4
        obtain ⟨tm2', H2⟩ := u81_end (C := EvC []) B bx br vr h1 R.2.1 all R.2.2.1 R.2.2.2.1 R.2.2.2.2.1 R.2.2.2.2.2 hx1 hR (.inl hw1) a2 a3' a4'
        have H2' := RunU.loop_end (fg := fg81) (tm := fr81 B bx a2 a3' a4') (by simp [forget, fg81, lp81, c81, fr81]) (by simp) H2
        refine ⟨[(82, [.pt br vr 0], h, (AV.s (.slice none 0 0), h1))], tm2', h1, ov, RunU.loop_go (by simp [forget, fg81, lp81, c81, fr81]) r1 e1 (H2'.mono fun g hg c hc => absurd hc (List.not_mem_nil)), ?_, fun c hc => ?_, hi1, hI1, fun c hc => (hP c hc).1, hR⟩
        · intro c hc
          rcases List.mem_cons.1 hc with rfl | hc
          · exact .inl ⟨by simp, f1⟩
          · exact absurd hc (List.not_mem_nil)
        · exact y1.keep c (by omega) (by omega)
end Go.Proofs.Ytpmoellbfgcefaa.AS
end
section
set_option autoImplicit false
set_option maxRecDepth 100000
set_option maxHeartbeats 4000000
set_option linter.unusedSimpArgs false
namespace Go.Proofs.Ytpmoellbfgcefaa.AS
open Go Go.Proofs Go.RowKit Go.Proofs.Ytpmoellbfgcefaa.AS.V

theorem blocks_run {T : FuncId → Option AFunc} (hT : T 67 = prepFn Try.prog 67) (br vr : Nat) (h : Heap) :
    FRun Try.prog T 67 [.pt br vr 0] h (.fn (.func 81) [] [.pt h.length 0 0], h ++ [⟨0, 105, 1, true, [.pt br vr 0]⟩]) := by
  suffices hs : ∃ tm', Run Try.prog T c67 ([.pt br vr 0] ++ List.replicate 3 (.s undef)) h (.ret, tm', h ++ [⟨0, 105, 1, true, [.pt br vr 0]⟩]) ∧ tm'[2]? = some (.fn (.func 81) [] [.pt h.length 0 0]) by
    obtain ⟨tm', h1, h2⟩ := hs
    exact FRun.of (e := .ret) (tm' := tm') (hT.trans p67) h1 (Or.inl rfl) (by simp [resAs, resA, h2, tupA])
  refine ⟨?qtm, ?q1, ?q2⟩
  case q1 =>
    apply Run.step 40; intro k j
    simp [c67, cellsOf, isCell, oneOr, pV, evOs]
    (first | rfl | (constructor <;> rfl))
  case q2 => rfl
theorem it81_whole {C : CallF → Prop} {B bx : Nat} {h H : Heap} {tm' : List AV} (hr : RunU Try.prog C (.loop fg81 body81) (fr81 B bx (.s undef) (.s undef) (.s undef)) h (.exit 0, tm', H)) :
    RunU Try.prog C c81 (.yl B :: [.pt bx 0 0] ++ List.replicate 39 (.s undef)) h (.normal, tm', H) := by
  apply RunU.block_exit
  apply RunU.loop_forget
  simpa [forget, fg81, lp81, c81, fr81, body81] using hr
def unpackS (s : ByteArray) : List Int × ByteArray × Int :=
  if (unpF (openS s).2.2.1.toNat (openS s).1 (openS s).2.2.1 0 false (openS s).2.2.2 []).2.2.2.2.2 ≠ 0 then ([], ⟨#[]⟩, (unpF (openS s).2.2.1.toNat (openS s).1 (openS s).2.2.1 0 false (openS s).2.2.2 []).2.2.2.2.2)
  else ((unpF (openS s).2.2.1.toNat (openS s).1 (openS s).2.2.1 0 false (openS s).2.2.2 []).1, (unpF (openS s).2.2.1.toNat (openS s).1 (openS s).2.2.1 0 false (openS s).2.2.2 []).2.1, 0)
theorem openS_range (s : ByteArray) : 0 ≤ (openS s).2.2.1 ∧ (openS s).2.2.1 ≤ 65536 ∧ 0 ≤ (openS s).2.1 ∧ (openS s).2.1 ≤ s.size ∧ (openS s).1.size ≤ s.size := by
  have h := gets_range s
  have h2 := gets_shorter s
  unfold openS
  split
  · exact ⟨Int.le_refl _, by simp, Int.le_refl _, by simp, Nat.zero_le _⟩
  · split
    · exact ⟨Int.le_refl _, by simp, Int.le_refl _, by simp, Nat.zero_le _⟩
    · rename_i h1 h3
      refine ⟨by simp only; omega, by simp only; omega, by simp, by simp, ?_⟩
      by_cases hs : s.size = 0
      · simp only; omega
      · simp only; omega
theorem unpack_run {T : FuncId → Option AFunc} (hm : Try.prog.follows .mixedOrders = true) (hTab : TabOK Try.prog T) (hT : T 42 = prepFn Try.prog 42) (h66 : T 66 = prepFn Try.prog 66) (h67 : T 67 = prepFn Try.prog 67) (h82 : T 82 = prepFn Try.prog 82) (h88 : T 88 = prepFn Try.prog 88) (h89 : T 89 = prepFn Try.prog 89) (h60 : T 60 = some (.hook hkGet)) (h : Heap) (s : ByteArray) (hs : s.size ≤ 9223372036854775807) :
    ∃ H a, FRun Try.prog T 42 [.s (.string s)] h (.tp [a, .s (.string (unpackS s).2.1), .s (.int .i64 (unpackS s).2.2)], H) ∧ rowS H a (unpackS s).1 ∧ (∀ c, c < h.length → bk H c = bk h c) ∧ h.length ≤ H.length ∧ (∀ c, blkOf a = some c → h.length ≤ c) := by
  suffices hs : ∃ H tm' a, Run Try.prog T c42 ([.s (.string s)] ++ List.replicate 31 (.s undef)) h (.ret, tm', H) ∧ tm'[2]? = some a ∧ tm'[3]? = some (.s (.string (unpackS s).2.1)) ∧ tm'[4]? = some (.s (.int .i64 (unpackS s).2.2)) ∧ rowS H a (unpackS s).1 ∧ (∀ c, c < h.length → bk H c = bk h c) ∧ h.length ≤ H.length ∧ (∀ c, blkOf a = some c → h.length ≤ c) by
    obtain ⟨H, tm', a, h1, h2, h3, h4, h5, h6, h7, h8⟩ := hs
    exact ⟨H, a, FRun.of (e := .ret) (tm' := tm') (hT.trans p42) h1 (Or.inl rfl) (by simp [resAs, resA, h2, h3, h4, tupA]), h5, h6, h7, h8⟩
  obtain ⟨J1, j1⟩ := (open_run (T := T) h66 h60 s hs h).get
  obtain ⟨r1, r2, r3, r4, r5⟩ := openS_range s
  obtain ⟨O, hO⟩ : ∃ O, O = openS s := ⟨_, rfl⟩
  have hU : unpackS s = if (unpF O.2.2.1.toNat O.1 O.2.2.1 0 false O.2.2.2 []).2.2.2.2.2 ≠ 0 then ([], ⟨#[]⟩, (unpF O.2.2.1.toNat O.1 O.2.2.1 0 false O.2.2.2 []).2.2.2.2.2)
    else ((unpF O.2.2.1.toNat O.1 O.2.2.1 0 false O.2.2.2 []).1, (unpF O.2.2.1.toNat O.1 O.2.2.1 0 false O.2.2.2 []).2.1, 0) := by rw [hO]; rfl
  rw [← hO] at j1 r1 r2 r3 r4 r5
  obtain ⟨K, hK⟩ : ∃ K : Heap, K = h ++ [⟨0, 111, 6, true, rdC O.1 O.2.1 O.2.2.1 0 false O.2.2.2⟩, ⟨0, 23, 1, true, [.s (.slice none 0 0)]⟩] := ⟨_, rfl⟩
  have lK : K.length = h.length + 2 := by rw [hK]; simp
  obtain ⟨J2, j2⟩ := (blocks_run (T := T) h67 h.length 0 K).get
  obtain ⟨H0, hH0⟩ : ∃ H0 : Heap, H0 = K ++ [⟨0, 105, 1, true, [.pt h.length 0 0]⟩] := ⟨_, rfl⟩
  have l0 : H0.length = h.length + 3 := by rw [hH0]; simp [lK]
  rw [← hH0] at j2
  obtain ⟨HL, hHL⟩ : ∃ HL : Heap, HL = H0 ++ [loopBlk] := ⟨_, rfl⟩
  have eHL : HL = h ++ [⟨0, 111, 6, true, rdC O.1 O.2.1 O.2.2.1 0 false O.2.2.2⟩, ⟨0, 23, 1, true, [.s (.slice none 0 0)]⟩, ⟨0, 105, 1, true, [.pt h.length 0 0]⟩, loopBlk] := by rw [hHL, hH0, hK]; simp
  have oh : ∀ c, c < h.length → bk HL c = bk h c := fun c hc => by rw [eHL]; simp [bk, List.getElem?_append_left hc]
  have xr : bk HL h.length = some ⟨0, 111, 6, true, rdC O.1 O.2.1 O.2.2.1 0 false O.2.2.2⟩ := by rw [eHL]; simp [bk]
  have x6 : bk HL (h.length + 1) = some ⟨0, 23, 1, true, [.s (.slice none 0 0)]⟩ := by rw [eHL]; simp [bk]
  have xx : bk HL (h.length + 2) = some ⟨0, 105, 1, true, [.pt h.length 0 0]⟩ := by rw [eHL]; simp [bk]
  obtain ⟨evs, tmI, H, ov', z1, z2, z3, z4, z5, z6, z7⟩ := it81 (T := T) h82 h88 h89 h60 H0.length (h.length + 2) h.length 0 (h.length + 1) h.length O.2.1 ⟨r3, by omega⟩ ⟨by omega, by omega, by omega⟩ (by omega) (by omega) (by omega) (.s (.string s)) (.s undef) (.s (.slice none 0 0)) (.s (.string ⟨#[]⟩)) (.s (.int .i64 0)) (.pt h.length 0 0) (.s undef) (.s undef) (.s (.string s)) (.pt h.length 0 0) (.pt h.length 0 0) (.fn (.func 81) [] [.pt (h.length + 2) 0 0]) (.s undef) (.s undef) (.s undef) (.s undef) (.s undef) (.s undef) (.s undef) (.s undef) (.s undef) (.s undef) (.s undef) (.s undef) (.s undef) (.s undef) (.s undef) (.s undef) (.s undef) (.s undef) (.s undef)
    O.2.2.1.toNat O.1 O.2.2.1 0 false O.2.2.2 [] HL (.s (.slice none 0 0)) (.s undef) (.s undef) (.s undef) (by omega) (by omega) (by simp only [List.length_nil]; omega) xx xr x6 (.inl ⟨rfl, rfl⟩) (fun c hc => by cases hc)
  have hloop := Run.rangeF (T := T) hm hTab (f := .tmp 12) (ps := [13, 14]) (asg := ra42) (body := rb42) (tm := fq42 (h.length + 1) (.s (.string s)) (.s undef) (.s (.slice none 0 0)) (.s (.string ⟨#[]⟩)) (.s (.int .i64 0)) (.pt h.length 0 0) (.s undef) (.s undef) (.s (.string s)) (.pt h.length 0 0) (.pt h.length 0 0) (.fn (.func 81) [] [.pt (h.length + 2) 0 0]) (.s undef) (.s undef) (.s undef) (.s undef) (.s undef) (.s undef) (.s undef) (.s undef) (.s undef) (.s undef) (.s undef) (.s undef) (.s undef) (.s undef) (.s undef) (.s undef) (.s undef) (.s undef) (.s undef)) (h := H0) (gf := 81) (cap := [.pt (h.length + 2) 0 0]) rfl p81 evs (.inr rfl) (by rw [← hHL]; exact it81_whole z1) z2
  generalize unpF O.2.2.1.toNat O.1 O.2.2.1 0 false O.2.2.2 [] = U at *
  have lH : h.length + 1 < H.length := bk_lt z4
  unfold rdC at z7
  by_cases hw : U.2.2.2.2.2 = 0
  · rw [if_neg (by simpa using hw)] at hU
    rw [hU]
    have co := (rowS.cells z5).1
    refine ⟨H, ?qtm, ov', ?q1, ?q2, ?q3, ?q4, z5, fun c hc => (z3 c hc).trans (oh c hc), by omega, z6⟩
    case q1 =>
      apply Run.seq
      · apply Run.step 20; intro k j
        simp
        (first | rfl | (constructor <;> rfl))
      · apply Run.seq
        · apply Run.stepJ 20 J1; intro k j hj
          simp [j1 j hj]
          (first | rfl | (constructor <;> rfl))
        · apply Run.seq
          · apply Run.step 20; intro k j
            simp [isCell]
            (first | rfl | (constructor <;> rfl))
          · apply Run.seq
            · apply Run.seq
              · apply Run.stepJ 20 J2; intro k j hj
                simp [← hK, lK, j2 j hj]
                (first | rfl | (constructor <;> rfl))
              · apply Run.block_id (by simp)
                exact hloop
            · apply Run.seq
              · apply Run.seq
                · apply Run.step 30; intro k j
                  simp [fq42, z7, oneOr, nilV, hw]
                  (first | rfl | (constructor <;> rfl))
                · apply Run.step 30; intro k j
                  simp
                  (first | rfl | (constructor <;> rfl))
              · apply Run.seq
                · apply Run.draw0
                  apply Run.step 30; intro k j
                  simp [fq42, z7, z4, oneOr, nilV, co]
                  (first | rfl | (constructor <;> rfl))
                · apply Run.step 10; intro k j
                  simp
                  (first | rfl | (constructor <;> rfl))
    case q2 => rfl
    case q3 => rfl
    case q4 => rfl
  · rw [if_pos hw] at hU
    rw [hU]
    refine ⟨H, ?rtm, .s (.slice none 0 0), ?r1, ?r2, ?r3, ?r4, .inl ⟨rfl, rfl⟩, fun c hc => (z3 c hc).trans (oh c hc), by omega, fun c hc => by cases hc⟩
    case r1 =>
      apply Run.seq
      · apply Run.step 20; intro k j
        simp
        (first | rfl | (constructor <;> rfl))
      · apply Run.seq
        · apply Run.stepJ 20 J1; intro k j hj
          simp [j1 j hj]
          (first | rfl | (constructor <;> rfl))
        · apply Run.seq
          · apply Run.step 20; intro k j
            simp [isCell]
            (first | rfl | (constructor <;> rfl))
          · apply Run.seq
            · apply Run.seq
              · apply Run.stepJ 20 J2; intro k j hj
                simp [← hK, lK, j2 j hj]
                (first | rfl | (constructor <;> rfl))
              · apply Run.block_id (by simp)
                exact hloop
            · apply Run.seq_stop (by simp)
              apply Run.seq
              · apply Run.step 30; intro k j
                simp [fq42, z7, oneOr, nilV, hw]
                (first | rfl | (constructor <;> rfl))
              · refine Run.cond (t := true) (by simp) ?_
                simp only [if_true]
                apply Run.seq
                · apply Run.draw0
                  apply Run.step 30; intro k j
                  simp [fq42, z7, oneOr, nilV]
                  (first | rfl | (constructor <;> rfl))
                · apply Run.step 10; intro k j
                  simp
                  (first | rfl | (constructor <;> rfl))
    case r2 => rfl
    case r3 => rfl
    case r4 => rfl
end Go.Proofs.Ytpmoellbfgcefaa.AS
end
section
set_option autoImplicit false
set_option maxRecDepth 100000
set_option maxHeartbeats 2000000
set_option linter.unusedSimpArgs false
namespace Go.Proofs.Ytpmoellbfgcefaa.AS
open Go Go.Proofs Go.RowKit Go.Proofs.Ytpmoellbfgcefaa.AS.V

theorem o32_loop {T : FuncId → Option AFunc} (h : Heap) (b v o n : Nat) (E : List (Int × ByteArray)) (hA : rowOf h (.sl b v o n 2) = some E) (hn : n ≤ 4611686018427387903) (a1 a5 a6 a7 a8 a9 : AV) (R : List AV) : ∀ (d i : Nat), i + 1 + d = n →
    (okOrd (E.drop i) = true → Run Try.prog T (.loop fg32 body32) (fr32 (.sl b v o n 2) ((i + 1 : Nat) : Int) a1 a5 a6 a7 a8 a9 R) h (.exit 0, ((((fr32 (.sl b v o n 2) (n : Int) a1 a5 a6 a7 a8 a9 R).set 10 (.s (.int .i64 n))).set 11 (.sl b v o n 2)).set 12 (.s (.int .i64 n))).set 13 (.s (.bool false)), h)) ∧
    (okOrd (E.drop i) = false → ∃ tm', tm'[2]? = some (.s (.string ⟨#[]⟩)) ∧ tm'[3]? = some (.s (.int .i64 12)) ∧ Run Try.prog T (.loop fg32 body32) (fr32 (.sl b v o n 2) ((i + 1 : Nat) : Int) a1 a5 a6 a7 a8 a9 R) h (.ret, tm', h)) := by
  have hn1 : E.length = n := (rowOf_sl hA).choose_spec.choose_spec.choose_spec.choose_spec.2.2.2
  have hfg : ∀ (i : Int), forget fg32 (fr32 (.sl b v o n 2) i a1 a5 a6 a7 a8 a9 R) = fr32 (.sl b v o n 2) i a1 a5 a6 a7 a8 a9 R := fun i => by simp [forget, fg32, lp32, c32, fr32]
  intro d
  induction d with
  | zero =>
    intro i hd
    obtain rfl : i + 1 = n := by omega
    have e : E.drop i = [E[i]'(by omega)] := by
      rw [List.drop_eq_getElem_cons (by omega), List.drop_eq_nil_of_le (by omega)]
    rw [e]
    refine ⟨fun _ => Run.loop_end_f (hfg _) (by simp) (o32_end (T := T) _ ((i + 1 : Nat) : Int) _ rfl (by omega) h a1 a5 a6 a7 a8 a9 R), fun h => by simp [okOrd] at h⟩
  | succ d ih =>
    intro i hd
    have h1 : i < E.length := by omega
    have h2 : i + 1 < E.length := by omega
    obtain ⟨k1, k2⟩ := o32_one (T := T) h b v o n E hA hn i E[i] E[i + 1] (List.getElem?_eq_getElem h1) (List.getElem?_eq_getElem h2) a1 a5 a6 a7 a8 a9 R
    rw [List.drop_eq_getElem_cons h1, List.drop_eq_getElem_cons h2]
    by_cases hxy : (E[i]).1 < (E[i + 1]).1
    · obtain ⟨tm', x1, x2⟩ := k1 hxy
      obtain ⟨i1, i2⟩ := ih (i + 1) (by omega)
      rw [List.drop_eq_getElem_cons h2] at i1 i2
      simp only [okOrd, hxy, decide_true, Bool.true_and]
      refine ⟨fun he => Run.loop_go (hfg _) x2 (by rw [x1]; rfl) (i1 he), fun he => ?_⟩
      obtain ⟨tm2, y1, y2, y3⟩ := i2 he
      exact ⟨tm2, y1, y2, Run.loop_go (hfg _) x2 (by rw [x1]; rfl) y3⟩
    · obtain ⟨tm', x1, x2, x3⟩ := k2 hxy
      simp only [okOrd, hxy, decide_false, Bool.false_and]
      exact ⟨fun h => absurd h (by simp), fun _ => ⟨tm', x1, x2, Run.loop_end_f (hfg _) (by simp) x3⟩⟩

structure InvW (g h : Heap) (b d : AV) (B D : List Int) : Prop where
  old : ∀ c, c < g.length → bk h c = bk g c
  len : g.length ≤ h.length
  rb : rowB h b B
  rd : rowB h d D
  pb : ∀ c, blkOf b = some c → g.length ≤ c
  pd : ∀ c, blkOf d = some c → g.length ≤ c
  sep : ∀ c, blkOf b = some c → blkOf d ≠ some c
theorem InvW.swap {g h : Heap} {b d : AV} {B D : List Int} (x : InvW g h b d B D) : InvW g h d b D B := ⟨x.old, x.len, x.rd, x.rb, x.pd, x.pb, fun c h1 h2 => x.sep c h2 h1⟩
theorem InvW.grow {g h H : Heap} {b d : AV} {B D : List Int} (x : InvW g h b d B D) (hk : ∀ c, c < h.length → bk H c = bk h c) (hl : h.length ≤ H.length) : InvW g H b d B D :=
  ⟨fun c hc => by rw [hk c (Nat.lt_of_lt_of_le hc x.len), x.old c hc], Nat.le_trans x.len hl, x.rb.mono fun c hc => hk c (x.rb.lt hc), x.rd.mono fun c hc => hk c (x.rd.lt hc), x.pb, x.pd, x.sep⟩
theorem InvW.ap {g h H : Heap} {b d b' : AV} {B D B' : List Int} (x : InvW g h b d B D) (y : Ap h H b b') (r : rowB H b' B') : InvW g H b' d B' D := by
  have hn : ∀ c, c < g.length → blkOf b ≠ some c := fun c hc e => by have := x.pb c e; omega
  refine ⟨fun c hc => by rw [y.keep c (Nat.lt_of_lt_of_le hc x.len) (hn c hc), x.old c hc], Nat.le_trans x.len y.len, r, x.rd.mono fun c hc => y.keep c (x.rd.lt hc) fun e => x.sep c e hc, fun c hc => ?_, x.pd, fun c hc hd => ?_⟩
  · rcases y.place c hc with h | h
    · exact Nat.le_trans x.len h
    · exact x.pb c h
  · rcases y.place c hc with h | h
    · have := x.rd.lt hd; omega
    · exact x.sep c h hd

def fr32b (a b d : AV) (nx n j : Int) (a1 a2 a3 a4 a8 a9 a10 a11 a12 a13 a14 a15 a16 a17 a18 a19 a20 a21 a22 a23 a24 a25 a26 a27 a28 a29 a30 a31 a32 a33 a34 a61 a62 a63 a64 : AV) : List AV := [a, a1, a2, a3, a4, b, d, .s (.int .u64 nx), a8, a9, a10, a11, a12, a13, a14, a15, a16, a17, a18, a19, a20, a21, a22, a23, a24, a25, a26, a27, a28, a29, a30, a31, a32, a33, a34, a, .s (.int .i64 n), .s (.int .i64 j)] ++ List.replicate 23 .any ++ [a61, a62, a63, a64]
noncomputable def tl32b : ACode := match tl32 with
  | .seq _ (.seq _ (.seq _ (.seq _ t))) => t
  | _ => .skip
noncomputable def lp32b : ACode := match tl32 with
  | .seq _ (.seq _ (.seq _ (.seq _ (.seq (.seq _ (.block _ l)) _)))) => l
  | _ => .skip
noncomputable def body32b : ACode := match lp32b with
  | .loop _ b => b
  | _ => .skip
noncomputable def fg32b : List Nat := match lp32b with
  | .loop fg _ => fg
  | _ => []
theorem w32_end {T : FuncId → Option AFunc} (a b d : AV) (nx n j : Int) (hj : ¬ j < n) (h : Heap) (a1 a2 a3 a4 a8 a9 a10 a11 a12 a13 a14 a15 a16 a17 a18 a19 a20 a21 a22 a23 a24 a25 a26 a27 a28 a29 a30 a31 a32 a33 a34 a61 a62 a63 a64 : AV) :
    Run Try.prog T body32b (fr32b a b d nx n j a1 a2 a3 a4 a8 a9 a10 a11 a12 a13 a14 a15 a16 a17 a18 a19 a20 a21 a22 a23 a24 a25 a26 a27 a28 a29 a30 a31 a32 a33 a34 a61 a62 a63 a64) h (.exit 2, (fr32b a b d nx n j a1 a2 a3 a4 a8 a9 a10 a11 a12 a13 a14 a15 a16 a17 a18 a19 a20 a21 a22 a23 a24 a25 a26 a27 a28 a29 a30 a31 a32 a33 a34 a61 a62 a63 a64).set 38 (.s (.bool false)), h) := by
  apply Run.step 30; intro k j
  simp [c32, lp32b, tl32, body32b, fr32b, eq_false hj]
theorem w32_one {T : FuncId → Option AFunc} (hT : T 58 = prepFn Try.prog 58) (g h : Heap) (b0 v0 o0 n : Nat) (E : List (Int × ByteArray)) (hb0 : b0 < g.length) (hA : rowOf g (.sl b0 v0 o0 n 2) = some E) (hn : n ≤ 4611686018427387903) (j : Nat) (x : Int × ByteArray) (hx : E[j]? = some x) (hz : x.2.size ≤ 70368744177664) (b d : AV) (nx : Int) (B D : List Int) (hB : B.length ≤ 140737488200000) (hD : D.length + x.2.size ≤ 140737488355328) (hI : InvW g h b d B D) (a1 a2 a3 a4 a8 a9 a10 a11 a12 a13 a14 a15 a16 a17 a18 a19 a20 a21 a22 a23 a24 a25 a26 a27 a28 a29 a30 a31 a32 a33 a34 a61 a62 a63 a64 : AV) :
    ∃ H b' d' a9' tm', InvW g H b' d' (B ++ (leb (IntKind.u64.wrap (x.1 - nx)) ++ leb x.2.size)) (D ++ bytesOf x.2) ∧ forget fg32b tm' = fr32b (.sl b0 v0 o0 n 2) b' d' (IntKind.u64.wrap (x.1 + 1)) n ((j : Int) + 1) a1 a2 a3 a4 a8 a9' a10 a11 a12 a13 a14 a15 a16 a17 a18 a19 a20 a21 a22 a23 a24 a25 a26 a27 a28 a29 a30 a31 a32 a33 a34 a61 a62 a63 a64 ∧ Run Try.prog T body32b (fr32b (.sl b0 v0 o0 n 2) b d nx n j a1 a2 a3 a4 a8 a9 a10 a11 a12 a13 a14 a15 a16 a17 a18 a19 a20 a21 a22 a23 a24 a25 a26 a27 a28 a29 a30 a31 a32 a33 a34 a61 a62 a63 a64) h (.normal, tm', H) := by
  obtain ⟨e1, s1, w1, C1, hb1, hl1, hC1, hn1⟩ := rowOf_sl hA
  have hb1 : bk h b0 = _ := (hI.old b0 hb0).trans hb1
  have hjn' : j < n := by have := (List.getElem?_eq_some_iff.1 hx).1; omega
  have hr1 := row_at (i := j) hC1 hn1 (by omega)
  rw [(List.getElem?_eq_some_iff.1 hx).2] at hr1
  have hle1 : o0 + j * 2 + 2 ≤ C1.length := by omega
  have hjn : (j : Int) < (n : Int) := by omega
  have w3 : IntKind.i64.wrap ((j : Int) + 1) = (j : Int) + 1 := w64k (by omega) (by omega)
  have hg0 : 0 ≤ IntKind.u64.wrap (x.1 - nx) ∧ IntKind.u64.wrap (x.1 - nx) ≤ 18446744073709551615 := by simp [IntKind.wrap, IntKind.bits, IntKind.signed]; omega
  have w4 : IntKind.u64.wrap (x.2.size : Int) = (x.2.size : Int) := wu64 (by omega) (by omega)
  -- the entry's own block
  generalize hh1 : h ++ [(⟨0, 52, 2, true, [.s (.int .u64 x.1), .s (.string x.2)]⟩ : Blk)] = h1
  have hI1 : InvW g h1 b d B D := by
    subst hh1
    exact hI.grow (fun c hc => by simp [hc]) (by simp)
  have p1 : bk h1 h.length = some ⟨0, 52, 2, true, [.s (.int .u64 x.1), .s (.string x.2)]⟩ := by subst hh1; simp
  have l1 : h.length < h1.length := by subst hh1; simp
  have nb : blkOf b ≠ some h.length := fun e => by have := hI.rb.lt e; omega
  have nd : blkOf d ≠ some h.length := fun e => by have := hI.rd.lt e; omega
  have hl1 := leb_length_le hg0.1 hg0.2
  obtain ⟨H2, b2, f2, y2, r2⟩ := app_run (T := T) hT (IntKind.u64.wrap (x.1 - nx)) hg0.1 hg0.2 h1 b B (by omega) hI1.rb
  have hI2 := hI1.ap y2 r2
  have p2 : bk H2 h.length = _ := (y2.keep h.length l1 nb).trans p1
  have nb2 : blkOf b2 ≠ some h.length := fun e => by
    rcases y2.place _ e with h | h
    · omega
    · exact nb h
  have l2 : h.length < H2.length := Nat.lt_of_lt_of_le l1 y2.len
  have hl2 := leb_length_le (n := (x.2.size : Int)) (by omega) (by omega)
  obtain ⟨H3, b3, f3, y3, r3⟩ := app_run (T := T) hT (x.2.size : Int) (by omega) (by omega) H2 b2 _ (by rw [List.length_append]; omega) r2
  have hI3 := hI2.ap y3 r3
  have p3 : bk H3 h.length = _ := (y3.keep h.length l2 nb2).trans p2
  have l3 : h.length < H3.length := Nat.lt_of_lt_of_le l2 y3.len
  obtain ⟨H4, d4, f4, y4, r4⟩ := ap_row hI3.rd (bytesOf x.2) (by rw [bytesOf_length]; omega)
  have hI4 := (hI3.swap.ap y4 r4).swap
  have p4 : bk H4 h.length = _ := (y4.keep h.length l3 nd).trans p3
  rw [bytesOf_by8, bytesOf_length] at f4
  obtain ⟨J2, g2⟩ := f2.get
  obtain ⟨J3, g3⟩ := f3.get
  refine ⟨H4, b3, d4, .pt h.length 0 0, ?tm, by rw [← List.append_assoc]; exact hI4, ?fg, ?run⟩
  case run =>
    apply Run.seq
    · apply Run.step 20; intro k j
      simp [c32, lp32b, tl32, body32b, fr32b, eq_true hjn]
      (first | rfl | (constructor <;> rfl))
    · apply Run.seq
      · apply Run.step 20; intro k j
        simp
        (first | rfl | (constructor <;> rfl))
      · apply Run.seq
        · apply Run.block_id (by simp)
          apply Run.seq
          · apply Run.step 20; intro k j
            simp [hjn', hb1, hr1, hle1, hh1, p1, oneOr, cellsOf, isCell]
            (first | rfl | (constructor <;> rfl))
          · apply Run.seq
            · apply Run.stepJ 20 J2; intro k j hj
              simp [p1, oneOr, g2 j hj]
              (first | rfl | (constructor <;> rfl))
            · apply Run.seq
              · apply Run.stepJ 20 J3; intro k j hj
                simp [p2, oneOr, w4, g3 j hj]
                (first | rfl | (constructor <;> rfl))
              · apply Run.seq
                · apply Run.step 20; intro k j
                  simp [p3, oneOr, f4]
                  (first | rfl | (constructor <;> rfl))
                · apply Run.step 20; intro k j
                  simp [p4, oneOr]
                  (first | rfl | (constructor <;> rfl))
        · apply Run.step 20; intro k j
          simp [w3]
          (first | rfl | (constructor <;> rfl))
  case fg =>
    simp [forget, fg32b, lp32b, tl32, c32, fr32b]
    try rfl
end Go.Proofs.Ytpmoellbfgcefaa.AS
end
