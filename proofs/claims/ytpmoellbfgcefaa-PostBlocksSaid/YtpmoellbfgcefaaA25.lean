/- Of our own: an abstract machine beside the model, its soundness, and walks of the program in it. -/
import Derived.Test.YtpmoellbfgcefaaA24
set_option linter.unusedSimpArgs false
set_option linter.unusedVariables false
section
set_option autoImplicit false
set_option maxRecDepth 100000
set_option maxHeartbeats 4000000
set_option linter.unusedSimpArgs false
set_option linter.unusedVariables false
namespace Go.Proofs.Ytpmoellbfgcefaa.AS
open Go Go.Proofs Go.RowKit

theorem in_FR (h : Heap) (a : AV) (n : Int) (E : List Int) (r : Row (encI .u32) h a E) (hl : E.length ≤ 4611686018427387903) :
    FR Try.prog TT 22 [a, .s (.int .u32 n)] h fun x H => x = .s (.bool (decide (n ∈ E))) ∧ H = h := by
  refine FR.of q22 (by kernel_rfl) ?_
  unfold c22
  repeat' (first
    | (refine W.loopI (σ := Nat) (fun i => [(1, .s (.int .u32 n)), (7, a), (8, .s (.int .i64 E.length)), (9, .s (.int .i64 i))]) (fun i h' => h' = h ∧ i ≤ E.length ∧ n ∉ E.take i) (fun i => E.length - i) 0 ⟨rfl, rfl, rfl, rfl, trivial⟩ ⟨rfl, Nat.zero_le _, by simp⟩ ?_; rintro i G h' ⟨rfl, hi, hm⟩)
    | (refine LQ.nn ⟨i + 1, by omega, ⟨rfl, rfl, rfl, rfl, trivial⟩, rfl, by omega, ?_⟩)
    | (refine EQ.r rfl ⟨?_, rfl⟩)
    | (refine WO.mvs rfl ?_)
    | (refine WO.mvp rfl ?_)
    | (refine WO.mvt rfl ?_)
    | (refine WO.mv ?_)
    | (refine W.sreg ?_)
    | (refine W.sdraw ?_)
    | (refine W.reg ?_)
    | (refine W.draw ?_)
    | (refine WO.nil ?_)
    | (refine WO.gU rfl ?_)
    | (refine WO.gT rfl rfl ?_)
    | (refine WO.gF rfl rfl ?_)
    | (refine WO.ext rfl rfl ?_)
    | (refine WO.lenR (by assumption) ?_)
    | (refine WO.add rfl rfl (by first | exact wrOK (by simp only [loK, hiK]; omega) | rfl) ?_)
    | (refine WO.sub rfl rfl (by first | exact wrOK (by simp only [loK, hiK]; omega) | rfl) ?_)
    | (refine WO.lss rfl rfl ?_)
    | (refine WO.leq rfl rfl ?_)
    | (refine WO.gtr rfl rfl ?_)
    | (refine WO.geq rfl rfl ?_)
    | (refine WO.eql rfl rfl ?_)
    | (refine WO.neq rfl rfl ?_)
    | (refine WO.seql rfl rfl ?_)
    | (refine WO.sneq rfl rfl ?_)
    | (refine WO.beql rfl rfl (tb rfl) ?_)
    | (refine WO.bneq rfl rfl (tb rfl) ?_)
    | (refine WO.not rfl ?_)
    | (refine WO.not0 rfl ?_)
    | (refine WO.cvi rfl (kd rfl) (kd rfl) (by first | exact wrOK (by simp only [loK, hiK]; omega) | rfl) ?_)
    | (refine WO.cvs rfl (st rfl) (st rfl) ?_)
    | (refine WO.ix rfl rfl (st rfl) (by first | assumption | omega) (by first | assumption | omega) ?_)
    | (refine WO.slen rfl (st rfl) ?_)
    | (refine WO.iaddr (by assumption) rfl rfl (by first | assumption | omega) (by first | assumption | omega) (fun q hq => ?_))
    | (refine WO.load (by assumption) rfl rfl ?_)
    | (refine WO.loadO rfl (by assumption) rfl rfl ?_)
    | (refine WO.faddrP (by assumption) rfl (fun q hq => ?_))
    | (refine WO.nilckP (by assumption) ?_)
    | (refine WO.nilck rfl ?_)
    | (refine WO.faddr rfl ?_)
    | (refine WO.fld rfl rfl rfl ?_)
    | (refine WO.pickT rfl ?_)
    | (refine WO.pickF rfl ?_)
    | (refine WO.sll rfl rfl (st rfl) (by first | assumption | omega) (by first | assumption | omega) ?_)
    | (refine WO.slh rfl rfl (st rfl) (by first | assumption | omega) (by first | assumption | omega) ?_)
    | (refine WO.slb rfl rfl rfl (st rfl) (by first | assumption | omega) (by first | assumption | omega) (by first | assumption | omega) ?_)
    | (refine WO.mul rfl rfl (by first | exact wrOK (by simp only [loK, hiK]; omega) | rfl) ?_)
    | (refine WO.quo rfl rfl (by first | assumption | omega) (by first | exact wrOK (by simp only [loK, hiK]; omega) | rfl) ?_)
    | (refine WO.rem rfl rfl (by first | assumption | omega) ?_)
    | (refine WO.and rfl rfl ?_)
    | (refine WO.or rfl rfl ?_)
    | (refine WO.xor rfl rfl ?_)
    | (refine WO.shl rfl rfl (by first | assumption | omega) (by simp [IntKind.bits]; rfl) ?_)
    | (refine WO.shr rfl rfl (by first | assumption | omega) (by simp [IntKind.bits]; rfl) ?_)
    | (refine WO.build (C := [_]) rfl ?_)
    | (refine WO.build (C := [_, _]) rfl ?_)
    | (refine WO.build (C := [_, _, _]) rfl ?_)
    | (refine WO.build (C := [_, _, _, _]) rfl ?_)
    | (refine WO.build (C := [_, _, _, _, _]) rfl ?_)
    | (refine WO.build (C := [_, _, _, _, _, _]) rfl ?_)
    | (refine WO.build (C := [_, _, _, _, _, _, _]) rfl ?_)
    | (refine WO.eqnil (by assumption) (fun hn1 hn2 => ?_) ?_)
    | (refine W.condT rfl ?_)
    | (refine W.condF rfl ?_)
    | (refine W.condDT rfl (by first | assumption | omega) ?_)
    | (refine W.condDF rfl (by first | assumption | omega) ?_)
    | (refine W.condD rfl (fun hc => ?_) (fun hc => ?_))
    | (refine WO.gS rfl (fun hc => ?_) (fun hc => ?_) <;> try (exfalso; omega))
    | (refine WO.pickS rfl (fun hc => ?_) (fun hc => ?_) <;> try (exfalso; omega))
    | (refine W.skip ?_)
    | (refine W.block ?_)
    | (refine W.drawA rfl ?_)
    | (refine W.sdrawA rfl ?_)
    | (refine And.intro rfl ?_)
    | (refine W.exit ?_)
    | (refine W.ret ?_)
    | (refine W.seq ?_)
    | (refine W.goto ?_)
    | (refine W.label ?_)
    | (refine SQ.nn ?_)
    | (refine SQ.x ?_)
    | (refine SQ.r ?_)
    | (refine SQ.g ?_)
    | (refine BQ.nn ?_)
    | (refine BQ.x ?_)
    | (refine BQ.r ?_)
    | (refine BQ.g ?_)
    | (refine BQ.y rfl ?_)
    | (refine LQ.x ?_)
    | (refine LQ.r ?_)
    | (refine LQ.g ?_)
    | (refine GQ.nn ?_)
    | (refine GQ.x ?_)
    | (refine GQ.r ?_))
  · exact congrArg (fun b => AV.s (.bool b)) (decide_eq_true (hc ▸ nth_mem (by omega) (by omega))).symm
  · rw [take_snoc (by omega)]; simp only [List.mem_append, List.mem_singleton, not_or]; exact ⟨hm, fun e => hc e.symm⟩
  · rw [List.take_of_length_le (by omega)] at hm
    exact congrArg (fun b => AV.s (.bool b)) (decide_eq_false hm).symm
theorem Row_rowW (h : Heap) (K : List Int) : Out (encI .u32) 32 h (rowWH h K) (rowW h.length K) K := by
  unfold rowWH rowW
  split
  · rename_i e; subst e; exact Out.nil (Grows.refl _)
  · refine ⟨Grows.app _ _, .inr ⟨h.length, 0, 0, _, rfl, bk_new, rfl, ?_, ?_, rfl, rfl, rfl⟩, fun c hc => by simp [bo] at hc; omega⟩
    · simp [encI]
    · simp only [encI, Nat.mul_one, List.drop_zero, cellW_flat]
      rw [List.take_of_length_le (by simp)]
theorem unpack_FR (h : Heap) (s : ByteArray) (hs : s.size ≤ 9223372036854775807) :
    FR Try.prog TT 42 [.s (.string s)] h fun x H => ∃ a, x = .tp [a, .s (.string (unpackS s).2.1), .s (.int .i64 (unpackS s).2.2)] ∧ Out (encI .u32) 32 h H a (unpackS s).1 :=
  FR.run (FRun.hook TP_42 (by simp only [hkUnpack]; rw [if_pos hs])) ⟨_, rfl, Row_rowW h _⟩
theorem asc_pw : ∀ {L : List Int} {b : Int}, asc b L → L.Pairwise (· < ·) ∧ ∀ x ∈ L, b ≤ x
  | [], _, _ => ⟨List.Pairwise.nil, fun _ h => by cases h⟩
  | x :: l, b, h => by
    obtain ⟨h1, h2, h3⟩ := h
    obtain ⟨i1, i2⟩ := asc_pw h3
    exact ⟨List.pairwise_cons.2 ⟨fun y hy => by have := i2 y hy; omega, i1⟩, fun y hy => by
      rcases List.mem_cons.1 hy with rfl | hy
      · exact h1
      · have := i2 y hy; omega⟩
theorem unpack_asc (s : ByteArray) : (unpackS s).1.Pairwise (· < ·) ∧ (unpackS s).1.length ≤ 65536 := by
  by_cases hw : (unpackS s).2.2 = 0
  · obtain ⟨_, h2, h3, _⟩ := pack_unpack hw
    exact ⟨(asc_pw h2).1, h3⟩
  · rw [(unpack_err hw).1]; exact ⟨List.Pairwise.nil, by simp⟩
theorem has_FR (h : Heap) (s : ByteArray) (n : Int) (hs : s.size ≤ 9223372036854775807) :
    FR Try.prog TT 44 [.s (.string s), .s (.int .u32 n)] h fun x H => x = .tp [.s (.bool (decide (n ∈ (unpackS s).1))), .s (.int .i64 (unpackS s).2.2)] ∧ Grows h H := by
  refine FR.of q44 (by kernel_rfl) ?_
  unfold c44
  repeat' (first
    | (refine WO.call rfl (unpack_FR _ s hs) ?_; rintro _ H1 ⟨a, rfl, ho⟩)
    | (refine WO.call rfl (bs_FR _ a _ _ ho.row (unpack_asc s).1 (by have := (unpack_asc s).2; omega)) ?_; rintro _ H2 ⟨rfl, i, rfl, _, _, _⟩)
    | (refine EQ.r rfl ⟨rfl, ho.g⟩)
    | (refine WO.mvs rfl ?_)
    | (refine WO.mvp rfl ?_)
    | (refine WO.mvt rfl ?_)
    | (refine WO.mv ?_)
    | (refine W.sreg ?_)
    | (refine W.sdraw ?_)
    | (refine W.reg ?_)
    | (refine W.draw ?_)
    | (refine WO.nil ?_)
    | (refine WO.gU rfl ?_)
    | (refine WO.gT rfl rfl ?_)
    | (refine WO.gF rfl rfl ?_)
    | (refine WO.ext rfl rfl ?_)
    | (refine WO.lenR (by assumption) ?_)
    | (refine WO.add rfl rfl (by first | exact wrOK (by simp only [loK, hiK]; omega) | rfl) ?_)
    | (refine WO.sub rfl rfl (by first | exact wrOK (by simp only [loK, hiK]; omega) | rfl) ?_)
    | (refine WO.lss rfl rfl ?_)
    | (refine WO.leq rfl rfl ?_)
    | (refine WO.gtr rfl rfl ?_)
    | (refine WO.geq rfl rfl ?_)
    | (refine WO.eql rfl rfl ?_)
    | (refine WO.neq rfl rfl ?_)
    | (refine WO.seql rfl rfl ?_)
    | (refine WO.sneq rfl rfl ?_)
    | (refine WO.beql rfl rfl (tb rfl) ?_)
    | (refine WO.bneq rfl rfl (tb rfl) ?_)
    | (refine WO.not rfl ?_)
    | (refine WO.not0 rfl ?_)
    | (refine WO.cvi rfl (kd rfl) (kd rfl) (by first | exact wrOK (by simp only [loK, hiK]; omega) | rfl) ?_)
    | (refine WO.cvs rfl (st rfl) (st rfl) ?_)
    | (refine WO.ix rfl rfl (st rfl) (by first | assumption | omega) (by first | assumption | omega) ?_)
    | (refine WO.slen rfl (st rfl) ?_)
    | (refine WO.iaddr (by assumption) rfl rfl (by first | assumption | omega) (by first | assumption | omega) (fun q hq => ?_))
    | (refine WO.load (by assumption) rfl rfl ?_)
    | (refine WO.loadO rfl (by assumption) rfl rfl ?_)
    | (refine WO.faddrP (by assumption) rfl (fun q hq => ?_))
    | (refine WO.nilckP (by assumption) ?_)
    | (refine WO.nilck rfl ?_)
    | (refine WO.faddr rfl ?_)
    | (refine WO.fld rfl rfl rfl ?_)
    | (refine WO.pickT rfl ?_)
    | (refine WO.pickF rfl ?_)
    | (refine WO.sll rfl rfl (st rfl) (by first | assumption | omega) (by first | assumption | omega) ?_)
    | (refine WO.slh rfl rfl (st rfl) (by first | assumption | omega) (by first | assumption | omega) ?_)
    | (refine WO.slb rfl rfl rfl (st rfl) (by first | assumption | omega) (by first | assumption | omega) (by first | assumption | omega) ?_)
    | (refine WO.mul rfl rfl (by first | exact wrOK (by simp only [loK, hiK]; omega) | rfl) ?_)
    | (refine WO.quo rfl rfl (by first | assumption | omega) (by first | exact wrOK (by simp only [loK, hiK]; omega) | rfl) ?_)
    | (refine WO.rem rfl rfl (by first | assumption | omega) ?_)
    | (refine WO.and rfl rfl ?_)
    | (refine WO.or rfl rfl ?_)
    | (refine WO.xor rfl rfl ?_)
    | (refine WO.shl rfl rfl (by first | assumption | omega) (by simp [IntKind.bits]; rfl) ?_)
    | (refine WO.shr rfl rfl (by first | assumption | omega) (by simp [IntKind.bits]; rfl) ?_)
    | (refine WO.build (C := [_]) rfl ?_)
    | (refine WO.build (C := [_, _]) rfl ?_)
    | (refine WO.build (C := [_, _, _]) rfl ?_)
    | (refine WO.build (C := [_, _, _, _]) rfl ?_)
    | (refine WO.build (C := [_, _, _, _, _]) rfl ?_)
    | (refine WO.build (C := [_, _, _, _, _, _]) rfl ?_)
    | (refine WO.build (C := [_, _, _, _, _, _, _]) rfl ?_)
    | (refine WO.eqnil (by assumption) (fun hn1 hn2 => ?_) ?_)
    | (refine W.condT rfl ?_)
    | (refine W.condF rfl ?_)
    | (refine W.condDT rfl (by first | assumption | omega) ?_)
    | (refine W.condDF rfl (by first | assumption | omega) ?_)
    | (refine W.condD rfl (fun hc => ?_) (fun hc => ?_))
    | (refine WO.gS rfl (fun hc => ?_) (fun hc => ?_) <;> try (exfalso; omega))
    | (refine WO.pickS rfl (fun hc => ?_) (fun hc => ?_) <;> try (exfalso; omega))
    | (refine W.skip ?_)
    | (refine W.block ?_)
    | (refine W.drawA rfl ?_)
    | (refine W.sdrawA rfl ?_)
    | (refine And.intro rfl ?_)
    | (refine W.exit ?_)
    | (refine W.ret ?_)
    | (refine W.seq ?_)
    | (refine W.goto ?_)
    | (refine W.label ?_)
    | (refine SQ.nn ?_)
    | (refine SQ.x ?_)
    | (refine SQ.r ?_)
    | (refine SQ.g ?_)
    | (refine BQ.nn ?_)
    | (refine BQ.x ?_)
    | (refine BQ.r ?_)
    | (refine BQ.g ?_)
    | (refine BQ.y rfl ?_)
    | (refine LQ.x ?_)
    | (refine LQ.r ?_)
    | (refine LQ.g ?_)
    | (refine GQ.nn ?_)
    | (refine GQ.x ?_)
    | (refine GQ.r ?_))
/-! blocks -/
def encB : Enc (Int × Int × Int × Int) := ⟨fun b => [.s (.int .u32 b.1), .s (.int .u32 b.2.1), .s (.int .i64 b.2.2.1), .s (.int .i64 b.2.2.2)], 4, fun _ => rfl⟩
theorem encB_ok : ∀ (L : List (Int × Int × Int × Int)), L.all encB.ok = true
  | [] => rfl
  | _ :: L => encB_ok L
def blkI (B : List Int × Int) : Int × Int × Int × Int := (nth B.1 0, nth B.1 (B.1.length - 1), B.1.length, B.2)
/-- All blocks, and where each begins. -/
def blksF : Nat → ByteArray → Int → Int → Bool → Int → Int → List (List Int × Int) → List (List Int × Int) × Int
  | 0, s, left, last, sm, w, all, acc => (acc, w)
  | k + 1, s, left, last, sm, w, all, acc => if w ≠ 0 ∨ ¬ 0 < left then (acc, w) else
      if (blkR s left last sm).2.2.2.2.2 ≠ 0 then (acc, (blkR s left last sm).2.2.2.2.2) else blksF k (blkR s left last sm).2.1 (blkR s left last sm).2.2.1 (blkR s left last sm).2.2.2.1 (blkR s left last sm).2.2.2.2.1 0 all (acc ++ [((blkR s left last sm).1, all - s.size)])
theorem blksF_stop (k : Nat) {s : ByteArray} {left last : Int} {sm : Bool} {w all : Int} {acc : List (List Int × Int)} (h : w ≠ 0 ∨ ¬ 0 < left) : blksF k s left last sm w all acc = (acc, w) := by
  cases k with
  | zero => rfl
  | succ k => exact if_pos h
theorem open_FR (h : Heap) (s : ByteArray) (hs : s.size ≤ 9223372036854775807) : FR Try.prog TT 66 [.s (.string s)] h fun x H => ∃ b, x = .pt b 0 0 ∧ h.length ≤ b ∧ Grows h H ∧ bk H b = some ⟨0, 111, 6, true, rdC (openS s).1 (openS s).2.1 (openS s).2.2.1 0 false (openS s).2.2.2⟩ :=
  FR.run (open_run (T := TP) rfl rfl s hs h) ⟨h.length, rfl, Nat.le_refl _, Grows.app _ _, bk_new⟩
theorem blocks67_FR (h : Heap) (br : Nat) : FR Try.prog TT 67 [.pt br 0 0] h fun x H => ∃ bx, x = .fn (.func 81) [] [.pt bx 0 0] ∧ h.length ≤ bx ∧ Grows h H ∧ Obj H bx [.pt br 0 0] :=
  FR.run (blocks_run (T := TP) rfl br 0 h) ⟨h.length, rfl, Nat.le_refl _, Grows.app _ _, _, bk_new, rfl, rfl, rfl⟩
theorem block_FR (h : Heap) (br : Nat) (s : ByteArray) (hs : s.size ≤ 9223372036854775807) (all left last : Int) (hl : 1 ≤ left ∧ left ≤ 65536) (sm : Bool) (hb : bk h br = some ⟨0, 111, 6, true, rdC s all left last sm 0⟩) :
    FR Try.prog TT 82 [.pt br 0 0] h fun x H => BlkOut h H br 0 all x (blkR s left last sm) := by
  obtain ⟨H, x, f1, f2⟩ := block_run (T := TP) rfl rfl rfl rfl h br 0 s hs all left last hl sm hb
  exact FR.run f1 f2
theorem BlkOut.out {h H : Heap} {br : Nat} {all : Int} {x : AV} {R : List Int × ByteArray × Int × Int × Bool × Int} (o : BlkOut h H br 0 all x R) (hw : R.2.2.2.2.2 = 0) : Row (encI .u32) H x R.1 := by
  obtain ⟨b, v, rfl, _, h3, _⟩ := o.row hw
  refine .inr ⟨b, v, 0, _, rfl, h3, rfl, by simp [encI], ?_⟩
  simp only [encI, Nat.mul_one, List.drop_zero, cellW_flat]
  rw [List.take_of_length_le (by simp)]
def blocksS (s : ByteArray) : List (List Int × Int) × Int := blksF (openS s).2.2.1.toNat (openS s).1 (openS s).2.2.1 0 false (openS s).2.2.2 (openS s).2.1 []
structure BI (h0 h : Heap) (bx br b5 : Nat) (all : Int) (k : Nat) (s : ByteArray) (left last : Int) (sm : Bool) (w : Int) (acc : List (List Int × Int)) (ov : AV) : Prop where
  g : Grows h0 h
  n : h0.length ≤ bx ∧ h0.length ≤ br ∧ h0.length ≤ b5 ∧ bx ≠ br ∧ bx ≠ b5 ∧ br ≠ b5
  ox : Obj h bx [.pt br 0 0]
  rd : bk h br = some ⟨0, 111, 6, true, rdC s all left last sm w⟩
  o5 : Obj h b5 [ov]
  ow : Own encB 70 h ov (acc.map blkI)
  nw : New h0.length ov ∧ bo ov ≠ some bx ∧ bo ov ≠ some br ∧ bo ov ≠ some b5
  hs : s.size ≤ 9223372036854775807
  hk : w = 0 → left ≤ k ∧ 0 ≤ left ∧ acc.length + left ≤ 65536
theorem BI.or {h0 h : Heap} {bx br b5 : Nat} {all : Int} {k : Nat} {s : ByteArray} {left last : Int} {sm : Bool} {w : Int} {acc : List (List Int × Int)} {ov : AV} (I : BI h0 h bx br b5 all k s left last sm w acc ov) : Obj h br (rdC s all left last sm w) := ⟨_, I.rd, rfl, rfl, rfl⟩
theorem BI.blk {h0 h H : Heap} {bx br b5 : Nat} {all : Int} {k : Nat} {s : ByteArray} {left last : Int} {sm : Bool} {w : Int} {acc : List (List Int × Int)} {ov x : AV} {R : List Int × ByteArray × Int × Int × Bool × Int} (I : BI h0 h bx br b5 all k s left last sm w acc ov) (o : BlkOut h H br 0 all x R) :
    Grows h0 H ∧ Obj H bx [.pt br 0 0] ∧ Obj H br (rdC R.2.1 all R.2.2.1 R.2.2.2.1 R.2.2.2.2.1 R.2.2.2.2.2) ∧ Obj H b5 [ov] ∧ Own encB 70 H ov (acc.map blkI) := by
  have hn := I.n
  refine ⟨fun c hc => (o.keep c (by have := I.g.len; omega) (by omega)).trans (I.g c hc), ?_, ⟨_, o.rd, rfl, rfl, rfl⟩, ?_, I.ow.at fun c hc => o.keep c (I.ow.row.lt hc) (fun e => I.nw.2.2.1 (e ▸ hc))⟩
  · obtain ⟨q, q1, q2⟩ := I.ox
    exact ⟨q, (o.keep _ (bk_lt q1) (by omega)).trans q1, q2⟩
  · obtain ⟨q, q1, q2⟩ := I.o5
    exact ⟨q, (o.keep _ (bk_lt q1) (by omega)).trans q1, q2⟩
theorem BI.err {h0 h H : Heap} {bx br b5 : Nat} {all : Int} {k : Nat} {s : ByteArray} {left last : Int} {sm : Bool} {w : Int} {acc : List (List Int × Int)} {ov x : AV} (I : BI h0 h bx br b5 all k s left last sm w acc ov) (o : BlkOut h H br 0 all x (blkR s left last sm)) (hw : (blkR s left last sm).2.2.2.2.2 ≠ 0) :
    BI h0 H bx br b5 all k (blkR s left last sm).2.1 (blkR s left last sm).2.2.1 (blkR s left last sm).2.2.2.1 (blkR s left last sm).2.2.2.2.1 (blkR s left last sm).2.2.2.2.2 acc ov := by
  obtain ⟨g, ox, _, o5, ow⟩ := I.blk o
  exact ⟨g, I.n, ox, o.rd, o5, ow, I.nw, Nat.le_trans (blkR_size _ _ _ _) I.hs, fun h => absurd h hw⟩
theorem BI.next {h0 h H H5 H6 H7 : Heap} {bx br b5 : Nat} {all : Int} {k : Nat} {s : ByteArray} {left last : Int} {sm : Bool} {acc : List (List Int × Int)} {ov x a6 : AV} (I : BI h0 h bx br b5 all (k + 1) s left last sm 0 acc ov) (hl : 0 < left) (o : BlkOut h H br 0 all x (blkR s left last sm)) (hw : (blkR s left last sm).2.2.2.2.2 = 0)
    (g5 : Grows H H5) (u6 : ApF H5 H6 ov a6) (o6 : Own encB 70 H6 a6 (acc.map blkI ++ [blkI ((blkR s left last sm).1, all - s.size)])) (u7 : Upd H6 H7 b5) (o7 : Obj H7 b5 [a6]) :
    BI h0 H7 bx br b5 all k (blkR s left last sm).2.1 (blkR s left last sm).2.2.1 (blkR s left last sm).2.2.2.1 (blkR s left last sm).2.2.2.2.1 0 (acc ++ [((blkR s left last sm).1, all - s.size)]) a6 := by
  obtain ⟨g, ox, or, o5, ow⟩ := I.blk o
  obtain ⟨n1, n2, n3, n4, n5, n6⟩ := I.n
  obtain ⟨v1, v2, v3, v4⟩ := I.nw
  obtain ⟨e1, e2⟩ := blkR_left (by omega : 1 ≤ left) hw
  obtain ⟨hk1, hk2, hk3⟩ := I.hk rfl
  have lH := g5.len
  have ga := u6.grows (g.trans g5) v1
  have n6' : bo a6 ≠ some bx := u6.ne (by have := ox.lt; omega) v2
  have n7 : bo a6 ≠ some br := u6.ne (by have := or.lt; omega) v3
  have n8 : bo a6 ≠ some b5 := u6.ne (by have := o5.lt; omega) v4
  refine ⟨u7.grows ga.1 n3, I.n, ((ox.grows g5).ap u6 v2).upd u7 n5, ?_, o7, ?_, ⟨ga.2, n6', n7, n8⟩, Nat.le_trans (blkR_size _ _ _ _) I.hs, fun _ => ⟨?_, ?_, ?_⟩⟩
  · rw [u7.keep br n6, u6.keep br (by have := or.lt; omega) v3, g5.bk or.lt, o.rd, hw]
  · rw [List.map_append]; exact o6.upd u7 n8
  · rw [e1]; split at e2 <;> omega
  · rw [e1]; split at e2 <;> omega
  · rw [e1, List.length_append, List.length_singleton]; split at e2 <;> omega
theorem blocks_FR (h : Heap) (s : ByteArray) (hs : s.size ≤ 9223372036854775807) :
    FR Try.prog TT 43 [.s (.string s)] h fun x H => ∃ a, x = .tp [a, .s (.int .i64 (blocksS s).2)] ∧ Grows h H ∧ Row encB H a (if (blocksS s).2 ≠ 0 then [] else (blocksS s).1.map blkI) := by
  have hr := openS_range s
  refine FR.of q43 (by kernel_rfl) ?_
  unfold c43
  repeat' (first
    | (refine WO.call rfl (open_FR _ s hs) ?_; rintro _ H1 ⟨br, rfl, hbr, g1, hrd⟩)
    | (refine WO.new (fun b5 H2 hb5 g2 o5 => ?_))
    | (refine WO.call rfl (blocks67_FR _ br) ?_; rintro _ H3 ⟨bx, rfl, hbx, g3, ox⟩)
    | (refine W.rangeF rfl p81 (by kernel_rfl) (fun hok => ?_); unfold c81)
    | (refine W.loopI (σ := Nat × ByteArray × Int × Int × Bool × Int × List (List Int × Int) × AV) (fun s => [(0, .yl H3.length), (1, .pt bx 0 0)]) (fun σ h' => BI h h' bx br b5 (openS s).2.1 σ.1 σ.2.1 σ.2.2.1 σ.2.2.2.1 σ.2.2.2.2.1 σ.2.2.2.2.2.1 σ.2.2.2.2.2.2.1 σ.2.2.2.2.2.2.2 ∧ blksF σ.1 σ.2.1 σ.2.2.1 σ.2.2.2.1 σ.2.2.2.2.1 σ.2.2.2.2.2.1 (openS s).2.1 σ.2.2.2.2.2.2.1 = blocksS s) (fun σ => 2 * σ.1 + (if σ.2.2.2.2.2.1 = 0 then 1 else 0)) ((openS s).2.2.1.toNat, (openS s).1, (openS s).2.2.1, 0, false, (openS s).2.2.2, [], .s (.slice none 0 0)) ⟨rfl, rfl, trivial⟩ ?_ ?_; rotate_left; rintro ⟨k, s', left, last, sm, w, acc, ov⟩ G h' ⟨I, hb⟩; dsimp only at I hb ⊢; have hox := I.ox; have hor := I.or; have ho5 := I.o5; have hsz := I.hs)
    | (obtain rfl : w = 0 := (by omega); obtain ⟨k, rfl⟩ : ∃ k2, k = k2 + 1 := ⟨k - 1, by have := I.hk rfl; omega⟩; refine WO.call rfl (FR.it hm TT_ok (block_FR h' br s' I.hs (openS s).2.1 left last ⟨by omega, by have := I.hk rfl; omega⟩ sm I.rd)) ?_; intro x H4 o; obtain ⟨g4, ox4, or4, o54, ow4⟩ := I.blk o)
    | (refine WO.callY (R := fun x H => x = .s (.bool true) ∧ ∃ a6, BI h H bx br b5 (openS s).2.1 k (blkR s' left last sm).2.1 (blkR s' left last sm).2.2.1 (blkR s' left last sm).2.2.2.1 (blkR s' left last sm).2.2.2.2.1 0 (acc ++ [((blkR s' left last sm).1, (openS s).2.1 - s'.size)]) a6) rfl rfl (FR.yield hm TT_ok hok rfl ?_) ?_; (have hro := o.out (by assumption)); (have hlen2 : (blkR s' left last sm).1.length ≤ 32 := (o.row (by assumption)).choose_spec.choose_spec.2.2.2.2); (have hlen : 1 ≤ (blkR s' left last sm).1.length := (o.row (by assumption)).choose_spec.choose_spec.2.2.2.1))
    | (rintro x H5 ⟨rfl, a6, I5⟩)
    | (refine WO.bsl (E := encB) (C := [_, _, _, _]) rfl [blkI ((blkR s' left last sm).1, (openS s).2.1 - s'.size)] rfl rfl rfl (fun a5 H5 g5 o5' n5 => ?_))
    | (refine WO.app (ow4.grows g5) o5'.row rfl (encB_ok _) (by have := I.hk rfl; simp only [List.length_map, List.length_singleton]; omega) (by have := I.hk rfl; simp only [List.length_map, List.length_singleton]; omega) (fun a6 H6 o6 u6 => ?_))
    | (refine WO.storeO rfl ((o54.grows g5).ap u6 I.nw.2.2.2) o6.row.cellsOf rfl o6.row.isC rfl rfl (fun H7 ob7 u7 => ?_))
    | (refine ⟨⟨ow4.row.avEq, trivial⟩, ?_⟩)
    | (refine ⟨Or.inr rfl, ?_⟩)
    | (refine LQ.nn ⟨(k, _, _, _, _, 0, _, a6), by dsimp only; simp only [if_true]; omega, ⟨rfl, rfl, trivial⟩, I5, ?_⟩)
    | (refine LQ.nn ⟨(k + 1, _, _, _, _, _, acc, ov), by dsimp only; simp only [if_true]; rw [if_neg (by assumption)]; omega, ⟨rfl, rfl, trivial⟩, I.err o (by assumption), ?_⟩)
    | (refine EQ.r rfl ⟨_, rfl, ?_, ?_⟩)
    | (refine EQ.r rfl ?_)
    | (refine WO.mvs rfl ?_)
    | (refine WO.mvp rfl ?_)
    | (refine WO.mvt rfl ?_)
    | (refine WO.mv ?_)
    | (refine W.sreg ?_)
    | (refine W.sdraw ?_)
    | (refine W.reg ?_)
    | (refine W.draw ?_)
    | (refine WO.nil ?_)
    | (refine WO.gU rfl ?_)
    | (refine WO.gT rfl rfl ?_)
    | (refine WO.gF rfl rfl ?_)
    | (refine WO.ext rfl rfl ?_)
    | (refine WO.lenR (by assumption) ?_)
    | (refine WO.add rfl rfl (by first | exact wrOK (by simp only [loK, hiK]; omega) | rfl) ?_)
    | (refine WO.sub rfl rfl (by first | exact wrOK (by simp only [loK, hiK]; omega) | rfl) ?_)
    | (refine WO.lss rfl rfl ?_)
    | (refine WO.leq rfl rfl ?_)
    | (refine WO.gtr rfl rfl ?_)
    | (refine WO.geq rfl rfl ?_)
    | (refine WO.eql rfl rfl ?_)
    | (refine WO.neq rfl rfl ?_)
    | (refine WO.seql rfl rfl ?_)
    | (refine WO.sneq rfl rfl ?_)
    | (refine WO.beql rfl rfl (tb rfl) ?_)
    | (refine WO.bneq rfl rfl (tb rfl) ?_)
    | (refine WO.not rfl ?_)
    | (refine WO.not0 rfl ?_)
    | (refine WO.cvi rfl (kd rfl) (kd rfl) (by first | exact wrOK (by simp only [loK, hiK]; omega) | rfl) ?_)
    | (refine WO.cvs rfl (st rfl) (st rfl) ?_)
    | (refine WO.ix rfl rfl (st rfl) (by first | assumption | omega) (by first | assumption | omega) ?_)
    | (refine WO.slen rfl (st rfl) ?_)
    | (refine WO.iaddr (by assumption) rfl rfl (by first | assumption | omega) (by first | assumption | omega) (fun q hq => ?_))
    | (refine WO.load (by assumption) rfl rfl ?_)
    | (refine WO.loadO rfl (by assumption) rfl rfl ?_)
    | (refine WO.faddrP (by assumption) rfl (fun q hq => ?_))
    | (refine WO.nilckP (by assumption) ?_)
    | (refine WO.nilck rfl ?_)
    | (refine WO.faddr rfl ?_)
    | (refine WO.fld rfl rfl rfl ?_)
    | (refine WO.pickT rfl ?_)
    | (refine WO.pickF rfl ?_)
    | (refine WO.sll rfl rfl (st rfl) (by first | assumption | omega) (by first | assumption | omega) ?_)
    | (refine WO.slh rfl rfl (st rfl) (by first | assumption | omega) (by first | assumption | omega) ?_)
    | (refine WO.slb rfl rfl rfl (st rfl) (by first | assumption | omega) (by first | assumption | omega) (by first | assumption | omega) ?_)
    | (refine WO.mul rfl rfl (by first | exact wrOK (by simp only [loK, hiK]; omega) | rfl) ?_)
    | (refine WO.quo rfl rfl (by first | assumption | omega) (by first | exact wrOK (by simp only [loK, hiK]; omega) | rfl) ?_)
    | (refine WO.rem rfl rfl (by first | assumption | omega) ?_)
    | (refine WO.and rfl rfl ?_)
    | (refine WO.or rfl rfl ?_)
    | (refine WO.xor rfl rfl ?_)
    | (refine WO.shl rfl rfl (by first | assumption | omega) (by simp [IntKind.bits]; rfl) ?_)
    | (refine WO.shr rfl rfl (by first | assumption | omega) (by simp [IntKind.bits]; rfl) ?_)
    | (refine WO.build (C := [_]) rfl ?_)
    | (refine WO.build (C := [_, _]) rfl ?_)
    | (refine WO.build (C := [_, _, _]) rfl ?_)
    | (refine WO.build (C := [_, _, _, _]) rfl ?_)
    | (refine WO.build (C := [_, _, _, _, _]) rfl ?_)
    | (refine WO.build (C := [_, _, _, _, _, _]) rfl ?_)
    | (refine WO.build (C := [_, _, _, _, _, _, _]) rfl ?_)
    | (refine WO.eqnil (by assumption) (fun hn1 hn2 => ?_) ?_)
    | (refine W.condT rfl ?_)
    | (refine W.condF rfl ?_)
    | (refine W.condDT rfl (by first | assumption | omega) ?_)
    | (refine W.condDF rfl (by first | assumption | omega) ?_)
    | (refine W.condD rfl (fun hc => ?_) (fun hc => ?_))
    | (refine WO.gS rfl (fun hc => ?_) (fun hc => ?_) <;> try (exfalso; omega))
    | (refine WO.pickS rfl (fun hc => ?_) (fun hc => ?_) <;> try (exfalso; omega))
    | (refine W.skip ?_)
    | (refine W.block ?_)
    | (refine W.drawA rfl ?_)
    | (refine W.sdrawA rfl ?_)
    | (refine And.intro rfl ?_)
    | (refine W.exit ?_)
    | (refine W.ret ?_)
    | (refine W.seq ?_)
    | (refine W.goto ?_)
    | (refine W.label ?_)
    | (refine SQ.nn ?_)
    | (refine SQ.x ?_)
    | (refine SQ.r ?_)
    | (refine SQ.g ?_)
    | (refine BQ.nn ?_)
    | (refine BQ.x ?_)
    | (refine BQ.r ?_)
    | (refine BQ.g ?_)
    | (refine BQ.y rfl ?_)
    | (refine LQ.x ?_)
    | (refine LQ.r ?_)
    | (refine LQ.g ?_)
    | (refine GQ.nn ?_)
    | (refine GQ.x ?_)
    | (refine GQ.r ?_))
  · exact ⟨a6, I.next (by omega) o (by assumption) g5 u6 o6 u7 ob7⟩
  · have hb := hb
    rw [blksF, if_neg (by omega), if_neg (by omega)] at hb
    exact hb
  · have hb := hb
    rw [blksF, if_neg (by omega), if_pos (by assumption)] at hb
    dsimp only
    rw [blksF_stop _ (.inl (by assumption))]
    exact hb
  · rw [blksF_stop _ (.inr (by assumption))] at hb
    rw [← hb]
    refine ⟨ov, ?_, I.g, ?_⟩
    · show AV.tp [ov, .s (.int .i64 0)] = _
      simp_all
    · rw [if_neg (by simpa using (by assumption : w = 0))]; exact I.ow.row
  · rw [blksF_stop _ (.inl (by assumption))] at hb
    rw [← hb]
    refine ⟨.s (.slice none 0 0), rfl, I.g, ?_⟩
    rw [if_pos (by simpa using (by assumption : ¬ w = 0))]; exact Row.nil
  · have l1 := g1.len; have l2 := g2.len; have l3 := g3.len
    have hL := Grows.app H3 [loopBlk]
    have lr := bk_lt hrd
    refine ⟨⟨((g1.trans g2).trans g3).trans hL, ⟨by omega, by omega, by omega, ?_, ?_, ?_⟩, ox.grows hL, ?_, (o5.grows g3).grows hL, Own.nil, ⟨New.nil, nofun, nofun, nofun⟩, ?_, fun _ => ?_⟩, rfl⟩
    · have := g2.len; omega
    · have := o5.lt; omega
    · omega
    · rw [hL.bk (by omega), g3.bk (by omega), g2.bk lr]; exact hrd
    · dsimp only; omega
    · dsimp only; simp only [List.length_nil]; omega
end Go.Proofs.Ytpmoellbfgcefaa.AS
end
section
set_option autoImplicit false
set_option maxRecDepth 100000
set_option maxHeartbeats 4000000
set_option linter.unusedSimpArgs false
set_option linter.unusedVariables false
namespace Go.Proofs.Ytpmoellbfgcefaa.AS
open Go Go.Proofs Go.RowKit

open Go.Proofs.Ytpmoellbfgcefaa.AS.V
theorem blks_unp : ∀ (k : Nat) (s : ByteArray) (left last : Int) (sm : Bool) (w all : Int) (acc : List (List Int × Int)),
    (blksF k s left last sm w all acc).1.flatMap Prod.fst = (unpF k s left last sm w (acc.flatMap Prod.fst)).1 ∧ (blksF k s left last sm w all acc).2 = (unpF k s left last sm w (acc.flatMap Prod.fst)).2.2.2.2.2
  | 0, s, left, last, sm, w, all, acc => ⟨rfl, rfl⟩
  | k + 1, s, left, last, sm, w, all, acc => by
    simp only [blksF, unpF]
    split
    · exact ⟨rfl, rfl⟩
    · split
      · exact ⟨rfl, rfl⟩
      · have := blks_unp k (blkR s left last sm).2.1 (blkR s left last sm).2.2.1 (blkR s left last sm).2.2.2.1 (blkR s left last sm).2.2.2.2.1 0 all (acc ++ [((blkR s left last sm).1, all - s.size)])
        rw [List.flatMap_append, List.flatMap_cons, List.flatMap_nil, List.append_nil] at this
        exact this
/-- What blocks are as they are to be. -/
structure GB (S : Int) (bl : List (List Int × Int)) : Prop where
  all : ∀ B ∈ bl, 1 ≤ B.1.length ∧ B.1.length ≤ 32 ∧ 1 ≤ B.2 ∧ B.2 < S
  ini : ∀ B ∈ bl.dropLast, B.1.length = 32
theorem blkS_ne (l : List Int) (last : Int) : 1 ≤ (blkS l last).length := by
  unfold blkS
  simp only [List.length_append]
  have : leb (IntKind.u64.wrap (IntKind.u32.wrap (l.headD 0 - last))) ≠ [] := leb_ne _
  have := List.length_pos_iff.2 this
  omega
theorem blks_good (all : Int) : ∀ (k : Nat) (s : ByteArray) (left last : Int) (sm : Bool) (w : Int) (acc : List (List Int × Int)), 0 ≤ last ∧ last ≤ 4294967295 → (s.size : Int) < all → (∀ B ∈ acc, B.1.length = 32 ∧ 1 ≤ B.2 ∧ B.2 < all) → GB all (blksF k s left last sm w all acc).1
  | 0, s, left, last, sm, w, acc, hl, hs, ha => ⟨fun B hB => by have := ha B hB; omega, fun B hB => (ha B (List.dropLast_subset _ hB)).1⟩
  | k + 1, s, left, last, sm, w, acc, hl, hs, ha => by
    have base : GB all acc := ⟨fun B hB => by have := ha B hB; omega, fun B hB => (ha B (List.dropLast_subset _ hB)).1⟩
    simp only [blksF]
    split
    · exact base
    · rename_i h1
      split
      · exact base
      · rename_i h2
        have h2 : (blkR s left last sm).2.2.2.2.2 = 0 := by omega
        obtain ⟨x, l, e, hlen, hasc, hsz⟩ := blkR_got (by omega : 1 ≤ left) hl h2
        have hlast : 0 ≤ (x :: l).getLastD 0 ∧ (x :: l).getLastD 0 ≤ 4294967295 := by
          have := asc_last hasc (by simp)
          split at this <;> omega
        have hsize : (s.size : Int) ≥ 1 + (blkR s left last sm).2.1.size := by
          have := congrArg ByteArray.size hsz
          rw [app_size, strOfNums_size] at this
          have := blkS_ne (x :: l) last
          omega
        generalize (blkR s left last sm).2.1 = s2 at e hsize
        rw [e]
        dsimp only
        have hb : ∀ B ∈ acc ++ [((x :: l), all - (s.size : Int))], (1 ≤ B.1.length ∧ B.1.length ≤ 32) ∧ 1 ≤ B.2 ∧ B.2 < all := by
          intro B hB
          rcases List.mem_append.1 hB with hB | hB
          · have := ha B hB; omega
          · rw [List.mem_singleton] at hB; subst hB
            refine ⟨?_, by dsimp only; omega, by dsimp only; omega⟩
            dsimp only
            split at hlen <;> omega
        by_cases h32 : 32 < left
        · rw [if_pos h32] at hlen
          refine blks_good all k _ _ _ _ _ _ hlast (by omega) (fun B hB => ?_)
          have := hb B hB
          rcases List.mem_append.1 hB with hB | hB
          · exact ha B hB
          · rw [List.mem_singleton] at hB; subst hB
            exact ⟨by dsimp only; omega, this.2⟩
        · rw [if_neg h32] at hlen
          rw [blksF_stop _ (.inr (by omega))]
          refine ⟨fun B hB => by have := hb B hB; omega, fun B hB => ?_⟩
          rw [List.dropLast_concat] at hB
          exact (ha B hB).1
theorem openS_ok {s : ByteArray} (h : (openS s).2.2.2 = 0) : (openS s).2.1 = s.size ∧ (openS s).1.size < s.size := by
  unfold openS at *
  split at h
  · rename_i h1; exact absurd h h1
  · rename_i h1
    split at h
    · simp at h
    · rename_i h2
      rw [if_neg h1, if_neg h2]
      refine ⟨rfl, ?_⟩
      have h0 : (gets s).2.2 = 0 := by omega
      obtain ⟨e, hn0, hn1⟩ := gets_ok (Prod.ext rfl (Prod.ext rfl h0) : gets s = ((gets s).1, (gets s).2.1, 0))
      have e2 := congrArg ByteArray.size e
      rw [app_size] at e2
      have : 1 ≤ (puts (gets s).1).size := by
        unfold puts
        rw [strOfNums_size]
        exact (leb_length_le hn0 hn1).1
      dsimp only
      omega
theorem blocks_good (s : ByteArray) : GB s.size (blocksS s).1 := by
  unfold blocksS
  by_cases hw : (openS s).2.2.2 = 0
  · obtain ⟨h1, h2⟩ := openS_ok hw
    rw [h1]
    exact blks_good _ _ _ _ _ _ _ _ ⟨by omega, by omega⟩ (by omega) (fun B hB => by cases hB)
  · rw [blksF_stop _ (.inl hw)]
    exact ⟨fun B hB => (by cases hB), fun B hB => (by cases hB)⟩
theorem blocks_unpack (s : ByteArray) : (blocksS s).2 = (unpackS s).2.2 ∧ ((blocksS s).2 = 0 → (blocksS s).1.flatMap Prod.fst = (unpackS s).1) := by
  have := blks_unp (openS s).2.2.1.toNat (openS s).1 (openS s).2.2.1 0 false (openS s).2.2.2 (openS s).2.1 []
  unfold blocksS unpackS
  simp only [List.flatMap_nil] at this
  rw [this.1, this.2]
  split
  · rename_i h; exact ⟨rfl, fun h' => absurd h' h⟩
  · rename_i h; exact ⟨by simpa using h, fun _ => rfl⟩
/-- Where a block begins among all numbers. -/
theorem flat_at : ∀ (bl : List (List Int × Int)) (i j : Nat), i < bl.length → j < (nth bl i).1.length →
    nth (bl.flatMap Prod.fst) (((bl.take i).flatMap Prod.fst).length + j : Nat) = nth (nth bl i).1 j ∧ ((bl.take i).flatMap Prod.fst).length + j < (bl.flatMap Prod.fst).length
  | b :: bl, 0, j, hi, hj => by
    have e : nth (b :: bl) ((0 : Nat) : Int) = b := rfl
    rw [e] at hj ⊢
    have h2 : j < (b.1 ++ bl.flatMap Prod.fst).length := by rw [List.length_append]; omega
    simp only [List.take_zero, List.flatMap_nil, List.length_nil, Nat.zero_add, List.flatMap_cons]
    refine ⟨?_, h2⟩
    rw [nth_eq (by simpa using h2), nth_eq (by simpa using hj)]
    simp only [Int.toNat_natCast]
    rw [List.getElem_append_left hj]
  | b :: bl, i + 1, j, hi, hj => by
    have e : nth (b :: bl) ((i + 1 : Nat) : Int) = nth bl (i : Nat) := rfl
    rw [e] at hj ⊢
    obtain ⟨h1, h2⟩ := flat_at bl i j (by simpa using hi) hj
    simp only [List.take_succ_cons, List.flatMap_cons, List.length_append]
    refine ⟨?_, by omega⟩
    have h3 : b.1.length + ((bl.take i).flatMap Prod.fst).length + j < (b.1 ++ bl.flatMap Prod.fst).length := by rw [List.length_append]; omega
    rw [← h1, nth_eq (L := bl.flatMap Prod.fst) (by rw [Int.toNat_natCast]; exact h2), nth_eq (by rw [Int.toNat_natCast]; exact h3)]
    simp only [Int.toNat_natCast]
    rw [List.getElem_append_right (by omega)]
    congr 1; omega
theorem flat_take (bl : List (List Int × Int)) (i : Nat) (hi : i < bl.length) : ((bl.take (i + 1)).flatMap Prod.fst).length = ((bl.take i).flatMap Prod.fst).length + (nth bl i).1.length := by
  rw [take_snoc hi, List.flatMap_append, List.length_append]; simp
theorem flat_le (bl : List (List Int × Int)) (i : Nat) : ((bl.take i).flatMap Prod.fst).length ≤ (bl.flatMap Prod.fst).length := by
  have : bl.flatMap Prod.fst = (bl.take i).flatMap Prod.fst ++ (bl.drop i).flatMap Prod.fst := by rw [← List.flatMap_append, List.take_append_drop]
  rw [this, List.length_append]; omega
instance : Inhabited (List Int × Int) := ⟨([], 0)⟩
theorem nth_map {α β : Type} [Inhabited α] [Inhabited β] (f : α → β) {L : List α} {i : Nat} (h : i < L.length) : nth (L.map f) i = f (nth L i) := by
  rw [nth_eq (by simpa using h), nth_eq (by simpa using h)]; simp
theorem hkYes_FR (h : Heap) : FR Try.prog TT 40 [] h fun x H => x = .s (.bool true) ∧ H = h :=
  FR.run (FRun.hook TP_40 rfl) ⟨rfl, rfl⟩
end Go.Proofs.Ytpmoellbfgcefaa.AS
end
section
set_option autoImplicit false
set_option maxRecDepth 100000
set_option maxHeartbeats 16000000
set_option linter.unusedSimpArgs false
set_option linter.unusedVariables false
namespace Go.Proofs.Ytpmoellbfgcefaa.AS
open Go Go.Proofs Go.RowKit

open Go.Proofs.Ytpmoellbfgcefaa.AS.V
theorem flat_end {bl : List (List Int × Int)} {L : List Int} (h : bl.flatMap Prod.fst = L) (i : Nat) : i = bl.length → ((bl.take i).flatMap Prod.fst).length = L.length := by
  rintro rfl; rw [List.take_length, h]
theorem gb_len0 : ∀ {bl : List (List Int × Int)}, (∀ B ∈ bl, 1 ≤ B.1.length) → bl.length ≤ (bl.flatMap Prod.fst).length
  | [], _ => by simp
  | b :: bl, h => by
    have := gb_len0 (bl := bl) (fun B hB => h B (List.mem_cons_of_mem _ hB))
    have h1 := h b (by simp)
    rw [List.flatMap_cons, List.length_append, List.length_cons]; omega
theorem gb_len {S : Int} {bl : List (List Int × Int)} {L : List Int} (hg : GB S bl) (h : bl.flatMap Prod.fst = L) : bl.length ≤ L.length := by
  have := gb_len0 (fun B hB => (hg.all B hB).1)
  rwa [h] at this
/-- What law 10 asks of a block. -/
theorem law10_facts {S : Int} {bl : List (List Int × Int)} {L : List Int} (hg : GB S bl) (h : bl.flatMap Prod.fst = L) (i : Nat) (hi : i < bl.length) :
    let x := nth (bl.map blkI) i
    let k := (((bl.take i).flatMap Prod.fst).length : Int)
    1 ≤ x.2.2.1 ∧ x.2.2.1 ≤ 32 ∧ x.2.2.1 ≤ L.length - k ∧ (i + 1 < bl.length → x.2.2.1 = 32) ∧ x.1 = nth L k ∧ x.2.1 = nth L (k + x.2.2.1 - 1) ∧ 1 ≤ x.2.2.2 ∧ x.2.2.2 < S ∧ (((bl.take (i + 1)).flatMap Prod.fst).length : Int) = k + x.2.2.1 := by
  have e := nth_map blkI hi
  have hm : nth bl (i : Int) ∈ bl := nth_mem (by omega) (by omega)
  obtain ⟨h1, h2, h3, h4⟩ := hg.all _ hm
  have f0 := flat_at bl i 0 hi (by omega)
  have f1 := flat_at bl i ((nth bl (i : Int)).1.length - 1) hi (by omega)
  have f2 := flat_take bl i hi
  rw [h] at f0 f1
  have hini : i + 1 < bl.length → (nth bl (i : Int)).1.length = 32 := fun hlt => hg.ini _ (by
    rw [nth_eq (by simpa using hi)]
    simp only [Int.toNat_natCast]
    rw [List.dropLast_eq_take]
    exact List.mem_iff_getElem.2 ⟨i, by simp; omega, by simp⟩)
  dsimp only
  rw [e]
  simp only [blkI]
  generalize nth bl (i : Int) = B at *
  refine ⟨by omega, by omega, by omega, fun hlt => by have := hini hlt; omega, ?_, ?_, h3, h4, by omega⟩
  · have := f0.1; simp only [Nat.add_zero] at this; exact this.symm
  · have e2 : ((((bl.take i).flatMap Prod.fst).length + (B.1.length - 1) : Nat) : Int) = (((bl.take i).flatMap Prod.fst).length : Int) + B.1.length - 1 := by omega
    have e3 : ((B.1.length - 1 : Nat) : Int) = (B.1.length : Int) - 1 := by omega
    rw [← e2, f1.1, e3]
theorem law10_FR (h : Heap) (s : ByteArray) (n : Int) (hs : s.size ≤ 140737488355328) :
    FR Try.prog TT 10 [.s (.string s), .s (.int .u32 n)] h fun x H => x = .s (.bool true) := by
  obtain ⟨hwe, hfl⟩ := blocks_unpack s
  have hg := blocks_good s
  have ha := unpack_asc s
  have fb := fun h => blocks_FR h s (by omega)
  have fu := fun h => unpack_FR h s (by omega)
  have fh := fun h => has_FR h s n (by omega)
  generalize blocksS s = BS at *
  generalize unpackS s = US at *
  obtain ⟨bl, why⟩ := BS
  obtain ⟨L, rest, no⟩ := US
  dsimp only at *
  subst hwe
  refine FR.of q10 (by kernel_rfl) ?_
  unfold c10
  repeat' (first
    | (refine WO.call rfl (in_FR _ a2 n L ru' (by omega)) ?_; rintro _ _ ⟨rfl, rfl⟩)
    | (refine WO.call rfl (hkYes_FR _) ?_; rintro _ _ ⟨rfl, rfl⟩)
    | (refine WO.call rfl (fb _) ?_; rintro _ H1 ⟨a, rfl, g1, rb⟩)
    | (refine WO.call rfl (fu _) ?_; rintro _ H2 ⟨a2, rfl, ou⟩; have rb := rb.grows ou.g)
    | (refine WO.call rfl (fh _) ?_; rintro _ H3 ⟨rfl, g3⟩; have rb := rb.grows g3; have ru := ou.row.grows g3)
    | (refine EQ.fin rfl ?_)
    | (obtain rfl : why = 0 := (by omega); simp only [ne_eq, not_true_eq_false, if_false] at rb; refine W.loopI (σ := Nat) (fun i => [(0, .s (.string s)), (1, .s (.int .u32 n)), (5, a), (7, a2), (10, .s (.bool (decide (n ∈ L)))), (12, .s (.int .i64 ((bl.take i).flatMap Prod.fst).length)), (57, a), (58, .s (.int .i64 (bl.map blkI).length)), (59, .s (.int .i64 i))]) (fun i h' => Grows H3 h' ∧ i ≤ bl.length) (fun i => bl.length - i) 0 ⟨rfl, rfl, rfl, rfl, rfl, rfl, rfl, rfl, rfl, trivial⟩ ⟨Grows.refl _, Nat.zero_le _⟩ ?_; rintro i G h' ⟨hgr, hi⟩; have rb' := rb.grows hgr; have ru' := ru.grows hgr; have hlm : (bl.map blkI).length = bl.length := List.length_map _; have hbl := gb_len hg (hfl rfl); have hend := flat_end (hfl rfl) i; have hfac := law10_facts hg (hfl rfl) i; have ha2 := ha.2)
    | (refine WO.new (fun b H4 hb4 g4 o4 => ?_); have hb3 : H3.length ≤ b := (by have := hgr.len; omega); have nb : bo a ≠ some b := (fun e => absurd (rb'.lt e) (by omega)); have nu : bo a2 ≠ some b := (fun e => absurd (ru'.lt e) (by omega)); have hfac := hfac (by omega); dsimp only at hfac; obtain ⟨f1, f2, f3, f4, f5, f6, f7, f8, f9⟩ := hfac; have hgr := hgr.trans g4; have rb' := rb'.grows g4; have ru' := ru'.grows g4)
    | (refine WO.storeO (C' := [_, _, _, _]) rfl o4 rfl rfl rfl rfl rfl (fun H5 ob5 u5 => ?_); have rb' := rb'.upd u5 nb; have ru' := ru'.upd u5 nu; have hgr := u5.grows hgr hb3)
    | (refine LQ.fin ?_)
    | (refine WO.mvs rfl ?_)
    | (refine WO.mvp rfl ?_)
    | (refine WO.mvt rfl ?_)
    | (refine WO.mv ?_)
    | (refine W.sreg ?_)
    | (refine W.sdraw ?_)
    | (refine W.reg ?_)
    | (refine W.draw ?_)
    | (refine WO.nil ?_)
    | (refine WO.gU rfl ?_)
    | (refine WO.gT rfl rfl ?_)
    | (refine WO.gF rfl rfl ?_)
    | (refine WO.ext rfl rfl ?_)
    | (refine WO.lenR (by assumption) ?_)
    | (refine WO.add rfl rfl (by first | exact wrOK (by simp only [loK, hiK]; omega) | rfl) ?_)
    | (refine WO.sub rfl rfl (by first | exact wrOK (by simp only [loK, hiK]; omega) | rfl) ?_)
    | (refine WO.lss rfl rfl ?_)
    | (refine WO.leq rfl rfl ?_)
    | (refine WO.gtr rfl rfl ?_)
    | (refine WO.geq rfl rfl ?_)
    | (refine WO.eql rfl rfl ?_)
    | (refine WO.neq rfl rfl ?_)
    | (refine WO.seql rfl rfl ?_)
    | (refine WO.sneq rfl rfl ?_)
    | (refine WO.beql rfl rfl (tb rfl) ?_)
    | (refine WO.bneq rfl rfl (tb rfl) ?_)
    | (refine WO.not rfl ?_)
    | (refine WO.not0 rfl ?_)
    | (refine WO.cvi rfl (kd rfl) (kd rfl) (by first | exact wrOK (by simp only [loK, hiK]; omega) | rfl) ?_)
    | (refine WO.cvs rfl (st rfl) (st rfl) ?_)
    | (refine WO.ix rfl rfl (st rfl) (by first | assumption | omega) (by first | assumption | omega) ?_)
    | (refine WO.slen rfl (st rfl) ?_)
    | (refine WO.iaddr (by assumption) rfl rfl (by first | assumption | omega) (by first | assumption | omega) (fun q hq => ?_))
    | (refine WO.load (by assumption) rfl rfl ?_)
    | (refine WO.loadO rfl (by assumption) rfl rfl ?_)
    | (refine WO.faddrP (by assumption) rfl (fun q hq => ?_))
    | (refine WO.nilckP (by assumption) ?_)
    | (refine WO.nilck rfl ?_)
    | (refine WO.faddr rfl ?_)
    | (refine WO.fld rfl rfl rfl ?_)
    | (refine WO.pickT rfl ?_)
    | (refine WO.pickF rfl ?_)
    | (refine WO.sll rfl rfl (st rfl) (by first | assumption | omega) (by first | assumption | omega) ?_)
    | (refine WO.slh rfl rfl (st rfl) (by first | assumption | omega) (by first | assumption | omega) ?_)
    | (refine WO.slb rfl rfl rfl (st rfl) (by first | assumption | omega) (by first | assumption | omega) (by first | assumption | omega) ?_)
    | (refine WO.mul rfl rfl (by first | exact wrOK (by simp only [loK, hiK]; omega) | rfl) ?_)
    | (refine WO.quo rfl rfl (by first | assumption | omega) (by first | exact wrOK (by simp only [loK, hiK]; omega) | rfl) ?_)
    | (refine WO.rem rfl rfl (by first | assumption | omega) ?_)
    | (refine WO.and rfl rfl ?_)
    | (refine WO.or rfl rfl ?_)
    | (refine WO.xor rfl rfl ?_)
    | (refine WO.shl rfl rfl (by first | assumption | omega) (by simp [IntKind.bits]; rfl) ?_)
    | (refine WO.shr rfl rfl (by first | assumption | omega) (by simp [IntKind.bits]; rfl) ?_)
    | (refine WO.build (C := [_]) rfl ?_)
    | (refine WO.build (C := [_, _]) rfl ?_)
    | (refine WO.build (C := [_, _, _]) rfl ?_)
    | (refine WO.build (C := [_, _, _, _]) rfl ?_)
    | (refine WO.build (C := [_, _, _, _, _]) rfl ?_)
    | (refine WO.build (C := [_, _, _, _, _, _]) rfl ?_)
    | (refine WO.build (C := [_, _, _, _, _, _, _]) rfl ?_)
    | (refine WO.eqnil (by assumption) (fun hn1 hn2 => ?_) ?_)
    | (refine W.condT rfl ?_)
    | (refine W.condF rfl ?_)
    | (refine W.condDT rfl (by first | assumption | omega) ?_)
    | (refine W.condDF rfl (by first | assumption | omega) ?_)
    | (refine W.condD rfl (fun hc => ?_) (fun hc => ?_))
    | (refine WO.gS rfl (fun hc => ?_) (fun hc => ?_) <;> try (exfalso; omega))
    | (refine WO.pickS rfl (fun hc => ?_) (fun hc => ?_) <;> try (exfalso; omega))
    | (refine W.skip ?_)
    | (refine W.block ?_)
    | (refine W.drawA rfl ?_)
    | (refine W.sdrawA rfl ?_)
    | (refine And.intro rfl ?_)
    | (refine W.exit ?_)
    | (refine W.ret ?_)
    | (refine W.seq ?_)
    | (refine W.goto ?_)
    | (refine W.label ?_)
    | (refine SQ.nn ?_)
    | (refine SQ.x ?_)
    | (refine SQ.r ?_)
    | (refine SQ.g ?_)
    | (refine BQ.nn ?_)
    | (refine BQ.x ?_)
    | (refine BQ.r ?_)
    | (refine BQ.g ?_)
    | (refine BQ.y rfl ?_)
    | (refine LQ.x ?_)
    | (refine LQ.r ?_)
    | (refine LQ.g ?_)
    | (refine GQ.nn ?_)
    | (refine GQ.x ?_)
    | (refine GQ.r ?_))
  · exact ⟨congrArg (fun b => AV.s (.bool b)) (decide_eq_true (by rw [if_pos (by assumption)]; rfl))⟩
  · exact ⟨i + 1, by omega, ⟨rfl, rfl, rfl, rfl, rfl, int_eq (by omega), rfl, rfl, rfl, trivial⟩, hgr, by omega⟩
  · exact ⟨i + 1, by omega, ⟨rfl, rfl, rfl, rfl, rfl, int_eq (by omega), rfl, rfl, rfl, trivial⟩, hgr, by omega⟩
  · exact ⟨congrArg (fun b => AV.s (.bool b)) (decide_eq_true rfl)⟩
end Go.Proofs.Ytpmoellbfgcefaa.AS
end
