/- Of our own: an abstract machine beside the model, its soundness, and walks of the program in it. -/
import Derived.Test.YtpmoellbfgcefaaA13
import Derived.Test.YtpmoellbfgcefaaA8
import Derived.Test.YtpmoellbfgcefaaProg
set_option linter.unusedSimpArgs false
set_option linter.unusedVariables false
section
set_option autoImplicit false
set_option maxRecDepth 100000
set_option maxHeartbeats 4000000
set_option linter.unusedSimpArgs false
set_option linter.unusedVariables false
namespace Go.Proofs.Ytpmoellbfgcefaa.AS
open Go Go.Proofs Go.RowKit

section
variable {P : Program} {T : Nat → CallF} {n : Nat} {F : Fr} {h : Heap} {K : Fr → Heap → Prop} {l : List AOper} {d : Option Nat} {x y : Operand}
/-- The lesser of two. -/
theorem WO.min {i : IntKind} {a b : Int} {t t2 ty : TypeId} (hx : evF F x = .s (.int i a)) (hy : evF F y = .s (.int i b)) (k : ∀ r : Int, r ≤ a → r ≤ b → (r = a ∨ r = b) → WO P T n l (putF d (.s (.int i r)) F) h K) : WO P T n (⟨d, none, .p (.sc (.call ⟨.builtin .min, #[x, y], #[t, t2]⟩) ty)⟩ :: l) F h K :=
  WO.pv (x := .s (.int i (if b < a then b else a))) (fun ho => by
    simp only [opds, opdsP, Op.operands, Call.operands, Array.empty_append, List.append_nil, List.nil_append, List.all_cons, List.all_nil, Bool.and_true, Bool.and_eq_true] at ho
    rw [pV_sc, sc_min, evO_fr ho.1, evO_fr ho.2, hx, hy, minV_i]) (k _ (by split <;> omega) (by split <;> omega) (by split <;> simp))
end
theorem mergeS_len (A B : List Int) : (mergeS A B).length ≤ A.length + B.length := by
  induction A, B using mergeS.induct with
  | case1 B => rw [mergeS]; simp
  | case2 a A => rw [mergeS]; simp
  | case3 a A b B hab ih => rw [mergeS, if_pos hab]; simp only [List.length_cons] at ih ⊢; omega
  | case4 a A b B hab hba ih => rw [mergeS, if_neg hab, if_pos hba]; simp only [List.length_cons] at ih ⊢; omega
  | case5 a A b B hab hba ih => rw [mergeS, if_neg hab, if_neg hba]; simp only [List.length_cons] at ih ⊢; omega
/-- Two by two. -/
def orR : List (List Int) → List (List Int)
  | a :: b :: r => mergeS a b :: orR r
  | [a] => [a]
  | [] => []
def orF : Nat → List (List Int) → List Int
  | 0, LL => LL.headD []
  | k + 1, LL => if LL.length ≤ 1 then LL.headD [] else orF k (orR LL)
theorem orR_len : ∀ LL : List (List Int), (orR LL).length = (LL.length + 1) / 2
  | a :: b :: r => by rw [orR, List.length_cons, orR_len r]; simp only [List.length_cons]; omega
  | [a] => by simp [orR]
  | [] => by simp [orR]
theorem orR_flat : ∀ LL : List (List Int), (orR LL).flatten.length ≤ LL.flatten.length
  | a :: b :: r => by
    have := orR_flat r
    have := mergeS_len a b
    rw [orR]; simp only [List.flatten_cons, List.length_append] at *; omega
  | [a] => Nat.le_refl _
  | [] => Nat.le_refl _
theorem orF_short {k : Nat} {LL : List (List Int)} (h : LL.length ≤ 1) : orF k LL = LL.headD [] := by
  cases k with
  | zero => rfl
  | succ k => rw [orF, if_pos h]
theorem orR_at {LL : List (List Int)} {i r : Nat} (h : i < LL.length) (h1 : r ≤ 2) (h2 : r ≤ LL.length - i) (h3 : r = 2 ∨ r = LL.length - i) : orR (LL.drop i) = mergeS (nth ((LL.take (i + r)).drop i) 0) (((LL.take (i + r)).drop i).drop 1).flatten :: orR (LL.drop (i + 2)) := by
  have e : (LL.take (i + r)).drop i = (LL.drop i).take r := by rw [List.drop_take, Nat.add_sub_cancel_left]
  have hl : (LL.drop i).length = LL.length - i := List.length_drop
  rw [e, ← List.drop_drop]
  generalize LL.drop i = D at hl
  match D, hl with
  | [], hl => simp at hl; omega
  | [x], hl =>
    simp only [List.length_cons, List.length_nil] at hl
    obtain rfl : r = 1 := by omega
    simp [orR, nth, mergeS_nil]
  | x :: y :: D, hl =>
    simp only [List.length_cons] at hl
    obtain rfl : r = 2 := by omega
    simp [orR, nth]
theorem nth_cut {α : Type} [Inhabited α] {L : List α} {i j k : Nat} (h : i + k < j) (hj : j ≤ L.length) : nth ((L.take j).drop i) (k : Nat) = nth L ((i + k : Nat) : Int) := by
  rw [nth_eq (by rw [Int.toNat_natCast, List.length_drop, List.length_take]; omega), nth_eq (by rw [Int.toNat_natCast]; omega)]
  simp only [Int.toNat_natCast, List.getElem_drop, List.getElem_take]
theorem Rows2.cut {h : Heap} {a' : AV} {az : List AV} {LL : List (List Int)} {i j : Nat} (hlen : az.length = LL.length) (hr : ∀ i : Nat, i < LL.length → Row (encI .u32) h (nth az i) (nth LL i)) (r : Row encA h a' ((az.take j).drop i)) (hj : j ≤ LL.length) : Rows2 h a' ((LL.take j).drop i) :=
  ⟨⟨_, r, by simp only [List.length_drop, List.length_take, hlen], fun k hk => by
    simp only [List.length_drop, List.length_take] at hk
    rw [nth_cut (by omega) (by omega), nth_cut (by omega) (by omega)]
    exact hr _ (by omega)⟩⟩
theorem Rows2.drop1 {h : Heap} {a' : AV} {az : List AV} {LL : List (List Int)} (hlen : az.length = LL.length) (hr : ∀ i : Nat, i < LL.length → Row (encI .u32) h (nth az i) (nth LL i)) (r : Row encA h a' (az.drop 1)) : Rows2 h a' (LL.drop 1) :=
  ⟨⟨_, r, by simp only [List.length_drop, hlen], fun k hk => by
    simp only [List.length_drop] at hk
    rw [nth_drop 1 (by omega), nth_drop 1 (by omega)]
    exact hr _ (by omega)⟩⟩
theorem rows2_ok {h : Heap} {az : List AV} {LL : List (List Int)} (hlen : az.length = LL.length) (hr : ∀ i : Nat, i < LL.length → Row (encI .u32) h (nth az i) (nth LL i)) : az.all encA.ok = true := by
  refine List.all_eq_true.2 fun x hx => ?_
  obtain ⟨i, hi, rfl⟩ := List.getElem_of_mem hx
  have := hr i (by omega)
  rw [nth_eq (by simpa using hi)] at this
  exact this.isC
theorem Rows2.grows {h H : Heap} {a : AV} {LL : List (List Int)} (r : Rows2 h a LL) (g : Grows h H) : Rows2 H a LL := by
  obtain ⟨az, ra, hlen, hr⟩ := r.x
  exact ⟨⟨az, ra.grows g, hlen, fun i hi => (hr i hi).grows g⟩⟩
theorem clone2_FR (h : Heap) (a : AV) (LL : List (List Int)) (r : Rows2 h a LL) (hn : LL.length ≤ 1099511627776) : FR Try.prog TT 49 [a] h fun x H => Grows h H ∧ Rows2 H x LL := by
  obtain ⟨az, ra, hlen, hr⟩ := r.x
  have hok := rows2_ok hlen hr
  refine FR.of p49 (by kernel_rfl) ?_
  unfold c49
  repeat' (first
    | (refine WO.bsl (E := encA) rfl ([] : List AV) rfl rfl rfl (fun a1 H1 g1 o1 nw1 => ?_))
    | (refine WO.appO ⟨g1, o1, nw1⟩ (ra.grows g1) rfl hok (by simp; omega) (by simp; omega) (fun a2 H2 out2 ap2 => ?_))
    | (refine EQ.r rfl ?_)
    | (refine WO.mvs rfl ?_)
    | (refine WO.mvp rfl ?_)
    | (refine WO.mvt rfl ?_)
    | (refine WO.mv ?_)
    | (refine W.sreg ?_)
    | (refine W.sdraw ?_)
    | (refine W.reg ?_)
    | (refine W.draw ?_)
    | (refine WO.nil ?_)
    | (refine WO.gU rfl ?_)
    | (refine WO.gT rfl rfl ?_)
    | (refine WO.gF rfl rfl ?_)
    | (refine WO.ext rfl rfl ?_)
    | (refine WO.lenR (by assumption) ?_)
    | (refine WO.add rfl rfl (by first | exact wrOK (by simp only [loK, hiK]; omega) | rfl) ?_)
    | (refine WO.sub rfl rfl (by first | exact wrOK (by simp only [loK, hiK]; omega) | rfl) ?_)
    | (refine WO.lss rfl rfl ?_)
    | (refine WO.leq rfl rfl ?_)
    | (refine WO.gtr rfl rfl ?_)
    | (refine WO.geq rfl rfl ?_)
    | (refine WO.eql rfl rfl ?_)
    | (refine WO.neq rfl rfl ?_)
    | (refine WO.seql rfl rfl ?_)
    | (refine WO.sneq rfl rfl ?_)
    | (refine WO.beql rfl rfl (tb rfl) ?_)
    | (refine WO.bneq rfl rfl (tb rfl) ?_)
    | (refine WO.not rfl ?_)
    | (refine WO.not0 rfl ?_)
    | (refine WO.cvi rfl (kd rfl) (kd rfl) (by first | exact wrOK (by simp only [loK, hiK]; omega) | rfl) ?_)
    | (refine WO.cvs rfl (st rfl) (st rfl) ?_)
    | (refine WO.ix rfl rfl (st rfl) (by first | assumption | omega) (by first | assumption | omega) ?_)
    | (refine WO.slen rfl (st rfl) ?_)
    | (refine WO.iaddr (by assumption) rfl rfl (by first | assumption | omega) (by first | assumption | omega) (fun q hq => ?_))
    | (refine WO.load (by assumption) rfl rfl ?_)
    | (refine WO.loadO rfl (by assumption) rfl rfl ?_)
    | (refine WO.faddrP (by assumption) rfl (fun q hq => ?_))
    | (refine WO.nilckP (by assumption) ?_)
    | (refine WO.nilck rfl ?_)
    | (refine WO.faddr rfl ?_)
    | (refine WO.fld rfl rfl rfl ?_)
    | (refine WO.pickT rfl ?_)
    | (refine WO.pickF rfl ?_)
    | (refine WO.sll rfl rfl (st rfl) (by first | assumption | omega) (by first | assumption | omega) ?_)
    | (refine WO.slh rfl rfl (st rfl) (by first | assumption | omega) (by first | assumption | omega) ?_)
    | (refine WO.slb rfl rfl rfl (st rfl) (by first | assumption | omega) (by first | assumption | omega) (by first | assumption | omega) ?_)
    | (refine WO.mul rfl rfl (by first | exact wrOK (by simp only [loK, hiK]; omega) | rfl) ?_)
    | (refine WO.quo rfl rfl (by first | assumption | omega) (by first | exact wrOK (by simp only [loK, hiK]; omega) | rfl) ?_)
    | (refine WO.rem rfl rfl (by first | assumption | omega) ?_)
    | (refine WO.and rfl rfl ?_)
    | (refine WO.or rfl rfl ?_)
    | (refine WO.xor rfl rfl ?_)
    | (refine WO.shl rfl rfl (by first | assumption | omega) (by simp [IntKind.bits]; rfl) ?_)
    | (refine WO.shr rfl rfl (by first | assumption | omega) (by simp [IntKind.bits]; rfl) ?_)
    | (refine WO.build (C := [_]) rfl ?_)
    | (refine WO.build (C := [_, _]) rfl ?_)
    | (refine WO.build (C := [_, _, _]) rfl ?_)
    | (refine WO.build (C := [_, _, _, _]) rfl ?_)
    | (refine WO.build (C := [_, _, _, _, _]) rfl ?_)
    | (refine WO.build (C := [_, _, _, _, _, _]) rfl ?_)
    | (refine WO.build (C := [_, _, _, _, _, _, _]) rfl ?_)
    | (refine WO.eqnil (by assumption) (fun hn1 hn2 => ?_) ?_)
    | (refine W.condT rfl ?_)
    | (refine W.condF rfl ?_)
    | (refine W.condDT rfl (by first | assumption | omega) ?_)
    | (refine W.condDF rfl (by first | assumption | omega) ?_)
    | (refine W.condD rfl (fun hc => ?_) (fun hc => ?_))
    | (refine WO.gS rfl (fun hc => ?_) (fun hc => ?_) <;> try (exfalso; omega))
    | (refine WO.pickS rfl (fun hc => ?_) (fun hc => ?_) <;> try (exfalso; omega))
    | (refine W.skip ?_)
    | (refine W.block ?_)
    | (refine W.drawA rfl ?_)
    | (refine W.sdrawA rfl ?_)
    | (refine And.intro rfl ?_)
    | (refine W.exit ?_)
    | (refine W.ret ?_)
    | (refine W.seq ?_)
    | (refine W.goto ?_)
    | (refine W.label ?_)
    | (refine SQ.nn ?_)
    | (refine SQ.x ?_)
    | (refine SQ.r ?_)
    | (refine SQ.g ?_)
    | (refine BQ.nn ?_)
    | (refine BQ.x ?_)
    | (refine BQ.r ?_)
    | (refine BQ.g ?_)
    | (refine BQ.y rfl ?_)
    | (refine LQ.x ?_)
    | (refine LQ.r ?_)
    | (refine LQ.g ?_)
    | (refine GQ.nn ?_)
    | (refine GQ.x ?_)
    | (refine GQ.r ?_))
  · subst hn2
    obtain rfl : LL = [] := List.length_eq_zero_iff.1 (by simpa using hlen.symm)
    exact ⟨Grows.refl _, ⟨⟨[], Row.nil, rfl, fun i hi => absurd hi (by simp)⟩⟩⟩
  · exact ⟨out2.g, ⟨⟨az, out2.row, hlen, fun i hi => (hr i hi).grows out2.g⟩⟩⟩
theorem flat_drop_le (LL : List (List Int)) (i : Nat) : (LL.drop i).flatten.length ≤ LL.flatten.length := by
  have : LL.flatten = (LL.take i).flatten ++ (LL.drop i).flatten := by rw [← List.flatten_append, List.take_append_drop]
  rw [this, List.length_append]; omega
theorem flat_mem_le : ∀ {LL : List (List Int)} {L : List Int}, L ∈ LL → L.length ≤ LL.flatten.length
  | M :: LL, L, h => by
    rw [List.flatten_cons, List.length_append]
    rcases List.mem_cons.1 h with rfl | h
    · omega
    · have := flat_mem_le h; omega
structure OI (h0 h : Heap) (b1 b2 b5 : Nat) (a : AV) (acc : List (List Int)) (ov : AV) (oz : List AV) : Prop where
  g : Grows h0 h
  n : h0.length ≤ b1 ∧ h0.length ≤ b2 ∧ h0.length ≤ b5 ∧ b1 ≠ b5 ∧ b2 ≠ b5
  o1 : Obj h b1 [a]
  o2 : Obj h b2 [.s (.int .i64 2)]
  o5 : Obj h b5 [ov]
  ow : Own encA 23 h ov oz
  nw : New h0.length ov ∧ bo ov ≠ some b1 ∧ bo ov ≠ some b2 ∧ bo ov ≠ some b5
  len : oz.length = acc.length
  rows : ∀ j : Nat, j < acc.length → Row (encI .u32) h (nth oz j) (nth acc j) ∧ bo (nth oz j) ≠ some b5 ∧ ∀ c, bo ov = some c → bo (nth oz j) ≠ some c
theorem nth_app1 {α : Type} [Inhabited α] {L M : List α} {j : Nat} (h : j < L.length) : nth (L ++ M) (j : Nat) = nth L j := by
  rw [nth_eq (by rw [Int.toNat_natCast, List.length_append]; omega), nth_eq (by simpa using h)]
  simp only [Int.toNat_natCast]; exact List.getElem_append_left h
theorem nth_app2 {α : Type} [Inhabited α] {L : List α} {x : α} : nth (L ++ [x]) (L.length : Nat) = x := by
  rw [nth_eq (by simp)]; simp
theorem OI.next {h0 h H1 H2 H3 H4 H5 : Heap} {b1 b2 b5 : Nat} {a : AV} {acc : List (List Int)} {ov xe a6 : AV} {oz : List AV} {L : List Int} (I : OI h0 h b1 b2 b5 a acc ov oz) (g1 : Grows h H1) (oe : Out (encI .u32) 32 H1 H2 xe L) (g3 : Grows H2 H3)
    (u : ApF H3 H4 ov a6) (o6 : Own encA 23 H4 a6 (oz ++ [xe])) (u5 : Upd H4 H5 b5) (o5' : Obj H5 b5 [a6]) : OI h0 H5 b1 b2 b5 a (acc ++ [L]) a6 (oz ++ [xe]) := by
  obtain ⟨n1, n2, n3, n4, n5⟩ := I.n
  obtain ⟨v1, v2, v3, v4⟩ := I.nw
  have gg : Grows h H3 := (g1.trans oe.g).trans g3
  have ga := u.grows (I.g.trans gg) v1
  have l1 := g1.len; have l2 := oe.g.len; have l3 := g3.len
  have lo := I.o5.lt
  have m1 : bo a6 ≠ some b1 := u.ne (by have := I.o1.lt; omega) v2
  have m2 : bo a6 ≠ some b2 := u.ne (by have := I.o2.lt; omega) v3
  have m5 : bo a6 ≠ some b5 := u.ne (by omega) v4
  refine ⟨u5.grows ga.1 n3, I.n, ((I.o1.grows gg).ap u v2).upd u5 n4, ((I.o2.grows gg).ap u v3).upd u5 n5, o5', o6.upd u5 m5, ⟨ga.2, m1, m2, m5⟩, by simp [I.len], fun j hj => ?_⟩
  rw [List.length_append, List.length_singleton] at hj
  have hl := I.len
  by_cases hja : j < acc.length
  · rw [nth_app1 (by omega), nth_app1 hja]
    obtain ⟨r, x5, xo⟩ := I.rows j hja
    refine ⟨((r.grows gg).ap u xo).upd u5 x5, x5, fun c hc e => ?_⟩
    rcases u.place c hc with hp | hp
    · have := r.lt e; omega
    · exact xo c hp e
  · obtain rfl : j = acc.length := by omega
    rw [← hl, nth_app2, hl, nth_app2]
    have x5 : bo xe ≠ some b5 := fun e => by have := oe.nw _ e; omega
    refine ⟨((oe.row.grows g3).ap u fun c hc e => ?_).upd u5 x5, x5, fun c hc e => ?_⟩
    · have := oe.nw _ e
      have := I.ow.row.lt hc; omega
    · rcases u.place c hc with hp | hp
      · have := oe.row.lt e; omega
      · have := oe.nw _ e
        have := I.ow.row.lt hp; omega
def orM (LL : List (List Int)) : List Int := orF LL.length LL
def orW (LL : List (List Int)) : Int := if checkedS LL ≠ 0 then checkedS LL else if 65536 < (orM LL).length then 15 else 0
theorem headD_nth {LL : List (List Int)} : LL.headD [] = nth LL 0 := by cases LL <;> rfl
theorem or_FR (h : Heap) (a : AV) (LL : List (List Int)) (r : Rows2 h a LL) (hl : ∀ L ∈ LL, L.length ≤ 4611686018427387903) (hf : LL.flatten.length ≤ 1099511627776) (hn : LL.length ≤ 1099511627776) :
    FR Try.prog TT 14 [a] h fun x H => ∃ c, x = .tp [c, .s (.int .i64 (orW LL))] ∧ Out (encI .u32) 32 h H c (if orW LL ≠ 0 then [] else orM LL) := by
  have hk := checked_FR h a LL r hl (by omega)
  obtain ⟨az, ra, hlen, hr⟩ := r.x
  rw [show orW LL = if checkedS LL ≠ 0 then checkedS LL else if 65536 < (orM LL).length then 15 else 0 from rfl]
  generalize checkedS LL = why at *
  refine FR.of p14 (by kernel_rfl) ?_
  unfold c14
  repeat' (first
    | (refine WO.call rfl hk ?_; rintro _ H ⟨rfl, hH⟩; obtain rfl := hH.symm)
    | (refine WO.call rfl (clone2_FR _ _ _ r hn) ?_; rintro x1 H1 ⟨g1, r1⟩)
    | (obtain rfl : why = 0 := (by omega); refine W.loopI (σ := Nat × AV × List (List Int)) (fun s => [(0, s.2.1)]) (fun s hh => Grows h hh ∧ Rows2 hh s.2.1 s.2.2 ∧ orF s.1 s.2.2 = orM LL ∧ s.2.2.length ≤ s.1 ∧ 1 ≤ s.2.2.length ∧ s.2.2.length ≤ 1099511627776 ∧ s.2.2.flatten.length ≤ 1099511627776) (fun s => s.1) (LL.length, x1, LL) ⟨rfl, trivial⟩ ⟨g1, r1, rfl, Nat.le_refl _, by dsimp only; omega, hn, hf⟩ ?_; rintro ⟨k, c, MM⟩ G hh ⟨hg, hrr, hor, hk1, hk2, hk3, hk4⟩; dsimp only at hg hrr hor hk1 hk2 hk3 hk4 ⊢; obtain ⟨cz, rc, hcl, hrc⟩ := hrr.x)
    | (refine WO.new (fun b5 H5 hb5 g5 o5 => ?_))
    | (refine WO.call rfl (chunk_FR _ _ _ (rc.grows g5) (by omega)) ?_; rintro _ H2 ⟨b1, b2, rfl, hb1, hb2, hb12, g2, o1, o2⟩)
    | (refine W.rangeF rfl p68 (by kernel_rfl) (fun hok => ?_); unfold c68)
    | (refine W.loopI (σ := Nat × List (List Int) × AV × List AV) (fun s => [(0, .yl H2.length), (1, .pt b1 0 0), (2, .pt b2 0 0), (4, .s (.int .i64 s.1))]) (fun s h' => OI hh h' b1 b2 b5 c s.2.1 s.2.2.1 s.2.2.2 ∧ s.2.1 ++ orR (MM.drop s.1) = orR MM ∧ s.1 ≤ MM.length + 1) (fun s => MM.length + 2 - s.1) (0, [], .s (.slice none 0 0), []) ⟨rfl, rfl, rfl, rfl, trivial⟩ ?_ ?_; rotate_left; rintro ⟨i, acc, ov, oz⟩ G h' ⟨I, hb, hi⟩; dsimp only at I hb hi ⊢; have ho1 := I.o1; have ho2 := I.o2; have ho5 := I.o5; have rc' := rc.grows I.g; have hal := congrArg List.length hb; rw [List.length_append, orR_len, orR_len, List.length_drop] at hal)
    | (refine WO.slc rc' rfl rfl (by omega) (by omega) (fun ct rct _ => ?_))
    | (refine WO.min rfl rfl (fun m hm1 hm2 hm3 => ?_); rw [List.length_drop] at hm2 hm3)
    | (refine WO.sl3 rc' (fun e => by subst e; simp at hcl; omega) rfl rfl rfl rfl (by omega) (by omega) (by omega) (by omega) (fun cu rcu _ => ?_))
    | (refine WO.callY (R := fun x H => x = .s (.bool true) ∧ ∃ a6 oz', OI hh H b1 b2 b5 c (acc ++ [mergeS (nth ((MM.take ((i : Int) + m).toNat).drop (i : Int).toNat) 0) (((MM.take ((i : Int) + m).toNat).drop (i : Int).toNat).drop 1).flatten]) a6 oz') rfl rfl (FR.yield hm TT_ok hok rfl ?_) ?_; (have hq := Rows2.cut hcl (fun i hi => (hrc i hi).grows I.g) rcu (by omega)); (obtain ⟨tz, rt, htl, hrt⟩ := hq.x); (have htn : ((MM.take ((i : Int) + m).toNat).drop (i : Int).toNat).length = m.toNat := by simp only [List.length_drop, List.length_take]; omega); (have htf : ((MM.take ((i : Int) + m).toNat).drop (i : Int).toNat).flatten.length ≤ 1099511627776 := Nat.le_trans (flat_drop_le _ _) (Nat.le_trans (flat_len_le _ _) hk4)); generalize (MM.take ((i : Int) + m).toNat).drop (i : Int).toNat = TL at *)
    | (rintro x H6 ⟨rfl, a6, oz', I6⟩; have ho26 := I6.o2)
    | (refine ⟨Or.inr rfl, ?_⟩)
    | (refine WO.lenR (hrc 0 (by omega)) ?_)
    | (refine WO.call rfl (clone_FR _ _ _ (hrc 0 (by omega)) (by omega)) ?_; rintro x9 H9 o9)
    | (refine W.drawG (k := 3) rfl ?_)
    | (refine WG.zero ?_)
    | (refine WG.ee rfl ?_)
    | (refine WG.nn rfl ?_)
    | (refine WO.slc rt rfl rfl (by omega) (by omega) (fun cd rcd _ => ?_))
    | (refine WO.call rfl (concat_FR h' _ _ (Rows2.drop1 htl hrt rcd) (Nat.le_trans (flat_drop_le _ _) htf) (by rw [List.length_drop]; omega)) ?_; rintro xc Hc oc)
    | (refine ⟨oc.g, ?_⟩)
    | (refine ⟨oe.g, ?_⟩)
    | (refine ⟨gs, ?_⟩)
    | (refine ⟨⟨I.ow.row.avEq, (hrt 0 (by omega)).avEq, trivial⟩, ?_⟩)
    | (refine WO.call rfl (either_FR Hc _ _ _ _ ((hrt 0 (by omega)).grows oc.g) oc.row (Nat.le_trans (flat_mem_le (nth_mem (by omega) (by omega))) htf) (Nat.le_trans (flat_drop_le _ _) htf)) ?_; rintro xe He oe)
    | (refine WO.bsl (E := encA) (C := [xe]) (by show fillA [_] [(0, 1, xe)] = some [xe]; simp [fillA, oe.row.cellsOf]) [xe] rfl rfl rfl (fun as1 Hs gs os ns => ?_))
    | (refine WO.app (I.ow.grows ((oc.g.trans oe.g).trans gs)) os.row rfl (by have := oe.row.isC; simpa [Enc.ok, encA] using this) (by have := I.len; simp only [List.length_singleton]; omega) (by have := I.len; simp only [List.length_singleton]; omega) (fun a6 H6 o6 u6 => ?_))
    | (refine WO.storeO rfl ((ho5.grows ((oc.g.trans oe.g).trans gs)).ap u6 I.nw.2.2.2) o6.row.cellsOf rfl o6.row.isC rfl rfl (fun H7 ob7 u7 => ?_))
    | (refine LQ.fin ?_)
    | (refine EQ.fin rfl ?_)
    | (refine WO.mvs rfl ?_)
    | (refine WO.mvp rfl ?_)
    | (refine WO.mvt rfl ?_)
    | (refine WO.mv ?_)
    | (refine W.sreg ?_)
    | (refine W.sdraw ?_)
    | (refine W.reg ?_)
    | (refine W.draw ?_)
    | (refine WO.nil ?_)
    | (refine WO.gU rfl ?_)
    | (refine WO.gT rfl rfl ?_)
    | (refine WO.gF rfl rfl ?_)
    | (refine WO.ext rfl rfl ?_)
    | (refine WO.lenR (by assumption) ?_)
    | (refine WO.add rfl rfl (by first | exact wrOK (by simp only [loK, hiK]; omega) | rfl) ?_)
    | (refine WO.sub rfl rfl (by first | exact wrOK (by simp only [loK, hiK]; omega) | rfl) ?_)
    | (refine WO.lss rfl rfl ?_)
    | (refine WO.leq rfl rfl ?_)
    | (refine WO.gtr rfl rfl ?_)
    | (refine WO.geq rfl rfl ?_)
    | (refine WO.eql rfl rfl ?_)
    | (refine WO.neq rfl rfl ?_)
    | (refine WO.seql rfl rfl ?_)
    | (refine WO.sneq rfl rfl ?_)
    | (refine WO.beql rfl rfl (tb rfl) ?_)
    | (refine WO.bneq rfl rfl (tb rfl) ?_)
    | (refine WO.not rfl ?_)
    | (refine WO.not0 rfl ?_)
    | (refine WO.cvi rfl (kd rfl) (kd rfl) (by first | exact wrOK (by simp only [loK, hiK]; omega) | rfl) ?_)
    | (refine WO.cvs rfl (st rfl) (st rfl) ?_)
    | (refine WO.ix rfl rfl (st rfl) (by first | assumption | omega) (by first | assumption | omega) ?_)
    | (refine WO.slen rfl (st rfl) ?_)
    | (refine WO.iaddr (by assumption) rfl rfl (by first | assumption | omega) (by first | assumption | omega) (fun q hq => ?_))
    | (refine WO.load (by assumption) rfl rfl ?_)
    | (refine WO.loadO rfl (by assumption) rfl rfl ?_)
    | (refine WO.faddrP (by assumption) rfl (fun q hq => ?_))
    | (refine WO.nilckP (by assumption) ?_)
    | (refine WO.nilck rfl ?_)
    | (refine WO.faddr rfl ?_)
    | (refine WO.fld rfl rfl rfl ?_)
    | (refine WO.pickT rfl ?_)
    | (refine WO.pickF rfl ?_)
    | (refine WO.sll rfl rfl (st rfl) (by first | assumption | omega) (by first | assumption | omega) ?_)
    | (refine WO.slh rfl rfl (st rfl) (by first | assumption | omega) (by first | assumption | omega) ?_)
    | (refine WO.slb rfl rfl rfl (st rfl) (by first | assumption | omega) (by first | assumption | omega) (by first | assumption | omega) ?_)
    | (refine WO.mul rfl rfl (by first | exact wrOK (by simp only [loK, hiK]; omega) | rfl) ?_)
    | (refine WO.quo rfl rfl (by first | assumption | omega) (by first | exact wrOK (by simp only [loK, hiK]; omega) | rfl) ?_)
    | (refine WO.rem rfl rfl (by first | assumption | omega) ?_)
    | (refine WO.and rfl rfl ?_)
    | (refine WO.or rfl rfl ?_)
    | (refine WO.xor rfl rfl ?_)
    | (refine WO.shl rfl rfl (by first | assumption | omega) (by simp [IntKind.bits]; rfl) ?_)
    | (refine WO.shr rfl rfl (by first | assumption | omega) (by simp [IntKind.bits]; rfl) ?_)
    | (refine WO.build (C := [_]) rfl ?_)
    | (refine WO.build (C := [_, _]) rfl ?_)
    | (refine WO.build (C := [_, _, _]) rfl ?_)
    | (refine WO.build (C := [_, _, _, _]) rfl ?_)
    | (refine WO.build (C := [_, _, _, _, _]) rfl ?_)
    | (refine WO.build (C := [_, _, _, _, _, _]) rfl ?_)
    | (refine WO.build (C := [_, _, _, _, _, _, _]) rfl ?_)
    | (refine WO.eqnil (by assumption) (fun hn1 hn2 => ?_) ?_)
    | (refine W.condT rfl ?_)
    | (refine W.condF rfl ?_)
    | (refine W.condDT rfl (by first | assumption | omega) ?_)
    | (refine W.condDF rfl (by first | assumption | omega) ?_)
    | (refine W.condD rfl (fun hc => ?_) (fun hc => ?_))
    | (refine WO.gS rfl (fun hc => ?_) (fun hc => ?_) <;> try (exfalso; omega))
    | (refine WO.pickS rfl (fun hc => ?_) (fun hc => ?_) <;> try (exfalso; omega))
    | (refine W.skip ?_)
    | (refine W.block ?_)
    | (refine W.drawA rfl ?_)
    | (refine W.sdrawA rfl ?_)
    | (refine And.intro rfl ?_)
    | (refine W.exit ?_)
    | (refine W.ret ?_)
    | (refine W.seq ?_)
    | (refine W.goto ?_)
    | (refine W.label ?_)
    | (refine SQ.nn ?_)
    | (refine SQ.x ?_)
    | (refine SQ.r ?_)
    | (refine SQ.g ?_)
    | (refine BQ.nn ?_)
    | (refine BQ.x ?_)
    | (refine BQ.r ?_)
    | (refine BQ.g ?_)
    | (refine BQ.y rfl ?_)
    | (refine LQ.x ?_)
    | (refine LQ.r ?_)
    | (refine LQ.g ?_)
    | (refine GQ.nn ?_)
    | (refine GQ.x ?_)
    | (refine GQ.r ?_))
  · refine ⟨.s (.slice none 0 0), ?_, ?_⟩
    · rw [if_pos hc]; rfl
    · rw [if_pos hc, if_pos hc]; exact Out.nil (Grows.refl _)
  · obtain rfl : LL = [] := List.length_eq_zero_iff.1 (by omega)
    obtain rfl : why = 0 := by omega
    have e0 : orM [] = [] := rfl
    refine ⟨.s (.slice none 0 0), ?_, ?_⟩
    · simp [e0]; rfl
    · simp [e0]; exact Out.nil (Grows.refl _)
  · exact ⟨a6, _, I.next oc.g oe gs u6 o6 u7 ob7⟩
  · have e := orR_at (LL := MM) (i := i) (r := m.toNat) (by omega) (by omega) (by omega) (by omega)
    rw [e] at hb
    rw [show ((i : Int) + m).toNat = i + m.toNat by omega, Int.toNat_natCast] at I6
    exact ⟨(i + 2, _, a6, oz'), by dsimp only; omega, ⟨rfl, rfl, rfl, int_eq (by dsimp only; omega), trivial⟩, I6, by dsimp only; rw [List.append_assoc]; exact hb, by dsimp only; omega⟩
  · have ea : acc = orR MM := by
      rw [List.drop_eq_nil_of_le (by omega)] at hb
      simpa [orR] using hb
    subst ea
    obtain ⟨k, rfl⟩ : ∃ k2, k = k2 + 1 := ⟨k - 1, by omega⟩
    rw [orF, if_neg (by omega)] at hor
    have hol := orR_len MM
    have hof := orR_flat MM
    exact ⟨(k, ov, orR MM), by dsimp only; omega, ⟨rfl, trivial⟩, hg.trans I.g, ⟨⟨oz, I.ow.row, I.len, fun j hj => (I.rows j hj).1⟩⟩, hor, by dsimp only; omega, by dsimp only; omega, by dsimp only; omega, by dsimp only; omega⟩
  · have hL := Grows.app H2 [loopBlk]
    have l5 := g5.len
    have := o5.lt
    exact ⟨⟨(g5.trans g2).trans hL, ⟨by omega, by omega, by omega, by omega, by omega⟩, o1.grows hL, o2.grows hL, (o5.grows g2).grows hL, Own.nil, ⟨New.nil, nofun, nofun, nofun⟩, rfl, fun j hj => absurd hj (by simp)⟩, rfl, Nat.zero_le _⟩
  · have hor' : nth MM ((0 : Nat) : Int) = orM LL := by rw [orF_short (by omega), headD_nth] at hor; exact hor
    have e15 : 65536 < (orM LL).length := by rw [← hor']; omega
    refine ⟨.s (.slice none 0 0), ?_, ?_⟩
    · simp [e15]; rfl
    · simp [e15]; exact Out.nil hg
  · have hor' : nth MM ((0 : Nat) : Int) = orM LL := by rw [orF_short (by omega), headD_nth] at hor; exact hor
    have e15 : ¬ 65536 < (orM LL).length := by rw [← hor']; omega
    rw [hor'] at o9
    refine ⟨x9, ?_, ?_⟩
    · simp [e15]; rfl
    · simp [e15]; exact Out.trans hg o9
end Go.Proofs.Ytpmoellbfgcefaa.AS
end
section
set_option maxRecDepth 100000
namespace Go.Proofs.Ytpmoellbfgcefaa.AS
open Go Go.Proofs
noncomputable def c18 : ACode := (.seq (.reg [⟨(some 0), none, (.p (.mv (.const (.bool false))))⟩]) (.seq (.reg [⟨(some 10), none, (.e (.bslice 32 1 3 [(.int .u32 0), (.int .u32 0), (.int .u32 0)] [(0, (1, (.const (.int .u32 1)))), (1, (1, (.const (.int .u32 2)))), (2, (1, (.const (.int .u32 5))))]))⟩, ⟨(some 11), none, (.e (.bslice 32 1 3 [(.int .u32 0), (.int .u32 0), (.int .u32 0)] [(0, (1, (.const (.int .u32 2)))), (1, (1, (.const (.int .u32 3)))), (2, (1, (.const (.int .u32 5))))]))⟩, ⟨(some 12), none, (.e (.bslice 23 1 2 [(.slice none 0 0), (.slice none 0 0)] [(0, (1, (.tmp 10))), (1, (1, (.tmp 11)))]))⟩, ⟨(some 13), none, (.e (.call 12 [(.tmp 12)]))⟩, ⟨(some 9), none, (.p (.mv (.tmp 13)))⟩, ⟨(some 14), none, (.p (.ext (.tmp 9) 0))⟩, ⟨(some 15), none, (.p (.ext (.tmp 9) 1))⟩, ⟨(some 1), none, (.p (.mv (.tmp 14)))⟩, ⟨(some 2), none, (.p (.mv (.tmp 15)))⟩]) (.seq (.reg [⟨(some 17), none, (.e (.bslice 32 1 3 [(.int .u32 0), (.int .u32 0), (.int .u32 0)] [(0, (1, (.const (.int .u32 1)))), (1, (1, (.const (.int .u32 2)))), (2, (1, (.const (.int .u32 5))))]))⟩, ⟨(some 18), none, (.e (.bslice 32 1 3 [(.int .u32 0), (.int .u32 0), (.int .u32 0)] [(0, (1, (.const (.int .u32 2)))), (1, (1, (.const (.int .u32 3)))), (2, (1, (.const (.int .u32 5))))]))⟩, ⟨(some 19), none, (.e (.bslice 23 1 2 [(.slice none 0 0), (.slice none 0 0)] [(0, (1, (.tmp 17))), (1, (1, (.tmp 18)))]))⟩, ⟨(some 20), none, (.e (.call 14 [(.tmp 19)]))⟩, ⟨(some 16), none, (.p (.mv (.tmp 20)))⟩, ⟨(some 21), none, (.p (.ext (.tmp 16) 0))⟩, ⟨(some 22), none, (.p (.ext (.tmp 16) 1))⟩, ⟨(some 3), none, (.p (.mv (.tmp 21)))⟩, ⟨(some 4), none, (.p (.mv (.tmp 22)))⟩]) (.seq (.reg [⟨(some 24), none, (.e (.bslice 32 1 3 [(.int .u32 0), (.int .u32 0), (.int .u32 0)] [(0, (1, (.const (.int .u32 1)))), (1, (1, (.const (.int .u32 2)))), (2, (1, (.const (.int .u32 5))))]))⟩, ⟨(some 25), none, (.e (.bslice 32 1 3 [(.int .u32 0), (.int .u32 0), (.int .u32 0)] [(0, (1, (.const (.int .u32 2)))), (1, (1, (.const (.int .u32 3)))), (2, (1, (.const (.int .u32 5))))]))⟩, ⟨(some 26), none, (.e (.call 16 [(.tmp 24), (.tmp 25)]))⟩, ⟨(some 23), none, (.p (.mv (.tmp 26)))⟩, ⟨(some 27), none, (.p (.ext (.tmp 23) 0))⟩, ⟨(some 28), none, (.p (.ext (.tmp 23) 1))⟩, ⟨(some 5), none, (.p (.mv (.tmp 27)))⟩, ⟨(some 6), none, (.p (.mv (.tmp 28)))⟩]) (.seq (.reg [⟨(some 30), none, (.e (.bslice 32 1 2 [(.int .u32 0), (.int .u32 0)] [(0, (1, (.const (.int .u32 2)))), (1, (1, (.const (.int .u32 2))))]))⟩, ⟨(some 31), none, (.e (.bslice 23 1 1 [(.slice none 0 0)] [(0, (1, (.tmp 30)))]))⟩, ⟨(some 32), none, (.e (.call 14 [(.tmp 31)]))⟩, ⟨(some 29), none, (.p (.mv (.tmp 32)))⟩, ⟨(some 33), none, (.p (.ext (.tmp 29) 0))⟩, ⟨(some 34), none, (.p (.ext (.tmp 29) 1))⟩, ⟨(some 7), none, (.p (.mv (.tmp 33)))⟩, ⟨(some 8), none, (.p (.mv (.tmp 34)))⟩]) (.seq (.reg [⟨(some 35), none, (.p (.mv (.tmp 1)))⟩, ⟨(some 36), none, (.e (.bslice 32 1 2 [(.int .u32 0), (.int .u32 0)] [(0, (1, (.const (.int .u32 2)))), (1, (1, (.const (.int .u32 5))))]))⟩, ⟨(some 37), none, (.e (.call 19 [(.tmp 35), (.tmp 36)]))⟩, ⟨(some 38), none, (.p (.mv (.tmp 37)))⟩, ⟨(some 39), (some (38, true)), (.p (.mv (.tmp 2)))⟩, ⟨(some 40), (some (38, true)), (.p (.sc (.binOp .eql 24 (.tmp 39) (.const (.int .i64 0)) 24) 4))⟩, ⟨(some 41), none, (.p (.pick (.tmp 38) (.tmp 40) (.const (.bool false))))⟩, ⟨(some 42), none, (.p (.mv (.tmp 41)))⟩, ⟨(some 43), (some (42, true)), (.p (.mv (.tmp 3)))⟩, ⟨(some 44), (some (42, true)), (.e (.bslice 32 1 4 [(.int .u32 0), (.int .u32 0), (.int .u32 0), (.int .u32 0)] [(0, (1, (.const (.int .u32 1)))), (1, (1, (.const (.int .u32 2)))), (2, (1, (.const (.int .u32 3)))), (3, (1, (.const (.int .u32 5))))]))⟩, ⟨(some 45), (some (42, true)), (.e (.call 19 [(.tmp 43), (.tmp 44)]))⟩, ⟨(some 46), none, (.p (.pick (.tmp 42) (.tmp 45) (.const (.bool false))))⟩, ⟨(some 47), none, (.p (.mv (.tmp 46)))⟩, ⟨(some 48), (some (47, true)), (.p (.mv (.tmp 4)))⟩, ⟨(some 49), (some (47, true)), (.p (.sc (.binOp .eql 24 (.tmp 48) (.const (.int .i64 0)) 24) 4))⟩, ⟨(some 50), none, (.p (.pick (.tmp 47) (.tmp 49) (.const (.bool false))))⟩, ⟨(some 51), none, (.p (.mv (.tmp 50)))⟩, ⟨(some 52), (some (51, true)), (.p (.mv (.tmp 5)))⟩, ⟨(some 53), (some (51, true)), (.e (.bslice 32 1 1 [(.int .u32 0)] [(0, (1, (.const (.int .u32 1))))]))⟩, ⟨(some 54), (some (51, true)), (.e (.call 19 [(.tmp 52), (.tmp 53)]))⟩, ⟨(some 55), none, (.p (.pick (.tmp 51) (.tmp 54) (.const (.bool false))))⟩, ⟨(some 56), none, (.p (.mv (.tmp 55)))⟩, ⟨(some 57), (some (56, true)), (.p (.mv (.tmp 6)))⟩, ⟨(some 58), (some (56, true)), (.p (.sc (.binOp .eql 24 (.tmp 57) (.const (.int .i64 0)) 24) 4))⟩, ⟨(some 59), none, (.p (.pick (.tmp 56) (.tmp 58) (.const (.bool false))))⟩, ⟨(some 60), none, (.p (.mv (.tmp 59)))⟩, ⟨(some 61), (some (60, true)), (.p (.mv (.tmp 8)))⟩, ⟨(some 62), (some (60, true)), (.p (.sc (.binOp .eql 24 (.tmp 61) (.const (.int .i64 12)) 24) 4))⟩, ⟨(some 63), none, (.p (.pick (.tmp 60) (.tmp 62) (.const (.bool false))))⟩, ⟨(some 64), none, (.p (.mv (.tmp 63)))⟩, ⟨(some 65), (some (64, true)), (.e (.bslice 32 1 2 [(.int .u32 0), (.int .u32 0)] [(0, (1, (.const (.int .u32 0)))), (1, (1, (.const (.int .u32 9))))]))⟩, ⟨(some 66), (some (64, true)), (.e (.call 20 [(.tmp 65)]))⟩, ⟨(some 67), (some (64, true)), (.p (.sc (.binOp .eql 24 (.tmp 66) (.const (.int .i64 0)) 24) 4))⟩, ⟨(some 68), none, (.p (.pick (.tmp 64) (.tmp 67) (.const (.bool false))))⟩, ⟨(some 0), none, (.p (.mv (.tmp 68)))⟩]) .ret))))))
theorem p18 : prepFn Try.prog 18 = some (.code 69 [(.tmp 0)] c18) := by kernel_rfl
noncomputable def c19 : ACode := (.seq (.reg [⟨(some 4), none, (.p (.mv (.const (.bool false))))⟩]) (.seq (.seq (.reg [⟨(some 6), none, (.p (.mv (.tmp 0)))⟩, ⟨(some 7), none, (.p (.lenS (.tmp 6)))⟩, ⟨(some 8), none, (.p (.mv (.tmp 1)))⟩, ⟨(some 9), none, (.p (.lenS (.tmp 8)))⟩, ⟨(some 10), none, (.p (.sc (.binOp .neq 3 (.tmp 7) (.tmp 9) 3) 4))⟩]) (.cond (.tmp 10) (.seq (.reg [⟨(some 4), none, (.p (.mv (.const (.bool false))))⟩]) .ret) .skip)) (.seq (.seq (.reg [⟨(some 11), none, (.p (.mv (.tmp 0)))⟩, ⟨(some 12), none, (.p (.lenS (.tmp 11)))⟩, ⟨(some 13), none, (.p (.mv (.const (.int .i64 0))))⟩]) (.block 0 (.loop [4, 14, 15, 16, 17, 18, 19, 20, 21, 22, 23, 24, 25] (.seq (.reg [⟨(some 14), none, (.p (.sc (.binOp .lss 3 (.tmp 13) (.tmp 12) 3) 0))⟩]) (.seq (.cond (.tmp 14) .skip (.exit 0)) (.seq (.block 1 (.seq (.reg [⟨(some 15), none, (.p (.mv (.tmp 13)))⟩, ⟨(some 5), none, (.p (.mv (.tmp 15)))⟩]) (.seq (.draw [⟨(some 16), none, (.p (.mv (.tmp 0)))⟩, ⟨(some 17), none, (.p (.mv (.tmp 5)))⟩, ⟨(some 18), none, (.p (.iaddr 1 (.tmp 16) (.tmp 17)))⟩, ⟨(some 19), none, (.r (.load false 1 (.tmp 18)))⟩, ⟨(some 20), none, (.p (.mv (.tmp 1)))⟩, ⟨(some 21), none, (.p (.mv (.tmp 5)))⟩, ⟨(some 22), none, (.p (.iaddr 1 (.tmp 20) (.tmp 21)))⟩, ⟨(some 23), none, (.r (.load false 1 (.tmp 22)))⟩, ⟨(some 24), none, (.p (.sc (.binOp .neq 32 (.tmp 19) (.tmp 23) 32) 4))⟩] []) (.cond (.tmp 24) (.seq (.reg [⟨(some 4), none, (.p (.mv (.const (.bool false))))⟩]) .ret) .skip)))) (.reg [⟨(some 25), none, (.p (.sc (.binOp .add 3 (.tmp 13) (.const (.int .i64 1)) 3) 3))⟩, ⟨(some 13), none, (.p (.mv (.tmp 25)))⟩]))))))) (.seq (.reg [⟨(some 4), none, (.p (.mv (.const (.bool true))))⟩]) .ret))))
theorem p19 : prepFn Try.prog 19 = some (.code 26 [(.tmp 4)] c19) := by kernel_rfl
end Go.Proofs.Ytpmoellbfgcefaa.AS
end
section
set_option autoImplicit false
set_option maxRecDepth 100000
set_option maxHeartbeats 4000000
set_option linter.unusedSimpArgs false
set_option linter.unusedVariables false
namespace Go.Proofs.Ytpmoellbfgcefaa.AS
open Go Go.Proofs Go.RowKit

theorem same_FR (h : Heap) (a b : AV) (A B : List Int) (ra : Row (encI .u32) h a A) (rb : Row (encI .u32) h b B) (hla : A.length ≤ 4611686018427387903) (hlb : B.length ≤ 4611686018427387903) :
    FR Try.prog TT 19 [a, b] h fun x H => x = .s (.bool (decide (A = B))) ∧ H = h := by
  refine FR.of p19 (by kernel_rfl) ?_
  unfold c19
  repeat' (first
    | (refine W.loopI (σ := Nat) (fun i => [(0, a), (1, b), (12, .s (.int .i64 A.length)), (13, .s (.int .i64 i))]) (fun i h' => h' = h ∧ i ≤ A.length ∧ A.length = B.length ∧ A.take i = B.take i) (fun i => A.length - i) 0 ⟨rfl, rfl, rfl, rfl, trivial⟩ ⟨rfl, Nat.zero_le _, by omega, rfl⟩ ?_; rintro i G h' ⟨rfl, hi, hab, hm⟩)
    | (refine LQ.fin ?_)
    | (refine EQ.fin rfl ?_)
    | (refine WO.mvs rfl ?_)
    | (refine WO.mvp rfl ?_)
    | (refine WO.mvt rfl ?_)
    | (refine WO.mv ?_)
    | (refine W.sreg ?_)
    | (refine W.sdraw ?_)
    | (refine W.reg ?_)
    | (refine W.draw ?_)
    | (refine WO.nil ?_)
    | (refine WO.gU rfl ?_)
    | (refine WO.gT rfl rfl ?_)
    | (refine WO.gF rfl rfl ?_)
    | (refine WO.ext rfl rfl ?_)
    | (refine WO.lenR (by assumption) ?_)
    | (refine WO.add rfl rfl (by first | exact wrOK (by simp only [loK, hiK]; omega) | rfl) ?_)
    | (refine WO.sub rfl rfl (by first | exact wrOK (by simp only [loK, hiK]; omega) | rfl) ?_)
    | (refine WO.lss rfl rfl ?_)
    | (refine WO.leq rfl rfl ?_)
    | (refine WO.gtr rfl rfl ?_)
    | (refine WO.geq rfl rfl ?_)
    | (refine WO.eql rfl rfl ?_)
    | (refine WO.neq rfl rfl ?_)
    | (refine WO.seql rfl rfl ?_)
    | (refine WO.sneq rfl rfl ?_)
    | (refine WO.beql rfl rfl (tb rfl) ?_)
    | (refine WO.bneq rfl rfl (tb rfl) ?_)
    | (refine WO.not rfl ?_)
    | (refine WO.not0 rfl ?_)
    | (refine WO.cvi rfl (kd rfl) (kd rfl) (by first | exact wrOK (by simp only [loK, hiK]; omega) | rfl) ?_)
    | (refine WO.cvs rfl (st rfl) (st rfl) ?_)
    | (refine WO.ix rfl rfl (st rfl) (by first | assumption | omega) (by first | assumption | omega) ?_)
    | (refine WO.slen rfl (st rfl) ?_)
    | (refine WO.iaddr (by assumption) rfl rfl (by first | assumption | omega) (by first | assumption | omega) (fun q hq => ?_))
    | (refine WO.load (by assumption) rfl rfl ?_)
    | (refine WO.loadO rfl (by assumption) rfl rfl ?_)
    | (refine WO.faddrP (by assumption) rfl (fun q hq => ?_))
    | (refine WO.nilckP (by assumption) ?_)
    | (refine WO.nilck rfl ?_)
    | (refine WO.faddr rfl ?_)
    | (refine WO.fld rfl rfl rfl ?_)
    | (refine WO.pickT rfl ?_)
    | (refine WO.pickF rfl ?_)
    | (refine WO.sll rfl rfl (st rfl) (by first | assumption | omega) (by first | assumption | omega) ?_)
    | (refine WO.slh rfl rfl (st rfl) (by first | assumption | omega) (by first | assumption | omega) ?_)
    | (refine WO.slb rfl rfl rfl (st rfl) (by first | assumption | omega) (by first | assumption | omega) (by first | assumption | omega) ?_)
    | (refine WO.mul rfl rfl (by first | exact wrOK (by simp only [loK, hiK]; omega) | rfl) ?_)
    | (refine WO.quo rfl rfl (by first | assumption | omega) (by first | exact wrOK (by simp only [loK, hiK]; omega) | rfl) ?_)
    | (refine WO.rem rfl rfl (by first | assumption | omega) ?_)
    | (refine WO.and rfl rfl ?_)
    | (refine WO.or rfl rfl ?_)
    | (refine WO.xor rfl rfl ?_)
    | (refine WO.shl rfl rfl (by first | assumption | omega) (by simp [IntKind.bits]; rfl) ?_)
    | (refine WO.shr rfl rfl (by first | assumption | omega) (by simp [IntKind.bits]; rfl) ?_)
    | (refine WO.build (C := [_]) rfl ?_)
    | (refine WO.build (C := [_, _]) rfl ?_)
    | (refine WO.build (C := [_, _, _]) rfl ?_)
    | (refine WO.build (C := [_, _, _, _]) rfl ?_)
    | (refine WO.build (C := [_, _, _, _, _]) rfl ?_)
    | (refine WO.build (C := [_, _, _, _, _, _]) rfl ?_)
    | (refine WO.build (C := [_, _, _, _, _, _, _]) rfl ?_)
    | (refine WO.eqnil (by assumption) (fun hn1 hn2 => ?_) ?_)
    | (refine W.condT rfl ?_)
    | (refine W.condF rfl ?_)
    | (refine W.condDT rfl (by first | assumption | omega) ?_)
    | (refine W.condDF rfl (by first | assumption | omega) ?_)
    | (refine W.condD rfl (fun hc => ?_) (fun hc => ?_))
    | (refine WO.gS rfl (fun hc => ?_) (fun hc => ?_) <;> try (exfalso; omega))
    | (refine WO.pickS rfl (fun hc => ?_) (fun hc => ?_) <;> try (exfalso; omega))
    | (refine W.skip ?_)
    | (refine W.block ?_)
    | (refine W.drawA rfl ?_)
    | (refine W.sdrawA rfl ?_)
    | (refine And.intro rfl ?_)
    | (refine W.exit ?_)
    | (refine W.ret ?_)
    | (refine W.seq ?_)
    | (refine W.goto ?_)
    | (refine W.label ?_)
    | (refine SQ.nn ?_)
    | (refine SQ.x ?_)
    | (refine SQ.r ?_)
    | (refine SQ.g ?_)
    | (refine BQ.nn ?_)
    | (refine BQ.x ?_)
    | (refine BQ.r ?_)
    | (refine BQ.g ?_)
    | (refine BQ.y rfl ?_)
    | (refine LQ.x ?_)
    | (refine LQ.r ?_)
    | (refine LQ.g ?_)
    | (refine GQ.nn ?_)
    | (refine GQ.x ?_)
    | (refine GQ.r ?_))
  · exact ⟨congrArg (fun b => AV.s (.bool b)) (decide_eq_false (fun e => hc (by rw [e]))).symm, rfl⟩
  · refine ⟨congrArg (fun b => AV.s (.bool b)) (decide_eq_false (fun e => hc (by rw [e]))).symm, rfl⟩
  · exact ⟨i + 1, by omega, ⟨rfl, rfl, rfl, rfl, trivial⟩, rfl, by omega, hab, by rw [take_snoc (by omega), take_snoc (by omega), hm, Classical.not_not.1 hc]⟩
  · rw [List.take_of_length_le (by omega), List.take_of_length_le (by omega)] at hm
    exact ⟨congrArg (fun b => AV.s (.bool b)) (decide_eq_true hm).symm, rfl⟩
theorem same_self (h : Heap) (a b : AV) (A : List Int) (ra : Row (encI .u32) h a A) (rb : Row (encI .u32) h b A) (hla : A.length ≤ 4611686018427387903) :
    FR Try.prog TT 19 [a, b] h fun x H => x = .s (.bool true) ∧ H = h := by
  have := same_FR h a b A A ra rb hla hla
  rwa [decide_eq_true rfl] at this
theorem rows2_one {h : Heap} {e : TypeId} {a x : AV} {A : List Int} (o : Own encA e h a [x]) (rx : Row (encI .u32) h x A) : Rows2 h a [A] :=
  ⟨⟨[x], o.row, rfl, fun i hi => by
    match i, hi with
    | 0, _ => exact rx⟩⟩
theorem andL (h : Heap) (a : AV) (r : Rows2 h a [[1, 2, 5], [2, 3, 5]]) : FR Try.prog TT 12 [a] h fun x H => ∃ c, x = .tp [c, .s (.int .i64 0)] ∧ Out (encI .u32) 32 h H c [2, 5] := by
  have := and_FR h a _ r (by decide) (by decide)
  rw [show checkedS [[1, 2, 5], [2, 3, 5]] = 0 from by decide, if_neg (by decide), show andS [[1, 2, 5], [2, 3, 5]] = [2, 5] from by decide] at this
  exact this
theorem orL (h : Heap) (a : AV) (r : Rows2 h a [[1, 2, 5], [2, 3, 5]]) : FR Try.prog TT 14 [a] h fun x H => ∃ c, x = .tp [c, .s (.int .i64 0)] ∧ Out (encI .u32) 32 h H c [1, 2, 3, 5] := by
  have := or_FR h a _ r (by decide) (by decide) (by decide)
  have e : orM [[1, 2, 5], [2, 3, 5]] = [1, 2, 3, 5] := by simp [orM, orF, orR, mergeS]
  have e2 : orW [[1, 2, 5], [2, 3, 5]] = 0 := by
    rw [orW, e, show checkedS [[1, 2, 5], [2, 3, 5]] = 0 from by decide]; decide
  rw [e, e2, if_neg (by decide)] at this
  exact this
theorem orL2 (h : Heap) (a : AV) (r : Rows2 h a [[2, 2]]) : FR Try.prog TT 14 [a] h fun x H => ∃ c, x = .tp [c, .s (.int .i64 12)] ∧ Grows h H := by
  obtain ⟨x, H, f, c, hc, o⟩ := or_FR h a _ r (by decide) (by decide) (by decide)
  have e2 : orW [[2, 2]] = 12 := by
    rw [orW, show checkedS [[2, 2]] = 12 from by decide]; decide
  rw [e2] at hc
  exact ⟨x, H, f, c, hc, o.g⟩
theorem withoutL (h : Heap) (a b : AV) (ra : Row (encI .u32) h a [1, 2, 5]) (rb : Row (encI .u32) h b [2, 3, 5]) : FR Try.prog TT 16 [a, b] h fun x H => ∃ c, x = .tp [c, .s (.int .i64 0)] ∧ Out (encI .u32) 32 h H c [1] := by
  have := without_FR h a b _ _ ra rb (by decide) (by decide)
  rw [show checkedS [[1, 2, 5], [2, 3, 5]] = 0 from by decide, if_neg (by decide), show withoutS [1, 2, 5] [2, 3, 5] = [1] from by decide] at this
  exact this
theorem lists_FR (h : Heap) : FR Try.prog TT 18 [] h fun x H => x = .s (.bool true) ∧ Grows h H := by
  refine FR.of p18 (by kernel_rfl) ?_
  unfold c18
  repeat' (first
    | (refine WO.bsl (E := encI .u32) (C := [.s (.int .u32 1), .s (.int .u32 2), .s (.int .u32 5)]) rfl [1, 2, 5] rfl rfl rfl (fun m1 Hm1 gm1 om1 nwm1 => ?_))
    | (refine WO.bsl (E := encI .u32) (C := [.s (.int .u32 2), .s (.int .u32 3), .s (.int .u32 5)]) rfl [2, 3, 5] rfl rfl rfl (fun m2 Hm2 gm2 om2 nwm2 => ?_))
    | (refine WO.bsl (E := encI .u32) (C := [.s (.int .u32 2), .s (.int .u32 2)]) rfl [2, 2] rfl rfl rfl (fun m3 Hm3 gm3 om3 nwm3 => ?_))
    | (refine WO.bsl (E := encI .u32) (C := [.s (.int .u32 2), .s (.int .u32 5)]) rfl [2, 5] rfl rfl rfl (fun m4 Hm4 gm4 om4 nwm4 => ?_))
    | (refine WO.bsl (E := encI .u32) (C := [.s (.int .u32 1), .s (.int .u32 2), .s (.int .u32 3), .s (.int .u32 5)]) rfl [1, 2, 3, 5] rfl rfl rfl (fun m5 Hm5 gm5 om5 nwm5 => ?_))
    | (refine WO.bsl (E := encI .u32) (C := [.s (.int .u32 1)]) rfl [1] rfl rfl rfl (fun m6 Hm6 gm6 om6 nwm6 => ?_))
    | (refine WO.bsl (E := encI .u32) (C := [.s (.int .u32 0), .s (.int .u32 9)]) rfl [0, 9] rfl rfl rfl (fun m7 Hm7 gm7 om7 nwm7 => ?_))
    | (refine WO.bsl (E := encA) (C := [m1, m2]) (by show fillA [_, _] [(0, 1, m1), (1, 1, m2)] = some [m1, m2]; simp [fillA, om1.row.cellsOf, om2.row.cellsOf]) [m1, m2] rfl rfl rfl (fun a1 H1 g1 o1 nw1 => ?_))
    | (refine WO.bsl (E := encA) (C := [m3]) (by show fillA [_] [(0, 1, m3)] = some [m3]; simp [fillA, om3.row.cellsOf]) [m3] rfl rfl rfl (fun a3 H3 g3 o3 nw3 => ?_))
    | (refine WO.call rfl (andL _ _ (rows2_two o1 ((om1.row.grows gm2).grows g1) (om2.row.grows g1))) ?_; rintro _ Hx1 ⟨x1, rfl, ox1⟩; have gx1 := ox1.g)
    | (refine WO.call rfl (orL _ _ (rows2_two o1 ((om1.row.grows gm2).grows g1) (om2.row.grows g1))) ?_; rintro _ Hx2 ⟨x2, rfl, ox2⟩; have gx2 := ox2.g)
    | (refine WO.call rfl (withoutL _ _ _ (om1.row.grows gm2) om2.row) ?_; rintro _ Hx3 ⟨x3, rfl, ox3⟩; have gx3 := ox3.g)
    | (refine WO.call rfl (orL2 _ _ (rows2_one o3 (om3.row.grows g3))) ?_; rintro _ Hx4 ⟨x4, rfl, gx4⟩)
    | (refine WO.call rfl (same_self _ _ _ [2, 5] ?_ om4.row (by decide)) ?_; rotate_left; rintro _ _ ⟨rfl, rfl⟩)
    | (refine WO.call rfl (same_self _ _ _ [1, 2, 3, 5] ?_ om5.row (by decide)) ?_; rotate_left; rintro _ _ ⟨rfl, rfl⟩)
    | (refine WO.call rfl (same_self _ _ _ [1] ?_ om6.row (by decide)) ?_; rotate_left; rintro _ _ ⟨rfl, rfl⟩)
    | (refine WO.call rfl (chk_FR om7.row (by decide)) ?_; rintro _ _ ⟨rfl, hH⟩; obtain rfl := hH.symm)
    | (refine LQ.fin ?_)
    | (refine EQ.fin rfl ?_)
    | (refine WO.mvs rfl ?_)
    | (refine WO.mvp rfl ?_)
    | (refine WO.mvt rfl ?_)
    | (refine WO.mv ?_)
    | (refine W.sreg ?_)
    | (refine W.sdraw ?_)
    | (refine W.reg ?_)
    | (refine W.draw ?_)
    | (refine WO.nil ?_)
    | (refine WO.gU rfl ?_)
    | (refine WO.gT rfl rfl ?_)
    | (refine WO.gF rfl rfl ?_)
    | (refine WO.ext rfl rfl ?_)
    | (refine WO.lenR (by assumption) ?_)
    | (refine WO.add rfl rfl (by first | exact wrOK (by simp only [loK, hiK]; omega) | rfl) ?_)
    | (refine WO.sub rfl rfl (by first | exact wrOK (by simp only [loK, hiK]; omega) | rfl) ?_)
    | (refine WO.lss rfl rfl ?_)
    | (refine WO.leq rfl rfl ?_)
    | (refine WO.gtr rfl rfl ?_)
    | (refine WO.geq rfl rfl ?_)
    | (refine WO.eql rfl rfl ?_)
    | (refine WO.neq rfl rfl ?_)
    | (refine WO.seql rfl rfl ?_)
    | (refine WO.sneq rfl rfl ?_)
    | (refine WO.beql rfl rfl (tb rfl) ?_)
    | (refine WO.bneq rfl rfl (tb rfl) ?_)
    | (refine WO.not rfl ?_)
    | (refine WO.not0 rfl ?_)
    | (refine WO.cvi rfl (kd rfl) (kd rfl) (by first | exact wrOK (by simp only [loK, hiK]; omega) | rfl) ?_)
    | (refine WO.cvs rfl (st rfl) (st rfl) ?_)
    | (refine WO.ix rfl rfl (st rfl) (by first | assumption | omega) (by first | assumption | omega) ?_)
    | (refine WO.slen rfl (st rfl) ?_)
    | (refine WO.iaddr (by assumption) rfl rfl (by first | assumption | omega) (by first | assumption | omega) (fun q hq => ?_))
    | (refine WO.load (by assumption) rfl rfl ?_)
    | (refine WO.loadO rfl (by assumption) rfl rfl ?_)
    | (refine WO.faddrP (by assumption) rfl (fun q hq => ?_))
    | (refine WO.nilckP (by assumption) ?_)
    | (refine WO.nilck rfl ?_)
    | (refine WO.faddr rfl ?_)
    | (refine WO.fld rfl rfl rfl ?_)
    | (refine WO.pickT rfl ?_)
    | (refine WO.pickF rfl ?_)
    | (refine WO.sll rfl rfl (st rfl) (by first | assumption | omega) (by first | assumption | omega) ?_)
    | (refine WO.slh rfl rfl (st rfl) (by first | assumption | omega) (by first | assumption | omega) ?_)
    | (refine WO.slb rfl rfl rfl (st rfl) (by first | assumption | omega) (by first | assumption | omega) (by first | assumption | omega) ?_)
    | (refine WO.mul rfl rfl (by first | exact wrOK (by simp only [loK, hiK]; omega) | rfl) ?_)
    | (refine WO.quo rfl rfl (by first | assumption | omega) (by first | exact wrOK (by simp only [loK, hiK]; omega) | rfl) ?_)
    | (refine WO.rem rfl rfl (by first | assumption | omega) ?_)
    | (refine WO.and rfl rfl ?_)
    | (refine WO.or rfl rfl ?_)
    | (refine WO.xor rfl rfl ?_)
    | (refine WO.shl rfl rfl (by first | assumption | omega) (by simp [IntKind.bits]; rfl) ?_)
    | (refine WO.shr rfl rfl (by first | assumption | omega) (by simp [IntKind.bits]; rfl) ?_)
    | (refine WO.build (C := [_]) rfl ?_)
    | (refine WO.build (C := [_, _]) rfl ?_)
    | (refine WO.build (C := [_, _, _]) rfl ?_)
    | (refine WO.build (C := [_, _, _, _]) rfl ?_)
    | (refine WO.build (C := [_, _, _, _, _]) rfl ?_)
    | (refine WO.build (C := [_, _, _, _, _, _]) rfl ?_)
    | (refine WO.build (C := [_, _, _, _, _, _, _]) rfl ?_)
    | (refine WO.eqnil (by assumption) (fun hn1 hn2 => ?_) ?_)
    | (refine W.condT rfl ?_)
    | (refine W.condF rfl ?_)
    | (refine W.condDT rfl (by first | assumption | omega) ?_)
    | (refine W.condDF rfl (by first | assumption | omega) ?_)
    | (refine W.condD rfl (fun hc => ?_) (fun hc => ?_))
    | (refine WO.gS rfl (fun hc => ?_) (fun hc => ?_) <;> try (exfalso; omega))
    | (refine WO.pickS rfl (fun hc => ?_) (fun hc => ?_) <;> try (exfalso; omega))
    | (refine W.skip ?_)
    | (refine W.block ?_)
    | (refine W.drawA rfl ?_)
    | (refine W.sdrawA rfl ?_)
    | (refine And.intro rfl ?_)
    | (refine W.exit ?_)
    | (refine W.ret ?_)
    | (refine W.seq ?_)
    | (refine W.goto ?_)
    | (refine W.label ?_)
    | (refine SQ.nn ?_)
    | (refine SQ.x ?_)
    | (refine SQ.r ?_)
    | (refine SQ.g ?_)
    | (refine BQ.nn ?_)
    | (refine BQ.x ?_)
    | (refine BQ.r ?_)
    | (refine BQ.g ?_)
    | (refine BQ.y rfl ?_)
    | (refine LQ.x ?_)
    | (refine LQ.r ?_)
    | (refine LQ.g ?_)
    | (refine GQ.nn ?_)
    | (refine GQ.x ?_)
    | (refine GQ.r ?_))
  · refine ⟨rfl, ?_⟩
    repeat' (first | exact Grows.refl _ | assumption | refine Grows.trans ?_ (by assumption))
  · refine ox3.row.grows ?_
    repeat' (first | exact Grows.refl _ | assumption | refine Grows.trans ?_ (by assumption))
  · refine ox2.row.grows ?_
    repeat' (first | exact Grows.refl _ | assumption | refine Grows.trans ?_ (by assumption))
  · refine ox1.row.grows ?_
    repeat' (first | exact Grows.refl _ | assumption | refine Grows.trans ?_ (by assumption))
end Go.Proofs.Ytpmoellbfgcefaa.AS
end
