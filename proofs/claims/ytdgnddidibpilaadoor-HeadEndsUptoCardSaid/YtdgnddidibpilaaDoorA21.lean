/- Of our own: an abstract machine beside the model, its soundness, and walks of the program in it. -/
import Derived.Test.YtdgnddidibpilaaDoorA20
import Derived.Test.YtdgnddidibpilaaDoorA8
import Derived.Deep.DeepHandedRow
import Derived.Lib.LaidTab
import Derived.Test.YtdgnddidibpilaaDoorRows
import Derived.ChangeArms
import Derived.ChangeSame
import Derived.DataReads
import Derived.WideShapes
import Derived.SizedLaws
set_option linter.unusedSimpArgs false
set_option linter.unusedVariables false
section
set_option autoImplicit false
set_option maxRecDepth 100000
set_option maxHeartbeats 4000000
set_option linter.unusedSimpArgs false
set_option linter.unusedVariables false
namespace Go.Proofs.YtdgnddidibpilaaDoor.AS
open Go Go.Proofs Go.RowKit Go.Proofs.YtdgnddidibpilaaDoor.AS.V

theorem v9 : parseS ⟨#[65, 58, 32, 98, 13, 10, 32, 99, 10, 88, 58, 121, 32, 10, 10, 98, 111, 100, 121]⟩ = ([(⟨#[65]⟩, ⟨#[98, 32, 99]⟩), (⟨#[88]⟩, ⟨#[121]⟩)], 15) := by decide +kernel
theorem v15 : findF [(⟨#[65]⟩, ⟨#[98, 32, 99]⟩), (⟨#[88]⟩, ⟨#[121]⟩)] ⟨#[97]⟩ = (⟨#[98, 32, 99]⟩, 0) := by decide +kernel
theorem v15b : findF [(⟨#[65]⟩, ⟨#[98, 32, 99]⟩), (⟨#[88]⟩, ⟨#[121]⟩)] ⟨#[98]⟩ = (⟨#[]⟩, 3) := by decide +kernel
theorem v11 : writeS [(⟨#[65]⟩, ⟨#[98, 32, 99]⟩), (⟨#[88]⟩, ⟨#[121]⟩)] = (⟨#[65, 58, 32, 98, 32, 99, 10, 88, 58, 32, 121, 10, 10]⟩, 0) := by decide +kernel
theorem v11b : writeS [(⟨#[97, 32, 98]⟩, ⟨#[]⟩)] = (⟨#[]⟩, 2) := by decide +kernel
theorem v18 : allS ([(⟨#[65]⟩, ⟨#[98, 32, 99]⟩), (⟨#[88]⟩, ⟨#[121]⟩)] ++ [(⟨#[65]⟩, ⟨#[98, 32, 99]⟩), (⟨#[88]⟩, ⟨#[121]⟩)]) ⟨#[120]⟩ = [⟨#[121]⟩, ⟨#[121]⟩] := by decide +kernel
theorem v20 : likeS ⟨#[115, 85, 98, 106, 101, 99, 116]⟩ ⟨#[83, 117, 98, 106, 101, 99, 116]⟩ = true := by decide +kernel
theorem szF_of {L : List Fd} (h : ∀ f ∈ L, f.1.size ≤ 140737488355328 ∧ f.2.size ≤ 140737488355328) : szF L := fun i hi => by
  rw [nth_eq (by simpa using hi)]
  exact h _ (List.getElem_mem _)
theorem szFL : szF ([(⟨#[65]⟩, ⟨#[98, 32, 99]⟩), (⟨#[88]⟩, ⟨#[121]⟩)] ++ [(⟨#[65]⟩, ⟨#[98, 32, 99]⟩), (⟨#[88]⟩, ⟨#[121]⟩)]) := szF_of (by decide +kernel)
theorem l9 (h : Heap) : FR Tryd.prog TT 9 [.s (.string ⟨#[65, 58, 32, 98, 13, 10, 32, 99, 10, 88, 58, 121, 32, 10, 10, 98, 111, 100, 121]⟩)] h fun x H => ∃ out, x = .tp [out, .s (.int .i64 15)] ∧ Out encF 41 h H out [(⟨#[65]⟩, ⟨#[98, 32, 99]⟩), (⟨#[88]⟩, ⟨#[121]⟩)] := by
  have k := parse9_FR h ⟨#[65, 58, 32, 98, 13, 10, 32, 99, 10, 88, 58, 121, 32, 10, 10, 98, 111, 100, 121]⟩ (by decide)
  rwa [v9] at k
theorem l15 (h : Heap) (a : AV) (r : Row encF h a [(⟨#[65]⟩, ⟨#[98, 32, 99]⟩), (⟨#[88]⟩, ⟨#[121]⟩)]) : FR Tryd.prog TT 15 [a, .s (.string ⟨#[97]⟩)] h fun x H => x = .tp [.s (.string ⟨#[98, 32, 99]⟩), .s (.int .i64 0)] ∧ Grows h H := by
  have k := find15_FR h a _ ⟨#[97]⟩ r (by decide) (szF_of (by decide +kernel)) (by decide)
  rwa [v15] at k
theorem l15b (h : Heap) (a : AV) (r : Row encF h a [(⟨#[65]⟩, ⟨#[98, 32, 99]⟩), (⟨#[88]⟩, ⟨#[121]⟩)]) : FR Tryd.prog TT 15 [a, .s (.string ⟨#[98]⟩)] h fun x H => x = .tp [.s (.string ⟨#[]⟩), .s (.int .i64 3)] ∧ Grows h H := by
  have k := find15_FR h a _ ⟨#[98]⟩ r (by decide) (szF_of (by decide +kernel)) (by decide)
  rwa [v15b] at k
theorem l11 (h : Heap) (a : AV) (r : Row encF h a [(⟨#[65]⟩, ⟨#[98, 32, 99]⟩), (⟨#[88]⟩, ⟨#[121]⟩)]) : FR Tryd.prog TT 11 [a] h fun x H => x = .tp [.s (.string ⟨#[65, 58, 32, 98, 32, 99, 10, 88, 58, 32, 121, 10, 10]⟩), .s (.int .i64 0)] ∧ Grows h H := by
  have k := write11_FR h a _ r (by decide) (by decide +kernel)
  rwa [v11] at k
theorem l11b (h : Heap) (a : AV) (r : Row encF h a [(⟨#[97, 32, 98]⟩, ⟨#[]⟩)]) : FR Tryd.prog TT 11 [a] h fun x H => x = .tp [.s (.string ⟨#[]⟩), .s (.int .i64 2)] ∧ Grows h H := by
  have k := write11_FR h a _ r (by decide) (by decide +kernel)
  rwa [v11b] at k
theorem l18 (h : Heap) (a : AV) (r : Row encF h a ([(⟨#[65]⟩, ⟨#[98, 32, 99]⟩), (⟨#[88]⟩, ⟨#[121]⟩)] ++ [(⟨#[65]⟩, ⟨#[98, 32, 99]⟩), (⟨#[88]⟩, ⟨#[121]⟩)])) : FR Tryd.prog TT 18 [a, .s (.string ⟨#[120]⟩)] h fun x H => Out encS 9 h H x [⟨#[121]⟩, ⟨#[121]⟩] := by
  have k := all18_FR h a _ ⟨#[120]⟩ r (by decide) szFL (by decide)
  rwa [v18] at k
theorem l20 (h : Heap) : FR Tryd.prog TT 20 [.s (.string ⟨#[115, 85, 98, 106, 101, 99, 116]⟩), .s (.string ⟨#[83, 117, 98, 106, 101, 99, 116]⟩)] h fun x H => x = .s (.bool true) ∧ H = h := by
  have k := like20_FR h ⟨#[115, 85, 98, 106, 101, 99, 116]⟩ ⟨#[83, 117, 98, 106, 101, 99, 116]⟩ (by decide) (by decide)
  rwa [v20] at k
theorem l14 (h : Heap) (a b : AV) (A : List Fd) (ra : Row encF h a A) (rb : Row encF h b A) (hl : A.length ≤ 4611686018427387903) : FR Tryd.prog TT 14 [a, b] h fun x H => x = .s (.bool true) ∧ H = h := by
  have k := samef14_FR h a b A A ra rb hl hl
  rwa [decide_eq_true rfl] at k
theorem l17 (h : Heap) (a b : AV) (A : List ByteArray) (ra : Row encS h a A) (rb : Row encS h b A) (hl : A.length ≤ 4611686018427387903) : FR Tryd.prog TT 17 [a, b] h fun x H => x = .s (.bool true) ∧ H = h := by
  have k := sames17_FR h a b A A ra rb hl hl
  rwa [decide_eq_true rfl] at k
theorem lives_FR (h : Heap) : FR Tryd.prog TT 13 [] h fun x H => x = .s (.bool true) ∧ Grows h H := by
  refine FR.of q13 (by kernel_rfl) ?_
  unfold c13
  repeat' (first
    | (refine WO.mvE la rfl ?_)
    | (refine WO.mvE a5 rfl ?_)
    | (refine WO.mvE a6 rfl ?_)
    | (refine WO.mvE a7 rfl ?_)
    | (refine WO.mvE ay rfl ?_)
    | (refine WO.mvE a9 rfl ?_)
    | (refine WO.mvE a10 rfl ?_)
    | (refine WO.mvE a11 rfl ?_)
    | (refine LQ.fin ?_)
    | (refine EQ.fin rfl ?_)
    | (refine EQ.finN rfl ?_)
    | (refine WO.mvs rfl ?_)
    | (refine WO.mvp rfl ?_)
    | (refine WO.mvt rfl ?_)
    | (refine WO.mv ?_)
    | (refine W.sreg ?_)
    | (refine W.sdraw ?_)
    | (refine W.reg ?_)
    | (refine W.draw ?_)
    | (refine WO.nil ?_)
    | (refine WO.gU rfl ?_)
    | (refine WO.gT rfl rfl ?_)
    | (refine WO.gF rfl rfl ?_)
    | (refine WO.ext rfl rfl ?_)
    | (refine WO.lenR (by assumption) ?_)
    | (refine WO.add rfl rfl (by first | exact wrOK (by simp only [loK, hiK]; omega) | rfl) ?_)
    | (refine WO.sub rfl rfl (by first | exact wrOK (by simp only [loK, hiK]; omega) | rfl) ?_)
    | (refine WO.lss rfl rfl ?_)
    | (refine WO.leq rfl rfl ?_)
    | (refine WO.gtr rfl rfl ?_)
    | (refine WO.geq rfl rfl ?_)
    | (refine WO.eql rfl rfl ?_)
    | (refine WO.neq rfl rfl ?_)
    | (refine WO.seql rfl rfl ?_)
    | (refine WO.sneq rfl rfl ?_)
    | (refine WO.beql rfl rfl (tb rfl) ?_)
    | (refine WO.bneq rfl rfl (tb rfl) ?_)
    | (refine WO.not rfl ?_)
    | (refine WO.not0 rfl ?_)
    | (refine WO.cvi rfl (kd rfl) (kd rfl) (by first | exact wrOK (by simp only [loK, hiK]; omega) | rfl) ?_)
    | (refine WO.cvs rfl (st rfl) (st rfl) ?_)
    | (refine WO.ix rfl rfl (st rfl) (by first | assumption | omega) (by first | assumption | omega) ?_)
    | (refine WO.slen rfl (st rfl) ?_)
    | (refine WO.iaddr (by assumption) rfl rfl (by first | assumption | omega) (by first | assumption | omega) (fun q hq => ?_))
    | (refine WO.load (by assumption) rfl rfl ?_)
    | (refine WO.loadO rfl (by assumption) rfl rfl ?_)
    | (refine WO.faddrP (by assumption) rfl (fun q hq => ?_))
    | (refine WO.nilckP (by assumption) ?_)
    | (refine WO.nilck rfl ?_)
    | (refine WO.faddr rfl ?_)
    | (refine WO.fld rfl rfl rfl ?_)
    | (refine WO.pickT rfl ?_)
    | (refine WO.pickF rfl ?_)
    | (refine WO.sll rfl rfl (st rfl) (by first | assumption | omega) (by first | assumption | omega) ?_)
    | (refine WO.slh rfl rfl (st rfl) (by first | assumption | omega) (by first | assumption | omega) ?_)
    | (refine WO.slb rfl rfl rfl (st rfl) (by first | assumption | omega) (by first | assumption | omega) (by first | assumption | omega) ?_)
    | (refine WO.mul rfl rfl (by first | exact wrOK (by simp only [loK, hiK]; omega) | rfl) ?_)
    | (refine WO.quo rfl rfl (by first | assumption | omega) (by first | exact wrOK (by simp only [loK, hiK]; omega) | rfl) ?_)
    | (refine WO.rem rfl rfl (by first | assumption | omega) ?_)
    | (refine WO.and rfl rfl ?_)
    | (refine WO.or rfl rfl ?_)
    | (refine WO.xor rfl rfl ?_)
    | (refine WO.shl rfl rfl (by first | assumption | omega) (by simp [IntKind.bits]; rfl) ?_)
    | (refine WO.shr rfl rfl (by first | assumption | omega) (by simp [IntKind.bits]; rfl) ?_)
    | (refine WO.build (C := [_]) rfl ?_)
    | (refine WO.build (C := [_, _]) rfl ?_)
    | (refine WO.build (C := [_, _, _]) rfl ?_)
    | (refine WO.build (C := [_, _, _, _]) rfl ?_)
    | (refine WO.build (C := [_, _, _, _, _]) rfl ?_)
    | (refine WO.build (C := [_, _, _, _, _, _]) rfl ?_)
    | (refine WO.build (C := [_, _, _, _, _, _, _]) rfl ?_)
    | (refine WO.eqnil (by assumption) (fun hn1 hn2 => ?_) ?_)
    | (refine W.condT rfl ?_)
    | (refine W.condF rfl ?_)
    | (refine W.condDT rfl (by first | assumption | omega) ?_)
    | (refine W.condDF rfl (by first | assumption | omega) ?_)
    | (refine W.condD rfl (fun hc => ?_) (fun hc => ?_))
    | (refine WO.gS rfl (fun hc => ?_) (fun hc => ?_) <;> try (exfalso; omega))
    | (refine WO.pickS rfl (fun hc => ?_) (fun hc => ?_) <;> try (exfalso; omega))
    | (refine W.skip ?_)
    | (refine W.block ?_)
    | (refine W.drawA rfl ?_)
    | (refine W.sdrawA rfl ?_)
    | (refine And.intro rfl ?_)
    | (refine W.exit ?_)
    | (refine W.ret ?_)
    | (refine W.seq ?_)
    | (refine W.goto ?_)
    | (refine W.label ?_)
    | (refine SQ.nn ?_)
    | (refine SQ.x ?_)
    | (refine SQ.r ?_)
    | (refine SQ.g ?_)
    | (refine BQ.nn ?_)
    | (refine BQ.x ?_)
    | (refine BQ.r ?_)
    | (refine BQ.g ?_)
    | (refine BQ.y rfl ?_)
    | (refine LQ.x ?_)
    | (refine LQ.r ?_)
    | (refine LQ.g ?_)
    | (refine GQ.nn ?_)
    | (refine GQ.x ?_)
    | (refine GQ.r ?_)
    | (refine WO.call rfl (l9 _) ?_; rintro _ H1 ⟨la, rfl, o1⟩; have r1 := o1.row)
    | (refine WO.call rfl (l15 _ la r1) ?_; rintro _ H2 ⟨rfl, g2⟩; have r2 := r1.grows g2)
    | (refine WO.call rfl (l15b _ la r2) ?_; rintro _ H3 ⟨rfl, g3⟩; have r3 := r2.grows g3)
    | (refine WO.call rfl (l11 _ la r3) ?_; rintro _ H4 ⟨rfl, g4⟩; have r4 := r3.grows g4)
    | (refine WO.bsl (E := encF) (C := []) rfl [] rfl rfl rfl (fun a5 H5 g5 o5 nw5 => ?_); have r5 := r4.grows g5; have nl5 : ∀ c, bo a5 = some c → bo la ≠ some c := (fun c hc e => by have := nw5 c hc; have := r4.lt e; omega))
    | (refine WO.app o5 r5 rfl rfl (by decide) (by decide) (fun a6 H6 o6 ap6 => ?_); have r6 := r5.ap ap6 nl5; have nw6 : ∀ c, bo a6 = some c → H4.length ≤ c ∧ bo la ≠ some c := (fun c hc => by rcases ap6.place c hc with h1 | h1; exact ⟨by have := g5.len; omega, fun e => by have := r5.lt e; omega⟩; exact ⟨nw5 c h1, nl5 c h1⟩))
    | (refine WO.app o6 r6 rfl rfl (by decide) (by decide) (fun a7 H7 o7 ap7 => ?_); have r7 := r6.ap ap7 (fun c hc => (nw6 c hc).2); have g7 := ((ApF.grows ap6 g5 nw5).1); have g8 := (ApF.grows ap7 g7 (fun c hc => (nw6 c hc).1)).1)
    | (refine WO.call rfl (l18 _ a7 (by rw [show ∀ A B : List Fd, ([] ++ A) ++ B = A ++ B from fun _ _ => rfl] at o7; exact o7.row)) ?_; rintro ay H8 oy; have r8 := r7.grows oy.g)
    | ((fail_if_success (have hh := o9)); refine WO.bsl (E := encF) (C := [_, _]) rfl [(⟨#[97, 32, 98]⟩, ⟨#[]⟩)] rfl rfl rfl (fun a9 H9 g9 o9 nw9 => ?_))
    | (refine WO.call rfl (l11b _ a9 o9.row) ?_; rintro _ H10 ⟨rfl, g10⟩; have r10 := (r8.grows g9).grows g10; have ry10 := (oy.row.grows g9).grows g10)
    | (refine WO.bsl (E := encF) (C := [_, _, _, _]) rfl [(⟨#[65]⟩, ⟨#[98, 32, 99]⟩), (⟨#[88]⟩, ⟨#[121]⟩)] rfl rfl rfl (fun a10 H11 g11 o11 nw11 => ?_))
    | (refine WO.call rfl (l14 _ la a10 _ (r10.grows g11) o11.row (by decide)) ?_; rintro _ H ⟨rfl, hH⟩; obtain rfl := hH.symm)
    | (refine WO.bsl (E := encS) (C := [_, _]) rfl [⟨#[121]⟩, ⟨#[121]⟩] rfl rfl rfl (fun a11 H12 g12 o12 nw12 => ?_))
    | (refine WO.call rfl (l17 _ ay a11 _ ((ry10.grows g11).grows g12) o12.row (by decide)) ?_; rintro _ H ⟨rfl, hH⟩; obtain rfl := hH.symm)
    | (refine WO.call rfl (l20 _) ?_; rintro _ H ⟨rfl, hH⟩; obtain rfl := hH.symm))
  all_goals first
    | exact ⟨rfl, o1.g.trans (g2.trans (g3.trans (g4.trans (g8.trans (oy.g.trans (g9.trans (g10.trans (g11.trans g12))))))))⟩
end Go.Proofs.YtdgnddidibpilaaDoor.AS
end
section
set_option autoImplicit false
set_option maxRecDepth 100000
set_option maxHeartbeats 4000000
set_option linter.unusedSimpArgs false
set_option linter.unusedVariables false
namespace Go.Proofs.YtdgnddidibpilaaDoor.AS
open Go Go.Proofs Go.RowKit Go.Proofs.YtdgnddidibpilaaDoor.AS.V

theorem allS_len (L : List Fd) (nm : ByteArray) : (allS L nm).length ≤ L.length := by
  unfold allS
  rw [List.length_map]
  exact List.length_filter_le _ _
theorem like_refl (a : ByteArray) : likeS a a = true := decide_eq_true rfl
theorem like_sym (a b : ByteArray) : likeS a b = likeS b a := by
  unfold likeS likeL
  exact decide_eq_decide.2 ⟨fun h => h.symm, fun h => h.symm⟩
theorem like_fields {a b : ByteArray} (h : likeS a b = true) (L : List Fd) : allS L a = allS L b := by
  have h1 : (bytesOf a).map smB = (bytesOf b).map smB := of_decide_eq_true h
  unfold allS
  congr 1
  apply List.filter_congr
  intro f _
  show likeL _ _ = likeL _ _
  unfold likeL
  rw [h1]
theorem like_size {a b : ByteArray} (h : likeS a b = true) : a.size = b.size := by
  have h1 : (bytesOf a).map smB = (bytesOf b).map smB := of_decide_eq_true h
  have := congrArg List.length h1
  rwa [List.length_map, List.length_map, bytesOf_length, bytesOf_length] at this
theorem law4_FR (h : Heap) (l : AV) (L : List Fd) (nm ot : ByteArray) (r : Row encF h l L) (hL : L.length ≤ 4398046511103) (hz : szF L) (hn : nm.size ≤ 140737488355328) (ho : ot.size ≤ 140737488355328) : FR Tryd.prog TT 4 [l, .s (.string nm), .s (.string ot)] h fun x H => x = .s (.bool true) ∧ Grows h H := by
  have k15 := fun hp (rp : Row encF hp l L) => find15_FR hp l L nm rp hL hz hn
  have k16 := fun hp (rp : Row encF hp l L) => find16_FR hp l L nm rp hL hz hn
  have k18 := fun hp (rp : Row encF hp l L) => all18_FR hp l L nm rp hL hz hn
  have k19 := fun hp (rp : Row encF hp l L) => all19_FR hp l L nm rp hL hz hn
  have hA := allS_len L nm
  have k20 := fun hp => like20_FR hp nm ot hn ho
  have k21 := fun hp => like21_FR hp nm ot hn ho
  generalize findF L nm = fd at k15 k16
  generalize allS L nm = A at k18 k19 hA
  generalize likeS nm ot = lk at k20 k21
  obtain ⟨fv, fw⟩ := fd
  refine FR.of q4 (by kernel_rfl) ?_
  unfold c4
  repeat' (first
    | (refine WO.mvE l rfl ?_)
    | (refine WO.mvE a1 rfl ?_)
    | (refine WO.mvE a2 rfl ?_)
    | (refine LQ.fin ?_)
    | (refine EQ.fin rfl ?_)
    | (refine EQ.finN rfl ?_)
    | (refine WO.mvs rfl ?_)
    | (refine WO.mvp rfl ?_)
    | (refine WO.mvt rfl ?_)
    | (refine WO.mv ?_)
    | (refine W.sreg ?_)
    | (refine W.sdraw ?_)
    | (refine W.reg ?_)
    | (refine W.draw ?_)
    | (refine WO.nil ?_)
    | (refine WO.gU rfl ?_)
    | (refine WO.gT rfl rfl ?_)
    | (refine WO.gF rfl rfl ?_)
    | (refine WO.ext rfl rfl ?_)
    | (refine WO.lenR (by assumption) ?_)
    | (refine WO.add rfl rfl (by first | exact wrOK (by simp only [loK, hiK]; omega) | rfl) ?_)
    | (refine WO.sub rfl rfl (by first | exact wrOK (by simp only [loK, hiK]; omega) | rfl) ?_)
    | (refine WO.lss rfl rfl ?_)
    | (refine WO.leq rfl rfl ?_)
    | (refine WO.gtr rfl rfl ?_)
    | (refine WO.geq rfl rfl ?_)
    | (refine WO.eql rfl rfl ?_)
    | (refine WO.neq rfl rfl ?_)
    | (refine WO.seql rfl rfl ?_)
    | (refine WO.sneq rfl rfl ?_)
    | (refine WO.beql rfl rfl (tb rfl) ?_)
    | (refine WO.bneq rfl rfl (tb rfl) ?_)
    | (refine WO.not rfl ?_)
    | (refine WO.not0 rfl ?_)
    | (refine WO.cvi rfl (kd rfl) (kd rfl) (by first | exact wrOK (by simp only [loK, hiK]; omega) | rfl) ?_)
    | (refine WO.cvs rfl (st rfl) (st rfl) ?_)
    | (refine WO.ix rfl rfl (st rfl) (by first | assumption | omega) (by first | assumption | omega) ?_)
    | (refine WO.slen rfl (st rfl) ?_)
    | (refine WO.iaddr (by assumption) rfl rfl (by first | assumption | omega) (by first | assumption | omega) (fun q hq => ?_))
    | (refine WO.load (by assumption) rfl rfl ?_)
    | (refine WO.loadO rfl (by assumption) rfl rfl ?_)
    | (refine WO.faddrP (by assumption) rfl (fun q hq => ?_))
    | (refine WO.nilckP (by assumption) ?_)
    | (refine WO.nilck rfl ?_)
    | (refine WO.faddr rfl ?_)
    | (refine WO.fld rfl rfl rfl ?_)
    | (refine WO.pickT rfl ?_)
    | (refine WO.pickF rfl ?_)
    | (refine WO.sll rfl rfl (st rfl) (by first | assumption | omega) (by first | assumption | omega) ?_)
    | (refine WO.slh rfl rfl (st rfl) (by first | assumption | omega) (by first | assumption | omega) ?_)
    | (refine WO.slb rfl rfl rfl (st rfl) (by first | assumption | omega) (by first | assumption | omega) (by first | assumption | omega) ?_)
    | (refine WO.mul rfl rfl (by first | exact wrOK (by simp only [loK, hiK]; omega) | rfl) ?_)
    | (refine WO.quo rfl rfl (by first | assumption | omega) (by first | exact wrOK (by simp only [loK, hiK]; omega) | rfl) ?_)
    | (refine WO.rem rfl rfl (by first | assumption | omega) ?_)
    | (refine WO.and rfl rfl ?_)
    | (refine WO.or rfl rfl ?_)
    | (refine WO.xor rfl rfl ?_)
    | (refine WO.shl rfl rfl (by first | assumption | omega) (by simp [IntKind.bits]; rfl) ?_)
    | (refine WO.shr rfl rfl (by first | assumption | omega) (by simp [IntKind.bits]; rfl) ?_)
    | (refine WO.build (C := [_]) rfl ?_)
    | (refine WO.build (C := [_, _]) rfl ?_)
    | (refine WO.build (C := [_, _, _]) rfl ?_)
    | (refine WO.build (C := [_, _, _, _]) rfl ?_)
    | (refine WO.build (C := [_, _, _, _, _]) rfl ?_)
    | (refine WO.build (C := [_, _, _, _, _, _]) rfl ?_)
    | (refine WO.build (C := [_, _, _, _, _, _, _]) rfl ?_)
    | (refine WO.eqnil (by assumption) (fun hn1 hn2 => ?_) ?_)
    | (refine W.condT rfl ?_)
    | (refine W.condF rfl ?_)
    | (refine W.condDT rfl (by first | assumption | omega) ?_)
    | (refine W.condDF rfl (by first | assumption | omega) ?_)
    | (refine W.condD rfl (fun hc => ?_) (fun hc => ?_))
    | (refine WO.gS rfl (fun hc => ?_) (fun hc => ?_) <;> try (exfalso; omega))
    | (refine WO.pickS rfl (fun hc => ?_) (fun hc => ?_) <;> try (exfalso; omega))
    | (refine W.skip ?_)
    | (refine W.block ?_)
    | (refine W.drawA rfl ?_)
    | (refine W.sdrawA rfl ?_)
    | (refine And.intro rfl ?_)
    | (refine W.exit ?_)
    | (refine W.ret ?_)
    | (refine W.seq ?_)
    | (refine W.goto ?_)
    | (refine W.label ?_)
    | (refine SQ.nn ?_)
    | (refine SQ.x ?_)
    | (refine SQ.r ?_)
    | (refine SQ.g ?_)
    | (refine BQ.nn ?_)
    | (refine BQ.x ?_)
    | (refine BQ.r ?_)
    | (refine BQ.g ?_)
    | (refine BQ.y rfl ?_)
    | (refine LQ.x ?_)
    | (refine LQ.r ?_)
    | (refine LQ.g ?_)
    | (refine GQ.nn ?_)
    | (refine GQ.x ?_)
    | (refine GQ.r ?_)
    | (refine WO.call rfl (k15 _ r) ?_; rintro _ H1 ⟨rfl, g1⟩; have r1 := r.grows g1)
    | (refine WO.call rfl (k16 _ r1) ?_; rintro _ H2 ⟨rfl, g2⟩; have r2 := r1.grows g2)
    | (refine WO.call rfl (lives_FR _) ?_; rintro _ H3 ⟨rfl, g3⟩; have r3 := r2.grows g3)
    | (refine WO.call rfl (k18 _ r3) ?_; rintro a1 H4 o4; have r4 := r3.grows o4.g)
    | (refine WO.call rfl (k19 _ r4) ?_; rintro a2 H5 o5)
    | (refine WO.call rfl (l17 _ a1 a2 _ (o4.row.grows o5.g) o5.row (by omega)) ?_; rintro _ H ⟨rfl, hH⟩; obtain rfl := hH.symm)
    | (refine WO.call rfl (k20 _) ?_; rintro _ H ⟨rfl, hH⟩; obtain rfl := hH.symm)
    | (refine WO.call rfl (k21 _) ?_; rintro _ H6 ⟨rfl, g6⟩))
  all_goals first
    | (exfalso; exact hc rfl)
    | exact ⟨congrArg (fun b : Bool => AV.s (.bool b)) (decide_eq_true rfl), g1.trans (g2.trans (g3.trans (o4.g.trans (o5.g.trans g6))))⟩
theorem law7_FR (h : Heap) (l : AV) (L : List Fd) (a b : ByteArray) (r : Row encF h l L) (hL : L.length ≤ 4398046511103) (hz : szF L) (ha : a.size ≤ 140737488355328) (hb : b.size ≤ 140737488355328) : FR Tryd.prog TT 7 [.s (.string a), .s (.string b), l] h fun x H => x = .s (.bool true) ∧ Grows h H := by
  have kaa := fun hp => like20_FR hp a a ha ha
  have kab := fun hp => like20_FR hp a b ha hb
  have kba := fun hp => like20_FR hp b a hb ha
  have kA := fun hp (rp : Row encF hp l L) => all18_FR hp l L a rp hL hz ha
  have kB := fun hp (rp : Row encF hp l L) => all18_FR hp l L b rp hL hz hb
  have hA := allS_len L a
  have hs : likeS a b = true → allS L a = allS L b ∧ a.size = b.size := fun e => ⟨like_fields e L, like_size e⟩
  simp only [like_refl] at kaa
  rw [← like_sym a b] at kba
  generalize likeS a b = lk at kab kba hs
  generalize allS L a = A at kA hs hA
  generalize allS L b = B at kB hs
  cases lk
  · refine FR.of q7 (by kernel_rfl) ?_
    unfold c7
    repeat' (first
      | (refine WO.mvE l rfl ?_)
      | (refine WO.mvE a1 rfl ?_)
      | (refine WO.mvE a2 rfl ?_)
      | (refine LQ.fin ?_)
      | (refine EQ.fin rfl ?_)
      | (refine EQ.finN rfl ?_)
      | (refine WO.mvs rfl ?_)
      | (refine WO.mvp rfl ?_)
      | (refine WO.mvt rfl ?_)
      | (refine WO.mv ?_)
      | (refine W.sreg ?_)
      | (refine W.sdraw ?_)
      | (refine W.reg ?_)
      | (refine W.draw ?_)
      | (refine WO.nil ?_)
      | (refine WO.gU rfl ?_)
      | (refine WO.gT rfl rfl ?_)
      | (refine WO.gF rfl rfl ?_)
      | (refine WO.ext rfl rfl ?_)
      | (refine WO.lenR (by assumption) ?_)
      | (refine WO.add rfl rfl (by first | exact wrOK (by simp only [loK, hiK]; omega) | rfl) ?_)
      | (refine WO.sub rfl rfl (by first | exact wrOK (by simp only [loK, hiK]; omega) | rfl) ?_)
      | (refine WO.lss rfl rfl ?_)
      | (refine WO.leq rfl rfl ?_)
      | (refine WO.gtr rfl rfl ?_)
      | (refine WO.geq rfl rfl ?_)
      | (refine WO.eql rfl rfl ?_)
      | (refine WO.neq rfl rfl ?_)
      | (refine WO.seql rfl rfl ?_)
      | (refine WO.sneq rfl rfl ?_)
      | (refine WO.beql rfl rfl (tb rfl) ?_)
      | (refine WO.bneq rfl rfl (tb rfl) ?_)
      | (refine WO.not rfl ?_)
      | (refine WO.not0 rfl ?_)
      | (refine WO.cvi rfl (kd rfl) (kd rfl) (by first | exact wrOK (by simp only [loK, hiK]; omega) | rfl) ?_)
      | (refine WO.cvs rfl (st rfl) (st rfl) ?_)
      | (refine WO.ix rfl rfl (st rfl) (by first | assumption | omega) (by first | assumption | omega) ?_)
      | (refine WO.slen rfl (st rfl) ?_)
      | (refine WO.iaddr (by assumption) rfl rfl (by first | assumption | omega) (by first | assumption | omega) (fun q hq => ?_))
      | (refine WO.load (by assumption) rfl rfl ?_)
      | (refine WO.loadO rfl (by assumption) rfl rfl ?_)
      | (refine WO.faddrP (by assumption) rfl (fun q hq => ?_))
      | (refine WO.nilckP (by assumption) ?_)
      | (refine WO.nilck rfl ?_)
      | (refine WO.faddr rfl ?_)
      | (refine WO.fld rfl rfl rfl ?_)
      | (refine WO.pickT rfl ?_)
      | (refine WO.pickF rfl ?_)
      | (refine WO.sll rfl rfl (st rfl) (by first | assumption | omega) (by first | assumption | omega) ?_)
      | (refine WO.slh rfl rfl (st rfl) (by first | assumption | omega) (by first | assumption | omega) ?_)
      | (refine WO.slb rfl rfl rfl (st rfl) (by first | assumption | omega) (by first | assumption | omega) (by first | assumption | omega) ?_)
      | (refine WO.mul rfl rfl (by first | exact wrOK (by simp only [loK, hiK]; omega) | rfl) ?_)
      | (refine WO.quo rfl rfl (by first | assumption | omega) (by first | exact wrOK (by simp only [loK, hiK]; omega) | rfl) ?_)
      | (refine WO.rem rfl rfl (by first | assumption | omega) ?_)
      | (refine WO.and rfl rfl ?_)
      | (refine WO.or rfl rfl ?_)
      | (refine WO.xor rfl rfl ?_)
      | (refine WO.shl rfl rfl (by first | assumption | omega) (by simp [IntKind.bits]; rfl) ?_)
      | (refine WO.shr rfl rfl (by first | assumption | omega) (by simp [IntKind.bits]; rfl) ?_)
      | (refine WO.build (C := [_]) rfl ?_)
      | (refine WO.build (C := [_, _]) rfl ?_)
      | (refine WO.build (C := [_, _, _]) rfl ?_)
      | (refine WO.build (C := [_, _, _, _]) rfl ?_)
      | (refine WO.build (C := [_, _, _, _, _]) rfl ?_)
      | (refine WO.build (C := [_, _, _, _, _, _]) rfl ?_)
      | (refine WO.build (C := [_, _, _, _, _, _, _]) rfl ?_)
      | (refine WO.eqnil (by assumption) (fun hn1 hn2 => ?_) ?_)
      | (refine W.condT rfl ?_)
      | (refine W.condF rfl ?_)
      | (refine W.condDT rfl (by first | assumption | omega) ?_)
      | (refine W.condDF rfl (by first | assumption | omega) ?_)
      | (refine W.condD rfl (fun hc => ?_) (fun hc => ?_))
      | (refine WO.gS rfl (fun hc => ?_) (fun hc => ?_) <;> try (exfalso; omega))
      | (refine WO.pickS rfl (fun hc => ?_) (fun hc => ?_) <;> try (exfalso; omega))
      | (refine W.skip ?_)
      | (refine W.block ?_)
      | (refine W.drawA rfl ?_)
      | (refine W.sdrawA rfl ?_)
      | (refine And.intro rfl ?_)
      | (refine W.exit ?_)
      | (refine W.ret ?_)
      | (refine W.seq ?_)
      | (refine W.goto ?_)
      | (refine W.label ?_)
      | (refine SQ.nn ?_)
      | (refine SQ.x ?_)
      | (refine SQ.r ?_)
      | (refine SQ.g ?_)
      | (refine BQ.nn ?_)
      | (refine BQ.x ?_)
      | (refine BQ.r ?_)
      | (refine BQ.g ?_)
      | (refine BQ.y rfl ?_)
      | (refine LQ.x ?_)
      | (refine LQ.r ?_)
      | (refine LQ.g ?_)
      | (refine GQ.nn ?_)
      | (refine GQ.x ?_)
      | (refine GQ.r ?_)
      | (refine WO.call rfl (lives_FR _) ?_; rintro _ H1 ⟨rfl, g1⟩; have r1 := r.grows g1)
      | (refine WO.call rfl (kaa _) ?_; rintro _ H ⟨rfl, hH⟩; obtain rfl := hH.symm)
      | (refine WO.call rfl (kab _) ?_; rintro _ H ⟨rfl, hH⟩; obtain rfl := hH.symm)
      | (refine WO.call rfl (kba _) ?_; rintro _ H ⟨rfl, hH⟩; obtain rfl := hH.symm)
      | (refine WO.call rfl (kA _ r1) ?_; rintro a1 H2 o2; have r2 := r1.grows o2.g)
      | (refine WO.call rfl (kB _ r2) ?_; rintro a2 H3 o3)
      | (refine WO.call rfl (l17 _ a1 a2 _ (o2.row.grows o3.g) o3.row (by omega)) ?_; rintro _ H ⟨rfl, hH⟩; obtain rfl := hH.symm))
    all_goals first
      | exact ⟨rfl, g1⟩
      | exact ⟨congrArg (fun b : Bool => AV.s (.bool b)) (decide_eq_true (congrArg Int.ofNat hsz)), g1.trans (o2.g.trans o3.g)⟩
  · obtain ⟨rfl, hsz⟩ := hs rfl
    refine FR.of q7 (by kernel_rfl) ?_
    unfold c7
    repeat' (first
      | (refine WO.mvE l rfl ?_)
      | (refine WO.mvE a1 rfl ?_)
      | (refine WO.mvE a2 rfl ?_)
      | (refine LQ.fin ?_)
      | (refine EQ.fin rfl ?_)
      | (refine EQ.finN rfl ?_)
      | (refine WO.mvs rfl ?_)
      | (refine WO.mvp rfl ?_)
      | (refine WO.mvt rfl ?_)
      | (refine WO.mv ?_)
      | (refine W.sreg ?_)
      | (refine W.sdraw ?_)
      | (refine W.reg ?_)
      | (refine W.draw ?_)
      | (refine WO.nil ?_)
      | (refine WO.gU rfl ?_)
      | (refine WO.gT rfl rfl ?_)
      | (refine WO.gF rfl rfl ?_)
      | (refine WO.ext rfl rfl ?_)
      | (refine WO.lenR (by assumption) ?_)
      | (refine WO.add rfl rfl (by first | exact wrOK (by simp only [loK, hiK]; omega) | rfl) ?_)
      | (refine WO.sub rfl rfl (by first | exact wrOK (by simp only [loK, hiK]; omega) | rfl) ?_)
      | (refine WO.lss rfl rfl ?_)
      | (refine WO.leq rfl rfl ?_)
      | (refine WO.gtr rfl rfl ?_)
      | (refine WO.geq rfl rfl ?_)
      | (refine WO.eql rfl rfl ?_)
      | (refine WO.neq rfl rfl ?_)
      | (refine WO.seql rfl rfl ?_)
      | (refine WO.sneq rfl rfl ?_)
      | (refine WO.beql rfl rfl (tb rfl) ?_)
      | (refine WO.bneq rfl rfl (tb rfl) ?_)
      | (refine WO.not rfl ?_)
      | (refine WO.not0 rfl ?_)
      | (refine WO.cvi rfl (kd rfl) (kd rfl) (by first | exact wrOK (by simp only [loK, hiK]; omega) | rfl) ?_)
      | (refine WO.cvs rfl (st rfl) (st rfl) ?_)
      | (refine WO.ix rfl rfl (st rfl) (by first | assumption | omega) (by first | assumption | omega) ?_)
      | (refine WO.slen rfl (st rfl) ?_)
      | (refine WO.iaddr (by assumption) rfl rfl (by first | assumption | omega) (by first | assumption | omega) (fun q hq => ?_))
      | (refine WO.load (by assumption) rfl rfl ?_)
      | (refine WO.loadO rfl (by assumption) rfl rfl ?_)
      | (refine WO.faddrP (by assumption) rfl (fun q hq => ?_))
      | (refine WO.nilckP (by assumption) ?_)
      | (refine WO.nilck rfl ?_)
      | (refine WO.faddr rfl ?_)
      | (refine WO.fld rfl rfl rfl ?_)
      | (refine WO.pickT rfl ?_)
      | (refine WO.pickF rfl ?_)
      | (refine WO.sll rfl rfl (st rfl) (by first | assumption | omega) (by first | assumption | omega) ?_)
      | (refine WO.slh rfl rfl (st rfl) (by first | assumption | omega) (by first | assumption | omega) ?_)
      | (refine WO.slb rfl rfl rfl (st rfl) (by first | assumption | omega) (by first | assumption | omega) (by first | assumption | omega) ?_)
      | (refine WO.mul rfl rfl (by first | exact wrOK (by simp only [loK, hiK]; omega) | rfl) ?_)
      | (refine WO.quo rfl rfl (by first | assumption | omega) (by first | exact wrOK (by simp only [loK, hiK]; omega) | rfl) ?_)
      | (refine WO.rem rfl rfl (by first | assumption | omega) ?_)
      | (refine WO.and rfl rfl ?_)
      | (refine WO.or rfl rfl ?_)
      | (refine WO.xor rfl rfl ?_)
      | (refine WO.shl rfl rfl (by first | assumption | omega) (by simp [IntKind.bits]; rfl) ?_)
      | (refine WO.shr rfl rfl (by first | assumption | omega) (by simp [IntKind.bits]; rfl) ?_)
      | (refine WO.build (C := [_]) rfl ?_)
      | (refine WO.build (C := [_, _]) rfl ?_)
      | (refine WO.build (C := [_, _, _]) rfl ?_)
      | (refine WO.build (C := [_, _, _, _]) rfl ?_)
      | (refine WO.build (C := [_, _, _, _, _]) rfl ?_)
      | (refine WO.build (C := [_, _, _, _, _, _]) rfl ?_)
      | (refine WO.build (C := [_, _, _, _, _, _, _]) rfl ?_)
      | (refine WO.eqnil (by assumption) (fun hn1 hn2 => ?_) ?_)
      | (refine W.condT rfl ?_)
      | (refine W.condF rfl ?_)
      | (refine W.condDT rfl (by first | assumption | omega) ?_)
      | (refine W.condDF rfl (by first | assumption | omega) ?_)
      | (refine W.condD rfl (fun hc => ?_) (fun hc => ?_))
      | (refine WO.gS rfl (fun hc => ?_) (fun hc => ?_) <;> try (exfalso; omega))
      | (refine WO.pickS rfl (fun hc => ?_) (fun hc => ?_) <;> try (exfalso; omega))
      | (refine W.skip ?_)
      | (refine W.block ?_)
      | (refine W.drawA rfl ?_)
      | (refine W.sdrawA rfl ?_)
      | (refine And.intro rfl ?_)
      | (refine W.exit ?_)
      | (refine W.ret ?_)
      | (refine W.seq ?_)
      | (refine W.goto ?_)
      | (refine W.label ?_)
      | (refine SQ.nn ?_)
      | (refine SQ.x ?_)
      | (refine SQ.r ?_)
      | (refine SQ.g ?_)
      | (refine BQ.nn ?_)
      | (refine BQ.x ?_)
      | (refine BQ.r ?_)
      | (refine BQ.g ?_)
      | (refine BQ.y rfl ?_)
      | (refine LQ.x ?_)
      | (refine LQ.r ?_)
      | (refine LQ.g ?_)
      | (refine GQ.nn ?_)
      | (refine GQ.x ?_)
      | (refine GQ.r ?_)
      | (refine WO.call rfl (lives_FR _) ?_; rintro _ H1 ⟨rfl, g1⟩; have r1 := r.grows g1)
      | (refine WO.call rfl (kaa _) ?_; rintro _ H ⟨rfl, hH⟩; obtain rfl := hH.symm)
      | (refine WO.call rfl (kab _) ?_; rintro _ H ⟨rfl, hH⟩; obtain rfl := hH.symm)
      | (refine WO.call rfl (kba _) ?_; rintro _ H ⟨rfl, hH⟩; obtain rfl := hH.symm)
      | (refine WO.call rfl (kA _ r1) ?_; rintro a1 H2 o2; have r2 := r1.grows o2.g)
      | (refine WO.call rfl (kB _ r2) ?_; rintro a2 H3 o3)
      | (refine WO.call rfl (l17 _ a1 a2 _ (o2.row.grows o3.g) o3.row (by omega)) ?_; rintro _ H ⟨rfl, hH⟩; obtain rfl := hH.symm))
    all_goals first
      | exact ⟨rfl, g1⟩
      | exact ⟨congrArg (fun b : Bool => AV.s (.bool b)) (decide_eq_true (congrArg Int.ofNat hsz)), g1.trans (o2.g.trans o3.g)⟩
end Go.Proofs.YtdgnddidibpilaaDoor.AS
end
section
set_option autoImplicit false
set_option linter.unusedVariables false
namespace Go.Proofs.YtdgnddidibpilaaDoor.AS
open Go Go.RowKit
/-! What a row's list of variables gives: their cells. -/
mutual
def flatD {H : Type} : DataW H → List Value
  | .lit (.int k z) => [.int k z]
  | .lit (.bool b) => [.bool b]
  | .lit (.string l) => [.string ⟨l.toArray⟩]
  | .agg ds => flatDs ds
  | _ => []
def flatDs {H : Type} : List (DataW H) → List Value
  | [] => []
  | d :: ds => flatD d ++ flatDs ds
end
/-- Pieces that stand one behind the other. -/
def Contig {ι : Type} (off len : ι → Nat) : List ι → Nat → Nat → Prop
  | [], o, n => o = n
  | i :: l, o, n => off i = o ∧ Contig off len l (o + len i) n
theorem Contig.le {ι : Type} {off len : ι → Nat} : ∀ {l : List ι} {o n : Nat}, Contig off len l o n → o ≤ n
  | [], _, _, h => Nat.le_of_eq h
  | _ :: _, _, _, h => Nat.le_trans (Nat.le_add_right _ _) (Contig.le h.2)
theorem contig_range (c : Nat) : ∀ (m s : Nat), Contig (fun i => i * c) (fun _ => c) (List.range' s m) (s * c) ((s + m) * c)
  | 0, s => by show s * c = (s + 0) * c; simp
  | m + 1, s => by
    rw [List.range'_succ]
    refine ⟨rfl, ?_⟩
    have := contig_range c m (s + 1)
    rw [show (s + 1) * c = s * c + c from by rw [Nat.add_mul, Nat.one_mul], show s + 1 + m = s + (m + 1) by omega] at this
    exact this
theorem pieces {ι H α : Type} {off len : ι → Nat} {f : ι → Option (DataW H × α)} {cs : List Value} :
    ∀ (l : List ι) (o n : Nat) (xs : List (DataW H × α)), Contig off len l o n → l.mapM f = some xs → (∀ i ∈ l, ∀ b, f i = some b → (cs.drop (off i)).take (len i) = flatD b.1) →
      (cs.drop o).take (n - o) = flatDs (xs.map (·.1))
  | [], o, n, xs, hc, hm, _ => by
    simp only [List.mapM_nil] at hm
    obtain rfl : xs = [] := by cases hm; rfl
    have : o = n := hc
    subst this
    simp [flatDs]
  | i :: l, o, n, xs, hc, hm, hf => by
    simp only [List.mapM_cons, Option.bind_eq_bind, Option.bind_eq_some_iff, Option.pure_def, Option.some.injEq] at hm
    obtain ⟨b, hb, r', hr', rfl⟩ := hm
    obtain ⟨ho, hc2⟩ := hc
    have ih := pieces l _ n r' hc2 hr' (fun j hj => hf j (List.mem_cons_of_mem _ hj))
    have hle := hc2.le
    have hi := hf i List.mem_cons_self b hb
    rw [ho] at hi
    rw [List.map_cons, flatDs, ← hi, ← ih, show n - o = len i + (n - (o + len i)) by omega, List.take_add, List.drop_drop]
def offs (P : Program) : List Field → Nat → Nat → Bool
  | [], o, n => o == n
  | f :: fs, o, n => f.offset == o && offs P fs (o + P.cellsOf f.type) n
theorem offs_contig {P : Program} : ∀ {fs : List Field} {o n : Nat}, offs P fs o n = true → Contig (fun f : Field => f.offset) (fun f => P.cellsOf f.type) fs o n
  | [], o, n, h => by
    have h : (o == n) = true := h
    have h : o = n := by simpa using h
    exact h
  | f :: fs, o, n, h => by
    simp only [offs, Bool.and_eq_true, beq_iff_eq] at h
    exact ⟨h.1, offs_contig h.2⟩
/-- Types of numbers, bools and texts alone. -/
def plainT (P : Program) : Nat → TypeId → Bool
  | 0, _ => false
  | k + 1, t => match P.underlying t with
    | some (.int _) => true
    | some .string => true
    | some .bool => true
    | some (.array n e) => plainT P k e && P.cellsOf t == n * P.cellsOf e
    | some (.struct fs) => fs.toList.all (fun f => plainT P k f.type) && offs P fs.toList 0 (P.cellsOf t)
    | _ => false
theorem flat_of {H : Type} {enc : TypeId × Value → H} {P : Program} {w : World} {base : Nat} {sp : Nat → Bool} {held : Bool} :
    ∀ (k fuel : Nat) (t : TypeId) (cs : List Value) (d : DataW H) (p : List MemPlace), plainT P k t = true → DataW.trod enc P w base sp held fuel t cs = some (d, p) → cs = flatD d
  | 0, _, _, _, _, _, h, _ => by cases h
  | k + 1, 0, _, _, _, _, _, h => by simp [DataW.trod] at h
  | k + 1, fuel + 1, t, cs, d, p, hp, h => by
    unfold plainT at hp
    split at hp
    · rename_i kk ht
      obtain ⟨z, hc, he, _⟩ := DataW.trod_int ht h
      cases he
      rw [hc]; rfl
    · rename_i ht
      simp only [DataW.trod, ht] at h
      split at h
      all_goals (try (rename_i hu; cases hu))
      all_goals (try (split at h))
      all_goals (try cases h)
      all_goals (try rfl)
      all_goals (try (rename_i hu _ _; cases hu))
    · rename_i ht
      simp only [DataW.trod, ht] at h
      split at h
      all_goals (try (rename_i hu; cases hu))
      all_goals (try cases h)
      all_goals (try rfl)
    · rename_i n e ht
      simp only [Bool.and_eq_true, beq_iff_eq] at hp
      simp only [DataW.trod, ht] at h
      split at h
      · rename_i hl
        obtain ⟨xs, hm, hx⟩ := Option.map_eq_some_iff.1 h
        cases hx
        rw [List.range_eq_range'] at hm
        have c := contig_range (P.cellsOf e) n 0
        rw [Nat.zero_mul, Nat.zero_add] at c
        have := pieces _ _ _ xs c hm (fun i _ b hb => flat_of k fuel e _ b.1 b.2 hp.1 hb)
        rw [List.drop_zero, Nat.sub_zero, List.take_of_length_le (by rw [hl, hp.2]; exact Nat.le_refl _)] at this
        exact this
      · cases h
    · rename_i fs ht
      simp only [Bool.and_eq_true] at hp
      simp only [DataW.trod, ht] at h
      split at h
      · rename_i hl
        obtain ⟨xs, hm, hx⟩ := Option.map_eq_some_iff.1 h
        cases hx
        have := pieces _ _ _ xs (offs_contig hp.2) hm (fun f hf b hb => flat_of k fuel f.type _ b.1 b.2 (List.all_eq_true.1 hp.1 f hf) hb)
        rw [List.drop_zero, Nat.sub_zero, List.take_of_length_le (by rw [hl]; exact Nat.le_refl _)] at this
        exact this
      · cases h
    · cases hp
theorem laid_cells {P : Program} {W : World} : ∀ {laid : List (String × DataW Unit)} {ps : List MemPlace}, DataW.LaidVars P W laid ps → ∀ n d, (n, d) ∈ laid → ∀ g t, P.globalNamed n = some g → (P.globals[g]?).map (·.type) = some t → plainT P 8 t = true →
      ∀ j v, (flatD d)[j]? = some v → W.cell? ⟨g, j, none⟩ = some v
  | [], _, _, n, d, hm, _, _, _, _, _, _, _, _ => by cases hm
  | (n', d') :: r, ps, h, n, d, hm, g, t, hg, ht, hp, j, v, hj => by
    obtain ⟨g', t', cs, fuel, p, q, hg', ht', hvar, hd, hr, _⟩ := h
    rcases List.mem_cons.1 hm with hm | hm
    · cases hm
      obtain rfl := Option.some.inj (hg.symm.trans hg')
      obtain rfl := Option.some.inj (ht.symm.trans ht')
      rw [World.var?_cell hg hvar, ← hj, ← flat_of _ _ _ _ _ _ hp hd, Array.getElem?_toList]
    · exact laid_cells hr n d hm g t hg ht hp j v hj
theorem cell_lt {W : World} {g j : Nat} {v : Value} (h : W.cell? ⟨g, j, none⟩ = some v) : g < W.heap.size := by
  rcases Nat.lt_or_ge g W.heap.size with h1 | h1
  · exact h1
  · simp [World.cell?, Array.getElem?_eq_none h1] at h
end Go.Proofs.YtdgnddidibpilaaDoor.AS
end
section
set_option maxRecDepth 100000
set_option linter.unusedVariables false
namespace Go.Proofs.YtdgnddidibpilaaDoor.AS
open Go Go.Proofs Go.RowKit Go.Proofs.YtdgnddidibpilaaDoor
theorem gF : globC Tryd.prog 1 = some (tabFirst.map (.int .u8)) := by kernel_rfl
theorem gA : globC Tryd.prog 2 = some (tabAcc.map (.int .u8)) := by kernel_rfl
theorem gn1 : Tryd.prog.globalNamed "unicode/utf8.first" = some 1 := by kernel_rfl
theorem gn2 : Tryd.prog.globalNamed "unicode/utf8.acceptRanges" = some 2 := by kernel_rfl
noncomputable def gt (g : Nat) : Nat := ((Tryd.prog.globals[g]?).map (·.type)).getD 0
theorem gt1 : (Tryd.prog.globals[1]?).map (·.type) = some (gt 1) := by kernel_rfl
theorem gt2 : (Tryd.prog.globals[2]?).map (·.type) = some (gt 2) := by kernel_rfl
theorem pl1 : plainT Tryd.prog 8 (gt 1) = true := by kernel_rfl
theorem pl2 : plainT Tryd.prog 8 (gt 2) = true := by kernel_rfl
theorem fl1 : flatD Rows.laid_unicode_utf8_first = tabFirst.map (.int .u8) := by kernel_rfl
theorem fl2 : flatD (Rows.laid_unicode_utf8_acceptRanges (H := Unit)) = tabAcc.map (.int .u8) := by kernel_rfl
theorem gsz : Tryd.prog.globals.size = 3 := by kernel_rfl
theorem gM : globC Tryd.prog 0 = none := by kernel_rfl
/-- What the row's list gives. -/
theorem laid8 {W : World} (h : laidMetH Tryd.prog [("unicode/utf8.acceptRanges", Rows.laid_unicode_utf8_acceptRanges), ("unicode/utf8.first", Rows.laid_unicode_utf8_first)] W) : Laid Tryd.prog W.heap.size W := by
  have h : laidMet Tryd.prog [("unicode/utf8.acceptRanges", Rows.laid_unicode_utf8_acceptRanges), ("unicode/utf8.first", Rows.laid_unicode_utf8_first)] W := h
  obtain ⟨ps, hv, _⟩ := h
  have a1 := laid_cells hv "unicode/utf8.first" _ (.tail _ (.head _)) 1 _ gn1 gt1 pl1
  have a2 := laid_cells hv "unicode/utf8.acceptRanges" _ (.head _) 2 _ gn2 gt2 pl2
  rw [fl1] at a1
  rw [fl2] at a2
  intro g C hC
  have hg : g = 0 ∨ g = 1 ∨ g = 2 ∨ 3 ≤ g := by omega
  rcases hg with rfl | rfl | rfl | hg
  · rw [gM] at hC; cases hC
  · obtain rfl := Option.some.inj (gF.symm.trans hC)
    exact ⟨cell_lt (a1 0 _ rfl), a1⟩
  · obtain rfl := Option.some.inj (gA.symm.trans hC)
    exact ⟨cell_lt (a2 0 _ rfl), a2⟩
  · unfold globC at hC
    rw [Array.getElem?_eq_none (by rw [gsz]; exact hg)] at hC
    cases hC
end Go.Proofs.YtdgnddidibpilaaDoor.AS
end
section
set_option autoImplicit false
namespace Go.Proofs.YtdgnddidibpilaaDoor.AS
open Go Go.RowKit Go.ChangeShapes Go.WideShapes

/-- An argument's memory as a block of the abstract heap, to be read alone. -/
theorem HR.arg {P : Program} {W : World} {ρ : PM} {h : Heap} (H : HR P W.heap.size W ρ h W) (B off : Nat) (e : TypeId) (sz : Nat) (l : List AV) (hB : B < W.heap.size)
    (hl : ∀ (j : Nat) (x : AV), l[j]? = some x → ∃ v, W.cell? ⟨B, off + j, none⟩ = some v ∧ RV ρ W x v) :
    HR P W.heap.size W (upd ρ h.length 0 ⟨B, off, e, sz, false⟩) (h ++ [⟨0, e, sz, false, l⟩]) W ∧ Ext ρ (upd ρ h.length 0 ⟨B, off, e, sz, false⟩) := by
  have hx : Ext ρ (upd ρ h.length 0 ⟨B, off, e, sz, false⟩) := upd_ext _ (H.fresh _ _ (Nat.le_refl _))
  refine ⟨⟨H.below, H.hbase, ?_, ?_, ?_, H.gl⟩, hx⟩
  · intro b ver hlen
    simp only [List.length_append, List.length_cons, List.length_nil] at hlen
    unfold upd
    rw [if_neg (by omega)]
    exact H.fresh _ _ (by omega)
  · intro b k hbk
    rcases Nat.lt_or_ge b h.length with hlt | hge
    · rw [List.getElem?_append_left hlt] at hbk
      obtain ⟨p, h1, h2, h3, h4, h5, h6, h7, h8⟩ := H.blk b k hbk
      refine ⟨p, hx _ _ _ h1, ?_, h3, h4, h5, h6, fun j x hj => ?_, h8⟩
      · intro v hv
        unfold upd
        rw [if_neg (by omega)]
        exact h2 v hv
      · obtain ⟨v, hv, hr⟩ := h7 j x hj
        exact ⟨v, hv, RV_mono hx (Keep.refl _) _ _ hr⟩
    · have hbe : b = h.length := by
        have := (List.getElem?_eq_some_iff.1 hbk).1
        simp at this
        omega
      subst hbe
      simp at hbk
      subst hbk
      refine ⟨⟨B, off, e, sz, false⟩, upd_same _ _ _ _, ?_, rfl, rfl, rfl, hB, ?_, fun h => by cases h⟩
      · intro v hv
        unfold upd
        rw [if_neg (by simp at hv; omega)]
        exact H.fresh _ _ (Nat.le_refl _)
      · intro j x hj
        obtain ⟨v, hv, hr⟩ := hl j x hj
        exact ⟨v, hv, RV_mono hx (Keep.refl _) _ _ hr⟩
  · intro b b' k k' p p' hbk hbk' hp hp' hrw heq
    have lt_old : ∀ b k p, h[b]? = some k → ρ b k.ver = some p → k.rw = true → W.heap.size ≤ p.blk := by
      intro b k p hb hp hr
      obtain ⟨q, h1, _, _, _, _, _, _, h8⟩ := H.blk b k hb
      rw [hp] at h1; cases h1; exact (h8 hr).1
    rcases Nat.lt_or_ge b h.length with hlt | hge
    · rw [List.getElem?_append_left hlt] at hbk
      unfold upd at hp
      rw [if_neg (by omega)] at hp
      rcases Nat.lt_or_ge b' h.length with hlt' | hge'
      · rw [List.getElem?_append_left hlt'] at hbk'
        unfold upd at hp'
        rw [if_neg (by omega)] at hp'
        exact H.inj b b' k k' p p' hbk hbk' hp hp' hrw heq
      · have hbe : b' = h.length := by
          have := (List.getElem?_eq_some_iff.1 hbk').1
          simp at this
          omega
        subst hbe
        simp at hbk'
        subst hbk'
        rw [upd_same] at hp'
        cases hp'
        have := lt_old b k p hbk hp hrw
        simp only at heq
        omega
    · have hbe : b = h.length := by
        have := (List.getElem?_eq_some_iff.1 hbk).1
        simp at this
        omega
      subst hbe
      simp at hbk
      subst hbk
      cases hrw

/-- Values of a type without memory behind them: their cells, and what is known of them. -/
structure Flat (P : Program) (t : TypeId) (α : Type) (bulk : (H : Type) → DataW H → Nat) where
  cells : α → List Value
  sz : Nat
  size : α → Nat
  wf : α → Prop
  len : ∀ a, (cells a).length = sz
  cellsOf : P.cellsOf t = sz
  opens : ∀ (H : Type) (enc : TypeId × Value → H) (W : World) (fuel : Nat) (cs : List Value) (x : DataW H × List MemPlace), DataW.trod enc P W 0 (fun _ => true) true fuel t cs = some x → ∃ a, cs = cells a ∧ size a ≤ bulk H x.1 ∧ wf a
def sizes {α : Type} (size : α → Nat) : List α → Nat
  | [] => 0
  | a :: l => size a + sizes size l
theorem sizes_append {α : Type} (size : α → Nat) (l r : List α) : sizes size (l ++ r) = sizes size l + sizes size r := by
  induction l with
  | nil => simp [sizes]
  | cons a l ih => simp only [List.cons_append, sizes, ih]; omega
theorem flat_len {α : Type} {cells : α → List Value} {sz : Nat} (h : ∀ a, (cells a).length = sz) : ∀ l : List α, (l.flatMap cells).length = l.length * sz
  | [] => by simp
  | a :: l => by rw [List.flatMap_cons, List.length_append, h, flat_len h l, List.length_cons, Nat.succ_mul]; omega
/-- A slice of such values. -/
theorem open_flat {P : Program} {bulk : (H : Type) → DataW H → Nat} {bulks : (H : Type) → List (DataW H) → Nat} (hb0 : ∀ H, bulks H [] = 0) (hb1 : ∀ H d l, bulks H (d :: l) = bulk H d + bulks H l) (hb2 : ∀ H e s, bulks H e + 1 ≤ bulk H (.slice e s))
    {t e : TypeId} {α : Type} (F : Flat P e α bulk) (hu : P.underlying t = some (.slice e)) {H : Type} {enc : TypeId × Value → H} {W : World} {a : Option Addr} {len cap : Nat} {D : DataW H} {ps : List MemPlace}
    (hD : DataW.Trod enc P W 0 (fun _ => true) true t (.slice a len cap) D ps) :
    ∃ l : List α, len = l.length ∧ len ≤ cap ∧ cap ≤ maxLen ∧ (a = none → len = 0 ∧ cap = 0) ∧ (∀ x, a = some x → ∀ j v, (l.flatMap F.cells)[j]? = some v → W.cell? (x.add j) = some v) ∧ sizes F.size l ≤ bulk H D ∧ ∀ y ∈ l, F.wf y := by
  obtain ⟨fuel, hf⟩ := hD
  rcases DataW.trod_slice hu hf with ⟨hcs, hx⟩ | ⟨x, len', cap', elems, rest, n, rfl, hcs, hx, hb, hl, hm, hlen, hel, hsp, hns⟩
  · simp [Value.cells] at hcs
    obtain ⟨rfl, rfl, rfl⟩ := hcs
    exact ⟨[], rfl, Nat.le_refl _, by simp [maxLen], fun _ => ⟨rfl, rfl⟩, fun x hx => (by cases hx), by simp [sizes], by simp⟩
  · simp [Value.cells] at hcs
    obtain ⟨rfl, rfl, rfl⟩ := hcs
    cases hx
    have key : ∀ m, m ≤ len → ∃ l : List α, l.length = m ∧ (∀ j v, (l.flatMap F.cells)[j]? = some v → W.cell? (x.add j) = some v) ∧ sizes F.size l ≤ bulks H ((elems.take m).map (·.1)) ∧ ∀ y ∈ l, F.wf y := by
      intro m
      induction m with
      | zero => intro _; exact ⟨[], rfl, by simp, by simp [sizes], by simp⟩
      | succ m ih =>
        intro hm'
        obtain ⟨l, hl1, hl2, hl3, hl4⟩ := ih (by omega)
        have hlt : m < elems.length := by omega
        have he := hel m (by omega)
        rw [List.getElem?_eq_getElem hlt, Option.bind_eq_some_iff] at he
        obtain ⟨c, hcs, htr⟩ := he
        obtain ⟨p, hK, hbk, hwf⟩ := F.opens H enc W n c _ htr
        refine ⟨l ++ [p], by simp [hl1], ?_, ?_, ?_⟩
        · intro j v hj
          have hfl := flat_len F.len l
          rw [List.flatMap_append] at hj
          rcases Nat.lt_or_ge j (l.flatMap F.cells).length with hjl | hjl
          · rw [List.getElem?_append_left hjl] at hj
            exact hl2 j v hj
          · rw [List.getElem?_append_right hjl] at hj
            obtain ⟨_, hcl, hce⟩ := World.cells?_some hcs
            simp only [List.flatMap_cons, List.flatMap_nil, List.append_nil] at hj
            rw [← hK] at hj
            have hlt2 : j - (l.flatMap F.cells).length < P.cellsOf e := by rw [← hcl]; exact (List.getElem?_eq_some_iff.1 hj).1
            have := hce _ hlt2
            rw [hj, Addr.add_add, F.cellsOf, hfl, hl1] at this
            rw [hfl, hl1] at hjl
            rw [show m * F.sz + (j - m * F.sz) = j by omega] at this
            exact this
        · rw [List.take_succ_eq_append_getElem hlt, List.map_append, sizes_append]
          have happ : ∀ a b : List (DataW H), bulks H (a ++ b) = bulks H a + bulks H b := by
            intro a b
            induction a with
            | nil => simp [hb0]
            | cons d a ih => simp only [List.cons_append, hb1, ih]; omega
          rw [happ]
          simp only [sizes, List.map_cons, List.map_nil, hb1, hb0]
          omega
        · intro y hy
          rcases List.mem_append.1 hy with h | h
          · exact hl4 y h
          · simp at h; subst h; exact hwf
    obtain ⟨l, hl1, hl2, hl3, hl4⟩ := key len (Nat.le_refl _)
    refine ⟨l, hl1.symm, hl, hm, fun h => (by cases h), fun y hy => ?_, ?_, hl4⟩
    · cases hy; exact hl2
    · rw [List.take_of_length_le (by omega)] at hl3
      exact Nat.le_trans hl3 (Nat.le_trans (Nat.le_succ _) (hb2 H _ _))
/-- A slice's place. -/
theorem okWide_place {P : Program} {t e : TypeId} {W : World} {r : Reach} {base : Nat} {x : Addr} {len cap : Nat} (hu : P.underlying t = some (.slice e)) (h : Value.okWide P W r base t (.slice (some x) len cap)) : ∃ B off, x = ⟨B, off, none⟩ ∧ B < W.heap.size := by
  simp only [Value.okWide, hu, Cell.okWide, Cell.ok, World.has] at h
  obtain ⟨_, _, _, hs, row, cells, hsh, _⟩ := h
  obtain ⟨B, off, spot⟩ := x
  simp only at hs hsh
  subst hs
  refine ⟨B, off, rfl, ?_⟩
  rcases Nat.lt_or_ge B W.heap.size with h | h
  · exact h
  · simp [World.shape?, Array.getElem?_eq_none h] at hsh
/-- An argument that is a slice, in the abstract heap. -/
theorem slice_arg {P : Program} {W : World} {ρ : PM} {h : Heap} (H : HR P W.heap.size W ρ h W) {t e : TypeId} {sz : Nat} {l : List Value} {a : Option Addr} {len cap : Nat} {r : Reach} {base : Nat} (hu : P.underlying t = some (.slice e)) (hok : Value.okWide P W r base t (.slice a len cap))
    (hl : len ≤ cap) (h0 : a = none → len = 0 ∧ cap = 0) (hc : ∀ x, a = some x → ∀ j v, l[j]? = some v → W.cell? (x.add j) = some v) :
    ∃ ρ' x bs, HR P W.heap.size W ρ' (h ++ bs) W ∧ Ext ρ ρ' ∧ RV ρ' W x (.slice a len cap) ∧ ((x = .s (.slice none 0 0) ∧ bs = [] ∧ len = 0) ∨ (x = .sl h.length 0 0 len sz ∧ bs = [⟨0, e, sz, false, l.map .s⟩])) := by
  cases a with
  | none =>
    obtain ⟨rfl, rfl⟩ := h0 rfl
    exact ⟨ρ, .s (.slice none 0 0), [], by simpa using H, Ext.refl _, rfl, Or.inl ⟨rfl, rfl, rfl⟩⟩
  | some x =>
    obtain ⟨B, off, rfl, hB⟩ := okWide_place hu hok
    obtain ⟨H', hx⟩ := H.arg B off e sz (l.map .s) hB (by
      intro j x hj
      rw [List.getElem?_map, Option.map_eq_some_iff] at hj
      obtain ⟨v, hv, rfl⟩ := hj
      refine ⟨v, ?_, rfl⟩
      have := hc _ rfl j v hv
      unfold Addr.add at this
      split at this
      · rename_i h0; subst h0; exact this
      · exact this)
    refine ⟨_, .sl h.length 0 0 len sz, _, H', hx, ⟨_, cap, _, ⟨upd_same _ _ _ _, rfl⟩, rfl, hl, Or.inr rfl, fun h => by cases h⟩, Or.inr ⟨rfl, rfl⟩⟩
/-- A slice's reading has as many elements. -/
theorem slice_len {P : Program} {t e : TypeId} (hu : P.underlying t = some (.slice e)) {H : Type} {enc : TypeId × Value → H} {W : World} {a : Option Addr} {len cap : Nat} {D : DataW H} {ps : List MemPlace}
    (hD : DataW.Trod enc P W 0 (fun _ => true) true t (.slice a len cap) D ps) : len = 0 ∨ ∃ el sp, D = .slice el sp ∧ el.length = len := by
  obtain ⟨fuel, hf⟩ := hD
  rcases DataW.trod_slice hu hf with ⟨hcs, hx⟩ | ⟨x, len', cap', elems, rest, n, rfl, hcs, hx, hb, hl, hm, hlen, hel, hsp, hns⟩
  · simp [Value.cells] at hcs
    exact .inl hcs.2.1
  · simp [Value.cells] at hcs
    obtain ⟨rfl, rfl, rfl⟩ := hcs
    cases hx
    exact .inr ⟨_, _, rfl, by simp [hlen]⟩
end Go.Proofs.YtdgnddidibpilaaDoor.AS
end
section
set_option autoImplicit false
set_option linter.unusedVariables false
set_option linter.unusedSimpArgs false
namespace Go.Proofs.YtdgnddidibpilaaDoor.AS
open Go Go.RowKit
/-- A slice of values: each is one that its reading tells. -/
theorem open_flatR {P : Program} {t e : TypeId} {α : Type} (F : Flat P e α (fun _ _ => 0)) {H : Type} (R : α → DataW H → Prop) (hu : P.underlying t = some (.slice e)) {enc : TypeId × Value → H} {W : World} {a : Option Addr} {len cap : Nat} {D : DataW H} {ps : List MemPlace}
    (hR : ∀ (fuel : Nat) (cs : List Value) (x : DataW H × List MemPlace), DataW.trod enc P W 0 (fun _ => true) true fuel e cs = some x → ∃ a, cs = F.cells a ∧ R a x.1)
    (hD : DataW.Trod enc P W 0 (fun _ => true) true t (.slice a len cap) D ps) :
    ∃ l : List α, len = l.length ∧ len ≤ cap ∧ cap ≤ maxLen ∧ (a = none → len = 0 ∧ cap = 0) ∧ (∀ x, a = some x → ∀ j v, (l.flatMap F.cells)[j]? = some v → W.cell? (x.add j) = some v) ∧ ∀ y ∈ l, ∃ el sp, D = .slice el sp ∧ ∃ d ∈ el, R y d := by
  obtain ⟨fuel, hf⟩ := hD
  rcases DataW.trod_slice hu hf with ⟨hcs, hx⟩ | ⟨x, len', cap', elems, rest, n, rfl, hcs, hx, hb, hl, hm, hlen, hel, hsp, hns⟩
  · simp [Value.cells] at hcs
    obtain ⟨rfl, rfl, rfl⟩ := hcs
    exact ⟨[], rfl, Nat.le_refl _, by simp [maxLen], fun _ => ⟨rfl, rfl⟩, fun x hx => (by cases hx), by simp⟩
  · simp [Value.cells] at hcs
    obtain ⟨rfl, rfl, rfl⟩ := hcs
    cases hx
    have key : ∀ m, m ≤ len → ∃ l : List α, l.length = m ∧ (∀ j v, (l.flatMap F.cells)[j]? = some v → W.cell? (x.add j) = some v) ∧ ∀ y ∈ l, ∃ d ∈ elems.map (·.1), R y d := by
      intro m
      induction m with
      | zero => intro _; exact ⟨[], rfl, by simp, by simp⟩
      | succ m ih =>
        intro hm'
        obtain ⟨l, hl1, hl2, hl4⟩ := ih (by omega)
        have hlt : m < elems.length := by omega
        have he := hel m (by omega)
        rw [List.getElem?_eq_getElem hlt, Option.bind_eq_some_iff] at he
        obtain ⟨c, hcs, htr⟩ := he
        obtain ⟨p, hK, hr⟩ := hR n c _ htr
        refine ⟨l ++ [p], by simp [hl1], ?_, ?_⟩
        · intro j v hj
          have hfl := flat_len F.len l
          rw [List.flatMap_append] at hj
          rcases Nat.lt_or_ge j (l.flatMap F.cells).length with hjl | hjl
          · rw [List.getElem?_append_left hjl] at hj
            exact hl2 j v hj
          · rw [List.getElem?_append_right hjl] at hj
            obtain ⟨_, hcl, hce⟩ := World.cells?_some hcs
            simp only [List.flatMap_cons, List.flatMap_nil, List.append_nil] at hj
            rw [← hK] at hj
            have hlt2 : j - (l.flatMap F.cells).length < P.cellsOf e := by rw [← hcl]; exact (List.getElem?_eq_some_iff.1 hj).1
            have := hce _ hlt2
            rw [hj, Addr.add_add, F.cellsOf, hfl, hl1] at this
            rw [hfl, hl1] at hjl
            rw [show m * F.sz + (j - m * F.sz) = j by omega] at this
            exact this
        · intro y hy
          rcases List.mem_append.1 hy with h | h
          · exact hl4 y h
          · simp at h; subst h
            exact ⟨elems[m].1, List.mem_map_of_mem (List.getElem_mem hlt), hr⟩
    obtain ⟨l, hl1, hl2, hl4⟩ := key len (Nat.le_refl _)
    refine ⟨l, hl1.symm, hl, hm, fun h => (by cases h), fun y hy => ?_, fun y hy => ?_⟩
    · cases hy; exact hl2
    · obtain ⟨d, hd, hr⟩ := hl4 y hy
      exact ⟨_, _, rfl, d, hd, hr⟩
theorem weightsAll_mem {H : Type} {P : Program} {e : TypeId} : ∀ {l : List (DataW H)} {d : DataW H} {n : Nat}, d ∈ l → n ∈ d.weights P e → n ∈ DataW.weightsAll P e l
  | x :: l, d, n, hd, hn => by
    simp only [DataW.weightsAll, List.mem_append]
    rcases List.mem_cons.1 hd with rfl | hd
    · exact .inl hn
    · exact .inr (weightsAll_mem hd hn)
end Go.Proofs.YtdgnddidibpilaaDoor.AS
end
section
set_option autoImplicit false
set_option linter.unusedVariables false
set_option linter.unusedSimpArgs false
namespace Go.Proofs.YtdgnddidibpilaaDoor.AS
open Go Go.Proofs Go.RowKit Go.WideShapes Go.ChangeShapes Go.ChangeAt
/-- How a field reads. -/
def fldR {H : Type} (y : Fd) (d : DataW H) : Prop := d = .agg [.lit (.string y.1.data.toList), .lit (.string y.2.data.toList)]
theorem fld_open {H : Type} {enc : TypeId × Value → H} {W : World} {fuel : Nat} {cs : List Value} {x : DataW H × List MemPlace} (h : DataW.trod enc Tryd.prog W 0 (fun _ => true) true fuel 41 cs = some x) : ∃ a : Fd, cs = [.string a.1, .string a.2] ∧ fldR a x.1 := by
  obtain ⟨y0, y1, n, rfl, hl, h0, h1⟩ := trod_struct2 Tryd.underlying41 h
  have hs : Tryd.prog.cellsOf 41 = 2 := by kernel_rfl
  have hs1 : Tryd.prog.cellsOf 9 = 1 := by kernel_rfl
  rw [hs] at hl
  rw [hs1] at h0 h1
  match cs, hl with
  | [u, v], _ =>
    obtain ⟨k, hk1, rfl, hk2⟩ := DataW.trod_string Tryd.underlying9 h0
    obtain ⟨s, hs1, rfl, hs2⟩ := DataW.trod_string Tryd.underlying9 h1
    simp at hk1 hs1
    subst hk1 hs1
    exact ⟨(k, s), rfl, rfl⟩
theorem fld_sized {H : Type} {E : List Fd} {D : DataW H} {ts : List TypeId} {ds : List (DataW H)} (h : (DataW.weightsEach Tryd.prog ts ds).all (· ≤ reachBytes) = true) {j : Nat} (ht : ts[j]? = some 22) (hd : ds[j]? = some D) (hel : ∀ y ∈ E, ∃ el sp, D = .slice el sp ∧ ∃ d ∈ el, fldR y d) : szF E := szF_of fun f hf => by
  obtain ⟨el, sp, rfl, d, hd', rfl⟩ := hel f hf
  have h1 := fun n hn => List.all_eq_true.1 h n (DataW.weights_mem_each ht hd n hn)
  have h2 : ∀ n ∈ (DataW.agg [DataW.lit (H := H) (.string f.1.data.toList), .lit (.string f.2.data.toList)]).weights Tryd.prog 41, n ∈ (DataW.slice el sp).weights Tryd.prog 22 := fun n hn => by
    simp only [DataW.weights, Tryd.underlying22]
    exact .tail _ (List.mem_append_left _ (weightsAll_mem hd' hn))
  have h3 : (DataW.agg [DataW.lit (H := H) (.string f.1.data.toList), .lit (.string f.2.data.toList)]).weights Tryd.prog 41 = [f.1.data.toList.length, f.2.data.toList.length] := by
    simp [DataW.weights, Tryd.underlying41, DataW.weightsEach]
  rw [h3] at h2
  have e1 := h1 _ (h2 _ (.head _))
  have e2 := h1 _ (h2 _ (.tail _ (.head _)))
  have hrb : reachBytes = 140737488351232 := rfl
  rw [hrb] at e1 e2
  have q1 := of_decide_eq_true e1
  have q2 := of_decide_eq_true e2
  rw [Array.length_toList] at q1 q2
  have w1 : f.1.size = f.1.data.size := rfl
  have w2 : f.2.size = f.2.data.size := rfl
  omega
end Go.Proofs.YtdgnddidibpilaaDoor.AS
end
