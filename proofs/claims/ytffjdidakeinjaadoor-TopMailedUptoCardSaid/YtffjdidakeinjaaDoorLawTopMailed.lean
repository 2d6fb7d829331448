/- missivetop.TopMailed returns true for every charset, all numbers (at most 1048576) and either way, and its arguments read as they did, where the listed tables stand as the program's text lays them: by an abstract machine of our own that is sound for the model, and a walk of the law's code in it. -/
import Derived.Test.YtffjdidakeinjaaDoorA20
import Derived.Test.YtffjdidakeinjaaDoorCards
import Derived.Test.YtffjdidakeinjaaDoorTie
import Derived.WalkKit
import Derived.ProofKit
import Derived.OpenShut
import Derived.ShutString
import Derived.ChangeOld
import Derived.Below
import Derived.SizedLaws
import Derived.ChangeArms
import Derived.DataReads
import Derived.Deep.DeepHandedRow
import Derived.Lib.LaidTab
set_option autoImplicit false
namespace Go.Proofs.YtffjdidakeinjaaDoor.topMailed
open Go Go.ChangeShapes Go.WideShapes Go.ChangeAt Go.RowKit
open Go.ChangeMaps (open_string shut_string)
open Go.Proofs.YtffjdidakeinjaaDoor.AS (hm TT_ok law8_FR evFn_sound HR.empty laid6 tabWin tabFirst tabAcc Flat open_flat slice_arg slice_len sizes Row encI RV_mono)
set_option linter.unusedVariables false
set_option linter.unusedSimpArgs false
theorem own : ownKnob Tryd.prog.godebug = none := by kernel_rfl
/-- A world for the witness: the tables as they are laid. -/
def lay (cs : Array Value) : Obj → Obj
  | .cells _ t frozen => .cells cs t frozen
  | o => o
noncomputable def laidWorld (os : Os) : World :=
  { World.holding Tryd.prog os ⟨#[], #[], []⟩ with
    heap := (((World.holding Tryd.prog os ⟨#[], #[], []⟩).heap.modify 0 (lay (tabWin.map fun z => Value.int .i32 z).toArray)).modify 1 (lay (tabFirst.map fun z => Value.int .u8 z).toArray)).modify 2 (lay (tabAcc.map fun z => Value.int .u8 z).toArray) }
set_option maxRecDepth 100000 in
theorem laid_met (os : Os) : laidMet Tryd.prog Rows.topMailedUptoRow.laid ((laidWorld os).forCall (fun _ _ => 0) ⟨#[], #[.int .u8 0, .slice none 0 0, .bool false], []⟩).memory :=
  laidMet_of_run' 8 (by kernel_rfl) (by kernel_rfl)
set_option maxRecDepth 100000 in
theorem reads (os : Os) {H : Type} (enc : TypeId × Value → H) : ∃ places, DataW.whole enc Tryd.prog ((laidWorld os).forCall (fun _ _ => 0) ⟨#[], #[.int .u8 0, .slice none 0 0, .bool false], []⟩).memory Tryd.f8.params.toList Rows.topMailedSpec.vars false #[Value.int .u8 0, Value.slice none 0 0, Value.bool false].toList 8 = some ([.lit (.int .u8 0), .nil, .lit (.bool false)], [], places) :=
  ⟨[], by kernel_rfl⟩
theorem laidOut : laidOutB Tryd.prog = true := by kernel_rfl
/-- A letter's number. -/
def numF : Flat Tryd.prog 21 Int (fun H d => Rows.uptoBulk d) where
  cells x := [.int .i32 x]
  sz := 1
  size _ := 1
  wf x := -2147483648 ≤ x ∧ x ≤ 2147483647
  len _ := rfl
  cellsOf := by kernel_rfl
  opens H enc W fuel cs x h := by
    obtain ⟨k, hk1, rfl, hk2⟩ := DataW.trod_int Tryd.underlying21 h
    match cs, hk1 with
    | [u], hk1 =>
      simp at hk1
      subst hk1
      refine ⟨k, rfl, Nat.le_refl _, ?_⟩
      simp only [Lit.wf, IntKind.min, IntKind.max, IntKind.signed, IntKind.bits, Bool.and_eq_true] at hk2
      simpa using hk2
theorem sizes_len : ∀ E : List Int, sizes numF.size E = E.length
  | [] => rfl
  | x :: E => by rw [sizes, sizes_len E, List.length_cons]; show 1 + E.length = _; omega
theorem flat_cells (E : List Int) : (E.flatMap numF.cells).map Go.Proofs.YtffjdidakeinjaaDoor.AS.AV.s = E.flatMap (encI .i32).cells := by
  induction E with
  | nil => rfl
  | cons x E ih => rw [List.flatMap_cons, List.map_append, ih, List.flatMap_cons]; rfl
/-- What a slice among the arguments reads. -/
theorem row_arg {h h1 bs : Go.Proofs.YtffjdidakeinjaaDoor.AS.Heap} {x : Go.Proofs.YtffjdidakeinjaaDoor.AS.AV} {E : List Int} {n : Nat} (hn : n = E.length) (he : h1 = h ++ bs) (hx : (x = .s (.slice none 0 0) ∧ bs = [] ∧ n = 0) ∨ (x = .sl h.length 0 0 n 1 ∧ bs = [⟨0, 21, 1, false, (E.flatMap numF.cells).map .s⟩])) : Row (encI .i32) h1 x E := by
  subst he
  rcases hx with ⟨rfl, rfl, h⟩ | ⟨rfl, rfl⟩
  · exact .inl ⟨rfl, List.length_eq_zero_iff.1 (by omega)⟩
  · refine .inr ⟨h.length, 0, 0, _, by rw [hn]; rfl, Go.Proofs.YtffjdidakeinjaaDoor.AS.bk_new, rfl, ?_, ?_⟩
    · rw [flat_cells, Go.Proofs.YtffjdidakeinjaaDoor.AS.Enc.flat_len]; omega
    · rw [flat_cells, List.drop_zero, List.take_of_length_le (by rw [Go.Proofs.YtffjdidakeinjaaDoor.AS.Enc.flat_len]; exact Nat.le_refl _)]
theorem bound {H : Type} {l : List (DataW H)} (hk : Rows.uptoSmall H l = true) : Rows.uptoBulkAll l ≤ 1048576 := by
  unfold Rows.uptoSmall at hk
  exact of_decide_eq_true hk
set_option maxRecDepth 100000 in
theorem lifted (os : Os) (started : os.Started) (H : Type) (enc : TypeId × Value → H) (F : Stop.Interp) :
    ReturnsInHanded {} Tryd.checked os 8 .any ((Rows.OpenSpec.upto Rows.topMailedSpec).preRow enc Tryd.prog Tryd.f8 Rows.topMailedUptoRow.domain false Rows.topMailedUptoRow.laid) (((Rows.OpenSpec.upto Rows.topMailedSpec).at F).post enc Tryd.prog Tryd.f8 false true false false) := by
  obtain ⟨places, hx⟩ := reads os enc
  refine returnsInHanded_of_row (C := Tryd.checked) (s := (Rows.OpenSpec.upto Rows.topMailedSpec)) own started (by kernel_rfl) Tryd.func8
    (witness_row_at (enc := enc) (C := Tryd.checked) false (laidWorld os) #[.int .u8 0, .slice none 0 0, .bool false] rfl (by kernel_rfl) (by kernel_rfl) (by kernel_rfl)
      (OpenSpec.preRow_of_cond 8 hx (by kernel_rfl) (fun k hk => by cases hk; kernel_rfl) (by kernel_rfl) (laid_met os))) ?_
  intro W base args ds gs before hval0 hW _ hcond hsz0 hL _ _
  have hsz : (DataW.weightsEach Tryd.prog (Tryd.f8.params.toList ++ (Rows.OpenSpec.upto Rows.topMailedSpec).bare.plain.varTypes Tryd.prog) (ds ++ gs)).all (· ≤ reachBytes) = true := hsz0
  have hval : ∀ (j : Nat) t v, Tryd.f8.params[j]? = some t → args[j]? = some v → Value.okWide Tryd.prog W .any base t v := hval0
  have hk : Rows.uptoSmall H (ds ++ gs) = true := hcond _ rfl
  have hW' := hW
  obtain ⟨p, q, hA0, hV, rfl, hfz, hnd⟩ := hW
  have hA : DataW.TrodAll enc Tryd.prog W 0 (fun _ => true) true Tryd.f8.params.toList args.toList ds p := hA0
  rw [Tryd.params8] at hA hval hsz
  obtain ⟨v0, vs0, d0, ds0, p0, q0, hargs, rfl, rfl, h0, r0⟩ := trodAll_cons hA
  obtain ⟨v1, vs1, d1, ds1, p1, q1, rfl, rfl, rfl, h1, r1⟩ := trodAll_cons r0
  obtain ⟨v2, vs2, d2, ds2, p2, q2, rfl, rfl, rfl, h2, r2⟩ := trodAll_cons r1
  obtain ⟨rfl, rfl, rfl⟩ := trodAll_nil r2
  obtain rfl : args = #[v0, v1, v2] := by cases args; simp_all
  obtain ⟨rfl, rfl⟩ := trodVars_none hV
  have hb := bound hk
  simp only [List.append_nil, Rows.uptoBulkAll] at hb
  obtain ⟨a0, rfl, rfl, rfl, w0⟩ := open_int Tryd.underlying32 (hval 0 32 v0 rfl rfl) h0
  obtain ⟨a1, len1, cap1, rfl⟩ := okWide_slice Tryd.underlying33 (hval 1 33 v1 rfl rfl)
  have k1 := h1
  have lt1 : ∀ x ∈ p1, x.block < W.heap.size := by obtain ⟨m, hm⟩ := k1; exact DataW.trod_lt m _ _ _ hm
  obtain ⟨E1, e1, hc1, hcap1, hn1, hcell1, b1, w1⟩ := open_flat (bulks := fun H l => Rows.uptoBulkAll l) (fun _ => rfl) (fun _ _ _ => rfl) (fun _ _ _ => by simp only [Rows.uptoBulk]; omega) numF Tryd.underlying33 h1
  rw [sizes_len] at b1
  have z1 : E1.length ≤ 35184372088831 := by
    have hb4 : Tryd.prog.bytesOf 21 = 4 := by kernel_rfl
    have hr := reachBytes_lt
    rcases slice_len Tryd.underlying33 h1 with h | ⟨el, sp, h, hl⟩
    · omega
    · have z := sized_slice hsz (j := 1) (t := 33) rfl (by rw [h]; rfl) Tryd.underlying33
      rw [hb4] at z
      have hrb : reachBytes = 140737488351232 := rfl
      omega
  obtain ⟨a2, rfl, rfl, rfl⟩ := open_bool Tryd.underlying4 (hval 2 4 v2 rfl rfl) h2
  obtain ⟨ρ1, x1, bs1, HR1, ex1, rv1, hx1⟩ := slice_arg (sz := 1) (HR.empty Tryd.prog W (laid6 hL)) Tryd.underlying33 (hval 1 33 _ rfl rfl) hc1 hn1 hcell1
  rw [List.nil_append] at HR1
  have ra1 : Row (encI .i32) bs1 x1 E1 := row_arg (h := []) e1 rfl hx1
  clear hA0 hval0 hsz0 hsz
  obtain ⟨x, Hp, ⟨k, hk9⟩, rfl, _⟩ := law8_FR bs1 a0 x1 E1 a2 ra1 (by omega)
  refine ((evFn_sound (base := W.heap.size) (W := W) hm TT_ok k 8 _ bs1 _ (hk9 k (Nat.le_refl k))).2 ρ1 W [.int .u8 a0, .slice a1 len1 cap1, .bool a2] HR1 ⟨rfl, rv1, rfl, trivial⟩).mono fun e W' he => ?_
  obtain ⟨v, ρ', rfl, E'⟩ := he
  obtain rfl := E'.rv
  have bel : Below W.heap.size W W' := E'.hr.below
  exact ⟨_, rfl, _, _, _, [], _, [], hW', trodAll_mk1 (shut_bool Tryd.underlying4 _), (trodAll_cons_mk (shut_int Tryd.underlying32 w0) (trodAll_cons_mk (Below.trod laidOut (by kernel_rfl) (of_decide_eq_true (by kernel_rfl)) k1 bel lt1) (trodAll_cons_mk (shut_bool Tryd.underlying4 _) trodAll_mk0))), rfl, bel.frame _, fun h => by cases h⟩
theorem said : Rows.TopMailedUptoSaid :=
  OpenClaim.holds_of_cond 8 Tryd.f8 rfl rfl rfl rfl rfl rfl rfl ⟨rfl, rfl, rfl, rfl, rfl⟩ rfl rfl rfl rfl rfl (by kernel_rfl) Tryd.func8 (by kernel_rfl)
    (of_decide_eq_true (by kernel_rfl)) (by unfold Func.isWrapper; first | (rw [if_pos (by decide +kernel)]; kernel_rfl) | (rw [if_neg (by decide +kernel)]; exact ⟨rfl, rfl⟩))
    (fun os started H enc _ F => by rw [OpenClaim.pre_eq_preRow]; exact lifted os started H enc F)
/-- No parameter wants a stand-in; the program's own looks are off. -/
theorem plain (f : FuncId) (fn : Func) (hf : Tryd.pinned.checked.prog.funcNamed "missive/missivetop.TopMailed" = some f) (hfn : Tryd.pinned.checked.prog.funcs[f]? = some fn) :
    false = Tryd.pinned.checked.prog.looks [] ∧ ∀ (j : Nat) t, fn.params[j]? = some t → Tryd.pinned.checked.prog.wantsStandIn t = false := by
  obtain rfl : f = 8 := Option.some.inj ((show Tryd.prog.funcNamed "missive/missivetop.TopMailed" = some 8 by kernel_rfl).symm.trans hf) |>.symm
  obtain rfl : fn = Tryd.f8 := (Option.some.inj (Tryd.func8.symm.trans hfn)).symm
  refine ⟨by kernel_rfl, fun j t ht => ?_⟩
  rw [Tryd.params8] at ht
  have hm : t = 32 ∨ t = 33 ∨ t = 4 := by simpa using Array.mem_of_getElem? ht
  rcases hm with rfl | rfl | rfl
  · exact (show Tryd.prog.wantsStandIn 32 = false by kernel_rfl)
  · exact (show Tryd.prog.wantsStandIn 33 = false by kernel_rfl)
  · exact (show Tryd.prog.wantsStandIn 4 = false by kernel_rfl)
/-- The card. -/
theorem card : Rows.TopMailedUptoCardSaid :=
  Claim7.holds_tied_plain_at .later [] _ _ _ _ said (fun _ h => by cases h) (by kernel_rfl) (fun _ h => by cases h) topMailedUpto_row_tie rfl ⟨rfl, rfl⟩ (by kernel_rfl) rfl plain (by kernel_rfl)
#print axioms card
end Go.Proofs.YtffjdidakeinjaaDoor.topMailed
namespace Go.Proofs.YtffjdidakeinjaaDoor
/-- The card, under a short name, for the claim. -/
theorem topMailed_upto : Rows.TopMailedUptoCardSaid := topMailed.card
end Go.Proofs.YtffjdidakeinjaaDoor
