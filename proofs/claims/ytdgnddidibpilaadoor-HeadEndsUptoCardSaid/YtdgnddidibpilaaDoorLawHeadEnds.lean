/- missivelaw08.HeadEnds returns true for all fields and every text whose bulk together is at most 1048576, and its arguments read as they did, where the listed tables stand as the program's text lays them: by an abstract machine of our own that is sound for the model, and a walk of the law's code in it. -/
import Derived.Test.YtdgnddidibpilaaDoorA22
import Derived.Test.YtdgnddidibpilaaDoorCards
import Derived.Test.YtdgnddidibpilaaDoorTie
import Derived.WalkKit
import Derived.ProofKit
import Derived.OpenShut
import Derived.ShutString
import Derived.ChangeOld
import Derived.Below
import Derived.SizedLaws
import Derived.ChangeArms
import Derived.DataReads
import Derived.Deep.DeepHandedRow
import Derived.Lib.LaidTab
set_option autoImplicit false
namespace Go.Proofs.YtdgnddidibpilaaDoor.headEnds
open Go Go.ChangeShapes Go.WideShapes Go.ChangeAt Go.RowKit
open Go.ChangeMaps (open_string shut_string)
open Go.Proofs.YtdgnddidibpilaaDoor.AS (hm TT_ok law6_FR evFn_sound HR.empty laid8 tabFirst tabAcc Flat open_flatR slice_arg slice_len sizes Row encF szF fldR fld_open fld_sized RV_mono open_flat lnF ln_len)
set_option linter.unusedVariables false
set_option linter.unusedSimpArgs false
theorem own : ownKnob Tryd.prog.godebug = none := by kernel_rfl
/-- A world for the witness: the tables as they are laid. -/
def lay (cs : Array Value) : Obj → Obj
  | .cells _ t frozen => .cells cs t frozen
  | o => o
noncomputable def laidWorld (os : Os) : World :=
  { World.holding Tryd.prog os ⟨#[], #[], []⟩ with
    heap := ((World.holding Tryd.prog os ⟨#[], #[], []⟩).heap.modify 1 (lay (tabFirst.map fun z => Value.int .u8 z).toArray)).modify 2 (lay (tabAcc.map fun z => Value.int .u8 z).toArray) }
set_option maxRecDepth 100000 in
theorem laid_met (os : Os) : laidMet Tryd.prog Rows.headEndsUptoRow.laid ((laidWorld os).forCall (fun _ _ => 0) ⟨#[], #[.slice none 0 0, .string ByteArray.empty], []⟩).memory :=
  laidMet_of_run' 8 (by kernel_rfl) (by kernel_rfl)
set_option maxRecDepth 100000 in
theorem reads (os : Os) {H : Type} (enc : TypeId × Value → H) : ∃ places, DataW.whole enc Tryd.prog ((laidWorld os).forCall (fun _ _ => 0) ⟨#[], #[.slice none 0 0, .string ByteArray.empty], []⟩).memory Tryd.f6.params.toList Rows.headEndsSpec.vars false #[Value.slice none 0 0, Value.string ByteArray.empty].toList 8 = some ([.nil, .lit (.string [])], [], places) :=
  ⟨[], by kernel_rfl⟩
theorem laidOut : laidOutB Tryd.prog = true := by kernel_rfl
/-- A field. -/
def fldF : Flat Tryd.prog 41 (ByteArray × ByteArray) (fun H d => Rows.uptoBulk d) where
  cells x := [.string x.1, .string x.2]
  sz := 2
  size f := f.1.size + f.2.size + 2
  wf _ := True
  len _ := rfl
  cellsOf := by kernel_rfl
  opens H enc W fuel cs x h := by
    obtain ⟨a, h1, h2⟩ := fld_open h
    refine ⟨a, h1, ?_, trivial⟩
    rw [h2]
    have w1 : a.1.size = a.1.data.size := rfl
    have w2 : a.2.size = a.2.data.size := rfl
    simp only [Rows.uptoBulk, Rows.uptoBulkAll, Array.length_toList]
    omega
theorem sizes_fld : ∀ E : List (ByteArray × ByteArray), E.length ≤ sizes fldF.size E ∧ (E.flatMap lnF).length ≤ 2 * sizes fldF.size E
  | [] => ⟨Nat.le_refl _, Nat.le_refl _⟩
  | f :: E => by
    have h1 := sizes_fld E
    have h2 := ln_len f
    have h3 : sizes fldF.size (f :: E) = (f.1.size + f.2.size + 2) + sizes fldF.size E := rfl
    rw [h3, List.flatMap_cons, List.length_append, List.length_cons]
    omega
theorem flat_cells (E : List (ByteArray × ByteArray)) : (E.flatMap fldF.cells).map Go.Proofs.YtdgnddidibpilaaDoor.AS.AV.s = E.flatMap encF.cells := by
  induction E with
  | nil => rfl
  | cons x E ih => rw [List.flatMap_cons, List.map_append, ih, List.flatMap_cons]; rfl
/-- What a slice among the arguments reads. -/
theorem row_arg {h h1 bs : Go.Proofs.YtdgnddidibpilaaDoor.AS.Heap} {x : Go.Proofs.YtdgnddidibpilaaDoor.AS.AV} {E : List (ByteArray × ByteArray)} {n : Nat} (hn : n = E.length) (he : h1 = h ++ bs) (hx : (x = .s (.slice none 0 0) ∧ bs = [] ∧ n = 0) ∨ (x = .sl h.length 0 0 n 2 ∧ bs = [⟨0, 41, 2, false, (E.flatMap fldF.cells).map .s⟩])) : Row encF h1 x E := by
  subst he
  rcases hx with ⟨rfl, rfl, h⟩ | ⟨rfl, rfl⟩
  · exact .inl ⟨rfl, List.length_eq_zero_iff.1 (by omega)⟩
  · refine .inr ⟨h.length, 0, 0, _, by rw [hn]; rfl, Go.Proofs.YtdgnddidibpilaaDoor.AS.bk_new, rfl, ?_, ?_⟩
    · rw [flat_cells, Go.Proofs.YtdgnddidibpilaaDoor.AS.Enc.flat_len]; omega
    · rw [flat_cells, List.drop_zero, List.take_of_length_le (by rw [Go.Proofs.YtdgnddidibpilaaDoor.AS.Enc.flat_len]; exact Nat.le_refl _)]
theorem bound {H : Type} {l : List (DataW H)} (hk : Rows.uptoSmall H l = true) : Rows.uptoBulkAll l ≤ 1048576 := by
  unfold Rows.uptoSmall at hk
  exact of_decide_eq_true hk
set_option maxRecDepth 100000 in
theorem lifted (os : Os) (started : os.Started) (H : Type) (enc : TypeId × Value → H) (F : Stop.Interp) :
    ReturnsInHanded {} Tryd.checked os 6 .any ((Rows.OpenSpec.upto Rows.headEndsSpec).preRow enc Tryd.prog Tryd.f6 Rows.headEndsUptoRow.domain false Rows.headEndsUptoRow.laid) (((Rows.OpenSpec.upto Rows.headEndsSpec).at F).post enc Tryd.prog Tryd.f6 false true false false) := by
  obtain ⟨places, hx⟩ := reads os enc
  refine returnsInHanded_of_row (C := Tryd.checked) (s := (Rows.OpenSpec.upto Rows.headEndsSpec)) own started (by kernel_rfl) Tryd.func6
    (witness_row_at (enc := enc) (C := Tryd.checked) false (laidWorld os) #[.slice none 0 0, .string ByteArray.empty] rfl (by kernel_rfl) (by kernel_rfl) (by kernel_rfl)
      (OpenSpec.preRow_of_cond 8 hx (by kernel_rfl) (fun k hk => by cases hk; kernel_rfl) (by kernel_rfl) (laid_met os))) ?_
  intro W base args ds gs before hval0 hW _ hcond hsz0 hL _ _
  have hsz : (DataW.weightsEach Tryd.prog (Tryd.f6.params.toList ++ (Rows.OpenSpec.upto Rows.headEndsSpec).bare.plain.varTypes Tryd.prog) (ds ++ gs)).all (· ≤ reachBytes) = true := hsz0
  have hval : ∀ (j : Nat) t v, Tryd.f6.params[j]? = some t → args[j]? = some v → Value.okWide Tryd.prog W .any base t v := hval0
  have hk : Rows.uptoSmall H (ds ++ gs) = true := hcond _ rfl
  have hW' := hW
  obtain ⟨p, q, hA0, hV, rfl, hfz, hnd⟩ := hW
  have hA : DataW.TrodAll enc Tryd.prog W 0 (fun _ => true) true Tryd.f6.params.toList args.toList ds p := hA0
  rw [Tryd.params6] at hA hval hsz
  obtain ⟨v0, vs0, d0, ds0, p0, q0, hargs, rfl, rfl, h0, r0⟩ := trodAll_cons hA
  obtain ⟨v1, vs1, d1, ds1, p1, q1, rfl, rfl, rfl, h1, r1⟩ := trodAll_cons r0
  obtain ⟨rfl, rfl, rfl⟩ := trodAll_nil r1
  obtain rfl : args = #[v0, v1] := by cases args; simp_all
  obtain ⟨rfl, rfl⟩ := trodVars_none hV
  have hb := bound hk
  simp only [List.append_nil, Rows.uptoBulkAll] at hb
  obtain ⟨a0, len0, cap0, rfl⟩ := okWide_slice Tryd.underlying22 (hval 0 22 v0 rfl rfl)
  have k0 := h0
  have lt0 : ∀ x ∈ p0, x.block < W.heap.size := by obtain ⟨m, hm⟩ := k0; exact DataW.trod_lt m _ _ _ hm
  obtain ⟨E0, e0, hc0, hcap0, hn0, hcell0, b0, _⟩ := open_flat (bulks := fun H l => Rows.uptoBulkAll l) (fun _ => rfl) (fun _ _ _ => rfl) (fun _ _ _ => by simp only [Rows.uptoBulk]; omega) fldF Tryd.underlying22 h0
  have b0 : sizes fldF.size E0 ≤ Rows.uptoBulk d0 := b0
  have u0 := sizes_fld E0
  obtain ⟨a1, rfl, rfl, rfl, y1⟩ := open_string Tryd.underlying9 (hval 1 9 v1 rfl rfl) h1
  have w1 : a1.size ≤ 140737488351232 := by
    have z := sized_string hsz (j := 1) (t := 9) rfl rfl
    rw [Array.length_toList] at z
    exact z
  have b1 : a1.size + 1 ≤ Rows.uptoBulk (DataW.lit (H := H) (.string a1.data.toList)) := by simp only [Rows.uptoBulk, Array.length_toList]; exact Nat.le_refl _
  obtain ⟨ρ0, x0, bs0, HR0, ex0, rv0, hx0⟩ := slice_arg (sz := 2) (HR.empty Tryd.prog W (laid8 hL)) Tryd.underlying22 (hval 0 22 _ rfl rfl) hc0 hn0 hcell0
  rw [List.nil_append] at HR0
  have ra0 : Row encF bs0 x0 E0 := row_arg (h := []) e0 rfl hx0
  clear hA0 hval0 hsz0 hsz
  obtain ⟨x, Hp, ⟨k, hk9⟩, rfl, _⟩ := law6_FR bs0 x0 E0 a1 ra0 (by omega) (by omega) (by omega)
  refine ((evFn_sound (base := W.heap.size) (W := W) hm TT_ok k 6 _ bs0 _ (hk9 k (Nat.le_refl k))).2 ρ0 W [.slice a0 len0 cap0, .string a1] HR0 ⟨rv0, rfl, trivial⟩).mono fun e W' he => ?_
  obtain ⟨v, ρ', rfl, E'⟩ := he
  obtain rfl := E'.rv
  have bel : Below W.heap.size W W' := E'.hr.below
  exact ⟨_, rfl, _, _, _, [], _, [], hW', trodAll_mk1 (shut_bool Tryd.underlying4 _), (trodAll_cons_mk (Below.trod laidOut (by kernel_rfl) (of_decide_eq_true (by kernel_rfl)) k0 bel lt0) (trodAll_cons_mk (shut_string Tryd.underlying9 y1) trodAll_mk0)), rfl, bel.frame _, fun h => by cases h⟩
theorem said : Rows.HeadEndsUptoSaid :=
  OpenClaim.holds_of_cond 6 Tryd.f6 rfl rfl rfl rfl rfl rfl rfl ⟨rfl, rfl, rfl, rfl, rfl⟩ rfl rfl rfl rfl rfl (by kernel_rfl) Tryd.func6 (by kernel_rfl)
    (of_decide_eq_true (by kernel_rfl)) (by unfold Func.isWrapper; first | (rw [if_pos (by decide +kernel)]; kernel_rfl) | (rw [if_neg (by decide +kernel)]; exact ⟨rfl, rfl⟩))
    (fun os started H enc _ F => by rw [OpenClaim.pre_eq_preRow]; exact lifted os started H enc F)
/-- No parameter wants a stand-in; the program's own looks are off. -/
theorem plain (f : FuncId) (fn : Func) (hf : Tryd.pinned.checked.prog.funcNamed "missive/missivelaw08.HeadEnds" = some f) (hfn : Tryd.pinned.checked.prog.funcs[f]? = some fn) :
    false = Tryd.pinned.checked.prog.looks [] ∧ ∀ (j : Nat) t, fn.params[j]? = some t → Tryd.pinned.checked.prog.wantsStandIn t = false := by
  obtain rfl : f = 6 := Option.some.inj ((show Tryd.prog.funcNamed "missive/missivelaw08.HeadEnds" = some 6 by kernel_rfl).symm.trans hf) |>.symm
  obtain rfl : fn = Tryd.f6 := (Option.some.inj (Tryd.func6.symm.trans hfn)).symm
  refine ⟨by kernel_rfl, fun j t ht => ?_⟩
  rw [Tryd.params6] at ht
  have hm : t = 22 ∨ t = 9 := by simpa using Array.mem_of_getElem? ht
  rcases hm with rfl | rfl
  · exact (show Tryd.prog.wantsStandIn 22 = false by kernel_rfl)
  · exact (show Tryd.prog.wantsStandIn 9 = false by kernel_rfl)
/-- The card. -/
theorem card : Rows.HeadEndsUptoCardSaid :=
  Claim7.holds_tied_plain_at .later [] _ _ _ _ said (fun _ h => by cases h) (by kernel_rfl) (fun _ h => by cases h) headEndsUpto_row_tie rfl ⟨rfl, rfl⟩ (by kernel_rfl) rfl plain (by kernel_rfl)
#print axioms card
end Go.Proofs.YtdgnddidibpilaaDoor.headEnds
namespace Go.Proofs.YtdgnddidibpilaaDoor
/-- The card, under a short name, for the claim. -/
theorem headEnds_upto : Rows.HeadEndsUptoCardSaid := headEnds.card
end Go.Proofs.YtdgnddidibpilaaDoor
