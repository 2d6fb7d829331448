/- missivelaw08.HeadLike returns true for all fields and texts, and its arguments read as they did, where the listed tables stand as the program's text lays them: by an abstract machine of our own that is sound for the model, and a walk of the law's code in it. -/
import Derived.Test.YtdgnddidibpilaaDoorA21
import Derived.Test.YtdgnddidibpilaaDoorCards
import Derived.Test.YtdgnddidibpilaaDoorTie
import Derived.WalkKit
import Derived.ProofKit
import Derived.OpenShut
import Derived.ShutString
import Derived.ChangeOld
import Derived.Below
import Derived.SizedLaws
import Derived.ChangeArms
import Derived.DataReads
import Derived.Deep.DeepHandedRow
import Derived.Lib.LaidTab
set_option autoImplicit false
namespace Go.Proofs.YtdgnddidibpilaaDoor.headLike
open Go Go.ChangeShapes Go.WideShapes Go.ChangeAt Go.RowKit
open Go.ChangeMaps (open_string shut_string)
open Go.Proofs.YtdgnddidibpilaaDoor.AS (hm TT_ok law7_FR evFn_sound HR.empty laid8 tabFirst tabAcc Flat open_flatR slice_arg slice_len sizes Row encF szF fldR fld_open fld_sized RV_mono)
set_option linter.unusedVariables false
set_option linter.unusedSimpArgs false
theorem own : ownKnob Tryd.prog.godebug = none := by kernel_rfl
/-- A world for the witness: the tables as they are laid. -/
def lay (cs : Array Value) : Obj → Obj
  | .cells _ t frozen => .cells cs t frozen
  | o => o
noncomputable def laidWorld (os : Os) : World :=
  { World.holding Tryd.prog os ⟨#[], #[], []⟩ with
    heap := ((World.holding Tryd.prog os ⟨#[], #[], []⟩).heap.modify 1 (lay (tabFirst.map fun z => Value.int .u8 z).toArray)).modify 2 (lay (tabAcc.map fun z => Value.int .u8 z).toArray) }
set_option maxRecDepth 100000 in
theorem laid_met (os : Os) : laidMet Tryd.prog Rows.headLikeRow.laid ((laidWorld os).forCall (fun _ _ => 0) ⟨#[], #[.string ByteArray.empty, .string ByteArray.empty, .slice none 0 0], []⟩).memory :=
  laidMet_of_run' 8 (by kernel_rfl) (by kernel_rfl)
set_option maxRecDepth 100000 in
theorem reads (os : Os) {H : Type} (enc : TypeId × Value → H) : ∃ places, DataW.whole enc Tryd.prog ((laidWorld os).forCall (fun _ _ => 0) ⟨#[], #[.string ByteArray.empty, .string ByteArray.empty, .slice none 0 0], []⟩).memory Tryd.f7.params.toList Rows.headLikeSpec.vars false #[Value.string ByteArray.empty, Value.string ByteArray.empty, Value.slice none 0 0].toList 8 = some ([.lit (.string []), .lit (.string []), .nil], [], places) :=
  ⟨[], by kernel_rfl⟩
theorem laidOut : laidOutB Tryd.prog = true := by kernel_rfl
/-- A field. -/
def fldF : Flat Tryd.prog 41 (ByteArray × ByteArray) (fun _ _ => 0) where
  cells x := [.string x.1, .string x.2]
  sz := 2
  size _ := 0
  wf _ := True
  len _ := rfl
  cellsOf := by kernel_rfl
  opens H enc W fuel cs x h := by
    obtain ⟨a, h1, _⟩ := fld_open h
    exact ⟨a, h1, Nat.le_refl _, trivial⟩
theorem flat_cells (E : List (ByteArray × ByteArray)) : (E.flatMap fldF.cells).map Go.Proofs.YtdgnddidibpilaaDoor.AS.AV.s = E.flatMap encF.cells := by
  induction E with
  | nil => rfl
  | cons x E ih => rw [List.flatMap_cons, List.map_append, ih, List.flatMap_cons]; rfl
/-- What a slice among the arguments reads. -/
theorem row_arg {h h1 bs : Go.Proofs.YtdgnddidibpilaaDoor.AS.Heap} {x : Go.Proofs.YtdgnddidibpilaaDoor.AS.AV} {E : List (ByteArray × ByteArray)} {n : Nat} (hn : n = E.length) (he : h1 = h ++ bs) (hx : (x = .s (.slice none 0 0) ∧ bs = [] ∧ n = 0) ∨ (x = .sl h.length 0 0 n 2 ∧ bs = [⟨0, 41, 2, false, (E.flatMap fldF.cells).map .s⟩])) : Row encF h1 x E := by
  subst he
  rcases hx with ⟨rfl, rfl, h⟩ | ⟨rfl, rfl⟩
  · exact .inl ⟨rfl, List.length_eq_zero_iff.1 (by omega)⟩
  · refine .inr ⟨h.length, 0, 0, _, by rw [hn]; rfl, Go.Proofs.YtdgnddidibpilaaDoor.AS.bk_new, rfl, ?_, ?_⟩
    · rw [flat_cells, Go.Proofs.YtdgnddidibpilaaDoor.AS.Enc.flat_len]; omega
    · rw [flat_cells, List.drop_zero, List.take_of_length_le (by rw [Go.Proofs.YtdgnddidibpilaaDoor.AS.Enc.flat_len]; exact Nat.le_refl _)]
set_option maxRecDepth 100000 in
theorem lifted (os : Os) (started : os.Started) (H : Type) (enc : TypeId × Value → H) (F : Stop.Interp) :
    ReturnsInHanded {} Tryd.checked os 7 .any ((OpenSpec.ofChange Rows.headLikeSpec).preRow enc Tryd.prog Tryd.f7 Rows.headLikeRow.domain false Rows.headLikeRow.laid) (((OpenSpec.ofChange Rows.headLikeSpec).at F).post enc Tryd.prog Tryd.f7 false true false false) := by
  obtain ⟨places, hx⟩ := reads os enc
  refine returnsInHanded_of_row (C := Tryd.checked) (s := (OpenSpec.ofChange Rows.headLikeSpec)) own started (by kernel_rfl) Tryd.func7
    (witness_row_at (enc := enc) (C := Tryd.checked) false (laidWorld os) #[.string ByteArray.empty, .string ByteArray.empty, .slice none 0 0] rfl (by kernel_rfl) (by kernel_rfl) (by kernel_rfl)
      (OpenSpec.preRow_of_cond 8 hx (by kernel_rfl) (fun k hk => by cases hk) (by kernel_rfl) (laid_met os))) ?_
  intro W base args ds gs before hval0 hW _ hcond hsz0 hL _ _
  have hsz : (DataW.weightsEach Tryd.prog (Tryd.f7.params.toList ++ (OpenSpec.ofChange Rows.headLikeSpec).bare.plain.varTypes Tryd.prog) (ds ++ gs)).all (· ≤ reachBytes) = true := hsz0
  have hval : ∀ (j : Nat) t v, Tryd.f7.params[j]? = some t → args[j]? = some v → Value.okWide Tryd.prog W .any base t v := hval0
  have hW' := hW
  obtain ⟨p, q, hA0, hV, rfl, hfz, hnd⟩ := hW
  have hA : DataW.TrodAll enc Tryd.prog W 0 (fun _ => true) true Tryd.f7.params.toList args.toList ds p := hA0
  rw [Tryd.params7] at hA hval hsz
  obtain ⟨v0, vs0, d0, ds0, p0, q0, hargs, rfl, rfl, h0, r0⟩ := trodAll_cons hA
  obtain ⟨v1, vs1, d1, ds1, p1, q1, rfl, rfl, rfl, h1, r1⟩ := trodAll_cons r0
  obtain ⟨v2, vs2, d2, ds2, p2, q2, rfl, rfl, rfl, h2, r2⟩ := trodAll_cons r1
  obtain ⟨rfl, rfl, rfl⟩ := trodAll_nil r2
  obtain rfl : args = #[v0, v1, v2] := by cases args; simp_all
  obtain ⟨rfl, rfl⟩ := trodVars_none hV
  obtain ⟨a0, rfl, rfl, rfl, y0⟩ := open_string Tryd.underlying9 (hval 0 9 v0 rfl rfl) h0
  have w0 : a0.size ≤ 140737488351232 := by
    have z := sized_string hsz (j := 0) (t := 9) rfl rfl
    rw [Array.length_toList] at z
    exact z
  obtain ⟨a1, rfl, rfl, rfl, y1⟩ := open_string Tryd.underlying9 (hval 1 9 v1 rfl rfl) h1
  have w1 : a1.size ≤ 140737488351232 := by
    have z := sized_string hsz (j := 1) (t := 9) rfl rfl
    rw [Array.length_toList] at z
    exact z
  obtain ⟨a2, len2, cap2, rfl⟩ := okWide_slice Tryd.underlying22 (hval 2 22 v2 rfl rfl)
  have k2 := h2
  have lt2 : ∀ x ∈ p2, x.block < W.heap.size := by obtain ⟨m, hm⟩ := k2; exact DataW.trod_lt m _ _ _ hm
  obtain ⟨E2, e2, hc2, hcap2, hn2, hcell2, hel2⟩ := open_flatR fldF fldR Tryd.underlying22 (fun fuel cs x h => fld_open h) h2
  have s2 : szF E2 := fld_sized hsz (j := 2) rfl rfl hel2
  have z2 : E2.length ≤ 4398046511103 := by
    have hb4 : Tryd.prog.bytesOf 41 = 32 := by kernel_rfl
    have hr := reachBytes_lt
    rcases slice_len Tryd.underlying22 h2 with h | ⟨el, sp, h, hl⟩
    · omega
    · have z := sized_slice hsz (j := 2) (t := 22) rfl (by rw [h]; rfl) Tryd.underlying22
      rw [hb4] at z
      have hrb : reachBytes = 140737488351232 := rfl
      omega
  obtain ⟨ρ2, x2, bs2, HR2, ex2, rv2, hx2⟩ := slice_arg (sz := 2) (HR.empty Tryd.prog W (laid8 hL)) Tryd.underlying22 (hval 2 22 _ rfl rfl) hc2 hn2 hcell2
  rw [List.nil_append] at HR2
  have ra2 : Row encF bs2 x2 E2 := row_arg (h := []) e2 rfl hx2
  clear hA0 hval0 hsz0 hsz
  obtain ⟨x, Hp, ⟨k, hk9⟩, rfl, _⟩ := law7_FR bs2 x2 E2 a0 a1 ra2 z2 s2 (by omega) (by omega)
  refine ((evFn_sound (base := W.heap.size) (W := W) hm TT_ok k 7 _ bs2 _ (hk9 k (Nat.le_refl k))).2 ρ2 W [.string a0, .string a1, .slice a2 len2 cap2] HR2 ⟨rfl, rfl, rv2, trivial⟩).mono fun e W' he => ?_
  obtain ⟨v, ρ', rfl, E'⟩ := he
  obtain rfl := E'.rv
  have bel : Below W.heap.size W W' := E'.hr.below
  exact ⟨_, rfl, _, _, _, [], _, [], hW', trodAll_mk1 (shut_bool Tryd.underlying4 _), (trodAll_cons_mk (shut_string Tryd.underlying9 y0) (trodAll_cons_mk (shut_string Tryd.underlying9 y1) (trodAll_cons_mk (Below.trod laidOut (by kernel_rfl) (of_decide_eq_true (by kernel_rfl)) k2 bel lt2) trodAll_mk0))), rfl, bel.frame _, fun h => by cases h⟩
theorem said : Rows.HeadLikeSaid :=
  OpenClaim.holds_of_cond 7 Tryd.f7 rfl rfl rfl rfl rfl rfl rfl ⟨rfl, rfl, rfl, rfl, rfl⟩ rfl rfl rfl rfl rfl (by kernel_rfl) Tryd.func7 (by kernel_rfl)
    (of_decide_eq_true (by kernel_rfl)) (by unfold Func.isWrapper; first | (rw [if_pos (by decide +kernel)]; kernel_rfl) | (rw [if_neg (by decide +kernel)]; exact ⟨rfl, rfl⟩))
    (fun os started H enc _ F => by rw [OpenClaim.pre_eq_preRow]; exact lifted os started H enc F)
/-- No parameter wants a stand-in; the program's own looks are off. -/
theorem plain (f : FuncId) (fn : Func) (hf : Tryd.pinned.checked.prog.funcNamed "missive/missivelaw08.HeadLike" = some f) (hfn : Tryd.pinned.checked.prog.funcs[f]? = some fn) :
    false = Tryd.pinned.checked.prog.looks [] ∧ ∀ (j : Nat) t, fn.params[j]? = some t → Tryd.pinned.checked.prog.wantsStandIn t = false := by
  obtain rfl : f = 7 := Option.some.inj ((show Tryd.prog.funcNamed "missive/missivelaw08.HeadLike" = some 7 by kernel_rfl).symm.trans hf) |>.symm
  obtain rfl : fn = Tryd.f7 := (Option.some.inj (Tryd.func7.symm.trans hfn)).symm
  refine ⟨by kernel_rfl, fun j t ht => ?_⟩
  rw [Tryd.params7] at ht
  have hm : t = 9 ∨ t = 22 := by simpa using Array.mem_of_getElem? ht
  rcases hm with rfl | rfl
  · exact (show Tryd.prog.wantsStandIn 9 = false by kernel_rfl)
  · exact (show Tryd.prog.wantsStandIn 22 = false by kernel_rfl)
/-- The card. -/
theorem card : Rows.HeadLikeCardSaid :=
  Claim7.holds_tied_plain_at .later [] _ _ _ _ said (fun _ h => by cases h) (by kernel_rfl) (fun _ h => by cases h) headLike_row_tie rfl ⟨rfl, rfl⟩ (by kernel_rfl) rfl plain (by kernel_rfl)
#print axioms card
end Go.Proofs.YtdgnddidibpilaaDoor.headLike
namespace Go.Proofs.YtdgnddidibpilaaDoor
/-- The card, under a short name, for the claim. -/
theorem headLike_holds : Rows.HeadLikeCardSaid := headLike.card
end Go.Proofs.YtdgnddidibpilaaDoor
