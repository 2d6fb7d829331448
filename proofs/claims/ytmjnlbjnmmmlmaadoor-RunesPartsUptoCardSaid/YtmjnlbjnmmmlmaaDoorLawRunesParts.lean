/- missivelaw06.RunesParts returns true for every charset, all numbers and all texts (of at most 1048576 letters), and its arguments read as they did, where the listed tables stand as the program's text lays them: by an abstract machine of our own that is sound for the model, and a walk of the law's code in it. -/
import Derived.Test.YtmjnlbjnmmmlmaaDoorA20
import Derived.Test.YtmjnlbjnmmmlmaaDoorCards
import Derived.Test.YtmjnlbjnmmmlmaaDoorTie
import Derived.WalkKit
import Derived.ProofKit
import Derived.OpenShut
import Derived.ShutString
import Derived.ChangeOld
import Derived.Below
import Derived.SizedLaws
import Derived.ChangeArms
import Derived.DataReads
import Derived.Deep.DeepHandedRow
import Derived.Lib.LaidTab
set_option autoImplicit false
namespace Go.Proofs.YtmjnlbjnmmmlmaaDoor.runesParts
open Go Go.ChangeShapes Go.WideShapes Go.ChangeAt Go.RowKit
open Go.ChangeMaps (open_string shut_string)
open Go.Proofs.YtmjnlbjnmmmlmaaDoor.AS (hm TT_ok law8_FR evFn_sound HR.empty laid6 tabWin tabFirst tabAcc Flat open_flat slice_arg slice_len sizes Row encI RV_mono)
set_option linter.unusedVariables false
set_option linter.unusedSimpArgs false
theorem own : ownKnob Tryd.prog.godebug = none := by kernel_rfl
/-- A world for the witness: the tables as they are laid. -/
def lay (cs : Array Value) : Obj → Obj
  | .cells _ t frozen => .cells cs t frozen
  | o => o
noncomputable def laidWorld (os : Os) : World :=
  { World.holding Tryd.prog os ⟨#[], #[], []⟩ with
    heap := (((World.holding Tryd.prog os ⟨#[], #[], []⟩).heap.modify 0 (lay (tabWin.map fun z => Value.int .i32 z).toArray)).modify 1 (lay (tabFirst.map fun z => Value.int .u8 z).toArray)).modify 2 (lay (tabAcc.map fun z => Value.int .u8 z).toArray) }
set_option maxRecDepth 100000 in
theorem laid_met (os : Os) : laidMet Tryd.prog Rows.runesPartsUptoRow.laid ((laidWorld os).forCall (fun _ _ => 0) ⟨#[], #[.int .u8 0, .slice none 0 0, .slice none 0 0, .string ByteArray.empty, .string ByteArray.empty], []⟩).memory :=
  laidMet_of_run' 8 (by kernel_rfl) (by kernel_rfl)
set_option maxRecDepth 100000 in
theorem reads (os : Os) {H : Type} (enc : TypeId × Value → H) : ∃ places, DataW.whole enc Tryd.prog ((laidWorld os).forCall (fun _ _ => 0) ⟨#[], #[.int .u8 0, .slice none 0 0, .slice none 0 0, .string ByteArray.empty, .string ByteArray.empty], []⟩).memory Tryd.f8.params.toList Rows.runesPartsSpec.vars false #[Value.int .u8 0, Value.slice none 0 0, Value.slice none 0 0, Value.string ByteArray.empty, Value.string ByteArray.empty].toList 8 = some ([.lit (.int .u8 0), .nil, .nil, .lit (.string []), .lit (.string [])], [], places) :=
  ⟨[], by kernel_rfl⟩
theorem laidOut : laidOutB Tryd.prog = true := by kernel_rfl
/-- A letter's number. -/
def numF : Flat Tryd.prog 21 Int (fun H d => Rows.uptoBulk d) where
  cells x := [.int .i32 x]
  sz := 1
  size _ := 1
  wf x := -2147483648 ≤ x ∧ x ≤ 2147483647
  len _ := rfl
  cellsOf := by kernel_rfl
  opens H enc W fuel cs x h := by
    obtain ⟨k, hk1, rfl, hk2⟩ := DataW.trod_int Tryd.underlying21 h
    match cs, hk1 with
    | [u], hk1 =>
      simp at hk1
      subst hk1
      refine ⟨k, rfl, Nat.le_refl _, ?_⟩
      simp only [Lit.wf, IntKind.min, IntKind.max, IntKind.signed, IntKind.bits, Bool.and_eq_true] at hk2
      simpa using hk2
theorem sizes_len : ∀ E : List Int, sizes numF.size E = E.length
  | [] => rfl
  | x :: E => by rw [sizes, sizes_len E, List.length_cons]; show 1 + E.length = _; omega
theorem flat_cells (E : List Int) : (E.flatMap numF.cells).map Go.Proofs.YtmjnlbjnmmmlmaaDoor.AS.AV.s = E.flatMap (encI .i32).cells := by
  induction E with
  | nil => rfl
  | cons x E ih => rw [List.flatMap_cons, List.map_append, ih, List.flatMap_cons]; rfl
/-- What a slice among the arguments reads. -/
theorem row_arg {h h1 bs : Go.Proofs.YtmjnlbjnmmmlmaaDoor.AS.Heap} {x : Go.Proofs.YtmjnlbjnmmmlmaaDoor.AS.AV} {E : List Int} {n : Nat} (hn : n = E.length) (he : h1 = h ++ bs) (hx : (x = .s (.slice none 0 0) ∧ bs = [] ∧ n = 0) ∨ (x = .sl h.length 0 0 n 1 ∧ bs = [⟨0, 21, 1, false, (E.flatMap numF.cells).map .s⟩])) : Row (encI .i32) h1 x E := by
  subst he
  rcases hx with ⟨rfl, rfl, h⟩ | ⟨rfl, rfl⟩
  · exact .inl ⟨rfl, List.length_eq_zero_iff.1 (by omega)⟩
  · refine .inr ⟨h.length, 0, 0, _, by rw [hn]; rfl, Go.Proofs.YtmjnlbjnmmmlmaaDoor.AS.bk_new, rfl, ?_, ?_⟩
    · rw [flat_cells, Go.Proofs.YtmjnlbjnmmmlmaaDoor.AS.Enc.flat_len]; omega
    · rw [flat_cells, List.drop_zero, List.take_of_length_le (by rw [Go.Proofs.YtmjnlbjnmmmlmaaDoor.AS.Enc.flat_len]; exact Nat.le_refl _)]
theorem bound {H : Type} {l : List (DataW H)} (hk : Rows.uptoSmall H l = true) : Rows.uptoBulkAll l ≤ 1048576 := by
  unfold Rows.uptoSmall at hk
  exact of_decide_eq_true hk
set_option maxRecDepth 100000 in
theorem lifted (os : Os) (started : os.Started) (H : Type) (enc : TypeId × Value → H) (F : Stop.Interp) :
    ReturnsInHanded {} Tryd.checked os 8 .any ((Rows.OpenSpec.upto Rows.runesPartsSpec).preRow enc Tryd.prog Tryd.f8 Rows.runesPartsUptoRow.domain false Rows.runesPartsUptoRow.laid) (((Rows.OpenSpec.upto Rows.runesPartsSpec).at F).post enc Tryd.prog Tryd.f8 false true false false) := by
  obtain ⟨places, hx⟩ := reads os enc
  refine returnsInHanded_of_row (C := Tryd.checked) (s := (Rows.OpenSpec.upto Rows.runesPartsSpec)) own started (by kernel_rfl) Tryd.func8
    (witness_row_at (enc := enc) (C := Tryd.checked) false (laidWorld os) #[.int .u8 0, .slice none 0 0, .slice none 0 0, .string ByteArray.empty, .string ByteArray.empty] rfl (by kernel_rfl) (by kernel_rfl) (by kernel_rfl)
      (OpenSpec.preRow_of_cond 8 hx (by kernel_rfl) (fun k hk => by cases hk; kernel_rfl) (by kernel_rfl) (laid_met os))) ?_
  intro W base args ds gs before hval0 hW _ hcond hsz0 hL _ _
  have hsz : (DataW.weightsEach Tryd.prog (Tryd.f8.params.toList ++ (Rows.OpenSpec.upto Rows.runesPartsSpec).bare.plain.varTypes Tryd.prog) (ds ++ gs)).all (· ≤ reachBytes) = true := hsz0
  have hval : ∀ (j : Nat) t v, Tryd.f8.params[j]? = some t → args[j]? = some v → Value.okWide Tryd.prog W .any base t v := hval0
  have hk : Rows.uptoSmall H (ds ++ gs) = true := hcond _ rfl
  have hW' := hW
  obtain ⟨p, q, hA0, hV, rfl, hfz, hnd⟩ := hW
  have hA : DataW.TrodAll enc Tryd.prog W 0 (fun _ => true) true Tryd.f8.params.toList args.toList ds p := hA0
  rw [Tryd.params8] at hA hval hsz
  obtain ⟨v0, vs0, d0, ds0, p0, q0, hargs, rfl, rfl, h0, r0⟩ := trodAll_cons hA
  obtain ⟨v1, vs1, d1, ds1, p1, q1, rfl, rfl, rfl, h1, r1⟩ := trodAll_cons r0
  obtain ⟨v2, vs2, d2, ds2, p2, q2, rfl, rfl, rfl, h2, r2⟩ := trodAll_cons r1
  obtain ⟨v3, vs3, d3, ds3, p3, q3, rfl, rfl, rfl, h3, r3⟩ := trodAll_cons r2
  obtain ⟨v4, vs4, d4, ds4, p4, q4, rfl, rfl, rfl, h4, r4⟩ := trodAll_cons r3
  obtain ⟨rfl, rfl, rfl⟩ := trodAll_nil r4
  obtain rfl : args = #[v0, v1, v2, v3, v4] := by cases args; simp_all
  obtain ⟨rfl, rfl⟩ := trodVars_none hV
  have hb := bound hk
  simp only [List.append_nil, Rows.uptoBulkAll] at hb
  obtain ⟨a0, rfl, rfl, rfl, w0⟩ := open_int Tryd.underlying22 (hval 0 22 v0 rfl rfl) h0
  obtain ⟨a1, len1, cap1, rfl⟩ := okWide_slice Tryd.underlying30 (hval 1 30 v1 rfl rfl)
  have k1 := h1
  have lt1 : ∀ x ∈ p1, x.block < W.heap.size := by obtain ⟨m, hm⟩ := k1; exact DataW.trod_lt m _ _ _ hm
  obtain ⟨E1, e1, hc1, hcap1, hn1, hcell1, b1, w1⟩ := open_flat (bulks := fun H l => Rows.uptoBulkAll l) (fun _ => rfl) (fun _ _ _ => rfl) (fun _ _ _ => by simp only [Rows.uptoBulk]; omega) numF Tryd.underlying30 h1
  rw [sizes_len] at b1
  have z1 : E1.length ≤ 35184372088831 := by
    have hb4 : Tryd.prog.bytesOf 21 = 4 := by kernel_rfl
    have hr := reachBytes_lt
    rcases slice_len Tryd.underlying30 h1 with h | ⟨el, sp, h, hl⟩
    · omega
    · have z := sized_slice hsz (j := 1) (t := 30) rfl (by rw [h]; rfl) Tryd.underlying30
      rw [hb4] at z
      have hrb : reachBytes = 140737488351232 := rfl
      omega
  obtain ⟨a2, len2, cap2, rfl⟩ := okWide_slice Tryd.underlying30 (hval 2 30 v2 rfl rfl)
  have k2 := h2
  have lt2 : ∀ x ∈ p2, x.block < W.heap.size := by obtain ⟨m, hm⟩ := k2; exact DataW.trod_lt m _ _ _ hm
  obtain ⟨E2, e2, hc2, hcap2, hn2, hcell2, b2, w2⟩ := open_flat (bulks := fun H l => Rows.uptoBulkAll l) (fun _ => rfl) (fun _ _ _ => rfl) (fun _ _ _ => by simp only [Rows.uptoBulk]; omega) numF Tryd.underlying30 h2
  rw [sizes_len] at b2
  have z2 : E2.length ≤ 35184372088831 := by
    have hb4 : Tryd.prog.bytesOf 21 = 4 := by kernel_rfl
    have hr := reachBytes_lt
    rcases slice_len Tryd.underlying30 h2 with h | ⟨el, sp, h, hl⟩
    · omega
    · have z := sized_slice hsz (j := 2) (t := 30) rfl (by rw [h]; rfl) Tryd.underlying30
      rw [hb4] at z
      have hrb : reachBytes = 140737488351232 := rfl
      omega
  obtain ⟨a3, rfl, rfl, rfl, y3⟩ := open_string Tryd.underlying9 (hval 3 9 v3 rfl rfl) h3
  have w3 : a3.size ≤ 140737488351232 := by
    have z := sized_string hsz (j := 3) (t := 9) rfl rfl
    rw [Array.length_toList] at z
    exact z
  have b3 : a3.size + 1 ≤ Rows.uptoBulk (DataW.lit (H := H) (.string a3.data.toList)) := by simp only [Rows.uptoBulk, Array.length_toList]; exact Nat.le_refl _
  obtain ⟨a4, rfl, rfl, rfl, y4⟩ := open_string Tryd.underlying9 (hval 4 9 v4 rfl rfl) h4
  have w4 : a4.size ≤ 140737488351232 := by
    have z := sized_string hsz (j := 4) (t := 9) rfl rfl
    rw [Array.length_toList] at z
    exact z
  have b4 : a4.size + 1 ≤ Rows.uptoBulk (DataW.lit (H := H) (.string a4.data.toList)) := by simp only [Rows.uptoBulk, Array.length_toList]; exact Nat.le_refl _
  obtain ⟨ρ1, x1, bs1, HR1, ex1, rv1, hx1⟩ := slice_arg (sz := 1) (HR.empty Tryd.prog W (laid6 hL)) Tryd.underlying30 (hval 1 30 _ rfl rfl) hc1 hn1 hcell1
  rw [List.nil_append] at HR1
  have ra1 : Row (encI .i32) bs1 x1 E1 := row_arg (h := []) e1 rfl hx1
  obtain ⟨ρ2, x2, bs2, HR2, ex2, rv2, hx2⟩ := slice_arg (sz := 1) HR1 Tryd.underlying30 (hval 2 30 _ rfl rfl) hc2 hn2 hcell2
  have ra2 : Row (encI .i32) (bs1 ++ bs2) x2 E2 := row_arg e2 rfl (by simpa using hx2)
  replace ra1 : Row (encI .i32) (bs1 ++ bs2) x1 E1 := ra1.grows (Go.Proofs.YtmjnlbjnmmmlmaaDoor.AS.Grows.app _ _)
  replace rv1 := RV_mono ex2 (Go.Proofs.YtmjnlbjnmmmlmaaDoor.AS.Keep.refl _) _ _ rv1
  clear hA0 hval0 hsz0 hsz
  obtain ⟨x, Hp, ⟨k, hk9⟩, rfl, _⟩ := law8_FR (bs1 ++ bs2) a0 x1 x2 E1 E2 a3 a4 ra1 ra2 (by omega) (by omega) (by omega) (by omega)
  refine ((evFn_sound (base := W.heap.size) (W := W) hm TT_ok k 8 _ (bs1 ++ bs2) _ (hk9 k (Nat.le_refl k))).2 ρ2 W [.int .u8 a0, .slice a1 len1 cap1, .slice a2 len2 cap2, .string a3, .string a4] HR2 ⟨rfl, rv1, rv2, rfl, rfl, trivial⟩).mono fun e W' he => ?_
  obtain ⟨v, ρ', rfl, E'⟩ := he
  obtain rfl := E'.rv
  have bel : Below W.heap.size W W' := E'.hr.below
  exact ⟨_, rfl, _, _, _, [], _, [], hW', trodAll_mk1 (shut_bool Tryd.underlying4 _), (trodAll_cons_mk (shut_int Tryd.underlying22 w0) (trodAll_cons_mk (Below.trod laidOut (by kernel_rfl) (of_decide_eq_true (by kernel_rfl)) k1 bel lt1) (trodAll_cons_mk (Below.trod laidOut (by kernel_rfl) (of_decide_eq_true (by kernel_rfl)) k2 bel lt2) (trodAll_cons_mk (shut_string Tryd.underlying9 y3) (trodAll_cons_mk (shut_string Tryd.underlying9 y4) trodAll_mk0))))), rfl, bel.frame _, fun h => by cases h⟩
theorem said : Rows.RunesPartsUptoSaid :=
  OpenClaim.holds_of_cond 8 Tryd.f8 rfl rfl rfl rfl rfl rfl rfl ⟨rfl, rfl, rfl, rfl, rfl⟩ rfl rfl rfl rfl rfl (by kernel_rfl) Tryd.func8 (by kernel_rfl)
    (of_decide_eq_true (by kernel_rfl)) (by unfold Func.isWrapper; first | (rw [if_pos (by decide +kernel)]; kernel_rfl) | (rw [if_neg (by decide +kernel)]; exact ⟨rfl, rfl⟩))
    (fun os started H enc _ F => by rw [OpenClaim.pre_eq_preRow]; exact lifted os started H enc F)
/-- No parameter wants a stand-in; the program's own looks are off. -/
theorem plain (f : FuncId) (fn : Func) (hf : Tryd.pinned.checked.prog.funcNamed "missive/missivelaw06.RunesParts" = some f) (hfn : Tryd.pinned.checked.prog.funcs[f]? = some fn) :
    false = Tryd.pinned.checked.prog.looks [] ∧ ∀ (j : Nat) t, fn.params[j]? = some t → Tryd.pinned.checked.prog.wantsStandIn t = false := by
  obtain rfl : f = 8 := Option.some.inj ((show Tryd.prog.funcNamed "missive/missivelaw06.RunesParts" = some 8 by kernel_rfl).symm.trans hf) |>.symm
  obtain rfl : fn = Tryd.f8 := (Option.some.inj (Tryd.func8.symm.trans hfn)).symm
  refine ⟨by kernel_rfl, fun j t ht => ?_⟩
  rw [Tryd.params8] at ht
  have hm : t = 22 ∨ t = 30 ∨ t = 9 := by simpa using Array.mem_of_getElem? ht
  rcases hm with rfl | rfl | rfl
  · exact (show Tryd.prog.wantsStandIn 22 = false by kernel_rfl)
  · exact (show Tryd.prog.wantsStandIn 30 = false by kernel_rfl)
  · exact (show Tryd.prog.wantsStandIn 9 = false by kernel_rfl)
/-- The card. -/
theorem card : Rows.RunesPartsUptoCardSaid :=
  Claim7.holds_tied_plain_at .later [] _ _ _ _ said (fun _ h => by cases h) (by kernel_rfl) (fun _ h => by cases h) runesPartsUpto_row_tie rfl ⟨rfl, rfl⟩ (by kernel_rfl) rfl plain (by kernel_rfl)
#print axioms card
end Go.Proofs.YtmjnlbjnmmmlmaaDoor.runesParts
namespace Go.Proofs.YtmjnlbjnmmmlmaaDoor
/-- The card, under a short name, for the claim. -/
theorem runesParts_upto : Rows.RunesPartsUptoCardSaid := runesParts.card
end Go.Proofs.YtmjnlbjnmmmlmaaDoor
