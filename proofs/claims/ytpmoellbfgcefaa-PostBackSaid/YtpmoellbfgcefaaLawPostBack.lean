/- missivelaw13.PostBack returns true for all lists and every string, and its arguments read as they did: by an abstract machine of our own that is sound for the model, and a walk of the law's code in it. -/
import Derived.Test.YtpmoellbfgcefaaA22
import Derived.Test.YtpmoellbfgcefaaRows
import Derived.WalkKit
import Derived.ProofKit
import Derived.OpenShut
import Derived.ShutString
import Derived.ChangeOld
import Derived.Below
import Derived.SizedLaws
import Derived.ChangeArms
import Derived.DataReads
set_option autoImplicit false
namespace Go.Proofs.Ytpmoellbfgcefaa.postBack
open Go Go.ChangeShapes Go.WideShapes Go.ChangeAt Go.RowKit
open Go.ChangeMaps (open_string shut_string)
open Go.Proofs.Ytpmoellbfgcefaa.AS (hm TP TP_ok back9_run evFn_sound HR.empty Flat open_flat slice_arg slice_len sizes cellW rowWOf)
set_option linter.unusedVariables false
set_option linter.unusedSimpArgs false
theorem own : ownKnob Try.prog.godebug = none := by kernel_rfl
theorem laidOut : laidOutB Try.prog = true := by kernel_rfl
/-- A number of 32 bits. -/
def numF : Flat Try.prog 32 Int (fun H d => Rows.uptoBulk d) where
  cells x := [.int .u32 x]
  sz := 1
  size _ := 0
  wf x := 0 ≤ x ∧ x ≤ 4294967295
  len _ := rfl
  cellsOf := by kernel_rfl
  opens H enc W fuel cs x h := by
    obtain ⟨k, hk1, rfl, hk2⟩ := DataW.trod_int Try.underlying32 h
    match cs, hk1 with
    | [u], hk1 =>
      simp at hk1
      subst hk1
      refine ⟨k, rfl, Nat.zero_le _, ?_⟩
      simp only [Lit.wf, IntKind.min, IntKind.max, IntKind.signed, IntKind.bits, Bool.and_eq_true] at hk2
      simpa using hk2
theorem row_arg (E : List Int) : rowWOf [(⟨0, 32, 1, false, (E.flatMap numF.cells).map .s⟩ : Go.Proofs.Ytpmoellbfgcefaa.AS.Blk)] (.sl 0 0 0 E.length 1) = some E := by
  have e : (E.flatMap numF.cells).map Go.Proofs.Ytpmoellbfgcefaa.AS.AV.s = E.map cellW := by
    rw [List.map_flatMap]
    induction E with
    | nil => rfl
    | cons x E ih => rw [List.flatMap_cons, ih]; rfl
  rw [e]
  simp only [rowWOf]
  have hb : Go.Proofs.Ytpmoellbfgcefaa.AS.bk [(⟨0, 32, 1, false, E.map cellW⟩ : Go.Proofs.Ytpmoellbfgcefaa.AS.Blk)] 0 = some ⟨0, 32, 1, false, E.map cellW⟩ := rfl
  rw [hb, Go.Proofs.Ytpmoellbfgcefaa.AS.rdK_s, if_pos ⟨rfl, by simp⟩, List.drop_zero, List.take_of_length_le (by simp)]
  exact Go.Proofs.Ytpmoellbfgcefaa.AS.intsWA_W E
set_option maxRecDepth 100000 in
theorem lifted (os : Os) (started : os.Started) (H : Type) (enc : TypeId × Value → H) :
    ReturnsInHanded {} Try.checked os 9 .any (Rows.postBackSpec.pre6 enc Try.prog Try.f9 Rows.postBackRow.domain false) (Rows.postBackSpec.post enc Try.prog Try.f9 false true false false) := by
  refine returnsInHanded_of_change_sized (C := Try.checked) own started (by kernel_rfl) Try.func9
    (ChangeSpec.witness6 (enc := enc) (C := Try.checked) false ⟨#[], #[.slice none 0 0, .string ByteArray.empty], []⟩ 8 (by kernel_rfl) (by kernel_rfl) (by kernel_rfl) (by kernel_rfl)) ?_
  intro W base args ds gs before hval0 hW hcnd hsz0 _
  have hsz : (DataW.weightsEach Try.prog (Try.f9.params.toList ++ Rows.postBackSpec.plain.varTypes Try.prog) (ds ++ gs)).all (· ≤ reachBytes) = true := hsz0
  have hval : ∀ (j : Nat) t v, Try.f9.params[j]? = some t → args[j]? = some v → Value.okWide Try.prog W .any base t v := hval0
  have hW' := hW
  obtain ⟨p, q, hA0, hV, rfl, hfz, hnd⟩ := hW
  have hA : DataW.TrodAll enc Try.prog W 0 (fun _ => true) true Try.f9.params.toList args.toList ds p := hA0
  rw [Try.params9] at hA hval hsz
  obtain ⟨v0, vs0, d0, ds0, p0, q0, hargs, rfl, rfl, h0, r0⟩ := trodAll_cons hA
  obtain ⟨v1, vs1, d1, ds1, p1, q1, rfl, rfl, rfl, h1, r1⟩ := trodAll_cons r0
  obtain ⟨rfl, rfl, rfl⟩ := trodAll_nil r1
  obtain rfl : args = #[v0, v1] := by cases args; simp_all
  obtain ⟨rfl, rfl⟩ := trodVars_none hV
  obtain ⟨a0, len0, cap0, rfl⟩ := okWide_slice Try.underlying23 (hval 0 23 v0 rfl rfl)
  have k0 := h0
  have lt0 : ∀ x ∈ p0, x.block < W.heap.size := by obtain ⟨m, hm⟩ := k0; exact DataW.trod_lt m _ _ _ hm
  obtain ⟨E, e0, hc0, hcap, hn0, hcell, b0, w0⟩ := open_flat (bulks := fun H l => Rows.uptoBulkAll l) (fun _ => rfl) (fun _ _ _ => rfl) (fun _ _ _ => by simp only [Rows.uptoBulk]; omega) numF Try.underlying23 h0
  obtain ⟨a1, rfl, rfl, rfl, y1⟩ := open_string Try.underlying9 (hval 1 9 v1 rfl rfl) h1
  have z1 : a1.size ≤ 140737488351232 := by
    have z := sized_string hsz (j := 1) (t := 9) rfl rfl
    rw [Array.length_toList] at z
    exact z
  have z0 : E.length ≤ 140737488355328 := by
    rcases slice_len Try.underlying23 h0 with h | ⟨el, sp, h, hl⟩
    · omega
    · have z := sized_slice hsz (j := 0) (t := 23) rfl (by rw [h]; rfl) Try.underlying23
      have hb : Try.prog.bytesOf 32 = 4 := by kernel_rfl
      have hr := reachBytes_lt
      rw [hb] at z
      omega
  obtain ⟨ρ, x0, bs, HR0, _, rv0, hx0⟩ := slice_arg (sz := 1) (HR.empty Try.prog W) Try.underlying23 (hval 0 23 _ rfl rfl) hc0 hn0 hcell
  clear hA0 hval0 hsz0 hsz
  rw [List.nil_append] at HR0
  have hrow : rowWOf bs x0 = some E := by
    rcases hx0 with ⟨rfl, rfl, h⟩ | ⟨rfl, rfl⟩
    · rw [h] at e0
      rw [List.length_eq_zero_iff.1 e0.symm]; rfl
    · rw [e0]; exact row_arg E
  obtain ⟨Hp, k, hk⟩ := back9_run x0 a1 E bs hrow (by omega) (by omega) w0
  refine ((evFn_sound (base := W.heap.size) (W := W) hm TP_ok k 9 _ bs _ (hk k (Nat.le_refl k))).2 ρ W [.slice a0 len0 cap0, .string a1] HR0 ⟨rv0, rfl, trivial⟩).mono fun e W' he => ?_
  obtain ⟨v, ρ', rfl, E'⟩ := he
  obtain rfl := E'.rv
  have bel : Below W.heap.size W W' := E'.hr.below
  exact ⟨_, rfl, _, _, _, [], _, [], hW', trodAll_mk1 (shut_bool Try.underlying4 _), (trodAll_cons_mk (Below.trod laidOut (by kernel_rfl) (of_decide_eq_true (by kernel_rfl)) k0 bel lt0) (trodAll_cons_mk (shut_string Try.underlying9 y1) trodAll_mk0)), rfl, bel.frame _, fun h => by cases h⟩
theorem over : Rows.postBackRow.holds Try.pinned (OpenSpec.ofChange Rows.postBackSpec) :=
  OpenClaim.holds_of_wide 9 Try.f9 rfl rfl rfl rfl rfl rfl rfl ⟨rfl, rfl, rfl, rfl, rfl⟩ rfl rfl rfl rfl rfl (by kernel_rfl) Try.func9 (by kernel_rfl)
    (of_decide_eq_true (by kernel_rfl)) (by unfold Func.isWrapper; first | (rw [if_pos (by decide +kernel)]; kernel_rfl) | (rw [if_neg (by decide +kernel)]; exact ⟨rfl, rfl⟩))
    (fun os started H enc _ => lifted os started H enc)
theorem proved : Rows.PostBackSaid := over
#print axioms proved
end Go.Proofs.Ytpmoellbfgcefaa.postBack
namespace Go.Proofs.Ytpmoellbfgcefaa
/-- The row, under a short name, for the claim. -/
theorem postBack_holds : Rows.PostBackSaid := postBack.proved
end Go.Proofs.Ytpmoellbfgcefaa
