/- missivetop.TopPosted returns true for all lists and every number, and its arguments read as they did: by an abstract machine of our own that is sound for the model, and a walk of the law's code in it. -/
import Derived.Test.YtpmoellbfgcefaaA26
import Derived.Test.YtpmoellbfgcefaaRows
import Derived.WalkKit
import Derived.ProofKit
import Derived.OpenShut
import Derived.ShutString
import Derived.ChangeOld
import Derived.Below
import Derived.SizedLaws
import Derived.ChangeArms
import Derived.DataReads
set_option autoImplicit false
namespace Go.Proofs.Ytpmoellbfgcefaa.topPosted
open Go Go.ChangeShapes Go.WideShapes Go.ChangeAt Go.RowKit
open Go.Proofs.Ytpmoellbfgcefaa.AS (hm TT_ok law11_FR evFn_sound HR.empty Flat open_flat slice_arg slice_len sizes Row encI RV_mono)
set_option linter.unusedVariables false
set_option linter.unusedSimpArgs false
theorem own : ownKnob Try.prog.godebug = none := by kernel_rfl
theorem laidOut : laidOutB Try.prog = true := by kernel_rfl
/-- A number of 32 bits. -/
def numF : Flat Try.prog 32 Int (fun H d => Rows.uptoBulk d) where
  cells x := [.int .u32 x]
  sz := 1
  size _ := 0
  wf x := 0 ≤ x ∧ x ≤ 4294967295
  len _ := rfl
  cellsOf := by kernel_rfl
  opens H enc W fuel cs x h := by
    obtain ⟨k, hk1, rfl, hk2⟩ := DataW.trod_int Try.underlying32 h
    match cs, hk1 with
    | [u], hk1 =>
      simp at hk1
      subst hk1
      refine ⟨k, rfl, Nat.zero_le _, ?_⟩
      simp only [Lit.wf, IntKind.min, IntKind.max, IntKind.signed, IntKind.bits, Bool.and_eq_true] at hk2
      simpa using hk2
theorem flat_cells (E : List Int) : (E.flatMap numF.cells).map Go.Proofs.Ytpmoellbfgcefaa.AS.AV.s = E.flatMap (encI .u32).cells := by
  induction E with
  | nil => rfl
  | cons x E ih => rw [List.flatMap_cons, List.map_append, ih, List.flatMap_cons]; rfl
/-- What a slice among the arguments reads. -/
theorem row_arg {h h1 bs : Go.Proofs.Ytpmoellbfgcefaa.AS.Heap} {x : Go.Proofs.Ytpmoellbfgcefaa.AS.AV} {E : List Int} {n : Nat} (hn : n = E.length) (he : h1 = h ++ bs) (hx : (x = .s (.slice none 0 0) ∧ bs = [] ∧ n = 0) ∨ (x = .sl h.length 0 0 n 1 ∧ bs = [⟨0, 32, 1, false, (E.flatMap numF.cells).map .s⟩])) : Row (encI .u32) h1 x E := by
  subst he
  rcases hx with ⟨rfl, rfl, h⟩ | ⟨rfl, rfl⟩
  · exact .inl ⟨rfl, List.length_eq_zero_iff.1 (by omega)⟩
  · refine .inr ⟨h.length, 0, 0, _, by rw [hn]; rfl, Go.Proofs.Ytpmoellbfgcefaa.AS.bk_new, rfl, ?_, ?_⟩
    · rw [flat_cells, Go.Proofs.Ytpmoellbfgcefaa.AS.Enc.flat_len]; omega
    · rw [flat_cells, List.drop_zero, List.take_of_length_le (by rw [Go.Proofs.Ytpmoellbfgcefaa.AS.Enc.flat_len]; exact Nat.le_refl _)]
set_option maxRecDepth 100000 in
theorem lifted (os : Os) (started : os.Started) (H : Type) (enc : TypeId × Value → H) :
    ReturnsInHanded {} Try.checked os 11 .any (Rows.topPostedSpec.pre6 enc Try.prog Try.f11 Rows.topPostedRow.domain false) (Rows.topPostedSpec.post enc Try.prog Try.f11 false true false false) := by
  refine returnsInHanded_of_change_sized (C := Try.checked) own started (by kernel_rfl) Try.func11
    (ChangeSpec.witness6 (enc := enc) (C := Try.checked) false ⟨#[], #[.slice none 0 0, .slice none 0 0, .int .u32 0], []⟩ 8 (by kernel_rfl) (by kernel_rfl) (by kernel_rfl) (by kernel_rfl)) ?_
  intro W base args ds gs before hval0 hW hcnd hsz0 _
  have hsz : (DataW.weightsEach Try.prog (Try.f11.params.toList ++ Rows.topPostedSpec.plain.varTypes Try.prog) (ds ++ gs)).all (· ≤ reachBytes) = true := hsz0
  have hval : ∀ (j : Nat) t v, Try.f11.params[j]? = some t → args[j]? = some v → Value.okWide Try.prog W .any base t v := hval0
  have hW' := hW
  obtain ⟨p, q, hA0, hV, rfl, hfz, hnd⟩ := hW
  have hA : DataW.TrodAll enc Try.prog W 0 (fun _ => true) true Try.f11.params.toList args.toList ds p := hA0
  rw [Try.params11] at hA hval hsz
  obtain ⟨v0, vs0, d0, ds0, p0, q0, hargs, rfl, rfl, h0, r0⟩ := trodAll_cons hA
  obtain ⟨v1, vs1, d1, ds1, p1, q1, rfl, rfl, rfl, h1, r1⟩ := trodAll_cons r0
  obtain ⟨v2, vs2, d2, ds2, p2, q2, rfl, rfl, rfl, h2, r2⟩ := trodAll_cons r1
  obtain ⟨rfl, rfl, rfl⟩ := trodAll_nil r2
  obtain rfl : args = #[v0, v1, v2] := by cases args; simp_all
  obtain ⟨rfl, rfl⟩ := trodVars_none hV
  obtain ⟨a0, len0, cap0, rfl⟩ := okWide_slice Try.underlying23 (hval 0 23 v0 rfl rfl)
  obtain ⟨a1, len1, cap1, rfl⟩ := okWide_slice Try.underlying23 (hval 1 23 v1 rfl rfl)
  have k0 := h0
  have k1 := h1
  have lt0 : ∀ x ∈ p0, x.block < W.heap.size := by obtain ⟨m, hm⟩ := k0; exact DataW.trod_lt m _ _ _ hm
  have lt1 : ∀ x ∈ p1, x.block < W.heap.size := by obtain ⟨m, hm⟩ := k1; exact DataW.trod_lt m _ _ _ hm
  obtain ⟨E, e0, hc0, hcap, hn0, hcell, b0, w0⟩ := open_flat (bulks := fun H l => Rows.uptoBulkAll l) (fun _ => rfl) (fun _ _ _ => rfl) (fun _ _ _ => by simp only [Rows.uptoBulk]; omega) numF Try.underlying23 h0
  obtain ⟨E1, e1, hc1, hcap1, hn1, hcell1, b1, w1⟩ := open_flat (bulks := fun H l => Rows.uptoBulkAll l) (fun _ => rfl) (fun _ _ _ => rfl) (fun _ _ _ => by simp only [Rows.uptoBulk]; omega) numF Try.underlying23 h1
  obtain ⟨a2, rfl, rfl, rfl, w2⟩ := open_int Try.underlying32 (hval 2 32 v2 rfl rfl) h2
  have hb : Try.prog.bytesOf 32 = 4 := by kernel_rfl
  have hr := reachBytes_lt
  have z0 : E.length ≤ 140737488355328 := by
    rcases slice_len Try.underlying23 h0 with h | ⟨el, sp, h, hl⟩
    · omega
    · have z := sized_slice hsz (j := 0) (t := 23) rfl (by rw [h]; rfl) Try.underlying23
      rw [hb] at z
      omega
  have z1 : E1.length ≤ 140737488355328 := by
    rcases slice_len Try.underlying23 h1 with h | ⟨el, sp, h, hl⟩
    · omega
    · have z := sized_slice hsz (j := 1) (t := 23) rfl (by rw [h]; rfl) Try.underlying23
      rw [hb] at z
      omega
  obtain ⟨ρ, x0, bs, HR0, _, rv0, hx0⟩ := slice_arg (sz := 1) (HR.empty Try.prog W) Try.underlying23 (hval 0 23 _ rfl rfl) hc0 hn0 hcell
  obtain ⟨ρ1, x1, bs1, HR1, ex1, rv1, hx1⟩ := slice_arg (sz := 1) HR0 Try.underlying23 (hval 1 23 _ rfl rfl) hc1 hn1 hcell1
  clear hA0 hval0 hsz0 hsz
  rw [List.nil_append] at HR1
  have ra : Row (encI .u32) bs x0 E := row_arg (h := []) e0 rfl hx0
  have rb : Row (encI .u32) (bs ++ bs1) x1 E1 := row_arg e1 rfl (by simpa using hx1)
  obtain ⟨x, Hp, ⟨k, hk⟩, rfl⟩ := law11_FR _ _ _ E E1 a2 (ra.grows (Go.Proofs.Ytpmoellbfgcefaa.AS.Grows.app _ _)) rb z0 z1 w0 w1
  refine ((evFn_sound (base := W.heap.size) (W := W) hm TT_ok k 11 _ (bs ++ bs1) _ (hk k (Nat.le_refl k))).2 ρ1 W [.slice a0 len0 cap0, .slice a1 len1 cap1, .int .u32 a2] HR1 ⟨RV_mono ex1 (Go.Proofs.Ytpmoellbfgcefaa.AS.Keep.refl _) _ _ rv0, rv1, rfl, trivial⟩).mono fun e W' he => ?_
  obtain ⟨v, ρ', rfl, E'⟩ := he
  obtain rfl := E'.rv
  have bel : Below W.heap.size W W' := E'.hr.below
  exact ⟨_, rfl, _, _, _, [], _, [], hW', trodAll_mk1 (shut_bool Try.underlying4 _), (trodAll_cons_mk (Below.trod laidOut (by kernel_rfl) (of_decide_eq_true (by kernel_rfl)) k0 bel lt0) (trodAll_cons_mk (Below.trod laidOut (by kernel_rfl) (of_decide_eq_true (by kernel_rfl)) k1 bel lt1) (trodAll_cons_mk (shut_int Try.underlying32 w2) trodAll_mk0))), rfl, bel.frame _, fun h => by cases h⟩
theorem over : Rows.topPostedRow.holds Try.pinned (OpenSpec.ofChange Rows.topPostedSpec) :=
  OpenClaim.holds_of_wide 11 Try.f11 rfl rfl rfl rfl rfl rfl rfl ⟨rfl, rfl, rfl, rfl, rfl⟩ rfl rfl rfl rfl rfl (by kernel_rfl) Try.func11 (by kernel_rfl)
    (of_decide_eq_true (by kernel_rfl)) (by unfold Func.isWrapper; first | (rw [if_pos (by decide +kernel)]; kernel_rfl) | (rw [if_neg (by decide +kernel)]; exact ⟨rfl, rfl⟩))
    (fun os started H enc _ => lifted os started H enc)
theorem proved : Rows.TopPostedSaid := over
#print axioms proved
end Go.Proofs.Ytpmoellbfgcefaa.topPosted
namespace Go.Proofs.Ytpmoellbfgcefaa
/-- The row, under a short name, for the claim. -/
theorem topPosted_holds : Rows.TopPostedSaid := topPosted.proved
end Go.Proofs.Ytpmoellbfgcefaa
