/- missivelaw14.DictFound returns true for all entries and every number, where their bulk together is at most 1048576, and its arguments read as they did: by an abstract machine of our own that is sound for the model, and a walk of the law's code in it. -/
import Derived.Test.YtpmoellbfgcefaaA17
import Derived.Test.YtpmoellbfgcefaaRows
import Derived.WalkKit
import Derived.ProofKit
import Derived.OpenShut
import Derived.ShutString
import Derived.ChangeOld
import Derived.Below
import Derived.SizedLaws
import Derived.ChangeArms
import Derived.DataReads
set_option autoImplicit false
namespace Go.Proofs.Ytpmoellbfgcefaa.dictFound
open Go Go.ChangeShapes Go.WideShapes Go.ChangeAt Go.RowKit
open Go.ChangeMaps (open_string shut_string)
open Go.Proofs.Ytpmoellbfgcefaa.AS (hm TW TW_ok found_run evFn_sound HR.empty Flat open_flat slice_arg sizes entC rowOf dsz)
set_option linter.unusedVariables false
set_option linter.unusedSimpArgs false
theorem own : ownKnob Try.prog.godebug = none := by kernel_rfl
theorem laidOut : laidOutB Try.prog = true := by kernel_rfl
theorem bound {H : Type} {l : List (DataW H)} (hk : Rows.uptoSmall H l = true) : Rows.uptoBulkAll l ≤ 1048576 := by
  unfold Rows.uptoSmall at hk
  exact of_decide_eq_true hk
/-- An entry. -/
def entF : Flat Try.prog 52 (Int × ByteArray) (fun H d => Rows.uptoBulk d) where
  cells x := [.int .u64 x.1, .string x.2]
  sz := 2
  size x := x.2.size + 1
  wf x := 0 ≤ x.1 ∧ x.1 ≤ 18446744073709551615
  len _ := rfl
  cellsOf := by kernel_rfl
  opens H enc W fuel cs x h := by
    obtain ⟨y0, y1, n, rfl, hl, h0, h1⟩ := trod_struct2 Try.underlying52 h
    have hs : Try.prog.cellsOf 52 = 2 := by kernel_rfl
    have hs0 : Try.prog.cellsOf 35 = 1 := by kernel_rfl
    have hs1 : Try.prog.cellsOf 9 = 1 := by kernel_rfl
    rw [hs] at hl
    rw [hs0] at h0
    rw [hs1] at h1
    match cs, hl with
    | [u, v], _ =>
      obtain ⟨k, hk1, rfl, hk2⟩ := DataW.trod_int Try.underlying35 h0
      obtain ⟨s, hs1, rfl, hs2⟩ := DataW.trod_string Try.underlying9 h1
      simp at hk1 hs1
      subst hk1 hs1
      refine ⟨(k, s), rfl, ?_, Go.Proofs.Ytpmoellbfgcefaa.AS.V.wf_u64 hk2⟩
      simp only [Rows.uptoBulk, Rows.uptoBulkAll, Array.length_toList]
      exact Nat.le_add_right_of_le (Nat.le_add_left_of_le (Nat.le_refl _))
theorem sizes_le : ∀ l : List (Int × ByteArray), dsz l ≤ sizes entF.size l ∧ l.length ≤ sizes entF.size l
  | [] => ⟨Nat.le_refl _, Nat.le_refl _⟩
  | x :: l => by
    have := sizes_le l
    simp only [dsz, sizes, List.length_cons, entF] at this ⊢
    omega
theorem row_arg (E : List (Int × ByteArray)) : Go.Proofs.Ytpmoellbfgcefaa.AS.rowOf [(⟨0, 52, 2, false, (E.flatMap entF.cells).map .s⟩ : Go.Proofs.Ytpmoellbfgcefaa.AS.Blk)] (.sl 0 0 0 E.length 2) = some E := by
  have e : (E.flatMap entF.cells).map Go.Proofs.Ytpmoellbfgcefaa.AS.AV.s = E.flatMap entC := by
    rw [List.map_flatMap]; rfl
  have hl := Go.Proofs.Ytpmoellbfgcefaa.AS.entC_len E
  rw [e]
  simp only [rowOf]
  have hb : Go.Proofs.Ytpmoellbfgcefaa.AS.bk [(⟨0, 52, 2, false, E.flatMap entC⟩ : Go.Proofs.Ytpmoellbfgcefaa.AS.Blk)] 0 = some ⟨0, 52, 2, false, E.flatMap entC⟩ := rfl
  rw [hb, Go.Proofs.Ytpmoellbfgcefaa.AS.rdK_s, if_pos ⟨rfl, by omega⟩, List.drop_zero, List.take_of_length_le (by omega)]
  exact Go.Proofs.Ytpmoellbfgcefaa.AS.entsA_entC E
set_option maxRecDepth 100000 in
theorem lifted (os : Os) (started : os.Started) (H : Type) (enc : TypeId × Value → H) (F : Stop.Interp) :
    ReturnsInHanded {} Try.checked os 7 .any ((Rows.OpenSpec.upto Rows.dictFoundSpec).pre6 enc Try.prog Try.f7 Rows.dictFoundUptoRow.domain false) (((Rows.OpenSpec.upto Rows.dictFoundSpec).at F).post enc Try.prog Try.f7 false true false false) := by
  refine returnsInHanded_of_cond (C := Try.checked) (s := Rows.OpenSpec.upto Rows.dictFoundSpec) (k := Rows.uptoSmall) rfl own started (by kernel_rfl) Try.func7
    (OpenSpec.witness (enc := enc) (C := Try.checked) (s := Rows.OpenSpec.upto Rows.dictFoundSpec) (k := Rows.uptoSmall) rfl false ⟨#[], #[.slice none 0 0, .int .u64 0], []⟩ 8 (by kernel_rfl) (by kernel_rfl) (by kernel_rfl)
      (x := ([.nil, .lit (.int .u64 0)], [], [])) (by kernel_rfl) rfl (by kernel_rfl)) ?_
  intro W base args ds gs before hval0 hW _ hk0 _
  have hk : Rows.uptoSmall H (ds ++ gs) = true := hk0
  have hval : ∀ (j : Nat) t v, Try.f7.params[j]? = some t → args[j]? = some v → Value.okWide Try.prog W .any base t v := hval0
  have hW' := hW
  obtain ⟨p, q, hA0, hV, rfl, hfz, hnd⟩ := hW
  have hA : DataW.TrodAll enc Try.prog W 0 (fun _ => true) true Try.f7.params.toList args.toList ds p := hA0
  rw [Try.params7] at hA hval
  obtain ⟨v0, vs0, d0, ds0, p0, q0, hargs, rfl, rfl, h0, r0⟩ := trodAll_cons hA
  obtain ⟨v1, vs1, d1, ds1, p1, q1, rfl, rfl, rfl, h1, r1⟩ := trodAll_cons r0
  obtain ⟨rfl, rfl, rfl⟩ := trodAll_nil r1
  obtain rfl : args = #[v0, v1] := by cases args; simp_all
  obtain ⟨rfl, rfl⟩ := trodVars_none hV
  have hb := bound hk
  simp only [List.append_nil, Rows.uptoBulkAll] at hb
  obtain ⟨a0, len0, cap0, rfl⟩ := okWide_slice Try.underlying38 (hval 0 38 v0 rfl rfl)
  have k0 := h0
  have lt0 : ∀ x ∈ p0, x.block < W.heap.size := by obtain ⟨m, hm⟩ := k0; exact DataW.trod_lt m _ _ _ hm
  obtain ⟨E, e0, hc0, _, hn0, hcell, b0, w0⟩ := open_flat (bulks := fun H l => Rows.uptoBulkAll l) (fun _ => rfl) (fun _ _ _ => rfl) (fun _ _ _ => by simp only [Rows.uptoBulk]; omega) entF Try.underlying38 h0
  obtain ⟨a1, rfl, rfl, rfl, y1⟩ := open_int Try.underlying35 (hval 1 35 v1 rfl rfl) h1
  obtain ⟨ρ, x0, bs, HR0, _, rv0, hx0⟩ := slice_arg (sz := 2) (HR.empty Try.prog W) Try.underlying38 (hval 0 38 _ rfl rfl) hc0 hn0 hcell
  clear hA0 hval0 hk hk0
  rw [List.nil_append] at HR0
  have hrow : rowOf bs x0 = some E := by
    rcases hx0 with ⟨rfl, rfl, h⟩ | ⟨rfl, rfl⟩
    · rw [h] at e0
      rw [List.length_eq_zero_iff.1 e0.symm]; rfl
    · rw [e0]; exact row_arg E
  have hs := sizes_le E
  have b0 : sizes entF.size E ≤ Rows.uptoBulk d0 := b0
  obtain ⟨Hp, k, hk⟩ := found_run x0 a1 E bs hrow (by omega) (by omega) w0
  refine ((evFn_sound (base := W.heap.size) (W := W) hm TW_ok k 7 _ bs _ (hk k (Nat.le_refl k))).2 ρ W [.slice a0 len0 cap0, .int .u64 a1] HR0 ⟨rv0, rfl, trivial⟩).mono fun e W' he => ?_
  obtain ⟨v, ρ', rfl, E'⟩ := he
  obtain rfl := E'.rv
  have bel : Below W.heap.size W W' := E'.hr.below
  exact ⟨_, rfl, _, _, _, [], _, [], hW', trodAll_mk1 (shut_bool Try.underlying4 _), (trodAll_cons_mk (Below.trod laidOut (by kernel_rfl) (of_decide_eq_true (by kernel_rfl)) k0 bel lt0) (trodAll_cons_mk (shut_int Try.underlying35 y1) trodAll_mk0)), rfl, bel.frame _, fun h => by cases h⟩
/-- DictFound, where what it reads is of bulk at most 1048576. -/
theorem proved : Rows.DictFoundUptoSaid :=
  OpenClaim.holds_of_cond 7 Try.f7 rfl rfl rfl rfl rfl rfl rfl ⟨rfl, rfl, rfl, rfl, rfl⟩ rfl rfl rfl rfl rfl (by kernel_rfl) Try.func7 (by kernel_rfl)
    (of_decide_eq_true (by kernel_rfl)) (by unfold Func.isWrapper; first | (rw [if_pos (by decide +kernel)]; kernel_rfl) | (rw [if_neg (by decide +kernel)]; exact ⟨rfl, rfl⟩))
    (fun os started H enc _ F => lifted os started H enc F)
#print axioms proved
end Go.Proofs.Ytpmoellbfgcefaa.dictFound
namespace Go.Proofs.Ytpmoellbfgcefaa
theorem dictFound_upto : Rows.DictFoundUptoSaid := dictFound.proved
end Go.Proofs.Ytpmoellbfgcefaa
