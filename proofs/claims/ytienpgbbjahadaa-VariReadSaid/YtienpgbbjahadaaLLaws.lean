/- The two statements of lists, over the printed functions. -/
import Derived.Test.YtienpgbbjahadaaLEv
import Derived.Test.YtienpgbbjahadaaPA14
import Derived.Test.YtienpgbbjahadaaPA15
namespace Go.Proofs.YtienpgbbjahadaaV
open Go.RowKit Go.Proofs.YtienpgbbjahadaaW.PrintWords Go.Proofs.YtienpgbbjahadaaW.PrintLast Go.Proofs.YtienpgbbjahadaaW.PrintMore Go.Proofs.Ytienpgbbjahadaa.PA
set_option linter.unusedVariables false

theorem reads_length (s : ByteArray) : (reads s).1.length ≤ 65536 := by
  by_cases h : (reads s).2.2 = 0
  · exact (reads_ok h).2.2.2.2
  · rw [(reads_err h).1]; simp
theorem VariLists_law : missivelaw01_VariLists.Pure := by
  intro l s hl hl4 hw hs
  have hr : ∀ x ∈ l, 0 ≤ x ∧ x ≤ 4294967295 := fun x hx => wf_u32 (hw x hx)
  have := reads_length s
  refine Ev.rounds ?_
  unfold missivelaw01_VariLists.f
  refine Ev.bind (list_ev l hr) ?_
  refine Ev.bind (list_ref l hr) ?_
  refine Ev.bind (read_ev s (by omega)) ?_
  refine Ev.bind (read_ref s (by omega)) ?_
  refine Ev.bind lists_ok_ev ?_
  refine Ev_if rfl (Ev_if rfl (Ev_if rfl ?_))
  refine Ev.bind (same_ev _ _ (by omega)) ?_
  refine Ev_if (by simp) (Ev_if rfl (Ev_const ?_))
  simp

theorem rises_l (s : ByteArray) (l : List Int) (rest : ByteArray) (hl : l.length ≤ 65536) (hr : ∀ x ∈ l, 0 ≤ x ∧ x ≤ 4294967295) (hok : (lists l).2 = 0) (hrest : rest.size ≤ 140737488351232) (he : (lists l).1 ++ rest = s) : ∀ (d i : Nat), i + d = l.length →
    Ev (fun k => missivelaw01_VariRead.l0 k s l rest (l.length : Int) (i : Int)) true := by
  intro d
  induction d with
  | zero =>
    intro i hd
    refine Ev.step (f := fun k => (vari_List.f k l).bind fun u => if u.2 = 0 then (if u.1.size + rest.size ≤ 9223372036854775807 then (some ((u.1 ++ rest).toList == s.toList)) else (none)) else (some false)) (fun k => ?_) ?_
    · simp only [missivelaw01_VariRead.l0]
      rw [if_neg (by omega)]
    · refine Ev.bind (list_ev l hr) ?_
      have := lists_size hr
      refine Ev_if hok (Ev_if (by omega) (Ev_const ?_))
      rw [he]; simp
  | succ d ih =>
    intro i hd
    have w1 : wrap64 ((i : Int) + 1) = ((i + 1 : Nat) : Int) := by rw [w64 (by omega) (by omega)]; rfl
    refine Ev.step (f := fun k => missivelaw01_VariRead.l0 k s l rest (l.length : Int) ((i + 1 : Nat) : Int)) (fun k => ?_) (ih (i + 1) (by omega))
    simp only [missivelaw01_VariRead.l0]
    rw [if_pos (by omega)]
    by_cases h0 : i = 0
    · subst h0
      rw [if_neg (by omega), w1]
    · obtain ⟨j, rfl⟩ : ∃ j, i = j + 1 := ⟨i - 1, by omega⟩
      have wj : wrap64 (((j + 1 : Nat) : Int) - 1) = (j : Int) := by rw [w64 (by omega) (by omega)]; omega
      have := lists_rises hok j (by omega)
      rw [if_pos (by omega), if_pos (by omega), if_pos (by omega), wj, if_pos (by omega), if_pos (by omega), rd_nat, rd_nat, if_neg (by omega), w1]
theorem j0_ev (s : ByteArray) (hs : s.size ≤ 140737488351232) : Ev (fun k => missivelaw01_VariRead.j0 k s) true := by
  refine Ev.step (f := fun k => (vari_Read.f k s).bind fun b => (if b.2.2 = 0 then (missivelaw01_VariRead.l0 k s b.1 b.2.1 (b.1.length : Int) 0) else (if (b.1.length : Int) = 0 then (some (b.2.1.toList == ([] : List UInt8))) else (some false)))) (fun k => by simp only [missivelaw01_VariRead.j0]) ?_
  refine Ev.bind (read_ev s (by omega)) ?_
  by_cases h : (reads s).2.2 = 0
  · obtain ⟨hr, hok, he, hz, hl⟩ := reads_ok h
    exact Ev_if h (rises_l s (reads s).1 (reads s).2.1 hl hr hok (by omega) he (reads s).1.length 0 (by omega))
  · obtain ⟨e1, e2⟩ := reads_err h
    refine Ev_ifn h (Ev_if (by rw [e1]; rfl) (Ev_const ?_))
    rw [e2, empty_toList]; rfl
theorem VariRead_law : missivelaw01_VariRead.Pure := by
  intro l s hl hl4 hw hs
  have hr : ∀ x ∈ l, 0 ≤ x ∧ x ≤ 4294967295 := fun x hx => wf_u32 (hw x hx)
  refine Ev.rounds ?_
  unfold missivelaw01_VariRead.f
  refine Ev.bind lists_ok_ev (Ev_if rfl ?_)
  refine Ev.bind (list_ev l hr) ?_
  have hz := lists_size hr
  by_cases h : (lists l).2 = 0
  · refine Ev_if h (Ev_if (by omega) ?_)
    refine Ev.bind (read_ev _ (by rw [ByteArray.size_append]; omega)) ?_
    rw [reads_lists hr h s]
    have hl2 : l.length ≤ 65536 := by
      unfold lists at h
      split at h
      · cases h
      · omega
    refine Ev_if rfl ?_
    refine Ev.bind (same_ev _ _ (by simp only; omega)) ?_
    exact Ev_if (by simp) (Ev_if rfl (j0_ev s hs))
  · exact Ev_ifn h (j0_ev s hs)
end Go.Proofs.YtienpgbbjahadaaV
