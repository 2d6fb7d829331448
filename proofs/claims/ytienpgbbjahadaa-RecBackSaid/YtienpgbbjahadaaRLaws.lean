/- Two statements of records, over the printed functions. -/
import Derived.Test.YtienpgbbjahadaaREv
import Derived.Test.YtienpgbbjahadaaPA23
import Derived.Test.YtienpgbbjahadaaPA24
namespace Go.Proofs.YtienpgbbjahadaaV
open Go.RowKit Go.Proofs.YtienpgbbjahadaaW.PrintWords Go.Proofs.YtienpgbbjahadaaW.PrintLast Go.Proofs.YtienpgbbjahadaaW.PrintMore Go.Proofs.Ytienpgbbjahadaa.PA
set_option linter.unusedVariables false

theorem RecFrames_law : missivelaw02_RecFrames.Pure := by
  intro s f hs hf
  refine Ev.rounds ?_
  unfold missivelaw02_RecFrames.f
  refine Ev.bind (frame_ev s) ?_
  refine Ev.bind (frame_ref s) ?_
  refine Ev.bind (next_ev f (by omega)) ?_
  refine Ev.bind (next_ref f (by omega)) ?_
  refine Ev.bind lives2_ev (Ev_if rfl ?_)
  refine Ev.bind (sumOf_ev s (by omega)) ?_
  refine Ev.bind (sum_ref s (by omega)) ?_
  refine Ev_if rfl (Ev_if rfl (Ev_if rfl (Ev_if rfl (Ev_if rfl (Ev_const ?_)))))
  simp
theorem RecBack_law : missivelaw02_RecBack.Pure := by
  intro s more hs hm
  refine Ev.rounds ?_
  unfold missivelaw02_RecBack.f
  refine Ev.bind lives2_ev (Ev_if rfl ?_)
  refine Ev.bind (frame_ev s) ?_
  have hz := frames_size s
  by_cases h : (frames s).2 = 0
  · refine Ev_if h (Ev_if (by omega) ?_)
    refine Ev.bind (next_ev _ (by rw [ByteArray.size_append]; omega)) ?_
    rw [nexts_frames h more]
    refine Ev_if rfl (Ev_if rfl (Ev_const ?_))
    simp
  · refine Ev_ifn h (Ev_const ?_)
    have : (frames s).1 = ⟨#[]⟩ := by
      unfold frames at h ⊢
      split at h
      · rename_i h1; rw [if_pos h1]
      · exact absurd rfl h
    rw [this, empty_toList]; rfl
end Go.Proofs.YtienpgbbjahadaaV
