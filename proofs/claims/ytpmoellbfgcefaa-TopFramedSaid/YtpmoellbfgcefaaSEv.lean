/- What the printed functions of joined records come to. -/
import Derived.Test.YtpmoellbfgcefaaS
import Derived.Test.YtpmoellbfgcefaaREv
import Derived.Test.YtpmoellbfgcefaaPA21
import Derived.Test.YtpmoellbfgcefaaPA22
namespace Go.Proofs.YtpmoellbfgcefaaV
open Go.RowKit Go.Proofs.YtpmoellbfgcefaaW.PrintWords Go.Proofs.YtpmoellbfgcefaaW.PrintLast Go.Proofs.YtpmoellbfgcefaaW.PrintMore Go.Proofs.Ytpmoellbfgcefaa.PA
set_option linter.unusedVariables false

theorem join_l (l : List ByteArray) (hl : l.length ≤ 8000000000000) : ∀ (d i : Nat) (acc : ByteArray), i + d = l.length → acc.size ≤ 1048590 * i →
    Ev (fun k => rec_Join.l0 k acc l (l.length : Int) (i : Int)) (joinsF acc (l.drop i)) := by
  intro d
  induction d with
  | zero =>
    intro i acc hd ha
    refine Ev_one fun k => ?_
    simp only [rec_Join.l0]
    rw [if_neg (by omega), List.drop_eq_nil_of_le (by omega)]
    rfl
  | succ d ih =>
    intro i acc hd ha
    have hi : i < l.length := by omega
    rw [drop_getDB hi]
    have hz := frames_size (l.getD i ByteArray.empty)
    refine Ev.step (f := fun k => (rec_Frame.f k (l.getD i ByteArray.empty)).bind fun b => if b.2 = 0 then (if acc.size + b.1.size ≤ 9223372036854775807 then rec_Join.l0 k (acc ++ b.1) l (l.length : Int) ((i + 1 : Nat) : Int) else none) else some (⟨#[]⟩, b.2)) (fun k => ?_) ?_
    · simp only [rec_Join.l0, rdOf_nat]
      rw [if_pos (by omega), if_pos (by omega), if_pos (by omega), w64 (by omega) (by omega)]; rfl
    · refine Ev.bind (frame_ev _) ?_
      rw [joinsF]
      by_cases h : (frames (l.getD i ByteArray.empty)).2 = 0
      · rw [if_pos h]
        exact Ev_if h (Ev_if (by omega) (ih (i + 1) _ (by omega) (by rw [ByteArray.size_append]; omega)))
      · rw [if_neg h]
        exact Ev_ifn h (Ev.now _)
theorem join_ev (l : List ByteArray) (hl : l.length ≤ 8000000000000) : Ev (fun k => rec_Join.f k l) (joins l) := by
  have := join_l l hl l.length 0 ⟨#[]⟩ (by omega) (by decide)
  rw [List.drop_zero] at this
  exact this
theorem all_l (s : ByteArray) (hs : s.size ≤ 8000000000000) : ∀ t : ByteArray, ∀ acc : List ByteArray, ∀ i : Nat, i ≤ s.size → s.extract i s.size = t → acc.length ≤ i →
    Ev (fun k => rec_All.l0 k s acc (i : Int)) (acc ++ (alls t).1, (s.size : Int) - ((alls t).2.size : Int)) := by
  refine alls_ind ?_ ?_
  · intro t h ih acc i hi he ha
    have hsz : t.size = s.size - i := by rw [← he, ByteArray.size_extract]; omega
    have hsm := nexts_smaller h
    obtain ⟨_, et⟩ := nexts_ok h
    refine Ev.step (f := fun k => (rec_Next.f k t).bind fun b => if b.2.2 = 0 then (if acc.length < 8796093022208 then rec_All.l0 k s (acc ++ [b.1]) (wrap64 ((s.size : Int) - (b.2.1.size : Int))) else none) else some (acc, (i : Int))) (fun k => ?_) ?_
    · simp only [rec_All.l0]
      rw [if_pos (by omega), if_pos (by omega), Int.toNat_natCast, he]
    · refine Ev.bind (next_ev t (by omega)) ?_
      refine Ev_if h (Ev_if (by omega) ?_)
      rw [w64 (by omega) (by omega), show (s.size : Int) - ((nexts t).2.1.size : Int) = ((s.size - (nexts t).2.1.size : Nat) : Int) by omega, alls_step h]
      have := ih (acc ++ [(nexts t).1]) (s.size - (nexts t).2.1.size) (by omega) ?_ (by simp; omega)
      · simpa using this
      · have e2 := take_rest s i hi
        rw [he] at e2
        have hz := congrArg ByteArray.size et
        rw [ByteArray.size_append] at hz
        have e3 : s = (s.extract 0 i ++ (frames (nexts t).1).1) ++ (nexts t).2.1 := by rw [ByteArray.append_assoc, ← et]; exact e2.symm
        have h0 : (s.extract 0 i).size = i := by rw [ByteArray.size_extract]; omega
        have h4 := extract_tail (a := s.extract 0 i ++ (frames (nexts t).1).1) (b := (nexts t).2.1) (n := s.size - (nexts t).2.1.size) (by rw [ByteArray.size_append]; omega)
        rw [← e3] at h4
        exact h4
  · intro t h acc i hi he ha
    have hsz : t.size = s.size - i := by rw [← he, ByteArray.size_extract]; omega
    refine Ev.step (f := fun k => (rec_Next.f k t).bind fun b => if b.2.2 = 0 then (if acc.length < 8796093022208 then rec_All.l0 k s (acc ++ [b.1]) (wrap64 ((s.size : Int) - (b.2.1.size : Int))) else none) else some (acc, (i : Int))) (fun k => ?_) ?_
    · simp only [rec_All.l0]
      rw [if_pos (by omega), if_pos (by omega), Int.toNat_natCast, he]
    · refine Ev.bind (next_ev t (by omega)) (Ev_ifn h (Ev_const ?_))
      rw [alls_end h]
      simp only [List.append_nil]
      rw [show (s.size : Int) - (t.size : Int) = (i : Int) by omega]
theorem all_ev (s : ByteArray) (hs : s.size ≤ 8000000000000) : Ev (fun k => rec_All.f k s) ((alls s).1, (s.size : Int) - ((alls s).2.size : Int)) := by
  have := all_l s hs s [] 0 (by omega) (by simp) (by simp)
  rw [List.nil_append] at this
  exact this
end Go.Proofs.YtpmoellbfgcefaaV
