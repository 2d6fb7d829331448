/- What the printed functions of joined records come to. -/
import Derived.Test.YtienpgbbjahadaaS
import Derived.Test.YtienpgbbjahadaaREv
import Derived.Test.YtienpgbbjahadaaPA20
import Derived.Test.YtienpgbbjahadaaPA21
import Derived.Test.YtienpgbbjahadaaPA23
import Derived.Test.YtienpgbbjahadaaPA24
namespace Go.Proofs.YtienpgbbjahadaaV
open Go.RowKit Go.Proofs.YtienpgbbjahadaaW.PrintWords Go.Proofs.YtienpgbbjahadaaW.PrintLast Go.Proofs.YtienpgbbjahadaaW.PrintMore Go.Proofs.Ytienpgbbjahadaa.PA
set_option linter.unusedVariables false

theorem join_l (l : List ByteArray) (hl : l.length ≤ 8000000000000) : ∀ (d i : Nat) (acc : ByteArray), i + d = l.length → acc.size ≤ 1048590 * i →
    Ev (fun k => rec_Join.l0 k acc l (l.length : Int) (i : Int)) (joinsF acc (l.drop i)) := by
  intro d
  induction d with
  | zero =>
    intro i acc hd ha
    refine Ev_one fun k => ?_
    simp only [rec_Join.l0]
    rw [if_neg (by omega), List.drop_eq_nil_of_le (by omega)]
    rfl
  | succ d ih =>
    intro i acc hd ha
    have hi : i < l.length := by omega
    rw [drop_getDB hi]
    have hz := frames_size (l.getD i ByteArray.empty)
    refine Ev.step (f := fun k => (rec_Frame.f k (l.getD i ByteArray.empty)).bind fun b => if b.2 = 0 then (if acc.size + b.1.size ≤ 9223372036854775807 then rec_Join.l0 k (acc ++ b.1) l (l.length : Int) ((i + 1 : Nat) : Int) else none) else some (⟨#[]⟩, b.2)) (fun k => ?_) ?_
    · simp only [rec_Join.l0, rdOf_nat]
      rw [if_pos (by omega), if_pos (by omega), if_pos (by omega), w64 (by omega) (by omega)]; rfl
    · refine Ev.bind (frame_ev _) ?_
      rw [joinsF]
      by_cases h : (frames (l.getD i ByteArray.empty)).2 = 0
      · rw [if_pos h]
        exact Ev_if h (Ev_if (by omega) (ih (i + 1) _ (by omega) (by rw [ByteArray.size_append]; omega)))
      · rw [if_neg h]
        exact Ev_ifn h (Ev.now _)
theorem join_ev (l : List ByteArray) (hl : l.length ≤ 8000000000000) : Ev (fun k => rec_Join.f k l) (joins l) := by
  have := join_l l hl l.length 0 ⟨#[]⟩ (by omega) (by decide)
  rw [List.drop_zero] at this
  exact this
theorem all_l (s : ByteArray) (hs : s.size ≤ 8000000000000) : ∀ t : ByteArray, ∀ acc : List ByteArray, ∀ i : Nat, i ≤ s.size → s.extract i s.size = t → acc.length ≤ i →
    Ev (fun k => rec_All.l0 k s acc (i : Int)) (acc ++ (alls t).1, (s.size : Int) - ((alls t).2.size : Int)) := by
  refine alls_ind ?_ ?_
  · intro t h ih acc i hi he ha
    have hsz : t.size = s.size - i := by rw [← he, ByteArray.size_extract]; omega
    have hsm := nexts_smaller h
    obtain ⟨_, et⟩ := nexts_ok h
    refine Ev.step (f := fun k => (rec_Next.f k t).bind fun b => if b.2.2 = 0 then (if acc.length < 8796093022208 then rec_All.l0 k s (acc ++ [b.1]) (wrap64 ((s.size : Int) - (b.2.1.size : Int))) else none) else some (acc, (i : Int))) (fun k => ?_) ?_
    · simp only [rec_All.l0]
      rw [if_pos (by omega), if_pos (by omega), Int.toNat_natCast, he]
    · refine Ev.bind (next_ev t (by omega)) ?_
      refine Ev_if h (Ev_if (by omega) ?_)
      rw [w64 (by omega) (by omega), show (s.size : Int) - ((nexts t).2.1.size : Int) = ((s.size - (nexts t).2.1.size : Nat) : Int) by omega, alls_step h]
      have := ih (acc ++ [(nexts t).1]) (s.size - (nexts t).2.1.size) (by omega) ?_ (by simp; omega)
      · simpa using this
      · have e2 := take_rest s i hi
        rw [he] at e2
        have hz := congrArg ByteArray.size et
        rw [ByteArray.size_append] at hz
        have e3 : s = (s.extract 0 i ++ (frames (nexts t).1).1) ++ (nexts t).2.1 := by rw [ByteArray.append_assoc, ← et]; exact e2.symm
        have h0 : (s.extract 0 i).size = i := by rw [ByteArray.size_extract]; omega
        have h4 := extract_tail (a := s.extract 0 i ++ (frames (nexts t).1).1) (b := (nexts t).2.1) (n := s.size - (nexts t).2.1.size) (by rw [ByteArray.size_append]; omega)
        rw [← e3] at h4
        exact h4
  · intro t h acc i hi he ha
    have hsz : t.size = s.size - i := by rw [← he, ByteArray.size_extract]; omega
    refine Ev.step (f := fun k => (rec_Next.f k t).bind fun b => if b.2.2 = 0 then (if acc.length < 8796093022208 then rec_All.l0 k s (acc ++ [b.1]) (wrap64 ((s.size : Int) - (b.2.1.size : Int))) else none) else some (acc, (i : Int))) (fun k => ?_) ?_
    · simp only [rec_All.l0]
      rw [if_pos (by omega), if_pos (by omega), Int.toNat_natCast, he]
    · refine Ev.bind (next_ev t (by omega)) (Ev_ifn h (Ev_const ?_))
      rw [alls_end h]
      simp only [List.append_nil]
      rw [show (s.size : Int) - (t.size : Int) = (i : Int) by omega]
theorem all_ev (s : ByteArray) (hs : s.size ≤ 8000000000000) : Ev (fun k => rec_All.f k s) ((alls s).1, (s.size : Int) - ((alls s).2.size : Int)) := by
  have := all_l s hs s [] 0 (by omega) (by simp) (by simp)
  rw [List.nil_append] at this
  exact this
theorem join_ref_l (l : List ByteArray) (hl : l.length ≤ 8000000000000) : ∀ (d i : Nat) (acc : ByteArray), i + d = l.length → acc.size ≤ 1048590 * i →
    Ev (fun k => missiveref02_Join.l0 k acc l (l.length : Int) (i : Int)) (joinsF acc (l.drop i)) := by
  intro d
  induction d with
  | zero =>
    intro i acc hd ha
    refine Ev_one fun k => ?_
    simp only [missiveref02_Join.l0]
    rw [if_neg (by omega), List.drop_eq_nil_of_le (by omega)]
    rfl
  | succ d ih =>
    intro i acc hd ha
    have hi : i < l.length := by omega
    rw [drop_getDB hi]
    have hz := frames_size (l.getD i ByteArray.empty)
    refine Ev.step (f := fun k => (missiveref02_Frame.f k (l.getD i ByteArray.empty)).bind fun b => if b.2 = 0 then (if acc.size + b.1.size ≤ 9223372036854775807 then missiveref02_Join.l0 k (acc ++ b.1) l (l.length : Int) ((i + 1 : Nat) : Int) else none) else some (⟨#[]⟩, b.2)) (fun k => ?_) ?_
    · simp only [missiveref02_Join.l0, rdOf_nat]
      rw [if_pos (by omega), if_pos (by omega), if_pos (by omega), w64 (by omega) (by omega)]; rfl
    · refine Ev.bind (frame_ref _) ?_
      rw [joinsF]
      by_cases h : (frames (l.getD i ByteArray.empty)).2 = 0
      · rw [if_pos h]
        exact Ev_if h (Ev_if (by omega) (ih (i + 1) _ (by omega) (by rw [ByteArray.size_append]; omega)))
      · rw [if_neg h]
        exact Ev_ifn h (Ev.now _)
theorem join_ref (l : List ByteArray) (hl : l.length ≤ 8000000000000) : Ev (fun k => missiveref02_Join.f k l) (joins l) := by
  have := join_ref_l l hl l.length 0 ⟨#[]⟩ (by omega) (by decide)
  rw [List.drop_zero] at this
  exact this
theorem all_ref_l (s : ByteArray) (hs : s.size ≤ 8000000000000) : ∀ t : ByteArray, ∀ acc : List ByteArray, t.size ≤ s.size → acc.length + t.size ≤ s.size →
    Ev (fun k => missiveref02_All.l0 k s acc t) (acc ++ (alls t).1, (s.size : Int) - ((alls t).2.size : Int)) := by
  refine alls_ind ?_ ?_
  · intro t h ih acc ht ha
    have hsm := nexts_smaller h
    refine Ev.step (f := fun k => (missiveref02_Next.f k t).bind fun b => if b.2.2 = 0 then (if acc.length < 8796093022208 then missiveref02_All.l0 k s (acc ++ [b.1]) b.2.1 else none) else some (acc, wrap64 ((s.size : Int) - (t.size : Int)))) (fun k => by simp only [missiveref02_All.l0]) ?_
    refine Ev.bind (next_ref t (by omega)) ?_
    refine Ev_if h (Ev_if (by omega) ?_)
    rw [alls_step h]
    have := ih (acc ++ [(nexts t).1]) (by omega) (by simp; omega)
    simpa using this
  · intro t h acc ht ha
    refine Ev.step (f := fun k => (missiveref02_Next.f k t).bind fun b => if b.2.2 = 0 then (if acc.length < 8796093022208 then missiveref02_All.l0 k s (acc ++ [b.1]) b.2.1 else none) else some (acc, wrap64 ((s.size : Int) - (t.size : Int)))) (fun k => by simp only [missiveref02_All.l0]) ?_
    refine Ev.bind (next_ref t (by omega)) (Ev_ifn h (Ev_const ?_))
    rw [alls_end h, w64 (by omega) (by omega)]
    simp
theorem all_ref (s : ByteArray) (hs : s.size ≤ 8000000000000) : Ev (fun k => missiveref02_All.f k s) ((alls s).1, (s.size : Int) - ((alls s).2.size : Int)) := by
  have := all_ref_l s hs s [] (by omega) (by simp)
  rw [List.nil_append] at this
  exact this
theorem same2_l (a b : List ByteArray) (hlen : a.length = b.length) (hb : a.length ≤ 9223372036854775807) : ∀ (d i : Nat), i + d = a.length → Ev (fun k => missiveref02_Same.l0 k a b (a.length : Int) (i : Int)) (decide (a.drop i = b.drop i)) := by
  intro d
  induction d with
  | zero =>
    intro i hd
    refine Ev_one fun k => ?_
    simp only [missiveref02_Same.l0]
    rw [if_neg (by omega), List.drop_eq_nil_of_le (by omega), List.drop_eq_nil_of_le (by omega)]
    simp
  | succ d ih =>
    intro i hd
    have h1 : i < a.length := by omega
    have h2 : i < b.length := by omega
    rw [drop_getDB h1, drop_getDB h2]
    have w1 : wrap64 ((i : Int) + 1) = ((i + 1 : Nat) : Int) := by rw [w64 (by omega) (by omega)]; rfl
    by_cases he : a.getD i ByteArray.empty = b.getD i ByteArray.empty
    · refine Ev.step (f := fun k => missiveref02_Same.l0 k a b (a.length : Int) ((i + 1 : Nat) : Int)) (fun k => ?_) ?_
      · simp only [missiveref02_Same.l0, rdOf_nat]
        rw [if_pos (by omega), if_pos (by omega), if_pos (by omega), if_pos (by omega), if_pos (by rw [he]), w1]
      · rw [he]
        have := ih (i + 1) (by omega)
        simpa using this
    · refine Ev_one fun k => ?_
      simp only [missiveref02_Same.l0, rdOf_nat]
      rw [if_pos (by omega), if_pos (by omega), if_pos (by omega), if_pos (by omega), if_neg (fun h => he (toList_inj h))]
      refine congrArg some (Eq.symm (decide_eq_false fun h => he ?_))
      injection h
theorem same2_ev (a b : List ByteArray) (hb : a.length ≤ 9223372036854775807) : Ev (fun k => missiveref02_Same.f k a b) (decide (a = b)) := by
  unfold missiveref02_Same.f
  by_cases h : a.length = b.length
  · refine Ev_if (by omega) ?_
    have := same2_l a b h hb a.length 0 (by omega)
    simpa using this
  · refine Ev_ifn (by omega) (Ev_const ?_)
    have : a ≠ b := fun e => h (by rw [e])
    simp [this]
end Go.Proofs.YtienpgbbjahadaaV
