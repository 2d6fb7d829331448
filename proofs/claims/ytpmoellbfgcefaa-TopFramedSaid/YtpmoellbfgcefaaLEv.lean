/- What the printed functions of the lists come to. -/
import Derived.Test.YtpmoellbfgcefaaL
import Derived.Test.YtpmoellbfgcefaaVEv
import Derived.Test.YtpmoellbfgcefaaPA19
import Derived.Test.YtpmoellbfgcefaaPA22
import Derived.Test.YtpmoellbfgcefaaPA9
namespace Go.Proofs.YtpmoellbfgcefaaV
open Go.RowKit Go.Proofs.YtpmoellbfgcefaaW.PrintWords Go.Proofs.YtpmoellbfgcefaaW.PrintLast Go.Proofs.YtpmoellbfgcefaaW.PrintMore Go.Proofs.Ytpmoellbfgcefaa.PA
set_option linter.unusedVariables false

theorem rd_nat (l : List Int) (i : Nat) : rd l (i : Int) = l.getD i 0 := by unfold rd; rw [Int.toNat_natCast]
theorem getD_at {l : List Int} {i : Nat} (h : i < l.length) : l.getD i 0 = l[i] := by simp [List.getD_eq_getElem?_getD, h]
theorem drop_getD {l : List Int} {i : Nat} (h : i < l.length) : l.drop i = l.getD i 0 :: l.drop (i + 1) := by
  rw [List.drop_eq_getElem_cons h, getD_at h]
theorem getD_mem {l : List Int} {i : Nat} (h : i < l.length) : l.getD i 0 ∈ l := by
  rw [getD_at h]; exact List.getElem_mem h

/-- What a loop that goes on behind bytes comes to. -/
def ends (acc : List Int) (o : Option (List Int)) : ByteArray × Int := match o with
  | none => (⟨#[]⟩, 12)
  | some b => (strOfNums (acc ++ b), 0)
theorem ends_map (acc p : List Int) (o : Option (List Int)) : ends acc (o.map (p ++ ·)) = ends (acc ++ p) o := by
  cases o <;> simp [ends]
theorem list_l (l : List Int) (hr : ∀ x ∈ l, 0 ≤ x ∧ x ≤ 4294967295) (hlen : l.length ≤ 65536) : ∀ (d i : Nat) (acc : List Int) (next : Int), i + d = l.length → 0 ≤ next → next ≤ 4294967296 → acc.length ≤ 10 + 10 * i →
    Ev (fun k => vari_List.l0 k acc next l (l.length : Int) (i : Int)) (ends acc (encL next (l.drop i))) := by
  intro d
  induction d with
  | zero =>
    intro i acc next hd h0 h1 ha
    refine Ev_one fun k => ?_
    simp only [vari_List.l0]
    rw [if_neg (by omega), List.drop_eq_nil_of_le (by omega)]
    simp [encL, ends]
  | succ d ih =>
    intro i acc next hd h0 h1 ha
    have hi : i < l.length := by omega
    have hx := hr _ (getD_mem hi)
    rw [drop_getD hi]
    generalize hn : l.getD i 0 = n at hx
    have w1 : wrap64 ((i : Int) + 1) = ((i + 1 : Nat) : Int) := by rw [w64 (by omega) (by omega)]; rfl
    rw [encL]
    by_cases hlt : n < next
    · rw [if_pos hlt]
      refine Ev_one fun k => ?_
      simp only [vari_List.l0, rd_nat, hn]
      rw [if_pos (by omega), if_pos (by omega), if_pos (by omega), wu64 (by omega) (by omega), if_pos hlt]
      rfl
    · rw [if_neg hlt, ends_map]
      have hs := leb_length_le (n := n - next) (by omega) (by omega)
      refine Ev.step (f := fun k => (vari_Append.f k acc (n - next)).bind fun t => vari_List.l0 k t (n + 1) l (l.length : Int) ((i + 1 : Nat) : Int)) (fun k => ?_) ?_
      · simp only [vari_List.l0, rd_nat, hn]
        rw [if_pos (by omega), if_pos (by omega), if_pos (by omega), wu64 (n := n) (by omega) (by omega), if_neg hlt, wu64 (by omega) (by omega), wu64 (by omega) (by omega), w1]
      · exact Ev.bind (append_ev (by omega) (by omega) acc (by omega)) (ih (i + 1) _ _ (by omega) (by omega) (by omega) (by simp; omega))
theorem list_ev (l : List Int) (hr : ∀ x ∈ l, 0 ≤ x ∧ x ≤ 4294967295) : Ev (fun k => vari_List.f k l) (lists l) := by
  unfold vari_List.f lists
  by_cases h : (l.length : Int) > 65536
  · rw [if_pos h]; exact Ev_if h (Ev.now _)
  · rw [if_neg h]
    refine Ev_ifn h ?_
    rw [wu64 (by omega) (by omega)]
    have := leb_length_le (n := (l.length : Int)) (by omega) (by omega)
    refine Ev.bind (append_ev (by omega) (by omega) [] (by simp)) ?_
    have := list_l l hr (by omega) l.length 0 (leb (l.length : Int)) 0 (by omega) (by omega) (by omega) (by omega)
    rw [List.drop_zero] at this
    rw [List.nil_append]
    refine (cast ?_ this)
    cases encL 0 l <;> rfl
/-- What a loop that reads on behind numbers comes to. -/
def goesOn (acc : List Int) (o : List Int × ByteArray × Int) : List Int × ByteArray × Int := if o.2.2 = 0 then (acc ++ o.1, o.2.1, 0) else ([], ⟨#[]⟩, o.2.2)
theorem goesOn_cons (acc : List Int) (n : Int) (o : List Int × ByteArray × Int) : goesOn acc (if o.2.2 = 0 then (n :: o.1, o.2.1, 0) else ([], ⟨#[]⟩, o.2.2)) = goesOn (acc ++ [n]) o := by
  unfold goesOn
  by_cases h : o.2.2 = 0
  · simp [h]
  · simp [h]
theorem read_l : ∀ (m : Nat) (s : ByteArray) (acc : List Int) (next : Int) (i : Nat), s.size ≤ 9223372036854775807 → i + m ≤ 65536 → acc.length = i → 0 ≤ next → next ≤ 4294967296 →
    Ev (fun k => vari_Read.l0 k s acc next ((i + m : Nat) : Int) (i : Int)) (goesOn acc (decL m s next)) := by
  intro m
  induction m with
  | zero =>
    intro s acc next i hs hm ha h0 h1
    refine Ev_one fun k => ?_
    simp only [vari_Read.l0]
    rw [if_neg (by omega)]
    simp [decL, goesOn]
  | succ m ih =>
    intro s acc next i hs hm ha h0 h1
    have hmn : mn next 4294967295 = if 4294967295 < next then 4294967295 else next := rfl
    refine Ev.step (f := fun k => (vari_Get.f k s).bind fun g => if g.2.2 = 0 then (if g.1 > (IntKind.u64.wrap (4294967295 - (mn next 4294967295))) then (some (([] : List Int), (⟨#[]⟩ : ByteArray), 7)) else (if next > 4294967295 then (some (([] : List Int), (⟨#[]⟩ : ByteArray), 7)) else (if acc.length < 35184372088832 then (vari_Read.l0 k g.2.1 (acc ++ [(IntKind.u64.wrap (next + g.1)) % 4294967296]) (IntKind.u64.wrap (next + (IntKind.u64.wrap (g.1 + 1)))) ((i + (m + 1) : Nat) : Int) (IntKind.u64.wrap ((i : Int) + 1))) else (none)))) else (some (([] : List Int), (⟨#[]⟩ : ByteArray), g.2.2))) (fun k => ?_) ?_
    · simp only [vari_Read.l0]
      rw [if_pos (by omega)]
    · refine Ev.bind (get_ev s hs) ?_
      rw [decL]
      have hsh := gets_shorter s
      by_cases hg : (gets s).2.2 = 0
      · obtain ⟨g0, g1⟩ := gets_range hg
        rw [if_pos hg]
        refine Ev_if hg ?_
        by_cases hc : (gets s).1 + next > 4294967295
        · rw [if_pos hc]
          by_cases hc1 : (gets s).1 > IntKind.u64.wrap (4294967295 - (mn next 4294967295))
          · refine Ev_if hc1 (Ev_const ?_); simp [goesOn]
          · refine Ev_ifn hc1 ?_
            have : next > 4294967295 := by
              rw [hmn] at hc1
              split at hc1
              · assumption
              · rw [wu64 (by omega) (by omega)] at hc1; omega
            refine Ev_if this (Ev_const ?_); simp [goesOn]
        · rw [if_neg hc, goesOn_cons]
          have hn : next ≤ 4294967295 := by omega
          refine Ev_ifn (by rw [hmn, if_neg (by omega), wu64 (by omega) (by omega)]; omega) (Ev_ifn (by omega) (Ev_if (by omega) ?_))
          rw [wu64 (n := next + (gets s).1) (by omega) (by omega), wu64 (n := (gets s).1 + 1) (by omega) (by omega), wu64 (n := next + _) (by omega) (by omega), wu64 (n := (i : Int) + 1) (by omega) (by omega), show (next + (gets s).1) % 4294967296 = next + (gets s).1 by omega, show next + ((gets s).1 + 1) = next + (gets s).1 + 1 by omega]
          have := ih (gets s).2.1 (acc ++ [next + (gets s).1]) (next + (gets s).1 + 1) (i + 1) (by omega) (by omega) (by simp; omega) (by omega) (by omega)
          rw [show i + 1 + m = i + (m + 1) by omega] at this
          exact this
      · rw [if_neg hg]
        refine Ev_ifn hg (Ev_const ?_)
        simp [goesOn, hg]
theorem goesOn_nil (m : Nat) (s : ByteArray) (next : Int) : goesOn [] (decL m s next) = decL m s next := by
  unfold goesOn
  by_cases h : (decL m s next).2.2 = 0
  · rw [if_pos h, List.nil_append]; exact Prod.ext rfl (Prod.ext rfl h.symm)
  · rw [if_neg h]
    have := decL_err m s next h
    exact Prod.ext this.1.symm (Prod.ext this.2.symm rfl)
theorem read_ev (s : ByteArray) (hs : s.size ≤ 9223372036854775807) : Ev (fun k => vari_Read.f k s) (reads s) := by
  unfold vari_Read.f reads
  refine Ev.bind (get_ev s hs) ?_
  have hsh := gets_shorter s
  by_cases hg : (gets s).2.2 = 0
  · obtain ⟨g0, g1⟩ := gets_range hg
    rw [if_pos hg]
    refine Ev_if hg ?_
    by_cases hc : (gets s).1 > 65536
    · rw [if_pos hc]; exact Ev_if hc (Ev.now _)
    · rw [if_neg hc]
      refine Ev_ifn hc ?_
      have := read_l (gets s).1.toNat (gets s).2.1 [] 0 0 (by omega) (by omega) rfl (by omega) (by omega)
      rw [goesOn_nil, Nat.zero_add, show (((gets s).1.toNat : Nat) : Int) = (gets s).1 by omega] at this
      exact this
  · rw [if_neg hg]; exact Ev_ifn hg (Ev.now _)
theorem same_l (a b : List Int) (hlen : a.length = b.length) (hb : a.length ≤ 9223372036854775807) : ∀ (d i : Nat), i + d = a.length → Ev (fun k => missiveref01_Same.l0 k a b (a.length : Int) (i : Int)) (decide (a.drop i = b.drop i)) := by
  intro d
  induction d with
  | zero =>
    intro i hd
    refine Ev_one fun k => ?_
    simp only [missiveref01_Same.l0]
    rw [if_neg (by omega), List.drop_eq_nil_of_le (by omega), List.drop_eq_nil_of_le (by omega)]
    simp
  | succ d ih =>
    intro i hd
    have h1 : i < a.length := by omega
    have h2 : i < b.length := by omega
    rw [drop_getD h1, drop_getD h2]
    have w1 : wrap64 ((i : Int) + 1) = ((i + 1 : Nat) : Int) := by rw [w64 (by omega) (by omega)]; rfl
    by_cases he : a.getD i 0 = b.getD i 0
    · refine Ev.step (f := fun k => missiveref01_Same.l0 k a b (a.length : Int) ((i + 1 : Nat) : Int)) (fun k => ?_) ?_
      · simp only [missiveref01_Same.l0, rd_nat]
        rw [if_pos (by omega), if_pos (by omega), if_pos (by omega), if_pos (by omega), if_pos he, w1]
      · rw [he]
        have := ih (i + 1) (by omega)
        simpa using this
    · refine Ev_one fun k => ?_
      simp only [missiveref01_Same.l0, rd_nat]
      rw [if_pos (by omega), if_pos (by omega), if_pos (by omega), if_pos (by omega), if_neg he]
      refine congrArg some (Eq.symm (decide_eq_false fun h => he ?_))
      injection h
theorem same_ev (a b : List Int) (hb : a.length ≤ 9223372036854775807) : Ev (fun k => missiveref01_Same.f k a b) (decide (a = b)) := by
  unfold missiveref01_Same.f
  by_cases h : a.length = b.length
  · refine Ev_if (by omega) ?_
    have := same_l a b h hb a.length 0 (by omega)
    simpa using this
  · refine Ev_ifn (by omega) (Ev_const ?_)
    have : a ≠ b := fun e => h (by rw [e])
    simp [this]
end Go.Proofs.YtpmoellbfgcefaaV
