/- What the printed functions of the lists come to. -/
import Derived.Test.YtienpgbbjahadaaL
import Derived.Test.YtienpgbbjahadaaVEv
import Derived.Test.YtienpgbbjahadaaPA10
import Derived.Test.YtienpgbbjahadaaPA11
import Derived.Test.YtienpgbbjahadaaPA12
import Derived.Test.YtienpgbbjahadaaPA13
import Derived.Test.YtienpgbbjahadaaPA9
namespace Go.Proofs.YtienpgbbjahadaaV
open Go.RowKit Go.Proofs.YtienpgbbjahadaaW.PrintWords Go.Proofs.YtienpgbbjahadaaW.PrintLast Go.Proofs.YtienpgbbjahadaaW.PrintMore Go.Proofs.Ytienpgbbjahadaa.PA
set_option linter.unusedVariables false

theorem rd_nat (l : List Int) (i : Nat) : rd l (i : Int) = l.getD i 0 := by unfold rd; rw [Int.toNat_natCast]
theorem getD_at {l : List Int} {i : Nat} (h : i < l.length) : l.getD i 0 = l[i] := by simp [List.getD_eq_getElem?_getD, h]
theorem drop_getD {l : List Int} {i : Nat} (h : i < l.length) : l.drop i = l.getD i 0 :: l.drop (i + 1) := by
  rw [List.drop_eq_getElem_cons h, getD_at h]
theorem getD_mem {l : List Int} {i : Nat} (h : i < l.length) : l.getD i 0 ∈ l := by
  rw [getD_at h]; exact List.getElem_mem h

/-- What a loop that goes on behind bytes comes to. -/
def ends (acc : List Int) (o : Option (List Int)) : ByteArray × Int := match o with
  | none => (⟨#[]⟩, 12)
  | some b => (strOfNums (acc ++ b), 0)
theorem ends_map (acc p : List Int) (o : Option (List Int)) : ends acc (o.map (p ++ ·)) = ends (acc ++ p) o := by
  cases o <;> simp [ends]
theorem list_l (l : List Int) (hr : ∀ x ∈ l, 0 ≤ x ∧ x ≤ 4294967295) (hlen : l.length ≤ 65536) : ∀ (d i : Nat) (acc : List Int) (next : Int), i + d = l.length → 0 ≤ next → next ≤ 4294967296 → acc.length ≤ 10 + 10 * i →
    Ev (fun k => vari_List.l0 k acc next l (l.length : Int) (i : Int)) (ends acc (encL next (l.drop i))) := by
  intro d
  induction d with
  | zero =>
    intro i acc next hd h0 h1 ha
    refine Ev_one fun k => ?_
    simp only [vari_List.l0]
    rw [if_neg (by omega), List.drop_eq_nil_of_le (by omega)]
    simp [encL, ends]
  | succ d ih =>
    intro i acc next hd h0 h1 ha
    have hi : i < l.length := by omega
    have hx := hr _ (getD_mem hi)
    rw [drop_getD hi]
    generalize hn : l.getD i 0 = n at hx
    have w1 : wrap64 ((i : Int) + 1) = ((i + 1 : Nat) : Int) := by rw [w64 (by omega) (by omega)]; rfl
    rw [encL]
    by_cases hlt : n < next
    · rw [if_pos hlt]
      refine Ev_one fun k => ?_
      simp only [vari_List.l0, rd_nat, hn]
      rw [if_pos (by omega), if_pos (by omega), if_pos (by omega), wu64 (by omega) (by omega), if_pos hlt]
      rfl
    · rw [if_neg hlt, ends_map]
      have hs := leb_length_le (n := n - next) (by omega) (by omega)
      refine Ev.step (f := fun k => (vari_Append.f k acc (n - next)).bind fun t => vari_List.l0 k t (n + 1) l (l.length : Int) ((i + 1 : Nat) : Int)) (fun k => ?_) ?_
      · simp only [vari_List.l0, rd_nat, hn]
        rw [if_pos (by omega), if_pos (by omega), if_pos (by omega), wu64 (n := n) (by omega) (by omega), if_neg hlt, wu64 (by omega) (by omega), wu64 (by omega) (by omega), w1]
      · exact Ev.bind (append_ev (by omega) (by omega) acc (by omega)) (ih (i + 1) _ _ (by omega) (by omega) (by omega) (by simp; omega))
theorem list_ev (l : List Int) (hr : ∀ x ∈ l, 0 ≤ x ∧ x ≤ 4294967295) : Ev (fun k => vari_List.f k l) (lists l) := by
  unfold vari_List.f lists
  by_cases h : (l.length : Int) > 65536
  · rw [if_pos h]; exact Ev_if h (Ev.now _)
  · rw [if_neg h]
    refine Ev_ifn h ?_
    rw [wu64 (by omega) (by omega)]
    have := leb_length_le (n := (l.length : Int)) (by omega) (by omega)
    refine Ev.bind (append_ev (by omega) (by omega) [] (by simp)) ?_
    have := list_l l hr (by omega) l.length 0 (leb (l.length : Int)) 0 (by omega) (by omega) (by omega) (by omega)
    rw [List.drop_zero] at this
    rw [List.nil_append]
    refine (cast ?_ this)
    cases encL 0 l <;> rfl
theorem list_ref_l (l : List Int) (hr : ∀ x ∈ l, 0 ≤ x ∧ x ≤ 4294967295) (hlen : l.length ≤ 65536) : ∀ (d i : Nat) (acc : List Int), i + d = l.length → acc.length ≤ 10 + 10 * i →
    Ev (fun k => missiveref01_List.l0 k l (strOfNums acc) l (l.length : Int) (i : Int)) (ends acc (encL (if i = 0 then 0 else l.getD (i - 1) 0 + 1) (l.drop i))) := by
  intro d
  induction d with
  | zero =>
    intro i acc hd ha
    refine Ev_one fun k => ?_
    simp only [missiveref01_List.l0]
    rw [if_neg (by omega), List.drop_eq_nil_of_le (by omega)]
    simp [encL, ends]
  | succ d ih =>
    intro i acc hd ha
    have hi : i < l.length := by omega
    have hx := hr _ (getD_mem hi)
    rw [drop_getD hi]
    have ihn : ∀ acc, acc.length ≤ 10 + 10 * (i + 1) → Ev (fun k => missiveref01_List.l0 k l (strOfNums acc) l (l.length : Int) ((i + 1 : Nat) : Int)) (ends acc (encL (l.getD i 0 + 1) (l.drop (i + 1)))) := fun acc h => by
      have := ih (i + 1) acc (by omega) h
      rw [if_neg (by omega), Nat.add_sub_cancel] at this
      exact this
    generalize hn : l.getD i 0 = n at hx ihn
    have w1 : wrap64 ((i : Int) + 1) = ((i + 1 : Nat) : Int) := by rw [w64 (by omega) (by omega)]; rfl
    have sz : ∀ m, 0 ≤ m → m ≤ 18446744073709551615 → (strOfNums acc).size + (puts m).size ≤ 9223372036854775807 := fun m h0 h1 => by
      rw [strOfNums_size, puts_size]
      have := leb_length_le h0 h1
      omega
    rw [encL]
    by_cases h0 : i = 0
    · subst h0
      rw [if_pos rfl, if_neg (by omega), ends_map]
      have hs := leb_length_le (n := n - 0) (by omega) (by omega)
      refine Ev.step (f := fun k => (missiveref01_Put.f k n).bind fun t => if (strOfNums acc).size + t.size ≤ 9223372036854775807 then missiveref01_List.l0 k l (strOfNums acc ++ t) l (l.length : Int) ((0 + 1 : Nat) : Int) else none) (fun k => ?_) ?_
      · simp only [missiveref01_List.l0, rd_nat, hn]
        rw [if_pos (by omega), if_pos (by omega), if_pos (by omega), if_pos (by rfl), wu64 (n := n) (by omega) (by omega), w1]
      · refine Ev.bind (put_ref (by omega) (by omega)) (Ev_if (sz n (by omega) (by omega)) ?_)
        rw [puts, ← strOf_append, show n - 0 = n by omega]
        exact ihn _ (by rw [Int.sub_zero] at hs; simp; omega)
    · obtain ⟨j, rfl⟩ : ∃ j, i = j + 1 := ⟨i - 1, by omega⟩
      have hj := hr _ (getD_mem (l := l) (i := j) (by omega))
      have wj : wrap64 (((j + 1 : Nat) : Int) - 1) = (j : Int) := by rw [w64 (by omega) (by omega)]; omega
      rw [if_neg h0, Nat.add_sub_cancel]
      generalize hm : l.getD j 0 = m at hj
      by_cases hlt : n < m + 1
      · rw [if_pos hlt]
        refine Ev_one fun k => ?_
        simp only [missiveref01_List.l0, rd_nat, hn, wj, hm]
        rw [if_pos (by omega), if_pos (by omega), if_pos (by omega), if_neg (by omega), if_pos (by omega), if_pos (by omega), if_pos (by omega)]
        rfl
      · rw [if_neg hlt, ends_map]
        have hs := leb_length_le (n := n - (m + 1)) (by omega) (by omega)
        refine Ev.step (f := fun k => (missiveref01_Put.f k (n - (m + 1))).bind fun t => if (strOfNums acc).size + t.size ≤ 9223372036854775807 then missiveref01_List.l0 k l (strOfNums acc ++ t) l (l.length : Int) ((j + 1 + 1 : Nat) : Int) else none) (fun k => ?_) ?_
        · simp only [missiveref01_List.l0, rd_nat, hn, wj, hm]
          rw [if_pos (by omega), if_pos (by omega), if_pos (by omega), if_neg (by omega), if_pos (by omega), if_pos (by omega), if_neg (by omega), w1, show (n - m - 1) % 4294967296 = n - (m + 1) by omega]
        · refine Ev.bind (put_ref (by omega) (by omega)) (Ev_if (sz _ (by omega) (by omega)) ?_)
          rw [puts, ← strOf_append]
          exact ihn _ (by simp; omega)
theorem list_ref (l : List Int) (hr : ∀ x ∈ l, 0 ≤ x ∧ x ≤ 4294967295) : Ev (fun k => missiveref01_List.f k l) (lists l) := by
  unfold missiveref01_List.f lists
  by_cases h : (l.length : Int) > 65536
  · rw [if_pos h]; exact Ev_if h (Ev.now _)
  · rw [if_neg h]
    refine Ev_ifn h ?_
    rw [wu64 (by omega) (by omega)]
    have := leb_length_le (n := (l.length : Int)) (by omega) (by omega)
    refine Ev.bind (put_ref (by omega) (by omega)) ?_
    have := list_ref_l l hr (by omega) l.length 0 (leb (l.length : Int)) (by omega) (by omega)
    rw [if_pos rfl, List.drop_zero] at this
    refine (cast ?_ this)
    cases encL 0 l <;> rfl

/-- What a loop that reads on behind numbers comes to. -/
def goesOn (acc : List Int) (o : List Int × ByteArray × Int) : List Int × ByteArray × Int := if o.2.2 = 0 then (acc ++ o.1, o.2.1, 0) else ([], ⟨#[]⟩, o.2.2)
theorem goesOn_cons (acc : List Int) (n : Int) (o : List Int × ByteArray × Int) : goesOn acc (if o.2.2 = 0 then (n :: o.1, o.2.1, 0) else ([], ⟨#[]⟩, o.2.2)) = goesOn (acc ++ [n]) o := by
  unfold goesOn
  by_cases h : o.2.2 = 0
  · simp [h]
  · simp [h]
theorem read_l : ∀ (m : Nat) (s : ByteArray) (acc : List Int) (next : Int) (i : Nat), s.size ≤ 9223372036854775807 → i + m ≤ 65536 → acc.length = i → 0 ≤ next → next ≤ 4294967296 →
    Ev (fun k => vari_Read.l0 k s acc next ((i + m : Nat) : Int) (i : Int)) (goesOn acc (decL m s next)) := by
  intro m
  induction m with
  | zero =>
    intro s acc next i hs hm ha h0 h1
    refine Ev_one fun k => ?_
    simp only [vari_Read.l0]
    rw [if_neg (by omega)]
    simp [decL, goesOn]
  | succ m ih =>
    intro s acc next i hs hm ha h0 h1
    have hmn : mn next 4294967295 = if 4294967295 < next then 4294967295 else next := rfl
    refine Ev.step (f := fun k => (vari_Get.f k s).bind fun g => if g.2.2 = 0 then (if g.1 > (IntKind.u64.wrap (4294967295 - (mn next 4294967295))) then (some (([] : List Int), (⟨#[]⟩ : ByteArray), 7)) else (if next > 4294967295 then (some (([] : List Int), (⟨#[]⟩ : ByteArray), 7)) else (if acc.length < 35184372088832 then (vari_Read.l0 k g.2.1 (acc ++ [(IntKind.u64.wrap (next + g.1)) % 4294967296]) (IntKind.u64.wrap (next + (IntKind.u64.wrap (g.1 + 1)))) ((i + (m + 1) : Nat) : Int) (IntKind.u64.wrap ((i : Int) + 1))) else (none)))) else (some (([] : List Int), (⟨#[]⟩ : ByteArray), g.2.2))) (fun k => ?_) ?_
    · simp only [vari_Read.l0]
      rw [if_pos (by omega)]
    · refine Ev.bind (get_ev s hs) ?_
      rw [decL]
      have hsh := gets_shorter s
      by_cases hg : (gets s).2.2 = 0
      · obtain ⟨g0, g1⟩ := gets_range hg
        rw [if_pos hg]
        refine Ev_if hg ?_
        by_cases hc : (gets s).1 + next > 4294967295
        · rw [if_pos hc]
          by_cases hc1 : (gets s).1 > IntKind.u64.wrap (4294967295 - (mn next 4294967295))
          · refine Ev_if hc1 (Ev_const ?_); simp [goesOn]
          · refine Ev_ifn hc1 ?_
            have : next > 4294967295 := by
              rw [hmn] at hc1
              split at hc1
              · assumption
              · rw [wu64 (by omega) (by omega)] at hc1; omega
            refine Ev_if this (Ev_const ?_); simp [goesOn]
        · rw [if_neg hc, goesOn_cons]
          have hn : next ≤ 4294967295 := by omega
          refine Ev_ifn (by rw [hmn, if_neg (by omega), wu64 (by omega) (by omega)]; omega) (Ev_ifn (by omega) (Ev_if (by omega) ?_))
          rw [wu64 (n := next + (gets s).1) (by omega) (by omega), wu64 (n := (gets s).1 + 1) (by omega) (by omega), wu64 (n := next + _) (by omega) (by omega), wu64 (n := (i : Int) + 1) (by omega) (by omega), show (next + (gets s).1) % 4294967296 = next + (gets s).1 by omega, show next + ((gets s).1 + 1) = next + (gets s).1 + 1 by omega]
          have := ih (gets s).2.1 (acc ++ [next + (gets s).1]) (next + (gets s).1 + 1) (i + 1) (by omega) (by omega) (by simp; omega) (by omega) (by omega)
          rw [show i + 1 + m = i + (m + 1) by omega] at this
          exact this
      · rw [if_neg hg]
        refine Ev_ifn hg (Ev_const ?_)
        simp [goesOn, hg]
theorem goesOn_nil (m : Nat) (s : ByteArray) (next : Int) : goesOn [] (decL m s next) = decL m s next := by
  unfold goesOn
  by_cases h : (decL m s next).2.2 = 0
  · rw [if_pos h, List.nil_append]; exact Prod.ext rfl (Prod.ext rfl h.symm)
  · rw [if_neg h]
    have := decL_err m s next h
    exact Prod.ext this.1.symm (Prod.ext this.2.symm rfl)
theorem read_ev (s : ByteArray) (hs : s.size ≤ 9223372036854775807) : Ev (fun k => vari_Read.f k s) (reads s) := by
  unfold vari_Read.f reads
  refine Ev.bind (get_ev s hs) ?_
  have hsh := gets_shorter s
  by_cases hg : (gets s).2.2 = 0
  · obtain ⟨g0, g1⟩ := gets_range hg
    rw [if_pos hg]
    refine Ev_if hg ?_
    by_cases hc : (gets s).1 > 65536
    · rw [if_pos hc]; exact Ev_if hc (Ev.now _)
    · rw [if_neg hc]
      refine Ev_ifn hc ?_
      have := read_l (gets s).1.toNat (gets s).2.1 [] 0 0 (by omega) (by omega) rfl (by omega) (by omega)
      rw [goesOn_nil, Nat.zero_add, show (((gets s).1.toNat : Nat) : Int) = (gets s).1 by omega] at this
      exact this
  · rw [if_neg hg]; exact Ev_ifn hg (Ev.now _)
theorem read_ref_l : ∀ (m : Nat) (s : ByteArray) (acc : List Int) (i : Nat), s.size ≤ 9223372036854775807 → i + m ≤ 65536 → acc.length = i → (∀ x ∈ acc, 0 ≤ x ∧ x ≤ 4294967295) →
    Ev (fun k => missiveref01_Read.l0 k ((i + m : Nat) : Int) s acc (i : Int)) (goesOn acc (decL m s (if i = 0 then 0 else acc.getD (i - 1) 0 + 1))) := by
  intro m
  induction m with
  | zero =>
    intro s acc i hs hm ha hr
    refine Ev_one fun k => ?_
    simp only [missiveref01_Read.l0]
    rw [if_neg (by omega)]
    simp [decL, goesOn]
  | succ m ih =>
    intro s acc i hs hm ha hr
    have hsh := gets_shorter s
    have w1 : IntKind.u64.wrap ((i : Int) + 1) = ((i + 1 : Nat) : Int) := by rw [wu64 (by omega) (by omega)]; rfl
    have ihn : ∀ v, 0 ≤ v → v ≤ 4294967295 → Ev (fun k => missiveref01_Read.l0 k ((i + (m + 1) : Nat) : Int) (gets s).2.1 (acc ++ [v]) ((i + 1 : Nat) : Int)) (goesOn (acc ++ [v]) (decL m (gets s).2.1 (v + 1))) := fun v h0 h1 => by
      have := ih (gets s).2.1 (acc ++ [v]) (i + 1) (by omega) (by omega) (by simp; omega) (by
        intro x hx
        rcases List.mem_append.mp hx with h | h
        · exact hr x h
        · simp at h; omega)
      rw [show i + 1 + m = i + (m + 1) by omega, if_neg (by omega), Nat.add_sub_cancel, show (acc ++ [v]).getD i 0 = v by rw [getD_at (by simp; omega)]; simp [ha]] at this
      exact this
    rw [decL]
    by_cases hi : i = 0
    · subst hi
      obtain rfl : acc = [] := List.eq_nil_of_length_eq_zero ha
      rw [if_pos rfl]
      refine Ev.step (f := fun k => (missiveref01_Get.f k s).bind fun g => if g.2.2 = 0 then (if g.1 > 4294967295 then (some (([] : List Int), (⟨#[]⟩ : ByteArray), 7)) else missiveref01_Read.l0 k ((0 + (m + 1) : Nat) : Int) g.2.1 ([] ++ [g.1 % 4294967296]) ((0 + 1 : Nat) : Int)) else (some (([] : List Int), (⟨#[]⟩ : ByteArray), g.2.2))) (fun k => ?_) ?_
      · simp only [missiveref01_Read.l0]
        rw [if_pos (by omega)]
        congr 1
      · refine Ev.bind (get_ref s hs) ?_
        by_cases hg : (gets s).2.2 = 0
        · obtain ⟨g0, g1⟩ := gets_range hg
          rw [if_pos hg]
          refine Ev_if hg ?_
          by_cases hc : (gets s).1 > 4294967295
          · rw [if_pos (by omega)]
            refine Ev_if hc (Ev_const ?_); simp [goesOn]
          · rw [if_neg (by omega), goesOn_cons]
            refine Ev_ifn hc ?_
            rw [show (gets s).1 % 4294967296 = 0 + (gets s).1 by omega]
            exact ihn _ (by omega) (by omega)
        · rw [if_neg hg]
          refine Ev_ifn hg (Ev_const ?_)
          simp [goesOn, hg]
    · obtain ⟨j, rfl⟩ : ∃ j, i = j + 1 := ⟨i - 1, by omega⟩
      have hj := hr _ (getD_mem (l := acc) (i := j) (by omega))
      rw [if_neg hi, Nat.add_sub_cancel]
      have wj : IntKind.u64.wrap (((j + 1 : Nat) : Int) - 1) = (j : Int) := by rw [wu64 (by omega) (by omega)]; omega
      generalize hv : acc.getD j 0 = v at hj
      refine Ev.step (f := fun k => (missiveref01_Get.f k s).bind fun g => if g.2.2 = 0 then (if g.1 > 4294967295 then (some (([] : List Int), (⟨#[]⟩ : ByteArray), 7)) else (if (IntKind.u64.wrap (g.1 + (v + 1))) > 4294967295 then (some (([] : List Int), (⟨#[]⟩ : ByteArray), 7)) else missiveref01_Read.l0 k ((j + 1 + (m + 1) : Nat) : Int) g.2.1 (acc ++ [(IntKind.u64.wrap (g.1 + (v + 1))) % 4294967296]) ((j + 1 + 1 : Nat) : Int))) else (some (([] : List Int), (⟨#[]⟩ : ByteArray), g.2.2))) (fun k => ?_) ?_
      · simp only [missiveref01_Read.l0, wj, rd_nat, hv]
        rw [if_pos (by omega), wu64 (n := v) (by omega) (by omega), wu64 (n := v + 1) (by omega) (by omega), w1]
        congr 1
        funext g
        rw [if_pos (show ((j + 1 : Nat) : Int) > 0 by omega), if_pos (show (0 : Int) ≤ (j : Int) by omega), if_pos (show (j : Int) < (acc.length : Int) by omega), if_pos (show acc.length < 35184372088832 by omega)]
      · refine Ev.bind (get_ref s hs) ?_
        by_cases hg : (gets s).2.2 = 0
        · obtain ⟨g0, g1⟩ := gets_range hg
          rw [if_pos hg]
          refine Ev_if hg ?_
          by_cases hc : (gets s).1 + (v + 1) > 4294967295
          · rw [if_pos hc]
            by_cases hc1 : (gets s).1 > 4294967295
            · refine Ev_if hc1 (Ev_const ?_); simp [goesOn]
            · refine Ev_ifn hc1 (Ev_if (by rw [wu64 (by omega) (by omega)]; omega) (Ev_const ?_)); simp [goesOn]
          · rw [if_neg hc, goesOn_cons]
            refine Ev_ifn (by omega) (Ev_ifn (by rw [wu64 (by omega) (by omega)]; omega) ?_)
            rw [wu64 (by omega) (by omega), show ((gets s).1 + (v + 1)) % 4294967296 = v + 1 + (gets s).1 by omega]
            exact ihn _ (by omega) (by omega)
        · rw [if_neg hg]
          refine Ev_ifn hg (Ev_const ?_)
          simp [goesOn, hg]
theorem read_ref (s : ByteArray) (hs : s.size ≤ 9223372036854775807) : Ev (fun k => missiveref01_Read.f k s) (reads s) := by
  unfold missiveref01_Read.f reads
  refine Ev.bind (get_ref s hs) ?_
  have hsh := gets_shorter s
  by_cases hg : (gets s).2.2 = 0
  · obtain ⟨g0, g1⟩ := gets_range hg
    rw [if_pos hg]
    refine Ev_if hg ?_
    by_cases hc : (gets s).1 > 65536
    · rw [if_pos hc]; exact Ev_if hc (Ev.now _)
    · rw [if_neg hc]
      refine Ev_ifn hc ?_
      have := read_ref_l (gets s).1.toNat (gets s).2.1 [] 0 (by omega) (by omega) rfl (by simp)
      rw [if_pos rfl, goesOn_nil, Nat.zero_add, show (((gets s).1.toNat : Nat) : Int) = (gets s).1 by omega] at this
      exact this
  · rw [if_neg hg]; exact Ev_ifn hg (Ev.now _)

theorem same_l (a b : List Int) (hlen : a.length = b.length) (hb : a.length ≤ 9223372036854775807) : ∀ (d i : Nat), i + d = a.length → Ev (fun k => missiveref01_Same.l0 k a b (a.length : Int) (i : Int)) (decide (a.drop i = b.drop i)) := by
  intro d
  induction d with
  | zero =>
    intro i hd
    refine Ev_one fun k => ?_
    simp only [missiveref01_Same.l0]
    rw [if_neg (by omega), List.drop_eq_nil_of_le (by omega), List.drop_eq_nil_of_le (by omega)]
    simp
  | succ d ih =>
    intro i hd
    have h1 : i < a.length := by omega
    have h2 : i < b.length := by omega
    rw [drop_getD h1, drop_getD h2]
    have w1 : wrap64 ((i : Int) + 1) = ((i + 1 : Nat) : Int) := by rw [w64 (by omega) (by omega)]; rfl
    by_cases he : a.getD i 0 = b.getD i 0
    · refine Ev.step (f := fun k => missiveref01_Same.l0 k a b (a.length : Int) ((i + 1 : Nat) : Int)) (fun k => ?_) ?_
      · simp only [missiveref01_Same.l0, rd_nat]
        rw [if_pos (by omega), if_pos (by omega), if_pos (by omega), if_pos (by omega), if_pos he, w1]
      · rw [he]
        have := ih (i + 1) (by omega)
        simpa using this
    · refine Ev_one fun k => ?_
      simp only [missiveref01_Same.l0, rd_nat]
      rw [if_pos (by omega), if_pos (by omega), if_pos (by omega), if_pos (by omega), if_neg he]
      refine congrArg some (Eq.symm (decide_eq_false fun h => he ?_))
      injection h
theorem same_ev (a b : List Int) (hb : a.length ≤ 9223372036854775807) : Ev (fun k => missiveref01_Same.f k a b) (decide (a = b)) := by
  unfold missiveref01_Same.f
  by_cases h : a.length = b.length
  · refine Ev_if (by omega) ?_
    have := same_l a b h hb a.length 0 (by omega)
    simpa using this
  · refine Ev_ifn (by omega) (Ev_const ?_)
    have : a ≠ b := fun e => h (by rw [e])
    simp [this]
theorem lists_ok_ev : Ev (fun k => missivelaw01_lists.f k) true := Ev.of (fun k => missivelaw01_lists.mono k) (k := 40) (by decide +kernel)
end Go.Proofs.YtienpgbbjahadaaV
