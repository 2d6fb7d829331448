/- Two statements of many records, over the printed functions, where what comes in is of bulk at most 1048576. -/
import Derived.Test.YtienpgbbjahadaaSEv
import Derived.Test.YtienpgbbjahadaaUW
import Derived.Test.YtienpgbbjahadaaPA24
import Derived.Test.YtienpgbbjahadaaPA25
namespace Go.Proofs.YtienpgbbjahadaaV
open Go.RowKit Go.Proofs.YtienpgbbjahadaaW.PrintWords Go.Proofs.YtienpgbbjahadaaW.PrintLast Go.Proofs.YtienpgbbjahadaaW.PrintMore Go.Proofs.Ytienpgbbjahadaa.PA Go.Proofs.YtienpgbbjahadaaU
set_option linter.unusedVariables false

theorem RecMany_law : ∀ (l : List ByteArray) (s : ByteArray), (∀ a ∈ l, True) → sumOf (fun s => s.size + 1) l + 1 + (s.size + 1) ≤ 1048576 → ∃ k, missivelaw02_RecMany.f k l s = some true := by
  intro l s _ hb
  have hl := sumOf_le (bk := fun s : ByteArray => s.size + 1) (fun a => by omega) l
  have hal := alls_rest s
  refine Ev.rounds ?_
  unfold missivelaw02_RecMany.f
  refine Ev.bind (join_ev l (by omega)) ?_
  refine Ev.bind (join_ref l (by omega)) ?_
  refine Ev.bind (all_ev s (by omega)) ?_
  refine Ev.bind (all_ref s (by omega)) ?_
  refine Ev.bind lives2_ev (Ev_if rfl ?_)
  refine Ev_if rfl (Ev_if rfl ?_)
  refine Ev.bind (same2_ev _ _ (by simp only; omega)) ?_
  exact Ev_if (by simp) (Ev_const (by simp))

/-- All of them are framed. -/
def okL (l : List ByteArray) : Prop := ∀ s ∈ l, (frames s).2 = 0
theorem joinsF_ok : ∀ (l : List ByteArray) (acc : ByteArray), (joinsF acc l).2 = 0 → okL l := by
  intro l
  induction l with
  | nil => intro acc _ s hs; cases hs
  | cons s r ih =>
    intro acc h
    rw [joinsF] at h
    split at h
    · rename_i h1
      intro x hx
      rcases List.mem_cons.mp hx with rfl | hx
      · exact h1
      · exact ih _ h x hx
    · rename_i h1
      exact absurd h h1
theorem joinsF_acc : ∀ (l : List ByteArray) (acc : ByteArray), okL l → joinsF acc l = (acc ++ (joinsF ⟨#[]⟩ l).1, 0) := by
  intro l
  induction l with
  | nil => intro acc _; simp [joinsF, app_nil]
  | cons s r ih =>
    intro acc h
    have h1 := h s (List.mem_cons_self ..)
    have hr : okL r := fun x hx => h x (List.mem_cons_of_mem _ hx)
    rw [joinsF, if_pos h1, joinsF, if_pos h1, ih _ hr, ih (⟨#[]⟩ ++ (frames s).1) hr, nil_app, ByteArray.append_assoc]
/-- How many frames are whole ahead of the cut. -/
def wants : List ByteArray → Nat → Nat
  | [], _ => 0
  | s :: r, c => if (frames s).1.size ≤ c then wants r (c - (frames s).1.size) + 1 else 0
def sizes : List ByteArray → Nat → Nat
  | [], _ => 0
  | s :: r, c => if (frames s).1.size ≤ c then sizes r (c - (frames s).1.size) + (frames s).1.size else 0
theorem wants_le : ∀ (l : List ByteArray) (c : Nat), wants l c ≤ l.length ∧ sizes l c ≤ c := by
  intro l
  induction l with
  | nil => intro c; simp [wants, sizes]
  | cons s r ih =>
    intro c
    have := ih (c - (frames s).1.size)
    rw [wants, sizes]
    split
    · simp only [List.length_cons]; omega
    · simp
theorem extract_app_big {a b : ByteArray} {c : Nat} (h : a.size ≤ c) (hc : c ≤ (a ++ b).size) : (a ++ b).extract 0 c = a ++ b.extract 0 (c - a.size) := by
  rw [ByteArray.size_append] at hc
  apply bytesOf_inj
  rw [bytesOf_extract _ _ _ (by rw [ByteArray.size_append]; omega), bytesOf_append, bytesOf_append, bytesOf_extract _ _ _ (by omega), List.drop_zero, List.drop_zero, List.take_append, List.take_of_length_le (l := bytesOf a) (by rw [bytesOf_length]; exact h), bytesOf_length]
theorem torn : ∀ (l : List ByteArray) (c : Nat), okL l → c ≤ (joinsF ⟨#[]⟩ l).1.size → (alls ((joinsF ⟨#[]⟩ l).1.extract 0 c)).1 = l.take (wants l c) ∧ (alls ((joinsF ⟨#[]⟩ l).1.extract 0 c)).2.size + sizes l c = c := by
  intro l
  induction l with
  | nil =>
    intro c _ hc
    have z : ((joinsF ⟨#[]⟩ []).1.extract 0 c).size = 0 := by rw [ByteArray.size_extract]; simp only [joinsF] at hc ⊢; have : (⟨#[]⟩ : ByteArray).size = 0 := rfl; omega
    have c0 : c = 0 := by simp only [joinsF] at hc; have : (⟨#[]⟩ : ByteArray).size = 0 := rfl; omega
    rw [size_zero z, alls_nil]
    simp only [wants, sizes, List.take_nil, true_and]
    have : (⟨#[]⟩ : ByteArray).size = 0 := rfl
    omega
  | cons s r ih =>
    intro c h hc
    have h1 := h s (List.mem_cons_self ..)
    have hr : okL r := fun x hx => h x (List.mem_cons_of_mem _ hx)
    have ej : (joinsF ⟨#[]⟩ (s :: r)).1 = (frames s).1 ++ (joinsF ⟨#[]⟩ r).1 := by rw [joinsF, if_pos h1, joinsF_acc r _ hr, nil_app]
    rw [ej] at hc ⊢
    rw [wants, sizes]
    by_cases hle : (frames s).1.size ≤ c
    · rw [if_pos hle, if_pos hle, extract_app_big hle hc]
      have hc2 : c - (frames s).1.size ≤ (joinsF ⟨#[]⟩ r).1.size := by rw [ByteArray.size_append] at hc; omega
      obtain ⟨i1, i2⟩ := ih (c - (frames s).1.size) hr hc2
      have hn := nexts_frames h1 ((joinsF ⟨#[]⟩ r).1.extract 0 (c - (frames s).1.size))
      rw [alls_step (by rw [hn]), hn]
      simp only
      rw [i1]
      refine ⟨by simp, by omega⟩
    · rw [if_neg hle, if_neg hle]
      have hx := take_rest ((frames s).1 ++ (joinsF ⟨#[]⟩ r).1) c hc
      have hne : (nexts (((frames s).1 ++ (joinsF ⟨#[]⟩ r).1).extract 0 c)).2.2 ≠ 0 := by
        intro h0
        obtain ⟨e1, _⟩ := nexts_prefix h1 hx h0
        obtain ⟨_, e2⟩ := nexts_ok h0
        have := congrArg ByteArray.size e2
        rw [ByteArray.size_append, e1, ByteArray.size_extract] at this
        omega
      rw [alls_end hne]
      refine ⟨by simp, ?_⟩
      rw [ByteArray.size_extract]; omega

theorem torn_l (l : List ByteArray) (hok : okL l) (c : Nat) (hc : c ≤ 2199023255552) (got : List ByteArray) (n : Int) (hlen : l.length ≤ 1048576) (hg : got = l.take (wants l c)) (hn : n = (sizes l c : Int)) (hgl : got.length ≤ 1048576) :
    ∀ (d i size : Nat), i + d = l.length → size ≤ c → i + wants (l.drop i) (c - size) = wants l c → size + sizes (l.drop i) (c - size) = sizes l c → Ev (fun k => missivelaw02_RecTorn.l0 k l (c : Int) got n (size : Int) (i : Int)) true := by
  have fin : ∀ (i size : Nat), i ≤ l.length → i = wants l c → size = sizes l c → Ev (fun k => if n = (size : Int) then (if 0 ≤ (i : Int) then (if (i : Int) ≤ (l.length : Int) then ((missiveref02_Same.f k got (l.take (i : Int).toNat)).bind fun t => (some t)) else (none)) else (none)) else (some false)) true := by
    intro i size hi h1 h2
    refine Ev_if (by omega) (Ev_if (by omega) (Ev_if (by omega) ?_))
    refine Ev.bind (same2_ev _ _ (by omega)) (Ev_const ?_)
    rw [Int.toNat_natCast, h1, hg]; simp
  intro d
  induction d with
  | zero =>
    intro i size hd hs h1 h2
    rw [List.drop_eq_nil_of_le (by omega)] at h1 h2
    simp only [wants, sizes, Nat.add_zero] at h1 h2
    refine Ev.step (f := fun k => if n = (size : Int) then (if 0 ≤ (i : Int) then (if (i : Int) ≤ (l.length : Int) then ((missiveref02_Same.f k got (l.take (i : Int).toNat)).bind fun t => (some t)) else (none)) else (none)) else (some false)) (fun k => ?_) (fin i size (by omega) h1 h2)
    simp only [missivelaw02_RecTorn.l0]
    rw [if_neg (by omega)]
  | succ d ih =>
    intro i size hd hs h1 h2
    have hi : i < l.length := by omega
    have hz := frames_size (l.getD i ByteArray.empty)
    rw [drop_getDB hi, wants] at h1
    rw [drop_getDB hi, sizes] at h2
    refine Ev.step (f := fun k => (rec_Frame.f k (l.getD i ByteArray.empty)).bind fun b => if (b.1.size : Int) > (c : Int) - (size : Int) then (if n = (size : Int) then (if (i : Int) ≤ (l.length : Int) then ((missiveref02_Same.f k got (l.take (i : Int).toNat)).bind fun t => (some t)) else (none)) else (some false)) else missivelaw02_RecTorn.l0 k l (c : Int) got n (wrap64 ((size : Int) + (b.1.size : Int))) ((i + 1 : Nat) : Int)) (fun k => ?_) ?_
    · simp only [missivelaw02_RecTorn.l0, rdOf_nat]
      rw [if_pos (by omega), if_pos (by omega), w64 (n := (c : Int) - (size : Int)) (by omega) (by omega), w64 (n := (i : Int) + 1) (by omega) (by omega)]; rfl
    · refine Ev.bind (frame_ev _) ?_
      by_cases hle : (frames (l.getD i ByteArray.empty)).1.size ≤ c - size
      · rw [if_pos hle] at h1 h2
        refine Ev_ifn (by omega) ?_
        rw [w64 (by omega) (by omega)]
        have := ih (i + 1) (size + (frames (l.getD i ByteArray.empty)).1.size) (by omega) (by omega) (by rw [← Nat.sub_sub]; omega) (by rw [← Nat.sub_sub]; omega)
        rw [Int.natCast_add] at this
        exact this
      · rw [if_neg hle] at h1 h2
        have := fin i size (by omega) (by omega) (by omega)
        refine Ev_if (by omega) ?_
        simpa using this
theorem RecTorn_law : ∀ (l : List ByteArray) (cut : Int), (∀ a ∈ l, True) → (Lit.int .i64 cut).wf = true → sumOf (fun s => s.size + 1) l + 1 + 1 ≤ 1048576 → ∃ k, missivelaw02_RecTorn.f k l cut = some true := by
  intro l cut _ hcut hb
  have hl := sumOf_le (bk := fun s : ByteArray => s.size + 1) (fun a => by omega) l
  refine Ev.rounds ?_
  unfold missivelaw02_RecTorn.f
  refine Ev.bind lives2_ev (Ev_if rfl ?_)
  refine Ev.bind (join_ev l (by omega)) ?_
  have jt : ∀ J, Ev (fun k => missivelaw02_RecTorn.j0 k l cut J true) true := fun J => Ev_one fun k => by simp [missivelaw02_RecTorn.j0]
  by_cases h : (joins l).2 = 0
  · refine Ev_if h ?_
    have hok := joinsF_ok l ⟨#[]⟩ h
    by_cases c0 : cut < 0
    · exact Ev_if c0 (jt _)
    · refine Ev_ifn c0 ?_
      by_cases c1 : cut > ((joins l).1.size : Int)
      · rw [decide_eq_true c1]; exact jt _
      · rw [decide_eq_false c1]
        obtain ⟨c, rfl⟩ := Int.eq_ofNat_of_zero_le (show 0 ≤ cut by omega)
        have hjz : ∀ (l : List ByteArray) (acc : ByteArray), (joinsF acc l).1.size ≤ acc.size + 1048590 * l.length := by
          intro l
          induction l with
          | nil => intro acc; simp [joinsF]
          | cons s r ih =>
            intro acc
            have z := frames_size s
            rw [joinsF]
            split
            · have := ih (acc ++ (frames s).1)
              rw [ByteArray.size_append] at this
              simp only [List.length_cons]; omega
            · have : (⟨#[]⟩ : ByteArray).size = 0 := rfl
              simp only; omega
        have hJ : (joins l).1.size ≤ 2199023255552 := by
          have := hjz l ⟨#[]⟩
          have z : (⟨#[]⟩ : ByteArray).size = 0 := rfl
          unfold joins; omega
        have hxz : ((joins l).1.extract 0 c).size = c := by rw [ByteArray.size_extract]; omega
        obtain ⟨t1, t2⟩ := torn l c hok (by show c ≤ (joins l).1.size; omega)
        have hw := wants_le l c
        refine Ev.step (f := fun k => (rec_All.f k ((joins l).1.extract 0 c)).bind fun b => missivelaw02_RecTorn.l0 k l (c : Int) b.1 b.2 0 0) (fun k => ?_) ?_
        · simp only [missivelaw02_RecTorn.j0]
          rw [if_neg (by simp), if_pos (by omega), if_pos (by omega), Int.toNat_natCast]
        · refine Ev.bind (all_ev _ (by omega)) ?_
          have := torn_l l hok c (by omega) (alls ((joins l).1.extract 0 c)).1 ((((joins l).1.extract 0 c).size : Int) - ((alls ((joins l).1.extract 0 c)).2.size : Int)) (by omega) t1 (by rw [hxz]; unfold joins; omega) (by rw [show (alls ((joins l).1.extract 0 c)).1 = l.take (wants l c) from t1, List.length_take]; omega) l.length 0 0 (by omega) (by omega) (by simp) (by simp)
          exact this
  · exact Ev_ifn h (jt _)
end Go.Proofs.YtienpgbbjahadaaV
