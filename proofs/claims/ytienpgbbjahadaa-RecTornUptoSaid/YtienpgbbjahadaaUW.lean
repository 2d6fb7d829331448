/- Arguments of any plain kind, as the rows read them: what the reading gives of a value's kind, and how much of it there is at the most. -/
import Derived.Test.YtienpgbbjahadaaRows
import Derived.Test.YtienpgbbjahadaaWMore
import Derived.ChangeArms
import Derived.DataReads
import Derived.SizedLaws
import Derived.ChangeOld
namespace Go.Proofs.YtienpgbbjahadaaU
open Go.ChangeShapes Go.WideShapes Go.RowKit Go.Proofs.YtienpgbbjahadaaW.PrintWords Go.Proofs.Ytienpgbbjahadaa
set_option linter.unusedVariables false

variable {P : Program} {W : World}

theorem one_le {H : Type} (d : DataW H) : 1 ≤ Rows.uptoBulk d := by
  cases d with
  | lit l => cases l <;> simp [Rows.uptoBulk]
  | nil => simp [Rows.uptoBulk]
  | ptr d => simp [Rows.uptoBulk]
  | slice elems spare => simp [Rows.uptoBulk]
  | agg parts => simp [Rows.uptoBulk]
  | iface t d => simp [Rows.uptoBulk]
  | map entries => simp [Rows.uptoBulk]
  | held h => simp [Rows.uptoBulk]
theorem bulk_append {H : Type} (l r : List (DataW H)) : Rows.uptoBulkAll (l ++ r) = Rows.uptoBulkAll l + Rows.uptoBulkAll r := by
  induction l with
  | nil => simp [Rows.uptoBulkAll]
  | cons x l ih => simp only [List.cons_append, Rows.uptoBulkAll, ih]; omega
theorem bound {H : Type} {l : List (DataW H)} (hk : Rows.uptoSmall H l = true) : Rows.uptoBulkAll l ≤ 1048576 := by
  unfold Rows.uptoSmall at hk
  exact of_decide_eq_true hk

/-- Whatever is read as of type t is a value of kind d, of so much bulk at the least, and right. -/
def Opens {α : Type} (P : Program) (W : World) (t : TypeId) (d : Kd α) (bk : α → Nat) (wf : α → Prop) : Prop :=
  ∀ (H : Type) (enc : TypeId × Value → H) (fuel : Nat) (cs : List Value) (x : DataW H × List MemPlace), DataW.trod enc P W 0 (fun _ => true) true fuel t cs = some x → ∃ a, d.K W a cs ∧ bk a ≤ Rows.uptoBulk x.1 ∧ wf a

theorem opens_int {t : TypeId} {k : IntKind} (hu : P.underlying t = some (.int k)) : Opens P W t (Kd.int k) (fun _ => 1) (fun a => (Lit.int k a).wf = true) := by
  intro H enc fuel cs x h
  obtain ⟨n, rfl, rfl, hw⟩ := DataW.trod_int hu h
  exact ⟨n, rfl, one_le _, hw⟩
theorem opens_bool {t : TypeId} (hu : P.underlying t = some .bool) : Opens P W t Kd.bool (fun _ => 1) (fun _ => True) := by
  intro H enc fuel cs x h
  obtain ⟨n, rfl, rfl⟩ := DataW.trod_bool hu h
  exact ⟨n, rfl, one_le _, trivial⟩
theorem opens_str {t : TypeId} (hu : P.underlying t = some .string) : Opens P W t Kd.string (fun s => s.size + 1) (fun _ => True) := by
  intro H enc fuel cs x h
  obtain ⟨s, rfl, rfl, hm⟩ := DataW.trod_string hu h
  refine ⟨s, rfl, ?_, trivial⟩
  simp only [Rows.uptoBulk, Array.length_toList]
  exact Nat.le_refl _
def sumOf {α : Type} (bk : α → Nat) : List α → Nat
  | [] => 0
  | a :: l => bk a + sumOf bk l
theorem sumOf_append {α : Type} (bk : α → Nat) (l r : List α) : sumOf bk (l ++ r) = sumOf bk l + sumOf bk r := by
  induction l with
  | nil => simp [sumOf]
  | cons a l ih => simp only [List.cons_append, sumOf, ih]; omega
theorem sumOf_le {α : Type} {bk : α → Nat} (h : ∀ a, 1 ≤ bk a) (l : List α) : l.length ≤ sumOf bk l := by
  induction l with
  | nil => simp
  | cons a l ih => have := h a; simp only [List.length_cons, sumOf]; omega
theorem sumOf_mem {α : Type} {bk : α → Nat} {l : List α} {a : α} (h : a ∈ l) : bk a ≤ sumOf bk l := by
  induction l with
  | nil => cases h
  | cons b l ih =>
    simp only [sumOf]
    rcases List.mem_cons.mp h with rfl | h
    · omega
    · have := ih h; omega
theorem opens_slice {α : Type} {t e : TypeId} {d : Kd α} {bk : α → Nat} {wf : α → Prop} (hu : P.underlying t = some (.slice e)) (hc : P.cellsOf e = d.sz) (hd : Opens P W e d bk wf) :
    Opens P W t (Kd.slice e d) (fun l => sumOf bk l + 1) (fun l => ∀ a ∈ l, wf a) := by
  intro H enc fuel cs x h
  rcases DataW.trod_slice hu h with ⟨rfl, rfl⟩ | ⟨a, len, cap, elems, rest, n, rfl, rfl, rfl, hb, hl, hm, hlen, hel, hsp, hns⟩
  · exact ⟨[], ⟨none, 0, rfl, Nat.le_refl _, rfl, by simp, fun h => absurd h (by simp)⟩, by simp [sumOf, Rows.uptoBulk], by simp⟩
  · have key : ∀ m, m ≤ len → ∃ l : List α, l.length = m ∧ (∀ j p, l[j]? = some p → (∃ c, W.cells? 0 (a.add (j * P.cellsOf e)) (P.cellsOf e) = some c ∧ d.K W p c) ∧ wf p) ∧ sumOf bk l ≤ Rows.uptoBulkAll ((elems.take m).map (·.1)) := by
      intro m
      induction m with
      | zero => intro _; exact ⟨[], rfl, by simp, by simp [sumOf]⟩
      | succ m ih =>
        intro hm'
        obtain ⟨l, hl1, hl2, hl3⟩ := ih (by omega)
        have hlt : m < elems.length := by omega
        have he := hel m (by omega)
        rw [List.getElem?_eq_getElem hlt, Option.bind_eq_some_iff] at he
        obtain ⟨c, hcs, htr⟩ := he
        obtain ⟨p, hK, hbk, hwf⟩ := hd H enc n c _ htr
        refine ⟨l ++ [p], by simp [hl1], ?_, ?_⟩
        · intro j q hq
          rcases Nat.lt_or_ge j l.length with hj | hj
          · rw [List.getElem?_append_left hj] at hq
            exact hl2 j q hq
          · have hj' : j = m := by
              have := (List.getElem?_eq_some_iff.1 hq).1
              rw [List.length_append, List.length_singleton] at this
              omega
            subst hj'
            rw [← hl1, List.getElem?_concat_length] at hq
            cases hq
            exact ⟨⟨c, hcs, hK⟩, hwf⟩
        · rw [List.take_succ_eq_append_getElem hlt, List.map_append, bulk_append, sumOf_append]
          simp only [sumOf, List.map_cons, List.map_nil, Rows.uptoBulkAll]
          omega
    obtain ⟨l, hl1, hl2, hl3⟩ := key len (Nat.le_refl _)
    have hmax : len ≤ 9223372036854775807 := by unfold maxLen at hm; omega
    refine ⟨l, ⟨some a, cap, by rw [hl1], by omega, rfl, by omega, fun _ => ⟨a, rfl, fun j p hj => ?_⟩⟩, ?_, ?_⟩
    · obtain ⟨⟨c, hcs, hK⟩, _⟩ := hl2 j p hj
      obtain ⟨_, hcl, hce⟩ := World.cells?_some hcs
      refine ⟨c, by rw [hcl, hc], hK, fun i u hu => ?_⟩
      have hi : i < P.cellsOf e := by rw [← hcl]; exact (List.getElem?_eq_some_iff.1 hu).1
      have := hce i hi
      rw [hu, Addr.add_add, hc] at this
      exact this
    · rw [List.take_of_length_le (by omega)] at hl3
      simp only [Rows.uptoBulk]
      omega
    · intro p hp
      obtain ⟨j, hj, hjp⟩ := List.getElem_of_mem hp
      exact (hl2 j p (by rw [List.getElem?_eq_getElem hj, hjp])).2

/-- A slice that is an argument. -/
theorem open_arg {α : Type} {t e : TypeId} {d : Kd α} {bk : List α → Nat} {wf : List α → Prop} (h : Opens P W t (Kd.slice e d) bk wf) {H : Type} {enc : TypeId × Value → H} {a : Option Addr} {len cap : Nat} {D : DataW H} {ps : List MemPlace}
    (hD : DataW.Trod enc P W 0 (fun _ => true) true t (.slice a len cap) D ps) : ∃ l : List α, len = l.length ∧ l.length ≤ cap ∧ d.C W a l.length l ∧ bk l ≤ Rows.uptoBulk D ∧ wf l := by
  obtain ⟨fuel, hf⟩ := hD
  obtain ⟨l, ⟨A, c, hcs, hlc, hC⟩, hb, hw⟩ := h H enc fuel _ _ hf
  simp [Value.cells] at hcs
  obtain ⟨rfl, rfl, rfl⟩ := hcs
  exact ⟨l, rfl, hlc, hC, hb, hw⟩
end Go.Proofs.YtienpgbbjahadaaU
