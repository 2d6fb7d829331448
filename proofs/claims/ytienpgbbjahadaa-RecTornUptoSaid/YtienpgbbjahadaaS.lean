/- Records joined, and told one by one: the plain law. -/
import Derived.Test.YtienpgbbjahadaaR
namespace Go.Proofs.YtienpgbbjahadaaV
open Go.RowKit Go.Proofs.YtienpgbbjahadaaW.PrintWords Go.Proofs.YtienpgbbjahadaaW.PrintLast Go.Proofs.YtienpgbbjahadaaW.PrintMore
set_option linter.unusedVariables false

def joinsF : ByteArray → List ByteArray → ByteArray × Int
  | acc, [] => (acc, 0)
  | acc, s :: r => if (frames s).2 = 0 then joinsF (acc ++ (frames s).1) r else (⟨#[]⟩, (frames s).2)
def joins (l : List ByteArray) : ByteArray × Int := joinsF ⟨#[]⟩ l
/-- The records that bytes begin with, and what is behind them. -/
def allsF : Nat → ByteArray → List ByteArray × ByteArray
  | 0, s => ([], s)
  | n + 1, s => if (nexts s).2.2 = 0 then ((nexts s).1 :: (allsF n (nexts s).2.1).1, (allsF n (nexts s).2.1).2) else ([], s)
def alls (s : ByteArray) : List ByteArray × ByteArray := allsF (s.size + 1) s

theorem puts_pos (n : Int) : 1 ≤ (puts n).size := by
  rw [puts_size]
  have := leb_ne n
  cases h : leb n with
  | nil => exact absurd h this
  | cons => simp
theorem frames_big {s : ByteArray} (h : (frames s).2 = 0) : s.size + 5 ≤ (frames s).1.size := by
  obtain ⟨_, e⟩ := frames_ok h
  have := puts_pos (s.size : Int)
  rw [e]; simp only [ByteArray.size_append, four_size]; omega
theorem nexts_smaller {s : ByteArray} (h : (nexts s).2.2 = 0) : (nexts s).2.1.size + 5 ≤ s.size := by
  obtain ⟨hf, e⟩ := nexts_ok h
  have h1 := frames_big hf
  have h2 := congrArg ByteArray.size e
  rw [ByteArray.size_append] at h2
  omega
theorem allsF_more : ∀ (n m : Nat) (s : ByteArray), s.size < n → s.size < m → allsF n s = allsF m s := by
  intro n
  induction n with
  | zero => intro m s h; omega
  | succ n ih =>
    intro m s h1 h2
    obtain ⟨m, rfl⟩ : ∃ j, m = j + 1 := ⟨m - 1, by omega⟩
    rw [allsF, allsF]
    by_cases h : (nexts s).2.2 = 0
    · have := nexts_smaller h
      rw [if_pos h, if_pos h, ih m _ (by omega) (by omega)]
    · rw [if_neg h, if_neg h]
theorem alls_step {s : ByteArray} (h : (nexts s).2.2 = 0) : alls s = ((nexts s).1 :: (alls (nexts s).2.1).1, (alls (nexts s).2.1).2) := by
  have := nexts_smaller h
  unfold alls
  rw [allsF, if_pos h, allsF_more s.size ((nexts s).2.1.size + 1) _ (by omega) (by omega)]
theorem alls_end {s : ByteArray} (h : (nexts s).2.2 ≠ 0) : alls s = ([], s) := by
  unfold alls
  rw [allsF, if_neg h]
theorem alls_ind {P : ByteArray → Prop} (more : ∀ s, (nexts s).2.2 = 0 → P (nexts s).2.1 → P s) (stop : ∀ s, (nexts s).2.2 ≠ 0 → P s) : ∀ s, P s := by
  have key : ∀ (n : Nat) (s : ByteArray), s.size < n → P s := by
    intro n
    induction n with
    | zero => intro s h; omega
    | succ n ih =>
      intro s h
      by_cases hn : (nexts s).2.2 = 0
      · have := nexts_smaller hn
        exact more s hn (ih _ (by omega))
      · exact stop s hn
  exact fun s => key (s.size + 1) s (by omega)
theorem alls_rest (s : ByteArray) : (alls s).2.size + 5 * (alls s).1.length ≤ s.size := by
  refine alls_ind (P := fun s => (alls s).2.size + 5 * (alls s).1.length ≤ s.size) ?_ ?_ s
  · intro s h ih
    have := nexts_smaller h
    rw [alls_step h]; simp only [List.length_cons]; omega
  · intro s h; rw [alls_end h]; simp
theorem nexts_nil : nexts ⟨#[]⟩ = (⟨#[]⟩, ⟨#[]⟩, 5) := by decide +kernel
theorem nil_app (s : ByteArray) : (⟨#[]⟩ : ByteArray) ++ s = s := by apply bytesOf_inj; rw [bytesOf_append]; rfl
theorem app_nil (s : ByteArray) : s ++ (⟨#[]⟩ : ByteArray) = s := by apply bytesOf_inj; rw [bytesOf_append]; simp [bytesOf]
theorem app_cancel {a b c : ByteArray} (h : a ++ b = a ++ c) : b = c := by
  have := congrArg bytesOf h
  rw [bytesOf_append, bytesOf_append] at this
  exact bytesOf_inj (List.append_cancel_left this)
theorem size_zero {s : ByteArray} (h : s.size = 0) : s = ⟨#[]⟩ := by
  apply bytesOf_inj
  have : (bytesOf s).length = 0 := by rw [bytesOf_length]; exact h
  rw [List.eq_nil_of_length_eq_zero this]; rfl
theorem alls_nil : alls ⟨#[]⟩ = ([], ⟨#[]⟩) := alls_end (by rw [nexts_nil]; decide)
/-- What begins frames is told as what they frame, as far as it goes. -/
theorem nexts_prefix {s t more : ByteArray} (hs : (frames s).2 = 0) {x : ByteArray} (e : x ++ t = (frames s).1 ++ more) (h : (nexts x).2.2 = 0) : (nexts x).1 = s ∧ (nexts x).2.1 ++ t = more := by
  obtain ⟨hf, ex⟩ := nexts_ok h
  have h1 : nexts (x ++ t) = ((nexts x).1, (nexts x).2.1 ++ t, 0) := by
    conv => lhs; rw [ex, ByteArray.append_assoc]
    exact nexts_frames hf _
  rw [e, nexts_frames hs more] at h1
  simp only [Prod.mk.injEq] at h1
  exact ⟨h1.1.symm, h1.2.1.symm⟩
theorem alls_two {s t : ByteArray} (hs : (frames s).2 = 0) (ht : (frames t).2 = 0) : alls ((frames s).1 ++ (frames t).1) = ([s, t], ⟨#[]⟩) := by
  have h1 := nexts_frames hs (frames t).1
  have h2 := nexts_frames ht ⟨#[]⟩
  rw [app_nil] at h2
  rw [alls_step (by rw [h1]), h1]
  simp only
  rw [alls_step (by rw [h2]), h2]
  simp only
  rw [alls_nil]
theorem alls_few {s t x y : ByteArray} (hs : (frames s).2 = 0) (ht : (frames t).2 = 0) (e : x ++ y = (frames s).1 ++ (frames t).1) : (alls x).1.length ≤ 2 := by
  by_cases h : (nexts x).2.2 = 0
  · rw [alls_step h]
    obtain ⟨_, e2⟩ := nexts_prefix hs e h
    by_cases h2 : (nexts (nexts x).2.1).2.2 = 0
    · rw [alls_step h2]
      obtain ⟨_, e3⟩ := nexts_prefix (more := ⟨#[]⟩) (t := y) (x := (nexts x).2.1) ht (e2.trans (app_nil _).symm) h2
      have : ((nexts (nexts x).2.1).2.1).size = 0 := by
        have := congrArg ByteArray.size e3
        rw [ByteArray.size_append] at this
        have z : (⟨#[]⟩ : ByteArray).size = 0 := rfl
        omega
      rw [size_zero this, alls_nil]
      simp
    · rw [alls_end h2]; simp
  · rw [alls_end h]; simp
theorem take_rest (x : ByteArray) (i : Nat) (h : i ≤ x.size) : x.extract 0 i ++ x.extract i x.size = x := by
  apply bytesOf_inj
  rw [bytesOf_append, bytesOf_extract _ _ _ h, bytesOf_extract _ _ _ (Nat.le_refl _), List.drop_zero, List.take_of_length_le (l := bytesOf x) (i := x.size) (by rw [bytesOf_length]; exact Nat.le_refl _), List.take_append_drop]
end Go.Proofs.YtienpgbbjahadaaV
