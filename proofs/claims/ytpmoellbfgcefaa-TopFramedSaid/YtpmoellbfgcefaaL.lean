/- Lists that rise, as bytes: the plain law of them, with no program in sight. -/
import Derived.Test.YtpmoellbfgcefaaV
namespace Go.Proofs.YtpmoellbfgcefaaV
open Go.RowKit Go.Proofs.YtpmoellbfgcefaaW.PrintWords Go.Proofs.YtpmoellbfgcefaaW.PrintLast Go.Proofs.YtpmoellbfgcefaaW.PrintMore
set_option linter.unusedVariables false

/-- The bytes of a list behind its length; none: it does not rise. -/
def encL : Int → List Int → Option (List Int)
  | _, [] => some []
  | next, n :: r => if n < next then none else (encL (n + 1) r).map (leb (n - next) ++ ·)
def lists (l : List Int) : ByteArray × Int :=
  if (l.length : Int) > 65536 then (⟨#[]⟩, 1) else
    match encL 0 l with
    | none => (⟨#[]⟩, 12)
    | some b => (strOfNums (leb (l.length : Int) ++ b), 0)
/-- So many numbers out of bytes, none below 'next'. -/
def decL : Nat → ByteArray → Int → List Int × ByteArray × Int
  | 0, s, _ => ([], s, 0)
  | m + 1, s, next =>
    if (gets s).2.2 = 0 then
      if (gets s).1 + next > 4294967295 then ([], ⟨#[]⟩, 7) else
        if (decL m (gets s).2.1 (next + (gets s).1 + 1)).2.2 = 0 then ((next + (gets s).1) :: (decL m (gets s).2.1 (next + (gets s).1 + 1)).1, (decL m (gets s).2.1 (next + (gets s).1 + 1)).2.1, 0)
        else ([], ⟨#[]⟩, (decL m (gets s).2.1 (next + (gets s).1 + 1)).2.2)
    else ([], ⟨#[]⟩, (gets s).2.2)
def reads (s : ByteArray) : List Int × ByteArray × Int :=
  if (gets s).2.2 = 0 then (if (gets s).1 > 65536 then ([], ⟨#[]⟩, 1) else decL (gets s).1.toNat (gets s).2.1 0) else ([], ⟨#[]⟩, (gets s).2.2)

theorem gets_range {s : ByteArray} (h : (gets s).2.2 = 0) : 0 ≤ (gets s).1 ∧ (gets s).1 ≤ 18446744073709551615 := (gets_ok (s := s) (n := (gets s).1) (r := (gets s).2.1) (Prod.ext rfl (Prod.ext rfl h))).2
theorem encL_range : ∀ (l : List Int) (next : Int) (b : List Int), 0 ≤ next → (∀ x ∈ l, 0 ≤ x ∧ x ≤ 4294967295) → encL next l = some b → b.length ≤ 10 * l.length ∧ ∀ c ∈ b, 0 ≤ c ∧ c ≤ 255 := by
  intro l
  induction l with
  | nil =>
    intro next b _ _ h
    simp only [encL, Option.some.injEq] at h
    subst h; simp
  | cons n r ih =>
    intro next b h0 hr h
    have hn := hr n (List.mem_cons_self ..)
    rw [encL] at h
    split at h
    · cases h
    · simp only [Option.map_eq_some_iff] at h
      obtain ⟨b', hb, rfl⟩ := h
      obtain ⟨hl, hc⟩ := ih (n + 1) b' (by omega) (fun x hx => hr x (List.mem_cons_of_mem _ hx)) hb
      have := leb_length_le (n := n - next) (by omega) (by omega)
      refine ⟨by simp; omega, fun c hc' => ?_⟩
      rcases List.mem_append.mp hc' with h | h
      · exact leb_range (n - next) (by omega) (by omega) c h
      · exact hc c h
theorem lists_size {l : List Int} (hr : ∀ x ∈ l, 0 ≤ x ∧ x ≤ 4294967295) : (lists l).1.size ≤ 655380 := by
  unfold lists
  split
  · decide
  · split
    · decide
    · rename_i h b hb
      have := (encL_range l 0 b (by omega) hr hb).1
      have := leb_length_le (n := (l.length : Int)) (by omega) (by omega)
      rw [strOfNums_size, List.length_append]; omega
/-- What was written is read, and what was behind it stays. -/
theorem decL_encL : ∀ (l : List Int) (next : Int) (b : List Int) (s : ByteArray), 0 ≤ next → (∀ x ∈ l, 0 ≤ x ∧ x ≤ 4294967295) → encL next l = some b → decL l.length (strOfNums b ++ s) next = (l, s, 0) := by
  intro l
  induction l with
  | nil =>
    intro next b s _ _ h
    simp only [encL, Option.some.injEq] at h
    subst h
    have : strOfNums ([] : List Int) ++ s = s := by apply bytesOf_inj; rw [bytesOf_append]; rfl
    simp [decL, this]
  | cons n r ih =>
    intro next b s h0 hr h
    have hn := hr n (List.mem_cons_self ..)
    rw [encL] at h
    split at h
    · cases h
    · simp only [Option.map_eq_some_iff] at h
      obtain ⟨b', hb, rfl⟩ := h
      have e : strOfNums (leb (n - next) ++ b') ++ s = puts (n - next) ++ (strOfNums b' ++ s) := by rw [strOf_append, puts, ByteArray.append_assoc]
      have hg := gets_puts (n := n - next) (by omega) (by omega) (strOfNums b' ++ s)
      have hd := ih (n + 1) b' s (by omega) (fun x hx => hr x (List.mem_cons_of_mem _ hx)) hb
      rw [List.length_cons, decL, e, hg]
      simp only [if_true]
      rw [if_neg (by omega), show next + (n - next) + 1 = n + 1 by omega, hd]
      simp only [if_true]
      rw [show next + (n - next) = n by omega]
/-- What is read rises, and has its bytes. -/
theorem decL_ok : ∀ (m : Nat) (s : ByteArray) (next : Int) (l : List Int) (r : ByteArray), 0 ≤ next → decL m s next = (l, r, 0) → l.length = m ∧ (∀ x ∈ l, 0 ≤ x ∧ x ≤ 4294967295) ∧ ∃ b, encL next l = some b ∧ s = strOfNums b ++ r := by
  intro m
  induction m with
  | zero =>
    intro s next l r _ h
    simp only [decL, Prod.mk.injEq, and_true] at h
    obtain ⟨rfl, rfl⟩ := h
    refine ⟨rfl, by simp, [], rfl, ?_⟩
    apply bytesOf_inj; rw [bytesOf_append]; rfl
  | succ m ih =>
    intro s next l r h0 h
    rw [decL] at h
    split at h
    · rename_i hg
      obtain ⟨g0, g1⟩ := gets_range hg
      split at h
      · simp at h
      · rename_i hle
        split at h
        · rename_i hz
          obtain ⟨h1, h2⟩ := Prod.mk.inj h
          obtain ⟨h2, _⟩ := Prod.mk.inj h2
          obtain ⟨il, ir, b, hb, hs⟩ := ih (gets s).2.1 (next + (gets s).1 + 1) _ _ (by omega) (Prod.ext rfl (Prod.ext rfl hz))
          obtain ⟨hs', _⟩ := gets_ok (s := s) (n := (gets s).1) (r := (gets s).2.1) (Prod.ext rfl (Prod.ext rfl hg))
          subst h1
          refine ⟨by simp [il], ?_, leb (gets s).1 ++ b, ?_, ?_⟩
          · intro x hx
            rcases List.mem_cons.mp hx with rfl | hx
            · omega
            · exact ir x hx
          · rw [encL, if_neg (by omega), hb, show next + (gets s).1 - next = (gets s).1 by omega]
            rfl
          · rw [← h2, strOf_append, ByteArray.append_assoc, ← hs]
            exact hs'
        · rename_i hz
          simp only [Prod.mk.injEq] at h
          exact absurd h.2.2 hz
    · rename_i hg
      simp only [Prod.mk.injEq] at h
      exact absurd h.2.2 hg
theorem decL_err : ∀ (m : Nat) (s : ByteArray) (next : Int), (decL m s next).2.2 ≠ 0 → (decL m s next).1 = [] ∧ (decL m s next).2.1 = ⟨#[]⟩ := by
  intro m
  induction m with
  | zero => intro s next h; exact absurd rfl h
  | succ m ih =>
    intro s next h
    rw [decL] at h ⊢
    split at h
    · split at h
      · rename_i h1 h2; rw [if_pos h1, if_pos h2]; exact ⟨rfl, rfl⟩
      · rename_i h1 h2
        rw [if_pos h1, if_neg h2]
        split at h
        · exact absurd rfl h
        · rename_i h3; rw [if_neg h3]; exact ⟨rfl, rfl⟩
    · rename_i h1; rw [if_neg h1]; exact ⟨rfl, rfl⟩
theorem decL_shorter : ∀ (m : Nat) (s : ByteArray) (next : Int), (decL m s next).2.1.size ≤ s.size := by
  intro m
  induction m with
  | zero => intro s next; simp [decL]
  | succ m ih =>
    intro s next
    have := gets_shorter s
    rw [decL]
    split
    · split
      · exact Nat.zero_le _
      · have := ih (gets s).2.1 (next + (gets s).1 + 1)
        split
        · simp only; omega
        · exact Nat.zero_le _
    · exact Nat.zero_le _
theorem reads_lists {l : List Int} (hr : ∀ x ∈ l, 0 ≤ x ∧ x ≤ 4294967295) (h : (lists l).2 = 0) (s : ByteArray) : reads ((lists l).1 ++ s) = (l, s, 0) := by
  unfold lists at h ⊢
  split at h
  · cases h
  · rename_i hl
    rw [if_neg hl]
    cases hb : encL 0 l with
    | none => rw [hb] at h; cases h
    | some b =>
      simp only
      have e : strOfNums (leb (l.length : Int) ++ b) ++ s = puts (l.length : Int) ++ (strOfNums b ++ s) := by rw [strOf_append, puts, ByteArray.append_assoc]
      rw [e]
      unfold reads
      rw [gets_puts (by omega) (by omega)]
      simp only [if_true]
      rw [if_neg hl, Int.toNat_natCast]
      exact decL_encL l 0 b s (by omega) hr hb
theorem reads_ok {s : ByteArray} (h : (reads s).2.2 = 0) : (∀ x ∈ (reads s).1, 0 ≤ x ∧ x ≤ 4294967295) ∧ (lists (reads s).1).2 = 0 ∧ (lists (reads s).1).1 ++ (reads s).2.1 = s ∧ (reads s).2.1.size ≤ s.size ∧ (reads s).1.length ≤ 65536 := by
  unfold reads at h ⊢
  split at h
  · rename_i hg
    rw [if_pos hg]
    obtain ⟨g0, g1⟩ := gets_range hg
    split at h
    · cases h
    · rename_i hle
      rw [if_neg hle]
      obtain ⟨hl, hr, b, hb, hs⟩ := decL_ok (gets s).1.toNat (gets s).2.1 0 (decL (gets s).1.toNat (gets s).2.1 0).1 (decL (gets s).1.toNat (gets s).2.1 0).2.1 (by omega) (Prod.ext rfl (Prod.ext rfl h))
      have hle2 : (gets s).1 ≤ 65536 := by omega
      have hl2 : ((decL (gets s).1.toNat (gets s).2.1 0).1.length : Int) ≤ 65536 := by rw [hl]; omega
      obtain ⟨hs', _⟩ := gets_ok (s := s) (n := (gets s).1) (r := (gets s).2.1) (Prod.ext rfl (Prod.ext rfl hg))
      have h1 := decL_shorter (gets s).1.toNat (gets s).2.1 0
      have h2 := gets_shorter s
      refine ⟨hr, ?_, ?_, by omega, by omega⟩
      · unfold lists; rw [if_neg (by omega), hb]
      · unfold lists
        rw [if_neg (by omega), hb]
        simp only
        rw [strOf_append, ByteArray.append_assoc, ← hs, hl, show (((gets s).1.toNat : Nat) : Int) = (gets s).1 by omega]
        exact hs'.symm
  · rename_i hg
    exact absurd h hg
theorem reads_err {s : ByteArray} (h : (reads s).2.2 ≠ 0) : (reads s).1 = [] ∧ (reads s).2.1 = ⟨#[]⟩ := by
  unfold reads at h ⊢
  split at h
  · rename_i hg
    rw [if_pos hg]
    split at h
    · rename_i h2; rw [if_pos h2]; exact ⟨rfl, rfl⟩
    · rename_i h2; rw [if_neg h2]; exact decL_err _ _ _ h
  · rename_i hg; rw [if_neg hg]; exact ⟨rfl, rfl⟩
theorem encL_rises : ∀ (l : List Int) (next : Int) (b : List Int), encL next l = some b → ∀ i : Nat, i < l.length → next ≤ l.getD i 0 ∧ (i + 1 < l.length → l.getD i 0 < l.getD (i + 1) 0) := by
  intro l
  induction l with
  | nil => intro next b _ i h; simp at h
  | cons n r ih =>
    intro next b h i hi
    rw [encL] at h
    split at h
    · cases h
    · rename_i hn
      simp only [Option.map_eq_some_iff] at h
      obtain ⟨b', hb, rfl⟩ := h
      cases i with
      | zero =>
        refine ⟨by simp; omega, fun h1 => ?_⟩
        have := (ih (n + 1) b' hb 0 (by simpa using h1)).1
        simp only [List.getD_cons_zero, List.getD_cons_succ] at this ⊢; omega
      | succ i =>
        have := ih (n + 1) b' hb i (by simpa using hi)
        simp only [List.getD_cons_succ, List.length_cons] at this ⊢
        exact ⟨by omega, fun h1 => this.2 (by omega)⟩
theorem lists_rises {l : List Int} (h : (lists l).2 = 0) : ∀ i : Nat, i + 1 < l.length → l.getD i 0 < l.getD (i + 1) 0 := by
  unfold lists at h
  split at h
  · cases h
  · cases hb : encL 0 l with
    | none => rw [hb] at h; cases h
    | some b => exact fun i hi => (encL_rises l 0 b hb i (by omega)).2 hi
end Go.Proofs.YtpmoellbfgcefaaV
