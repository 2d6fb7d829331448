/- Words of our own beside the printed ones: a scope with one label to which the run jumps, with a number that each jump lowers; the exits of such a scope. -/
import Derived.ScopeJumps
import Derived.Deep.LoopGhost
import Derived.WalkMore
namespace Go.Proofs.YtienpgbbjahadaaX
open Go

section
variable {P : Program} {Q : Exit → Act → World → Prop} {a : Act} {w : World} {J : Act → World → Prop} {l : Nat}
theorem xjump_normal : Exit.jump l J Q .normal a w = Q .normal a w := rfl
theorem xjump_exit (id : Nat) : Exit.jump l J Q (.exit id) a w = Q (.exit id) a w := rfl
theorem xjump_ret : Exit.jump l J Q .ret a w = Q .ret a w := rfl
theorem xjump_panic (ch : List PanicEntry) : Exit.jump l J Q (.panic ch) a w = Q (.panic ch) a w := rfl
theorem xjump_goto (k : Nat) : Exit.jump l J Q (.goto k) a w = (k = l ∧ J a w) := rfl

/-- As 'wp_scope_jumps', the measure a number that the relation bears. -/
theorem wp_scope_ghost {c rest : Code} (l : Nat) (I : Nat → Act → World → Prop) (hf : findLabel c l = some (Code.seq Code.skip rest))
    (round : ∀ n a w, I n a w → ∀ (J : Nat → Act → World → Prop) (K : Act → World → Prop), (∀ k a' w', I k a' w' → J k a' w') → (∀ a' w', Handed J n a' w' → K a' w') → rest.wp P (Exit.jump l K Q) a w)
    (first : (∀ n a w, I n a w → rest.wp P (Exit.jump l (fun a' w' => ∃ n, I n a' w') Q) a w) → c.wp P (Exit.jump l (fun a' w' => ∃ n, I n a' w') Q) a w) :
    (Code.scope c).wp P Q a w := by
  have hround : ∀ n a w, I n a w → rest.wp P (Exit.jump l (fun a' w' => ∃ n', n' < n ∧ I n' a' w') Q) a w := fun n a w h =>
    round n a w h I _ (fun _ _ _ q => q) fun _ _ q => q
  refine wp_scope_jumps l (fun a w => ∃ n, I n a w) (fun a w => leastOf (fun n => I n a w)) hf (first fun n a w h => wp_mono (hround n a w h) ?_) ?_
  · intro e a' w' hq
    cases e with
    | goto k =>
      obtain ⟨e1, n', _, hI⟩ := hq
      exact ⟨e1, n', hI⟩
    | normal => exact hq
    | exit id => exact hq
    | ret => exact hq
    | panic ch => exact hq
    | outgrown => exact hq
  · intro a w hI
    refine wp_seq (wp_skip (wp_mono (hround _ a w (leastOf_spec hI).1) ?_))
    intro e a' w' hq
    cases e with
    | goto k =>
      obtain ⟨e1, n', hlt, hI'⟩ := hq
      exact ⟨e1, ⟨n', hI'⟩, Nat.lt_of_le_of_lt ((leastOf_spec ⟨n', hI'⟩).2 n' hI') hlt⟩
    | normal => exact hq
    | exit id => exact hq
    | ret => exact hq
    | panic ch => exact hq
    | outgrown => exact hq
end
end Go.Proofs.YtienpgbbjahadaaX
