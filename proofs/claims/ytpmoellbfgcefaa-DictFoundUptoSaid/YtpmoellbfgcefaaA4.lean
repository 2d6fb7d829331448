/- Of our own: an abstract machine beside the model, its soundness, and walks of the program in it. -/
import Derived.Test.YtpmoellbfgcefaaA3
set_option linter.unusedSimpArgs false
set_option linter.unusedVariables false
section
set_option autoImplicit false
namespace Go.Proofs.Ytpmoellbfgcefaa.AS
open Go Go.RowKit

section congr
variable {tm tm2 : List AV}
theorem evO_congr {x : Operand} (h : ∀ t ∈ tmpOf x, tm[t]? = tm2[t]?) : evO tm x = evO tm2 x := by
  cases x with
  | tmp t => exact h t (by simp [tmpOf])
  | _ => rfl

theorem evOs_congr : ∀ {l : List Operand}, (∀ t ∈ l.flatMap tmpOf, tm[t]? = tm2[t]?) → evOs tm l = evOs tm2 l
  | [], _ => rfl
  | x :: l, h => by
    have h1 := evO_congr (tm := tm) (tm2 := tm2) (x := x) fun t ht => h t (by simp [ht])
    have h2 := evOs_congr (l := l) fun t ht => h t (by rw [List.flatMap_cons]; exact List.mem_append_right _ ht)
    simp only [evOs, h1, h2]

theorem evParts_congr : ∀ {l : List (Nat × Nat × Operand)}, (∀ t ∈ (l.map fun x => x.2.2).flatMap tmpOf, tm[t]? = tm2[t]?) → evParts tm l = evParts tm2 l
  | [], _ => rfl
  | (o, n, x) :: l, h => by
    have h1 := evO_congr (tm := tm) (tm2 := tm2) (x := x) fun t ht => h t (by simp [ht])
    have h2 := evParts_congr (l := l) fun t ht => h t (by rw [List.map_cons, List.flatMap_cons]; exact List.mem_append_right _ ht)
    simp only [evParts, h1, h2]

theorem scV_congr {P : Program} {op : Op} {ty : TypeId} (h : ∀ t ∈ op.operands.toList.flatMap tmpOf, tm[t]? = tm2[t]?) : scV P tm op ty = scV P tm2 op ty := by
  have he : ∀ x ∈ op.operands, evO tm x = evO tm2 x := fun x hx => evO_congr fun t ht => h t (List.mem_flatMap.2 ⟨x, Array.mem_toList_iff.2 hx, ht⟩)
  unfold scV
  have h1 : (op.operands.toList.all fun x => ((evO tm x).bind toV).isSome) = (op.operands.toList.all fun x => ((evO tm2 x).bind toV).isSome) := by
    rw [Bool.eq_iff_iff, List.all_eq_true, List.all_eq_true]
    constructor
    · intro hh x hx; rw [← he x (Array.mem_toList_iff.1 hx)]; exact hh x hx
    · intro hh x hx; rw [he x (Array.mem_toList_iff.1 hx)]; exact hh x hx
  rw [h1]
  split
  · rename_i hc
    have hs := (Bool.and_eq_true _ _ ▸ hc : _ ∧ _).2
    have : execOp (envV tm) (opOf op ty) = execOp (envV tm2) (opOf op ty) := by
      refine execOp_congr _ ?_ fun x hx => ?_
      · intro cs b hcs
        have : op = .select cs b := hcs
        subst this
        simp [notSel] at hs
      · unfold envV; rw [he x hx]
    rw [this]
  · rfl

theorem pV_congr {P : Program} {q : POp} (h : ∀ t ∈ (opdsP q).flatMap tmpOf, tm[t]? = tm2[t]?) : pV P tm q = pV P tm2 q := by
  have one : ∀ x ∈ opdsP q, evO tm x = evO tm2 x := fun x hx => evO_congr fun t ht => h t (List.mem_flatMap.2 ⟨x, hx, ht⟩)
  cases q with
  | build zero parts => simp only [pV]; rw [evParts_congr h]
  | sc op ty => exact scV_congr h
  | mkfn f x y =>
    simp only [pV]
    rw [evOs_congr (l := x) fun t ht => h t (by simp only [opdsP, List.flatMap_append]; exact List.mem_append_left _ ht), evOs_congr (l := y) fun t ht => h t (by simp only [opdsP, List.flatMap_append]; exact List.mem_append_right _ ht)]
  | slice sz x lo hi =>
    have hx := one x (by simp [opdsP])
    have hlo : ∀ d, loI tm d lo = loI tm2 d lo := by
      intro d
      cases lo with
      | none => rfl
      | some y => simp only [loI]; rw [one y (by simp [opdsP])]
    have hhi : ∀ d, loI tm d hi = loI tm2 d hi := by
      intro d
      cases hi with
      | none => rfl
      | some y => simp only [loI]; rw [one y (by simp [opdsP])]
    simp only [pV, hx, hlo, hhi]
  | mv x => simp only [pV, one x (by simp [opdsP])]
  | pick c a b => simp only [pV, one c (by simp [opdsP]), one a (by simp [opdsP]), one b (by simp [opdsP])]
  | nilck x => simp only [pV, one x (by simp [opdsP])]
  | eqnil n k x => simp only [pV, one x (by simp [opdsP])]
  | faddr o x => simp only [pV, one x (by simp [opdsP])]
  | fld a o n x => simp only [pV, one x (by simp [opdsP])]
  | iaddr s x i => simp only [pV, one x (by simp [opdsP]), one i (by simp [opdsP])]
  | iaddrA n s x i => simp only [pV, one x (by simp [opdsP]), one i (by simp [opdsP])]
  | idxA n a s x i => simp only [pV, one x (by simp [opdsP]), one i (by simp [opdsP])]
  | ext x i => simp only [pV, one x (by simp [opdsP])]
  | lenS x => simp only [pV, one x (by simp [opdsP])]

theorem rV_congr {hp : Heap} {q : ROp} (h : ∀ t ∈ (opdsR q).flatMap tmpOf, tm[t]? = tm2[t]?) : rV tm hp q = rV tm2 hp q := by
  have one : ∀ x ∈ opdsR q, evO tm x = evO tm2 x := fun x hx => evO_congr fun t ht => h t (List.mem_flatMap.2 ⟨x, hx, ht⟩)
  cases q with
  | load a n x => simp only [rV, one x (by simp [opdsR])]
  | b2s x => simp only [rV, one x (by simp [opdsR])]

theorem eV_congr {g : CallF} {hp : Heap} {q : EOp} (h : ∀ t ∈ (opdsE q).flatMap tmpOf, tm[t]? = tm2[t]?) : eV g tm hp q = eV g tm2 hp q := by
  have one : ∀ x ∈ opdsE q, evO tm x = evO tm2 x := fun x hx => evO_congr fun t ht => h t (List.mem_flatMap.2 ⟨x, hx, ht⟩)
  cases q with
  | new e s c => rfl
  | box e s x => simp only [eV, one x (by simp [opdsE])]
  | bslice e s l c parts => simp only [eV]; rw [evParts_congr h]
  | store n a x => simp only [eV, one a (by simp [opdsE]), one x (by simp [opdsE])]
  | make e s b z l c => simp only [eV, one l (by simp [opdsE]), one c (by simp [opdsE])]
  | app e s b x y => simp only [eV, one x (by simp [opdsE]), one y (by simp [opdsE])]
  | call f args => simp only [eV]; rw [evOs_congr (l := args) h]
  | callv f args =>
    simp only [eV]
    rw [one f (by simp [opdsE]), evOs_congr (l := args) fun t ht => h t (by simp only [opdsE, List.flatMap_cons]; exact List.mem_append_right _ ht)]

theorem opV_congr {P : Program} {g : CallF} {hp : Heap} {q : AOp} (h : ∀ t ∈ (opds q).flatMap tmpOf, tm[t]? = tm2[t]?) : opV P g tm hp q = opV P g tm2 hp q := by
  cases q with
  | p q => simp only [opV]; rw [pV_congr h]
  | r q => simp only [opV]; rw [rV_congr h]
  | e q => simp only [opV]; exact eV_congr h

theorem wantA_congr {gd : Option (Nat × Bool)} (h : ∀ s w, gd = some (s, w) → tm[s]? = tm2[s]?) : wantA tm gd = wantA tm2 gd := by
  cases gd with
  | none => rfl
  | some x => obtain ⟨s, w⟩ := x; simp only [wantA]; rw [h s w rfl]
end congr

theorem vEq_eq : ∀ {a b : Value}, vEq a b = true → a = b := by
  intro a b h
  unfold vEq at h
  split at h <;> simp_all
  rename_i x y
  have : x.data = y.data := h
  cases x; cases y; simp_all
mutual
theorem avEq_eq : ∀ (a b : AV), avEq a b = true → a = b
  | .s a, .s b, h => by simp only [avEq] at h; rw [vEq_eq h]
  | .pt a b c, .pt a' b' c', h => by simp only [avEq, Bool.and_eq_true, beq_iff_eq] at h; obtain ⟨⟨rfl, rfl⟩, rfl⟩ := h; rfl
  | .sl a b c d e, .sl a' b' c' d' e', h => by simp only [avEq, Bool.and_eq_true, beq_iff_eq] at h; obtain ⟨⟨⟨⟨rfl, rfl⟩, rfl⟩, rfl⟩, rfl⟩ := h; rfl
  | .ag l, .ag l', h => by simp only [avEq] at h; rw [avsEq_eq l l' h]
  | .s _, .pt _ _ _, h => by simp [avEq] at h
  | .s _, .sl _ _ _ _ _, h => by simp [avEq] at h
  | .s _, .fn _ _ _, h => by simp [avEq] at h
  | .s _, .ag _, h => by simp [avEq] at h
  | .s _, .tp _, h => by simp [avEq] at h
  | .s _, .any, h => by simp [avEq] at h
  | .pt _ _ _, .s _, h => by simp [avEq] at h
  | .pt _ _ _, .sl _ _ _ _ _, h => by simp [avEq] at h
  | .pt _ _ _, .fn _ _ _, h => by simp [avEq] at h
  | .pt _ _ _, .ag _, h => by simp [avEq] at h
  | .pt _ _ _, .tp _, h => by simp [avEq] at h
  | .pt _ _ _, .any, h => by simp [avEq] at h
  | .sl _ _ _ _ _, .s _, h => by simp [avEq] at h
  | .sl _ _ _ _ _, .pt _ _ _, h => by simp [avEq] at h
  | .sl _ _ _ _ _, .fn _ _ _, h => by simp [avEq] at h
  | .sl _ _ _ _ _, .ag _, h => by simp [avEq] at h
  | .sl _ _ _ _ _, .tp _, h => by simp [avEq] at h
  | .sl _ _ _ _ _, .any, h => by simp [avEq] at h
  | .ag _, .s _, h => by simp [avEq] at h
  | .ag _, .pt _ _ _, h => by simp [avEq] at h
  | .ag _, .sl _ _ _ _ _, h => by simp [avEq] at h
  | .ag _, .fn _ _ _, h => by simp [avEq] at h
  | .ag _, .tp _, h => by simp [avEq] at h
  | .ag _, .any, h => by simp [avEq] at h
  | .fn _ _ _, b, h => by cases b <;> simp [avEq] at h
  | .tp _, b, h => by cases b <;> simp [avEq] at h
  | .any, b, h => by cases b <;> simp [avEq] at h
theorem avsEq_eq : ∀ (a b : List AV), avsEq a b = true → a = b
  | [], [], _ => rfl
  | x :: l, y :: l', h => by simp only [avsEq, Bool.and_eq_true] at h; rw [avEq_eq x y h.1, avsEq_eq l l' h.2]
  | [], _ :: _, h => by simp [avsEq] at h
  | _ :: _, [], h => by simp [avsEq] at h
end

end Go.Proofs.Ytpmoellbfgcefaa.AS
end
