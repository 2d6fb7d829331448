/- Of our own: an abstract machine beside the model, its soundness, and walks of the program in it. -/
import Derived.Test.YtdgnddidibpilaaDoorA4
set_option linter.unusedSimpArgs false
set_option linter.unusedVariables false
section
set_option autoImplicit false
namespace Go.Proofs.YtdgnddidibpilaaDoor.AS
open Go Go.RowKit

section sound
variable {P : Program} {base : Nat} {W : World} {g : CallF} {ρ0 : PM} {w0 : World} {rd : Option Nat} {n : Nat}

/-- The calls that wait at the end of an activation: the marks of its loops over functions, whose blocks are empty. -/
def OKD (w0 w : World) (ds : List Deferred) : Prop :=
  ds.Nodup ∧ ∀ d ∈ ds, ∃ D, d = { target := .collected D, args := #[] } ∧ w0.heap.size ≤ D ∧ w.heap[D]? = some (.deferred (some []))
theorem OKD.keep {w0 w w' : World} {ds : List Deferred} (h : OKD w0 w ds) (k : Keep w w') : OKD w0 w' ds :=
  ⟨h.1, fun d hd => let ⟨D, h1, h2, h3⟩ := h.2 d hd; ⟨D, h1, h2, k.other D _ h3 rfl⟩⟩
theorem OKD.nil (w0 w : World) : OKD w0 w [] := ⟨List.nodup_nil, fun _ h => by cases h⟩
/-- What a piece of code leaves. -/
def CPost (P : Program) (base : Nat) (W w0 : World) (ρ : PM) (w : World) (r : Res) : Exit → Act → World → Prop := fun e a' w' =>
  e = r.1.toExit ∧ OKD w0 w' a'.defers ∧ ∃ ρ', Ext ρ ρ' ∧ Keep w w' ∧ RVs ρ' w' r.2.1 a'.tmps.toList ∧ HR P base W ρ' r.2.2 w'

theorem want_sound {ρ : PM} {w : World} {a : Act} {tm : List AV} (hr : RVs ρ w tm a.tmps.toList) {ops : Array Oper} {o : Oper} {gd : Option (Nat × Bool)} {t : Bool}
    (hg : (o.guard = none ∧ gd = none) ∨ ∃ j want s, o.guard = some (j, want) ∧ (ops[j]?).bind (·.dst) = some s ∧ gd = some (s, want)) (h : wantA tm gd = some t) :
    Region.wanted o (yielded ops a.tmps) = t := by
  rcases hg with ⟨h1, rfl⟩ | ⟨j, want, s, h1, h2, rfl⟩
  · simp only [wantA, Option.some.injEq] at h
    simp [Region.wanted, h1, h]
  · simp only [wantA] at h
    split at h
    · rename_i b hb
      cases h
      obtain ⟨v, hv, hrv⟩ := RVs_get hr hb
      have hv' : v = .bool b := hrv
      subst hv'
      rw [Array.getElem?_toList] at hv
      simp [Region.wanted, h1, yielded, h2, hv]
    · rename_i cs hb
      cases h
      obtain ⟨v, hv, hrv⟩ := RVs_get hr hb
      have hv' : v = .tuple cs := hrv
      subst hv'
      rw [Array.getElem?_toList] at hv
      simp [Region.wanted, h1, yielded, h2, hv]
    · cases h

theorem prepOps_cons {ops : Array Oper} {o : Oper} {l : List Oper} {al : List AOper} (h : prepOps P ops (o :: l) = some al) :
    ∃ q gd r, al = ⟨o.dst, gd, q⟩ :: r ∧ prepOp P o = some q ∧ prepOps P ops l = some r ∧
      ((o.guard = none ∧ gd = none) ∨ ∃ j want s, o.guard = some (j, want) ∧ (ops[j]?).bind (·.dst) = some s ∧ gd = some (s, want)) := by
  simp only [prepOps] at h
  split at h
  · rename_i q r hq hr
    split at h
    · rename_i hgd
      cases h
      exact ⟨q, none, r, rfl, hq, hr, .inl ⟨hgd, rfl⟩⟩
    · rename_i j want hgd
      split at h
      · rename_i s hs
        cases h
        exact ⟨q, _, r, rfl, hq, hr, .inr ⟨j, want, s, hgd, hs, rfl⟩⟩
      · cases h
  · cases h

theorem evOps_wp (hg : CallSound P base W ρ0 w0 g) (ops : Array Oper) (Q : Exit → Act → World → Prop) : ∀ (l : List Oper) (al : List AOper) (tm tm' : List AV) (h h' : Heap), prepOps P ops l = some al → evOps P g al tm h = some (tm', h') →
    ∀ (ρ : PM) (a : Act) (w : World), Ext ρ0 ρ → Keep w0 w → RVs ρ w tm a.tmps.toList → HR P base W ρ h w →
    (∀ a' w' ρ', a'.defers = a.defers → Ext ρ ρ' → Keep w w' → RVs ρ' w' tm' a'.tmps.toList → HR P base W ρ' h' w' → Q .normal a' w') → wpListIn (WF rd) n P ops Q l a w
  | [], al, tm, tm', h, h', hp, he, ρ, a, w, x0, k0, hr, H, hQ => by
    simp only [prepOps, Option.some.injEq] at hp
    subst hp
    simp only [evOps, Option.some.injEq, Prod.mk.injEq] at he
    obtain ⟨rfl, rfl⟩ := he
    exact hQ a w ρ rfl (Ext.refl _) (Keep.refl _) hr H
  | o :: l, al, tm, tm', h, h', hp, he, ρ, a, w, x0, k0, hr, H, hQ => by
    obtain ⟨q, gd, r, rfl, hq, hl, hgd⟩ := prepOps_cons hp
    simp only [evOps] at he
    unfold wpListIn
    split at he
    · rename_i hw
      rw [if_pos (want_sound hr hgd hw)]
      split at he
      · rename_i x h1 hx
        refine op_wp hg x0 k0 o hq hx hr H _ _ ?_
        intro v w' ρ' E
        exact evOps_wp hg ops Q l r _ tm' h1 h' hl he ρ' (a.put o.dst v) w' (x0.trans E.ext) (k0.trans E.keep) (putA_RVs (RVs_mono E.ext E.keep _ _ hr) o.dst E.rv) E.hr
          fun a' w'' ρ'' hd hx' hk hr' H' => hQ a' w'' ρ'' (hd.trans (put_defers _ _)) (E.ext.trans hx') (E.keep.trans hk) hr' H'
      · cases he
    · rename_i hw
      have := want_sound hr hgd hw
      rw [if_neg (by rw [this]; simp)]
      exact ⟨fun _ _ => trivial, evOps_wp hg ops Q l r _ tm' h h' hl he ρ (a.put o.dst undef) w x0 k0 (putA_RVs hr o.dst rfl) H
          fun a' w'' ρ'' hd hx' hk hr' H' => hQ a' w'' ρ'' (hd.trans (put_defers _ _)) hx' hk hr' H'⟩
    · cases he

theorem forget_RVs {ρ : PM} {w : World} : ∀ (fg : List Nat) {tm : List AV} {vs : List Value}, RVs ρ w tm vs → RVs ρ w (forget fg tm) vs
  | [], tm, vs, h => h
  | t :: fg, tm, vs, h => by
    unfold forget
    refine forget_RVs fg (RVs_of (by rw [List.length_set]; exact RVs_length h) fun i x v hx hv => ?_)
    by_cases hi : t = i
    · subst hi
      have hlt := (List.getElem?_eq_some_iff.1 hx).1
      rw [List.length_set] at hlt
      rw [List.getElem?_set_self hlt] at hx
      cases hx
      trivial
    · rw [List.getElem?_set_ne hi] at hx
      obtain ⟨v', hv', hr⟩ := RVs_get h hx
      rw [hv] at hv'; cases hv'; exact hr

theorem stepR_scope {b : Frame} {a : Act} {k : List Item} {cs : List Frame} {w : World} {c : Code} : step P (lone (b.atR a (.code (.scope c) :: k)) cs w) = .next (lone (b.atR a (.code c :: .inScope c :: k)) cs w) :=
  step_lone_go (by simp [stepG, stepG.exec, Frame.atR])
theorem stepR_inScope {b : Frame} {a : Act} {k : List Item} {cs : List Frame} {w : World} {c : Code} : step P (lone (b.atR a (.inScope c :: k)) cs w) = .next (lone (b.atR a k) cs w) :=
  step_lone_go (by simp [stepG, stepG.exec, Frame.atR])
theorem stepR_inLoop' {b : Frame} {a : Act} {k : List Item} {cs : List Frame} {w : World} {c : Code} : step P (lone (b.atR a (.inLoop c :: k)) cs w) = .next (lone (b.atR a (.code c :: .inLoop c :: k)) cs w) :=
  step_lone_go (by simp [stepG, stepG.exec, Frame.atR])
theorem roomW (rd : Option Nat) (m : Nat) : (WF rd).room m := fun d hd => by cases hd
/-- Inside a scope: from a place in its body on. -/
def ScopeWp (rd : Option Nat) (P : Program) (c cur : Code) (Q : Exit → Act → World → Prop) (a : Act) (w : World) : Prop :=
  ∀ (b : Frame) (k : List Item) (cs : List Frame), b.roundOf = rd → ∃ e a' w', Q e a' w' ∧ ArrivesIn (Machine.fenced P (WF rd)) P (lone (b.atR a (.code cur :: .inScope c :: k)) cs w) b k cs e a' w'

theorem ScopeWp.start {c : Code} {Q : Exit → Act → World → Prop} {a : Act} {w : World} (h : ScopeWp rd P c c Q a w) : (Code.scope c).wpIn (WF rd) n P Q a w := by
  intro b k cs hro hb hr
  obtain ⟨e, a', w', hq, harr⟩ := h b k cs hro
  exact ⟨e, a', w', hq, .of_steps (.one (fenced_calm hb hr rfl) stepR_scope) harr⟩

theorem ScopeWp.of {c cur : Code} {Q : Exit → Act → World → Prop} {a : Act} {w : World}
    (h : cur.wpIn (WF rd) n P (fun e a' w' => match e with
      | .goto l => (∃ rest, findLabel c l = some rest ∧ ScopeWp rd P c rest Q a' w') ∨ (findLabel c l = none ∧ Q (.goto l) a' w')
      | e => Q e a' w') a w) : ScopeWp rd P c cur Q a w := by
  intro b k cs hro
  obtain ⟨e, a₁, w₁, hq, harr⟩ := h b (.inScope c :: k) cs hro trivial (roomW rd _)
  cases e with
  | normal => exact ⟨.normal, a₁, w₁, hq, StepsIn.trans harr (.one (fenced_calm (F := WF rd) (n := n) trivial (roomW rd _) rfl) stepR_inScope)⟩
  | exit id => exact ⟨.exit id, a₁, w₁, hq, fun k' hk => harr.1 k' (by simp [exitTo, hk]), fun hs hk => harr.2 hs (by simp [exitTo, hk])⟩
  | goto l =>
    rcases hq with ⟨rest, hf, hs⟩ | ⟨hf, hq⟩
    · obtain ⟨e, a₂, w₂, hq₂, harr₂⟩ := hs b k cs hro
      exact ⟨e, a₂, w₂, hq₂, .of_steps (harr.1 _ (by simp [gotoIn, hf])) harr₂⟩
    · exact ⟨.goto l, a₁, w₁, hq, fun k' hk => harr.1 k' (by simp [gotoIn, hf, hk]), fun hs hk => harr.2 hs (by simp [gotoIn, hf, hk])⟩
  | ret => exact ⟨_, a₁, w₁, hq, harr⟩
  | panic ch => exact ⟨_, a₁, w₁, hq, harr⟩
  | outgrown => exact ⟨_, a₁, w₁, hq, harr⟩

/-- Inside a loop: from its body on. -/
def LoopWp (rd : Option Nat) (P : Program) (c : Code) (Q : Exit → Act → World → Prop) (a : Act) (w : World) : Prop :=
  ∀ (b : Frame) (k : List Item) (cs : List Frame), b.roundOf = rd → ∃ e a' w', Q e a' w' ∧ ArrivesIn (Machine.fenced P (WF rd)) P (lone (b.atR a (.code c :: .inLoop c :: k)) cs w) b k cs e a' w'

theorem LoopWp.start {c : Code} {Q : Exit → Act → World → Prop} {a : Act} {w : World} (h : LoopWp rd P c Q a w) : (Code.loop c).wpIn (WF rd) n P Q a w := by
  intro b k cs hro hb hr
  obtain ⟨e, a', w', hq, harr⟩ := h b k cs hro
  exact ⟨e, a', w', hq, .of_steps (.one (fenced_calm hb hr rfl) stepR_loop) harr⟩

theorem LoopWp.of {c : Code} {Q : Exit → Act → World → Prop} {a : Act} {w : World}
    (h : c.wpIn (WF rd) n P (fun e a' w' => match e with
      | .normal => LoopWp rd P c Q a' w'
      | e => Q e a' w') a w) : LoopWp rd P c Q a w := by
  intro b k cs hro
  obtain ⟨e, a₁, w₁, hq, harr⟩ := h b (.inLoop c :: k) cs hro trivial (roomW rd _)
  cases e with
  | normal =>
    obtain ⟨e₂, a₂, w₂, hq₂, harr₂⟩ := hq b k cs hro
    exact ⟨e₂, a₂, w₂, hq₂, .of_steps (StepsIn.trans harr (.one (fenced_calm (F := WF rd) (n := n) trivial (roomW rd _) rfl) stepR_inLoop')) harr₂⟩
  | exit id => exact ⟨_, a₁, w₁, hq, .pass (x := .inLoop c) rfl (fun _ _ => .inl (by simp)) harr⟩
  | goto l => exact ⟨_, a₁, w₁, hq, .pass (x := .inLoop c) rfl (fun _ _ => .inl (by simp)) harr⟩
  | ret => exact ⟨_, a₁, w₁, hq, .pass (x := .inLoop c) rfl (fun _ _ => .inl (by simp)) harr⟩
  | panic ch => exact ⟨_, a₁, w₁, hq, .pass (x := .inLoop c) rfl (fun _ _ => .inl (by simp)) harr⟩
  | outgrown => exact ⟨_, a₁, w₁, hq, .pass (x := .inLoop c) rfl (fun _ _ => .inl (by simp)) harr⟩

theorem findA_sound {tmp : List Nat} : ∀ (c : Code) (ac : ACode) (l : Nat), prepC P tmp c = some ac →
    (∀ rest, findLabel c l = some rest → ∃ ar, findA ac l = some ar ∧ prepC P tmp rest = some ar) ∧ (findLabel c l = none → findA ac l = none) := by
  intro c
  induction c with
  | seq a b iha ihb =>
    intro ac l hp
    simp only [prepC] at hp
    split at hp
    · rename_i x y hx hy
      cases hp
      obtain ⟨a1, a2⟩ := iha x l hx
      obtain ⟨b1, b2⟩ := ihb y l hy
      constructor
      · intro rest hf
        simp only [findLabel] at hf
        split at hf
        · rename_i ra hra
          cases hf
          obtain ⟨ar, h1, h2⟩ := a1 ra hra
          exact ⟨.seq ar y, by simp [findA, h1], by simp [prepC, h2, hy]⟩
        · rename_i hra
          obtain ⟨ar, h1, h2⟩ := b1 rest hf
          exact ⟨ar, by simp [findA, a2 hra, h1], h2⟩
      · intro hf
        simp only [findLabel] at hf
        split at hf
        · cases hf
        · rename_i hra
          simp [findA, a2 hra, b2 hf]
    · cases hp
  | label l' =>
    intro ac l hp
    simp only [prepC, Option.some.injEq] at hp
    subst hp
    constructor
    · intro rest hf
      simp only [findLabel] at hf
      split at hf
      · rename_i he
        cases hf
        exact ⟨.skip, by simp [findA, he], rfl⟩
      · cases hf
    · intro hf
      simp only [findLabel] at hf
      split at hf
      · cases hf
      · rename_i he
        simp [findA, he]
  | skip => intro ac l hp; simp only [prepC, Option.some.injEq] at hp; subst hp; exact ⟨fun _ hf => by simp [findLabel] at hf, fun _ => rfl⟩
  | region id ops d =>
    intro ac l hp
    refine ⟨fun _ hf => by simp [findLabel] at hf, fun _ => ?_⟩
    cases d with
    | false => simp only [prepC, Option.map_eq_some_iff] at hp; obtain ⟨_, _, rfl⟩ := hp; rfl
    | true =>
      simp only [prepC] at hp
      split at hp
      · split at hp
        · cases hp; rfl
        · cases hp
      · cases hp
  | cond c a b =>
    intro ac l hp
    refine ⟨fun _ hf => by simp [findLabel] at hf, fun _ => ?_⟩
    simp only [prepC] at hp
    split at hp
    · cases hp; rfl
    · cases hp
  | block id b => intro ac l hp; simp only [prepC, Option.map_eq_some_iff] at hp; obtain ⟨_, _, rfl⟩ := hp; exact ⟨fun _ hf => by simp [findLabel] at hf, fun _ => rfl⟩
  | loop b => intro ac l hp; simp only [prepC, Option.map_eq_some_iff] at hp; obtain ⟨_, _, rfl⟩ := hp; exact ⟨fun _ hf => by simp [findLabel] at hf, fun _ => rfl⟩
  | rangeFunc f ps x b =>
    intro ac l hp
    refine ⟨fun _ hf => by simp [findLabel] at hf, fun _ => ?_⟩
    simp only [prepC] at hp
    split at hp
    · cases hp
    · split at hp
      · cases hp; rfl
      · cases hp
  | exit id => intro ac l hp; simp only [prepC, Option.some.injEq] at hp; subst hp; exact ⟨fun _ hf => by simp [findLabel] at hf, fun _ => rfl⟩
  | scope b => intro ac l hp; simp only [prepC, Option.map_eq_some_iff] at hp; obtain ⟨_, _, rfl⟩ := hp; exact ⟨fun _ hf => by simp [findLabel] at hf, fun _ => rfl⟩
  | goto l' => intro ac l hp; simp only [prepC, Option.some.injEq] at hp; subst hp; exact ⟨fun _ hf => by simp [findLabel] at hf, fun _ => rfl⟩
  | ret => intro ac l hp; simp only [prepC, Option.some.injEq] at hp; subst hp; exact ⟨fun _ hf => by simp [findLabel] at hf, fun _ => rfl⟩
  | refuse s => intro ac l hp; simp [prepC] at hp

def cntE (l : List AOper) : Nat := (l.filter fun o => isE o.op).length

/-- What the run in the text's order tells, operation by operation. -/
theorem runDraw_trace : ∀ (al : List AOper) (tm tm' : List AV) (h h' : Heap) (hs : List Heap) (xs : List (List AV × AV × Bool)), runDraw P g al tm h = some (hs, xs, tm', h') →
    ∃ (tmF : Nat → List AV) (hF : Nat → Heap) (xF : Nat → AV) (rF : Nat → Bool), tmF 0 = tm ∧ hF 0 = h ∧ tmF al.length = tm' ∧ hF al.length = h' ∧
      (∀ i o, al[i]? = some o → xs[i]? = some (tmF i, xF i, rF i) ∧ wantA (tmF i) o.guard = some (rF i) ∧ (rF i = true → opV P g (tmF i) (hF i) o.op = some (xF i, hF (i + 1))) ∧
        (rF i = false → xF i = .s undef ∧ hF (i + 1) = hF i) ∧ tmF (i + 1) = putA (tmF i) o.dst (xF i)) ∧
      (∀ j, j ≤ al.length → hs[cntE (al.take j)]? = some (hF j)) ∧ hs.length = cntE al + 1
  | [], tm, tm', h, h', hs, xs, he => by
    simp only [runDraw, Option.some.injEq, Prod.mk.injEq] at he
    obtain ⟨rfl, rfl, rfl, rfl⟩ := he
    exact ⟨fun _ => tm, fun _ => h, fun _ => .any, fun _ => true, rfl, rfl, rfl, rfl, fun i o hi => by simp at hi, fun j hj => by simp at hj; subst hj; rfl, rfl⟩
  | o :: al, tm, tm', h, h', hs, xs, he => by
    have glue : ∀ (x : AV) (ran : Bool) (h1 : Heap) (hs1 : List Heap) (xs1 : List (List AV × AV × Bool)), wantA tm o.guard = some ran → (ran = true → opV P g tm h o.op = some (x, h1)) → (ran = false → x = .s undef ∧ h1 = h) →
        runDraw P g al (putA tm o.dst x) h1 = some (hs1, xs1, tm', h') → hs = (if isE o.op then h :: hs1 else hs1) → xs = (tm, x, ran) :: xs1 →
        ∃ (tmF : Nat → List AV) (hF : Nat → Heap) (xF : Nat → AV) (rF : Nat → Bool), tmF 0 = tm ∧ hF 0 = h ∧ tmF (o :: al).length = tm' ∧ hF (o :: al).length = h' ∧
          (∀ i o', (o :: al)[i]? = some o' → xs[i]? = some (tmF i, xF i, rF i) ∧ wantA (tmF i) o'.guard = some (rF i) ∧ (rF i = true → opV P g (tmF i) (hF i) o'.op = some (xF i, hF (i + 1))) ∧
            (rF i = false → xF i = .s undef ∧ hF (i + 1) = hF i) ∧ tmF (i + 1) = putA (tmF i) o'.dst (xF i)) ∧
          (∀ j, j ≤ (o :: al).length → hs[cntE ((o :: al).take j)]? = some (hF j)) ∧ hs.length = cntE (o :: al) + 1 := by
      intro x ran h1 hs1 xs1 hw hop hsk hrun hhs hxs
      subst hhs hxs
      obtain ⟨tmF, hF, xF, rF, e1, e2, e3, e4, e5, e6, e7⟩ := runDraw_trace al _ tm' h1 h' hs1 xs1 hrun
      refine ⟨fun i => match i with | 0 => tm | i + 1 => tmF i, fun i => match i with | 0 => h | i + 1 => hF i, fun i => match i with | 0 => x | i + 1 => xF i, fun i => match i with | 0 => ran | i + 1 => rF i, rfl, rfl, e3, e4, ?_, ?_, ?_⟩
      · intro i o' hi
        cases i with
        | zero =>
          simp at hi; subst hi
          refine ⟨rfl, hw, fun hr => ?_, fun hr => ?_, e1⟩
          · simp only [e2]; exact hop hr
          · simp only [e2]; exact hsk hr
        | succ i =>
          simp only [List.getElem?_cons_succ] at hi ⊢
          exact e5 i o' hi
      · intro j hj
        cases j with
        | zero =>
          simp only [List.take_zero]
          by_cases hE : isE o.op = true
          · rw [if_pos hE]; rfl
          · rw [if_neg hE]
            have h0 := e6 0 (Nat.zero_le _)
            simp only [List.take_zero] at h0
            rw [h0, e2]
            cases ran with
            | false => rw [(hsk rfl).2]
            | true =>
              have := hop rfl
              cases ho : o.op with
              | p q => rw [ho] at this; simp only [opV, Option.map_eq_some_iff, Prod.mk.injEq] at this; obtain ⟨_, _, _, rfl⟩ := this; rfl
              | r q => rw [ho] at this; simp only [opV, Option.map_eq_some_iff, Prod.mk.injEq] at this; obtain ⟨_, _, _, rfl⟩ := this; rfl
              | e q => rw [ho] at hE; exact absurd rfl hE
        | succ j =>
          have h0 := e6 j (by simpa using hj)
          simp only [List.take_succ_cons]
          by_cases hE : isE o.op = true
          · rw [if_pos hE]
            have : cntE (o :: al.take j) = cntE (al.take j) + 1 := by simp [cntE, List.filter_cons, hE]
            rw [this, List.getElem?_cons_succ]
            exact h0
          · rw [if_neg hE]
            have : cntE (o :: al.take j) = cntE (al.take j) := by simp [cntE, List.filter_cons, hE]
            rw [this]
            exact h0
      · by_cases hE : isE o.op = true
        · rw [if_pos hE]; simp [cntE, List.filter_cons, hE, e7]
        · rw [if_neg hE]; simp [cntE, List.filter_cons, hE, e7]
    simp only [runDraw] at he
    split at he
    · rename_i hw
      split at he
      · rename_i x h1 hx
        split at he
        · rename_i hs1 xs1 r1 hrun
          simp only [Option.some.injEq, Prod.mk.injEq] at he
          obtain ⟨rfl, rfl, rfl⟩ := he
          exact glue x true h1 hs1 xs1 hw (fun _ => hx) (fun h => by cases h) hrun rfl rfl
        · cases he
      · cases he
    · rename_i hw
      split at he
      · rename_i hs1 xs1 r1 hrun
        simp only [Option.some.injEq, Prod.mk.injEq] at he
        obtain ⟨rfl, rfl, rfl⟩ := he
        exact glue (.s undef) false h hs1 xs1 hw (fun h => by cases h) (fun _ => ⟨rfl, rfl⟩) hrun rfl rfl
      · cases he
    · cases he

/-- The slots behind the first m operations of those of D. -/
def tmL (al : List AOper) (xF : Nat → AV) (tm : List AV) (D : Nat → Bool) : Nat → List AV
  | 0 => tm
  | m + 1 => match al[m]? with
    | some o => if D m then putA (tmL al xF tm D m) o.dst (xF m) else tmL al xF tm D m
    | none => tmL al xF tm D m

section tml
variable {al : List AOper} {xF : Nat → AV} {tm : List AV}
theorem putA_length (l : List AV) (d : Option Nat) (x : AV) : (putA l d x).length = l.length := by cases d <;> simp [putA]
theorem tmL_length (D : Nat → Bool) : ∀ m, (tmL al xF tm D m).length = tm.length
  | 0 => rfl
  | m + 1 => by
    simp only [tmL]
    split
    · split
      · rw [putA_length, tmL_length D m]
      · exact tmL_length D m
    · exact tmL_length D m
theorem putA_other {l : List AV} {d : Option Nat} {x : AV} {t : Nat} (h : d ≠ some t) : (putA l d x)[t]? = l[t]? := by
  cases d with
  | none => rfl
  | some d => simp only [putA]; rw [List.getElem?_set_ne (fun e => h (by rw [e]))]
theorem tmL_agree {D D' : Nat → Bool} {t : Nat} : ∀ m, (∀ k o, k < m → al[k]? = some o → o.dst = some t → D k = D' k) → (tmL al xF tm D m)[t]? = (tmL al xF tm D' m)[t]?
  | 0, _ => rfl
  | m + 1, h => by
    have ih := tmL_agree m fun k o hk => h k o (by omega)
    simp only [tmL]
    split
    · rename_i o ho
      by_cases hd : o.dst = some t
      · have := h m o (by omega) ho hd
        rw [this]
        split
        · rw [hd]
          simp only [putA]
          rw [List.getElem?_set_self', List.getElem?_set_self', ih]
        · exact ih
      · have e1 : ∀ (b : Bool) (l : List AV), (if b then putA l o.dst (xF m) else l)[t]? = l[t]? := by
          intro b l; split
          · exact putA_other hd
          · rfl
        rw [e1, e1]; exact ih
    · exact ih
theorem tmL_last {D : Nat → Bool} {t i : Nat} {o : AOper} (hi : al[i]? = some o) (ho : o.dst = some t) (hD : D i = true) : ∀ m, i < m → (∀ k o, i < k → k < m → al[k]? = some o → o.dst = some t → D k = false) →
    (tmL al xF tm D m)[t]? = if t < tm.length then some (xF i) else none
  | 0, h, _ => by omega
  | m + 1, h, hk => by
    simp only [tmL]
    by_cases him : i = m
    · subst him
      rw [hi]
      simp only
      rw [if_pos hD, ho]
      simp only [putA, List.getElem?_set_self', tmL_length]
      by_cases ht : t < tm.length
      · rw [if_pos ht, List.getElem?_eq_getElem (by rw [tmL_length]; exact ht)]; rfl
      · rw [if_neg ht, List.getElem?_eq_none (by rw [tmL_length]; omega)]; rfl
    · have ih := tmL_last hi ho hD m (by omega) fun k o' h1 h2 => hk k o' h1 (by omega)
      split
      · rename_i o' ho'
        by_cases hd : o'.dst = some t
        · rw [hk m o' (by omega) (by omega) ho' hd]
          exact ih
        · split
          · rw [putA_other hd]; exact ih
          · exact ih
      · exact ih
theorem tmL_true {tmF : Nat → List AV} (h0 : tmF 0 = tm) (hs : ∀ i o, al[i]? = some o → tmF (i + 1) = putA (tmF i) o.dst (xF i)) : ∀ m, m ≤ al.length → tmL al xF tm (fun _ => true) m = tmF m
  | 0, _ => h0.symm
  | m + 1, hm => by
    simp only [tmL]
    rw [List.getElem?_eq_getElem (by omega : m < al.length)]
    simp only [if_true]
    rw [hs m _ (List.getElem?_eq_getElem (by omega)), tmL_true h0 hs m (by omega)]
theorem tmL_lt (i : Nat) : ∀ m, i ≤ m → tmL al xF tm (fun k => decide (k < i)) m = tmL al xF tm (fun _ => true) i
  | 0, h => by have : i = 0 := by omega
               subst this; rfl
  | m + 1, h => by
    by_cases him : i = m + 1
    · subst him
      have key : ∀ m', m' ≤ m + 1 → tmL al xF tm (fun k => decide (k < m + 1)) m' = tmL al xF tm (fun _ => true) m' := by
        intro m'
        induction m' with
        | zero => intro _; rfl
        | succ m' ih =>
          intro hm'
          simp only [tmL]
          rw [ih (by omega)]
          have : decide (m' < m + 1) = true := by simpa using (by omega : m' < m + 1)
          simp only [this]
      exact key _ (Nat.le_refl _)
    · simp only [tmL]
      have : decide (m < i) = false := by simpa using (by omega : i ≤ m)
      simp only [this]
      have ih := tmL_lt i m (by omega)
      split <;> simpa using ih
end tml

theorem prepOps_get {ops : Array Oper} : ∀ {l : List Oper} {al : List AOper}, prepOps P ops l = some al → al.length = l.length ∧ ∀ (i : Nat) o, l[i]? = some o → ∃ gd q, al[i]? = some ⟨o.dst, gd, q⟩ ∧ prepOp P o = some q ∧
      ((o.guard = none ∧ gd = none) ∨ ∃ j want s, o.guard = some (j, want) ∧ (ops[j]?).bind (·.dst) = some s ∧ gd = some (s, want))
  | [], al, h => by simp only [prepOps, Option.some.injEq] at h; subst h; exact ⟨rfl, fun i o hi => by simp at hi⟩
  | o :: l, al, h => by
    obtain ⟨q, gd, r, rfl, hq, hl, hgd⟩ := prepOps_cons h
    obtain ⟨h1, h2⟩ := prepOps_get hl
    refine ⟨by simp [h1], fun i o' hi => ?_⟩
    cases i with
    | zero => simp at hi; subst hi; exact ⟨gd, q, rfl, hq, hgd⟩
    | succ i => simp only [List.getElem?_cons_succ] at hi ⊢; exact h2 i o' hi

/-- The static facts, as propositions. -/
structure DrawFacts (ops : Array Oper) (al : List AOper) (A : List (List Nat)) : Prop where
  n : al.length = ops.size
  s0 : ∀ j, j < al.length → ∀ d ∈ direct ops j, d < j
  s1 : ∀ j, j < al.length → ∀ i ∈ A.getD j [], i ∈ direct ops j ∨ ∃ d ∈ direct ops j, i ∈ A.getD d []
  s2 : ∀ i j x y t, al[i]? = some x → al[j]? = some y → i ≠ j → x.dst = some t → (t ∈ looksA y ∨ y.dst = some t) → i ∈ A.getD j [] ∨ j ∈ A.getD i []
  s3 : ∀ i j x y, al[i]? = some x → al[j]? = some y → i < j → isE x.op = true → isE y.op = true → i ∈ A.getD j []

theorem drawOk_facts {ops : Array Oper} {al : List AOper} {A : List (List Nat)} (h : drawOk ops al A = true) : DrawFacts ops al A := by
  unfold drawOk at h
  simp only [Bool.and_eq_true, beq_iff_eq, List.all_eq_true, List.mem_range, decide_eq_true_eq, Bool.or_eq_true, List.any_eq_true, List.contains_iff_mem, Bool.not_eq_true', decide_eq_false_iff_not, before, isEi] at h
  obtain ⟨⟨⟨⟨h1, h2⟩, h3⟩, h4⟩, h5⟩ := h
  refine ⟨h1, h2, fun j hj i hi => ?_, ?_, ?_⟩
  · rcases h3 j hj i hi with h | ⟨d, hd, hid⟩
    · exact .inl h
    · exact .inr ⟨d, hd, hid⟩
  · intro i j x y t hx hy hij hxt hyt
    have hi := (List.getElem?_eq_some_iff.1 hx).1
    have hj := (List.getElem?_eq_some_iff.1 hy).1
    rcases h4 i hi j hj with ((h | h) | h) | h
    · exact absurd h hij
    · exact .inl h
    · exact .inr h
    · exfalso
      rw [hx, hy] at h
      simp only [hxt, Bool.and_eq_true, Bool.not_eq_true'] at h
      rcases hyt with h' | h'
      · have := List.contains_iff_mem.2 h'
        rw [this] at h; simp at h
      · rw [h'] at h; simp at h
  · intro i j x y hx hy hij hxe hye
    have hi := (List.getElem?_eq_some_iff.1 hx).1
    have hj := (List.getElem?_eq_some_iff.1 hy).1
    rcases h5 i hi j hj with ((h | h) | h) | h
    · exact absurd hij h
    · rw [hx] at h; simp [hxe] at h
    · rw [hy] at h; simp [hye] at h
    · exact h

theorem anc_of {ops : Array Oper} {al : List AOper} {A : List (List Nat)} (F : DrawFacts ops al A) {D : Nat → Bool} (hcl : ∀ j, j < al.length → D j = true → ∀ d ∈ direct ops j, D d = true) :
    ∀ j, j < al.length → (∀ d ∈ direct ops j, D d = true) → ∀ i ∈ A.getD j [], D i = true ∧ i < j := by
  intro j
  induction j using Nat.strongRecOn with
  | _ j ih =>
    intro hj hd i hi
    rcases F.s1 j hj i hi with h | ⟨d, hdd, hid⟩
    · exact ⟨hd i h, F.s0 j hj i h⟩
    · have hlt := F.s0 j hj d hdd
      obtain ⟨h1, h2⟩ := ih d hlt (by omega) (hcl d (by omega) (hd d hdd)) i hid
      exact ⟨h1, by omega⟩

theorem chkDraw_get {ops : List AOper} {hs : List Heap} {xs : List (List AV × AV × Bool)} : ∀ {chk : List (Nat × Nat × Nat)}, chkDraw P ops hs xs chk = true → ∀ i lo hi, (i, lo, hi) ∈ chk →
    ∃ d gd q tm x ran, ops[i]? = some ⟨d, gd, .r q⟩ ∧ xs[i]? = some (tm, x, ran) ∧ (ran = true → ∀ m h, lo ≤ m → m ≤ hi → hs[m]? = some h → rV P tm h q = some x)
  | [], _, i, lo, hi, hm => by simp at hm
  | (i', lo', hi') :: l, h, i, lo, hi, hm => by
    simp only [chkDraw, Bool.and_eq_true] at h
    rcases List.mem_cons.1 hm with he | hm
    · cases he
      have h1 := h.1
      split at h1
      · rename_i d gd q tm x ran ho hx
        refine ⟨d, gd, q, tm, x, ran, ho, hx, fun hr m hh h2 h3 h4 => ?_⟩
        subst hr
        simp only [Bool.not_true, Bool.false_or, List.all_eq_true] at h1
        have hmem : hh ∈ (hs.drop lo').take (hi' + 1 - lo') := by
          refine List.mem_iff_getElem?.2 ⟨m - lo', ?_⟩
          rw [List.getElem?_take_of_lt (by omega), List.getElem?_drop, show lo' + (m - lo') = m by omega]
          exact h4
        have := h1 hh hmem
        unfold okAt at this
        split at this
        · rename_i y hy
          rw [hy, avEq_eq _ _ this]
        · cases this
      · cases h1
    · exact chkDraw_get h.2 i lo hi hm

/-- How many of the first m operations are in p. -/
def cnt (q p : Nat → Bool) : Nat → Nat
  | 0 => 0
  | m + 1 => cnt q p m + (p m && q m).toNat

theorem cnt_agree {q p p' : Nat → Bool} : ∀ m, (∀ k, k < m → q k = true → p k = p' k) → cnt q p m = cnt q p' m
  | 0, _ => rfl
  | m + 1, h => by
    simp only [cnt]
    rw [cnt_agree m fun k hk => h k (by omega)]
    congr 1
    cases hq : q m with
    | true => rw [h m (by omega) hq]
    | false => simp
theorem cnt_mono {q p p' : Nat → Bool} : ∀ m, (∀ k, k < m → q k = true → p k = true → p' k = true) → cnt q p m ≤ cnt q p' m
  | 0, _ => Nat.le_refl _
  | m + 1, h => by
    simp only [cnt]
    have := cnt_mono (p' := p') m fun k hk => h k (by omega)
    cases hq : q m with
    | false => simp; exact this
    | true =>
      cases hp : p m with
      | false => simp; omega
      | true => rw [h m (by omega) hq hp]; simp; exact this
theorem cnt_filter (q p : Nat → Bool) : ∀ m, (((List.range m).filter q).filter p).length = cnt q p m
  | 0 => rfl
  | m + 1 => by
    rw [List.range_succ, List.filter_append, List.filter_append, List.length_append, cnt_filter q p m]
    simp only [cnt]
    congr 1
    cases hq : q m <;> cases hp : p m <;> simp [List.filter_cons, hq, hp]
theorem cnt_lt (q : Nat → Bool) (i : Nat) : ∀ m, i ≤ m → cnt q (fun k => decide (k < i)) m = cnt q (fun _ => true) i
  | 0, h => by have : i = 0 := by omega
               subst this; rfl
  | m + 1, h => by
    by_cases him : i = m + 1
    · subst him
      exact cnt_agree _ fun k hk _ => by simpa using hk
    · simp only [cnt]
      have : decide (m < i) = false := by simpa using (by omega : i ≤ m)
      simp only [this, cnt_lt q i m (by omega)]
      simp
theorem cnt_set {q p : Nat → Bool} {i : Nat} (hp : p i = false) : ∀ m, cnt q (fun k => if k = i then true else p k) m = cnt q p m + if i < m ∧ q i = true then 1 else 0
  | 0 => by simp [cnt]
  | m + 1 => by
    simp only [cnt]
    rw [cnt_set hp m]
    by_cases him : m = i
    · subst him
      simp only [hp]
      cases hq : q m <;> simp
    · simp only [if_neg him]
      have : (i < m + 1 ∧ q i = true) ↔ (i < m ∧ q i = true) := by constructor <;> (rintro ⟨h1, h2⟩; exact ⟨by omega, h2⟩)
      simp only [this]
      omega
theorem cntE_take (al : List AOper) : ∀ j, j ≤ al.length → cntE (al.take j) = cnt (isEi al) (fun _ => true) j
  | 0, _ => rfl
  | j + 1, h => by
    have hj : j < al.length := by omega
    rw [List.take_add_one, List.getElem?_eq_getElem hj]
    simp only [cnt, Option.toList_some]
    rw [← cntE_take al j (by omega)]
    simp only [cntE, List.filter_append, List.length_append]
    congr 1
    have : isEi al j = isE (al[j]).op := by simp [isEi, List.getElem?_eq_getElem hj]
    rw [this]
    cases hE : isE (al[j]).op <;> simp [hE]

theorem draw_sound (hg : CallSound P base W ρ0 w0 g) (hm : P.follows .mixedOrders = true) (id : Nat) (ops : Array Oper) (al : List AOper) (hp : prepOps P ops ops.toList = some al) (A : List (List Nat)) (hok : drawOk ops al A = true)
    {tm tm' : List AV} {h h' : Heap} {hs : List Heap} {xs : List (List AV × AV × Bool)} (he : runDraw P g al tm h = some (hs, xs, tm', h')) (hc : chkDraw P al hs xs (chkOf al A) = true)
    {ρ : PM} {a : Act} {w : World} (x0 : Ext ρ0 ρ) (k0 : Keep w0 w) (hr : RVs ρ w tm a.tmps.toList) (H : HR P base W ρ h w) (hd : OKD w0 w a.defers) :
    (Code.region id ops true).wpIn (WF rd) n P (CPost P base W w0 ρ w (.normal, tm', h')) a w := by
  have F := drawOk_facts hok
  obtain ⟨hpl, hpg⟩ := prepOps_get hp
  obtain ⟨tmF, hF, xF, rF, e1, e2, e3, e4, e5, e6, e7⟩ := runDraw_trace al tm tm' h h' hs xs he
  have hn : al.length = ops.size := F.n
  have hst : ∀ i o, al[i]? = some o → tmF (i + 1) = putA (tmF i) o.dst (xF i) := fun i o hi => (e5 i o hi).2.2.2.2
  have hcE : ∀ j, j ≤ al.length → hs[cnt (isEi al) (fun _ => true) j]? = some (hF j) := fun j hj => by rw [← cntE_take al j hj]; exact e6 j hj
  -- when all are listed
  have fin : ∀ (D : Nat → Bool) (a1 : Act) (w1 : World) (ρ1 : PM) (hD : Heap), (∀ k, k < al.length → D k = true) → Ext ρ ρ1 → Keep w w1 → a1.defers = a.defers → RVs ρ1 w1 (tmL al xF tm D al.length) a1.tmps.toList →
      hs[cnt (isEi al) D al.length]? = some hD → HR P base W ρ1 hD w1 → CPost P base W w0 ρ w (.normal, tm', h') .normal a1 w1 := by
    intro D a1 w1 ρ1 hD hall hx hk hd1 hr1 hh H1
    have t1 : tmL al xF tm D al.length = tm' := by
      rw [← e3, ← tmL_true e1 hst al.length (Nat.le_refl _)]
      refine List.ext_getElem? fun t => tmL_agree _ fun k o hk' _ _ => hall k hk'
    have t2 : hD = h' := by
      rw [cnt_agree (p' := fun _ => true) al.length fun k hk' _ => hall k hk', hcE _ (Nat.le_refl _), e4] at hh
      exact (Option.some.inj hh).symm
    subst t2
    rw [t1] at hr1
    exact ⟨rfl, hd1 ▸ hd.keep hk, ρ1, hx, hk, hr1, H1⟩
  have key : ∀ (fuel : Nat) (listed : Array Bool) (a1 : Act) (w1 : World) (ρ1 : PM) (hD : Heap), listed.size = ops.size →
      cnt (fun _ => true) (fun k => !listed.getD k false) al.length = fuel →
      (∀ j, j < al.length → listed.getD j false = true → ∀ d ∈ direct ops j, listed.getD d false = true) →
      Ext ρ ρ1 → Keep w w1 → a1.defers = a.defers → RVs ρ1 w1 (tmL al xF tm (fun k => listed.getD k false) al.length) a1.tmps.toList →
      hs[cnt (isEi al) (fun k => listed.getD k false) al.length]? = some hD → HR P base W ρ1 hD w1 →
      wpAnyIn (WF rd) n P .any ops (CPost P base W w0 ρ w (.normal, tm', h')) fuel listed a1 w1 := by
    intro fuel
    induction fuel with
    | zero =>
      intro listed a1 w1 ρ1 hD hsz hcnt hcl hx hk hd1 hr1 hh H1
      have hall : ∀ k, k < al.length → listed.getD k false = true := by
        intro k hk
        cases hDk : listed.getD k false with
        | true => rfl
        | false =>
          exfalso
          have := cnt_mono (q := fun _ => true) (p := fun k' => decide (k' = k)) (p' := fun k => !listed.getD k false) al.length (fun k' _ _ h => by
            simp only [decide_eq_true_eq] at h; subst h; rw [hDk]; rfl)
          have h1 := cnt_set (q := fun _ => true) (p := fun _ => false) (i := k) rfl al.length
          rw [if_pos ⟨hk, rfl⟩] at h1
          have h2 : cnt (fun _ => true) (fun k' => decide (k' = k)) al.length = cnt (fun _ => true) (fun k' => if k' = k then true else false) al.length :=
            cnt_agree _ fun k' _ _ => by by_cases h : k' = k <;> simp [h]
          omega
      refine ⟨?_, fin _ a1 w1 ρ1 hD hall hx hk hd1 hr1 hh H1⟩
      unfold Region.ready
      rw [List.filter_eq_nil_iff]
      intro k hk
      have hk' : k < al.length := by rw [hn]; exact List.mem_range.1 hk
      have h1 := hall k hk'
      have h2 : listed.getD k true = true := by
        rw [Array.getD_eq_getD_getElem?] at h1 ⊢
        rw [Array.getElem?_eq_getElem (by omega)] at h1 ⊢
        exact h1
      simp [h2]
    | succ fuel ih =>
      intro listed a1 w1 ρ1 hD hsz hcnt hcl hx hk hd1 hr1 hh H1
      have hgd : ∀ k, k < al.length → listed.getD k true = listed.getD k false := by
        intro k hk'
        rw [Array.getD_eq_getD_getElem?, Array.getD_eq_getD_getElem?, Array.getElem?_eq_getElem (by omega)]
        rfl
      have hready : ∀ i, i ∈ Region.ready .any ops listed ↔ i < al.length ∧ listed.getD i false = false ∧ ∀ d ∈ direct ops i, listed.getD d false = true := by
        intro i
        unfold Region.ready
        rw [List.mem_filter, List.mem_range, ← hn]
        constructor
        · rintro ⟨h1, h2⟩
          rw [hgd i h1] at h2
          have ho : i < ops.size := by omega
          simp only [Bool.and_eq_true, Bool.not_eq_true', Array.getElem?_eq_getElem ho, Option.map_some, Option.getD_some, Array.all_eq_true_iff_forall_mem, Bool.or_eq_true] at h2
          refine ⟨h1, h2.1, fun d hdd => ?_⟩
          unfold direct at hdd
          rw [Array.getElem?_eq_getElem ho] at hdd
          simp only [Option.map_some, Option.getD_some, List.mem_map, List.mem_filter, Array.mem_toList_iff] at hdd
          obtain ⟨e, ⟨he1, he2⟩, rfl⟩ := hdd
          rcases h2.2 e he1 with h3 | h3
          · rw [he2] at h3; simp at h3
          · exact h3
        · rintro ⟨h1, h2, h3⟩
          refine ⟨h1, ?_⟩
          rw [hgd i h1]
          have ho : i < ops.size := by omega
          simp only [Bool.and_eq_true, Bool.not_eq_true', Array.getElem?_eq_getElem ho, Option.map_some, Option.getD_some, Array.all_eq_true_iff_forall_mem, Bool.or_eq_true]
          refine ⟨h2, fun e he1 => ?_⟩
          cases hb : Region.binds .any e with
          | false => exact .inl rfl
          | true =>
            refine .inr (h3 e.on ?_)
            unfold direct
            rw [Array.getElem?_eq_getElem ho]
            simp only [Option.map_some, Option.getD_some, List.mem_map, List.mem_filter, Array.mem_toList_iff]
            exact ⟨e, ⟨he1, hb⟩, rfl⟩
      refine ⟨fun hemp => ?_, fun i hi => ?_⟩
      · refine fin _ a1 w1 ρ1 hD ?_ hx hk hd1 hr1 hh H1
        intro k
        induction k using Nat.strongRecOn with
        | _ k ihk =>
          intro hk'
          cases hDk : listed.getD k false with
          | true => rfl
          | false =>
            have : k ∈ Region.ready .any ops listed := (hready k).2 ⟨hk', hDk, fun d hdd => ihk d (F.s0 k hk' d hdd) (by have := F.s0 k hk' d hdd; omega)⟩
            rw [hemp] at this
            simp at this
      · obtain ⟨hin, hDi, hdir⟩ := (hready i).1 hi
        have ho : i < ops.size := by omega
        obtain ⟨gd, q, hal, hq, hgq⟩ := hpg i ops[i] (by rw [Array.getElem?_toList, Array.getElem?_eq_getElem ho])
        obtain ⟨hxs, hwant, hran, hskip, hput⟩ := e5 i _ hal
        simp only at hwant hran hskip hput
        have hanc := anc_of F hcl i hin hdir
        -- who is ahead of whom
        have hord : ∀ k x t, al[k]? = some x → x.dst = some t → k ≠ i → (t ∈ looksA ⟨ops[i].dst, gd, q⟩ ∨ (ops[i]).dst = some t) → listed.getD k false = decide (k < i) := by
          intro k x t hkx hxt hki hlk
          have hkn := (List.getElem?_eq_some_iff.1 hkx).1
          rcases F.s2 k i x _ t hkx hal hki hxt hlk with h1 | h1
          · obtain ⟨h2, h3⟩ := hanc k h1
            rw [h2]; simpa using h3
          · cases hDk : listed.getD k false with
            | true =>
              have := (anc_of F hcl k hkn (hcl k hkn hDk) i h1).1
              rw [hDi] at this; cases this
            | false =>
              have hik : i < k := by
                have hcl2 : ∀ j, j < al.length → (fun _ : Nat => true) j = true → ∀ d ∈ direct ops j, (fun _ : Nat => true) d = true := fun _ _ _ _ _ => rfl
                exact (anc_of F hcl2 k hkn (fun _ _ => rfl) i h1).2
              symm; simpa using (by omega : i ≤ k)
        have hlook : ∀ t ∈ looksA ⟨ops[i].dst, gd, q⟩, (tmL al xF tm (fun k => listed.getD k false) al.length)[t]? = (tmF i)[t]? := by
          intro t ht
          rw [← tmL_true e1 hst i (by omega), ← tmL_lt i al.length (by omega)]
          refine tmL_agree _ fun k x hk' hkx hxt => ?_
          by_cases hki : k = i
          · subst hki
            rw [hDi]; simp
          · exact hord k x t hkx hxt hki (.inl ht)
        have hD' : ∀ k, (listed.setIfInBounds i true).getD k false = if k = i then true else listed.getD k false := by
          intro k
          simp only [Array.getD_eq_getD_getElem?, Array.getElem?_setIfInBounds]
          by_cases hki : i = k
          · subst hki
            simp [show i < listed.size by omega]
          · rw [if_neg hki, if_neg (fun h => hki h.symm)]
        have hDf : (fun k => (listed.setIfInBounds i true).getD k false) = fun k => if k = i then true else listed.getD k false := funext hD'
        have hwant2 : wantA (tmL al xF tm (fun k => listed.getD k false) al.length) gd = some (rF i) := by
          rw [← hwant]
          refine wantA_congr fun s w' hs => hlook s ?_
          subst hs
          simp [looksA]
        have hcnt' : cnt (fun _ => true) (fun k => !(listed.setIfInBounds i true).getD k false) al.length = fuel := by
          have h1 := cnt_set (q := fun _ => true) (p := fun k => !(listed.setIfInBounds i true).getD k false) (i := i) (by simp only [hD']; simp) al.length
          have h2 : cnt (fun _ => true) (fun k => if k = i then true else !(listed.setIfInBounds i true).getD k false) al.length = cnt (fun _ => true) (fun k => !listed.getD k false) al.length :=
            cnt_agree _ fun k _ _ => by
              by_cases hki : k = i
              · subst hki; rw [if_pos rfl, hDi]; rfl
              · simp only [hD']; rw [if_neg hki, if_neg hki]
          rw [if_pos ⟨hin, rfl⟩] at h1
          omega
        have hcl' : ∀ j, j < al.length → (listed.setIfInBounds i true).getD j false = true → ∀ d ∈ direct ops j, (listed.setIfInBounds i true).getD d false = true := by
          intro j hj hjl d hdd
          rw [hD'] at hjl ⊢
          by_cases hdi : d = i
          · rw [if_pos hdi]
          · rw [if_neg hdi]
            by_cases hji : j = i
            · subst hji; exact hdir d hdd
            · rw [if_neg hji] at hjl; exact hcl j hj hjl d hdd
        have htm' : tmL al xF tm (fun k => (listed.setIfInBounds i true).getD k false) al.length = putA (tmL al xF tm (fun k => listed.getD k false) al.length) (ops[i]).dst (xF i) := by
          refine List.ext_getElem? fun t => ?_
          rw [hDf]
          by_cases hdt : (ops[i]).dst = some t
          · rw [tmL_last hal hdt (by simp) al.length hin (fun k x h1 h2 hkx hxt => by
              have := hord k x t hkx hxt (by omega) (.inr hdt)
              rw [if_neg (by omega), this]
              simpa using (by omega : i ≤ k))]
            rw [hdt]
            simp only [putA, List.getElem?_set_self', tmL_length]
            by_cases ht : t < tm.length
            · rw [if_pos ht, List.getElem?_eq_getElem (by rw [tmL_length]; exact ht)]; rfl
            · rw [if_neg ht, List.getElem?_eq_none (by rw [tmL_length]; omega)]; rfl
          · rw [putA_other hdt]
            refine tmL_agree _ fun k x _ hkx hxt => ?_
            by_cases hki : k = i
            · subst hki; rw [hal] at hkx; cases hkx; exact absurd hxt hdt
            · rw [if_neg hki]
        have next : ∀ (v : Value) (w2 : World) (ρ2 : PM) (hD2 : Heap), Ext ρ1 ρ2 → Keep w1 w2 → RV ρ2 w2 (xF i) v → HR P base W ρ2 hD2 w2 →
            hs[cnt (isEi al) (fun k => (listed.setIfInBounds i true).getD k false) al.length]? = some hD2 →
            wpAnyIn (WF rd) n P .any ops (CPost P base W w0 ρ w (.normal, tm', h')) fuel (listed.setIfInBounds i true) (a1.put (ops[i]).dst v) w2 := by
          intro v w2 ρ2 hD2 hx2 hk2 hv2 H2 hh2
          refine ih _ _ w2 ρ2 hD2 (by simp [hsz]) hcnt' hcl' (hx.trans hx2) (hk.trans hk2) ((put_defers _ _).trans hd1) ?_ hh2 H2
          rw [htm']
          exact putA_RVs (RVs_mono hx2 hk2 _ _ hr1) _ hv2
        have hcD' := cnt_set (q := isEi al) (p := fun k => listed.getD k false) hDi al.length
        rw [← hDf] at hcD'
        have hisE : isEi al i = isE q := by simp [isEi, hal]
        unfold wpOpIn
        rw [Array.getElem?_eq_getElem ho]
        simp only
        -- the heap where an effect stands
        have hcntE : isE q = true → cnt (isEi al) (fun k => listed.getD k false) al.length = cnt (isEi al) (fun _ => true) i := by
          intro hE
          rw [← cnt_lt (isEi al) i al.length (by omega)]
          refine cnt_agree _ fun k hk' hkE => ?_
          by_cases hki : k = i
          · subst hki; rw [hDi]; simp
          · have hkE' : ∃ x, al[k]? = some x ∧ isE x.op = true := by
              unfold isEi at hkE
              split at hkE
              · rename_i x hx'; exact ⟨x, hx', hkE⟩
              · cases hkE
            obtain ⟨x, hkx, hxE⟩ := hkE'
            rcases Nat.lt_or_ge k i with hlt | hge
            · have := (hanc k (F.s3 k i x _ hkx hal hlt hxE hE)).1
              rw [this]; simpa using hlt
            · have h1 := F.s3 i k _ x hal hkx (by omega) hE hxE
              cases hDk : listed.getD k false with
              | true =>
                have := (anc_of F hcl k hk' (hcl k hk' hDk) i h1).1
                rw [hDi] at this; cases this
              | false => symm; simpa using hge
        cases hrf : rF i with
        | false =>
          rw [hrf] at hwant2
          have hwn := want_sound hr1 hgq hwant2
          rw [if_neg (by rw [hwn]; simp)]
          obtain ⟨hxu, hhF⟩ := hskip hrf
          have hrvu : RV ρ1 w1 (xF i) undef := by rw [hxu]; rfl
          cases hE : isE q with
          | false =>
            refine ⟨fun _ _ => trivial, next undef w1 ρ1 hD (Ext.refl _) (Keep.refl _) hrvu H1 ?_⟩
            rw [hcD', hisE, hE]; simpa using hh
          | true =>
            refine ⟨fun _ _ => trivial, next undef w1 ρ1 hD (Ext.refl _) (Keep.refl _) hrvu H1 ?_⟩
            rw [hcD', hisE, hE, if_pos ⟨hin, rfl⟩, hcntE hE]
            have h1 := hcE (i + 1) (by omega)
            simp only [cnt, hisE, hE, Bool.and_self, Bool.toNat_true] at h1
            rw [h1, hhF]
            rw [hcntE hE, hcE i (by omega)] at hh
            exact hh
        | true =>
          rw [hrf] at hwant2
          have hwn := want_sound hr1 hgq hwant2
          rw [if_pos hwn]
          have hop := hran hrf
          have hcong : ∀ hp', opV P g (tmL al xF tm (fun k => listed.getD k false) al.length) hp' q = opV P g (tmF i) hp' q := fun hp' =>
            opV_congr fun t ht => hlook t (by unfold looksA; exact List.mem_append_left _ ht)
          cases hq' : q with
          | p pq =>
            subst hq'
            have hv : opV P g (tmL al xF tm (fun k => listed.getD k false) al.length) hD (.p pq) = some (xF i, hD) := by
              rw [hcong]
              simp only [opV, Option.map_eq_some_iff, Prod.mk.injEq] at hop
              obtain ⟨y, hy1, hy2, _⟩ := hop
              simp only [opV, hy1, hy2, Option.map_some]
            refine op_wp hg (x0.trans hx) (k0.trans hk) (ops[i]) hq hv hr1 H1 _ _ ?_
            intro v w2 ρ2 E
            refine next v w2 ρ2 hD E.ext E.keep E.rv E.hr ?_
            rw [hcD', hisE]; simpa [isE] using hh
          | r rq =>
            subst hq'
            have hrd : rV P (tmF i) hD rq = some (xF i) := by
              have hlo := cnt_mono (q := isEi al) (p := fun e => before A e i) (p' := fun k => listed.getD k false) al.length (fun k _ _ hb => (hanc k (by simpa [before] using hb)).1)
              have hhi := cnt_mono (q := isEi al) (p := fun k => listed.getD k false) (p' := fun e => !before A i e) al.length (fun k hk' _ hDk => by
                simp only [Bool.not_eq_true']
                cases hb : before A i k with
                | false => rfl
                | true =>
                  have := (anc_of F hcl k hk' (hcl k hk' hDk) i (by simpa [before] using hb)).1
                  rw [hDi] at this; cases this)
              have hlo2 := cnt_mono (q := isEi al) (p := fun e => before A e i) (p' := fun k => decide (k < i)) al.length (fun k _ _ hb => by simpa using (hanc k (by simpa [before] using hb)).2)
              have hhi2 := cnt_mono (q := isEi al) (p := fun k => decide (k < i)) (p' := fun e => !before A i e) al.length (fun k hk' _ hDk => by
                simp only [Bool.not_eq_true', decide_eq_true_eq] at hDk ⊢
                cases hb : before A i k with
                | false => rfl
                | true =>
                  have hcl2 : ∀ j, j < al.length → (fun _ : Nat => true) j = true → ∀ d ∈ direct ops j, (fun _ : Nat => true) d = true := fun _ _ _ _ _ => rfl
                  have := (anc_of F hcl2 k hk' (fun _ _ => rfl) i (by simpa [before] using hb)).2
                  omega)
              rw [cnt_lt (isEi al) i al.length (by omega)] at hlo2 hhi2
              have hopr : rV P (tmF i) (hF i) rq = some (xF i) := by
                simp only [opV, Option.map_eq_some_iff, Prod.mk.injEq] at hop
                obtain ⟨y, hy1, hy2, _⟩ := hop
                rw [hy1, hy2]
              by_cases hlh : cnt (isEi al) (fun e => before A e i) al.length < cnt (isEi al) (fun e => !before A i e) al.length
              · have hmem : (i, cnt (isEi al) (fun e => before A e i) al.length, cnt (isEi al) (fun e => !before A i e) al.length) ∈ chkOf al A := by
                  unfold chkOf
                  simp only [List.mem_filterMap, List.mem_range]
                  refine ⟨i, hin, ?_⟩
                  rw [hal]
                  simp only
                  rw [cnt_filter, cnt_filter, if_pos hlh]
                obtain ⟨d, gd', q', tm1, x1, ran1, g1, g2, g3⟩ := chkDraw_get hc _ _ _ hmem
                rw [hal] at g1
                cases g1
                rw [hxs] at g2
                cases g2
                exact g3 hrf _ hD hlo hhi hh
              · have : cnt (isEi al) (fun k => listed.getD k false) al.length = cnt (isEi al) (fun _ => true) i := by omega
                rw [this, hcE i (by omega)] at hh
                cases hh
                exact hopr
            have hv : opV P g (tmL al xF tm (fun k => listed.getD k false) al.length) hD (.r rq) = some (xF i, hD) := by
              rw [hcong]
              simp only [opV, hrd, Option.map_some]
            refine op_wp hg (x0.trans hx) (k0.trans hk) (ops[i]) hq hv hr1 H1 _ _ ?_
            intro v w2 ρ2 E
            refine next v w2 ρ2 hD E.ext E.keep E.rv E.hr ?_
            rw [hcD', hisE]; simpa [isE] using hh
          | e eq =>
            subst hq'
            have hE : isE (.e eq) = true := rfl
            have hhi : hD = hF i := by
              rw [hcntE hE, hcE i (by omega)] at hh
              exact (Option.some.inj hh).symm
            subst hhi
            have hv : opV P g (tmL al xF tm (fun k => listed.getD k false) al.length) (hF i) (.e eq) = some (xF i, hF (i + 1)) := by rw [hcong]; exact hop
            refine op_wp hg (x0.trans hx) (k0.trans hk) (ops[i]) hq hv hr1 H1 _ _ ?_
            intro v w2 ρ2 E
            refine next v w2 ρ2 (hF (i + 1)) E.ext E.keep E.rv E.hr ?_
            rw [hcD', hisE, hE, if_pos ⟨hin, rfl⟩, hcntE hE]
            have h1 := hcE (i + 1) (by omega)
            simpa only [cnt, hisE, hE, Bool.and_self, Bool.toNat_true] using h1
  refine wpIn_region_any hm ?_
  have h0 : ∀ k, (Array.replicate ops.size false).getD k false = false := by
    intro k
    rw [Array.getD_eq_getD_getElem?, Array.getElem?_replicate]
    split <;> rfl
  refine key ops.size (Array.replicate ops.size false) a { w with drawn := w.drawn + 1 } ρ h (by simp) ?_ ?_ (Ext.refl _) (Keep.drew w _) rfl ?_ ?_ (H.drewN _)
  · have : cnt (fun _ => true) (fun k => !(Array.replicate ops.size false).getD k false) al.length = al.length := by
      have : ∀ m, cnt (fun _ => true) (fun k => !(Array.replicate ops.size false).getD k false) m = m := by
        intro m
        induction m with
        | zero => rfl
        | succ m ih => rw [cnt, ih, h0]; rfl
      exact this _
    omega
  · intro j _ hj
    rw [h0] at hj; cases hj
  · have : tmL al xF tm (fun k => (Array.replicate ops.size false).getD k false) al.length = tm := by
      have : ∀ m, tmL al xF tm (fun k => (Array.replicate ops.size false).getD k false) m = tm := by
        intro m
        induction m with
        | zero => rfl
        | succ m ih => rw [tmL, ih]; simp only [h0]; split <;> rfl
      exact this _
    rw [this]
    exact RVs_mono (w := w) (w' := { w with drawn := w.drawn + 1 }) (Ext.refl _) (Keep.drew w _) _ _ hr
  · have : cnt (isEi al) (fun k => (Array.replicate ops.size false).getD k false) al.length = 0 := by
      have : ∀ m, cnt (isEi al) (fun k => (Array.replicate ops.size false).getD k false) m = 0 := by
        intro m
        induction m with
        | zero => rfl
        | succ m ih => rw [cnt, ih, h0]; rfl
      exact this _
    rw [this]
    have h1 := hcE 0 (Nat.zero_le _)
    simp only [cnt] at h1
    rw [h1, e2]

end sound
end Go.Proofs.YtdgnddidibpilaaDoor.AS
end
