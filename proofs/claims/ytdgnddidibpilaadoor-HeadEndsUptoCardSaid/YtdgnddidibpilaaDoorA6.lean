/- Of our own: an abstract machine beside the model, its soundness, and walks of the program in it. -/
import Derived.Test.YtdgnddidibpilaaDoorA5
set_option linter.unusedSimpArgs false
set_option linter.unusedVariables false
section
set_option autoImplicit false
namespace Go.Proofs.YtdgnddidibpilaaDoor.AS
open Go Go.RowKit

/-- Objects that are no cells, and lie at B or beyond, turned. -/
structure Turn (B : Nat) (w w' : World) : Prop where
  os : w'.os = w.os
  tape : w'.tape = w.tape
  output : w'.output = w.output
  size : w.heap.size ≤ w'.heap.size
  same : ∀ (b : Nat) (o : Obj), w.heap[b]? = some o → noCells o = false → w'.heap[b]? = some o
  low : ∀ b, b < B → w'.heap[b]? = w.heap[b]?
theorem Turn.refl (B : Nat) (w : World) : Turn B w w := ⟨rfl, rfl, rfl, Nat.le_refl _, fun _ _ h _ => h, fun _ _ => rfl⟩
theorem Turn.trans {B : Nat} {a b c : World} (h : Turn B a b) (k : Turn B b c) : Turn B a c :=
  ⟨k.os.trans h.os, k.tape.trans h.tape, k.output.trans h.output, Nat.le_trans h.size k.size, fun i o h1 h2 => k.same i o (h.same i o h1 h2) h2, fun i hi => (k.low i hi).trans (h.low i hi)⟩
theorem Turn.mono {B B' : Nat} {a b : World} (h : Turn B a b) (hB : B' ≤ B) : Turn B' a b := ⟨h.os, h.tape, h.output, h.size, h.same, fun i hi => h.low i (Nat.lt_of_lt_of_le hi hB)⟩
theorem Turn.put {B L : Nat} {w : World} {o o' : Obj} (hL : w.heap[L]? = some o) (ho : noCells o = true) (hB : B ≤ L) : Turn B w (w.putObj L o') := by
  refine ⟨rfl, rfl, rfl, by simp [World.putObj], fun b x h1 h2 => ?_, fun b hb => World.putObj_heap_other (by omega)⟩
  by_cases h : b = L
  · subst h; rw [hL] at h1; cases h1; rw [ho] at h2; cases h2
  · rw [World.putObj_heap_other h]; exact h1
theorem Turn.shape {B : Nat} {w w' : World} (h : Turn B w w') (b : Nat) (s : TypeId × Nat) (hs : w.shape? b = some s) : w'.shape? b = some s := by
  simp only [World.shape?] at hs ⊢
  cases hb : w.heap[b]? with
  | none => rw [hb] at hs; cases hs
  | some o =>
    rw [hb] at hs
    cases o with
    | cells c e z => rw [h.same b _ hb rfl]; exact hs
    | _ => cases hs
theorem Turn.cell {B : Nat} {w w' : World} (h : Turn B w w') {a : Addr} {v : Value} (hs : w.cell? a = some v) : w'.cell? a = some v := by
  simp only [World.cell?] at hs ⊢
  cases hb : w.heap[a.block]? with
  | none => rw [hb] at hs; cases hs
  | some o =>
    rw [hb] at hs
    cases o with
    | cells c e z => rw [h.same a.block _ hb rfl]; exact hs
    | _ => cases hs
/-- The part of 'Keep' that values ask. -/
theorem Turn.keep {B : Nat} {w w' : World} (h : Turn B w w') (hB : w.heap.size ≤ B) : Keep w w' :=
  ⟨h.shape, h.size, fun b o hb _ => by rw [h.low b (Nat.lt_of_lt_of_le (Array.getElem?_eq_some_iff.1 hb).1 hB)]; exact hb⟩
theorem Turn.below {B base : Nat} {w w' : World} (h : Turn B w w') (hB : base ≤ B) : Below base w w' := ⟨h.os, h.tape, h.output, h.size, fun k hk => h.low k (Nat.lt_of_lt_of_le hk hB)⟩
/-- The same object turned in two worlds. -/
theorem Keep.put {a b : World} (k : Keep a b) {L : Nat} {o o' : Obj} (hL : a.heap[L]? = some o) (ho : noCells o = true) (hn : noCells o' = true) : Keep (a.putObj L o') (b.putObj L o') := by
  have hLb := k.other L o hL ho
  have h1 := (Array.getElem?_eq_some_iff.1 hL).1
  have h2 := (Array.getElem?_eq_some_iff.1 hLb).1
  refine ⟨fun B s hs => ?_, by simpa [World.putObj] using k.size, fun B x hx hnx => ?_⟩
  · by_cases h : B = L
    · subst h
      simp only [World.shape?, World.putObj_heap_same h1] at hs
      cases o' <;> simp_all [noCells]
    · have := k.shape B s (by simpa only [World.shape?, World.putObj_heap_other h] using hs)
      simpa only [World.shape?, World.putObj_heap_other h] using this
  · by_cases h : B = L
    · subst h
      rw [World.putObj_heap_same h1] at hx
      rw [World.putObj_heap_same h2]; exact hx
    · rw [World.putObj_heap_other h] at hx ⊢
      exact k.other B x hx hnx
theorem Keep.turn {a b c : World} (k : Keep a b) {B : Nat} (t : Turn B b c) (hB : a.heap.size ≤ B) : Keep a c :=
  ⟨fun x s hs => t.shape x s (k.shape x s hs), Nat.le_trans k.size t.size, fun x o hx hn => by
    rw [t.low x (Nat.lt_of_lt_of_le (Array.getElem?_eq_some_iff.1 hx).1 hB)]; exact k.other x o hx hn⟩
mutual
theorem RV_turn {B : Nat} {ρ : PM} {w w' : World} (h : Turn B w w') : ∀ (x : AV) (v : Value), RV ρ w x v → RV ρ w' x v
  | .s _, _, hv => hv
  | .pt _ _ _, _, hv => hv
  | .sl _ _ _ _ _, _, ⟨p, cap, a, h1, h2, h3, h4, h5⟩ => ⟨p, cap, a, h1, h2, h3, h4, fun hr => let ⟨h6, n, h7, h8⟩ := h5 hr; ⟨h6, n, h.shape _ _ h7, h8⟩⟩
  | .fn _ x y, _, ⟨xs, ys, h1, h2, h3⟩ => ⟨xs, ys, h1, RVs_turn h x _ h2, RVs_turn h y _ h3⟩
  | .ag l, _, ⟨xs, h1, h2⟩ => ⟨xs, h1, RVs_turn h l _ h2⟩
  | .tp l, _, ⟨xs, h1, h2⟩ => ⟨xs, h1, RVs_turn h l _ h2⟩
  | .yl _, _, hv => hv
  | .any, _, _ => trivial
theorem RVs_turn {B : Nat} {ρ : PM} {w w' : World} (h : Turn B w w') : ∀ (l : List AV) (vs : List Value), RVs ρ w l vs → RVs ρ w' l vs
  | [], [], _ => trivial
  | x :: l, v :: vs, ⟨h1, h2⟩ => ⟨RV_turn h x v h1, RVs_turn h l vs h2⟩
  | [], _ :: _, hh => hh.elim
  | _ :: _, [], hh => hh.elim
end
section
variable {P : Program} {base : Nat} {W : World}
theorem HR.turn {ρ : PM} {h : Heap} {w w' : World} {B : Nat} (H : HR P base W ρ h w) (t : Turn B w w') (hB : base ≤ B) : HR P base W ρ h w' := by
  refine ⟨H.below.trans (t.below hB), Nat.le_trans H.hbase t.size, H.fresh, fun b k hk => ?_, H.inj, H.gl⟩
  obtain ⟨p, h1, h2, h3, h4, h5, h6, h7, h8⟩ := H.blk b k hk
  refine ⟨p, h1, h2, h3, h4, h5, Nat.lt_of_lt_of_le h6 t.size, fun j x hj => ?_, fun hr => ?_⟩
  · obtain ⟨v, hv, hrv⟩ := h7 j x hj
    exact ⟨v, t.cell hv, RV_turn t _ _ hrv⟩
  · obtain ⟨a1, a2, ⟨m, a3⟩, a4⟩ := h8 hr
    refine ⟨a1, fun o ho => ?_, ⟨m, t.shape _ _ a3⟩, a4⟩
    have := a2 o (by rwa [shN_eq a3 (t.shape _ _ a3)] at ho)
    simp only [World.frozen?, World.shape?] at this a3 ⊢
    cases hb : w.heap[p.blk]? with
    | none => rw [hb] at a3; cases a3
    | some ob =>
      rw [hb] at a3 this
      cases ob with
      | cells c e z => rw [t.same p.blk _ hb rfl]; exact this
      | _ => cases a3
/-- A loop's record as a block without cells. -/
theorem HR.loop {ρ : PM} {h : Heap} {w : World} (H : HR P base W ρ h w) {L : Nat} {o : Obj} (hL : w.heap[L]? = some o) (ho : noCells o = true) :
    HR P base W (upd ρ h.length 0 ⟨L, 0, 0, 0, false⟩) (h ++ [loopBlk]) w ∧ Ext ρ (upd ρ h.length 0 ⟨L, 0, 0, 0, false⟩) := by
  have hx : Ext ρ (upd ρ h.length 0 ⟨L, 0, 0, 0, false⟩) := upd_ext _ (H.fresh _ _ (Nat.le_refl _))
  have hlt : L < w.heap.size := (Array.getElem?_eq_some_iff.1 hL).1
  refine ⟨⟨H.below, H.hbase, ?_, ?_, ?_, H.gl⟩, hx⟩
  · intro b ver hlen
    simp only [List.length_append, List.length_cons, List.length_nil] at hlen
    unfold upd
    rw [if_neg (by omega)]
    exact H.fresh _ _ (by omega)
  · intro b k hbk
    rcases Nat.lt_or_ge b h.length with hlt' | hge
    · rw [List.getElem?_append_left hlt'] at hbk
      obtain ⟨p, h1, h2, h3, h4, h5, h6, h7, h8⟩ := H.blk b k hbk
      refine ⟨p, hx _ _ _ h1, ?_, h3, h4, h5, h6, fun j x hj => ?_, h8⟩
      · intro v hv
        unfold upd
        rw [if_neg (by omega)]
        exact h2 v hv
      · obtain ⟨v, hv, hr⟩ := h7 j x hj
        exact ⟨v, hv, RV_mono hx (Keep.refl _) _ _ hr⟩
    · have hbe : b = h.length := by
        have := (List.getElem?_eq_some_iff.1 hbk).1
        simp at this
        omega
      subst hbe
      simp at hbk
      subst hbk
      refine ⟨⟨L, 0, 0, 0, false⟩, upd_same _ _ _ _, ?_, rfl, rfl, rfl, hlt, ?_, fun h => by cases h⟩
      · intro v hv
        unfold upd
        rw [if_neg (by simp [loopBlk] at hv; omega)]
        exact H.fresh _ _ (Nat.le_refl _)
      · intro j x hj
        simp [loopBlk] at hj
  · intro b b' k k' p p' hbk hbk' hp hp' hrw heq
    rcases Nat.lt_or_ge b h.length with hlt' | hge
    · rw [List.getElem?_append_left hlt'] at hbk
      unfold upd at hp
      rw [if_neg (by omega)] at hp
      rcases Nat.lt_or_ge b' h.length with hlt2 | hge'
      · rw [List.getElem?_append_left hlt2] at hbk'
        unfold upd at hp'
        rw [if_neg (by omega)] at hp'
        exact H.inj b b' k k' p p' hbk hbk' hp hp' hrw heq
      · have hbe : b' = h.length := by
          have := (List.getElem?_eq_some_iff.1 hbk').1
          simp at this
          omega
        subst hbe
        simp at hbk'
        subst hbk'
        have e1 : loopBlk.ver = 0 := rfl
        rw [e1, upd_same] at hp'
        cases hp'
        obtain ⟨q, q1, _, _, _, _, _, _, q8⟩ := H.blk b k hbk
        rw [hp] at q1; cases q1
        obtain ⟨_, _, ⟨m, a3⟩, _⟩ := q8 hrw
        simp only at heq
        rw [heq] at a3
        simp only [World.shape?, hL] at a3
        cases o <;> simp_all [noCells]
    · have hbe : b = h.length := by
        have := (List.getElem?_eq_some_iff.1 hbk).1
        simp at this
        omega
      subst hbe
      simp at hbk
      subst hbk
      cases hrw
theorem putPs_RVs {ρ : PM} {w : World} : ∀ (ps : List Nat) (xs : List AV) (vs : List Value) (tm : List AV) (t : Array Value), RVs ρ w xs vs → RVs ρ w tm t.toList → RVs ρ w (putPs ps xs tm) (((ps.zip vs).foldl (fun t (p, v) => t.setIfInBounds p v) t).toList)
  | [], _, _, tm, t, _, h => by simpa [putPs] using h
  | p :: ps, [], [], tm, t, _, h => by simpa [putPs] using h
  | p :: ps, [], _ :: _, tm, t, hx, h => hx.elim
  | p :: ps, _ :: _, [], tm, t, hx, h => hx.elim
  | p :: ps, x :: xs, v :: vs, tm, t, hx, h => by
    simp only [putPs, List.zip_cons_cons, List.foldl_cons]
    refine putPs_RVs ps xs vs _ _ hx.2 ?_
    rw [Array.toList_setIfInBounds]
    exact RVs_set h hx.1
/-- The marks, taken at the end of an activation. -/
theorem leaves_marks {F : Fence} {n : Nat} {fn : Func} {tmps : Array Value} {R : Ending → World → Prop} {w0 : World} : ∀ (ds : List Deferred) (w : World), OKD w0 w ds →
    (∀ w', Turn w0.heap.size w w' → ∃ v, (results fn tmps).run P w' = .ok v w' ∧ R (.returned v) w') → LeavesInM F n P fn tmps R ds .returning w
  | [], w, _, h => h w (Turn.refl _ _)
  | d :: ds, w, ho, h => by
    obtain ⟨D, rfl, h1, h2⟩ := ho.2 d (by simp)
    have t := Turn.put (o' := .deferred none) h2 rfl h1
    refine ⟨by simp, .inl ⟨D, _, rfl, run_takeDeferred h2, leaves_marks ds _ ⟨(List.nodup_cons.1 ho.1).2, fun d hd => ?_⟩ fun w' hw' => h w' (t.trans hw')⟩⟩
    obtain ⟨D', rfl, g1, g2⟩ := ho.2 d (by simp [hd])
    refine ⟨D', rfl, g1, ?_⟩
    rw [World.putObj_heap_other]
    · exact g2
    · rintro rfl
      exact (List.nodup_cons.1 ho.1).1 hd
theorem prepFn_facts {f : FuncId} {nt : Nat} {res : List ARes} {b : ACode} (h : prepFn P f = some (.code nt res b)) :
    callable P f = true ∧ ∃ fn c, P.funcs[f]? = some fn ∧ fn.body = some c ∧ fn.ntmps = nt ∧ prepC P (tmpSlots fn) c = some b ∧ prepRess P fn.results.toList = some res := by
  unfold prepFn at h
  split at h
  · rename_i hc
    refine ⟨hc, ?_⟩
    split at h
    · rename_i fn hfn
      split at h
      · rename_i c hb
        split at h
        · rename_i ac rs hac hrs
          cases h
          exact ⟨fn, c, hfn, hb, rfl, hac, hrs⟩
        · cases h
      · cases h
    · cases h
  · cases h
theorem CPost.step {w0 : World} {ρ ρ1 : PM} {w w1 : World} {r : Res} (hx : Ext ρ ρ1) (hk : Keep w w1) {e : Exit} {a' : Act} {w' : World} (h : CPost P base W w0 ρ1 w1 r e a' w') : CPost P base W w0 ρ w r e a' w' := by
  obtain ⟨h1, h2, ρ', h3, h4, h5, h6⟩ := h
  exact ⟨h1, h2, ρ', hx.trans h3, hk.trans h4, h5, h6⟩
theorem rf_label : ∀ (c : Code) (l : Nat) (rest : Code), findLabel c l = some rest → hasRF c = false → hasRF rest = false := by
  intro c
  induction c with
  | seq a b iha ihb =>
    intro l rest hf h
    simp only [hasRF, Bool.or_eq_false_iff] at h
    simp only [findLabel] at hf
    split at hf
    · rename_i ra hra
      cases hf
      simp [hasRF, iha l ra hra h.1, h.2]
    · exact ihb l rest hf h.2
  | label l' =>
    intro l rest hf _
    simp only [findLabel] at hf
    split at hf
    · cases hf; rfl
    · cases hf
  | _ => intro l rest hf; simp [findLabel] at hf
end
end Go.Proofs.YtdgnddidibpilaaDoor.AS
end
section
set_option autoImplicit false
namespace Go.Proofs.YtdgnddidibpilaaDoor.AS
open Go Go.RowKit
section sound
variable {P : Program} {base : Nat} {W : World}
/-- What code comes to, is what the model's does: in a function's frame, or in a round's. -/
theorem evC_sound (hm : P.follows .mixedOrders = true) : ∀ (k : Nat) (g : CallF) (ρ0 : PM) (w0 : World) (rd : Option Nat) (n : Nat) (tmp : List Nat), CallSound P base W ρ0 w0 g → base ≤ w0.heap.size →
    (∀ (c : Code) (ac : ACode) (tm : List AV) (h : Heap) (r : Res), prepC P tmp c = some ac → (rd = none ∨ hasRF c = false) → evC P g k ac tm h = some r →
      ∀ (ρ : PM) (a : Act) (w : World), Ext ρ0 ρ → Keep w0 w → RVs ρ w tm a.tmps.toList → HR P base W ρ h w → OKD w0 w a.defers → c.wpIn (WF rd) n P (CPost P base W w0 ρ w r) a w) ∧
    (∀ (c cur : Code) (ac acur : ACode) (fg : List Nat) (tm : List AV) (h : Heap) (r : Res), prepC P tmp c = some ac → prepC P tmp cur = some acur → (rd = none ∨ hasRF c = false) → (rd = none ∨ hasRF cur = false) → evC P g k (.scope fg ac acur) tm h = some r →
      ∀ (ρ : PM) (a : Act) (w : World), Ext ρ0 ρ → Keep w0 w → RVs ρ w tm a.tmps.toList → HR P base W ρ h w → OKD w0 w a.defers → ScopeWp rd P c cur (CPost P base W w0 ρ w r) a w) ∧
    (∀ (c : Code) (ac : ACode) (fg : List Nat) (tm : List AV) (h : Heap) (r : Res), prepC P tmp c = some ac → (rd = none ∨ hasRF c = false) → evC P g k (.loop fg ac) tm h = some r →
      ∀ (ρ : PM) (a : Act) (w : World), Ext ρ0 ρ → Keep w0 w → RVs ρ w tm a.tmps.toList → HR P base W ρ h w → OKD w0 w a.defers → LoopWp rd P c (CPost P base W w0 ρ w r) a w) := by
  intro k
  induction k with
  | zero => exact fun g ρ0 w0 rd n tmp _ _ => ⟨fun c ac tm h r _ _ he => by simp [evC] at he, fun c cur ac acur fg tm h r _ _ _ _ he => by simp [evC] at he, fun c ac fg tm h r _ _ he => by simp [evC] at he⟩
  | succ k IH =>
    intro g ρ0 w0 rd n tmp hg hb0
    obtain ⟨ihc, ihs, ihl⟩ := IH g ρ0 w0 rd n tmp hg hb0
    have loops : ∀ (c : Code) (ac : ACode) (fg : List Nat) (tm : List AV) (h : Heap) (r : Res), prepC P tmp c = some ac → (rd = none ∨ hasRF c = false) → evC P g (k + 1) (.loop fg ac) tm h = some r →
      ∀ (ρ : PM) (a : Act) (w : World), Ext ρ0 ρ → Keep w0 w → RVs ρ w tm a.tmps.toList → HR P base W ρ h w → OKD w0 w a.defers → LoopWp rd P c (CPost P base W w0 ρ w r) a w := by
      intro c ac fg tm h r hp hrf he ρ a w x0 k0 hr H hd
      refine LoopWp.of (n := n) ?_
      simp only [evC] at he
      split at he
      · rename_i tm1 h1 h2
        refine wpIn_mono (ihc c ac _ h _ hp hrf h2 ρ a w x0 k0 (forget_RVs fg hr) H hd) ?_
        rintro e a' w' ⟨he', hd', ρ', hx, hk, hr', H'⟩
        subst he'
        simp only [Ex.toExit]
        have := ihl c ac fg _ h1 r hp hrf he ρ' a' w' (x0.trans hx) (k0.trans hk) hr' H' hd'
        intro b k' cs hro
        obtain ⟨e2, a2, w2, hq, harr⟩ := this b k' cs hro
        exact ⟨e2, a2, w2, CPost.step hx hk hq, harr⟩
      · rename_i hne
        refine wpIn_mono (ihc c ac _ h r hp hrf he ρ a w x0 k0 (forget_RVs fg hr) H hd) ?_
        rintro e a' w' hq
        have hq0 := hq
        obtain ⟨he', _⟩ := hq
        obtain ⟨ex, tm1, h1⟩ := r
        subst he'
        cases ex with
        | normal => exact absurd he (hne tm1 h1)
        | _ => exact hq0
    have scopes : ∀ (c cur : Code) (ac acur : ACode) (fg : List Nat) (tm : List AV) (h : Heap) (r : Res), prepC P tmp c = some ac → prepC P tmp cur = some acur → (rd = none ∨ hasRF c = false) → (rd = none ∨ hasRF cur = false) → evC P g (k + 1) (.scope fg ac acur) tm h = some r →
        ∀ (ρ : PM) (a : Act) (w : World), Ext ρ0 ρ → Keep w0 w → RVs ρ w tm a.tmps.toList → HR P base W ρ h w → OKD w0 w a.defers → ScopeWp rd P c cur (CPost P base W w0 ρ w r) a w := by
      intro c cur ac acur fg tm h r hp hpc hrf hrfc he ρ a w x0 k0 hr H hd
      refine ScopeWp.of (n := n) ?_
      simp only [evC] at he
      split at he
      · rename_i l tm1 h1 h2
        refine wpIn_mono (ihc cur acur tm h _ hpc hrfc h2 ρ a w x0 k0 hr H hd) ?_
        rintro e a' w' ⟨he', hd', ρ', hx, hk, hr', H'⟩
        subst he'
        simp only [Ex.toExit]
        split at he
        · rename_i rest hrest
          cases hfl : findLabel c l with
          | none => rw [(findA_sound c ac l hp).2 hfl] at hrest; cases hrest
          | some crest =>
            obtain ⟨ar, h3, h4⟩ := (findA_sound c ac l hp).1 crest hfl
            rw [hrest] at h3; cases h3
            refine .inl ⟨crest, rfl, ?_⟩
            have := ihs c crest ac rest fg _ h1 r hp h4 hrf (hrf.imp id (rf_label c l crest hfl)) he ρ' a' w' (x0.trans hx) (k0.trans hk) (forget_RVs fg hr') H' hd'
            intro b k' cs hro
            obtain ⟨e2, a2, w2, hq, harr⟩ := this b k' cs hro
            exact ⟨e2, a2, w2, CPost.step hx hk hq, harr⟩
        · rename_i hrest
          cases he
          cases hfl : findLabel c l with
          | none => exact .inr ⟨rfl, rfl, hd', ρ', hx, hk, hr', H'⟩
          | some crest => obtain ⟨ar, h3, _⟩ := (findA_sound c ac l hp).1 crest hfl; rw [h3] at hrest; cases hrest
      · rename_i hne
        refine wpIn_mono (ihc cur acur tm h r hpc hrfc he ρ a w x0 k0 hr H hd) ?_
        rintro e a' w' hq
        have hq0 := hq
        obtain ⟨he', _⟩ := hq
        cases e with
        | goto l =>
          exfalso
          obtain ⟨ex, tm1, h1⟩ := r
          cases ex <;> simp [Ex.toExit] at he'
          subst he'
          exact hne _ tm1 h1 he
        | _ => exact hq0
    refine ⟨?_, scopes, loops⟩
    intro c ac tm h r hp hrf he ρ a w x0 k0 hr H hd
    cases c with
    | skip =>
      simp only [prepC, Option.some.injEq] at hp; subst hp
      simp only [evC, Option.some.injEq] at he; subst he
      exact wpIn_skip ⟨rfl, hd, ρ, Ext.refl _, Keep.refl _, hr, H⟩
    | label l =>
      simp only [prepC, Option.some.injEq] at hp; subst hp
      simp only [evC, Option.some.injEq] at he; subst he
      exact wpIn_label ⟨rfl, hd, ρ, Ext.refl _, Keep.refl _, forget_RVs _ hr, H⟩
    | exit id =>
      simp only [prepC, Option.some.injEq] at hp; subst hp
      simp only [evC, Option.some.injEq] at he; subst he
      exact wpIn_exit ⟨rfl, hd, ρ, Ext.refl _, Keep.refl _, hr, H⟩
    | goto l =>
      simp only [prepC, Option.some.injEq] at hp; subst hp
      simp only [evC, Option.some.injEq] at he; subst he
      exact wpIn_goto ⟨rfl, hd, ρ, Ext.refl _, Keep.refl _, hr, H⟩
    | ret =>
      simp only [prepC, Option.some.injEq] at hp; subst hp
      simp only [evC, Option.some.injEq] at he; subst he
      exact wpIn_ret ⟨rfl, hd, ρ, Ext.refl _, Keep.refl _, hr, H⟩
    | region id ops d =>
      cases d with
      | false =>
        simp only [prepC, Option.map_eq_some_iff] at hp
        obtain ⟨al, hal, rfl⟩ := hp
        simp only [evC, Option.map_eq_some_iff] at he
        obtain ⟨⟨tm', h'⟩, he', rfl⟩ := he
        exact wpIn_region_list (evOps_wp hg ops _ ops.toList al tm tm' h h' hal he' ρ a w x0 k0 hr H fun a' w' ρ' hd' hx hk hr' H' => ⟨rfl, hd' ▸ hd.keep hk, ρ', hx, hk, hr', H'⟩)
      | true =>
        simp only [prepC] at hp
        split at hp
        · rename_i al hal
          split at hp
          · rename_i hok
            cases hp
            simp only [evC] at he
            split at he
            · rename_i hs xs tm' h' hrun
              split at he
              · rename_i hc
                cases he
                exact draw_sound hg hm id ops al hal _ hok hrun hc x0 k0 hr H hd
              · cases he
            · cases he
          · cases hp
        · cases hp
    | seq x y =>
      simp only [prepC] at hp
      split at hp
      · rename_i ax ay hx hy
        cases hp
        refine wpIn_seq ?_
        simp only [evC] at he
        split at he
        · rename_i tm1 h1 h2
          refine wpIn_mono (ihc x ax tm h _ hx (hrf.imp id fun h => (Bool.or_eq_false_iff.1 h).1) h2 ρ a w x0 k0 hr H hd) ?_
          rintro e a' w' ⟨rfl, hd', ρ', hx', hk, hr', H'⟩
          exact wpIn_mono (ihc y ay _ _ r hy (hrf.imp id fun h => (Bool.or_eq_false_iff.1 h).2) he ρ' a' w' (x0.trans hx') (k0.trans hk) hr' H' hd') (fun e a w hq => CPost.step hx' hk hq)
        · rename_i hne
          refine wpIn_mono (ihc x ax tm h r hx (hrf.imp id fun h => (Bool.or_eq_false_iff.1 h).1) he ρ a w x0 k0 hr H hd) ?_
          rintro e a' w' hq
          have hq0 := hq
          obtain ⟨he', _⟩ := hq
          obtain ⟨ex, tm1, h1⟩ := r
          subst he'
          cases ex with
          | normal => exact absurd he (hne tm1 h1)
          | _ => exact hq0
      · cases hp
    | cond cc x y =>
      simp only [prepC] at hp
      split at hp
      · rename_i ax ay hx hy
        cases hp
        simp only [evC] at he
        split at he
        · rename_i t ht
          have hc : a.eval cc = .bool t := evO_RV hr ht
          refine wpIn_cond hc ?_
          cases t with
          | true => simp only [if_true] at he ⊢; exact ihc x ax tm h r hx (hrf.imp id fun h => (Bool.or_eq_false_iff.1 h).1) he ρ a w x0 k0 hr H hd
          | false => simp only [Bool.false_eq_true, if_false] at he ⊢; exact ihc y ay tm h r hy (hrf.imp id fun h => (Bool.or_eq_false_iff.1 h).2) he ρ a w x0 k0 hr H hd
        · cases he
      · cases hp
    | block id x =>
      simp only [prepC, Option.map_eq_some_iff] at hp
      obtain ⟨ax, hx, rfl⟩ := hp
      refine wpIn_block ?_
      simp only [evC] at he
      split at he
      · rename_i j tm1 h1 h2
        refine wpIn_mono (ihc x ax tm h _ hx hrf h2 ρ a w x0 k0 hr H hd) ?_
        rintro e a' w' ⟨rfl, hd', ρ', hx', hk, hr', H'⟩
        simp only [Ex.toExit, Exit.inBlock]
        split at he
        · rename_i hj
          cases he
          rw [if_pos hj]
          exact ⟨rfl, hd', ρ', hx', hk, hr', H'⟩
        · rename_i hj
          cases he
          rw [if_neg hj]
          exact ⟨rfl, hd', ρ', hx', hk, hr', H'⟩
      · rename_i hne
        refine wpIn_mono (ihc x ax tm h r hx hrf he ρ a w x0 k0 hr H hd) ?_
        rintro e a' w' hq
        have hq0 := hq
        obtain ⟨he', _⟩ := hq
        obtain ⟨ex, tm1, h1⟩ := r
        subst he'
        cases ex with
        | exit j => exact absurd he (hne j tm1 h1)
        | _ => exact hq0
    | loop x =>
      simp only [prepC, Option.map_eq_some_iff] at hp
      obtain ⟨ax, hx, rfl⟩ := hp
      exact LoopWp.start (loops x ax _ tm h r hx hrf he ρ a w x0 k0 hr H hd)
    | rangeFunc f ps x y =>
      have hrn : rd = none := hrf.elim id fun h => by simp [hasRF] at h
      subst hrn
      simp only [prepC] at hp
      split at hp
      · cases hp
      rename_i hnrf
      have hxn : hasRF x = false := by cases hh : hasRF x <;> simp [hh] at hnrf ⊢
      have hyn : hasRF y = false := by cases hh : hasRF y <;> simp [hh] at hnrf ⊢
      split at hp
      case h_2 => cases hp
      rename_i ax ay hpx hpy
      cases hp
      simp only [evC] at he
      split at he
      case h_2 => cases he
      rename_i gf cap hf
      split at he
      case h_2 => cases he
      rename_i nt itb hpf
      obtain ⟨hcal, fn', c', hfn', hbody', rfl, hpc', hres'⟩ := prepFn_facts hpf
      obtain ⟨xs, ys, hfe, hxs, hys⟩ := evO_RV hr hf
      have hxs0 : xs = #[] := by
        have := RVs_length hxs
        simp at this
        exact Array.eq_empty_of_size_eq_zero (by omega)
      subst hxs0
      refine wpIn_rangeFunc (F := WF none) fun fnn _ => ?_
      obtain ⟨rec, hrec⟩ : ∃ rec : LoopState → Option Code → Loop, rec = fun st pe => { state := st, pending := pe, fn := fnn, tmps := a.tmps, params := ps, assign := x, body := y, defers := w.heap.size } := ⟨_, rfl⟩
      obtain ⟨W1, hW1⟩ : ∃ W1, (w.alloc (.deferred (some []))).alloc (.loop (rec .ready none)) = W1 := ⟨_, rfl⟩
      have hL1 : W1.heap[w.heap.size + 1]? = some (.loop (rec .ready none)) := by
        rw [← hW1]; have := World.alloc_heap_new (w.alloc (.deferred (some []))) (.loop (rec .ready none)); rwa [World.size_alloc] at this
      have hD1 : W1.heap[w.heap.size]? = some (.deferred (some [])) := by
        rw [← hW1]; exact (Below.heap_alloc _ _ _ (by simp)).trans (World.alloc_heap_new w _)
      have hbW : Below w.heap.size w W1 := by
        rw [← hW1]; exact ((Below.refl _ w).alloc (Nat.le_refl _) _).alloc (by simp) _
      have hs1 : W1.heap.size = w.heap.size + 2 := by rw [← hW1]; simp
      have kW := Keep.of_below hbW
      obtain ⟨HL, xL⟩ := (H.grow hbW).loop hL1 rfl
      obtain ⟨ρ1, hρ1⟩ : ∃ ρ1, upd ρ h.length 0 ⟨w.heap.size + 1, 0, 0, 0, false⟩ = ρ1 := ⟨_, rfl⟩
      have hL : ρ1 h.length 0 = some ⟨w.heap.size + 1, 0, 0, 0, false⟩ := by rw [← hρ1]; exact upd_same _ _ _ _
      rw [hρ1] at HL xL
      refine ⟨w.heap.size + 1, [{ target := .collected w.heap.size, args := #[] }], W1, { target := .fn (.func gf) ys, args := #[.func (.yield (w.heap.size + 1)) #[] #[]] }, W1, gf,
        #[.func (.yield (w.heap.size + 1)) #[] #[]] ++ ys, W1, ?_, ?_, fun _ _ => trivial, ?_, fun h => by simp [WF, Fence.wide] at h, ?_⟩
      · rw [← hW1, hrec]; exact run_enterLoop_outer _ _ _ _ _
      · simp only [resolve, hfe]
        simp [go_sem]
      · have := callFunc_run hcal (#[.func (.yield (w.heap.size + 1)) #[] #[]] ++ ys) W1
        simp [invoke, go_sem, this]
      · obtain ⟨hnd, hhnd⟩ : ∃ hnd : List AV → Heap → Option (AV × Heap), hnd = rndH ps.toList tm (evC P (noY g) k ax) (evC P (noY g) k ay) := ⟨_, rfl⟩
        rw [← hhnd] at he
        have hev : ∃ ex tmI h2, evC P (withY (noY g) h.length hnd) k itb (.yl h.length :: cap ++ List.replicate (fn'.ntmps - (cap.length + 1)) (.s undef)) (h ++ [loopBlk]) = some (ex, tmI, h2) ∧ (ex = .ret ∨ ex = .normal) ∧ r = (.normal, tm, h2) := by
          split at he
          · rename_i tmI h2 hh; cases he; exact ⟨_, _, _, hh, .inl rfl, rfl⟩
          · rename_i tmI h2 hh; cases he; exact ⟨_, _, _, hh, .inr rfl, rfl⟩
          · cases he
        obtain ⟨ex, tmI, h2, hev, hex, rfl⟩ := hev
        -- one round
        have hgY : CallSound P base W ρ1 W1 (withY (noY g) h.length hnd) := by
          intro f l hh rr hfl
          unfold withY at hfl
          split at hfl
          case isFalse => exact hg.noY ρ1 W1 f l hh rr hfl
          rename_i hfe'
          refine .inr ⟨h.length, hfe', fun ρ' w' vs p n' x1 k1 H' hrl hp' => ?_⟩
          have hpL := x1 _ _ _ hL
          rw [hp'] at hpL
          cases hpL
          rw [hhnd] at hfl
          unfold rndH at hfl
          split at hfl
          case isFalse => cases hfl
          rename_i hlen
          split at hfl
          case h_2 => cases hfl
          rename_i tm1 h3 hea
          split at hfl
          case h_2 => cases hfl
          rename_i tm2 h4 heb
          cases hfl
          have hl' : w'.heap[w.heap.size + 1]? = some (.loop (rec .ready none)) := k1.other _ _ hL1 rfl
          have hvs : vs.length = ps.size := by rw [← RVs_length hrl, hlen, Array.length_toList]
          have hy := run_yield (P := P) (args := vs.toArray) hl' (by rw [hrec]; simpa using hvs)
          have hrp : (rec .ready none).params = ps := by rw [hrec]
          have hrt : (rec .ready none).tmps = a.tmps := by rw [hrec]
          have hrx : (rec .ready none).assign = x := by rw [hrec]
          have hry : (rec .ready none).body = y := by rw [hrec]
          rw [hrp, hrt, hrx, hry] at hy
          refine ⟨_, _, _, _, hy, roundIn_of_wpIn trivial ?_⟩
          -- the assignments
          have hrtm : RVs ρ' w' (putPs ps.toList l tm) (((ps.zip vs.toArray).foldl (fun t (p, v) => t.setIfInBounds p v) a.tmps).toList) := by
            have := putPs_RVs ps.toList l vs tm a.tmps hrl (RVs_mono (xL.trans x1) (kW.trans k1) _ _ hr)
            rw [← Array.foldl_toList, Array.toList_zip]
            exact this
          refine wpIn_mono ((IH (noY g) ρ' w' (some (w.heap.size + 1)) n' tmp (hg.noY ρ' w') H'.hbase).1 x ax _ hh _ hpx (.inr hxn) hea ρ' { tmps := _, defers := [] } w' (Ext.refl _) (Keep.refl _) hrtm H' (OKD.nil _ _)) ?_
          rintro e1 a1 w1 ⟨rfl, hd1, ρ2, x2, k2, hr2, H2⟩
          have hl1 : w1.heap[w.heap.size + 1]? = some (.loop (rec .ready none)) := k2.other _ _ hl' rfl
          have hrs : (rec .ready none).state = .ready := by rw [hrec]
          obtain ⟨bz, hbz⟩ : ∃ bz : Loop, bz = { rec .ready none with state := .busy } := ⟨_, rfl⟩
          have hbr := run_beginRound (P := P) hl1 hrs
          rw [← hbz] at hbr
          refine ⟨_, hbr, ?_⟩
          have t1 : Turn (w.heap.size + 1) w1 (w1.putObj (w.heap.size + 1) (.loop bz)) := Turn.put hl1 rfl (Nat.le_refl _)
          have hlB : (w1.putObj (w.heap.size + 1) (.loop bz)).heap[w.heap.size + 1]? = some (.loop bz) := World.putObj_heap_same (Array.getElem?_eq_some_iff.1 hl1).1
          have hbs : base ≤ w.heap.size + 1 := Nat.le_trans H.hbase (Nat.le_succ _)
          have H2' := H2.turn t1 hbs
          have hOK : OKD (w'.putObj (w.heap.size + 1) (.loop bz)) (w1.putObj (w.heap.size + 1) (.loop bz)) a1.defers := by
            refine ⟨hd1.1, fun d hdm => ?_⟩
            obtain ⟨D', g1, g2, g3⟩ := hd1.2 d hdm
            refine ⟨D', g1, by simpa [World.putObj] using g2, ?_⟩
            rw [World.putObj_heap_other]
            · exact g3
            · rintro rfl
              rw [hl1] at g3; cases g3
          refine wpIn_mono ((IH (noY g) ρ2 (w'.putObj (w.heap.size + 1) (.loop bz)) (some (w.heap.size + 1)) n' tmp (hg.noY ρ2 _) (by simpa [World.putObj] using H'.hbase)).1 y ay _ h3 _ hpy (.inr hyn) heb ρ2 a1 _ (Ext.refl _) (k2.put hl' rfl rfl) (RVs_turn t1 _ _ hr2) H2' hOK) ?_
          rintro e2 a2 w2 ⟨rfl, _, ρ3, x3, k3, hr3, H3⟩
          have hl2 : w2.heap[w.heap.size + 1]? = some (.loop bz) := k3.other _ _ hlB rfl
          have her := run_endRound (P := P) none hl2
          have hbe : ({ bz with state := if (none : Option Code).isNone then .ready else .done, pending := none } : Loop) = rec .ready none := by rw [hbz, hrec]; rfl
          rw [hbe] at her
          have t2 : Turn (w.heap.size + 1) w2 (w2.putObj (w.heap.size + 1) (.loop (rec .ready none))) := Turn.put hl2 rfl (Nat.le_refl _)
          refine ⟨_, _, her, _, ρ3, rfl, ⟨x2.trans x3, ⟨fun b s hs => t2.shape b s (k3.shape b s (t1.shape b s (k2.shape b s hs))), ?_, fun b o hb hn => ?_⟩, rfl, H3.turn t2 hbs⟩⟩
          · exact Nat.le_trans k2.size (Nat.le_trans t1.size (Nat.le_trans k3.size t2.size))
          · by_cases hbL : b = w.heap.size + 1
            · subst hbL
              rw [hl'] at hb; cases hb
              exact World.putObj_heap_same (Array.getElem?_eq_some_iff.1 hl2).1
            · rw [World.putObj_heap_other hbL]
              refine k3.other b o ?_ hn
              rw [World.putObj_heap_other hbL]
              exact k2.other b o hb hn
        -- the iterator
        have hbW1 : base ≤ W1.heap.size := HL.hbase
        have hargs : RVs ρ1 W1 (.yl h.length :: cap ++ List.replicate (fn'.ntmps - (cap.length + 1)) (.s undef)) ((#[.func (.yield (w.heap.size + 1)) #[] #[]] ++ ys ++ Array.replicate (fn'.ntmps - (#[Value.func (.yield (w.heap.size + 1)) #[] #[]] ++ ys).size) undef : Array Value)).toList := by
          have hcl : cap.length = ys.size := by have := RVs_length hys; simpa using this
          have h1 : RVs ρ1 W1 (.yl h.length :: cap) (Value.func (.yield (w.heap.size + 1)) #[] #[] :: ys.toList) := ⟨⟨_, hL, rfl⟩, RVs_mono xL kW _ _ hys⟩
          have h2 : RVs ρ1 W1 (List.replicate (fn'.ntmps - (cap.length + 1)) (.s undef)) (List.replicate (fn'.ntmps - (cap.length + 1)) undef) := by
            have := RVs_s (ρ := ρ1) (w := W1) (List.replicate (fn'.ntmps - (cap.length + 1)) undef)
            rwa [List.map_replicate] at this
          have := RVs_append h2 h1
          have e : (#[Value.func (.yield (w.heap.size + 1)) #[] #[]] ++ ys).size = cap.length + 1 := by rw [Array.size_append]; simp; omega
          rw [e]
          simpa using this
        refine callsIn_of_wp_marks (F := WF none) hfn' hbody' trivial (wpIn_mono ((IH _ ρ1 W1 none (n - 1) (tmpSlots fn') hgY hbW1).1 c' itb _ _ _ hpc' (.inl rfl) hev ρ1 { tmps := _, defers := [] } W1 (Ext.refl _) (Keep.refl _) hargs HL (OKD.nil _ _)) ?_) rfl
        rintro e2 a2 w2 ⟨he2, hd2, ρ2, x2, k2, hr2, H2⟩
        have hend : LeavesInM (WF none) (n - 1) P fn' a2.tmps (rangePost (WF none) n P (w.heap.size + 1) (CPost P base W w0 ρ w (.normal, tm, h2)) { a with defers := [{ target := .collected w.heap.size, args := #[] }] ++ a.defers }) a2.defers .returning w2 := by
          refine leaves_marks a2.defers w2 hd2 fun w3 t3 => ?_
          have hr3 : ∃ v, (results fn' a2.tmps).run P w3 = .ok v w3 := by
            have hem : fn'.results = #[] := by
              have : fn'.results.toList = [] := by
                cases hrl : fn'.results.toList with
                | nil => rfl
                | cons z zs =>
                  rw [hrl] at hres'
                  simp only [prepRess] at hres'
                  split at hres'
                  · cases hres'
                  · cases hres'
              exact Array.ext' this
            exact ⟨_, by simp [results, hem]; rfl⟩
          obtain ⟨v, hv⟩ := hr3
          refine ⟨v, hv, ?_⟩
          have hl2 : w2.heap[w.heap.size + 1]? = some (.loop (rec .ready none)) := k2.other _ _ hL1 rfl
          have hl3 : w3.heap[w.heap.size + 1]? = some (.loop (rec .ready none)) := by rw [t3.low _ (by omega)]; exact hl2
          obtain ⟨ez, hez⟩ : ∃ ez : Loop, ez = { rec .ready none with state := .exhausted } := ⟨_, rfl⟩
          have hel := run_endLoop (P := P) hl3 (by rw [hrec]; simp)
          rw [← hez] at hel
          have hrpend : (rec .ready none).pending = none := by rw [hrec]
          rw [hrpend] at hel
          refine ⟨none, _, hel, ?_⟩
          have t4 : Turn (w.heap.size + 1) w3 (w3.putObj (w.heap.size + 1) (.loop ez)) := Turn.put hl3 rfl (Nat.le_refl _)
          have tt : Turn (w.heap.size + 1) w2 (w3.putObj (w.heap.size + 1) (.loop ez)) := (t3.mono (by omega)).trans t4
          have hbs : base ≤ w.heap.size + 1 := Nat.le_trans H.hbase (Nat.le_succ _)
          have kk : Keep w (w3.putObj (w.heap.size + 1) (.loop ez)) := by
            refine ⟨fun b s hs => tt.shape b s (k2.shape b s (kW.shape b s hs)), Nat.le_trans kW.size (Nat.le_trans k2.size tt.size), fun b o hb hn => ?_⟩
            have hlt : b < w.heap.size := (Array.getElem?_eq_some_iff.1 hb).1
            rw [tt.low b (by omega)]
            exact k2.other b o (kW.other b o hb hn) hn
          have hDD : (w3.putObj (w.heap.size + 1) (.loop ez)).heap[w.heap.size]? = some (.deferred (some [])) := by
            rw [tt.low _ (by omega)]
            exact k2.other _ _ hD1 rfl
          refine ⟨rfl, ⟨?_, fun d hdm => ?_⟩, ρ2, xL.trans x2, kk, RVs_mono (xL.trans x2) kk _ _ hr, H2.turn tt hbs⟩
          · rw [List.singleton_append, List.nodup_cons]
            refine ⟨fun hm' => ?_, hd.1⟩
            obtain ⟨D', hd', _, hh⟩ := hd.2 _ hm'
            have : w.heap.size = D' := by cases hd'; rfl
            have := (Array.getElem?_eq_some_iff.1 hh).1
            omega
          · rw [List.singleton_append, List.mem_cons] at hdm
            rcases hdm with rfl | hdm
            · exact ⟨w.heap.size, rfl, k0.size, hDD⟩
            · obtain ⟨D', h1, h2, h3⟩ := hd.2 d hdm
              exact ⟨D', h1, h2, kk.other _ _ h3 rfl⟩
        rcases hex with rfl | rfl
        · subst he2; exact hend
        · subst he2; exact hend
    | scope x =>
      simp only [prepC, Option.map_eq_some_iff] at hp
      obtain ⟨ax, hx, rfl⟩ := hp
      exact ScopeWp.start (scopes x x ax ax _ tm h r hx hx hrf hrf he ρ a w x0 k0 hr H hd)
    | refuse s => simp [prepC] at hp

end sound
end Go.Proofs.YtdgnddidibpilaaDoor.AS
end
section
set_option autoImplicit false
namespace Go.Proofs.YtdgnddidibpilaaDoor.AS
open Go Go.RowKit

def HookSound (P : Program) (f : FuncId) (hk : List AV → Heap → Option (AV × Heap)) : Prop :=
  callable P f = true ∧ ∀ base W l h r, hk l h = some r → ∀ ρ w vs, HR P base W ρ h w → RVs ρ w l vs → Calls P f vs.toArray w fun e w' => ∃ v ρ', e = .returned v ∧ Eff P base W ρ w r v w' ρ'

def TabOK (P : Program) (T : FuncId → Option AFunc) : Prop :=
  ∀ f x, T f = some x → match x with
    | .code n r b => prepFn P f = some (.code n r b)
    | .hook hk => HookSound P f hk

section sound
variable {P : Program} {base : Nat} {W : World}

theorem res_sound {ρ : PM} {w : World} {tm : List AV} {tmps : Array Value} {h : Heap} (hr : RVs ρ w tm tmps.toList) (H : HR P base W ρ h w) : ∀ (l : List ResultVar) (al : List ARes) (xs : List AV),
    prepRess P l = some al → resAs tm h al = some xs →
    ∃ vs, (l.mapM (fun | .tmp t => pure (tmps.getD t undef) | .cell a t => do loadVar t (← asAddr (tmps.getD a undef)) : ResultVar → Sem Value)).run P w = .ok vs w ∧ RVs ρ w xs vs
  | [], al, xs, hp, hx => by
    simp only [prepRess, Option.some.injEq] at hp; subst hp
    simp only [resAs, Option.some.injEq] at hx; subst hx
    exact ⟨[], rfl, trivial⟩
  | r :: l, al, xs, hp, hx => by
    simp only [prepRess] at hp
    split at hp
    · rename_i y ys hy hys
      cases hp
      simp only [resAs] at hx
      split at hx
      · rename_i u us hu hus
        cases hx
        obtain ⟨vs, h1, h2⟩ := res_sound hr H l ys us hys hus
        have key : ∃ v, ((match r with | .tmp t => pure (tmps.getD t undef) | .cell a t => do loadVar t (← asAddr (tmps.getD a undef)) : Sem Value)).run P w = .ok v w ∧ RV ρ w u v := by
          cases r with
          | tmp t =>
            simp only [prepRes, Option.some.injEq] at hy; subst hy
            simp only [resA] at hu
            obtain ⟨v, hv, hrv⟩ := RVs_get hr hu
            refine ⟨v, ?_, hrv⟩
            simp only [Sem.run_pure, Array.getD_eq_getD_getElem?]
            rw [← Array.getElem?_toList, hv]; rfl
          | cell s t =>
            simp only [prepRes] at hy
            split at hy
            · rename_i d i hd hi
              have hq : ∃ n, y = .cell (isAggD d) n s ∧ n = (if isAggD d then i.size else 1) := by
                split at hy
                · rename_i ha; cases hy; exact ⟨_, by rw [ha], by rw [ha]; rfl⟩
                · rename_i ha; cases hy; exact ⟨1, by simp [ha], by simp [ha]⟩
              obtain ⟨n, rfl, hn⟩ := hq
              simp only [resA] at hu
              split at hu
              · rename_i b ver off hb
                obtain ⟨v0, hv0, hrv0⟩ := RVs_get hr hb
                obtain ⟨p, hp1, rfl⟩ := hrv0
                have hts : tmps.getD s undef = .pointer (some ⟨p.blk, p.off + off, none⟩) := by
                  rw [Array.getD_eq_getD_getElem?, ← Array.getElem?_toList, hv0]; rfl
                obtain ⟨ll, hl, hxx⟩ := Option.bind_eq_some_iff.1 hu
                obtain ⟨hll, vs', hvl, hrs, hcell⟩ := rdn_RVs H hl hp1
                obtain ⟨g1, g2⟩ := oneOr_RV hxx hrs
                cases ha : isAggD d with
                | true =>
                  rw [ha] at hn; simp at hn; subst hn
                  have hlc := run_loadCells_list (P := P) w ⟨p.blk, p.off + off, none⟩ vs' (fun j v hj => by rw [Addr_add]; exact hcell j v hj)
                  rw [hvl] at hlc
                  exact ⟨_, by simp [hts, asAddr, loadVar, run_isAgg hd, ha, sizeOf, typeInfo, hi, hlc], g1 ha⟩
                | false =>
                  obtain ⟨v, hv1, hv2⟩ := g2 ha
                  have hc := hcell 0 v (by rw [← hv1]; cases vs' <;> rfl)
                  rw [Nat.add_zero] at hc
                  exact ⟨v, by simp [hts, asAddr, loadVar, run_isAgg hd, ha, hc], hv2⟩
              · cases hu
            · cases hy
        obtain ⟨v, hv, hrv⟩ := key
        refine ⟨v :: vs, ?_, hrv, h2⟩
        simp only [List.mapM_cons, Sem.run_bind]
        rw [hv]
        simp only [Result.andThen_ok, Sem.run_bind]
        rw [h1]
        rfl
      · cases hx
    · cases hp

theorem tupA_RV {ρ : PM} {w : World} {xs : List AV} {vs : Array Value} (h : RVs ρ w xs vs.toList) : RV ρ w (tupA xs) (if h : vs.size = 1 then vs[0] else .tuple vs) := by
  have hl := RVs_length h
  rw [Array.length_toList] at hl
  split
  · rename_i h1
    cases xs with
    | nil => simp at hl; omega
    | cons x xs =>
      cases xs with
      | nil =>
        simp only [tupA]
        obtain ⟨v, hv, hr⟩ := RVs_get h (i := 0) (x := x) rfl
        rw [Array.getElem?_toList, Array.getElem?_eq_getElem (by omega)] at hv
        cases hv
        exact hr
      | cons y ys => simp at hl; omega
  · rename_i h1
    cases xs with
    | nil => exact ⟨vs, rfl, h⟩
    | cons x xs =>
      cases xs with
      | nil => simp at hl; omega
      | cons y ys => exact ⟨vs, rfl, h⟩

theorem Eff.of {ρ ρ' : PM} {w w' : World} {r : AV × Heap} {v : Value} (hx : Ext ρ ρ') (hk : Keep w w') (hr : RV ρ' w' r.1 v) (H : HR P base W ρ' r.2 w') : Eff P base W ρ w r v w' ρ' := ⟨hx, hk, hr, H⟩

/-- The calls of a table that has no yields. -/
def CallSound0 (P : Program) (base : Nat) (W : World) (g : CallF) : Prop :=
  ∀ f l h r, g f l h = some r → callable P f = true ∧ ∀ ρ w vs, HR P base W ρ h w → RVs ρ w l vs → Calls P f vs.toArray w fun e w' => ∃ v ρ', e = .returned v ∧ Eff P base W ρ w r v w' ρ'
theorem evFn_sound (hm : P.follows .mixedOrders = true) {T : FuncId → Option AFunc} (hT : TabOK P T) : ∀ k, CallSound0 P base W (evFn P T k) := by
  intro k
  induction k with
  | zero => intro f l h r he; simp [evFn] at he
  | succ k ih =>
    intro f l h r he
    simp only [evFn] at he
    split at he
    · rename_i nt res body hTf
      have hp : prepFn P f = some (.code nt res body) := hT f _ hTf
      obtain ⟨hcal, fn, c, hfn, hc, rfl, hac, hrs⟩ := prepFn_facts hp
      refine ⟨hcal, fun ρ w vs H hr => ?_⟩
      have hlen := RVs_length hr
      have hfr : RVs ρ w (l ++ List.replicate (fn.ntmps - l.length) (.s undef)) (vs.toArray ++ Array.replicate (fn.ntmps - vs.toArray.size) undef).toList := by
        rw [Array.toList_append, Array.toList_replicate]
        simp only [List.size_toArray]
        rw [← hlen]
        refine RVs_append ?_ hr
        generalize fn.ntmps - l.length = m
        induction m with
        | zero => exact trivial
        | succ m ihm => exact ⟨rfl, ihm⟩
      refine (callsIn_wide (n := 0)).1 (callsIn_of_wp_marks (F := WF none) hfn hc trivial ?_ rfl)
      have fin : ∀ (e : Exit) (a' : Act) (w' : World) (tm' : List AV) (h' : Heap) (x : AV × Heap), OKD w w' a'.defers → (resAs tm' h' res).map (fun l => (tupA l, h')) = some x → (e = .ret ∨ e = .normal) →
          (∃ ρ', Ext ρ ρ' ∧ Keep w w' ∧ RVs ρ' w' tm' a'.tmps.toList ∧ HR P base W ρ' h' w') → bodyPostM (WF none) 0 P fn (fun e w' => ∃ v ρ', e = .returned v ∧ Eff P base W ρ w x v w' ρ') e a' w' := by
        intro e a' w' tm' h' x hd hx hee hρ
        obtain ⟨ρ', hx', hk, hr', H'⟩ := hρ
        obtain ⟨xs, hxs, rfl⟩ := Option.map_eq_some_iff.1 hx
        have hl : LeavesInM (WF none) 0 P fn a'.tmps (fun e w' => ∃ v ρ', e = .returned v ∧ Eff P base W ρ w (tupA xs, h') v w' ρ') a'.defers .returning w' := by
          refine leaves_marks a'.defers w' hd fun w3 t3 => ?_
          have H3 := H'.turn t3 H.hbase
          obtain ⟨us, hu1, hu2⟩ := res_sound (RVs_turn t3 _ _ hr') H3 fn.results.toList res xs hrs hxs
          have hres : (results fn a'.tmps).run P w3 = .ok (if h : us.toArray.size = 1 then us.toArray[0] else .tuple us.toArray) w3 := by
            unfold results
            rw [Array.mapM_eq_mapM_toList]
            simp only [Sem.run_bind]
            rw [Sem.run_map]
            exact (congrArg (fun z : Result (List Value) => (z.andThen (fun a w' => .ok a.toArray w')).andThen (fun (a : Array Value) w' => Sem.run P (pure (if h : a.size = 1 then a[0] else Value.tuple a)) w')) hu1).trans rfl
          have hv := tupA_RV (vs := us.toArray) hu2
          exact ⟨_, hres, _, ρ', rfl, hx', hk.turn t3 (Nat.le_refl _), hv, H3⟩
        rcases hee with rfl | rfl
        · exact hl
        · exact hl
      have hg : CallSound P base W ρ w (evFn P T k) := fun f l h r he => .inl (ih f l h r he)
      split at he
      · rename_i tm' h' hev
        refine wpIn_mono ((evC_sound hm (k + 1) _ ρ w none 0 (tmpSlots fn) hg H.hbase).1 c body _ h _ hac (.inl rfl) hev ρ { tmps := vs.toArray ++ Array.replicate (fn.ntmps - vs.toArray.size) undef, defers := [] } w (Ext.refl _) (Keep.refl _) hfr H (OKD.nil _ _)) ?_
        rintro e a' w' ⟨rfl, hd, hρ⟩
        exact fin .ret a' w' tm' h' r hd he (.inl rfl) hρ
      · rename_i tm' h' hev
        refine wpIn_mono ((evC_sound hm (k + 1) _ ρ w none 0 (tmpSlots fn) hg H.hbase).1 c body _ h _ hac (.inl rfl) hev ρ { tmps := vs.toArray ++ Array.replicate (fn.ntmps - vs.toArray.size) undef, defers := [] } w (Ext.refl _) (Keep.refl _) hfr H (OKD.nil _ _)) ?_
        rintro e a' w' ⟨rfl, hd, hρ⟩
        exact fin .normal a' w' tm' h' r hd he (.inr rfl) hρ
      · cases he
    · rename_i hk hTf
      have hh : HookSound P f hk := hT f _ hTf
      exact ⟨hh.1, fun ρ w vs H hr => hh.2 base W l h r he ρ w vs H hr⟩
    · cases he

end sound
end Go.Proofs.YtdgnddidibpilaaDoor.AS
end
section
set_option autoImplicit false
namespace Go.Proofs.YtdgnddidibpilaaDoor.AS
open Go Go.RowKit

/-! ### Scalar operations, as a walk by 'simp' wants them -/
section
variable {P : Program}
def bin2 (P : Program) (op : BinOp) (t : TypeId) (x y : Operand) (a b : Option AV) : Option AV :=
  match a.bind toV, b.bind toV with
  | some u, some v => (semv P (do eqGuard op t x y u v; binOp op t u v)).map .s
  | _, _ => none
def un1 (P : Program) (op : UnOp) (a : Option AV) : Option AV :=
  match a.bind toV with
  | some u => (semv P (Op.unary op u)).map .s
  | none => none
def cv1 (P : Program) (src dst : TypeId) (a : Option AV) : Option AV :=
  match a.bind toV with
  | some u => (semv P (convert src dst u)).map .s
  | none => none
def ix2 (P : Program) (t : TypeId) (a b : Option AV) : Option AV :=
  match a.bind toV, b.bind toV with
  | some u, some v => (semv P (Instr.index t u v)).map .s
  | _, _ => none

theorem semv_bind {α β : Type} (s : Sem α) (f : α → Sem β) : semv P (s >>= f) = (semv P s).bind fun a => semv P (f a) := by
  show semv P (Sem.bind s f) = _
  induction s with
  | pure a => rfl
  | program k ih => simp only [Sem.bind, semv]; exact ih P
  | mark m k ih => simp only [Sem.bind, semv]; exact ih
  | _ => rfl
theorem semv_pure {α : Type} (a : α) : semv P (pure a) = some a := rfl
theorem semv_map {α β : Type} (s : Sem α) (f : α → β) : semv P (f <$> s) = (semv P s).map f := by
  rw [map_eq_pure_bind, semv_bind]
  cases semv P s <;> rfl
theorem semv_value (s : Sem Value) : semv P (do let v ← s; pure (Next.value v)) = (semv P s).map Next.value := by
  rw [semv_bind]
  cases semv P s <;> rfl
theorem sc_bin (tm : List AV) (op : BinOp) (t : TypeId) (x y : Operand) (yt ty : TypeId) : scV P tm (.binOp op t x y yt) ty = bin2 P op t x y (evO tm x) (evO tm y) := by
  unfold scV bin2
  simp only [Op.operands, List.all_cons, List.all_nil, Bool.and_true, notSel]
  cases hx : (evO tm x).bind toV with
  | none => simp
  | some u =>
    cases hy : (evO tm y).bind toV with
    | none => simp
    | some v =>
      simp only [Option.isSome_some, Bool.and_self, if_true, execOp, opOf, envV, hx, hy, Option.getD_some]
      rw [semv_value]
      generalize semv P (do eqGuard op t x y u v; binOp op t u v) = o
      cases o <;> rfl
theorem sc_un (tm : List AV) (op : UnOp) (t : TypeId) (x : Operand) (ty : TypeId) : scV P tm (.unOp op t x) ty = un1 P op (evO tm x) := by
  unfold scV un1
  simp only [Op.operands, List.all_cons, List.all_nil, Bool.and_true, notSel]
  cases hx : (evO tm x).bind toV with
  | none => simp
  | some u =>
    simp only [Option.isSome_some, Bool.and_self, if_true, execOp, opOf, envV, hx, Option.getD_some]
    rw [semv_value]
    generalize semv P (Op.unary op u) = o
    cases o <;> rfl
theorem sc_cv (tm : List AV) (src dst : TypeId) (x : Operand) (ty : TypeId) : scV P tm (.convert src dst x) ty = cv1 P src dst (evO tm x) := by
  unfold scV cv1
  simp only [Op.operands, List.all_cons, List.all_nil, Bool.and_true, notSel]
  cases hx : (evO tm x).bind toV with
  | none => simp
  | some u =>
    simp only [Option.isSome_some, Bool.and_self, if_true, execOp, opOf, envV, hx, Option.getD_some]
    rw [semv_value]
    generalize semv P (convert src dst u) = o
    cases o <;> rfl
theorem sc_ix (tm : List AV) (t : TypeId) (x i : Operand) (ty : TypeId) : scV P tm (.index t x i) ty = ix2 P t (evO tm x) (evO tm i) := by
  unfold scV ix2
  simp only [Op.operands, List.all_cons, List.all_nil, Bool.and_true, notSel]
  cases hx : (evO tm x).bind toV with
  | none => simp
  | some u =>
    cases hy : (evO tm i).bind toV with
    | none => simp
    | some v =>
      simp only [Option.isSome_some, Bool.and_self, if_true, execOp, opOf, envV, hx, hy, Option.getD_some]
      rw [semv_value]
      generalize semv P (Instr.index t u v) = o
      cases o <;> rfl

/-! numbers -/
section
variable (t : TypeId) (x y : Operand) (k : IntKind) (a b : Int)
@[simp] theorem bin_add : bin2 P .add t x y (some (.s (.int k a))) (some (.s (.int k b))) = some (.s (.int k (k.wrap (a + b)))) := by
  simp [bin2, toV, eqGuard, binOp, Op.intArith, semv_bind, semv_pure]
@[simp] theorem bin_sub : bin2 P .sub t x y (some (.s (.int k a))) (some (.s (.int k b))) = some (.s (.int k (k.wrap (a - b)))) := by
  simp [bin2, toV, eqGuard, binOp, Op.intArith, semv_bind, semv_pure]
@[simp] theorem bin_mul : bin2 P .mul t x y (some (.s (.int k a))) (some (.s (.int k b))) = some (.s (.int k (k.wrap (a * b)))) := by
  simp [bin2, toV, eqGuard, binOp, Op.intArith, semv_bind, semv_pure]
@[simp] theorem bin_and : bin2 P .and t x y (some (.s (.int k a))) (some (.s (.int k b))) = some (.s (.int k (Go.bits .and k a b))) := by
  simp [bin2, toV, eqGuard, binOp, Op.intBits, semv_bind, semv_pure, Go.bits]
@[simp] theorem bin_or : bin2 P .or t x y (some (.s (.int k a))) (some (.s (.int k b))) = some (.s (.int k (Go.bits .or k a b))) := by
  simp [bin2, toV, eqGuard, binOp, Op.intBits, semv_bind, semv_pure, Go.bits]
@[simp] theorem bin_xor : bin2 P .xor t x y (some (.s (.int k a))) (some (.s (.int k b))) = some (.s (.int k (Go.bits .xor k a b))) := by
  simp [bin2, toV, eqGuard, binOp, Op.intBits, semv_bind, semv_pure, Go.bits]
@[simp] theorem bin_andNot : bin2 P .andNot t x y (some (.s (.int k a))) (some (.s (.int k b))) = some (.s (.int k (Go.bits .andNot k a b))) := by
  simp [bin2, toV, eqGuard, binOp, Op.intBits, semv_bind, semv_pure, Go.bits]
@[simp] theorem bin_eql : bin2 P .eql t x y (some (.s (.int k a))) (some (.s (.int k b))) = some (.s (.bool (decide (a = b)))) := by
  simp [bin2, toV, eqGuard, binOp, Op.intCmp, semv_bind, semv_pure]; rfl
@[simp] theorem bin_neq : bin2 P .neq t x y (some (.s (.int k a))) (some (.s (.int k b))) = some (.s (.bool (!decide (a = b)))) := by
  simp [bin2, toV, eqGuard, binOp, Op.intCmp, semv_bind, semv_pure]; rfl
@[simp] theorem bin_lss : bin2 P .lss t x y (some (.s (.int k a))) (some (.s (.int k b))) = some (.s (.bool (decide (a < b)))) := by
  simp [bin2, toV, eqGuard, binOp, Op.intCmp, semv_bind, semv_pure]
@[simp] theorem bin_leq : bin2 P .leq t x y (some (.s (.int k a))) (some (.s (.int k b))) = some (.s (.bool (decide (a ≤ b)))) := by
  simp [bin2, toV, eqGuard, binOp, Op.intCmp, semv_bind, semv_pure]
@[simp] theorem bin_gtr : bin2 P .gtr t x y (some (.s (.int k a))) (some (.s (.int k b))) = some (.s (.bool (decide (b < a)))) := by
  simp [bin2, toV, eqGuard, binOp, Op.intCmp, semv_bind, semv_pure]
@[simp] theorem bin_geq : bin2 P .geq t x y (some (.s (.int k a))) (some (.s (.int k b))) = some (.s (.bool (decide (b ≤ a)))) := by
  simp [bin2, toV, eqGuard, binOp, Op.intCmp, semv_bind, semv_pure]
@[simp] theorem bin_quo (h : b ≠ 0) : bin2 P .quo t x y (some (.s (.int k a))) (some (.s (.int k b))) = some (.s (.int k (k.wrap (a.tdiv b)))) := by
  simp [bin2, toV, eqGuard, binOp, Op.intDiv, semv_bind, semv_pure, h]
@[simp] theorem bin_rem (h : b ≠ 0) : bin2 P .rem t x y (some (.s (.int k a))) (some (.s (.int k b))) = some (.s (.int k (a.tmod b))) := by
  simp [bin2, toV, eqGuard, binOp, Op.intDiv, semv_bind, semv_pure, h]
variable (k' : IntKind)
@[simp] theorem bin_shl (h : 0 ≤ b) : bin2 P .shl t x y (some (.s (.int k a))) (some (.s (.int k' b))) = some (.s (.int k (k.wrap (a * 2 ^ (min b.toNat k.bits))))) := by
  simp [bin2, toV, eqGuard, binOp, Op.shift, semv_bind, semv_pure, show ¬ b < 0 by omega]
@[simp] theorem bin_shr (h : 0 ≤ b) : bin2 P .shr t x y (some (.s (.int k a))) (some (.s (.int k' b))) = some (.s (.int k (a.fdiv (2 ^ (min b.toNat k.bits))))) := by
  simp [bin2, toV, eqGuard, binOp, Op.shift, semv_bind, semv_pure, show ¬ b < 0 by omega]
end
section
variable (t : TypeId) (x y : Operand) (a b : ByteArray)
@[simp] theorem bin_sadd (h : a.size + b.size ≤ 9223372036854775807) : bin2 P .add t x y (some (.s (.string a))) (some (.s (.string b))) = some (.s (.string (a ++ b))) := by
  have : ¬ (((a.size + b.size : Nat) : Int) > IntKind.i64.max) := by rw [show IntKind.i64.max = 9223372036854775807 from rfl]; omega
  simp [bin2, toV, eqGuard, binOp, Op.stringOp, semv_bind, semv_pure]
  rw [if_neg (by simpa using this)]
  rfl
@[simp] theorem bin_seql : bin2 P .eql t x y (some (.s (.string a))) (some (.s (.string b))) = some (.s (.bool (a.toList == b.toList))) := by
  simp [bin2, toV, eqGuard, binOp, Op.stringOp, semv_bind, semv_pure]
@[simp] theorem bin_sneq : bin2 P .neq t x y (some (.s (.string a))) (some (.s (.string b))) = some (.s (.bool (!(a.toList == b.toList)))) := by
  simp [bin2, toV, eqGuard, binOp, Op.stringOp, semv_bind, semv_pure]
@[simp] theorem un_not (c : Bool) : un1 P .not (some (.s (.bool c))) = some (.s (.bool !c)) := rfl
end
end
end Go.Proofs.YtdgnddidibpilaaDoor.AS
end
