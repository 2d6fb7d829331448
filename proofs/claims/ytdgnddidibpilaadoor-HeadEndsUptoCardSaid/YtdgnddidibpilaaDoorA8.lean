/- Of our own: an abstract machine beside the model, its soundness, and walks of the program in it. -/
import Derived.Test.YtdgnddidibpilaaDoorA7
import Derived.Laws.BitsLemmas
import Derived.Laws.BytesArg
import Derived.Lib.BitFns
import Derived.Lib.Strings
import Derived.RowKit
set_option linter.unusedSimpArgs false
set_option linter.unusedVariables false
section
set_option autoImplicit false
namespace Go.Proofs.YtdgnddidibpilaaDoor.AS
open Go Go.RowKit
theorem forget_len : ∀ (fg : List Nat) (tm : List AV), (forget fg tm).length = tm.length
  | [], _ => rfl
  | t :: l, tm => by rw [forget, forget_len l]; simp
theorem forget_get : ∀ (fg : List Nat) (tm : List AV) (i : Nat), (forget fg tm)[i]? = if i ∈ fg ∧ i < tm.length then some .any else tm[i]?
  | [], tm, i => by simp [forget]
  | t :: l, tm, i => by
    rw [forget, forget_get l, List.length_set, List.getElem?_set]
    by_cases h1 : i ∈ l <;> by_cases h2 : t = i <;> by_cases h3 : i < tm.length <;> simp [h1, h2, h3]
    all_goals (try subst h2)
    all_goals (try simp [h3])
    all_goals (intro hh; exact absurd hh.symm h2)
theorem forget_idem (fg : List Nat) (tm : List AV) : forget fg (forget fg tm) = forget fg tm := by
  apply List.ext_getElem?
  intro i
  rw [forget_get, forget_len, forget_get]
  split <;> simp_all
theorem Run.loop_forget {P : Program} {T : FuncId → Option AFunc} {fg : List Nat} {b : ACode} {tm : List AV} {h : Heap} {r : Res} (H : Run P T (.loop fg b) (forget fg tm) h r) : Run P T (.loop fg b) tm h r := by
  obtain ⟨k, H⟩ := H.get
  cases k with
  | zero => simp [evC] at H
  | succ k =>
    simp only [evC] at H
    rw [forget_idem] at H
    exact Run.one (k + 1) (k + 1) (by simp only [evC]; exact H)
theorem Run.loop_go {P : Program} {T : FuncId → Option AFunc} {fg : List Nat} {b : ACode} {tm tm0 tm' tm1 : List AV} {h h' : Heap} {r : Res} (e0 : forget fg tm = tm0) (H : Run P T b tm0 h (.normal, tm', h')) (e1 : forget fg tm' = tm1) (H' : Run P T (.loop fg b) tm1 h' r) : Run P T (.loop fg b) tm h r :=
  Run.loop_next_f e0 H (Run.loop_forget (e1 ▸ H'))
theorem Run.loop_go' {P : Program} {T : FuncId → Option AFunc} {fg : List Nat} {b : ACode} {tm tm1 : List AV} {h : Heap} {r : Res} (H : Run P T (.loop fg b) tm1 h r) (e1 : forget fg tm = tm1) : Run P T (.loop fg b) tm h r := Run.loop_forget (e1 ▸ H)
/-- A block that is a loop, and what is behind it: one more round ahead of it. -/
theorem Run.seq_block_loop {P : Program} {T : FuncId → Option AFunc} {fg : List Nat} {i : Nat} {b t : ACode} {tm tm' tm1 : List AV} {h h' : Heap} {r : Res} (e0 : forget fg tm = tm) (H : Run P T b tm h (.normal, tm', h')) (e1 : forget fg tm' = tm1) (H' : Run P T (.seq (.block i (.loop fg b)) t) tm1 h' r) : Run P T (.seq (.block i (.loop fg b)) t) tm h r := by
  obtain ⟨k, K⟩ := H'.get
  clear H'
  cases k with
  | zero => simp [evC] at K
  | succ k =>
  cases k with
  | zero => simp [evC] at K
  | succ k =>
    rw [evC_seq, evC_block] at K
    cases hl : evC P (evFn P T (k + 1 + 1)) k (.loop fg b) tm1 h' with
    | none => rw [hl] at K; simp [blockC, thenC] at K
    | some x =>
      have hr := Run.loop_go e0 H e1 (Run.one _ _ hl)
      rw [hl] at K
      obtain ⟨e, tm2, h2⟩ := x
      cases e with
      | normal => exact Run.seq (Run.block_id (by simp) hr) (Run.one _ _ K)
      | exit j =>
        simp only [blockC_e] at K
        split at K
        · rename_i hj; subst hj; exact Run.seq (Run.block_exit hr) (Run.one _ _ K)
        · rename_i hj
          simp only [thenC_e, Option.some.injEq] at K
          subst K
          exact Run.seq_stop (by simp) (by have := Run.block (i := i) hr; simpa [hj] using this)
      | goto l =>
        simp only [blockC_g, thenC_g, Option.some.injEq] at K
        subst K
        exact Run.seq_stop (by simp) (Run.block_id (by simp) hr)
      | ret =>
        simp only [blockC_r, thenC_r, Option.some.injEq] at K
        subst K
        exact Run.seq_stop (by simp) (Run.block_id (by simp) hr)
theorem Run.seq_block_forget {P : Program} {T : FuncId → Option AFunc} {fg : List Nat} {i : Nat} {b t : ACode} {tm tm1 : List AV} {h : Heap} {r : Res} (e1 : forget fg tm = tm1) (H' : Run P T (.seq (.block i (.loop fg b)) t) tm1 h r) : Run P T (.seq (.block i (.loop fg b)) t) tm h r := by
  obtain ⟨k, K⟩ := H'.get
  clear H'
  cases k with
  | zero => simp [evC] at K
  | succ k =>
  cases k with
  | zero => simp [evC] at K
  | succ k =>
    rw [evC_seq, evC_block] at K
    cases hl : evC P (evFn P T (k + 1 + 1)) k (.loop fg b) tm1 h with
    | none => rw [hl] at K; simp [blockC, thenC] at K
    | some x =>
      have hr := Run.loop_go' (Run.one _ _ hl) e1
      rw [hl] at K
      obtain ⟨e, tm2, h2⟩ := x
      cases e with
      | normal => exact Run.seq (Run.block_id (by simp) hr) (Run.one _ _ K)
      | exit j =>
        simp only [blockC_e] at K
        split at K
        · rename_i hj; subst hj; exact Run.seq (Run.block_exit hr) (Run.one _ _ K)
        · rename_i hj
          simp only [thenC_e, Option.some.injEq] at K
          subst K
          exact Run.seq_stop (by simp) (by have := Run.block (i := i) hr; simpa [hj] using this)
      | goto l =>
        simp only [blockC_g, thenC_g, Option.some.injEq] at K
        subst K
        exact Run.seq_stop (by simp) (Run.block_id (by simp) hr)
      | ret =>
        simp only [blockC_r, thenC_r, Option.some.injEq] at K
        subst K
        exact Run.seq_stop (by simp) (Run.block_id (by simp) hr)
end Go.Proofs.YtdgnddidibpilaaDoor.AS
end
section
set_option autoImplicit false
namespace Go.Proofs.YtdgnddidibpilaaDoor.AS
open Go Go.RowKit

/-! ### A result with one block that is new and names no other -/
def newP (ρ1 : PM) (n b v : Nat) : PM := fun b' v' => if b' < n then ρ1 b' v' else if b' = n ∧ v' = 1 then ρ1 b v else none
theorem newP_lt {ρ1 : PM} {n b v b' : Nat} (h : b' < n) (v' : Nat) : newP ρ1 n b v b' v' = ρ1 b' v' := by simp [newP, h]
theorem newP_new {ρ1 : PM} {n b v : Nat} : newP ρ1 n b v n 1 = ρ1 b v := by simp [newP]

theorem toVs_get : ∀ {l : List AV} {us : List Value}, toVs l = some us → ∀ {j : Nat} {x : AV}, l[j]? = some x → ∃ u, toV x = some u
  | [], _, _, j, x, h => by simp at h
  | y :: l, us, hu, j, x, h => by
    simp only [toVs] at hu
    split at hu
    · rename_i a b ha hb
      cases j with
      | zero => simp at h; subst h; exact ⟨_, ha⟩
      | succ j => simp at h; exact toVs_get hb h
    · cases hu

section
variable {P : Program} {base : Nat} {W : World}
theorem HR.fresh1 {ρ ρ1 : PM} {h h1 : Heap} {w0 w : World} (H : HR P base W ρ h w0) (hx : Ext ρ ρ1) (H1 : HR P base W ρ1 h1 w) (hg : Grows h h1) {b : Nat} {k : Blk} (hb : h.length ≤ b) (hk : h1[b]? = some k) {us : List Value} (hc : toVs k.cells = some us) :
    HR P base W (newP ρ1 h.length b k.ver) (h ++ [{ k with ver := 1 }]) w ∧ Ext ρ (newP ρ1 h.length b k.ver) := by
  have hx' : Ext ρ (newP ρ1 h.length b k.ver) := fun b' v p hp => by rw [newP_lt (H.dom hp)]; exact hx _ _ _ hp
  have old : ∀ b' k', (h ++ [{ k with ver := 1 }])[b']? = some k' → (b' < h.length ∧ h[b']? = some k' ∧ h1[b']? = some k') ∨ (b' = h.length ∧ k' = { k with ver := 1 }) := by
    intro b' k' hb'
    rcases Nat.lt_or_ge b' h.length with hlt | hge
    · rw [List.getElem?_append_left hlt] at hb'
      exact Or.inl ⟨hlt, hb', (hg b' hlt).trans hb'⟩
    · rw [List.getElem?_append_right hge] at hb'
      have : b' - h.length = 0 := by
        rcases Nat.eq_zero_or_pos (b' - h.length) with h0 | h0
        · exact h0
        · rw [List.getElem?_eq_none (by simp; omega)] at hb'; cases hb'
      rw [this] at hb'
      simp at hb'
      exact Or.inr ⟨by omega, hb'.symm⟩
  refine ⟨⟨H1.below, H1.hbase, fun b' ver hb' => ?_, ?_, ?_, H.gl⟩, hx'⟩
  · simp at hb'
    unfold newP; rw [if_neg (by omega), if_neg (by omega)]
  · intro b' k' hb'
    rcases old b' k' hb' with ⟨hlt, h2, h3⟩ | ⟨rfl, rfl⟩
    · obtain ⟨p, a1, a2, a3, a4, a5, a6, a7, a8⟩ := H1.blk b' k' h3
      obtain ⟨p0, b1, _, _, _, _, _, b7, _⟩ := H.blk b' k' h2
      refine ⟨p, by rw [newP_lt hlt]; exact a1, fun v hv => by rw [newP_lt hlt]; exact a2 v hv, a3, a4, a5, a6, fun j x hj => ?_, a8⟩
      obtain ⟨v, hv, hr⟩ := a7 j x hj
      obtain ⟨v0, _, hr0⟩ := b7 j x hj
      exact ⟨v, hv, RV_back hx hx' _ _ (ment_of _ _ hr0) hr⟩
    · obtain ⟨p, a1, a2, a3, a4, a5, a6, a7, a8⟩ := H1.blk b k hk
      refine ⟨p, by rw [newP_new]; exact a1, fun v hv => ?_, a3, a4, a5, a6, fun j x hj => ?_, fun hr => ⟨(a8 hr).1, (a8 hr).2.1, (a8 hr).2.2.1, (a8 hr).2.2.2.1, fun h => absurd h (Nat.succ_ne_zero 0)⟩⟩
      · unfold newP; rw [if_neg (by omega), if_neg (by simp at hv; omega)]
      · obtain ⟨v, hv, hr⟩ := a7 j x hj
        obtain ⟨u, hu⟩ := toVs_get hc hj
        exact ⟨v, hv, flat_RV x u v hu hr⟩
  · intro b' b'' k' k'' p' p'' hb' hb'' hp' hp'' hrw heq
    rcases old b' k' hb' with ⟨hlt', h2', h3'⟩ | ⟨rfl, rfl⟩ <;> rcases old b'' k'' hb'' with ⟨hlt'', h2'', h3''⟩ | ⟨rfl, rfl⟩
    · rw [newP_lt hlt'] at hp'
      rw [newP_lt hlt''] at hp''
      exact H1.inj b' b'' k' k'' p' p'' h3' h3'' hp' hp'' hrw heq
    · rw [newP_lt hlt'] at hp'
      have hp'' : ρ1 b k.ver = some p'' := by rw [← hp'']; exact newP_new.symm
      have := H1.inj b' b k' k p' p'' h3' hk hp' hp'' hrw heq
      omega
    · rw [newP_lt hlt''] at hp''
      have hp' : ρ1 b k.ver = some p' := by rw [← hp']; exact newP_new.symm
      have := H1.inj b b'' k k'' p' p'' hk h3'' hp' hp'' hrw heq
      omega
    · rfl
theorem RV_new {ρ1 : PM} {w : World} {n b v off len sz : Nat} {x : Value} (h : RV ρ1 w (.sl b v off len sz) x) : RV (newP ρ1 n b v) w (.sl n 1 off len sz) x := by
  obtain ⟨p, c, a, ⟨h1, h2⟩, r⟩ := h
  exact ⟨p, c, a, ⟨by rw [newP_new]; exact h1, h2⟩, r⟩
end
theorem Drops.fresh {h h1 : Heap} {b : Nat} {k : Blk} {l : List AV} {us vs : List Value} {off n sz : Nat} (hg : Grows h h1) (hb : h.length ≤ b) (hk : h1[b]? = some k) (hc : toVs k.cells = some us) (hl : toVs l = some vs) :
    Drops h (.tp (.sl b k.ver off n sz :: l), h1) (.tp (.sl h.length 1 off n sz :: l), h ++ [{ k with ver := 1 }]) := by
  intro P base W ρ ρ1 w0 w v H hx1 H1 hr
  obtain ⟨H2, hx2⟩ := H.fresh1 hx1 H1 hg hb hk hc
  obtain ⟨xs, rfl, hr⟩ := hr
  refine ⟨_, hx2, ⟨xs, rfl, ?_⟩, H2⟩
  generalize xs.toList = ys at hr
  cases ys with
  | nil => exact hr.elim
  | cons y ys => exact ⟨RV_new hr.1, flats_RV l vs ys hl hr.2⟩
theorem Drops.fresh1 {h h1 : Heap} {b : Nat} {k : Blk} {us : List Value} {off n sz : Nat} (hg : Grows h h1) (hb : h.length ≤ b) (hk : h1[b]? = some k) (hc : toVs k.cells = some us) :
    Drops h (.sl b k.ver off n sz, h1) (.sl h.length 1 off n sz, h ++ [{ k with ver := 1 }]) := by
  intro P base W ρ ρ1 w0 w v H hx1 H1 hr
  obtain ⟨H2, hx2⟩ := H.fresh1 hx1 H1 hg hb hk hc
  exact ⟨_, hx2, RV_new hr, H2⟩

theorem Run.stepJ {P : Program} {T : FuncId → Option AFunc} {c : ACode} {tm : List AV} {h : Heap} {r : Res} (K J : Nat) (H : ∀ k j, J ≤ j → evC P (evFn P T (j + 1)) (k + K) c tm h = some r) : Run P T c tm h r :=
  Run.one (0 + K) (J + 1) (H 0 J (Nat.le_refl _))
theorem FRun.get {P : Program} {T : FuncId → Option AFunc} {f : FuncId} {args : List AV} {h : Heap} {r : AV × Heap} (H : FRun P T f args h r) : ∃ J, ∀ j, J ≤ j → evFn P T (j + 1) f args h = some r := by
  obtain ⟨K, H⟩ := H
  exact ⟨K, fun j hj => H (j + 1) (by omega)⟩

/-! ### Regions whose order is open, by 'simp' -/
section
variable {P : Program} {g : CallF} {tm : List AV} {h : Heap}
abbrev DR := Option (List Heap × List (List AV × AV × Bool) × List AV × Heap)
def conD (b : Bool) (h : Heap) (x : List AV × AV × Bool) (r : DR) : DR := match r with | some (hs, xs, r) => some (if b then h :: hs else hs, x :: xs, r) | none => none
@[simp] theorem conD_s (b : Bool) (x : List AV × AV × Bool) (hs : List Heap) (xs : List (List AV × AV × Bool)) (r : List AV × Heap) : conD b h x (some (hs, xs, r)) = some (if b then h :: hs else hs, x :: xs, r) := rfl
def thenX (r : Option (AV × Heap)) (d : Option Nat) (tm : List AV) (b : Bool) (h : Heap) (f : List AV → Heap → DR) : DR := match r with | some (x, h') => conD b h (tm, x, true) (f (putA tm d x) h') | none => none
@[congr] theorem thenX_congr {r r' : Option (AV × Heap)} {d : Option Nat} {tm : List AV} {b : Bool} {h : Heap} {f : List AV → Heap → DR} (e : r = r') : thenX r d tm b h f = thenX r' d tm b h f := by rw [e]
@[simp] theorem thenX_s (x : AV) (h' : Heap) (d : Option Nat) (b : Bool) (f : List AV → Heap → DR) : thenX (some (x, h')) d tm b h f = conD b h (tm, x, true) (f (putA tm d x) h') := rfl
def thenY (w : Option Bool) (r : Option (AV × Heap)) (d : Option Nat) (tm : List AV) (b : Bool) (h : Heap) (f : List AV → Heap → DR) : DR := match w with
  | some true => thenX r d tm b h f
  | some false => conD b h (tm, .s undef, false) (f (putA tm d (.s undef)) h)
  | none => none
@[congr] theorem thenY_congr {w w' : Option Bool} {r : Option (AV × Heap)} {d : Option Nat} {tm : List AV} {b : Bool} {h : Heap} {f : List AV → Heap → DR} (e : w = w') : thenY w r d tm b h f = thenY w' r d tm b h f := by rw [e]
@[simp] theorem thenY_t (r : Option (AV × Heap)) (d : Option Nat) (b : Bool) (f : List AV → Heap → DR) : thenY (some true) r d tm b h f = thenX r d tm b h f := rfl
@[simp] theorem thenY_f (r : Option (AV × Heap)) (d : Option Nat) (b : Bool) (f : List AV → Heap → DR) : thenY (some false) r d tm b h f = conD b h (tm, .s undef, false) (f (putA tm d (.s undef)) h) := rfl
@[simp] theorem runDraw_nil : runDraw P g [] tm h = some ([h], [], tm, h) := rfl
@[simp] theorem runDraw_cons0 (d : Option Nat) (q : AOp) (l : List AOper) : runDraw P g (⟨d, none, q⟩ :: l) tm h = thenX (opV P g tm h q) d tm (isE q) h (runDraw P g l) := by
  simp only [runDraw, thenX, want_n]
  cases opV P g tm h q with
  | none => rfl
  | some r =>
    obtain ⟨x, h'⟩ := r
    simp only [conD]
    cases runDraw P g l (putA tm d x) h' <;> rfl
theorem runDraw_cons (d : Option Nat) (gd : Nat × Bool) (q : AOp) (l : List AOper) : runDraw P g (⟨d, some gd, q⟩ :: l) tm h = thenY (wantA tm (some gd)) (opV P g tm h q) d tm (isE q) h (runDraw P g l) := by
  simp only [runDraw, thenY, thenX]
  cases wantA tm (some gd) with
  | none => rfl
  | some b =>
    cases b with
    | false =>
      simp only [conD]
      cases runDraw P g l (putA tm d (.s undef)) h <;> rfl
    | true =>
      simp only
      cases opV P g tm h q with
      | none => rfl
      | some r =>
        obtain ⟨x, h'⟩ := r
        simp only [conD]
        cases runDraw P g l (putA tm d x) h' <;> rfl
attribute [simp] runDraw_cons
@[simp] theorem isE_p (o : POp) : isE (.p o) = false := rfl
@[simp] theorem isE_r (o : ROp) : isE (.r o) = false := rfl
@[simp] theorem isE_e (o : EOp) : isE (.e o) = true := rfl
end
end Go.Proofs.YtdgnddidibpilaaDoor.AS
end
section
set_option autoImplicit false
namespace Go.Proofs.YtdgnddidibpilaaDoor.AS
open Go Go.RowKit
theorem HR.empty (P : Program) (w : World) (hL : Laid P w.heap.size w) : HR P w.heap.size w (fun _ _ => none) [] w :=
  ⟨Below.refl _ _, Nat.le_refl _, fun _ _ _ => rfl, fun b k h => by simp at h, fun b b' k k' p p' h => by simp at h, hL⟩
/-- A call that needs no heap: whatever it is made in. -/
theorem hook0 {P : Program} {T : FuncId → Option AFunc} (hm : P.follows .mixedOrders = true) (hT : TabOK P T) {f : FuncId} {hk : List AV → Option AV}
    (hs : ∀ l x, hk l = some x → callable P f = true ∧ (∃ us, toVs l = some us) ∧ (∃ u, toV x = some u) ∧ ∃ k H, evFn P T k f l [] = some (x, H)) (hc : callable P f = true) : HookSound P f fun l h => (hk l).map fun x => (x, h) := by
  refine ⟨hc, fun base W l h r he ρ w vs H hr => ?_⟩
  simp only [Option.map_eq_some_iff] at he
  obtain ⟨x, hx, rfl⟩ := he
  obtain ⟨hcal, ⟨us, hl⟩, ⟨u, hu⟩, k, H1, hev⟩ := hs l x hx
  refine ((evFn_sound (base := w.heap.size) (W := w) hm hT k f l [] (x, H1) hev).2 (fun _ _ => none) w vs (HR.empty P w fun g C hC => ⟨Nat.lt_of_lt_of_le (H.gl g C hC).1 H.hbase, fun j v hj => laid_cell H hC hj⟩) (flats_RV l us vs hl hr)).mono ?_
  rintro e w' ⟨v, ρ', rfl, E⟩
  exact ⟨v, ρ, rfl, ⟨Ext.refl _, E.keep, flat_RV x u v hu E.rv, H.grow E.hr.below⟩⟩
theorem Run.seq_seq {P : Program} {T : FuncId → Option AFunc} {a b c : ACode} {tm tm' : List AV} {h h' : Heap} {r : Res} (ha : Run P T a tm h (.normal, tm', h')) (H : Run P T (.seq b c) tm' h' r) : Run P T (.seq (.seq a b) c) tm h r := by
  obtain ⟨k, H⟩ := H.get
  cases k with
  | zero => simp [evC] at H
  | succ k =>
    rw [evC_seq] at H
    cases hb : evC P (evFn P T (k + 1)) k b tm' h' with
    | none => rw [hb] at H; simp [thenC] at H
    | some x =>
      rw [hb] at H
      have hr := Run.seq ha (Run.one _ _ hb)
      obtain ⟨e, tm2, h2⟩ := x
      cases e with
      | normal => exact Run.seq hr (Run.one _ _ H)
      | exit j => simp only [thenC_e, Option.some.injEq] at H; subst H; exact Run.seq_stop (by simp) hr
      | goto j => simp only [thenC_g, Option.some.injEq] at H; subst H; exact Run.seq_stop (by simp) hr
      | ret => simp only [thenC_r, Option.some.injEq] at H; subst H; exact Run.seq_stop (by simp) hr
theorem evOps_app {P : Program} {g : CallF} : ∀ (a b : List AOper) (tm : List AV) (h : Heap), evOps P g (a ++ b) tm h = (evOps P g a tm h).bind fun r => evOps P g b r.1 r.2
  | [], b, tm, h => rfl
  | o :: a, b, tm, h => by
    simp only [List.cons_append, evOps]
    split
    · split
      · exact evOps_app a b _ _
      · rfl
    · exact evOps_app a b _ _
    · rfl
/-- A long region, in two. -/
theorem Run.reg_cut {P : Program} {T : FuncId → Option AFunc} {l : List AOper} (n : Nat) {tm tm' : List AV} {h h' : Heap} {r : Res} (H1 : Run P T (.reg (l.take n)) tm h (.normal, tm', h')) (H2 : Run P T (.reg (l.drop n)) tm' h' r) : Run P T (.reg l) tm h r := by
  obtain ⟨K, H1⟩ := H1; obtain ⟨L, H2⟩ := H2
  refine ⟨K + L + 1, fun k j hk hj => ?_⟩
  have h1 := H1 k j (by omega) (by omega)
  have h2 := H2 k j (by omega) (by omega)
  obtain ⟨k, rfl⟩ : ∃ k', k = k' + 1 := ⟨k - 1, by omega⟩
  rw [evC_reg] at h1 h2 ⊢
  rw [← List.take_append_drop n l, evOps_app]
  cases he : evOps P (evFn P T j) (l.take n) tm h with
  | none => rw [he] at h1; cases h1
  | some x =>
    rw [he] at h1
    simp only [thenR, Option.map_some, Option.some.injEq, Prod.mk.injEq, true_and] at h1
    obtain ⟨rfl, rfl⟩ := h1
    exact h2
section
variable {g : CallF} {tm : List AV} {h : Heap}
def cvV (g : CallF) (h : Heap) (f : Option AV) (a : Option (List AV)) : Option (AV × Heap) := match f, a with
    | some (.fn (.func k) x y), some l => if k < YB then g k (x ++ l ++ y) h else none
    | some (.s (.func (.func k) x y)), some l => if k < YB then g k (x.toList.map .s ++ l ++ y.toList.map .s) h else none
    | some (.yl b), some l => g (YB + b) l h
    | _, _ => none
@[simp] theorem eV_callv (f : Operand) (args : List Operand) : eV g tm h (.callv f args) = cvV g h (evO tm f) (evOs tm args) := rfl
@[simp] theorem cvV_s (k : FuncId) (l : List AV) : cvV g h (some (.s (.func (.func k) #[] #[]))) (some l) = if k < YB then g k l h else none := by simp [cvV]
@[simp] theorem cvV_f (k : FuncId) (x y l : List AV) : cvV g h (some (.fn (.func k) x y)) (some l) = if k < YB then g k (x ++ l ++ y) h else none := rfl
@[simp] theorem YB_lit : YB = 1000000000 := rfl
@[simp] theorem cvV_y (b : Nat) (l : List AV) : cvV g h (some (.yl b)) (some l) = g (YB + b) l h := rfl
def s3V (sz : Nat) (a : Option AV) (lo : Option (Option AV)) (hi mx : Option AV) : Option AV := match a with
    | some (.sl b v o n z) => match (match lo with | none => some 0 | some x => x.bind asI), hi.bind asI, mx.bind asI with
      | some l, some h, some m => if z = sz ∧ 0 ≤ l ∧ l ≤ h ∧ h ≤ m ∧ m ≤ n then some (.sl b v (o + l.toNat * sz) (h.toNat - l.toNat) sz) else none
      | _, _, _ => none
    | _ => none
@[simp] theorem pV_slice3 (P : Program) (sz : Nat) (x : Operand) (lo : Option Operand) (hi mx : Operand) : pV P tm (.slice3 sz x lo hi mx) = s3V sz (evO tm x) (lo.map (evO tm)) (evO tm hi) (evO tm mx) := by
  cases lo <;> rfl
theorem s3V_sl (sz b v o n : Nat) (k k' k2 : IntKind) (l h m : Int) (hc : 0 ≤ l ∧ l ≤ h ∧ h ≤ m ∧ m ≤ n) : s3V sz (some (.sl b v o n sz)) (some (some (.s (.int k l)))) (some (.s (.int k' h))) (some (.s (.int k2 m))) = some (.sl b v (o + l.toNat * sz) (h.toNat - l.toNat) sz) := if_pos ⟨rfl, hc⟩
def capV (a : Option AV) : Option AV := match a with
    | some (.s (.slice none 0 0)) => some (.s (.int .i64 0))
    | _ => none
@[simp] theorem pV_capN (P : Program) (x : Operand) : pV P tm (.capN x) = capV (evO tm x) := rfl
@[simp] theorem capV_n : capV (some (.s (.slice none 0 0))) = some (.s (.int .i64 0)) := rfl
def slV (sz : Nat) (a : Option AV) (lo hi : Option (Option AV)) : Option AV := match a with
    | some (.sl b v o n z) => match (match lo with | none => some 0 | some x => x.bind asI), (match hi with | none => some (n : Int) | some x => x.bind asI) with
      | some l, some h => if z = sz ∧ 0 ≤ l ∧ l ≤ h ∧ h ≤ n then some (.sl b v (o + l.toNat * sz) (h.toNat - l.toNat) sz) else none
      | _, _ => none
    | some (.s (.slice none 0 0)) => match (match lo with | none => some 0 | some x => x.bind asI), (match hi with | none => some 0 | some x => x.bind asI) with
      | some l, some h => if l = 0 ∧ h = 0 then some (.s (.slice none 0 0)) else none
      | _, _ => none
    | _ => none
@[simp] theorem pV_slice (P : Program) (sz : Nat) (x : Operand) (lo hi : Option Operand) : pV P tm (.slice sz x lo hi) = slV sz (evO tm x) (lo.map (evO tm)) (hi.map (evO tm)) := by
  cases lo <;> cases hi <;> rfl
@[simp] theorem slV_lh (sz b v o n : Nat) (k k' : IntKind) (i j : Int) : slV sz (some (.sl b v o n sz)) (some (some (.s (.int k i)))) (some (some (.s (.int k' j)))) = if 0 ≤ i ∧ i ≤ j ∧ j ≤ n then some (.sl b v (o + i.toNat * sz) (j.toNat - i.toNat) sz) else none := by simp [slV, asI]
@[simp] theorem slV_nil (sz : Nat) (k k' : IntKind) : slV sz (some (.s (.slice none 0 0))) (some (some (.s (.int k 0)))) (some (some (.s (.int k' 0)))) = some (.s (.slice none 0 0)) := rfl
end
end Go.Proofs.YtdgnddidibpilaaDoor.AS
end
section
set_option autoImplicit false
namespace Go.Proofs.YtdgnddidibpilaaDoor.AS
open Go Go.RowKit

/-- What code comes to, whatever the calls are, if they answer so. -/
def RunU (P : Program) (C : CallF → Prop) (c : ACode) (tm : List AV) (h : Heap) (r : Res) : Prop := ∃ K, ∀ g, C g → ∀ k, K ≤ k → evC P g k c tm h = some r
section
variable {P : Program} {C : CallF → Prop} {tm tm' tm1 tm0 : List AV} {h h' : Heap} {r : Res} {a b c : ACode}
theorem RunU.mono {C' : CallF → Prop} (H : RunU P C c tm h r) (hc : ∀ g, C' g → C g) : RunU P C' c tm h r := let ⟨K, H⟩ := H; ⟨K, fun g hg => H g (hc g hg)⟩
theorem RunU.step (K : Nat) (H : ∀ g, C g → ∀ k, evC P g (k + K) c tm h = some r) : RunU P C c tm h r := ⟨K, fun g hg k hk => by
  obtain ⟨j, rfl⟩ : ∃ j, k = j + K := ⟨k - K, by omega⟩
  exact H g hg j⟩
theorem RunU.to (H : RunU P C c tm h r) {r' : Res} (e : r = r') : RunU P C c tm h r' := e ▸ H
theorem RunU.seq (ha : RunU P C a tm h (.normal, tm', h')) (hb : RunU P C b tm' h' r) : RunU P C (.seq a b) tm h r := by
  obtain ⟨K, ha⟩ := ha; obtain ⟨L, hb⟩ := hb
  refine ⟨K + L + 1, fun g hg k hk => ?_⟩
  obtain ⟨k, rfl⟩ : ∃ j, k = j + 1 := ⟨k - 1, by omega⟩
  simp only [evC]
  rw [ha g hg k (by omega)]
  exact hb g hg k (by omega)
theorem RunU.seq_stop {e : Ex} (he : e ≠ .normal) (ha : RunU P C a tm h (e, tm', h')) : RunU P C (.seq a b) tm h (e, tm', h') := by
  obtain ⟨K, ha⟩ := ha
  refine ⟨K + 1, fun g hg k hk => ?_⟩
  obtain ⟨k, rfl⟩ : ∃ j, k = j + 1 := ⟨k - 1, by omega⟩
  simp only [evC]
  rw [ha g hg k (by omega)]
  cases e <;> first | rfl | exact absurd rfl he
theorem RunU.block_exit {i : Nat} (H : RunU P C b tm h (.exit i, tm', h')) : RunU P C (.block i b) tm h (.normal, tm', h') := by
  obtain ⟨K, H⟩ := H
  refine ⟨K + 1, fun g hg k hk => ?_⟩
  obtain ⟨k, rfl⟩ : ∃ j, k = j + 1 := ⟨k - 1, by omega⟩
  simp only [evC]
  rw [H g hg k (by omega)]
  simp
theorem RunU.block_id {i : Nat} {e : Ex} (he : ∀ j, e ≠ .exit j) (H : RunU P C b tm h (e, tm', h')) : RunU P C (.block i b) tm h (e, tm', h') := by
  obtain ⟨K, H⟩ := H
  refine ⟨K + 1, fun g hg k hk => ?_⟩
  obtain ⟨k, rfl⟩ : ∃ j, k = j + 1 := ⟨k - 1, by omega⟩
  simp only [evC]
  rw [H g hg k (by omega)]
  cases e <;> first | rfl | exact absurd rfl (he _)
theorem RunU.loop_next {fg : List Nat} (hfg : forget fg tm = tm0) (H : RunU P C b tm0 h (.normal, tm', h')) (H' : RunU P C (.loop fg b) tm' h' r) : RunU P C (.loop fg b) tm h r := by
  obtain ⟨K, H⟩ := H; obtain ⟨L, H'⟩ := H'
  refine ⟨K + L + 1, fun g hg k hk => ?_⟩
  obtain ⟨k, rfl⟩ : ∃ j, k = j + 1 := ⟨k - 1, by omega⟩
  simp only [evC]
  rw [hfg, H g hg k (by omega)]
  exact H' g hg k (by omega)
theorem RunU.loop_end {fg : List Nat} {e : Ex} (hfg : forget fg tm = tm0) (he : e ≠ .normal) (H : RunU P C b tm0 h (e, tm', h')) : RunU P C (.loop fg b) tm h (e, tm', h') := by
  obtain ⟨K, H⟩ := H
  refine ⟨K + 1, fun g hg k hk => ?_⟩
  obtain ⟨k, rfl⟩ : ∃ j, k = j + 1 := ⟨k - 1, by omega⟩
  simp only [evC]
  rw [hfg, H g hg k (by omega)]
  cases e <;> first | rfl | exact absurd rfl he
theorem RunU.loop_forget {fg : List Nat} (H : RunU P C (.loop fg b) (forget fg tm) h r) : RunU P C (.loop fg b) tm h r := by
  obtain ⟨K, H⟩ := H
  refine ⟨K + 1, fun g hg k hk => ?_⟩
  have := H g hg k (by omega)
  obtain ⟨k, rfl⟩ : ∃ j, k = j + 1 := ⟨k - 1, by omega⟩
  simp only [evC, forget_idem] at this ⊢
  exact this
/-- A round that goes on, where the loop's head forgets. -/
theorem RunU.loop_go {fg : List Nat} (e0 : forget fg tm = tm0) (H : RunU P C b tm0 h (.normal, tm', h')) (e1 : forget fg tm' = tm1) (H' : RunU P C (.loop fg b) tm1 h' r) : RunU P C (.loop fg b) tm h r :=
  RunU.loop_next e0 H (RunU.loop_forget (e1 ▸ H'))
end

/-- Calls, and what they answer. -/
abbrev Evt := FuncId × List AV × Heap × (AV × Heap)
def EvC (evs : List Evt) (g : CallF) : Prop := ∀ c ∈ evs, g c.1 c.2.1 c.2.2.1 = some c.2.2.2
/-- A call of a function, or of the loop's yield. -/
def EvOK (P : Program) (T : FuncId → Option AFunc) (b : Nat) (ps : List Nat) (tm : List AV) (asg body : ACode) (c : Evt) : Prop :=
  (c.1 < YB ∧ FRun P T c.1 c.2.1 c.2.2.1 c.2.2.2) ∨
  (c.1 = YB + b ∧ c.2.1.length = ps.length ∧ ∃ tm1 h' tm2 h1, Run P T asg (putPs ps c.2.1 tm) c.2.2.1 (.normal, tm1, h') ∧ Run P T body tm1 h' (.normal, tm2, h1) ∧ c.2.2.2 = (.s (.bool true), h1))
theorem noY_of {P : Program} {T : FuncId → Option AFunc} (hm : P.follows .mixedOrders = true) (hT : TabOK P T) (j : Nat) : CallLe (evFn P T j) (noY (evFn P T j)) := fun f l h r H => by
  have hc := (evFn_sound (base := 0) (W := default) hm hT j f l h r H).1
  unfold noY
  rw [if_pos (callable_lt hc)]
  exact H
theorem evok_all {P : Program} {T : FuncId → Option AFunc} (hm : P.follows .mixedOrders = true) (hT : TabOK P T) {b : Nat} {ps : List Nat} {tm : List AV} {asg body : ACode} : ∀ (evs : List Evt), (∀ c ∈ evs, EvOK P T b ps tm asg body c) →
    ∃ K, ∀ k j, K ≤ k → K ≤ j → EvC evs (withY (noY (evFn P T j)) b (rndH ps tm (evC P (noY (evFn P T j)) k asg) (evC P (noY (evFn P T j)) k body)))
  | [], _ => ⟨0, fun _ _ _ _ c hc => by cases hc⟩
  | c :: evs, H => by
    obtain ⟨K, hK⟩ := evok_all hm hT evs (fun d hd => H d (by simp [hd]))
    have hc : ∃ L, ∀ k j, L ≤ k → L ≤ j → withY (noY (evFn P T j)) b (rndH ps tm (evC P (noY (evFn P T j)) k asg) (evC P (noY (evFn P T j)) k body)) c.1 c.2.1 c.2.2.1 = some c.2.2.2 := by
      rcases H c (by simp) with ⟨hlt, L, hL⟩ | ⟨hb, hlen, tm1, h', tm2, h1, ⟨L1, hL1⟩, ⟨L2, hL2⟩, hr⟩
      · refine ⟨L, fun k j hk hj => ?_⟩
        unfold withY
        rw [if_neg (by intro e; rw [e] at hlt; exact absurd hlt (Nat.not_lt.2 (Nat.le_add_right _ _)))]
        exact noY_of hm hT j _ _ _ _ (hL j hj)
      · refine ⟨L1 + L2, fun k j hk hj => ?_⟩
        unfold withY rndH
        rw [if_pos hb, if_pos hlen, evC_mono_g k _ _ (noY_of hm hT j) k _ _ _ _ (Nat.le_refl k) (hL1 k j (by omega) (by omega))]
        simp only
        rw [evC_mono_g k _ _ (noY_of hm hT j) k _ _ _ _ (Nat.le_refl k) (hL2 k j (by omega) (by omega))]
        rw [hr]
    obtain ⟨L, hL⟩ := hc
    refine ⟨K + L, fun k j hk hj d hd => ?_⟩
    rcases List.mem_cons.1 hd with rfl | hd
    · exact hL k j (by omega) (by omega)
    · exact hK k j (by omega) (by omega) d hd
/-- A loop over a function: the iterator's walk, and each round's. -/
theorem Run.rangeF {P : Program} {T : FuncId → Option AFunc} (hm : P.follows .mixedOrders = true) (hT : TabOK P T) {f : Operand} {ps : List Nat} {asg body : ACode} {tm : List AV} {h : Heap} {gf : FuncId} {cap : List AV} {nt : Nat} {itb : ACode}
    (hf : evO tm f = some (.fn (.func gf) [] cap)) (hp : prepFn P gf = some (.code nt [] itb)) (evs : List Evt) {e : Ex} {tm' : List AV} {h2 : Heap} (he : e = .ret ∨ e = .normal)
    (hit : RunU P (EvC evs) itb (.yl h.length :: cap ++ List.replicate (nt - (cap.length + 1)) (.s undef)) (h ++ [loopBlk]) (e, tm', h2)) (hev : ∀ c ∈ evs, EvOK P T h.length ps tm asg body c) :
    Run P T (.rangeF f ps asg body) tm h (.normal, tm, h2) := by
  obtain ⟨K, hK⟩ := hit
  obtain ⟨L, hL⟩ := evok_all hm hT evs hev
  refine ⟨K + L + 1, fun k j hk hj => ?_⟩
  obtain ⟨k, rfl⟩ : ∃ k', k = k' + 1 := ⟨k - 1, by omega⟩
  simp only [evC, hf, hp]
  rw [hK _ (hL k j (by omega) (by omega)) k (by omega)]
  rcases he with rfl | rfl <;> rfl
end Go.Proofs.YtdgnddidibpilaaDoor.AS
end
section
/- Numbers as few bytes: the plain law of them, with no program in sight. -/
namespace Go.Proofs.YtdgnddidibpilaaDoor.AS.V
open Go Go.RowKit
set_option linter.unusedVariables false

def bt (s : ByteArray) (i : Int) : Int := if h : i.toNat < s.size then ((s[i.toNat]'h).toNat : Int) else 0
def bytesOf (s : ByteArray) : List Int := s.data.toList.map fun b => (b.toNat : Int)
theorem data_length (s : ByteArray) : s.data.toList.length = s.size := by rw [Array.length_toList]; rfl
/-! numbers of a kind -/
theorem wf_u64 {n : Int} (h : (Lit.int .u64 n).wf = true) : 0 ≤ n ∧ n ≤ 18446744073709551615 := by
  simp only [Lit.wf, IntKind.min, IntKind.max, IntKind.signed, IntKind.bits, Bool.and_eq_true] at h; simpa using h
theorem wf_u32 {n : Int} (h : (Lit.int .u32 n).wf = true) : 0 ≤ n ∧ n ≤ 4294967295 := by
  simp only [Lit.wf, IntKind.min, IntKind.max, IntKind.signed, IntKind.bits, Bool.and_eq_true] at h; simpa using h
theorem wf_u8 {n : Int} (h : (Lit.int .u8 n).wf = true) : 0 ≤ n ∧ n ≤ 255 := by
  simp only [Lit.wf, IntKind.min, IntKind.max, IntKind.signed, IntKind.bits, Bool.and_eq_true] at h; simpa using h
theorem wf_i64 {n : Int} (h : (Lit.int .i64 n).wf = true) : -9223372036854775808 ≤ n ∧ n ≤ 9223372036854775807 := by
  simp only [Lit.wf, IntKind.min, IntKind.max, IntKind.signed, IntKind.bits, Bool.and_eq_true] at h; simpa using h
theorem wf_i32 {n : Int} (h : (Lit.int .i32 n).wf = true) : -2147483648 ≤ n ∧ n ≤ 2147483647 := by
  simp only [Lit.wf, IntKind.min, IntKind.max, IntKind.signed, IntKind.bits, Bool.and_eq_true] at h; simpa using h
theorem w64 {n : Int} (h0 : -9223372036854775808 ≤ n) (h1 : n ≤ 9223372036854775807) : wrap64 n = n := by unfold wrap64; omega
theorem wu64' (n : Int) : IntKind.u64.wrap n = n % 18446744073709551616 := by
  unfold IntKind.wrap
  simp only [IntKind.bits, IntKind.signed, Bool.false_and]
  exact if_neg (by decide)

theorem wu64 {n : Int} (h0 : 0 ≤ n) (h1 : n ≤ 18446744073709551615) : IntKind.u64.wrap n = n := by rw [wu64']; omega

/-! bytes and lists -/
theorem bytesOf_length (s : ByteArray) : (bytesOf s).length = s.size := by simp only [bytesOf, List.length_map, Array.length_toList]; rfl
theorem bytesOf_get (s : ByteArray) (i : Nat) (h : i < s.size) : (bytesOf s)[i]'(by rw [bytesOf_length]; exact h) = bt s (i : Int) := by
  unfold bt
  rw [dif_pos (by simpa using h)]
  simp [bytesOf]
  rfl
theorem bytesOf_range (s : ByteArray) : ∀ c ∈ bytesOf s, 0 ≤ c ∧ c ≤ 255 := by
  intro c hc
  simp only [bytesOf, List.mem_map] at hc
  obtain ⟨b, _, rfl⟩ := hc
  have := b.toNat_lt
  omega
theorem strOf_bytesOf (s : ByteArray) : strOfNums (bytesOf s) = s := by
  unfold strOfNums bytesOf
  rw [List.map_map]
  have : (fun n : Int => UInt8.ofNat n.toNat) ∘ (fun b : UInt8 => (b.toNat : Int)) = id := by
    funext b; simp
  rw [this]; simp
theorem bytesOf_strOf {l : List Int} (h : ∀ c ∈ l, 0 ≤ c ∧ c ≤ 255) : bytesOf (strOfNums l) = l := by
  unfold strOfNums bytesOf
  simp only [List.map_map]
  conv => rhs; rw [← List.map_id l]
  apply List.map_congr_left
  intro c hc
  have := h c hc
  simp only [Function.comp, UInt8.toNat_ofNat', id]
  omega
theorem strOf_append (a b : List Int) : strOfNums (a ++ b) = strOfNums a ++ strOfNums b := by
  apply ByteArray.ext
  simp [strOfNums]
theorem bytesOf_append (a b : ByteArray) : bytesOf (a ++ b) = bytesOf a ++ bytesOf b := by
  simp [bytesOf]
theorem bytesOf_inj {a b : ByteArray} (h : bytesOf a = bytesOf b) : a = b := by
  rw [← strOf_bytesOf a, h, strOf_bytesOf]
theorem toList_inj {a b : ByteArray} (h : a.toList = b.toList) : a = b := by
  rw [Lib.toList_data, Lib.toList_data] at h
  apply ByteArray.ext; exact Array.toList_inj.mp h
theorem empty_toList : (⟨#[]⟩ : ByteArray).toList = [] := by rw [Lib.toList_data]
theorem bytesOf_extract (s : ByteArray) (i j : Nat) (h : j ≤ s.size) : bytesOf (s.extract i j) = ((bytesOf s).take j).drop i := by
  simp only [bytesOf, ByteArray.data_extract, Array.toList_extract, List.extract_eq_take_drop, List.map_take, List.map_drop]
  rw [List.take_drop]
  by_cases hi : i ≤ j
  · rw [Nat.add_sub_cancel' hi]
  · rw [List.drop_eq_nil_of_le (by simp; omega), List.drop_eq_nil_of_le (by simp; omega)]
theorem drop_cons_get {α : Type} (l : List α) (i : Nat) (h : i < l.length) : l.drop i = l[i] :: l.drop (i + 1) := List.drop_eq_getElem_cons h
theorem bytesOf_drop_cons (s : ByteArray) (i : Nat) (h : i < s.size) : (bytesOf s).drop i = bt s (i : Int) :: (bytesOf s).drop (i + 1) := by
  rw [drop_cons_get _ i (by rw [bytesOf_length]; exact h), bytesOf_get s i h]
theorem extract_eq_strOf (s : ByteArray) (i : Nat) (h : i ≤ s.size) : s.extract i s.size = strOfNums ((bytesOf s).drop i) := by
  apply bytesOf_inj
  rw [bytesOf_strOf (fun c hc => bytesOf_range s c (List.mem_of_mem_drop hc)), bytesOf_extract s i s.size (Nat.le_refl _), List.take_of_length_le (by rw [bytesOf_length]; exact Nat.le_refl _)]

/-! a number's bytes -/
def lebF : Nat → Int → List Int
  | 0, n => [n]
  | f + 1, n => if n < 128 then [n] else (n % 128 + 128) :: lebF f (n / 128)
def leb (n : Int) : List Int := lebF 10 n

theorem lebF_more : ∀ (f : Nat) (n : Int), 0 ≤ n → n < 128 ^ (f + 1) → lebF (f + 1) n = lebF f n := by
  intro f
  induction f with
  | zero =>
    intro n h0 h1
    simp only [lebF]
    rw [if_pos (by simpa using h1)]
  | succ f ih =>
    intro n h0 h1
    have e1 : lebF (f + 1 + 1) n = if n < 128 then [n] else (n % 128 + 128) :: lebF (f + 1) (n / 128) := rfl
    have e2 : lebF (f + 1) n = if n < 128 then [n] else (n % 128 + 128) :: lebF f (n / 128) := rfl
    rw [e1, e2]
    by_cases h : n < 128
    · rw [if_pos h, if_pos h]
    · rw [if_neg h, if_neg h, ih (n / 128) (by omega) ?_]
      rw [Int.pow_succ] at h1
      omega
theorem leb_lt {n : Int} (h : n < 128) : leb n = [n] := by simp [leb, lebF, h]
theorem leb_ge {n : Int} (h : 128 ≤ n) (h1 : n ≤ 18446744073709551615) : leb n = (n % 128 + 128) :: leb (n / 128) := by
  unfold leb
  rw [lebF, if_neg (by omega), ← lebF_more 9 (n / 128) (by omega) (by simp; omega)]
theorem leb_ne (n : Int) : leb n ≠ [] := by unfold leb lebF; split <;> simp

theorem leb_ind {P : Int → Prop} (small : ∀ n, 0 ≤ n → n < 128 → P n) (big : ∀ n, 128 ≤ n → n ≤ 18446744073709551615 → P (n / 128) → P n) : ∀ n, 0 ≤ n → n ≤ 18446744073709551615 → P n := by
  have key : ∀ (m : Nat) (n : Int), n.toNat < m → 0 ≤ n → n ≤ 18446744073709551615 → P n := by
    intro m
    induction m with
    | zero => intro n h; omega
    | succ m ih =>
      intro n h h0 h1
      by_cases hs : n < 128
      · exact small n h0 hs
      · exact big n (by omega) h1 (ih (n / 128) (by omega) (by omega) (by omega))
  exact fun n => key (n.toNat + 1) n (by omega)

theorem leb_range : ∀ n, 0 ≤ n → n ≤ 18446744073709551615 → ∀ c ∈ leb n, 0 ≤ c ∧ c ≤ 255 := by
  apply leb_ind
  · intro n h0 h c hc
    rw [leb_lt h] at hc
    simp at hc; omega
  · intro n h h1 ih c hc
    rw [leb_ge h h1] at hc
    rcases List.mem_cons.mp hc with rfl | hc
    · omega
    · exact ih c hc
theorem leb_length_bits : ∀ n, 0 ≤ n → n ≤ 18446744073709551615 → ((leb n).length : Int) = ((max 1 (Lib.bitLen n.toNat) + 6) / 7 : Nat) := by
  apply leb_ind
  · intro n h0 h
    rw [leb_lt h]
    have := Lib.bitLen_le n.toNat 7 (by decide) (by omega)
    simp; omega
  · intro n h h1 ih
    rw [leb_ge h h1]
    have e := Lib.bitLen_shift 7 n.toNat (by omega) (by omega)
    have d : n.toNat / 2 ^ 7 = (n / 128).toNat := by omega
    rw [d] at e
    have p : 1 ≤ Lib.bitLen (n / 128).toNat := by
      have := Lib.bitLen_half (n / 128).toNat (by omega) (by omega)
      omega
    simp only [List.length_cons, Int.natCast_add, ih]
    omega
theorem bitLen_le64 (n : Nat) (h : n < 2 ^ 64) : Lib.bitLen n ≤ 64 := Lib.bitLen_le n 64 (by decide) h
theorem leb_length_le {n : Int} (h0 : 0 ≤ n) (h1 : n ≤ 18446744073709551615) : 1 ≤ (leb n).length ∧ (leb n).length ≤ 10 := by
  have e := leb_length_bits n h0 h1
  have := bitLen_le64 n.toNat (by omega)
  omega
theorem leb_length_few : ∀ n, 0 ≤ n → n ≤ 18446744073709551615 → ∀ k : Nat, (leb n).length ≤ k + 1 ↔ n < 128 ^ (k + 1) := by
  apply leb_ind (P := fun n => ∀ k : Nat, (leb n).length ≤ k + 1 ↔ n < 128 ^ (k + 1))
  · intro n h0 h k
    rw [leb_lt h]
    have : (128 : Int) ^ (k + 1) ≥ 128 := by
      rw [Int.pow_succ]
      have : (0 : Int) < 128 ^ k := Int.pow_pos (by decide)
      omega
    simp; omega
  · intro n h h1 ih k
    rw [leb_ge h h1]
    cases k with
    | zero =>
      have := (leb_length_le (n := n / 128) (by omega) (by omega)).1
      rw [show ((128 : Int) ^ (0 + 1)) = 128 from rfl]
      simp only [List.length_cons]; omega
    | succ k =>
      have := ih k
      rw [Int.pow_succ]
      simp only [List.length_cons, Nat.add_le_add_iff_right]
      rw [this]
      constructor <;> intro h <;> omega
theorem leb_length_mono {a b : Int} (h0 : 0 ≤ a) (h : a ≤ b) (h1 : b ≤ 18446744073709551615) : (leb a).length ≤ (leb b).length := by
  obtain ⟨k, hk⟩ : ∃ k, (leb b).length = k + 1 := ⟨(leb b).length - 1, by have := (leb_length_le (n := b) (by omega) h1).1; omega⟩
  rw [hk, leb_length_few a h0 (by omega) k]
  have := (leb_length_few b (by omega) h1 k).mp (by omega)
  omega

/-! what bytes begin with -/
def G : List Int → Nat → Int → Int × List Int × Int
  | [], _, _ => (0, [], 5)
  | c :: r, i, acc =>
    if i = 9 ∧ c > 1 then (0, [], 7)
    else if c ≥ 128 then G r (i + 1) (acc + (c - 128) * 128 ^ i)
    else if c = 0 ∧ 0 < i then (0, [], 7)
    else (acc + c * 128 ^ i, r, 0)

theorem p128_pos (i : Nat) : (0 : Int) < 128 ^ i := Int.pow_pos (by decide)
/-- What is put is got, whatever stands behind. -/
theorem G_leb : ∀ n, 0 ≤ n → n ≤ 18446744073709551615 → ∀ (i : Nat) (acc : Int) (r : List Int), i ≤ 9 → n * 128 ^ i ≤ 18446744073709551615 → (0 < n ∨ i = 0) → G (leb n ++ r) i acc = (acc + n * 128 ^ i, r, 0) := by
  apply leb_ind (P := fun n => ∀ (i : Nat) (acc : Int) (r : List Int), i ≤ 9 → n * 128 ^ i ≤ 18446744073709551615 → (0 < n ∨ i = 0) → G (leb n ++ r) i acc = (acc + n * 128 ^ i, r, 0))
  · intro n h0 h i acc r hi hb hp
    rw [leb_lt h]
    simp only [List.singleton_append, G]
    have : ¬ (i = 9 ∧ n > 1) := by
      rintro ⟨rfl, h2⟩
      simp at hb; omega
    rw [if_neg this, if_neg (by omega), if_neg (by omega)]
  · intro n h h1 ih i acc r hi hb hp
    rw [leb_ge h h1]
    simp only [List.cons_append, G]
    have hw := p128_pos i
    have i9 : i < 9 := by
      rcases Nat.lt_or_ge i 9 with h9 | h9
      · exact h9
      · obtain rfl : i = 9 := by omega
        simp at hb; omega
    have e : n * 128 ^ i = n % 128 * 128 ^ i + n / 128 * 128 ^ (i + 1) := by
      conv => lhs; rw [← Int.emod_add_mul_ediv n 128]
      rw [Int.pow_succ, Int.add_mul]
      congr 1
      rw [Int.mul_comm 128 (n / 128), Int.mul_assoc, Int.mul_comm 128]
    have e2 : 0 ≤ n % 128 * 128 ^ i := Int.mul_nonneg (by omega) (by omega)
    rw [if_neg (by omega), if_pos (by omega), ih (i + 1) _ r (by omega) (by omega) (.inl (by omega))]
    rw [show n % 128 + 128 - 128 = n % 128 by omega, e]
    simp only [Prod.mk.injEq, and_true]
    omega
/-- What is got has its bytes. -/
theorem G_ok : ∀ (L : List Int) (i : Nat) (acc : Int) (n : Int) (r : List Int), (∀ c ∈ L, 0 ≤ c ∧ c ≤ 255) → i ≤ 9 → G L i acc = (n, r, 0) →
    ∃ m, L = leb m ++ r ∧ n = acc + m * 128 ^ i ∧ 0 ≤ m ∧ m < 2 ^ (64 - 7 * i) ∧ (0 < m ∨ i = 0) := by
  intro L
  induction L with
  | nil => intro i acc n r _ _ h; simp [G] at h
  | cons c L ih =>
    intro i acc n r hr hi h
    have hc := hr c (List.mem_cons_self ..)
    rw [G] at h
    split at h
    · simp at h
    · rename_i h9
      split at h
      · rename_i hb
        have i9 : i < 9 := by
          rcases Nat.lt_or_ge i 9 with h' | h'
          · exact h'
          · exact absurd ⟨by omega, by omega⟩ h9
        obtain ⟨m, hL, hn, hm0, hm1, hm2⟩ := ih (i + 1) _ n r (fun c hc => hr c (List.mem_cons_of_mem _ hc)) (by omega) h
        have hm : 0 < m := by omega
        have hpow : (2 : Int) ^ (64 - 7 * i) = 128 * 2 ^ (64 - 7 * (i + 1)) := by
          rw [show 64 - 7 * i = 64 - 7 * (i + 1) + 7 by omega, Int.pow_add]
          omega
        have hle : (2 : Int) ^ (64 - 7 * i) ≤ 2 ^ 64 := by
          have h1 : (2 : Nat) ^ (64 - 7 * i) ≤ 2 ^ 64 := Nat.pow_le_pow_right (by decide) (by omega)
          exact_mod_cast h1
        have hlt : c - 128 + 128 * m < 2 ^ (64 - 7 * i) := by omega
        refine ⟨c - 128 + 128 * m, ?_, ?_, by omega, hlt, .inl (by omega)⟩
        · rw [leb_ge (by omega) (by omega), hL, show (c - 128 + 128 * m) % 128 + 128 = c by omega, show (c - 128 + 128 * m) / 128 = m by omega]
          rfl
        · rw [hn, Int.pow_succ, Int.add_mul, Int.add_assoc]
          congr 2
          rw [Int.mul_comm 128 m, Int.mul_assoc, Int.mul_comm 128]
      · split at h
        · simp at h
        · rename_i h1 h2
          simp only [Prod.mk.injEq, and_true] at h
          obtain ⟨rfl, rfl⟩ := h
          refine ⟨c, by rw [leb_lt (by omega)]; rfl, rfl, by omega, ?_, by omega⟩
          rcases Nat.lt_or_ge i 9 with h' | h'
          · have h1 : (2 : Nat) ^ 7 ≤ 2 ^ (64 - 7 * i) := Nat.pow_le_pow_right (by decide) (by omega)
            have h1 : (2 : Int) ^ 7 ≤ 2 ^ (64 - 7 * i) := by exact_mod_cast h1
            omega
          · obtain rfl : i = 9 := by omega
            simp; omega
theorem G_err : ∀ (L : List Int) (i : Nat) (acc : Int), (G L i acc).2.2 = 0 ∨ G L i acc = (0, [], 5) ∨ G L i acc = (0, [], 7) := by
  intro L
  induction L with
  | nil => intro i acc; exact .inr (.inl rfl)
  | cons c L ih =>
    intro i acc
    rw [G]
    split
    · exact .inr (.inr rfl)
    · split
      · exact ih _ _
      · split
        · exact .inr (.inr rfl)
        · exact .inl rfl
theorem G_rest : ∀ (L : List Int) (i : Nat) (acc : Int), (∀ c ∈ L, 0 ≤ c ∧ c ≤ 255) → ∀ c ∈ (G L i acc).2.1, 0 ≤ c ∧ c ≤ 255 := by
  intro L
  induction L with
  | nil => intro i acc _ c hc; simp [G] at hc
  | cons a L ih =>
    intro i acc hr c hc
    rw [G] at hc
    split at hc
    · simp at hc
    · split at hc
      · exact ih _ _ (fun c hc => hr c (List.mem_cons_of_mem _ hc)) c hc
      · split at hc
        · simp at hc
        · exact hr c (List.mem_cons_of_mem _ hc)
theorem G_shorter : ∀ (L : List Int) (i : Nat) (acc : Int), (G L i acc).2.1.length ≤ L.length := by
  intro L
  induction L with
  | nil => intro i acc; simp [G]
  | cons a L ih =>
    intro i acc
    rw [G]
    split
    · simp
    · split
      · have := ih (i + 1) (acc + (a - 128) * 128 ^ i); simp; omega
      · split <;> simp

/-- A number, and what is behind it, as text. -/
def gets (s : ByteArray) : Int × ByteArray × Int := ((G (bytesOf s) 0 0).1, strOfNums (G (bytesOf s) 0 0).2.1, (G (bytesOf s) 0 0).2.2)
def puts (n : Int) : ByteArray := strOfNums (leb n)
theorem bytesOf_puts {n : Int} (h0 : 0 ≤ n) (h1 : n ≤ 18446744073709551615) : bytesOf (puts n) = leb n := bytesOf_strOf (leb_range n h0 h1)
theorem puts_size (n : Int) : (puts n).size = (leb n).length := strOfNums_size _
theorem gets_puts {n : Int} (h0 : 0 ≤ n) (h1 : n ≤ 18446744073709551615) (s : ByteArray) : gets (puts n ++ s) = (n, s, 0) := by
  unfold gets
  rw [bytesOf_append, bytesOf_puts h0 h1, G_leb n h0 h1 0 0 (bytesOf s) (by omega) (by simpa using h1) (.inr rfl), strOf_bytesOf]
  simp
theorem gets_ok {s r : ByteArray} {n : Int} (h : gets s = (n, r, 0)) : s = puts n ++ r ∧ 0 ≤ n ∧ n ≤ 18446744073709551615 := by
  unfold gets at h
  simp only [Prod.mk.injEq] at h
  obtain ⟨h1, h2, h3⟩ := h
  have hg : G (bytesOf s) 0 0 = ((G (bytesOf s) 0 0).1, (G (bytesOf s) 0 0).2.1, 0) := Prod.ext rfl (Prod.ext rfl h3)
  obtain ⟨m, hL, hn, hm0, hm1, _⟩ := G_ok _ 0 0 _ _ (bytesOf_range s) (by omega) hg
  have e : n = m := by rw [← h1, hn]; simp
  subst e
  refine ⟨?_, hm0, by simp at hm1; omega⟩
  rw [← h2, puts, ← strOf_append, ← hL, strOf_bytesOf]
theorem gets_err (s : ByteArray) : (gets s).2.2 = 0 ∨ gets s = (0, ⟨#[]⟩, 5) ∨ gets s = (0, ⟨#[]⟩, 7) := by
  unfold gets
  rcases G_err (bytesOf s) 0 0 with h | h | h
  · exact .inl h
  · refine .inr (.inl ?_); rw [h]; rfl
  · refine .inr (.inr ?_); rw [h]; rfl
theorem gets_shorter (s : ByteArray) : (gets s).2.1.size ≤ s.size := by
  have := G_shorter (bytesOf s) 0 0
  unfold gets
  rw [strOfNums_size, ← bytesOf_length s]
  exact this

end Go.Proofs.YtdgnddidibpilaaDoor.AS.V
end
