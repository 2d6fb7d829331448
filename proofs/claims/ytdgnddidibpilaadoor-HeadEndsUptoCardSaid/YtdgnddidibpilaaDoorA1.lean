/- Of our own: an abstract machine beside the model, its soundness, and walks of the program in it. -/
import Derived.Below
import Derived.Orders
import Derived.ScopeJumps
import Derived.KernelRfl
import Derived.Deep.AppendSrc
import Derived.Laws.IdiomCopy
import Derived.Laws.NewBlocks
import Derived.Laws.BytesArg
set_option linter.unusedSimpArgs false
set_option linter.unusedVariables false
section
set_option autoImplicit false
namespace Go.Proofs.YtdgnddidibpilaaDoor.AS
open Go Go.RowKit

/-- Where an abstract block's version lies. -/
structure Place where
  blk : Nat
  off : Nat
  e : TypeId
  sz : Nat
  rw : Bool

abbrev PM := Nat → Nat → Option Place

/-- Abstract values: blocks are numbers of an abstract heap, each with a version that an append raises. -/
inductive AV where
  | s (v : Value)
  | pt (b ver off : Nat)
  | sl (b ver off len sz : Nat)
  | fn (f : Fn) (fst cap : List AV)
  | ag (l : List AV)
  | tp (l : List AV)
  | yl (b : Nat)
  | any

structure Blk where
  ver : Nat
  e : TypeId
  sz : Nat
  rw : Bool
  cells : List AV

abbrev Heap := List Blk

mutual
def RV (ρ : PM) (w : World) : AV → Value → Prop
  | .s x, v => v = x
  | .pt b ver off, v => ∃ p, ρ b ver = some p ∧ v = .pointer (some ⟨p.blk, p.off + off, none⟩)
  | .sl b ver off len sz, v => ∃ p cap a, (ρ b ver = some p ∧ p.sz = sz) ∧ v = .slice (some a) len cap ∧ len ≤ cap ∧ (cap = 0 ∧ a.spot = none ∨ a = ⟨p.blk, p.off + off, none⟩) ∧
      (p.rw = true → cap ≤ maxLen ∧ ∃ n, w.shape? p.blk = some (p.e, n) ∧ p.off + off + cap * p.sz ≤ n)
  | .fn f x y, v => ∃ xs ys, v = .func f xs ys ∧ RVs ρ w x xs.toList ∧ RVs ρ w y ys.toList
  | .ag l, v => ∃ xs : Array Value, v = .agg xs ∧ RVs ρ w l xs.toList
  | .tp l, v => ∃ xs : Array Value, v = .tuple xs ∧ RVs ρ w l xs.toList
  | .yl b, v => ∃ p, ρ b 0 = some p ∧ v = .func (.yield p.blk) #[] #[]
  | .any, _ => True
def RVs (ρ : PM) (w : World) : List AV → List Value → Prop
  | [], [] => True
  | x :: l, v :: vs => RV ρ w x v ∧ RVs ρ w l vs
  | [], _ :: _ => False
  | _ :: _, [] => False
end

def Ext (ρ ρ' : PM) : Prop := ∀ b v p, ρ b v = some p → ρ' b v = some p
/-- What is no cells. -/
def noCells : Obj → Bool
  | .cells .. => false
  | _ => true
structure Keep (w w' : World) : Prop where
  shape : ∀ B s, w.shape? B = some s → w'.shape? B = some s
  size : w.heap.size ≤ w'.heap.size
  other : ∀ (B : Nat) (o : Obj), w.heap[B]? = some o → noCells o = true → w'.heap[B]? = some o

theorem Ext.refl (ρ : PM) : Ext ρ ρ := fun _ _ _ h => h
theorem Ext.trans {a b c : PM} (h : Ext a b) (k : Ext b c) : Ext a c := fun _ _ _ x => k _ _ _ (h _ _ _ x)
theorem Keep.refl (w : World) : Keep w w := ⟨fun _ _ h => h, Nat.le_refl _, fun _ _ h _ => h⟩
theorem Keep.trans {a b c : World} (h : Keep a b) (k : Keep b c) : Keep a c := ⟨fun _ _ x => k.shape _ _ (h.shape _ _ x), Nat.le_trans h.size k.size, fun _ _ x y => k.other _ _ (h.other _ _ x y) y⟩
theorem Keep.drew (w : World) (d : Nat) : Keep w { w with drawn := d } := ⟨fun _ _ h => h, Nat.le_refl _, fun _ _ h _ => h⟩

mutual
theorem RV_mono {ρ ρ' : PM} {w w' : World} (hx : Ext ρ ρ') (hk : Keep w w') : ∀ (x : AV) (v : Value), RV ρ w x v → RV ρ' w' x v
  | .s _, _, h => h
  | .pt _ _ _, _, ⟨p, h1, h2⟩ => ⟨p, hx _ _ _ h1, h2⟩
  | .sl _ _ _ _ _, _, ⟨p, cap, a, ⟨h1, h1'⟩, h2, h3, h4, h5⟩ => ⟨p, cap, a, ⟨hx _ _ _ h1, h1'⟩, h2, h3, h4, fun hr => let ⟨h6, n, h7, h8⟩ := h5 hr; ⟨h6, n, hk.shape _ _ h7, h8⟩⟩
  | .fn _ x y, _, ⟨xs, ys, h1, h2, h3⟩ => ⟨xs, ys, h1, RVs_mono hx hk x _ h2, RVs_mono hx hk y _ h3⟩
  | .ag l, _, ⟨xs, h1, h2⟩ => ⟨xs, h1, RVs_mono hx hk l _ h2⟩
  | .tp l, _, ⟨xs, h1, h2⟩ => ⟨xs, h1, RVs_mono hx hk l _ h2⟩
  | .yl _, _, ⟨p, h1, h2⟩ => ⟨p, hx _ _ _ h1, h2⟩
  | .any, _, _ => trivial
theorem RVs_mono {ρ ρ' : PM} {w w' : World} (hx : Ext ρ ρ') (hk : Keep w w') : ∀ (l : List AV) (vs : List Value), RVs ρ w l vs → RVs ρ' w' l vs
  | [], [], _ => trivial
  | x :: l, v :: vs, ⟨h1, h2⟩ => ⟨RV_mono hx hk x v h1, RVs_mono hx hk l vs h2⟩
  | [], _ :: _, h => h.elim
  | _ :: _, [], h => h.elim
end

section lists
variable {ρ : PM} {w : World}
theorem RVs_length : ∀ {l : List AV} {vs : List Value}, RVs ρ w l vs → l.length = vs.length
  | [], [], _ => rfl
  | _ :: _, _ :: _, ⟨_, h⟩ => by simp [RVs_length h]
theorem RVs_get : ∀ {l : List AV} {vs : List Value}, RVs ρ w l vs → ∀ {i : Nat} {x : AV}, l[i]? = some x → ∃ v, vs[i]? = some v ∧ RV ρ w x v
  | x :: l, v :: vs, ⟨h1, h2⟩, 0, y, hy => by simp at hy; subst hy; exact ⟨v, rfl, h1⟩
  | x :: l, v :: vs, ⟨h1, h2⟩, i + 1, y, hy => by simp at hy ⊢; exact RVs_get h2 hy
  | [], _, _, i, y, hy => by simp at hy
  | _ :: _, [], h, _, _, _ => h.elim
theorem RVs_get' : ∀ {l : List AV} {vs : List Value}, RVs ρ w l vs → ∀ {i : Nat} {v : Value}, vs[i]? = some v → ∃ x, l[i]? = some x ∧ RV ρ w x v
  | x :: l, v :: vs, ⟨h1, h2⟩, 0, y, hy => by simp at hy; subst hy; exact ⟨x, rfl, h1⟩
  | x :: l, v :: vs, ⟨h1, h2⟩, i + 1, y, hy => by simp at hy ⊢; exact RVs_get' h2 hy
  | _, [], _, i, y, hy => by simp at hy
  | [], _ :: _, h, _, _, _ => h.elim
theorem RVs_set : ∀ {l : List AV} {vs : List Value}, RVs ρ w l vs → ∀ {i : Nat} {x : AV} {v : Value}, RV ρ w x v → RVs ρ w (l.set i x) (vs.set i v)
  | [], [], _, i, x, v, _ => by simp [RVs]
  | y :: l, u :: vs, ⟨h1, h2⟩, 0, x, v, hx => ⟨hx, h2⟩
  | y :: l, u :: vs, ⟨h1, h2⟩, i + 1, x, v, hx => ⟨h1, RVs_set h2 hx⟩
theorem RVs_append {l' : List AV} {vs' : List Value} (h' : RVs ρ w l' vs') : ∀ {l : List AV} {vs : List Value}, RVs ρ w l vs → RVs ρ w (l ++ l') (vs ++ vs')
  | [], [], _ => h'
  | _ :: _, _ :: _, ⟨h1, h2⟩ => ⟨h1, RVs_append h' h2⟩
  | [], _ :: _, h => h.elim
  | _ :: _, [], h => h.elim
theorem RVs_take : ∀ {l : List AV} {vs : List Value}, RVs ρ w l vs → ∀ (n : Nat), RVs ρ w (l.take n) (vs.take n)
  | [], [], _, n => by simp [RVs]
  | _ :: _, _ :: _, ⟨h1, h2⟩, 0 => trivial
  | _ :: _, _ :: _, ⟨h1, h2⟩, n + 1 => ⟨h1, RVs_take h2 n⟩
theorem RVs_drop : ∀ {l : List AV} {vs : List Value}, RVs ρ w l vs → ∀ (n : Nat), RVs ρ w (l.drop n) (vs.drop n)
  | [], [], _, n => by simp [RVs]
  | _ :: _, _ :: _, ⟨h1, h2⟩, 0 => ⟨h1, h2⟩
  | _ :: _, _ :: _, ⟨h1, h2⟩, n + 1 => RVs_drop h2 n
theorem RVs_s : ∀ (vs : List Value), RVs ρ w (vs.map .s) vs
  | [] => trivial
  | _ :: vs => ⟨rfl, RVs_s vs⟩
theorem RVs_any : ∀ (vs : List Value), RVs ρ w (List.replicate vs.length .any) vs
  | [] => trivial
  | _ :: vs => ⟨trivial, RVs_any vs⟩
theorem RVs_of : ∀ {l : List AV} {vs : List Value}, l.length = vs.length → (∀ (i : Nat) (x : AV) (v : Value), l[i]? = some x → vs[i]? = some v → RV ρ w x v) → RVs ρ w l vs
  | [], [], _, _ => trivial
  | x :: l, v :: vs, hl, h => ⟨h 0 x v rfl rfl, RVs_of (by simpa using hl) fun i y u hy hu => h (i + 1) y u (by simpa using hy) (by simpa using hu)⟩
end lists

/-- Tables by their names. -/
def tabWin : List Int := [8364, 65533, 8218, 402, 8222, 8230, 8224, 8225, 710, 8240, 352, 8249, 338, 65533, 381, 65533, 65533, 8216, 8217, 8220, 8221, 8226, 8211, 8212, 732, 8482, 353, 8250, 339, 65533, 382, 376]
def tabFirst : List Int := List.replicate 128 240 ++ List.replicate 66 241 ++ List.replicate 30 2 ++ [19] ++ List.replicate 12 3 ++ [35, 3, 3, 52, 4, 4, 4, 68] ++ List.replicate 11 241
def tabAcc : List Int := [128, 191, 160, 191, 128, 159, 144, 191, 128, 143] ++ List.replicate 22 0
def known : String → Option (List Value)
  | "unicode/utf8.first" => some (tabFirst.map (.int .u8))
  | "unicode/utf8.acceptRanges" => some (tabAcc.map (.int .u8))
  | _ => none
def globC (P : Program) (g : Nat) : Option (List Value) := (P.globals[g]?).bind fun x => known x.name
/-- How many cells a block has. -/
def shN (w : World) (b : Nat) : Nat := match w.shape? b with
  | some s => s.2
  | none => 0
theorem shN_eq {w w' : World} {b : Nat} {s : TypeId × Nat} (h : w.shape? b = some s) (h' : w'.shape? b = some s) : shN w' b = shN w b := by unfold shN; rw [h, h']
theorem lt_shN {w : World} {b o : Nat} (h : (w.cell? ⟨b, o, none⟩).isSome = true) : o < shN w b := by
  unfold World.cell? at h
  unfold shN World.shape?
  simp only at h ⊢
  split at h
  · rename_i c e fr hc
    simp at h
    exact h
  · simp at h
/-- Tables of the program's that stand in the world from the start on. -/
def Laid (P : Program) (base : Nat) (W : World) : Prop := ∀ g C, globC P g = some C → g < base ∧ ∀ j v, C[j]? = some v → W.cell? ⟨g, j, none⟩ = some v
/-- The abstract heap stands for the world's. -/
structure HR (P : Program) (base : Nat) (W : World) (ρ : PM) (h : Heap) (w : World) : Prop where
  below : Below base W w
  hbase : base ≤ w.heap.size
  fresh : ∀ b ver, h.length ≤ b → ρ b ver = none
  blk : ∀ b k, h[b]? = some k → ∃ p, ρ b k.ver = some p ∧ (∀ v, k.ver < v → ρ b v = none) ∧ p.e = k.e ∧ p.sz = k.sz ∧ p.rw = k.rw ∧
    p.blk < w.heap.size ∧
    (∀ j x, k.cells[j]? = some x → ∃ v, w.cell? ⟨p.blk, p.off + j, none⟩ = some v ∧ RV ρ w x v) ∧
    (k.rw = true → base ≤ p.blk ∧ (∀ o, o < shN w p.blk → w.frozen? ⟨p.blk, o, none⟩ = false) ∧ (∃ n, w.shape? p.blk = some (k.e, n)) ∧ (∀ i, P.info? k.e = some i → i.size = k.sz) ∧ (k.ver = 0 → p.off = 0))
  inj : ∀ b b' k k' p p', h[b]? = some k → h[b']? = some k' → ρ b k.ver = some p → ρ b' k'.ver = some p' → k.rw = true → p.blk = p'.blk → b = b'
  gl : Laid P base W

/-- The world behind something that leaves all blocks of before as they were. -/
theorem Keep.of_below {w w' : World} (h : Below w.heap.size w w') : Keep w w' := by
  refine ⟨fun B s hs => ?_, h.size, fun B o hB _ => by rw [h.block B (Array.getElem?_eq_some_iff.1 hB).1]; exact hB⟩
  have hB : B < w.heap.size := by
    rcases Nat.lt_or_ge B w.heap.size with h | h
    · exact h
    · simp [World.shape?, Array.getElem?_eq_none h] at hs
  simp only [World.shape?, h.block B hB] at hs ⊢
  exact hs

theorem lt_of_cell {w : World} {a : Addr} {v : Value} (h : w.cell? a = some v) : a.block < w.heap.size := by
  rcases Nat.lt_or_ge a.block w.heap.size with h' | h'
  · exact h'
  · simp [World.cell?, Array.getElem?_eq_none h'] at h

theorem HR.grow {P : Program} {base : Nat} {W : World} {ρ : PM} {h : Heap} {w w' : World} (H : HR P base W ρ h w) (hb : Below w.heap.size w w') : HR P base W ρ h w' := by
  have hk := Keep.of_below hb
  refine ⟨H.below.trans (hb.mono H.hbase), Nat.le_trans H.hbase hb.size, H.fresh, ?_, H.inj, H.gl⟩
  intro b k hbk
  obtain ⟨p, h1, h2, h3, h4, h5, h6, h7, h8⟩ := H.blk b k hbk
  refine ⟨p, h1, h2, h3, h4, h5, Nat.lt_of_lt_of_le h6 hb.size, ?_, ?_⟩
  · intro j x hx
    obtain ⟨v, hv, hr⟩ := h7 j x hx
    exact ⟨v, by rw [hb.cell (p := ⟨p.blk, p.off + j, none⟩) h6]; exact hv, RV_mono (Ext.refl _) hk _ _ hr⟩
  · intro hrw
    obtain ⟨a1, a2, ⟨n, a3⟩, a4⟩ := h8 hrw
    exact ⟨a1, fun o ho => by rw [hb.frozen (p := ⟨p.blk, o, none⟩) h6]; exact a2 o (by rwa [shN_eq a3 (hk.shape _ _ a3)] at ho), ⟨n, hk.shape _ _ a3⟩, a4⟩

theorem HR.drewN {P : Program} {base : Nat} {W : World} {ρ : PM} {h : Heap} {w : World} (H : HR P base W ρ h w) (d : Nat) : HR P base W ρ h { w with drawn := d } :=
  H.grow ⟨rfl, rfl, rfl, Nat.le_refl _, fun _ _ => rfl⟩

def upd (ρ : PM) (b v : Nat) (p : Place) : PM := fun b' v' => if b' = b ∧ v' = v then some p else ρ b' v'
theorem upd_same (ρ : PM) (b v : Nat) (p : Place) : upd ρ b v p b v = some p := by simp [upd]
theorem upd_ext {ρ : PM} {b v : Nat} (p : Place) (h : ρ b v = none) : Ext ρ (upd ρ b v p) := by
  intro b' v' q hq
  unfold upd
  split
  · rename_i hc; obtain ⟨rfl, rfl⟩ := hc; rw [h] at hq; cases hq
  · exact hq

theorem shape_alloc {w : World} (cs : Array Value) (e : TypeId) : (w.alloc (.cells cs e)).shape? w.heap.size = some (e, cs.size) := by
  show (match (w.heap.push (.cells cs e))[w.heap.size]? with | some (.cells c elem _) => some (elem, c.size) | _ => none) = _
  simp
theorem cell_alloc {w : World} (cs : Array Value) (e : TypeId) (j : Nat) : (w.alloc (.cells cs e)).cell? ⟨w.heap.size, j, none⟩ = cs[j]? := by
  show (match (w.heap.push (.cells cs e))[w.heap.size]? with | some (.cells c _ _) => if (none : Option Nat).isSome then none else c[j]? | _ => none) = _
  simp
theorem frozen_alloc {w : World} (cs : Array Value) (e : TypeId) (j : Nat) : (w.alloc (.cells cs e)).frozen? ⟨w.heap.size, j, none⟩ = false := by
  show (match (w.heap.push (.cells cs e))[w.heap.size]? with | some (.cells _ _ (lo, hi)) => decide (lo ≤ j) && decide (j < hi) | _ => false) = _
  simp
theorem below_alloc' (w : World) (o : Obj) : Below w.heap.size w (w.alloc o) := (Below.refl _ _).alloc (Nat.le_refl _) o

/-- A new block. -/
theorem HR.alloc {P : Program} {base : Nat} {W : World} {ρ : PM} {h : Heap} {w : World} (H : HR P base W ρ h w) (cs : Array Value) (l : List AV) (e : TypeId) (sz : Nat)
    (hsz : ∀ i, P.info? e = some i → i.size = sz) (hl : ∀ (j : Nat) (x : AV), l[j]? = some x → ∃ v, cs[j]? = some v ∧ RV ρ w x v) :
    HR P base W (upd ρ h.length 0 ⟨w.heap.size, 0, e, sz, true⟩) (h ++ [⟨0, e, sz, true, l⟩]) (w.alloc (.cells cs e)) ∧
      Ext ρ (upd ρ h.length 0 ⟨w.heap.size, 0, e, sz, true⟩) ∧ Keep w (w.alloc (.cells cs e)) := by
  have hx : Ext ρ (upd ρ h.length 0 ⟨w.heap.size, 0, e, sz, true⟩) := upd_ext _ (H.fresh _ _ (Nat.le_refl _))
  have hb := below_alloc' w (.cells cs e)
  have hk := Keep.of_below hb
  have G := H.grow hb
  refine ⟨⟨G.below, G.hbase, ?_, ?_, ?_, H.gl⟩, hx, hk⟩
  · intro b ver hlen
    simp only [List.length_append, List.length_cons, List.length_nil] at hlen
    unfold upd
    rw [if_neg (by omega)]
    exact H.fresh _ _ (by omega)
  · intro b k hbk
    rcases Nat.lt_or_ge b h.length with hlt | hge
    · rw [List.getElem?_append_left hlt] at hbk
      obtain ⟨p, h1, h2, h3, h4, h5, h6, h7, h8⟩ := G.blk b k hbk
      refine ⟨p, hx _ _ _ h1, ?_, h3, h4, h5, h6, fun j x hj => ?_, h8⟩
      · intro v hv
        unfold upd
        rw [if_neg (by omega)]
        exact h2 v hv
      · obtain ⟨v, hv, hr⟩ := h7 j x hj
        exact ⟨v, hv, RV_mono hx (Keep.refl _) _ _ hr⟩
    · have hbe : b = h.length := by
        have := (List.getElem?_eq_some_iff.1 hbk).1
        simp at this
        omega
      subst hbe
      simp at hbk
      subst hbk
      refine ⟨⟨w.heap.size, 0, e, sz, true⟩, upd_same _ _ _ _, ?_, rfl, rfl, rfl, by simp, ?_, ?_⟩
      · intro v hv
        unfold upd
        rw [if_neg (by simp at hv; omega)]
        exact H.fresh _ _ (Nat.le_refl _)
      · intro j x hj
        obtain ⟨v, hv, hr⟩ := hl j x hj
        refine ⟨v, ?_, RV_mono hx hk _ _ hr⟩
        have := cell_alloc (w := w) cs e (0 + j)
        simp only [Nat.zero_add] at this ⊢
        rw [this, hv]
      · intro _
        exact ⟨H.hbase, fun o _ => frozen_alloc cs e o, ⟨cs.size, shape_alloc cs e⟩, hsz, fun _ => rfl⟩
  · intro b b' k k' p p' hbk hbk' hp hp' hrw heq
    have lt_old : ∀ b k p, h[b]? = some k → ρ b k.ver = some p → p.blk < w.heap.size := by
      intro b k p hb hp
      obtain ⟨q, h1, _, _, _, _, h6, _⟩ := H.blk b k hb
      rw [hp] at h1; cases h1; exact h6
    rcases Nat.lt_or_ge b h.length with hlt | hge <;> rcases Nat.lt_or_ge b' h.length with hlt' | hge'
    · rw [List.getElem?_append_left hlt] at hbk
      rw [List.getElem?_append_left hlt'] at hbk'
      unfold upd at hp hp'
      rw [if_neg (by omega)] at hp hp'
      exact H.inj b b' k k' p p' hbk hbk' hp hp' hrw heq
    · rw [List.getElem?_append_left hlt] at hbk
      have hbe : b' = h.length := by
        have := (List.getElem?_eq_some_iff.1 hbk').1
        simp at this
        omega
      subst hbe
      simp at hbk'
      subst hbk'
      rw [upd_same] at hp'
      cases hp'
      unfold upd at hp
      rw [if_neg (by omega)] at hp
      have := lt_old b k p hbk hp
      simp only at heq
      omega
    · rw [List.getElem?_append_left hlt'] at hbk'
      have hbe : b = h.length := by
        have := (List.getElem?_eq_some_iff.1 hbk).1
        simp at this
        omega
      subst hbe
      simp at hbk
      subst hbk
      rw [upd_same] at hp
      cases hp
      unfold upd at hp'
      rw [if_neg (by omega)] at hp'
      have := lt_old b' k' p' hbk' hp'
      simp only at heq
      omega
    · have h1 := (List.getElem?_eq_some_iff.1 hbk).1
      have h2 := (List.getElem?_eq_some_iff.1 hbk').1
      simp at h1 h2
      omega

theorem Keep.setCells (w : World) (b o : Nat) (vs : List Value) : Keep w (w.setCells b o vs) := by
  induction vs generalizing o w with
  | nil => exact Keep.refl _
  | cons v vs ih =>
    refine Keep.trans ?_ (ih _ _)
    refine ⟨fun B s hs => ?_, by simp [World.setCell], fun B ob hB hn => by
      simp only [World.setCell, Array.getElem?_modify]
      by_cases h1 : b = B
      · subst h1
        rw [if_pos rfl, hB]
        cases ob <;> simp_all [noCells]
      · rw [if_neg h1]; exact hB⟩
    simp only [World.shape?, World.setCell, Array.getElem?_modify] at hs ⊢
    by_cases h1 : b = B
    · subst h1
      rw [if_pos rfl]
      cases hB : w.heap[b]? with
      | none => rw [hB] at hs; cases hs
      | some o => cases o <;> simp_all
    · rw [if_neg h1]
      exact hs

theorem below_setCells {B : Nat} {a w : World} (h : Below B a w) {b : Nat} (hb : B ≤ b) : ∀ (vs : List Value) (o : Nat), Below B a (w.setCells b o vs) := by
  intro vs
  induction vs generalizing w with
  | nil => intro o; exact h
  | cons v vs ih => intro o; exact ih (h.setCell (p := ⟨b, o, none⟩) hb v) (o + 1)

theorem size_setCells (b : Nat) : ∀ (vs : List Value) (o : Nat) (w : World), (w.setCells b o vs).heap.size = w.heap.size
  | [], _, _ => rfl
  | v :: vs, o, w => by rw [World.setCells, size_setCells b vs]; simp [World.setCell]

/-- A block's cells written, its version as it was or one on; the cells of all other blocks stand. -/
theorem HR.write {P : Program} {base : Nat} {W : World} {ρ : PM} {h : Heap} {w : World} (H : HR P base W ρ h w) {b : Nat} {k : Blk} {p : Place} (hb : h[b]? = some k) (hp : ρ b k.ver = some p) (hrw : k.rw = true)
    (o : Nat) (vs : List Value) (l : List AV) (hin : ∀ j, j < vs.length → (w.cell? ⟨p.blk, p.off + o + j, none⟩).isSome = true)
    (hl : ∀ (j : Nat) (x : AV), l[j]? = some x → (if o ≤ j ∧ j < o + vs.length then ∃ v, vs[j - o]? = some v ∧ RV ρ w x v else ∃ v, w.cell? ⟨p.blk, p.off + j, none⟩ = some v ∧ RV ρ w x v)) :
    HR P base W ρ (h.set b { k with cells := l }) (w.setCells p.blk (p.off + o) vs) := by
  obtain ⟨p', h1, h2, h3, h4, h5, h6, h7, h8⟩ := H.blk b k hb
  rw [hp] at h1; cases h1
  obtain ⟨a1, a2, ⟨n, a3⟩, a4⟩ := h8 hrw
  have hk := Keep.setCells w p.blk (p.off + o) vs
  have hblen : b < h.length := (List.getElem?_eq_some_iff.1 hb).1
  refine ⟨below_setCells H.below a1 vs _, by rw [size_setCells]; exact H.hbase, by simpa using H.fresh, ?_, ?_, H.gl⟩
  · intro c kc hc
    by_cases hcb : c = b
    · subst hcb
      rw [List.getElem?_set_self hblen] at hc
      cases hc
      refine ⟨p, hp, h2, h3, h4, h5, by rw [size_setCells]; exact h6, ?_, ?_⟩
      · intro j x hx
        have := hl j x hx
        split at this
        · rename_i hj
          obtain ⟨v, hv, hr⟩ := this
          refine ⟨v, ?_, RV_mono (Ext.refl _) hk _ _ hr⟩
          have hlt : j - o < vs.length := by omega
          have := World.cell?_setCells_in p.blk vs (p.off + o) w hin (j - o) hlt
          rw [show p.off + o + (j - o) = p.off + j by omega] at this
          rw [this, ← hv, List.getElem?_eq_getElem hlt]
        · rename_i hj
          obtain ⟨v, hv, hr⟩ := this
          refine ⟨v, ?_, RV_mono (Ext.refl _) hk _ _ hr⟩
          rw [World.cell?_setCells_out p.blk vs (p.off + o) w ⟨p.blk, p.off + j, none⟩ (fun _ _ => by simp only; omega)]
          exact hv
      · intro _
        exact ⟨a1, fun q hq => by rw [World.frozen?_setCells]; exact a2 q (by rwa [shN_eq a3 (hk.shape _ _ a3)] at hq), ⟨n, hk.shape _ _ a3⟩, a4⟩
    · rw [List.getElem?_set_ne (fun e => hcb e.symm)] at hc
      obtain ⟨q, g1, g2, g3, g4, g5, g6, g7, g8⟩ := H.blk c kc hc
      have hne : q.blk ≠ p.blk := fun e => hcb (H.inj b c k kc p q hb hc hp g1 hrw e.symm).symm
      refine ⟨q, g1, g2, g3, g4, g5, by rw [size_setCells]; exact g6, ?_, ?_⟩
      · intro j x hx
        obtain ⟨v, hv, hr⟩ := g7 j x hx
        refine ⟨v, ?_, RV_mono (Ext.refl _) hk _ _ hr⟩
        rw [World.cell?_setCells_out p.blk vs (p.off + o) w ⟨q.blk, q.off + j, none⟩ (fun e _ => absurd e hne)]
        exact hv
      · intro hr
        obtain ⟨b1, b2, ⟨m, b3⟩, b4⟩ := g8 hr
        exact ⟨b1, fun q' hq => by rw [World.frozen?_setCells]; exact b2 q' (by rwa [shN_eq b3 (hk.shape _ _ b3)] at hq), ⟨m, hk.shape _ _ b3⟩, b4⟩
  · intro c c' kc kc' q q' hc hc' hq hq' hr heq
    have key : ∀ (c : Nat) (kc : Blk), (h.set b { k with cells := l })[c]? = some kc → ∃ k0 : Blk, h[c]? = some k0 ∧ k0.ver = kc.ver ∧ k0.rw = kc.rw := by
      intro c kc hc
      by_cases hcb : c = b
      · subst hcb
        rw [List.getElem?_set_self hblen] at hc
        cases hc
        exact ⟨k, hb, rfl, rfl⟩
      · rw [List.getElem?_set_ne (fun e => hcb e.symm)] at hc
        exact ⟨kc, hc, rfl, rfl⟩
    obtain ⟨k0, e1, e2, e3⟩ := key c kc hc
    obtain ⟨k0', e1', e2', _⟩ := key c' kc' hc'
    exact H.inj c c' k0 k0' q q' e1 e1' (e2 ▸ hq) (e2' ▸ hq') (e3 ▸ hr) heq

/-- A block is known at a new version, at the same place or in a block of the world's that is new. -/
theorem HR.bump {P : Program} {base : Nat} {W : World} {ρ : PM} {h : Heap} {w : World} (H : HR P base W ρ h w) {b : Nat} {k : Blk} (hb : h[b]? = some k) (hrw : k.rw = true) (p' : Place) (l : List AV)
    (he : p'.e = k.e) (hs : p'.sz = k.sz) (hr : p'.rw = true) (hlt : p'.blk < w.heap.size)
    (hcells : ∀ (j : Nat) (x : AV), l[j]? = some x → ∃ v, w.cell? ⟨p'.blk, p'.off + j, none⟩ = some v ∧ RV ρ w x v)
    (hown : base ≤ p'.blk ∧ (∀ o, o < shN w p'.blk → w.frozen? ⟨p'.blk, o, none⟩ = false) ∧ (∃ n, w.shape? p'.blk = some (k.e, n)))
    (hapart : ∀ (c : Nat) (kc : Blk) (q : Place), c ≠ b → h[c]? = some kc → ρ c kc.ver = some q → q.blk ≠ p'.blk) :
    HR P base W (upd ρ b (k.ver + 1) p') (h.set b { k with ver := k.ver + 1, cells := l }) w ∧ Ext ρ (upd ρ b (k.ver + 1) p') := by
  obtain ⟨p, h1, h2, h3, h4, h5, h6, h7, h8⟩ := H.blk b k hb
  have hx : Ext ρ (upd ρ b (k.ver + 1) p') := upd_ext _ (h2 _ (by omega))
  have hblen : b < h.length := (List.getElem?_eq_some_iff.1 hb).1
  have hupd : ∀ c v, c ≠ b → upd ρ b (k.ver + 1) p' c v = ρ c v := by
    intro c v hc; unfold upd; rw [if_neg (fun e => hc e.1)]
  have key : ∀ (c : Nat) (kc : Blk) (q : Place), (h.set b { k with ver := k.ver + 1, cells := l })[c]? = some kc → upd ρ b (k.ver + 1) p' c kc.ver = some q →
      (c = b ∧ q = p' ∧ kc.rw = true) ∨ (c ≠ b ∧ h[c]? = some kc ∧ ρ c kc.ver = some q) := by
    intro c kc q hc hq
    by_cases hcb : c = b
    · subst hcb
      rw [List.getElem?_set_self hblen] at hc
      cases hc
      rw [upd_same] at hq
      cases hq
      exact .inl ⟨rfl, rfl, hrw⟩
    · rw [List.getElem?_set_ne (fun e => hcb e.symm)] at hc
      rw [hupd c _ hcb] at hq
      exact .inr ⟨hcb, hc, hq⟩
  refine ⟨⟨H.below, H.hbase, ?_, ?_, ?_, H.gl⟩, hx⟩
  · intro c ver hc
    simp only [List.length_set] at hc
    rw [hupd c _ (by omega)]
    exact H.fresh _ _ hc
  · intro c kc hc
    by_cases hcb : c = b
    · subst hcb
      rw [List.getElem?_set_self hblen] at hc
      cases hc
      refine ⟨p', upd_same _ _ _ _, ?_, he, hs, hr.trans hrw.symm, hlt, ?_, ?_⟩
      · intro v hv
        simp only at hv
        unfold upd
        rw [if_neg (by omega)]
        exact h2 v (by omega)
      · intro j x hj
        obtain ⟨v, hv, hrv⟩ := hcells j x hj
        exact ⟨v, hv, RV_mono hx (Keep.refl _) _ _ hrv⟩
      · intro _
        exact ⟨hown.1, hown.2.1, hown.2.2, (h8 hrw).2.2.2.1, fun h => absurd h (Nat.succ_ne_zero _)⟩
    · rw [List.getElem?_set_ne (fun e => hcb e.symm)] at hc
      obtain ⟨q, g1, g2, g3, g4, g5, g6, g7, g8⟩ := H.blk c kc hc
      refine ⟨q, hx _ _ _ g1, fun v hv => by rw [hupd c _ hcb]; exact g2 v hv, g3, g4, g5, g6, fun j x hj => ?_, g8⟩
      obtain ⟨v, hv, hrv⟩ := g7 j x hj
      exact ⟨v, hv, RV_mono hx (Keep.refl _) _ _ hrv⟩
  · intro c c' kc kc' q q' hc hc' hq hq' hr' heq
    rcases key c kc q hc hq with ⟨rfl, rfl, _⟩ | ⟨hne, e1, e2⟩ <;> rcases key c' kc' q' hc' hq' with ⟨rfl, rfl, _⟩ | ⟨hne', e1', e2'⟩
    · rfl
    · exact absurd heq.symm (hapart c' kc' q' hne' e1' e2')
    · exact absurd heq (hapart c kc q hne e1 e2)
    · exact H.inj c c' kc kc' q q' e1 e1' e2 e2' hr' heq

end Go.Proofs.YtdgnddidibpilaaDoor.AS
end
section
set_option autoImplicit false
namespace Go.Proofs.YtdgnddidibpilaaDoor.AS
open Go Go.RowKit

/-! ### Values that need no world -/
def semv {α : Type} (P : Program) : Sem α → Option α
  | .pure a => some a
  | .program k => semv P (k P)
  | .mark _ k => semv P k
  | _ => none

theorem semv_run {α : Type} (P : Program) : ∀ (s : Sem α) (a : α), semv P s = some a → ∀ w, s.run P w = .ok a w := by
  intro s
  induction s with
  | pure a => intro b h w; simp [semv] at h; subst h; rfl
  | program k ih => intro b h w; simp only [semv] at h; simp only [Sem.run]; exact ih P b h w
  | mark m k ih => intro b h w; simp only [semv] at h; simp only [Sem.run]; exact ih b h w
  | _ => intro b h w; simp [semv] at h

/-- From this number on: the yields of loops over functions. -/
abbrev YB : Nat := 1000000000

mutual
def toV : AV → Option Value
  | .s v => some v
  | .ag l => (toVs l).map fun vs => .agg vs.toArray
  | .tp l => (toVs l).map fun vs => .tuple vs.toArray
  | .fn f x y => match toVs x, toVs y with | some a, some b => some (.func f a.toArray b.toArray) | _, _ => none
  | .pt _ _ _ => none
  | .sl _ _ _ _ _ => none
  | .yl _ => none
  | .any => none
def toVs : List AV → Option (List Value)
  | [] => some []
  | x :: l => match toV x, toVs l with | some v, some vs => some (v :: vs) | _, _ => none
end

mutual
theorem toV_RV {ρ : PM} {w : World} : ∀ (x : AV) (u v : Value), toV x = some u → RV ρ w x v → v = u
  | .s _, u, v, h, hr => by simp only [toV, Option.some.injEq] at h; subst h; exact hr
  | .ag l, u, v, h, ⟨xs, h1, h2⟩ => by
    simp only [toV, Option.map_eq_some_iff] at h
    obtain ⟨vs, h3, rfl⟩ := h
    have := toVs_RV l vs _ h3 h2
    subst h1; rw [← this]
  | .tp l, u, v, h, ⟨xs, h1, h2⟩ => by
    simp only [toV, Option.map_eq_some_iff] at h
    obtain ⟨vs, h3, rfl⟩ := h
    have := toVs_RV l vs _ h3 h2
    subst h1; rw [← this]
  | .fn f x y, u, v, h, ⟨xs, ys, h1, h2, h3⟩ => by
    simp only [toV] at h
    split at h
    · rename_i a b ha hb
      cases h
      have e1 := toVs_RV x a _ ha h2
      have e2 := toVs_RV y b _ hb h3
      subst h1; rw [← e1, ← e2]
    · cases h
  | .pt _ _ _, u, v, h, _ => by simp [toV] at h
  | .sl _ _ _ _ _, u, v, h, _ => by simp [toV] at h
  | .yl _, u, v, h, _ => by simp [toV] at h
  | .any, u, v, h, _ => by simp [toV] at h
theorem toVs_RV {ρ : PM} {w : World} : ∀ (l : List AV) (us vs : List Value), toVs l = some us → RVs ρ w l vs → vs = us
  | [], us, [], h, _ => by simp [toVs] at h; exact h.symm
  | x :: l, us, v :: vs, h, ⟨h1, h2⟩ => by
    simp only [toVs] at h
    split at h
    · rename_i a b ha hb
      cases h
      rw [toV_RV x a v ha h1, toVs_RV l b vs hb h2]
    · cases h
  | [], _, _ :: _, _, h => h.elim
  | _ :: _, _, [], _, h => h.elim
end

def isCell : AV → Bool
  | .s (.agg _) | .s (.tuple _) | .ag _ | .tp _ | .any => false
  | _ => true

theorem isCell_one {ρ : PM} {w : World} {x : AV} {v : Value} (h : isCell x = true) (hr : RV ρ w x v) : v.oneCell' = true := by
  cases x with
  | s u => simp only [RV] at hr; subst hr; cases v <;> first | rfl | simp [isCell] at h
  | pt b ver off => obtain ⟨p, _, rfl⟩ := hr; rfl
  | sl b ver off len sz => obtain ⟨p, cap, a, _, rfl, _⟩ := hr; rfl
  | fn f x y => obtain ⟨xs, ys, rfl, _⟩ := hr; rfl
  | yl b => obtain ⟨p, _, rfl⟩ := hr; rfl
  | ag l => simp [isCell] at h
  | tp l => simp [isCell] at h
  | any => simp [isCell] at h

/-- The cells that a value takes. -/
def cellsOf : AV → Option (List AV)
  | .ag l => some l
  | .s (.agg cs) => some (cs.toList.map .s)
  | .tp _ => none
  | .s (.tuple _) => none
  | .any => none
  | x => some [x]

theorem cellsOf_RVs {ρ : PM} {w : World} {x : AV} {v : Value} {l : List AV} (h : cellsOf x = some l) (hr : RV ρ w x v) : RVs ρ w l v.cells.toList := by
  cases x with
  | s u =>
    simp only [RV] at hr; subst hr
    cases v <;> simp only [cellsOf, Option.some.injEq, reduceCtorEq] at h <;> subst h <;> first | exact RVs_s _ | exact ⟨rfl, trivial⟩
  | pt b ver off => simp only [cellsOf, Option.some.injEq] at h; subst h; have hr' := hr; obtain ⟨p, _, rfl⟩ := hr'; exact ⟨hr, trivial⟩
  | sl b ver off len sz => simp only [cellsOf, Option.some.injEq] at h; subst h; have hr' := hr; obtain ⟨p, cap, a, _, rfl, _⟩ := hr'; exact ⟨hr, trivial⟩
  | fn f x y => simp only [cellsOf, Option.some.injEq] at h; subst h; have hr' := hr; obtain ⟨xs, ys, rfl, _⟩ := hr'; exact ⟨hr, trivial⟩
  | yl b => simp only [cellsOf, Option.some.injEq] at h; subst h; have hr' := hr; obtain ⟨p, _, rfl⟩ := hr'; exact ⟨hr, trivial⟩
  | ag l => simp only [cellsOf, Option.some.injEq] at h; subst h; obtain ⟨xs, rfl, h2⟩ := hr; exact h2
  | tp l => simp [cellsOf] at h
  | any => simp [cellsOf] at h

/-- The cells of a struct or an array. -/
def aggOf : AV → Option (List AV)
  | .ag l => some l
  | .s (.agg cs) => some (cs.toList.map .s)
  | _ => none

theorem aggOf_RV {ρ : PM} {w : World} {x : AV} {v : Value} {l : List AV} (h : aggOf x = some l) (hr : RV ρ w x v) : ∃ cs : Array Value, v = .agg cs ∧ RVs ρ w l cs.toList := by
  cases x with
  | s u =>
    simp only [RV] at hr; subst hr
    cases v <;> simp only [aggOf, Option.some.injEq, reduceCtorEq] at h
    subst h; exact ⟨_, rfl, RVs_s _⟩
  | ag l => simp only [aggOf, Option.some.injEq] at h; subst h; exact hr
  | _ => simp [aggOf] at h

/-! ### Operations -/
inductive POp where
  | mv (x : Operand)
  | pick (c a b : Operand)
  | build (zero : List Value) (parts : List (Nat × Nat × Operand))
  | sc (op : Op) (ty : TypeId)
  | nilck (x : Operand)
  | eqnil (neg : Bool) (k : Nat) (x : Operand)
  | mkfn (f : Fn) (fst cap : List Operand)
  | slice (sz : Nat) (x : Operand) (lo hi : Option Operand)
  | slice3 (sz : Nat) (x : Operand) (lo : Option Operand) (hi mx : Operand)
  | capN (x : Operand)
  | bad
  | faddr (off : Nat) (x : Operand)
  | fld (agg : Bool) (off n : Nat) (x : Operand)
  | iaddr (sz : Nat) (x i : Operand)
  | iaddrA (len sz : Nat) (x i : Operand)
  | idxA (len : Nat) (agg : Bool) (sz : Nat) (x i : Operand)
  | ext (x : Operand) (i : Nat)
  | lenS (x : Operand)
  | sdata (x : Operand)

inductive ROp where
  | load (agg : Bool) (n : Nat) (x : Operand)
  | b2s (x : Operand)

inductive EOp where
  | new (e : TypeId) (sz : Nat) (cells : List Value)
  | box (e : TypeId) (sz : Nat) (x : Operand)
  | bslice (e : TypeId) (sz len : Nat) (cells : List Value) (parts : List (Nat × Nat × Operand))
  | store (n : Nat) (a x : Operand)
  | make (e : TypeId) (sz bytes : Nat) (zero : List Value) (l c : Operand)
  | app (e : TypeId) (sz bytes : Nat) (x y : Operand)
  | appz (e : TypeId) (sz bytes : Nat) (zero : List Value) (x n : Operand)
  | s2b (e : TypeId) (x : Operand)
  | ustr (e : TypeId) (x n : Operand)
  | call (f : FuncId) (args : List Operand)
  | callv (f : Operand) (args : List Operand)

inductive AOp where
  | p (o : POp) | r (o : ROp) | e (o : EOp)

structure AOper where
  dst : Option Nat
  guard : Option (Nat × Bool)
  op : AOp

def evO (tm : List AV) : Operand → Option AV
  | .tmp t => tm[t]?
  | .const v => some (.s v)
  | .global g => some (.s (.pointer (some ⟨g, 0, none⟩)))
  | .func f => some (.s (.func (.func f) #[] #[]))

def evOs (tm : List AV) : List Operand → Option (List AV)
  | [] => some []
  | x :: l => match evO tm x, evOs tm l with | some a, some b => some (a :: b) | _, _ => none

def asI : AV → Option Int
  | .s (.int _ n) => some n
  | _ => none

/-- The cells put at their places. -/
def fillA : List AV → List (Nat × Nat × AV) → Option (List AV)
  | cells, [] => some cells
  | cells, (off, size, x) :: rest => match cellsOf x with
    | some l => if l.length = size ∧ off + l.length ≤ cells.length then fillA (cells.take off ++ l ++ cells.drop (off + l.length)) rest else none
    | none => none

def evParts (tm : List AV) : List (Nat × Nat × Operand) → Option (List (Nat × Nat × AV))
  | [] => some []
  | (o, n, x) :: l => match evO tm x, evParts tm l with | some a, some b => some ((o, n, a) :: b) | _, _ => none

def oneOr (agg : Bool) (l : List AV) : Option AV := if agg then some (.ag l) else l.head?

/-- The environment of a scalar operation. -/
def envV (tm : List AV) (x : Operand) : Value := ((evO tm x).bind toV).getD undef
def opOf (op : Op) (ty : TypeId) : Oper := ⟨none, op, ty, "", #[], none⟩

def notSel : Op → Bool
  | .select _ _ => false
  | _ => true

def scV (P : Program) (tm : List AV) (op : Op) (ty : TypeId) : Option AV :=
  if (op.operands.toList.all fun x => ((evO tm x).bind toV).isSome) && notSel op then
    match semv P (execOp (envV tm) (opOf op ty)) with
    | some (.value v) => some (.s v)
    | _ => none
  else none

def loI (tm : List AV) (d : Int) : Option Operand → Option Int
  | none => some d
  | some x => (evO tm x).bind asI

def pV (P : Program) (tm : List AV) : POp → Option AV
  | .mv x => evO tm x
  | .pick c a b => match evO tm c with
    | some (.s (.bool t)) => if t then evO tm a else evO tm b
    | _ => none
  | .build zero parts => match evParts tm parts with
    | some l => (fillA (zero.map .s) l).map .ag
    | none => none
  | .sc op ty => scV P tm op ty
  | .nilck x => match evO tm x with
    | some (.pt b v o) => some (.pt b v o)
    | some (.fn (.func f) x y) => some (.fn (.func f) x y)
    | some (.s (.func (.func f) x y)) => some (.s (.func (.func f) x y))
    | _ => none
  | .eqnil neg k x => match k, evO tm x with
    | 0, some (.sl _ _ _ _ _) => some (.s (.bool neg))
    | 0, some (.s (.slice none _ _)) => some (.s (.bool !neg))
    | 1, some (.pt _ _ _) => some (.s (.bool neg))
    | 1, some (.s (.pointer none)) => some (.s (.bool !neg))
    | 2, some (.fn _ _ _) => some (.s (.bool neg))
    | 2, some (.s (.func _ _ _)) => some (.s (.bool neg))
    | 2, some (.s .nilFunc) => some (.s (.bool !neg))
    | _, _ => none
  | .mkfn f x y => match evOs tm x, evOs tm y with
    | some a, some b => some (.fn f a b)
    | _, _ => none
  | .slice sz x lo hi => match evO tm x with
    | some (.sl b v o n z) => match loI tm 0 lo, loI tm n hi with
      | some l, some h => if z = sz ∧ 0 ≤ l ∧ l ≤ h ∧ h ≤ n then some (.sl b v (o + l.toNat * sz) (h.toNat - l.toNat) sz) else none
      | _, _ => none
    | some (.s (.slice none 0 0)) => match loI tm 0 lo, loI tm 0 hi with
      | some l, some h => if l = 0 ∧ h = 0 then some (.s (.slice none 0 0)) else none
      | _, _ => none
    | _ => none
  | .slice3 sz x lo hi mx => match evO tm x with
    | some (.sl b v o n z) => match loI tm 0 lo, loI tm n (some hi), loI tm n (some mx) with
      | some l, some h, some m => if z = sz ∧ 0 ≤ l ∧ l ≤ h ∧ h ≤ m ∧ m ≤ n then some (.sl b v (o + l.toNat * sz) (h.toNat - l.toNat) sz) else none
      | _, _, _ => none
    | _ => none
  | .capN x => match evO tm x with
    | some (.s (.slice none 0 0)) => some (.s (.int .i64 0))
    | _ => none
  | .bad => none
  | .faddr off x => match evO tm x with
    | some (.pt b v o) => some (.pt b v (o + off))
    | _ => none
  | .fld agg off n x => match (evO tm x).bind aggOf with
    | some l => if off + n ≤ l.length then oneOr agg ((l.drop off).take n) else none
    | none => none
  | .iaddr sz x i => match evO tm x, (evO tm i).bind asI with
    | some (.sl b v o n _), some k => if 0 ≤ k ∧ k < n then some (.pt b v (o + k.toNat * sz)) else none
    | _, _ => none
  | .iaddrA len sz x i => match evO tm x, (evO tm i).bind asI with
    | some (.pt b v o), some k => if 0 ≤ k ∧ k < len then some (.pt b v (o + k.toNat * sz)) else none
    | some (.s (.pointer (some ⟨g, o, none⟩))), some k => if 0 ≤ k ∧ k < len then some (.s (.pointer (some ⟨g, o + k.toNat * sz, none⟩))) else none
    | _, _ => none
  | .idxA len agg sz x i => match (evO tm x).bind aggOf, (evO tm i).bind asI with
    | some l, some k => if 0 ≤ k ∧ k < len ∧ k.toNat * sz + sz ≤ l.length then oneOr agg ((l.drop (k.toNat * sz)).take sz) else none
    | _, _ => none
  | .ext x i => match evO tm x with
    | some (.tp l) => l[i]?
    | some (.s (.tuple vs)) => (vs[i]?).map .s
    | _ => none
  | .lenS x => match evO tm x with
    | some (.sl _ _ _ n _) => some (.s (.int .i64 n))
    | some (.s (.slice none 0 0)) => some (.s (.int .i64 0))
    | _ => none
  | .sdata x => match evO tm x with
    | some (.sl b v o n _) => if 0 < n then some (.pt b v o) else none
    | some (.s (.slice none 0 0)) => some (.s (.pointer none))
    | _ => none

def rdn (h : Heap) (b ver off n : Nat) : Option (List AV) :=
  match h[b]? with
  | some k => if k.ver = ver ∧ off + n ≤ k.cells.length then some ((k.cells.drop off).take n) else none
  | none => none

def wrn (h : Heap) (b ver off : Nat) (l : List AV) : Option Heap :=
  match h[b]? with
  | some k => if k.ver = ver ∧ k.rw = true ∧ off + l.length ≤ k.cells.length then some (h.set b { k with cells := k.cells.take off ++ l ++ k.cells.drop (off + l.length) }) else none
  | none => none

/-- Bytes of cells. -/
def bytesA : List AV → Option (List Int)
  | [] => some []
  | .s (.int .u8 n) :: l => (bytesA l).map (n :: ·)
  | _ :: _ => none

/-- What a table has. -/
def tabV (P : Program) (agg : Bool) (n g o : Nat) : Option AV := match globC P g with
  | some C => if o + n ≤ C.length then oneOr agg (((C.drop o).take n).map .s) else none
  | none => none
def rV (P : Program) (tm : List AV) (h : Heap) : ROp → Option AV
  | .load agg n x => match evO tm x with
    | some (.pt b v o) => (rdn h b v o n).bind (oneOr agg)
    | some (.s (.pointer (some ⟨g, o, none⟩))) => tabV P agg n g o
    | _ => none
  | .b2s x => match evO tm x with
    | some (.sl b v o n _) => match (rdn h b v o n).bind bytesA with
      | some bs => some (.s (.string (strOfNums bs)))
      | none => none
    | some (.s (.slice none _ _)) => some (.s (.string .empty))
    | _ => none

abbrev CallF := FuncId → List AV → Heap → Option (AV × Heap)

def srcA (h : Heap) (sz : Nat) : AV → Option (Nat × List AV)
  | .sl b v o n _ => (rdn h b v o (n * sz)).map fun l => (n, l)
  | .s (.slice none 0 0) => some (0, [])
  | .s (.string s) => if sz = 1 then some (s.size, s.data.toList.map fun b => .s (.int .u8 b.toNat)) else none
  | _ => none

def eV (g : CallF) (tm : List AV) (h : Heap) : EOp → Option (AV × Heap)
  | .new e sz cells => some (.pt h.length 0 0, h ++ [⟨0, e, sz, true, cells.map .s⟩])
  | .box e sz x => match (evO tm x).bind cellsOf with
    | some l => some (.pt h.length 0 0, h ++ [⟨0, e, sz, true, l⟩])
    | none => none
  | .bslice e sz len cells parts => match evParts tm parts with
    | some l => match fillA (cells.map .s) l with
      | some c => some (.sl h.length 0 0 len sz, h ++ [⟨0, e, sz, true, c⟩])
      | none => none
    | none => none
  | .store n a x => match evO tm a, (evO tm x).bind cellsOf with
    | some (.pt b v o), some l => if l.length = n ∧ l.all isCell then (wrn h b v o l).map fun h' => (.s undef, h') else none
    | _, _ => none
  | .make e sz bytes zero l c => match (evO tm l).bind asI, (evO tm c).bind asI with
    | some l, some c => if 0 ≤ l ∧ l ≤ c ∧ c * bytes ≤ 140737488355328 ∧ c ≤ 9223372036854775807 then
        some (.sl h.length 0 0 l.toNat sz, h ++ [⟨0, e, sz, true, (List.replicate c.toNat (zero.map AV.s)).flatten⟩]) else none
    | _, _ => none
  | .app e sz bytes x y => match evO tm x, (evO tm y).bind (srcA h sz) with
    | some (.s (.slice none 0 0)), some (m, l) =>
      if m = 0 then some (.s (.slice none 0 0), h)
      else if l.all isCell ∧ m * bytes ≤ 140737488355328 ∧ m ≤ 9223372036854775807 then some (.sl h.length 0 0 m sz, h ++ [⟨0, e, sz, true, l⟩]) else none
    | some (.sl b v o n _), some (m, l) => match h[b]? with
      | some k => if k.ver = v ∧ k.rw = true ∧ k.e = e ∧ k.sz = sz ∧ o + n * sz ≤ k.cells.length ∧ l.all isCell ∧ (n + m) * bytes ≤ 140737488355328 ∧ n + m ≤ 9223372036854775807 then
          some (.sl b (v + 1) 0 (n + m) sz, h.set b { k with ver := v + 1, cells := (k.cells.drop o).take (n * sz) ++ l }) else none
      | none => none
    | _, _ => none
  | .appz e sz bytes zero x n => match evO tm x, (evO tm n).bind asI with
    | some (.s (.slice none 0 0)), some l => if 0 < l ∧ l * bytes ≤ 140737488355328 ∧ l ≤ 9223372036854775807 then
        some (.sl h.length 0 0 l.toNat sz, h ++ [⟨0, e, sz, true, (List.replicate l.toNat (zero.map AV.s)).flatten⟩]) else none
    | _, _ => none
  | .s2b e x => match evO tm x with
    | some (.s (.string s)) => if s.size ≤ 140737488355328 then some (.sl h.length 0 0 s.size 1, h ++ [⟨0, e, 1, true, s.data.toList.map fun b => .s (.int .u8 b.toNat)⟩]) else none
    | _ => none
  | .ustr e x n => match evO tm x, evO tm n with
    | some (.pt b v o), some (.s (.int .i64 k)) => match h[b]?, (rdn h b v o k.toNat).bind bytesA with
      | some q, some bs => if 0 < k ∧ k ≤ 9223372036854775807 ∧ q.rw = true ∧ q.e = e then some (.s (.string (strOfNums bs)), h.set b { q with ver := q.ver + 1, rw := false, cells := [] }) else none
      | _, _ => none
    | some (.s (.pointer none)), some (.s (.int .i64 0)) => some (.s (.string .empty), h)
    | _, _ => none
  | .call f args => match evOs tm args with
    | some l => g f l h
    | none => none
  | .callv f args => match evO tm f, evOs tm args with
    | some (.fn (.func k) x y), some l => if k < YB then g k (x ++ l ++ y) h else none
    | some (.s (.func (.func k) x y)), some l => if k < YB then g k (x.toList.map .s ++ l ++ y.toList.map .s) h else none
    | some (.yl b), some l => g (YB + b) l h
    | _, _ => none

end Go.Proofs.YtdgnddidibpilaaDoor.AS
end
section
set_option autoImplicit false
namespace Go.Proofs.YtdgnddidibpilaaDoor.AS
open Go Go.RowKit

def isAggD : TypeDesc → Bool
  | .struct _ => true
  | .array _ _ => true
  | _ => false

def nilK : TypeDesc → Operand → Option Nat
  | .slice _, .const (.slice none 0 0) => some 0
  | .pointer _, .const (.pointer none) => some 1
  | .func _ _ _, .const .nilFunc => some 2
  | _, _ => none

def refD : TypeDesc → Bool
  | .slice _ | .pointer _ | .func _ _ _ | .map _ _ | .chan _ _ | .interface _ | .unsafePointer => true
  | _ => false

def prepEq (neg : Bool) (d : TypeDesc) (x y : Operand) : Option AOp :=
  match nilK d y with
  | some k => some (.p (.eqnil neg k x))
  | none => match nilK d x with
    | some k => some (.p (.eqnil neg k y))
    | none => none

/-- The sizes of parts. -/
def prepParts (place : Nat → Option (Nat × Nat)) : List (Nat × Operand) → Option (List (Nat × Nat × Operand))
  | [] => some []
  | (i, x) :: l => match place i, prepParts place l with
    | some (off, n), some r => some ((off, n, x) :: r)
    | _, _ => none

def prepSc (o : Oper) : Option AOp := some (.p (.sc o.op o.type))

def callable (P : Program) (f : FuncId) : Bool :=
  decide (f < YB) && match P.funcs[f]? with
  | some fn => fn.name != "runtime.NumGoroutine" && fn.body.isSome
  | none => false

def prepCall (P : Program) (o : Oper) (c : Call) : Option AOp :=
  match c.callee with
  | .invoke _ _ => none
  | .value (.func f) => if callable P f then some (.e (.call f c.args.toList)) else none
  | .value (.tmp t) => some (.e (.callv (.tmp t) c.args.toList))
  | .value _ => none
  | .builtin .len => match c.argTypes[0]?, c.args.toList with
    | some t, [x] => match P.underlying t with
      | some (.slice _) => some (.p (.lenS x))
      | some .string => prepSc o
      | some (.array n _) => some (.p (.mv (.const (.int .i64 n))))
      | _ => none
    | _, _ => none
  | .builtin .cap => match c.argTypes[0]?, c.args.toList with
    | some t, [x] => match P.underlying t with
      | some (.slice _) => some (.p (.capN x))
      | _ => none
    | _, _ => none
  | .builtin .unsafeSliceData => match c.argTypes[0]?, c.args.toList with
    | some t, [x] => match P.underlying t with
      | some (.slice _) => some (.p (.sdata x))
      | _ => none
    | _, _ => none
  | .builtin .unsafeString => match c.argTypes.toList, c.args.toList with
    | [t, _], [x, n] => match P.underlying t with
      | some (.pointer e) => if P.cellsOf e = 1 then some (.e (.ustr e x n)) else none
      | _ => none
    | _, _ => none
  | .builtin .min => prepSc o
  | .builtin .max => prepSc o
  | .builtin .append => match c.argTypes.toList, c.args.toList with
    | [t, t2], [x, y] => match P.underlying t, P.underlying t2 with
      | some (.slice e), some (.slice _) => match P.info? e with
        | some i => match i.zero with
          | some z => if 0 < i.size ∧ z.cells.size = i.size then some (.e (.app e i.size i.bytes x y)) else none
          | none => none
        | none => none
      | some (.slice e), some .string => match P.info? e with
        | some i => match i.zero with
          | some z => if i.size = 1 ∧ z.cells.size = i.size then some (.e (.app e i.size i.bytes x y)) else none
          | none => none
        | none => none
      | some (.slice e), some (.int _) => match P.info? e with
        | some i => match i.zero with
          | some z => if 0 < i.size ∧ z.cells.size = i.size then some (.e (.appz e i.size i.bytes z.cells.toList x y)) else none
          | none => none
        | none => none
      | _, _ => none
    | _, _ => none
  | .builtin _ => none

def prepOp0 (P : Program) (o : Oper) : Option AOp :=
  match o.op with
  | .move x => some (.p (.mv x))
  | .assign x => some (.p (.mv x))
  | .pick c a b => some (.p (.pick c a b))
  | .alloc e => match P.info? e with
    | some i => match i.zero with
      | some z => some (.e (.new e i.size z.cells.toList))
      | none => none
    | none => none
  | .box e x => match P.info? e with
    | some i => some (.e (.box e i.size x))
    | none => none
  | .build t parts => match P.info? t with
    | some i => match i.zero with
      | some z => match P.underlying t with
        | some (.struct fs) => match fs.toList.mapM (fun f => (P.info? f.type).map fun i => (f.offset, i.size)) with
          | some places => (prepParts (fun i => places.toArray[i]?) parts.toList).map fun l => .p (.build z.cells.toList l)
          | none => none
        | some (.array _ el) => match P.info? el with
          | some j => (prepParts (fun i => some (i * j.size, j.size)) parts.toList).map fun l => .p (.build z.cells.toList l)
          | none => none
        | _ => none
      | none => none
    | none => none
  | .buildSlice t len parts => match P.underlying t with
    | some (.slice e) => match P.info? e with
      | some i => match i.zero with
        | some z => if len * i.size ≤ 2 ^ 24 ∧ 0 < i.size then
            (prepParts (fun k => some (k * i.size, i.size)) parts.toList).map fun l =>
              .e (.bslice e i.size len (if len * i.size = 0 then [] else (List.range (len * i.size)).map fun k => z.cells[k % z.cells.size]!) l) else none
        | none => none
      | none => none
    | _ => none
  | .load t a => match P.underlying t, P.info? t with
    | some d, some i => if isAggD d then some (.r (.load true i.size a)) else some (.r (.load false 1 a))
    | _, _ => none
  | .store t a x => match P.info? t with
    | some i => some (.e (.store i.size a x))
    | none => none
  | .nilCheck x => some (.p (.nilck x))
  | .binOp op t x y _ => match P.underlying t with
    | some d => if refD d then (match op with
        | .eql => prepEq false d x y
        | .neq => prepEq true d x y
        | _ => none) else prepSc o
    | none => none
  | .unOp _ _ _ => prepSc o
  | .convert src dst x => match P.underlying src, P.underlying dst with
    | some (.slice e), some .string => (match P.underlying e with
      | some (.int .u8) => some (.r (.b2s x))
      | _ => none)
    | some .string, some (.slice e) => (match P.underlying e, P.info? e with
      | some (.int .u8), some i => if i.size = 1 then some (.e (.s2b e x)) else none
      | _, _ => none)
    | _, _ => prepSc o
  | .makeFunc f x y => some (.p (.mkfn f x.toList y.toList))
  | .makeSlice t l c => match P.underlying t with
    | some (.slice e) => match P.info? e with
      | some i => match i.zero with
        | some z => if z.cells.size = i.size ∧ 0 < i.size then some (.e (.make e i.size i.bytes z.cells.toList l c)) else none
        | none => none
      | none => none
    | _ => none
  | .slice t x lo hi mx => match mx, P.underlying t with
    | none, some .string => prepSc o
    | none, some (.slice e) => match P.info? e with
      | some i => some (.p (.slice i.size x lo hi))
      | none => none
    | some m, some (.slice e) => match hi, P.info? e with
      | some h, some i => some (.p (.slice3 i.size x lo h m))
      | _, _ => none
    | _, _ => none
  | .fieldAddr s x f => match P.underlying s with
    | some (.struct fs) => match fs[f]? with
      | some fl => match P.info? fl.type with
        | some i => if i.size = 0 then none else some (.p (.faddr fl.offset x))
        | none => none
      | none => none
    | _ => none
  | .field t x f => match P.underlying t with
    | some (.struct fs) => match fs[f]? with
      | some fl => match P.underlying fl.type, P.info? fl.type with
        | some d, some i => if isAggD d then some (.p (.fld true fl.offset i.size x)) else some (.p (.fld false fl.offset 1 x))
        | _, _ => none
      | none => none
    | _ => none
  | .indexAddr t x i => match P.underlying t with
    | some (.slice e) => match P.info? e with
      | some k => some (.p (.iaddr k.size x i))
      | none => none
    | some (.array n e) => match P.info? e with
      | some k => some (.p (.iaddrA n k.size x i))
      | none => none
    | _ => none
  | .index t x i => match P.underlying t with
    | some .string => prepSc o
    | some (.array n e) => match P.underlying e, P.info? e with
      | some d, some k => if isAggD d then some (.p (.idxA n true k.size x i)) else if k.size = 1 then some (.p (.idxA n false 1 x i)) else none
      | _, _ => none
    | _ => none
  | .extract t i => some (.p (.ext t i))
  | .call c => prepCall P o c
  | _ => none

section sound
variable {P : Program} {ρ : PM} {w : World} {a : Act} {tm : List AV}

theorem evO_RV (hr : RVs ρ w tm a.tmps.toList) {x : Operand} {y : AV} (h : evO tm x = some y) : RV ρ w y (a.eval x) := by
  cases x with
  | tmp t =>
    simp only [evO] at h
    obtain ⟨v, hv, hr'⟩ := RVs_get hr h
    simp only [Act.eval, Array.getD_eq_getD_getElem?]
    rw [← Array.getElem?_toList, hv]
    exact hr'
  | const v => simp only [evO, Option.some.injEq] at h; subst h; rfl
  | global g => simp only [evO, Option.some.injEq] at h; subst h; rfl
  | func f => simp only [evO, Option.some.injEq] at h; subst h; rfl

theorem evOs_RVs (hr : RVs ρ w tm a.tmps.toList) : ∀ {l : List Operand} {ys : List AV}, evOs tm l = some ys → RVs ρ w ys (l.map a.eval)
  | [], ys, h => by simp only [evOs, Option.some.injEq] at h; subst h; trivial
  | x :: l, ys, h => by
    simp only [evOs] at h
    split at h
    · rename_i u us hu hus
      cases h
      exact ⟨evO_RV hr hu, evOs_RVs hr hus⟩
    · cases h

theorem asI_RV {x : AV} {v : Value} {n : Int} (h : asI x = some n) (hr : RV ρ w x v) : ∃ k, v = .int k n := by
  cases x with
  | s u => cases u <;> simp [asI] at h; subst h; exact ⟨_, hr⟩
  | _ => simp [asI] at h

theorem run_isAgg {t : TypeId} {d : TypeDesc} (h : P.underlying t = some d) : (isAgg t).run P w = .ok (isAggD d) w := by
  cases d <;> simp [isAgg, run_underlying h, isAggD]

/-- One cell, or several as a struct. -/
theorem oneOr_RV {l : List AV} {vs : List Value} {agg : Bool} {x : AV} (h : oneOr agg l = some x) (hr : RVs ρ w l vs) :
    (agg = true → RV ρ w x (.agg vs.toArray)) ∧ (agg = false → ∃ v, vs.head? = some v ∧ RV ρ w x v) := by
  unfold oneOr at h
  cases agg with
  | true => simp at h; subst h; exact ⟨fun _ => ⟨_, rfl, hr⟩, fun h => by cases h⟩
  | false =>
    simp at h
    refine ⟨(fun h => by cases h), fun _ => ?_⟩
    cases l with
    | nil => simp at h
    | cons y l =>
      cases vs with
      | nil => exact hr.elim
      | cons v vs => simp at h; subst h; exact ⟨v, rfl, hr.1⟩

theorem scV_sound (hr : RVs ρ w tm a.tmps.toList) (o : Oper) (hs : ∀ cs b, o.op ≠ .select cs b) {x : AV} (h : scV P tm o.op o.type = some x) :
    ∃ v, (execOp a.eval o).run P w = .ok (.value v) w ∧ RV ρ w x v := by
  unfold scV at h
  split at h
  · rename_i hall
    have hall := (Bool.and_eq_true _ _ ▸ hall : _ ∧ _).1
    split at h
    · rename_i v hv
      cases h
      refine ⟨v, ?_, rfl⟩
      have hc : execOp a.eval o = execOp (envV tm) o := by
        refine execOp_congr o hs fun y hy => ?_
        have h1 := List.all_eq_true.1 hall y (Array.mem_toList_iff.2 hy)
        obtain ⟨u, hu⟩ := Option.isSome_iff_exists.1 h1
        obtain ⟨z, hz, hzu⟩ := Option.bind_eq_some_iff.1 hu
        have := toV_RV z u _ hzu (evO_RV hr hz)
        unfold envV
        rw [hu]; exact this
      have he : execOp (envV tm) o = execOp (envV tm) (opOf o.op o.type) := by
        obtain ⟨dst, op, ty, pos, after, guard⟩ := o
        cases op <;> rfl
      rw [hc, he]
      exact semv_run P _ _ hv w
    · cases h
  · cases h

end sound
end Go.Proofs.YtdgnddidibpilaaDoor.AS
end
section
set_option autoImplicit false
namespace Go.Proofs.YtdgnddidibpilaaDoor.AS
open Go Go.RowKit

section sound
variable {P : Program} {ρ : PM} {w : World} {a : Act} {tm : List AV}

theorem evParts_RV (hr : RVs ρ w tm a.tmps.toList) : ∀ {l : List (Nat × Nat × Operand)} {ys : List (Nat × Nat × AV)}, evParts tm l = some ys →
    ys.map (fun y => (y.1, y.2.1)) = l.map (fun y => (y.1, y.2.1)) ∧ RVs ρ w (ys.map fun y => y.2.2) (l.map fun y => a.eval y.2.2)
  | [], ys, h => by simp only [evParts, Option.some.injEq] at h; subst h; exact ⟨rfl, trivial⟩
  | (o, n, x) :: l, ys, h => by
    simp only [evParts] at h
    split at h
    · rename_i u us hu hus
      cases h
      obtain ⟨h1, h2⟩ := evParts_RV hr hus
      exact ⟨by simp [h1], evO_RV hr hu, h2⟩
    · cases h

/-- What 'fill' does with the cells of one part. -/
theorem fold_put (off : Nat) : ∀ (vs : List Value) (k : Nat) (cells : Array Value), off + k + vs.length ≤ cells.size →
    ((vs.zipIdx k).foldl (fun (cs : Array Value) (x : Value × Nat) => cs.setIfInBounds (off + x.2) x.1) cells).toList = cells.toList.take (off + k) ++ vs ++ cells.toList.drop (off + k + vs.length)
  | [], k, cells, h => by simp
  | v :: vs, k, cells, h => by
    simp only [List.zipIdx_cons, List.foldl_cons]
    simp only [List.length_cons] at h
    rw [fold_put off vs (k + 1) _ (by simp; omega)]
    have hk : off + k < cells.toList.length := by simp; omega
    simp only [Array.toList_setIfInBounds, List.length_cons]
    rw [show off + (k + 1) = (off + k) + 1 by omega, List.take_add_one]
    rw [List.getElem?_set_self hk]
    rw [List.take_set_of_le (by omega), List.drop_set_of_lt (by omega)]
    simp [Nat.add_assoc, Nat.add_comm 1]

theorem fill_sound (place : Nat → Option (Nat × Nat)) (hr : RVs ρ w tm a.tmps.toList) : ∀ {parts : List (Nat × Operand)} {l : List (Nat × Nat × Operand)} {ys : List (Nat × Nat × AV)} {cells : List AV} {cs : Array Value} {r : List AV},
    prepParts place parts = some l → evParts tm l = some ys → fillA cells ys = some r → RVs ρ w cells cs.toList →
    ∃ out, Instr.fill place cs (parts.map fun x => (x.1, a.eval x.2)) = some out ∧ RVs ρ w r out.toList
  | [], l, ys, cells, cs, r, h1, h2, h3, h4 => by
    simp only [prepParts, Option.some.injEq] at h1; subst h1
    simp only [evParts, Option.some.injEq] at h2; subst h2
    simp only [fillA, Option.some.injEq] at h3; subst h3
    exact ⟨cs, rfl, h4⟩
  | (i, x) :: parts, l, ys, cells, cs, r, h1, h2, h3, h4 => by
    simp only [prepParts] at h1
    split at h1
    · rename_i off n rest hpl hrest
      cases h1
      simp only [evParts] at h2
      split at h2
      · rename_i u us hu hus
        cases h2
        simp only [fillA] at h3
        split at h3
        · rename_i lc hlc
          split at h3
          · rename_i hsz
            have hu' := evO_RV hr hu
            have hcl := cellsOf_RVs hlc hu'
            have hlen := RVs_length hcl
            have hlen2 := RVs_length h4
            simp only [Array.length_toList] at hlen hlen2
            have hput := fold_put off (a.eval x).cells.toList 0 cs (by simp; omega)
            have hR : RVs ρ w (cells.take off ++ lc ++ cells.drop (off + lc.length)) (cs.toList.take off ++ (a.eval x).cells.toList ++ cs.toList.drop (off + lc.length)) :=
              RVs_append (RVs_drop h4 _) (RVs_append hcl (RVs_take h4 _))
            have hfold : ((a.eval x).cells.zipIdx.foldl (fun (cs : Array Value) (x : Value × Nat) => cs.setIfInBounds (off + x.2) x.1) cs).toList = cs.toList.take off ++ (a.eval x).cells.toList ++ cs.toList.drop (off + lc.length) := by
              rw [← Array.foldl_toList, Array.toList_zipIdx, hput]
              simp [hlen]
            obtain ⟨out, ho, hro⟩ := fill_sound place hr (cs := ((a.eval x).cells.zipIdx.foldl (fun (cs : Array Value) (x : Value × Nat) => cs.setIfInBounds (off + x.2) x.1) cs)) hrest hus h3 (by rw [hfold]; exact hR)
            refine ⟨out, ?_, hro⟩
            simp only [List.map_cons, Instr.fill, hpl]
            rw [if_neg (by simp; omega)]
            exact ho
          · cases h3
        · cases h3
      · cases h2
    · cases h1

end sound
end Go.Proofs.YtdgnddidibpilaaDoor.AS
end
