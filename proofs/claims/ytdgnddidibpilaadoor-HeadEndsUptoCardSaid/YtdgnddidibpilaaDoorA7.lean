/- Of our own: an abstract machine beside the model, its soundness, and walks of the program in it. -/
import Derived.Test.YtdgnddidibpilaaDoorA6
set_option linter.unusedSimpArgs false
set_option linter.unusedVariables false
section
set_option autoImplicit false
namespace Go.Proofs.YtdgnddidibpilaaDoor.AS
open Go Go.RowKit
/-! ### The walk by 'simp': one step at a time, what follows untouched until it is come to -/
section
variable {P : Program} {g : CallF} {k : Nat} {tm : List AV} {h : Heap}

def thenC (r : Option Res) (f : List AV → Heap → Option Res) : Option Res :=
  match r with
  | some (.normal, tm, h) => f tm h
  | r => r
@[congr] theorem thenC_congr {r r' : Option Res} {f : List AV → Heap → Option Res} (h : r = r') : thenC r f = thenC r' f := by rw [h]
@[simp] theorem thenC_n (f : List AV → Heap → Option Res) : thenC (some (.normal, tm, h)) f = f tm h := rfl
@[simp] theorem thenC_e (f : List AV → Heap → Option Res) (i : Nat) : thenC (some (.exit i, tm, h)) f = some (.exit i, tm, h) := rfl
@[simp] theorem thenC_g (f : List AV → Heap → Option Res) (i : Nat) : thenC (some (.goto i, tm, h)) f = some (.goto i, tm, h) := rfl
@[simp] theorem thenC_r (f : List AV → Heap → Option Res) : thenC (some (.ret, tm, h)) f = some (.ret, tm, h) := rfl

def thenO (r : Option (AV × Heap)) (d : Option Nat) (tm : List AV) (f : List AV → Heap → Option (List AV × Heap)) : Option (List AV × Heap) :=
  match r with
  | some (x, h) => f (putA tm d x) h
  | none => none
@[congr] theorem thenO_congr {r r' : Option (AV × Heap)} {d : Option Nat} {tm : List AV} {f : List AV → Heap → Option (List AV × Heap)} (h : r = r') : thenO r d tm f = thenO r' d tm f := by rw [h]
@[simp] theorem thenO_s (x : AV) (d : Option Nat) (f : List AV → Heap → Option (List AV × Heap)) : thenO (some (x, h)) d tm f = f (putA tm d x) h := rfl

def thenR (r : Option (List AV × Heap)) : Option Res := r.map fun x => (.normal, x.1, x.2)
@[simp] theorem thenR_s : thenR (some (tm, h)) = some (.normal, tm, h) := rfl

def thenW (w : Option Bool) (d : Option Nat) (tm : List AV) (h : Heap) (r : Option (AV × Heap)) (f : List AV → Heap → Option (List AV × Heap)) : Option (List AV × Heap) :=
  match w with
  | some true => thenO r d tm f
  | some false => f (putA tm d (.s undef)) h
  | none => none
@[congr] theorem thenW_congr {w w' : Option Bool} {d : Option Nat} {tm : List AV} {h : Heap} {r : Option (AV × Heap)} {f : List AV → Heap → Option (List AV × Heap)} (hw : w = w') : thenW w d tm h r f = thenW w' d tm h r f := by rw [hw]
@[simp] theorem thenW_t (d : Option Nat) (r : Option (AV × Heap)) (f : List AV → Heap → Option (List AV × Heap)) : thenW (some true) d tm h r f = thenO r d tm f := rfl
@[simp] theorem thenW_f (d : Option Nat) (r : Option (AV × Heap)) (f : List AV → Heap → Option (List AV × Heap)) : thenW (some false) d tm h r f = f (putA tm d (.s undef)) h := rfl

theorem evC_seq (a b : ACode) : evC P g (k + 1) (.seq a b) tm h = thenC (evC P g k a tm h) (evC P g k b) := by
  simp only [evC]
  unfold thenC
  cases evC P g k a tm h with
  | none => rfl
  | some r => obtain ⟨e, tm', h'⟩ := r; cases e <;> rfl
theorem evC_reg (ops : List AOper) : evC P g (k + 1) (.reg ops) tm h = thenR (evOps P g ops tm h) := rfl
theorem evC_skip : evC P g (k + 1) .skip tm h = some (.normal, tm, h) := rfl
theorem evC_label (fg : List Nat) (l : Nat) : evC P g (k + 1) (.label fg l) tm h = some (.normal, forget fg tm, h) := rfl
theorem evC_ret : evC P g (k + 1) .ret tm h = some (.ret, tm, h) := rfl
theorem evC_exit (i : Nat) : evC P g (k + 1) (.exit i) tm h = some (.exit i, tm, h) := rfl
theorem evC_goto (i : Nat) : evC P g (k + 1) (.goto i) tm h = some (.goto i, tm, h) := rfl

def condC (c : Option AV) (a b : Option Res) : Option Res :=
  match c with
  | some (.s (.bool t)) => if t then a else b
  | _ => none
@[congr] theorem condC_congr {c c' : Option AV} {a b : Option Res} (h : c = c') : condC c a b = condC c' a b := by rw [h]
@[simp] theorem condC_t (a b : Option Res) : condC (some (.s (.bool true))) a b = a := rfl
@[simp] theorem condC_f (a b : Option Res) : condC (some (.s (.bool false))) a b = b := rfl
theorem condC_i (t : Bool) (a b : Option Res) : condC (some (.s (.bool t))) a b = if t then a else b := rfl
theorem evC_cond (c : Operand) (a b : ACode) : evC P g (k + 1) (.cond c a b) tm h = condC (evO tm c) (evC P g k a tm h) (evC P g k b tm h) := rfl

def blockC (i : Nat) (r : Option Res) : Option Res :=
  match r with
  | some (.exit j, tm', h') => if j = i then some (.normal, tm', h') else some (.exit j, tm', h')
  | r => r
@[simp] theorem blockC_n (i : Nat) : blockC i (some (.normal, tm, h)) = some (.normal, tm, h) := rfl
@[simp] theorem blockC_r (i : Nat) : blockC i (some (.ret, tm, h)) = some (.ret, tm, h) := rfl
@[simp] theorem blockC_g (i j : Nat) : blockC i (some (.goto j, tm, h)) = some (.goto j, tm, h) := rfl
@[simp] theorem blockC_e (i j : Nat) : blockC i (some (.exit j, tm, h)) = if j = i then some (.normal, tm, h) else some (.exit j, tm, h) := rfl
theorem evC_block (i : Nat) (b : ACode) : evC P g (k + 1) (.block i b) tm h = blockC i (evC P g k b tm h) := by
  simp only [evC]
  unfold blockC
  cases evC P g k b tm h with
  | none => rfl
  | some r => obtain ⟨e, tm', h'⟩ := r; cases e <;> rfl

theorem evOps_nil : evOps P g [] tm h = some (tm, h) := rfl
theorem evOps_cons (d : Option Nat) (gd : Option (Nat × Bool)) (q : AOp) (l : List AOper) : evOps P g (⟨d, gd, q⟩ :: l) tm h = thenW (wantA tm gd) d tm h (opV P g tm h q) (evOps P g l) := by
  simp only [evOps]
  unfold thenW thenO
  cases wantA tm gd with
  | none => rfl
  | some b =>
    cases b with
    | false => rfl
    | true => cases opV P g tm h q <;> rfl
theorem evOps_cons0 (d : Option Nat) (q : AOp) (l : List AOper) : evOps P g (⟨d, none, q⟩ :: l) tm h = thenO (opV P g tm h q) d tm (evOps P g l) := evOps_cons d none q l

@[simp] theorem opV_p (o : POp) : opV P g tm h (.p o) = (pV P tm o).map fun x => (x, h) := rfl
@[simp] theorem opV_r (o : ROp) : opV P g tm h (.r o) = (rV P tm h o).map fun x => (x, h) := rfl
@[simp] theorem opV_e (o : EOp) : opV P g tm h (.e o) = eV g tm h o := rfl
@[simp] theorem putA_s (d : Nat) (x : AV) : putA tm (some d) x = tm.set d x := rfl
@[simp] theorem putA_n (x : AV) : putA tm none x = tm := rfl
@[simp] theorem want_n : wantA tm none = some true := rfl
def wantV (a : Option AV) (b : Bool) : Option Bool := match a with | some (.s (.bool c)) => some (c == b) | some (.s (.tuple _)) => some false | _ => none
@[simp] theorem want_s (s : Nat) (b : Bool) : wantA tm (some (s, b)) = wantV tm[s]? b := rfl
@[simp] theorem wantV_s (c b : Bool) : wantV (some (.s (.bool c))) b = some (c == b) := rfl
@[simp] theorem wantV_u (b : Bool) : wantV (some (.s undef)) b = some false := rfl
@[simp] theorem evO_t (t : Nat) : evO tm (.tmp t) = tm[t]? := rfl
@[simp] theorem evO_c (v : Value) : evO tm (.const v) = some (.s v) := rfl
@[simp] theorem evO_f (f : FuncId) : evO tm (.func f) = some (.s (.func (.func f) #[] #[])) := rfl
@[simp] theorem pV_mv (x : Operand) : pV P tm (.mv x) = evO tm x := rfl
@[simp] theorem pV_sc (op : Op) (ty : TypeId) : pV P tm (.sc op ty) = scV P tm op ty := rfl
def pickV (c a b : Option AV) : Option AV := match c with | some (.s (.bool t)) => if t then a else b | _ => none
@[simp] theorem pV_pick (c a b : Operand) : pV P tm (.pick c a b) = pickV (evO tm c) (evO tm a) (evO tm b) := rfl
@[simp] theorem pickV_s (t : Bool) (a b : Option AV) : pickV (some (.s (.bool t))) a b = if t then a else b := rfl
@[simp] theorem pickV_b (t c d : Bool) : pickV (some (.s (.bool t))) (some (.s (.bool c))) (some (.s (.bool d))) = some (.s (.bool (if t then c else d))) := by cases t <;> rfl
end
section
variable {P : Program} {tm : List AV}
def fn1 (P : Program) (b : Builtin) (ts : Array TypeId) (ty : TypeId) (a : Option AV) : Option AV :=
  match a.bind toV with
  | some u => match semv P (builtin b ts ty #[false] #[u]) with | some (.value v) => some (.s v) | _ => none
  | none => none
def lenV (P : Program) (t : TypeId) (a : Option AV) : Option AV :=
  match a.bind toV with
  | some u => (semv P (Builtin.len_ #[t] 0 #[u])).map .s
  | none => none
theorem sc_len (x : Operand) (t ty : TypeId) : scV P tm (.call ⟨.builtin .len, #[x], #[t]⟩) ty = lenV P t (evO tm x) := by
  unfold scV lenV
  simp only [Op.operands, Call.operands, Array.empty_append, List.append_nil, List.nil_append, List.all_cons, List.all_nil, Bool.and_true, notSel]
  cases hx : (evO tm x).bind toV with
  | none => simp
  | some u =>
    simp only [Option.isSome_some, Bool.and_self, if_true, execOp, opOf, resolve, envV, List.map_toArray, List.map_cons, List.map_nil, hx, Option.getD_some, pure_bind, invoke, builtin]
    rw [semv_value]
    have : ∀ ty, Builtin.len_ #[t] ty #[u] = Builtin.len_ #[t] 0 #[u] := fun _ => rfl
    rw [this]
    generalize semv P (Builtin.len_ #[t] 0 #[u]) = o
    cases o <;> rfl
@[simp] theorem lenV_s {t : TypeId} (h : P.underlying t = some .string) (s : ByteArray) : lenV P t (some (.s (.string s))) = some (.s (.int .i64 s.size)) := by
  simp [lenV, toV, Builtin.len_, semv_bind, semv_pure, underlying, program, semv, h, goInt]
@[simp] theorem cv_int {src dst : TypeId} {d : TypeDesc} {k k' : IntKind} (hs : P.underlying src = some d) (hd : P.underlying dst = some (.int k')) (n : Int) : cv1 P src dst (some (.s (.int k n))) = some (.s (.int k' (k'.wrap n))) := by
  simp [cv1, toV, convert, semv_bind, semv_pure, underlying, program, semv, hs, hd, Conv.intToInt]
@[simp] theorem cv_str {src dst : TypeId} (hs : P.underlying src = some .string) (hd : P.underlying dst = some .string) (s : ByteArray) : cv1 P src dst (some (.s (.string s))) = some (.s (.string s)) := by
  simp [cv1, toV, convert, semv_bind, semv_pure, underlying, program, semv, hs, hd]
theorem ix_str {t : TypeId} (h : P.underlying t = some .string) (s : ByteArray) (k : IntKind) (i : Int) (h0 : 0 ≤ i) (h1 : i < s.size) :
    ix2 P t (some (.s (.string s))) (some (.s (.int k i))) = some (.s (.int .u8 (s[i.toNat]'(by omega)).toNat)) := by
  have h2 : s[i.toNat]? = some (s[i.toNat]'(by omega)) := getElem?_pos s i.toNat (by omega)
  simp [ix2, toV, Instr.index, semv_bind, semv_pure, underlying, program, semv, h, asIntOf, h0, h2]
def sl3 (P : Program) (t : TypeId) (a : Option AV) (lo hi : Option Int) : Option AV :=
  match a with
  | some (.s (.string s)) => let l := lo.getD 0; let h := hi.getD s.size
    if 0 ≤ l ∧ l ≤ h ∧ h ≤ s.size then some (.s (.string (s.extract l.toNat h.toNat))) else none
  | _ => none
end
attribute [simp] sc_len
attribute [simp] evC_seq evC_reg evC_skip evC_label evC_ret evC_exit evC_goto evC_cond evC_block evOps_nil evOps_cons0 evOps_cons sc_bin sc_un sc_cv sc_ix
end Go.Proofs.YtdgnddidibpilaaDoor.AS
end
section
set_option autoImplicit false
namespace Go.Proofs.YtdgnddidibpilaaDoor.AS
open Go Go.RowKit

mutual
/-- All blocks that a value names are known. -/
def Ment (ρ : PM) : AV → Prop
  | .s _ => True
  | .pt b v _ => ∃ p, ρ b v = some p
  | .sl b v _ _ _ => ∃ p, ρ b v = some p
  | .fn _ x y => Ments ρ x ∧ Ments ρ y
  | .ag l => Ments ρ l
  | .tp l => Ments ρ l
  | .yl b => ∃ p, ρ b 0 = some p
  | .any => True
def Ments (ρ : PM) : List AV → Prop
  | [] => True
  | x :: l => Ment ρ x ∧ Ments ρ l
end
mutual
theorem ment_of {ρ : PM} {w : World} : ∀ (x : AV) (v : Value), RV ρ w x v → Ment ρ x
  | .s _, _, _ => trivial
  | .pt _ _ _, _, ⟨p, h, _⟩ => ⟨p, h⟩
  | .sl _ _ _ _ _, _, ⟨p, _, _, h, _⟩ => ⟨p, h.1⟩
  | .fn _ x y, _, ⟨_, _, _, h1, h2⟩ => ⟨ments_of x _ h1, ments_of y _ h2⟩
  | .ag l, _, ⟨_, _, h⟩ => ments_of l _ h
  | .tp l, _, ⟨_, _, h⟩ => ments_of l _ h
  | .yl _, _, ⟨p, h, _⟩ => ⟨p, h⟩
  | .any, _, _ => trivial
theorem ments_of {ρ : PM} {w : World} : ∀ (l : List AV) (vs : List Value), RVs ρ w l vs → Ments ρ l
  | [], [], _ => trivial
  | x :: l, v :: vs, h => ⟨ment_of x v h.1, ments_of l vs h.2⟩
  | [], _ :: _, h => h.elim
  | _ :: _, [], h => h.elim
end
mutual
theorem RV_back {ρ ρ1 ρ' : PM} {w : World} (h1 : Ext ρ ρ1) (h' : Ext ρ ρ') : ∀ (x : AV) (v : Value), Ment ρ x → RV ρ1 w x v → RV ρ' w x v
  | .s _, _, _, h => h
  | .pt _ _ _, _, ⟨p, hp⟩, ⟨q, hq, e⟩ => by
    have := h1 _ _ _ hp; rw [hq] at this; cases this
    exact ⟨p, h' _ _ _ hp, e⟩
  | .sl _ _ _ _ _, _, ⟨p, hp⟩, ⟨q, c, a, hq, r⟩ => by
    have := h1 _ _ _ hp; rw [hq.1] at this; cases this
    exact ⟨p, c, a, ⟨h' _ _ _ hp, hq.2⟩, r⟩
  | .fn _ x y, _, hm, ⟨xs, ys, e, a, b⟩ => ⟨xs, ys, e, RVs_back h1 h' x _ hm.1 a, RVs_back h1 h' y _ hm.2 b⟩
  | .ag l, _, hm, ⟨xs, e, a⟩ => ⟨xs, e, RVs_back h1 h' l _ hm a⟩
  | .tp l, _, hm, ⟨xs, e, a⟩ => ⟨xs, e, RVs_back h1 h' l _ hm a⟩
  | .yl _, _, ⟨p, hp⟩, ⟨q, hq, e⟩ => by
    have := h1 _ _ _ hp; rw [hq] at this; cases this
    exact ⟨p, h' _ _ _ hp, e⟩
  | .any, _, _, _ => trivial
theorem RVs_back {ρ ρ1 ρ' : PM} {w : World} (h1 : Ext ρ ρ1) (h' : Ext ρ ρ') : ∀ (l : List AV) (vs : List Value), Ments ρ l → RVs ρ1 w l vs → RVs ρ' w l vs
  | [], [], _, _ => trivial
  | x :: l, v :: vs, hm, h => ⟨RV_back h1 h' x v hm.1 h.1, RVs_back h1 h' l vs hm.2 h.2⟩
  | [], _ :: _, _, h => h.elim
  | _ :: _, [], _, h => h.elim
end
mutual
theorem flat_RV {ρ ρ' : PM} {w : World} : ∀ (x : AV) (u v : Value), toV x = some u → RV ρ w x v → RV ρ' w x v
  | .s _, _, _, _, h => h
  | .ag l, u, v, hu, ⟨xs, e, h⟩ => by
    simp only [toV, Option.map_eq_some_iff] at hu
    obtain ⟨us, hus, _⟩ := hu
    exact ⟨xs, e, flats_RV l us _ hus h⟩
  | .tp l, u, v, hu, ⟨xs, e, h⟩ => by
    simp only [toV, Option.map_eq_some_iff] at hu
    obtain ⟨us, hus, _⟩ := hu
    exact ⟨xs, e, flats_RV l us _ hus h⟩
  | .fn f x y, u, v, hu, ⟨xs, ys, e, h1, h2⟩ => by
    simp only [toV] at hu
    split at hu
    · rename_i a b ha hb
      exact ⟨xs, ys, e, flats_RV x a _ ha h1, flats_RV y b _ hb h2⟩
    · cases hu
  | .pt _ _ _, _, _, hu, _ => by simp [toV] at hu
  | .sl _ _ _ _ _, _, _, hu, _ => by simp [toV] at hu
  | .any, _, _, hu, _ => by simp [toV] at hu
theorem flats_RV {ρ ρ' : PM} {w : World} : ∀ (l : List AV) (us vs : List Value), toVs l = some us → RVs ρ w l vs → RVs ρ' w l vs
  | [], _, [], _, _ => trivial
  | x :: l, us, v :: vs, hu, h => by
    simp only [toVs] at hu
    split at hu
    · rename_i a b ha hb
      exact ⟨flat_RV x a v ha h.1, flats_RV l b vs hb h.2⟩
    · cases hu
  | [], _, _ :: _, _, h => h.elim
  | _ :: _, _, [], _, h => h.elim
end

/-- What was there stands. -/
def Grows (h h1 : Heap) : Prop := ∀ b, b < h.length → h1[b]? = h[b]?
theorem Grows.refl (h : Heap) : Grows h h := fun _ _ => rfl
theorem Grows.len {h h1 : Heap} (g : Grows h h1) : h.length ≤ h1.length := by
  rcases Nat.lt_or_ge h1.length h.length with hl | hl
  · have := g _ hl
    rw [List.getElem?_eq_none (Nat.le_refl _), List.getElem?_eq_getElem hl] at this
    cases this
  · exact hl
theorem Grows.trans {a b c : Heap} (h : Grows a b) (k : Grows b c) : Grows a c := fun i hi => (k i (Nat.lt_of_lt_of_le hi h.len)).trans (h i hi)
theorem Grows.app (h l : Heap) : Grows h (h ++ l) := fun b hb => List.getElem?_append_left hb
theorem Grows.set {h h1 : Heap} (g : Grows h h1) {b : Nat} (hb : h.length ≤ b) (k : Blk) : Grows h (h1.set b k) := fun i hi => by
  rw [List.getElem?_set_ne (by omega)]; exact g i hi
theorem Grows.app' {h h1 : Heap} (g : Grows h h1) (l : Heap) : Grows h (h1 ++ l) := g.trans (Grows.app h1 l)

/-- The map below a number of blocks. -/
def cutP (ρ : PM) (n : Nat) : PM := fun b v => if b < n then ρ b v else none
theorem cutP_lt {ρ : PM} {n b : Nat} (h : b < n) (v : Nat) : cutP ρ n b v = ρ b v := by simp [cutP, h]

section
variable {P : Program} {base : Nat} {W : World}
theorem HR.dom {ρ : PM} {h : Heap} {w : World} (H : HR P base W ρ h w) {b v : Nat} {p : Place} (hp : ρ b v = some p) : b < h.length := by
  rcases Nat.lt_or_ge b h.length with hb | hb
  · exact hb
  · rw [H.fresh b v hb] at hp; cases hp

/-- The blocks above are forgotten. -/
theorem HR.cut {ρ ρ1 : PM} {h h1 : Heap} {w0 w : World} (H : HR P base W ρ h w0) (hx : Ext ρ ρ1) (H1 : HR P base W ρ1 h1 w) (hg : Grows h h1) :
    HR P base W (cutP ρ1 h.length) h w ∧ Ext ρ (cutP ρ1 h.length) := by
  have hx' : Ext ρ (cutP ρ1 h.length) := fun b v p hp => by rw [cutP_lt (H.dom hp)]; exact hx _ _ _ hp
  refine ⟨⟨H1.below, H1.hbase, fun b ver hb => by unfold cutP; rw [if_neg (by omega)], ?_, ?_, H.gl⟩, hx'⟩
  · intro b k hb
    have hlt := (List.getElem?_eq_some_iff.1 hb).1
    obtain ⟨p, a1, a2, a3, a4, a5, a6, a7, a8⟩ := H1.blk b k ((hg b hlt).trans hb)
    obtain ⟨p0, b1, _, _, _, _, _, b7, _⟩ := H.blk b k hb
    refine ⟨p, by rw [cutP_lt hlt]; exact a1, fun v hv => by rw [cutP_lt hlt]; exact a2 v hv, a3, a4, a5, a6, fun j x hj => ?_, a8⟩
    obtain ⟨v, hv, hr⟩ := a7 j x hj
    obtain ⟨v0, _, hr0⟩ := b7 j x hj
    exact ⟨v, hv, RV_back hx hx' _ _ (ment_of _ _ hr0) hr⟩
  · intro b b' k k' p p' hb hb' hp hp' hrw heq
    have hlt := (List.getElem?_eq_some_iff.1 hb).1
    have hlt' := (List.getElem?_eq_some_iff.1 hb').1
    rw [cutP_lt hlt] at hp
    rw [cutP_lt hlt'] at hp'
    exact H1.inj b b' k k' p p' ((hg b hlt).trans hb) ((hg b' hlt').trans hb') hp hp' hrw heq

/-- What a call leaves, told shorter. -/
def Drops (h : Heap) (r1 r : AV × Heap) : Prop :=
  ∀ (P : Program) (base : Nat) (W : World) (ρ ρ1 : PM) (w0 w : World) (v : Value), HR P base W ρ h w0 → Ext ρ ρ1 → HR P base W ρ1 r1.2 w → RV ρ1 w r1.1 v → ∃ ρ', Ext ρ ρ' ∧ RV ρ' w r.1 v ∧ HR P base W ρ' r.2 w

theorem Drops.refl (h : Heap) (r : AV × Heap) : Drops h r r := fun _ _ _ _ ρ1 _ _ _ _ hx H1 hr => ⟨ρ1, hx, hr, H1⟩

/-- A result without blocks: whatever else was made is forgotten. -/
theorem Drops.flat {h h1 : Heap} {x : AV} (hg : Grows h h1) (hx : (toV x).isSome = true) : Drops h (x, h1) (x, h) := by
  intro P base W ρ ρ1 w0 w v H hx1 H1 hr
  obtain ⟨H2, hx2⟩ := H.cut hx1 H1 hg
  obtain ⟨u, hu⟩ := Option.isSome_iff_exists.1 hx
  exact ⟨_, hx2, flat_RV x u v hu hr, H2⟩

theorem hookSound_of {T : FuncId → Option AFunc} (hm : P.follows .mixedOrders = true) (hT : TabOK P T) {f : FuncId} (hc : callable P f = true) {hk : List AV → Heap → Option (AV × Heap)}
    (hs : ∀ l h r, hk l h = some r → ∃ k r1, evFn P T k f l h = some r1 ∧ Drops h r1 r) : HookSound P f hk := by
  refine ⟨hc, fun base W l h r he ρ w vs H hr => ?_⟩
  obtain ⟨k, r1, h1, h2⟩ := hs l h r he
  refine ((evFn_sound hm hT k f l h r1 h1).2 ρ w vs H hr).mono ?_
  rintro e w' ⟨v, ρ1, rfl, E⟩
  obtain ⟨ρ', hx', hr', H'⟩ := h2 P base W ρ ρ1 w w' v H E.ext E.hr E.rv
  exact ⟨v, ρ', rfl, hx', E.keep, hr', H'⟩

/-- A table with a hook over it. -/
def over (T : FuncId → Option AFunc) (f : FuncId) (hk : List AV → Heap → Option (AV × Heap)) : FuncId → Option AFunc := fun f' => if f' = f then some (.hook hk) else T f'
theorem over_ok {T : FuncId → Option AFunc} (hT : TabOK P T) {f : FuncId} {hk : List AV → Heap → Option (AV × Heap)} (hs : HookSound P f hk) : TabOK P (over T f hk) := by
  intro f' x hx
  unfold over at hx
  split at hx
  · rename_i he; subst he; cases hx; exact hs
  · exact hT f' x hx
@[simp] theorem over_same (T : FuncId → Option AFunc) (f : FuncId) (hk : List AV → Heap → Option (AV × Heap)) : over T f hk f = some (.hook hk) := by simp [over]
theorem over_ne {T : FuncId → Option AFunc} {f f' : FuncId} {hk : List AV → Heap → Option (AV × Heap)} (h : f' ≠ f) : over T f hk f' = T f' := by simp [over, h]

theorem tab0 (P : Program) : TabOK P (prepFn P) := by
  intro f x hx
  cases x with
  | code n r b => exact hx
  | hook hk =>
    exfalso
    unfold prepFn at hx
    (repeat' split at hx) <;> simp at hx
end

section
variable {P : Program} {T : FuncId → Option AFunc}
/-- A call of a function of the table, its frame laid. -/
theorem evFn_code {k : Nat} {f : FuncId} {args : List AV} {h : Heap} {nt : Nat} {res : List ARes} {body : ACode} (hT : T f = some (.code nt res body)) :
    evFn P T (k + 1) f args h = (match evC P (evFn P T k) (k + 1) body (args ++ List.replicate (nt - args.length) (.s undef)) h with
      | some (.ret, tm, h') => (resAs tm h' res).map fun l => (tupA l, h')
      | some (.normal, tm, h') => (resAs tm h' res).map fun l => (tupA l, h')
      | _ => none) := by simp only [evFn, hT]; rfl
theorem evFn_hook {k : Nat} {f : FuncId} {args : List AV} {h : Heap} {hk : List AV → Heap → Option (AV × Heap)} (hT : T f = some (.hook hk)) : evFn P T (k + 1) f args h = hk args h := by simp only [evFn, hT]
end
end Go.Proofs.YtdgnddidibpilaaDoor.AS
end
section
set_option autoImplicit false
namespace Go.Proofs.YtdgnddidibpilaaDoor.AS
open Go Go.RowKit

section
variable {P : Program} {g : CallF} {k : Nat} {tm : List AV} {h : Heap}
theorem runDraw_evOps : ∀ (ops : List AOper) (tm : List AV) (h : Heap), (runDraw P g ops tm h).map (fun r => (r.2.2.1, r.2.2.2)) = evOps P g ops tm h
  | [], _, _ => rfl
  | o :: rest, tm, h => by
    simp only [runDraw, evOps]
    cases wantA tm o.guard with
    | none => rfl
    | some b =>
      cases b with
      | false =>
        simp only
        rw [← runDraw_evOps rest]
        cases runDraw P g rest (putA tm o.dst (.s undef)) h <;> rfl
      | true =>
        simp only
        cases opV P g tm h o.op with
        | none => rfl
        | some r =>
          obtain ⟨x, h'⟩ := r
          simp only
          rw [← runDraw_evOps rest]
          cases runDraw P g rest (putA tm o.dst x) h' <;> rfl
theorem evC_draw0 (ops : List AOper) : evC P g (k + 1) (.draw ops []) tm h = thenR (evOps P g ops tm h) := by
  simp only [evC]
  rw [← runDraw_evOps]
  cases runDraw P g ops tm h with
  | none => rfl
  | some r => obtain ⟨a, b, c, d⟩ := r; simp [chkDraw, thenR]

/-- A region whose order is open, with reads that must not tell. -/
def thenD (P : Program) (r : Option (List Heap × List (List AV × AV × Bool) × List AV × Heap)) (ops : List AOper) (chk : List (Nat × Nat × Nat)) : Option Res :=
  match r with
  | some (hs, xs, tm', h') => if chkDraw P ops hs xs chk then some (.normal, tm', h') else none
  | none => none
theorem evC_draw1 (ops : List AOper) (c : Nat × Nat × Nat) (l : List (Nat × Nat × Nat)) : evC P g (k + 1) (.draw ops (c :: l)) tm h = thenD P (runDraw P g ops tm h) ops (c :: l) := rfl
@[simp] theorem thenD_s (hs : List Heap) (xs : List (List AV × AV × Bool)) (tm' : List AV) (h' : Heap) (ops : List AOper) (chk : List (Nat × Nat × Nat)) :
    thenD P (some (hs, xs, tm', h')) ops chk = if chkDraw P ops hs xs chk then some (.normal, tm', h') else none := rfl
attribute [simp] evC_draw0 evC_draw1
end

section
variable {P : Program}
def slS (P : Program) (t : TypeId) (a : Option AV) (lo hi : Option (Option AV)) : Option AV :=
  match a.bind toV with
  | some u => match lo, hi with
    | none, none => (semv P (Instr.sliceAt t u none none none)).map .s
    | some l, none => match l.bind toV with | some l => (semv P (Instr.sliceAt t u (some l) none none)).map .s | none => none
    | none, some r => match r.bind toV with | some r => (semv P (Instr.sliceAt t u none (some r) none)).map .s | none => none
    | some l, some r => match l.bind toV, r.bind toV with | some l, some r => (semv P (Instr.sliceAt t u (some l) (some r) none)).map .s | _, _ => none
  | none => none
theorem sc_sl (tm : List AV) (t : TypeId) (x : Operand) (lo hi : Option Operand) (ty : TypeId) : scV P tm (.slice t x lo hi none) ty = slS P t (evO tm x) (lo.map (evO tm)) (hi.map (evO tm)) := by
  unfold scV slS
  cases lo with
  | none =>
    cases hi with
    | none =>
      simp only [Op.operands, notSel, Option.map_none]
      cases hx : (evO tm x).bind toV with
      | none => simp [hx]
      | some u =>
        simp only [execOp, opOf, envV, hx, Option.getD_some, Option.map_none]
        rw [if_pos (by simp [hx]), semv_value]; generalize semv P (Instr.sliceAt _ _ _ _ _) = o; cases o <;> rfl
    | some r =>
      simp only [Op.operands, notSel, Option.map_none, Option.map_some]
      cases hx : (evO tm x).bind toV with
      | none => simp [hx]
      | some u =>
        cases hr : (evO tm r).bind toV with
        | none => simp [hx, hr]
        | some r =>
          simp only [execOp, opOf, envV, hx, hr, Option.getD_some, Option.map_none, Option.map_some]
          rw [if_pos (by simp [hx, hr]), semv_value]; generalize semv P (Instr.sliceAt _ _ _ _ _) = o; cases o <;> rfl
  | some l =>
    cases hi with
    | none =>
      simp only [Op.operands, notSel, Option.map_none, Option.map_some]
      cases hx : (evO tm x).bind toV with
      | none => simp [hx]
      | some u =>
        cases hl : (evO tm l).bind toV with
        | none => simp [hx, hl]
        | some l =>
          simp only [execOp, opOf, envV, hx, hl, Option.getD_some, Option.map_none, Option.map_some]
          rw [if_pos (by simp [hx, hl]), semv_value]; generalize semv P (Instr.sliceAt _ _ _ _ _) = o; cases o <;> rfl
    | some r =>
      simp only [Op.operands, notSel, Option.map_some]
      cases hx : (evO tm x).bind toV with
      | none => simp [hx]
      | some u =>
        cases hl : (evO tm l).bind toV with
        | none => simp [hx, hl]
        | some l =>
          cases hr : (evO tm r).bind toV with
          | none => simp [hx, hl, hr]
          | some r =>
            simp only [execOp, opOf, envV, hx, hl, hr, Option.getD_some, Option.map_none, Option.map_some]
            rw [if_pos (by simp [hx, hl, hr]), semv_value]; generalize semv P (Instr.sliceAt _ _ _ _ _) = o; cases o <;> rfl
attribute [simp] sc_sl
variable {t : TypeId} (h : P.underlying t = some .string) (s : ByteArray)
include h
theorem sl_lo (k : IntKind) (i : Int) (h0 : 0 ≤ i) (h1 : i ≤ s.size) : slS P t (some (.s (.string s))) (some (some (.s (.int k i)))) none = some (.s (.string (s.extract i.toNat s.size))) := by
  simp [slS, toV, Instr.sliceAt, Instr.slice, Instr.sliceBounds, Instr.sliceBound, semv_bind, semv_pure, underlying, program, semv, h, asIntOf, h0, h1]
theorem sl_hi (k : IntKind) (i : Int) (h0 : 0 ≤ i) (h1 : i ≤ s.size) : slS P t (some (.s (.string s))) none (some (some (.s (.int k i)))) = some (.s (.string (s.extract 0 i.toNat))) := by
  simp [slS, toV, Instr.sliceAt, Instr.slice, Instr.sliceBounds, Instr.sliceBound, semv_bind, semv_pure, underlying, program, semv, h, asIntOf, h0, h1]
theorem sl_lh (k k' : IntKind) (i j : Int) (h0 : 0 ≤ i) (h1 : i ≤ j) (h2 : j ≤ s.size) : slS P t (some (.s (.string s))) (some (some (.s (.int k i)))) (some (some (.s (.int k' j)))) = some (.s (.string (s.extract i.toNat j.toNat))) := by
  have : max j 0 = j := by omega
  simp [slS, toV, Instr.sliceAt, Instr.slice, Instr.sliceBounds, Instr.sliceBound, semv_bind, semv_pure, underlying, program, semv, h, asIntOf, h0, h1, h2, show 0 ≤ j by omega]
  rw [this, if_pos h1]; rfl
end
end Go.Proofs.YtdgnddidibpilaaDoor.AS
end
section
set_option autoImplicit false
namespace Go.Proofs.YtdgnddidibpilaaDoor.AS
open Go Go.RowKit

/-- What a code comes to, from some number of rounds on. -/
def Run (P : Program) (T : FuncId → Option AFunc) (c : ACode) (tm : List AV) (h : Heap) (r : Res) : Prop :=
  ∃ K, ∀ k j, K ≤ k → K ≤ j → evC P (evFn P T j) k c tm h = some r
def FRun (P : Program) (T : FuncId → Option AFunc) (f : FuncId) (args : List AV) (h : Heap) (r : AV × Heap) : Prop :=
  ∃ K, ∀ k, K ≤ k → evFn P T k f args h = some r

section
variable {P : Program} {T : FuncId → Option AFunc} {tm tm' : List AV} {h h' : Heap} {r : Res} {a b c : ACode}
theorem Run.step (K : Nat) (H : ∀ k j, evC P (evFn P T (j + 1)) (k + K) c tm h = some r) : Run P T c tm h r := by
  refine ⟨K + 1, fun k j hk hj => ?_⟩
  obtain ⟨k', rfl⟩ : ∃ k', k = k' + K := ⟨k - K, by omega⟩
  obtain ⟨j', rfl⟩ : ∃ j', j = j' + 1 := ⟨j - 1, by omega⟩
  exact H k' j'
theorem Run.seq (ha : Run P T a tm h (.normal, tm', h')) (hb : Run P T b tm' h' r) : Run P T (.seq a b) tm h r := by
  obtain ⟨K, ha⟩ := ha; obtain ⟨L, hb⟩ := hb
  refine ⟨K + L + 1, fun k j hk hj => ?_⟩
  obtain ⟨k, rfl⟩ : ∃ k', k = k' + 1 := ⟨k - 1, by omega⟩
  rw [evC_seq, ha k j (by omega) (by omega)]
  exact hb k j (by omega) (by omega)
theorem Run.seq_stop {e : Ex} (he : e ≠ .normal) (ha : Run P T a tm h (e, tm', h')) : Run P T (.seq a b) tm h (e, tm', h') := by
  obtain ⟨K, ha⟩ := ha
  refine ⟨K + 1, fun k j hk hj => ?_⟩
  obtain ⟨k, rfl⟩ : ∃ k', k = k' + 1 := ⟨k - 1, by omega⟩
  rw [evC_seq, ha k j (by omega) (by omega)]
  cases e <;> first | rfl | exact absurd rfl he
theorem Run.skip : Run P T .skip tm h (.normal, tm, h) := Run.step 1 fun _ _ => rfl
theorem Run.cond {o : Operand} {t : Bool} (ho : evO tm o = some (.s (.bool t))) (H : Run P T (if t then a else b) tm h r) : Run P T (.cond o a b) tm h r := by
  obtain ⟨K, H⟩ := H
  refine ⟨K + 1, fun k j hk hj => ?_⟩
  obtain ⟨k, rfl⟩ : ∃ k', k = k' + 1 := ⟨k - 1, by omega⟩
  rw [evC_cond, ho, condC_i, ← H k j (by omega) (by omega)]
  cases t <;> rfl
theorem Run.block {i : Nat} {e : Ex} (H : Run P T b tm h (e, tm', h')) : Run P T (.block i b) tm h (match e with | .exit j => if j = i then .normal else .exit j | e => e, tm', h') := by
  obtain ⟨K, H⟩ := H
  refine ⟨K + 1, fun k j hk hj => ?_⟩
  obtain ⟨k, rfl⟩ : ∃ k', k = k' + 1 := ⟨k - 1, by omega⟩
  rw [evC_block, H k j (by omega) (by omega)]
  cases e <;> simp
  split <;> rfl
theorem Run.block_exit {i : Nat} (H : Run P T b tm h (.exit i, tm', h')) : Run P T (.block i b) tm h (.normal, tm', h') := by
  have := Run.block (i := i) H
  simpa using this
theorem Run.block_id {i : Nat} {e : Ex} (he : ∀ j, e ≠ .exit j) (H : Run P T b tm h (e, tm', h')) : Run P T (.block i b) tm h (e, tm', h') := by
  have := Run.block (i := i) H
  cases e <;> first | exact this | exact absurd rfl (he _)
theorem Run.loop_next {fg : List Nat} (H : Run P T b (forget fg tm) h (.normal, tm', h')) (H' : Run P T (.loop fg b) tm' h' r) : Run P T (.loop fg b) tm h r := by
  obtain ⟨K, H⟩ := H; obtain ⟨L, H'⟩ := H'
  refine ⟨K + L + 1, fun k j hk hj => ?_⟩
  obtain ⟨k, rfl⟩ : ∃ k', k = k' + 1 := ⟨k - 1, by omega⟩
  simp only [evC]
  rw [H k j (by omega) (by omega)]
  exact H' k j (by omega) (by omega)
theorem Run.loop_end {fg : List Nat} {e : Ex} (he : e ≠ .normal) (H : Run P T b (forget fg tm) h (e, tm', h')) : Run P T (.loop fg b) tm h (e, tm', h') := by
  obtain ⟨K, H⟩ := H
  refine ⟨K + 1, fun k j hk hj => ?_⟩
  obtain ⟨k, rfl⟩ : ∃ k', k = k' + 1 := ⟨k - 1, by omega⟩
  simp only [evC]
  rw [H k j (by omega) (by omega)]
  cases e <;> first | rfl | exact absurd rfl he
theorem Run.scope_goto {fg : List Nat} {l : Nat} {rest : ACode} (H : Run P T c tm h (.goto l, tm', h')) (hf : findA b l = some rest) (H' : Run P T (.scope fg b rest) (forget fg tm') h' r) : Run P T (.scope fg b c) tm h r := by
  obtain ⟨K, H⟩ := H; obtain ⟨L, H'⟩ := H'
  refine ⟨K + L + 1, fun k j hk hj => ?_⟩
  obtain ⟨k, rfl⟩ : ∃ k', k = k' + 1 := ⟨k - 1, by omega⟩
  simp only [evC]
  rw [H k j (by omega) (by omega)]
  simp only [hf]
  exact H' k j (by omega) (by omega)
theorem Run.scope_end {fg : List Nat} {e : Ex} (he : ∀ l, e ≠ .goto l) (H : Run P T c tm h (e, tm', h')) : Run P T (.scope fg b c) tm h (e, tm', h') := by
  obtain ⟨K, H⟩ := H
  refine ⟨K + 1, fun k j hk hj => ?_⟩
  obtain ⟨k, rfl⟩ : ∃ k', k = k' + 1 := ⟨k - 1, by omega⟩
  simp only [evC]
  rw [H k j (by omega) (by omega)]
  cases e <;> first | rfl | exact absurd rfl (he _)
theorem Run.scope_goto_f {fg : List Nat} {l : Nat} {rest : ACode} {tm'' : List AV} (H : Run P T c tm h (.goto l, tm', h')) (hf : findA b l = some rest) (hfg : forget fg tm' = tm'') (H' : Run P T (.scope fg b rest) tm'' h' r) : Run P T (.scope fg b c) tm h r :=
  Run.scope_goto H hf (hfg ▸ H')
theorem Run.loop_next_f {fg : List Nat} {tm0 : List AV} (hfg : forget fg tm = tm0) (H : Run P T b tm0 h (.normal, tm', h')) (H' : Run P T (.loop fg b) tm' h' r) : Run P T (.loop fg b) tm h r :=
  Run.loop_next (hfg.symm ▸ H) H'
theorem Run.loop_end_f {fg : List Nat} {e : Ex} {tm0 : List AV} (hfg : forget fg tm = tm0) (he : e ≠ .normal) (H : Run P T b tm0 h (e, tm', h')) : Run P T (.loop fg b) tm h (e, tm', h') :=
  Run.loop_end he (hfg.symm ▸ H)
theorem Run.to (H : Run P T c tm h r) {r' : Res} (e : r = r') : Run P T c tm h r' := e ▸ H

theorem FRun.of {f : FuncId} {args : List AV} {nt : Nat} {res : List ARes} {body : ACode} {e : Ex} {x : AV} (hT : T f = some (.code nt res body)) (H : Run P T body (args ++ List.replicate (nt - args.length) (.s undef)) h (e, tm', h')) (he : e = .ret ∨ e = .normal) (hr : (resAs tm' h' res).map tupA = some x) : FRun P T f args h (x, h') := by
  obtain ⟨K, H⟩ := H
  refine ⟨K + 1, fun k hk => ?_⟩
  obtain ⟨k, rfl⟩ : ∃ k', k = k' + 1 := ⟨k - 1, by omega⟩
  rw [evFn_code hT, H _ k (by omega) (by omega)]
  cases hl : resAs tm' h' res with
  | none => rw [hl] at hr; cases hr
  | some l =>
    rw [hl] at hr
    cases hr
    rcases he with rfl | rfl <;> simp [hl]
theorem FRun.hook {f : FuncId} {args : List AV} {hk : List AV → Heap → Option (AV × Heap)} {r : AV × Heap} (hT : T f = some (.hook hk)) (H : hk args h = some r) : FRun P T f args h r := by
  refine ⟨1, fun k h1 => ?_⟩
  obtain ⟨k, rfl⟩ : ∃ k', k = k' + 1 := ⟨k - 1, by omega⟩
  rw [evFn_hook hT, H]
/-- A hook from what a function comes to. -/
theorem hookOf (hm : P.follows .mixedOrders = true) (hT : TabOK P T) {f : FuncId} (hc : callable P f = true) {hk : List AV → Heap → Option (AV × Heap)}
    (hs : ∀ l h r, hk l h = some r → ∃ r1, FRun P T f l h r1 ∧ Drops h r1 r) : HookSound P f hk := by
  refine hookSound_of hm hT hc fun l h r he => ?_
  obtain ⟨r1, ⟨K, H⟩, h2⟩ := hs l h r he
  exact ⟨K, r1, H K (Nat.le_refl _), h2⟩
end
end Go.Proofs.YtdgnddidibpilaaDoor.AS
end
section
set_option autoImplicit false
namespace Go.Proofs.YtdgnddidibpilaaDoor.AS
open Go Go.RowKit

def CallLe (g g' : CallF) : Prop := ∀ f l h r, g f l h = some r → g' f l h = some r
section
variable {P : Program} {g g' : CallF}
theorem eV_mono (hg : CallLe g g') (tm : List AV) (h : Heap) (o : EOp) (r : AV × Heap) (H : eV g tm h o = some r) : eV g' tm h o = some r := by
  cases o with
  | call f args =>
    simp only [eV] at H ⊢
    split at H
    · rename_i l hl; (try rw [hl]); exact hg _ _ _ _ H
    · cases H
  | callv f args =>
    simp only [eV] at H ⊢
    split at H
    · rename_i k x y l h1 h2
      (try rw [h1, h2])
      split at H
      · rename_i hlt; (try rw [if_pos hlt]); exact hg _ _ _ _ H
      · cases H
    · rename_i k x y l h1 h2
      (try rw [h1, h2])
      split at H
      · rename_i hlt; (try rw [if_pos hlt]); exact hg _ _ _ _ H
      · cases H
    · rename_i b l h1 h2; (try rw [h1, h2]); exact hg _ _ _ _ H
    · cases H
  | _ => exact H
theorem opV_mono (hg : CallLe g g') (tm : List AV) (h : Heap) (o : AOp) (r : AV × Heap) (H : opV P g tm h o = some r) : opV P g' tm h o = some r := by
  cases o with
  | e o => exact eV_mono hg tm h o r H
  | _ => exact H
theorem evOps_mono (hg : CallLe g g') : ∀ (ops : List AOper) (tm : List AV) (h : Heap) (r : List AV × Heap), evOps P g ops tm h = some r → evOps P g' ops tm h = some r
  | [], _, _, _, H => H
  | o :: l, tm, h, r, H => by
    simp only [evOps] at H ⊢
    split at H
    · split at H
      · rename_i x h' h2; (try rw [opV_mono hg _ _ _ _ h2]); exact evOps_mono hg l _ _ _ H
      · cases H
    · exact evOps_mono hg l _ _ _ H
    · cases H
theorem runDraw_mono (hg : CallLe g g') : ∀ (ops : List AOper) (tm : List AV) (h : Heap) (r : List Heap × List (List AV × AV × Bool) × List AV × Heap), runDraw P g ops tm h = some r → runDraw P g' ops tm h = some r
  | [], _, _, _, H => H
  | o :: l, tm, h, r, H => by
    simp only [runDraw] at H ⊢
    split at H
    · split at H
      · rename_i x h' h2
        rw [opV_mono hg _ _ _ _ h2]
        split at H
        · rename_i a b c hr; simp only; (try rw [runDraw_mono hg l _ _ _ hr]); exact H
        · cases H
      · cases H
    · split at H
      · rename_i a b c hr; (try rw [runDraw_mono hg l _ _ _ hr]); exact H
      · cases H
    · cases H
theorem noY_le (hg : CallLe g g') : CallLe (noY g) (noY g') := fun f l h r H => by
  unfold noY at H ⊢
  split at H
  · rename_i hlt; (try rw [if_pos hlt]); exact hg _ _ _ _ H
  · cases H
theorem withY_le (hg : CallLe g g') {hnd hnd' : List AV → Heap → Option (AV × Heap)} (hh : ∀ l h r, hnd l h = some r → hnd' l h = some r) (b : Nat) : CallLe (withY g b hnd) (withY g' b hnd') := fun f l h r H => by
  unfold withY at H ⊢
  split at H
  · rename_i hlt; (try rw [if_pos hlt]); exact hh _ _ _ H
  · rename_i hlt; (try rw [if_neg hlt]); exact hg _ _ _ _ H
theorem rndH_le {ps : List Nat} {tm : List AV} {ra ra' rb rb' : List AV → Heap → Option Res} (h1 : ∀ t h r, ra t h = some r → ra' t h = some r) (h2 : ∀ t h r, rb t h = some r → rb' t h = some r) (l : List AV) (h : Heap) (r : AV × Heap) (H : rndH ps tm ra rb l h = some r) : rndH ps tm ra' rb' l h = some r := by
  unfold rndH at H ⊢
  split at H
  · rename_i hl
    rw [if_pos hl]
    split at H
    · rename_i tm1 h3 ha
      rw [h1 _ _ _ ha]
      simp only
      split at H
      · rename_i tm2 h4 hb; rw [h2 _ _ _ hb]; exact H
      · cases H
    · cases H
  · cases H
theorem evC_mono_g : ∀ (k : Nat) (g g' : CallF) (hg : CallLe g g') (k' : Nat) (c : ACode) (tm : List AV) (h : Heap) (r : Res), k ≤ k' → evC P g k c tm h = some r → evC P g' k' c tm h = some r := by
  intro k
  induction k with
  | zero => intro g g' hg k' c tm h r _ H; simp [evC] at H
  | succ k ihg =>
    intro g g' hg k' c tm h r hk H
    have ih := ihg g g' hg
    obtain ⟨k', rfl⟩ : ∃ j, k' = j + 1 := ⟨k' - 1, by omega⟩
    have hk : k ≤ k' := by omega
    cases c with
    | skip => exact H
    | label fg l => exact H
    | exit i => exact H
    | goto l => exact H
    | ret => exact H
    | reg ops =>
      simp only [evC, Option.map_eq_some_iff] at H ⊢
      obtain ⟨x, hx, e⟩ := H
      exact ⟨x, evOps_mono hg _ _ _ _ hx, e⟩
    | draw ops chk =>
      simp only [evC] at H ⊢
      split at H
      · rename_i a b c d hr; (try rw [runDraw_mono hg _ _ _ _ hr]); exact H
      · cases H
    | seq a b =>
      simp only [evC] at H ⊢
      split at H
      · rename_i tm' h' ha; rw [ih k' _ _ _ _ hk ha]; exact ih k' _ _ _ _ hk H
      · rename_i hn
        rw [ih k' _ _ _ _ hk H]
        obtain ⟨e, tm', h'⟩ := r
        cases e <;> first | rfl | exact absurd H (hn _ _)
    | cond o a b =>
      simp only [evC] at H ⊢
      split at H
      · rename_i t ht
        (try rw [ht])
        cases t
        · exact ih k' _ _ _ _ hk H
        · exact ih k' _ _ _ _ hk H
      · cases H
    | block i b =>
      simp only [evC] at H ⊢
      split at H
      · rename_i j tm' h' hb; rw [ih k' _ _ _ _ hk hb]; exact H
      · rename_i hn
        rw [ih k' _ _ _ _ hk H]
        obtain ⟨e, tm', h'⟩ := r
        cases e <;> first | rfl | exact absurd H (hn _ _ _)
    | loop fg b =>
      simp only [evC] at H ⊢
      split at H
      · rename_i tm' h' ha; rw [ih k' _ _ _ _ hk ha]; exact ih k' _ _ _ _ hk H
      · rename_i hn
        rw [ih k' _ _ _ _ hk H]
        obtain ⟨e, tm', h'⟩ := r
        cases e <;> first | rfl | exact absurd H (hn _ _)
    | scope fg b cur =>
      simp only [evC] at H ⊢
      split at H
      · rename_i l tm' h' ha
        rw [ih k' _ _ _ _ hk ha]
        simp only
        split at H
        · rename_i rest hr; (try rw [hr]); exact ih k' _ _ _ _ hk H
        · rename_i hr; (try rw [hr]); exact H
      · rename_i hn
        rw [ih k' _ _ _ _ hk H]
        obtain ⟨e, tm', h'⟩ := r
        cases e <;> first | rfl | exact absurd H (hn _ _ _)
    | rangeF f ps asg body =>
      simp only [evC] at H ⊢
      split at H
      case h_2 => cases H
      rename_i gf cap hf
      (try rw [hf])
      (try simp only)
      split at H
      case h_2 => cases H
      rename_i nt itb hpf
      (try rw [hpf])
      (try simp only)
      have hr := rndH_le (ps := ps) (tm := tm) (fun t h r => ihg _ _ (noY_le hg) k' asg t h r hk) (fun t h r => ihg _ _ (noY_le hg) k' body t h r hk)
      have hy := withY_le (noY_le hg) hr h.length
      split at H
      · rename_i tm2 h2 he; rw [ihg _ _ hy k' _ _ _ _ hk he]; exact H
      · rename_i tm2 h2 he; rw [ihg _ _ hy k' _ _ _ _ hk he]; exact H
      · cases H
theorem evC_mono (hg : CallLe g g') (k k' : Nat) (c : ACode) (tm : List AV) (h : Heap) (r : Res) (hk : k ≤ k') (H : evC P g k c tm h = some r) : evC P g' k' c tm h = some r := evC_mono_g k g g' hg k' c tm h r hk H
theorem evFn_mono1 {T : FuncId → Option AFunc} : ∀ (k : Nat), CallLe (evFn P T k) (evFn P T (k + 1)) := by
  intro k
  induction k with
  | zero => intro f l h r H; simp [evFn] at H
  | succ k ih =>
    intro f l h r H
    cases hT : T f with
    | none => simp [evFn, hT] at H
    | some x =>
      cases x with
      | hook hk => rw [evFn_hook hT] at H ⊢; exact H
      | code nt res body =>
        rw [evFn_code hT] at H ⊢
        split at H
        · rename_i tm h' hb; rw [evC_mono ih (k + 1) (k + 1 + 1) _ _ _ _ (by omega) hb]; exact H
        · rename_i tm h' hb; rw [evC_mono ih (k + 1) (k + 1 + 1) _ _ _ _ (by omega) hb]; exact H
        · cases H
theorem evFn_mono {T : FuncId → Option AFunc} (k k' : Nat) (hk : k ≤ k') : CallLe (evFn P T k) (evFn P T k') := by
  intro f l h r H
  induction hk with
  | refl => exact H
  | step _ ih => exact evFn_mono1 _ _ _ _ _ ih
theorem FRun.one {T : FuncId → Option AFunc} {f : FuncId} {l : List AV} {h : Heap} {r : AV × Heap} (k : Nat) (H : evFn P T k f l h = some r) : FRun P T f l h r := ⟨k, fun _ hk => evFn_mono _ _ hk _ _ _ _ H⟩
theorem Run.one {T : FuncId → Option AFunc} {c : ACode} {tm : List AV} {h : Heap} {r : Res} (k j : Nat) (H : evC P (evFn P T j) k c tm h = some r) : Run P T c tm h r :=
  ⟨k + j, fun k' j' hk hj => evC_mono (evFn_mono _ _ (by omega)) _ _ _ _ _ _ (by omega) H⟩
theorem Run.get {T : FuncId → Option AFunc} {c : ACode} {tm : List AV} {h : Heap} {r : Res} (H : Run P T c tm h r) : ∃ k, evC P (evFn P T k) k c tm h = some r := by
  obtain ⟨K, H⟩ := H; exact ⟨K, H K K (Nat.le_refl _) (Nat.le_refl _)⟩
/-- A scope's body that comes to another code. -/
theorem Run.scope_as {T : FuncId → Option AFunc} {fg : List Nat} {b c c' : ACode} {tm tm' : List AV} {h h' : Heap} {r : Res} (Hc : ∀ r, Run P T c' tm' h' r → Run P T c tm h r) (H : Run P T (.scope fg b c') tm' h' r) : Run P T (.scope fg b c) tm h r := by
  obtain ⟨k, H⟩ := H.get
  cases k with
  | zero => simp [evC] at H
  | succ k =>
    simp only [evC] at H
    split at H
    · rename_i l tm1 h1 ha
      have hr := Hc _ (Run.one _ _ ha)
      split at H
      · rename_i rest hf; exact Run.scope_goto hr hf (Run.one _ _ H)
      · rename_i hf
        cases H
        obtain ⟨K, hr⟩ := hr
        refine ⟨K + 1, fun k j hk hj => ?_⟩
        obtain ⟨k, rfl⟩ : ∃ k', k = k' + 1 := ⟨k - 1, by omega⟩
        simp only [evC]
        rw [hr k j (by omega) (by omega)]
        simp only [hf]
    · rename_i hn
      obtain ⟨e, tm1, h1⟩ := r
      exact Run.scope_end (fun l he => hn l tm1 h1 (he ▸ H)) (Hc _ (Run.one _ _ H))
/-- A run ahead of a label. -/
theorem Run.skip_l {T : FuncId → Option AFunc} {a : ACode} {tm : List AV} {h : Heap} {r : Res} (H : Run P T (.seq .skip a) tm h r) : Run P T a tm h r := by
  obtain ⟨k, H⟩ := H.get
  cases k with
  | zero => simp [evC] at H
  | succ k =>
    simp only [evC] at H
    cases k with
    | zero => simp [evC] at H
    | succ k => exact Run.one _ _ H
end
end Go.Proofs.YtdgnddidibpilaaDoor.AS
end
section
set_option autoImplicit false
namespace Go.Proofs.YtdgnddidibpilaaDoor.AS
open Go Go.RowKit

/-! ### Memory, as a walk by 'simp' wants it -/
def bk (h : Heap) (b : Nat) : Option Blk := h[b]?
section
variable {h l : Heap} {k k' : Blk} {b b' : Nat}
theorem bk_lt (e : bk h b = some k) : b < h.length := (List.getElem?_eq_some_iff.1 e).1
@[simp] theorem bk_set_same (hb : b < h.length) : bk (h.set b k) b = some k := List.getElem?_set_self hb
@[simp] theorem bk_set_ne (hn : b' ≠ b) : bk (h.set b' k) b = bk h b := List.getElem?_set_ne hn
@[simp] theorem bk_app (hb : b < h.length) : bk (h ++ l) b = bk h b := List.getElem?_append_left hb
@[simp] theorem bk_ge (e : h.length ≤ b) : bk (h ++ l) b = l[b - h.length]? := List.getElem?_append_right e
@[simp] theorem bk_new' (e : b = h.length) : bk (h ++ [k]) b = some k := by subst e; simp [bk]
@[simp] theorem bk_new : bk (h ++ [k]) h.length = some k := by simp [bk]

def rdK (k : Option Blk) (v o n : Nat) : Option (List AV) :=
  match k with
  | some ⟨v', _, _, _, c⟩ => if v' = v ∧ o + n ≤ c.length then some ((c.drop o).take n) else none
  | none => none
theorem rdn_K (v o n : Nat) : rdn h b v o n = rdK (bk h b) v o n := by
  unfold rdn rdK bk
  cases h[b]? <;> rfl
@[simp] theorem rdK_s (v v' e sz : Nat) (rw : Bool) (c : List AV) (o n : Nat) : rdK (some ⟨v', e, sz, rw, c⟩) v o n = if v' = v ∧ o + n ≤ c.length then some ((c.drop o).take n) else none := rfl
def wrK (h : Heap) (b : Nat) (k : Option Blk) (v o : Nat) (l : List AV) : Option Heap :=
  match k with
  | some ⟨v', e, sz, rw, c⟩ => if v' = v ∧ rw = true ∧ o + l.length ≤ c.length then some (h.set b ⟨v', e, sz, rw, c.take o ++ l ++ c.drop (o + l.length)⟩) else none
  | none => none
theorem wrn_K (v o : Nat) (l : List AV) : wrn h b v o l = wrK h b (bk h b) v o l := by
  unfold wrn wrK bk
  cases h[b]? <;> rfl
@[simp] theorem wrK_s (v v' e sz : Nat) (rw : Bool) (c : List AV) (o : Nat) (l : List AV) : wrK h b (some ⟨v', e, sz, rw, c⟩) v o l = if v' = v ∧ rw = true ∧ o + l.length ≤ c.length then some (h.set b ⟨v', e, sz, rw, c.take o ++ l ++ c.drop (o + l.length)⟩) else none := rfl
end
section
variable {P : Program} {g : CallF} {tm : List AV} {h : Heap}
def nilV (a : Option AV) : Option AV :=
  match a with
    | some (.pt b v o) => some (.pt b v o)
    | some (.fn (.func f) x y) => some (.fn (.func f) x y)
    | some (.s (.func (.func f) x y)) => some (.s (.func (.func f) x y))
    | _ => none
@[simp] theorem pV_nilck (x : Operand) : pV P tm (.nilck x) = nilV (evO tm x) := rfl
@[simp] theorem nilV_p (b v o : Nat) : nilV (some (.pt b v o)) = some (.pt b v o) := rfl
@[simp] theorem nilV_f (f : FuncId) (x y : List AV) : nilV (some (.fn (.func f) x y)) = some (.fn (.func f) x y) := rfl
@[simp] theorem nilV_g (f : FuncId) (x y : Array Value) : nilV (some (.s (.func (.func f) x y))) = some (.s (.func (.func f) x y)) := rfl
def faV (off : Nat) (a : Option AV) : Option AV := match a with | some (.pt b v o) => some (.pt b v (o + off)) | _ => none
@[simp] theorem pV_faddr (off : Nat) (x : Operand) : pV P tm (.faddr off x) = faV off (evO tm x) := rfl
@[simp] theorem faV_p (off b v o : Nat) : faV off (some (.pt b v o)) = some (.pt b v (o + off)) := rfl
def fldV (agg : Bool) (off n : Nat) (a : Option AV) : Option AV := match a.bind aggOf with
    | some l => if off + n ≤ l.length then oneOr agg ((l.drop off).take n) else none
    | none => none
@[simp] theorem pV_fld (agg : Bool) (off n : Nat) (x : Operand) : pV P tm (.fld agg off n x) = fldV agg off n (evO tm x) := rfl
@[simp] theorem fldV_a (agg : Bool) (off n : Nat) (l : List AV) : fldV agg off n (some (.ag l)) = if off + n ≤ l.length then oneOr agg ((l.drop off).take n) else none := rfl
def iaV (sz : Nat) (a i : Option AV) : Option AV := match a, i.bind asI with
    | some (.sl b v o n _), some k => if 0 ≤ k ∧ k < n then some (.pt b v (o + k.toNat * sz)) else none
    | _, _ => none
@[simp] theorem pV_iaddr (sz : Nat) (x i : Operand) : pV P tm (.iaddr sz x i) = iaV sz (evO tm x) (evO tm i) := rfl
@[simp] theorem iaV_s (sz b v o n z : Nat) (k : IntKind) (i : Int) : iaV sz (some (.sl b v o n z)) (some (.s (.int k i))) = if 0 ≤ i ∧ i < n then some (.pt b v (o + i.toNat * sz)) else none := rfl
def extV (i : Nat) (a : Option AV) : Option AV := match a with
    | some (.tp l) => l[i]?
    | some (.s (.tuple vs)) => (vs[i]?).map .s
    | _ => none
@[simp] theorem pV_ext (x : Operand) (i : Nat) : pV P tm (.ext x i) = extV i (evO tm x) := rfl
@[simp] theorem extV_t (i : Nat) (l : List AV) : extV i (some (.tp l)) = l[i]? := rfl
def lenA (a : Option AV) : Option AV := match a with
    | some (.sl _ _ _ n _) => some (.s (.int .i64 n))
    | some (.s (.slice none 0 0)) => some (.s (.int .i64 0))
    | _ => none
@[simp] theorem pV_lenS (x : Operand) : pV P tm (.lenS x) = lenA (evO tm x) := rfl
@[simp] theorem lenA_s (b v o n z : Nat) : lenA (some (.sl b v o n z)) = some (.s (.int .i64 n)) := rfl
@[simp] theorem lenA_n : lenA (some (.s (.slice none 0 0))) = some (.s (.int .i64 0)) := rfl
def eqnV (neg : Bool) (k : Nat) (a : Option AV) : Option AV := match k, a with
    | 0, some (.sl _ _ _ _ _) => some (.s (.bool neg))
    | 0, some (.s (.slice none _ _)) => some (.s (.bool !neg))
    | 1, some (.pt _ _ _) => some (.s (.bool neg))
    | 1, some (.s (.pointer none)) => some (.s (.bool !neg))
    | 2, some (.fn _ _ _) => some (.s (.bool neg))
    | 2, some (.s (.func _ _ _)) => some (.s (.bool neg))
    | 2, some (.s .nilFunc) => some (.s (.bool !neg))
    | _, _ => none
@[simp] theorem pV_eqnil (neg : Bool) (k : Nat) (x : Operand) : pV P tm (.eqnil neg k x) = eqnV neg k (evO tm x) := rfl
@[simp] theorem eqnV_sl (neg : Bool) (b v o n z : Nat) : eqnV neg 0 (some (.sl b v o n z)) = some (.s (.bool neg)) := rfl
@[simp] theorem eqnV_nil (neg : Bool) (a b : Nat) : eqnV neg 0 (some (.s (.slice none a b))) = some (.s (.bool !neg)) := rfl
def buV (zero : List Value) (p : Option (List (Nat × Nat × AV))) : Option AV := match p with
    | some l => (fillA (zero.map .s) l).map .ag
    | none => none
@[simp] theorem pV_build (zero : List Value) (parts : List (Nat × Nat × Operand)) : pV P tm (.build zero parts) = buV zero (evParts tm parts) := rfl
@[simp] theorem buV_s (zero : List Value) (l : List (Nat × Nat × AV)) : buV zero (some l) = (fillA (zero.map .s) l).map .ag := rfl
def conP (o n : Nat) (a : Option AV) (r : Option (List (Nat × Nat × AV))) : Option (List (Nat × Nat × AV)) := match a, r with | some a, some b => some ((o, n, a) :: b) | _, _ => none
@[simp] theorem evParts_nil : evParts tm [] = some [] := rfl
@[simp] theorem evParts_cons (o n : Nat) (x : Operand) (l : List (Nat × Nat × Operand)) : evParts tm ((o, n, x) :: l) = conP o n (evO tm x) (evParts tm l) := rfl
@[simp] theorem conP_s (o n : Nat) (a : AV) (l : List (Nat × Nat × AV)) : conP o n (some a) (some l) = some ((o, n, a) :: l) := rfl
def conO (a : Option AV) (r : Option (List AV)) : Option (List AV) := match a, r with | some a, some b => some (a :: b) | _, _ => none
@[simp] theorem evOs_nil : evOs tm [] = some [] := rfl
@[simp] theorem evOs_cons (x : Operand) (l : List Operand) : evOs tm (x :: l) = conO (evO tm x) (evOs tm l) := rfl
@[simp] theorem conO_s (a : AV) (l : List AV) : conO (some a) (some l) = some (a :: l) := rfl
def ldV (P : Program) (agg : Bool) (n : Nat) (h : Heap) (a : Option AV) : Option AV := match a with
    | some (.pt b v o) => (rdK (bk h b) v o n).bind (oneOr agg)
    | some (.s (.pointer (some ⟨g, o, none⟩))) => tabV P agg n g o
    | _ => none
@[simp] theorem rV_load (agg : Bool) (n : Nat) (x : Operand) : rV P tm h (.load agg n x) = ldV P agg n h (evO tm x) := by
  simp only [rV, ldV, rdn_K]; rfl
@[simp] theorem ldV_g (agg : Bool) (n g o : Nat) : ldV P agg n h (some (.s (.pointer (some ⟨g, o, none⟩)))) = tabV P agg n g o := rfl
@[simp] theorem ldV_p (agg : Bool) (n b v o : Nat) : ldV P agg n h (some (.pt b v o)) = (rdK (bk h b) v o n).bind (oneOr agg) := rfl
def stV (n : Nat) (h : Heap) (a x : Option AV) : Option (AV × Heap) := match a, x.bind cellsOf with
    | some (.pt b v o), some l => if l.length = n ∧ l.all isCell then (wrK h b (bk h b) v o l).map fun h' => (.s undef, h') else none
    | _, _ => none
@[simp] theorem eV_store (n : Nat) (a x : Operand) : eV g tm h (.store n a x) = stV n h (evO tm a) (evO tm x) := by
  simp only [eV, stV, wrn_K]; rfl
def stW (n : Nat) (h : Heap) (b v o : Nat) (x : Option (List AV)) : Option (AV × Heap) := match x with
    | some l => if l.length = n ∧ l.all isCell then (wrK h b (bk h b) v o l).map fun h' => (.s undef, h') else none
    | _ => none
@[simp] theorem stV_p (n b v o : Nat) (x : AV) : stV n h (some (.pt b v o)) (some x) = stW n h b v o (cellsOf x) := by
  unfold stV stW; cases hx : cellsOf x <;> simp [hx]
@[simp] theorem stW_s (n b v o : Nat) (l : List AV) : stW n h b v o (some l) = if l.length = n ∧ l.all isCell then (wrK h b (bk h b) v o l).map fun h' => (.s undef, h') else none := rfl
def caV (g : CallF) (h : Heap) (f : FuncId) (a : Option (List AV)) : Option (AV × Heap) := match a with | some l => g f l h | none => none
@[simp] theorem eV_call (f : FuncId) (args : List Operand) : eV g tm h (.call f args) = caV g h f (evOs tm args) := rfl
@[simp] theorem caV_s (f : FuncId) (l : List AV) : caV g h f (some l) = g f l h := rfl
def boV (e : TypeId) (sz : Nat) (h : Heap) (a : Option AV) : Option (AV × Heap) := match a.bind cellsOf with
    | some l => some (.pt h.length 0 0, h ++ [⟨0, e, sz, true, l⟩])
    | none => none
@[simp] theorem eV_box (e : TypeId) (sz : Nat) (x : Operand) : eV g tm h (.box e sz x) = boV e sz h (evO tm x) := rfl
def boW (e : TypeId) (sz : Nat) (h : Heap) (a : Option (List AV)) : Option (AV × Heap) := match a with
    | some l => some (.pt h.length 0 0, h ++ [⟨0, e, sz, true, l⟩])
    | none => none
@[simp] theorem boV_s (e : TypeId) (sz : Nat) (x : AV) : boV e sz h (some x) = boW e sz h (cellsOf x) := rfl
@[simp] theorem boW_s (e : TypeId) (sz : Nat) (l : List AV) : boW e sz h (some l) = some (.pt h.length 0 0, h ++ [⟨0, e, sz, true, l⟩]) := rfl
@[simp] theorem eV_new (e : TypeId) (sz : Nat) (cells : List Value) : eV g tm h (.new e sz cells) = some (.pt h.length 0 0, h ++ [⟨0, e, sz, true, cells.map .s⟩]) := rfl
def bsV (e : TypeId) (sz len : Nat) (cells : List Value) (h : Heap) (p : Option (List (Nat × Nat × AV))) : Option (AV × Heap) := match p with
    | some l => match fillA (cells.map .s) l with
      | some c => some (.sl h.length 0 0 len sz, h ++ [⟨0, e, sz, true, c⟩])
      | none => none
    | none => none
@[simp] theorem eV_bslice (e : TypeId) (sz len : Nat) (cells : List Value) (parts : List (Nat × Nat × Operand)) : eV g tm h (.bslice e sz len cells parts) = bsV e sz len cells h (evParts tm parts) := rfl
def bsW (e : TypeId) (sz len : Nat) (h : Heap) (p : Option (List AV)) : Option (AV × Heap) := match p with
    | some c => some (.sl h.length 0 0 len sz, h ++ [⟨0, e, sz, true, c⟩])
    | none => none
@[simp] theorem bsV_s (e : TypeId) (sz len : Nat) (cells : List Value) (l : List (Nat × Nat × AV)) : bsV e sz len cells h (some l) = bsW e sz len h (fillA (cells.map .s) l) := rfl
@[simp] theorem bsW_s (e : TypeId) (sz len : Nat) (c : List AV) : bsW e sz len h (some c) = some (.sl h.length 0 0 len sz, h ++ [⟨0, e, sz, true, c⟩]) := rfl

def apV (e : TypeId) (sz bytes : Nat) (h : Heap) (a : Option AV) (y : Option (Nat × List AV)) : Option (AV × Heap) := match a, y with
    | some (.s (.slice none 0 0)), some (m, l) =>
      if m = 0 then some (.s (.slice none 0 0), h)
      else if l.all isCell ∧ m * bytes ≤ 140737488355328 ∧ m ≤ 9223372036854775807 then some (.sl h.length 0 0 m sz, h ++ [⟨0, e, sz, true, l⟩]) else none
    | some (.sl b v o n _), some (m, l) => match bk h b with
      | some k => if k.ver = v ∧ k.rw = true ∧ k.e = e ∧ k.sz = sz ∧ o + n * sz ≤ k.cells.length ∧ l.all isCell ∧ (n + m) * bytes ≤ 140737488355328 ∧ n + m ≤ 9223372036854775807 then
          some (.sl b (v + 1) 0 (n + m) sz, h.set b { k with ver := v + 1, cells := (k.cells.drop o).take (n * sz) ++ l }) else none
      | none => none
    | _, _ => none
def srcW (sz : Nat) (h : Heap) (y : Option AV) : Option (Nat × List AV) := y.bind (srcA h sz)
@[simp] theorem eV_app (e : TypeId) (sz bytes : Nat) (x y : Operand) : eV g tm h (.app e sz bytes x y) = apV e sz bytes h (evO tm x) (srcW sz h (evO tm y)) := rfl
@[simp] theorem srcW_sl (sz b v o n z : Nat) : srcW sz h (some (.sl b v o n z)) = (rdK (bk h b) v o (n * sz)).map fun l => (n, l) := by simp [srcW, srcA, rdn_K]
@[simp] theorem srcW_nil (sz : Nat) : srcW sz h (some (.s (.slice none 0 0))) = some (0, []) := rfl
@[simp] theorem srcW_str (s : ByteArray) : srcW 1 h (some (.s (.string s))) = some (s.size, s.data.toList.map fun b => .s (.int .u8 b.toNat)) := by simp [srcW, srcA]
@[simp] theorem apV_nil0 (e : TypeId) (sz bytes : Nat) (l : List AV) : apV e sz bytes h (some (.s (.slice none 0 0))) (some (0, l)) = some (.s (.slice none 0 0), h) := rfl
theorem apV_nil (e : TypeId) (sz bytes m : Nat) (l : List AV) (hm : m ≠ 0) (hl : l.all isCell = true) (hb : m * bytes ≤ 140737488355328) (hn : m ≤ 9223372036854775807) :
    apV e sz bytes h (some (.s (.slice none 0 0))) (some (m, l)) = some (.sl h.length 0 0 m sz, h ++ [⟨0, e, sz, true, l⟩]) := by
  simp only [apV]; rw [if_neg hm, if_pos ⟨hl, hb, hn⟩]
def apK (e sz bytes : Nat) (h : Heap) (b v o n m : Nat) (l : List AV) (k : Option Blk) : Option (AV × Heap) :=
  match k with
  | some k => if k.ver = v ∧ k.rw = true ∧ k.e = e ∧ k.sz = sz ∧ o + n * sz ≤ k.cells.length ∧ l.all isCell ∧ (n + m) * bytes ≤ 140737488355328 ∧ n + m ≤ 9223372036854775807 then
          some (.sl b (v + 1) 0 (n + m) sz, h.set b { k with ver := v + 1, cells := (k.cells.drop o).take (n * sz) ++ l }) else none
  | none => none
@[simp] theorem apV_sl (e : TypeId) (sz bytes m b v o n z : Nat) (l : List AV) : apV e sz bytes h (some (.sl b v o n z)) (some (m, l)) = apK e sz bytes h b v o n m l (bk h b) := rfl
theorem apK_s (e sz bytes b v v' o n m : Nat) (rw : Bool) (e' sz' : Nat) (c l : List AV) (hc : v' = v ∧ rw = true ∧ e' = e ∧ sz' = sz ∧ o + n * sz ≤ c.length ∧ l.all isCell = true ∧ (n + m) * bytes ≤ 140737488355328 ∧ n + m ≤ 9223372036854775807) :
    apK e sz bytes h b v o n m l (some ⟨v', e', sz', rw, c⟩) = some (.sl b (v + 1) 0 (n + m) sz, h.set b ⟨v + 1, e', sz', rw, (c.drop o).take (n * sz) ++ l⟩) := if_pos hc
end
end Go.Proofs.YtdgnddidibpilaaDoor.AS
end
