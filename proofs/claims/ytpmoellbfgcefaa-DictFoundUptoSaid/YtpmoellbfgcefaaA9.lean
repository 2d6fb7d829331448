/- Of our own: an abstract machine beside the model, its soundness, and walks of the program in it. -/
import Derived.Test.YtpmoellbfgcefaaA8
set_option linter.unusedSimpArgs false
set_option linter.unusedVariables false
section
set_option autoImplicit false
namespace Go.Proofs.Ytpmoellbfgcefaa.AS
open Go Go.RowKit

/-! ### Memory, as a walk by 'simp' wants it -/
def bk (h : Heap) (b : Nat) : Option Blk := h[b]?
section
variable {h l : Heap} {k k' : Blk} {b b' : Nat}
theorem bk_lt (e : bk h b = some k) : b < h.length := (List.getElem?_eq_some_iff.1 e).1
@[simp] theorem bk_set_same (hb : b < h.length) : bk (h.set b k) b = some k := List.getElem?_set_self hb
@[simp] theorem bk_set_ne (hn : b' ≠ b) : bk (h.set b' k) b = bk h b := List.getElem?_set_ne hn
@[simp] theorem bk_app (hb : b < h.length) : bk (h ++ l) b = bk h b := List.getElem?_append_left hb
@[simp] theorem bk_ge (e : h.length ≤ b) : bk (h ++ l) b = l[b - h.length]? := List.getElem?_append_right e
@[simp] theorem bk_new' (e : b = h.length) : bk (h ++ [k]) b = some k := by subst e; simp [bk]
@[simp] theorem bk_new : bk (h ++ [k]) h.length = some k := by simp [bk]

def rdK (k : Option Blk) (v o n : Nat) : Option (List AV) :=
  match k with
  | some ⟨v', _, _, _, c⟩ => if v' = v ∧ o + n ≤ c.length then some ((c.drop o).take n) else none
  | none => none
theorem rdn_K (v o n : Nat) : rdn h b v o n = rdK (bk h b) v o n := by
  unfold rdn rdK bk
  cases h[b]? <;> rfl
@[simp] theorem rdK_s (v v' e sz : Nat) (rw : Bool) (c : List AV) (o n : Nat) : rdK (some ⟨v', e, sz, rw, c⟩) v o n = if v' = v ∧ o + n ≤ c.length then some ((c.drop o).take n) else none := rfl
def wrK (h : Heap) (b : Nat) (k : Option Blk) (v o : Nat) (l : List AV) : Option Heap :=
  match k with
  | some ⟨v', e, sz, rw, c⟩ => if v' = v ∧ rw = true ∧ o + l.length ≤ c.length then some (h.set b ⟨v', e, sz, rw, c.take o ++ l ++ c.drop (o + l.length)⟩) else none
  | none => none
theorem wrn_K (v o : Nat) (l : List AV) : wrn h b v o l = wrK h b (bk h b) v o l := by
  unfold wrn wrK bk
  cases h[b]? <;> rfl
@[simp] theorem wrK_s (v v' e sz : Nat) (rw : Bool) (c : List AV) (o : Nat) (l : List AV) : wrK h b (some ⟨v', e, sz, rw, c⟩) v o l = if v' = v ∧ rw = true ∧ o + l.length ≤ c.length then some (h.set b ⟨v', e, sz, rw, c.take o ++ l ++ c.drop (o + l.length)⟩) else none := rfl
end
section
variable {P : Program} {g : CallF} {tm : List AV} {h : Heap}
def nilV (a : Option AV) : Option AV :=
  match a with
    | some (.pt b v o) => some (.pt b v o)
    | some (.fn (.func f) x y) => some (.fn (.func f) x y)
    | some (.s (.func (.func f) x y)) => some (.s (.func (.func f) x y))
    | _ => none
@[simp] theorem pV_nilck (x : Operand) : pV P tm (.nilck x) = nilV (evO tm x) := rfl
@[simp] theorem nilV_p (b v o : Nat) : nilV (some (.pt b v o)) = some (.pt b v o) := rfl
@[simp] theorem nilV_f (f : FuncId) (x y : List AV) : nilV (some (.fn (.func f) x y)) = some (.fn (.func f) x y) := rfl
@[simp] theorem nilV_g (f : FuncId) (x y : Array Value) : nilV (some (.s (.func (.func f) x y))) = some (.s (.func (.func f) x y)) := rfl
def faV (off : Nat) (a : Option AV) : Option AV := match a with | some (.pt b v o) => some (.pt b v (o + off)) | _ => none
@[simp] theorem pV_faddr (off : Nat) (x : Operand) : pV P tm (.faddr off x) = faV off (evO tm x) := rfl
@[simp] theorem faV_p (off b v o : Nat) : faV off (some (.pt b v o)) = some (.pt b v (o + off)) := rfl
def fldV (agg : Bool) (off n : Nat) (a : Option AV) : Option AV := match a.bind aggOf with
    | some l => if off + n ≤ l.length then oneOr agg ((l.drop off).take n) else none
    | none => none
@[simp] theorem pV_fld (agg : Bool) (off n : Nat) (x : Operand) : pV P tm (.fld agg off n x) = fldV agg off n (evO tm x) := rfl
@[simp] theorem fldV_a (agg : Bool) (off n : Nat) (l : List AV) : fldV agg off n (some (.ag l)) = if off + n ≤ l.length then oneOr agg ((l.drop off).take n) else none := rfl
def iaV (sz : Nat) (a i : Option AV) : Option AV := match a, i.bind asI with
    | some (.sl b v o n _), some k => if 0 ≤ k ∧ k < n then some (.pt b v (o + k.toNat * sz)) else none
    | _, _ => none
@[simp] theorem pV_iaddr (sz : Nat) (x i : Operand) : pV P tm (.iaddr sz x i) = iaV sz (evO tm x) (evO tm i) := rfl
@[simp] theorem iaV_s (sz b v o n z : Nat) (k : IntKind) (i : Int) : iaV sz (some (.sl b v o n z)) (some (.s (.int k i))) = if 0 ≤ i ∧ i < n then some (.pt b v (o + i.toNat * sz)) else none := rfl
def extV (i : Nat) (a : Option AV) : Option AV := match a with
    | some (.tp l) => l[i]?
    | some (.s (.tuple vs)) => (vs[i]?).map .s
    | _ => none
@[simp] theorem pV_ext (x : Operand) (i : Nat) : pV P tm (.ext x i) = extV i (evO tm x) := rfl
@[simp] theorem extV_t (i : Nat) (l : List AV) : extV i (some (.tp l)) = l[i]? := rfl
def lenA (a : Option AV) : Option AV := match a with
    | some (.sl _ _ _ n _) => some (.s (.int .i64 n))
    | some (.s (.slice none 0 0)) => some (.s (.int .i64 0))
    | _ => none
@[simp] theorem pV_lenS (x : Operand) : pV P tm (.lenS x) = lenA (evO tm x) := rfl
@[simp] theorem lenA_s (b v o n z : Nat) : lenA (some (.sl b v o n z)) = some (.s (.int .i64 n)) := rfl
@[simp] theorem lenA_n : lenA (some (.s (.slice none 0 0))) = some (.s (.int .i64 0)) := rfl
def eqnV (neg : Bool) (k : Nat) (a : Option AV) : Option AV := match k, a with
    | 0, some (.sl _ _ _ _ _) => some (.s (.bool neg))
    | 0, some (.s (.slice none _ _)) => some (.s (.bool !neg))
    | 1, some (.pt _ _ _) => some (.s (.bool neg))
    | 1, some (.s (.pointer none)) => some (.s (.bool !neg))
    | 2, some (.fn _ _ _) => some (.s (.bool neg))
    | 2, some (.s (.func _ _ _)) => some (.s (.bool neg))
    | 2, some (.s .nilFunc) => some (.s (.bool !neg))
    | _, _ => none
@[simp] theorem pV_eqnil (neg : Bool) (k : Nat) (x : Operand) : pV P tm (.eqnil neg k x) = eqnV neg k (evO tm x) := rfl
@[simp] theorem eqnV_sl (neg : Bool) (b v o n z : Nat) : eqnV neg 0 (some (.sl b v o n z)) = some (.s (.bool neg)) := rfl
@[simp] theorem eqnV_nil (neg : Bool) (a b : Nat) : eqnV neg 0 (some (.s (.slice none a b))) = some (.s (.bool !neg)) := rfl
def buV (zero : List Value) (p : Option (List (Nat × Nat × AV))) : Option AV := match p with
    | some l => (fillA (zero.map .s) l).map .ag
    | none => none
@[simp] theorem pV_build (zero : List Value) (parts : List (Nat × Nat × Operand)) : pV P tm (.build zero parts) = buV zero (evParts tm parts) := rfl
@[simp] theorem buV_s (zero : List Value) (l : List (Nat × Nat × AV)) : buV zero (some l) = (fillA (zero.map .s) l).map .ag := rfl
def conP (o n : Nat) (a : Option AV) (r : Option (List (Nat × Nat × AV))) : Option (List (Nat × Nat × AV)) := match a, r with | some a, some b => some ((o, n, a) :: b) | _, _ => none
@[simp] theorem evParts_nil : evParts tm [] = some [] := rfl
@[simp] theorem evParts_cons (o n : Nat) (x : Operand) (l : List (Nat × Nat × Operand)) : evParts tm ((o, n, x) :: l) = conP o n (evO tm x) (evParts tm l) := rfl
@[simp] theorem conP_s (o n : Nat) (a : AV) (l : List (Nat × Nat × AV)) : conP o n (some a) (some l) = some ((o, n, a) :: l) := rfl
def conO (a : Option AV) (r : Option (List AV)) : Option (List AV) := match a, r with | some a, some b => some (a :: b) | _, _ => none
@[simp] theorem evOs_nil : evOs tm [] = some [] := rfl
@[simp] theorem evOs_cons (x : Operand) (l : List Operand) : evOs tm (x :: l) = conO (evO tm x) (evOs tm l) := rfl
@[simp] theorem conO_s (a : AV) (l : List AV) : conO (some a) (some l) = some (a :: l) := rfl
def ldV (agg : Bool) (n : Nat) (h : Heap) (a : Option AV) : Option AV := match a with
    | some (.pt b v o) => (rdK (bk h b) v o n).bind (oneOr agg)
    | _ => none
@[simp] theorem rV_load (agg : Bool) (n : Nat) (x : Operand) : rV tm h (.load agg n x) = ldV agg n h (evO tm x) := by
  simp only [rV, ldV, rdn_K]; rfl
@[simp] theorem ldV_p (agg : Bool) (n b v o : Nat) : ldV agg n h (some (.pt b v o)) = (rdK (bk h b) v o n).bind (oneOr agg) := rfl
def stV (n : Nat) (h : Heap) (a x : Option AV) : Option (AV × Heap) := match a, x.bind cellsOf with
    | some (.pt b v o), some l => if l.length = n ∧ l.all isCell then (wrK h b (bk h b) v o l).map fun h' => (.s undef, h') else none
    | _, _ => none
@[simp] theorem eV_store (n : Nat) (a x : Operand) : eV g tm h (.store n a x) = stV n h (evO tm a) (evO tm x) := by
  simp only [eV, stV, wrn_K]; rfl
def stW (n : Nat) (h : Heap) (b v o : Nat) (x : Option (List AV)) : Option (AV × Heap) := match x with
    | some l => if l.length = n ∧ l.all isCell then (wrK h b (bk h b) v o l).map fun h' => (.s undef, h') else none
    | _ => none
@[simp] theorem stV_p (n b v o : Nat) (x : AV) : stV n h (some (.pt b v o)) (some x) = stW n h b v o (cellsOf x) := by
  unfold stV stW; cases hx : cellsOf x <;> simp [hx]
@[simp] theorem stW_s (n b v o : Nat) (l : List AV) : stW n h b v o (some l) = if l.length = n ∧ l.all isCell then (wrK h b (bk h b) v o l).map fun h' => (.s undef, h') else none := rfl
def caV (g : CallF) (h : Heap) (f : FuncId) (a : Option (List AV)) : Option (AV × Heap) := match a with | some l => g f l h | none => none
@[simp] theorem eV_call (f : FuncId) (args : List Operand) : eV g tm h (.call f args) = caV g h f (evOs tm args) := rfl
@[simp] theorem caV_s (f : FuncId) (l : List AV) : caV g h f (some l) = g f l h := rfl
def boV (e : TypeId) (sz : Nat) (h : Heap) (a : Option AV) : Option (AV × Heap) := match a.bind cellsOf with
    | some l => some (.pt h.length 0 0, h ++ [⟨0, e, sz, true, l⟩])
    | none => none
@[simp] theorem eV_box (e : TypeId) (sz : Nat) (x : Operand) : eV g tm h (.box e sz x) = boV e sz h (evO tm x) := rfl
def boW (e : TypeId) (sz : Nat) (h : Heap) (a : Option (List AV)) : Option (AV × Heap) := match a with
    | some l => some (.pt h.length 0 0, h ++ [⟨0, e, sz, true, l⟩])
    | none => none
@[simp] theorem boV_s (e : TypeId) (sz : Nat) (x : AV) : boV e sz h (some x) = boW e sz h (cellsOf x) := rfl
@[simp] theorem boW_s (e : TypeId) (sz : Nat) (l : List AV) : boW e sz h (some l) = some (.pt h.length 0 0, h ++ [⟨0, e, sz, true, l⟩]) := rfl
@[simp] theorem eV_new (e : TypeId) (sz : Nat) (cells : List Value) : eV g tm h (.new e sz cells) = some (.pt h.length 0 0, h ++ [⟨0, e, sz, true, cells.map .s⟩]) := rfl
def bsV (e : TypeId) (sz len : Nat) (cells : List Value) (h : Heap) (p : Option (List (Nat × Nat × AV))) : Option (AV × Heap) := match p with
    | some l => match fillA (cells.map .s) l with
      | some c => some (.sl h.length 0 0 len sz, h ++ [⟨0, e, sz, true, c⟩])
      | none => none
    | none => none
@[simp] theorem eV_bslice (e : TypeId) (sz len : Nat) (cells : List Value) (parts : List (Nat × Nat × Operand)) : eV g tm h (.bslice e sz len cells parts) = bsV e sz len cells h (evParts tm parts) := rfl
def bsW (e : TypeId) (sz len : Nat) (h : Heap) (p : Option (List AV)) : Option (AV × Heap) := match p with
    | some c => some (.sl h.length 0 0 len sz, h ++ [⟨0, e, sz, true, c⟩])
    | none => none
@[simp] theorem bsV_s (e : TypeId) (sz len : Nat) (cells : List Value) (l : List (Nat × Nat × AV)) : bsV e sz len cells h (some l) = bsW e sz len h (fillA (cells.map .s) l) := rfl
@[simp] theorem bsW_s (e : TypeId) (sz len : Nat) (c : List AV) : bsW e sz len h (some c) = some (.sl h.length 0 0 len sz, h ++ [⟨0, e, sz, true, c⟩]) := rfl

def apV (e : TypeId) (sz bytes : Nat) (h : Heap) (a : Option AV) (y : Option (Nat × List AV)) : Option (AV × Heap) := match a, y with
    | some (.s (.slice none 0 0)), some (m, l) =>
      if m = 0 then some (.s (.slice none 0 0), h)
      else if l.all isCell ∧ m * bytes ≤ 140737488355328 ∧ m ≤ 9223372036854775807 then some (.sl h.length 0 0 m sz, h ++ [⟨0, e, sz, true, l⟩]) else none
    | some (.sl b v o n _), some (m, l) => match bk h b with
      | some k => if k.ver = v ∧ k.rw = true ∧ k.e = e ∧ k.sz = sz ∧ o + n * sz ≤ k.cells.length ∧ l.all isCell ∧ (n + m) * bytes ≤ 140737488355328 ∧ n + m ≤ 9223372036854775807 then
          some (.sl b (v + 1) 0 (n + m) sz, h.set b { k with ver := v + 1, cells := (k.cells.drop o).take (n * sz) ++ l }) else none
      | none => none
    | _, _ => none
def srcW (sz : Nat) (h : Heap) (y : Option AV) : Option (Nat × List AV) := y.bind (srcA h sz)
@[simp] theorem eV_app (e : TypeId) (sz bytes : Nat) (x y : Operand) : eV g tm h (.app e sz bytes x y) = apV e sz bytes h (evO tm x) (srcW sz h (evO tm y)) := rfl
@[simp] theorem srcW_sl (sz b v o n z : Nat) : srcW sz h (some (.sl b v o n z)) = (rdK (bk h b) v o (n * sz)).map fun l => (n, l) := by simp [srcW, srcA, rdn_K]
@[simp] theorem srcW_nil (sz : Nat) : srcW sz h (some (.s (.slice none 0 0))) = some (0, []) := rfl
@[simp] theorem srcW_str (s : ByteArray) : srcW 1 h (some (.s (.string s))) = some (s.size, s.data.toList.map fun b => .s (.int .u8 b.toNat)) := by simp [srcW, srcA]
@[simp] theorem apV_nil0 (e : TypeId) (sz bytes : Nat) (l : List AV) : apV e sz bytes h (some (.s (.slice none 0 0))) (some (0, l)) = some (.s (.slice none 0 0), h) := rfl
theorem apV_nil (e : TypeId) (sz bytes m : Nat) (l : List AV) (hm : m ≠ 0) (hl : l.all isCell = true) (hb : m * bytes ≤ 140737488355328) (hn : m ≤ 9223372036854775807) :
    apV e sz bytes h (some (.s (.slice none 0 0))) (some (m, l)) = some (.sl h.length 0 0 m sz, h ++ [⟨0, e, sz, true, l⟩]) := by
  simp only [apV]; rw [if_neg hm, if_pos ⟨hl, hb, hn⟩]
def apK (e sz bytes : Nat) (h : Heap) (b v o n m : Nat) (l : List AV) (k : Option Blk) : Option (AV × Heap) :=
  match k with
  | some k => if k.ver = v ∧ k.rw = true ∧ k.e = e ∧ k.sz = sz ∧ o + n * sz ≤ k.cells.length ∧ l.all isCell ∧ (n + m) * bytes ≤ 140737488355328 ∧ n + m ≤ 9223372036854775807 then
          some (.sl b (v + 1) 0 (n + m) sz, h.set b { k with ver := v + 1, cells := (k.cells.drop o).take (n * sz) ++ l }) else none
  | none => none
@[simp] theorem apV_sl (e : TypeId) (sz bytes m b v o n z : Nat) (l : List AV) : apV e sz bytes h (some (.sl b v o n z)) (some (m, l)) = apK e sz bytes h b v o n m l (bk h b) := rfl
theorem apK_s (e sz bytes b v v' o n m : Nat) (rw : Bool) (e' sz' : Nat) (c l : List AV) (hc : v' = v ∧ rw = true ∧ e' = e ∧ sz' = sz ∧ o + n * sz ≤ c.length ∧ l.all isCell = true ∧ (n + m) * bytes ≤ 140737488355328 ∧ n + m ≤ 9223372036854775807) :
    apK e sz bytes h b v o n m l (some ⟨v', e', sz', rw, c⟩) = some (.sl b (v + 1) 0 (n + m) sz, h.set b ⟨v + 1, e', sz', rw, (c.drop o).take (n * sz) ++ l⟩) := if_pos hc
end
end Go.Proofs.Ytpmoellbfgcefaa.AS
end
section
set_option autoImplicit false
set_option maxRecDepth 100000
set_option maxHeartbeats 1000000
namespace Go.Proofs.Ytpmoellbfgcefaa.AS
open Go Go.Proofs Go.RowKit Go.Proofs.Ytpmoellbfgcefaa.AS.V

theorem set_bk {h : Heap} {b : Nat} {k : Blk} (e : bk h b = some k) : h.set b k = h := by
  obtain ⟨hlt, rfl⟩ := List.getElem?_eq_some_iff.1 e
  exact List.set_getElem_self hlt

/-- What a reader's next number is. -/
def numS (s : ByteArray) (w : Int) : Int × ByteArray × Int := if w = 0 then gets s else (0, s, w)
noncomputable def hkNum : List AV → Heap → Option (AV × Heap)
  | [.pt b v 0], h => match bk h b with
    | some ⟨v', e, sz, true, [.s (.string s), .s (.int .i64 w)]⟩ => if v' = v ∧ s.size ≤ 9223372036854775807 then
        some (.s (.int .u64 (numS s w).1), h.set b ⟨v', e, sz, true, [.s (.string (numS s w).2.1), .s (.int .i64 (numS s w).2.2)]⟩) else none
    | _ => none
  | _, _ => none
theorem num_run {T : FuncId → Option AFunc} (hT : T 76 = prepFn Try.prog 76) (hG : T 60 = some (.hook hkGet)) (s : ByteArray) (hs : s.size ≤ 9223372036854775807) (w : Int) (h : Heap) (b v e sz : Nat) (hb : bk h b = some ⟨v, e, sz, true, [.s (.string s), .s (.int .i64 w)]⟩) :
    FRun Try.prog T 76 [.pt b v 0] h (.s (.int .u64 (numS s w).1), h.set b ⟨v, e, sz, true, [.s (.string (numS s w).2.1), .s (.int .i64 (numS s w).2.2)]⟩) := by
  have hlt := bk_lt hb
  have hc := fun k l h => evFn_hook (P := Try.prog) (T := T) (k := k) (f := 60) (args := l) (h := h) hG
  by_cases hw : w = 0
  · apply FRun.of (e := .ret) (hT.trans p76)
    · apply Run.step 30; intro k j
      simp [c76, hb, hc, hkGet, hs, hlt, eq_true hw, oneOr, cellsOf, isCell, numS]
      rfl
    · exact Or.inl rfl
    · simp [resAs, resA, tupA, numS, hw]
  · have e1 : numS s w = (0, s, w) := if_neg hw
    rw [e1]
    simp only
    rw [set_bk hb]
    apply FRun.of (e := .ret) (hT.trans p76)
    · apply Run.step 30; intro k j
      simp [c76, hb, hc, hkGet, hs, hlt, eq_false hw, oneOr, cellsOf, isCell, e1]
      rfl
    · exact Or.inl rfl
    · rfl
theorem hkNum_ok {T : FuncId → Option AFunc} (hm : Try.prog.follows .mixedOrders = true) (hT : TabOK Try.prog T) (h76 : T 76 = prepFn Try.prog 76) (hG : T 60 = some (.hook hkGet)) (hc : callable Try.prog 76 = true) : HookSound Try.prog 76 hkNum := by
  refine hookOf hm hT hc fun l h r he => ?_
  unfold hkNum at he
  split at he
  · split at he
    · rename_i b v v' e sz s w hb
      split at he
      · rename_i hs
        cases he
        obtain ⟨rfl, hs⟩ := hs
        exact ⟨_, num_run h76 hG s hs w h _ _ e sz hb, Drops.refl _ _⟩
      · cases he
    · cases he
  · cases he
end Go.Proofs.Ytpmoellbfgcefaa.AS
end
section
set_option autoImplicit false
set_option maxRecDepth 100000
set_option maxHeartbeats 2000000
set_option linter.unusedSimpArgs false
namespace Go.Proofs.Ytpmoellbfgcefaa.AS
open Go Go.Proofs Go.RowKit Go.Proofs.Ytpmoellbfgcefaa.AS.V

def slotC (x : Int × Int) : List AV := [.s (.int .u64 x.1), .s (.string ⟨#[]⟩), .s (.int .u64 x.2)]
def outA (bo : Nat) : List (Int × Int) → AV
  | [] => .s (.slice none 0 0)
  | x :: L => .sl bo L.length 0 (L.length + 1) 3
structure InvS (h0 h' : Heap) (br bo vr er : Nat) (L : List (Int × Int)) (s : ByteArray) (w : Int) : Prop where
  rd : bk h' br = some ⟨vr, er, 2, true, [.s (.string s), .s (.int .i64 w)]⟩
  old : ∀ b, b < h0.length → b ≠ br → bk h' b = bk h0 b
  len : h0.length ≤ h'.length
  out : L ≠ [] → h0.length ≤ bo ∧ br ≠ bo ∧ bk h' bo = some ⟨L.length - 1, 94, 3, true, L.flatMap slotC⟩
def fr59 (br vr : Nat) (many : Int) (out : AV) (i : Int) (a1 a2 a6 a7 a8 a9 a10 a11 a12 a13 a14 a15 a16 a17 a18 a19 a20 a21 a83 : AV) : List AV := [.pt br vr 0, a1, a2, .s (.int .u64 many), out, .s (.int .u64 i), a6, a7, a8, a9, a10, a11, a12, a13, a14, a15, a16, a17, a18, a19, a20, a21] ++ List.replicate 61 .any ++ [a83]
noncomputable def body59 : ACode := match c59 with
  | .seq _ (.seq _ (.seq _ (.seq _ (.seq (.seq _ (.block _ (.loop _ b))) _)))) => b
  | _ => .skip
noncomputable def fg59 : List Nat := match c59 with
  | .seq _ (.seq _ (.seq _ (.seq _ (.seq (.seq _ (.block _ (.loop fg _))) _)))) => fg
  | _ => []

/-- One entry read: the flag that was raised, its key, its size, what is behind it. -/
def slot1 (L : List (Int × Int)) (s : ByteArray) : (Int × Int) × ByteArray × Int :=
  let g := numS s 0
  let last := (L.getLastD (0, 0)).1
  let w2 := if L ≠ [] ∧ g.2.2 = 0 ∧ (last = 18446744073709551615 ∨ g.1 > 18446744073709551615 - last - 1) then 7 else g.2.2
  let key := if L ≠ [] ∧ g.2.2 = 0 then IntKind.u64.wrap (g.1 + IntKind.u64.wrap (last + 1)) else g.1
  let z := numS g.2.1 w2
  ((key, z.1), z.2.1, z.2.2)
theorem num_size {s : ByteArray} (hs : s.size ≤ 9223372036854775807) (w : Int) : (numS s w).2.1.size ≤ 9223372036854775807 := by
  unfold numS
  split
  · exact Nat.le_trans (gets_shorter s) hs
  · exact hs

theorem slotC_len : ∀ L : List (Int × Int), (L.flatMap slotC).length = L.length * 3
  | [] => rfl
  | x :: L => by rw [List.flatMap_cons, List.length_append, slotC_len L, List.length_cons]; simp [slotC]; omega

theorem it0 {T : FuncId → Option AFunc} (hN : T 76 = some (.hook hkNum)) (h0 h' : Heap) (br bo vr er : Nat) (s : ByteArray) (hs : s.size ≤ 9223372036854775807) (many : Int) (hm : 0 < many) (hI : InvS h0 h' br bo vr er [] s 0) (h0b : br < h0.length)
    (a1 a2 a6 a7 a8 a9 a10 a11 a12 a13 a14 a15 a16 a17 a18 a19 a20 a21 a83 : AV) : ∃ H bo' a6' a7' tm', forget fg59 tm' = fr59 br vr many (outA bo' [(slot1 [] s).1]) 1 a1 a2 a6' a7' a8 a9 a10 a11 a12 a13 a14 a15 a16 a17 a18 a19 a20 a21 a83 ∧ InvS h0 H br bo' vr er [(slot1 [] s).1] (slot1 [] s).2.1 (slot1 [] s).2.2 ∧
      Run Try.prog T body59 (fr59 br vr many (outA bo []) 0 a1 a2 a6 a7 a8 a9 a10 a11 a12 a13 a14 a15 a16 a17 a18 a19 a20 a21 a83) h' (.normal, tm', H) := by
  have hb := hI.rd
  have hlt := bk_lt hb
  have hc := fun k l h => evFn_hook (P := Try.prog) (T := T) (k := k) (f := 76) (args := l) (h := h) hN
  have hs1 := num_size hs 0
  have hs2 := num_size hs1 (numS s 0).2.2
  have w1 : IntKind.u64.wrap 1 = 1 := wu64 (by omega) (by omega)
  have hle := hI.len
  refine ⟨?H, h'.length + 2, ?a6, ?a7, ?tm, ?fg, ?inv, Run.step 40 fun k j => ?run⟩
  case run =>
    simp [c59, body59, fr59, outA, hb, hc, hkNum, hs, hlt, hm, oneOr, cellsOf, isCell, fillA, hs1, hs2, apV_nil, w1]
    (constructor <;> rfl)
  case fg =>
    simp [forget, fg59, c59, fr59, outA]
    (constructor <;> rfl)
  case inv =>
    refine ⟨?_, fun b h1 h2 => ?_, ?_, fun _ => ⟨?_, ?_, ?_⟩⟩
    · simp [hlt, slot1]
    · have h3 : b < h'.length := by omega
      simp [h3, Ne.symm h2, hI.old b h1 h2]
    · simp; omega
    · omega
    · omega
    · simp [slot1, slotC]

theorem itA {T : FuncId → Option AFunc} (hN : T 76 = some (.hook hkNum)) (h0 h' : Heap) (br bo vr er m : Nat) (s : ByteArray) (hs : s.size ≤ 9223372036854775807) (many : Int) (L : List (Int × Int)) (hL : L.length = m + 1) (hm : (m : Int) + 1 < many) (hmany : many ≤ 65536) (hI : InvS h0 h' br bo vr er L s 0) (h0b : br < h0.length)
    (h0l : 0 ≤ (L.getLastD (0, 0)).1) (h1l : (L.getLastD (0, 0)).1 ≤ 18446744073709551615) (hw : (numS s 0).2.2 ≠ 0)
    (a1 a2 a6 a7 a8 a9 a10 a11 a12 a13 a14 a15 a16 a17 a18 a19 a20 a21 a83 : AV) : ∃ H a6' a7' tm', forget fg59 tm' = fr59 br vr many (outA bo (L ++ [(slot1 L s).1])) ((m : Int) + 2) a1 a2 a6' a7' a8 a9 a10 a11 a12 a13 a14 a15 a16 a17 a18 a19 a20 a21 a83 ∧ InvS h0 H br bo vr er (L ++ [(slot1 L s).1]) (slot1 L s).2.1 (slot1 L s).2.2 ∧
      Run Try.prog T body59 (fr59 br vr many (outA bo L) ((m : Int) + 1) a1 a2 a6 a7 a8 a9 a10 a11 a12 a13 a14 a15 a16 a17 a18 a19 a20 a21 a83) h' (.normal, tm', H) := by
  have hb := hI.rd
  have hlt := bk_lt hb
  have hc := fun k l h => evFn_hook (P := Try.prog) (T := T) (k := k) (f := 76) (args := l) (h := h) hN
  have hs1 := num_size hs 0
  have hne : L ≠ [] := by intro h; rw [h] at hL; simp at hL
  have hle := hI.len
  obtain ⟨ho1, ho2, ho3⟩ := hI.out hne
  rw [hL, Nat.add_sub_cancel] at ho3
  have hlo := bk_lt ho3
  have eL : outA bo L = .sl bo m 0 (m + 1) 3 := by
    cases L with
    | nil => exact absurd rfl hne
    | cons x L => simp at hL; simp [outA, hL]
  have eL2 : outA bo (L ++ [(slot1 L s).1]) = .sl bo (m + 1) 0 (m + 2) 3 := by
    cases L with
    | nil => exact absurd rfl hne
    | cons x L => simp at hL; simp [outA, hL]
  have wi : IntKind.u64.wrap ((m : Int) + 1 - 1) = m := by rw [wu64 (by omega) (by omega)]; omega
  have wi' : IntKind.u64.wrap (m : Int) = m := wu64 (by omega) (by omega)
  have wj : IntKind.u64.wrap ((m : Int) + 1 + 1) = (m : Int) + 2 := by rw [wu64 (by omega) (by omega)]; omega
  have ip : (0 : Int) < (m : Int) + 1 := by omega
  have im : (m : Int) < ((m + 1 : Nat) : Int) := by omega
  have im' : (m : Int) < (m : Int) + 1 := by omega
  have hCl : (L.flatMap slotC).length = (m + 1) * 3 := by
    rw [slotC_len, hL]
  have hCg : (L.flatMap slotC)[m * 3]? = some (.s (.int .u64 (L.getLastD (0, 0)).1)) := by
    obtain ⟨M, x, rfl⟩ : ∃ M x, L = M ++ [x] := ⟨L.dropLast, L.getLast hne, (List.dropLast_concat_getLast hne).symm⟩
    simp at hL
    have : (M.flatMap slotC).length = m * 3 := by rw [slotC_len, hL]
    rw [List.flatMap_append, List.getElem?_append_right (by omega), this]
    simp [slotC]
  have hsl : slot1 L s = (((slot1 L s).1.1, (slot1 L s).1.2), (slot1 L s).2.1, (slot1 L s).2.2) := rfl
  generalize hlast : (L.getLastD (0, 0)).1 = last at *
  generalize hC : L.flatMap slotC = C at *
  have hCd : (C.drop (m * 3)).take 1 = [.s (.int .u64 last)] := by
    rw [List.take_one, List.head?_drop, hCg]; rfl
  have hle1 : m * 3 + 1 ≤ C.length := by omega
  have hle2 : (m + 1) * 3 ≤ C.length := by omega
  have hlt2 : m * 3 < C.length := by omega
  have hall : C.take ((m + 1) * 3) = C := List.take_of_length_le (by omega)
  have n1 : bo ≠ h'.length := by omega
  have n2 : bo ≠ h'.length + 1 := by omega
  have b1 : (m + 1 + 1) * 32 ≤ 140737488355328 := by omega
  have b2 : m + 1 + 1 ≤ 9223372036854775807 := by omega
  have ho2' := Ne.symm ho2
  have hs2 := num_size hs1 (numS s 0).2.2
  have hz : slot1 L s = (((numS s 0).1, (numS (numS s 0).2.1 (numS s 0).2.2).1), (numS (numS s 0).2.1 (numS s 0).2.2).2.1, (numS (numS s 0).2.1 (numS s 0).2.2).2.2) := by
    simp [slot1, eq_false hw]
  refine ⟨?H, ?a6, ?a7, ?tm, ?fg, ?inv, Run.step 40 fun k j => ?run⟩
  case run =>
    simp [c59, body59, fr59, eL, hb, hc, hkNum, hs, hlt, hm, oneOr, cellsOf, isCell, fillA, hs1, apK_s, wi, wi', wj, eq_true ip, im, im', ho3, hCd, hCg, hle1, hle2, hlt2, hall, hlo, n1, n2, b1, b2, ho2, ho2', hs2, eq_false hw]
    (constructor <;> rfl)
  case fg =>
    rw [eL2]
    simp [forget, fg59, c59, fr59]
    (constructor <;> rfl)
  case inv =>
    rw [hz]
    refine ⟨?_, fun b h1 h2 => ?_, ?_, fun _ => ⟨?_, ?_, ?_⟩⟩
    · simp [hlt, hlo, ho2']
    · have h3 : b < h'.length := by omega
      have h4 : bo ≠ b := by omega
      simp [h3, h4, Ne.symm h2, hI.old b h1 h2]
    · simp; omega
    · omega
    · omega
    · simp [hlo, List.flatMap_append, hC, slotC, hL]

theorem itB {T : FuncId → Option AFunc} (hN : T 76 = some (.hook hkNum)) (h0 h' : Heap) (br bo vr er m : Nat) (s : ByteArray) (hs : s.size ≤ 9223372036854775807) (many : Int) (L : List (Int × Int)) (hL : L.length = m + 1) (hm : (m : Int) + 1 < many) (hmany : many ≤ 65536) (hI : InvS h0 h' br bo vr er L s 0) (h0b : br < h0.length)
    (h0l : 0 ≤ (L.getLastD (0, 0)).1) (h1l : (L.getLastD (0, 0)).1 ≤ 18446744073709551615) (hw : (numS s 0).2.2 = 0) (hx : (L.getLastD (0, 0)).1 = 18446744073709551615)
    (a1 a2 a6 a7 a8 a9 a10 a11 a12 a13 a14 a15 a16 a17 a18 a19 a20 a21 a83 : AV) : ∃ H a6' a7' tm', forget fg59 tm' = fr59 br vr many (outA bo (L ++ [(slot1 L s).1])) ((m : Int) + 2) a1 a2 a6' a7' a8 a9 a10 a11 a12 a13 a14 a15 a16 a17 a18 a19 a20 a21 a83 ∧ InvS h0 H br bo vr er (L ++ [(slot1 L s).1]) (slot1 L s).2.1 (slot1 L s).2.2 ∧
      Run Try.prog T body59 (fr59 br vr many (outA bo L) ((m : Int) + 1) a1 a2 a6 a7 a8 a9 a10 a11 a12 a13 a14 a15 a16 a17 a18 a19 a20 a21 a83) h' (.normal, tm', H) := by
  have hb := hI.rd
  have hlt := bk_lt hb
  have hc := fun k l h => evFn_hook (P := Try.prog) (T := T) (k := k) (f := 76) (args := l) (h := h) hN
  have hs1 := num_size hs 0
  have hne : L ≠ [] := by intro h; rw [h] at hL; simp at hL
  have hle := hI.len
  obtain ⟨ho1, ho2, ho3⟩ := hI.out hne
  rw [hL, Nat.add_sub_cancel] at ho3
  have hlo := bk_lt ho3
  have eL : outA bo L = .sl bo m 0 (m + 1) 3 := by
    cases L with
    | nil => exact absurd rfl hne
    | cons x L => simp at hL; simp [outA, hL]
  have eL2 : outA bo (L ++ [(slot1 L s).1]) = .sl bo (m + 1) 0 (m + 2) 3 := by
    cases L with
    | nil => exact absurd rfl hne
    | cons x L => simp at hL; simp [outA, hL]
  have wi : IntKind.u64.wrap ((m : Int) + 1 - 1) = m := by rw [wu64 (by omega) (by omega)]; omega
  have wi' : IntKind.u64.wrap (m : Int) = m := wu64 (by omega) (by omega)
  have wj : IntKind.u64.wrap ((m : Int) + 1 + 1) = (m : Int) + 2 := by rw [wu64 (by omega) (by omega)]; omega
  have ip : (0 : Int) < (m : Int) + 1 := by omega
  have im : (m : Int) < ((m + 1 : Nat) : Int) := by omega
  have im' : (m : Int) < (m : Int) + 1 := by omega
  have hCl : (L.flatMap slotC).length = (m + 1) * 3 := by
    rw [slotC_len, hL]
  have hCg : (L.flatMap slotC)[m * 3]? = some (.s (.int .u64 (L.getLastD (0, 0)).1)) := by
    obtain ⟨M, x, rfl⟩ : ∃ M x, L = M ++ [x] := ⟨L.dropLast, L.getLast hne, (List.dropLast_concat_getLast hne).symm⟩
    simp at hL
    have : (M.flatMap slotC).length = m * 3 := by rw [slotC_len, hL]
    rw [List.flatMap_append, List.getElem?_append_right (by omega), this]
    simp [slotC]
  have hsl : slot1 L s = (((slot1 L s).1.1, (slot1 L s).1.2), (slot1 L s).2.1, (slot1 L s).2.2) := rfl
  generalize hlast : (L.getLastD (0, 0)).1 = last at *
  generalize hC : L.flatMap slotC = C at *
  have hCd : (C.drop (m * 3)).take 1 = [.s (.int .u64 last)] := by
    rw [List.take_one, List.head?_drop, hCg]; rfl
  have hle1 : m * 3 + 1 ≤ C.length := by omega
  have hle2 : (m + 1) * 3 ≤ C.length := by omega
  have hlt2 : m * 3 < C.length := by omega
  have hall : C.take ((m + 1) * 3) = C := List.take_of_length_le (by omega)
  have n1 : bo ≠ h'.length := by omega
  have n2 : bo ≠ h'.length + 1 := by omega
  have b1 : (m + 1 + 1) * 32 ≤ 140737488355328 := by omega
  have b2 : m + 1 + 1 ≤ 9223372036854775807 := by omega
  have ho2' := Ne.symm ho2
  have hs2 := num_size hs1 7
  have hz : slot1 L s = ((IntKind.u64.wrap ((numS s 0).1 + IntKind.u64.wrap (last + 1)), (numS (numS s 0).2.1 7).1), (numS (numS s 0).2.1 7).2.1, (numS (numS s 0).2.1 7).2.2) := by
    have hlast' : (L.getLast?.getD (0, 0)).1 = last := by simpa using hlast
    simp [slot1, eq_true hw, hne, hlast', eq_true hx]

  refine ⟨?H, ?a6, ?a7, ?tm, ?fg, ?inv, Run.step 40 fun k j => ?run⟩
  case run =>
    simp [c59, body59, fr59, eL, hb, hc, hkNum, hs, hlt, hm, oneOr, cellsOf, isCell, fillA, hs1, apK_s, wi, wi', wj, eq_true ip, im, im', ho3, hCd, hCg, hle1, hle2, hlt2, hall, hlo, n1, n2, b1, b2, ho2, ho2', hs2, eq_true hw, eq_true hx]
    (constructor <;> rfl)
  case fg =>
    rw [eL2]
    simp [forget, fg59, c59, fr59]
    (constructor <;> rfl)
  case inv =>
    rw [hz]
    refine ⟨?_, fun b h1 h2 => ?_, ?_, fun _ => ⟨?_, ?_, ?_⟩⟩
    · simp [hlt, hlo, ho2']
    · have h3 : b < h'.length := by omega
      have h4 : bo ≠ b := by omega
      simp [h3, h4, Ne.symm h2, hI.old b h1 h2]
    · simp; omega
    · omega
    · omega
    · simp [hlo, List.flatMap_append, hC, slotC, hL]

theorem itC {T : FuncId → Option AFunc} (hN : T 76 = some (.hook hkNum)) (h0 h' : Heap) (br bo vr er m : Nat) (s : ByteArray) (hs : s.size ≤ 9223372036854775807) (many : Int) (L : List (Int × Int)) (hL : L.length = m + 1) (hm : (m : Int) + 1 < many) (hmany : many ≤ 65536) (hI : InvS h0 h' br bo vr er L s 0) (h0b : br < h0.length)
    (h0l : 0 ≤ (L.getLastD (0, 0)).1) (h1l : (L.getLastD (0, 0)).1 ≤ 18446744073709551615) (hw : (numS s 0).2.2 = 0) (hx : (L.getLastD (0, 0)).1 ≠ 18446744073709551615) (hy : (numS s 0).1 > 18446744073709551615 - (L.getLastD (0, 0)).1 - 1)
    (a1 a2 a6 a7 a8 a9 a10 a11 a12 a13 a14 a15 a16 a17 a18 a19 a20 a21 a83 : AV) : ∃ H a6' a7' tm', forget fg59 tm' = fr59 br vr many (outA bo (L ++ [(slot1 L s).1])) ((m : Int) + 2) a1 a2 a6' a7' a8 a9 a10 a11 a12 a13 a14 a15 a16 a17 a18 a19 a20 a21 a83 ∧ InvS h0 H br bo vr er (L ++ [(slot1 L s).1]) (slot1 L s).2.1 (slot1 L s).2.2 ∧
      Run Try.prog T body59 (fr59 br vr many (outA bo L) ((m : Int) + 1) a1 a2 a6 a7 a8 a9 a10 a11 a12 a13 a14 a15 a16 a17 a18 a19 a20 a21 a83) h' (.normal, tm', H) := by
  have hb := hI.rd
  have hlt := bk_lt hb
  have hc := fun k l h => evFn_hook (P := Try.prog) (T := T) (k := k) (f := 76) (args := l) (h := h) hN
  have hs1 := num_size hs 0
  have hne : L ≠ [] := by intro h; rw [h] at hL; simp at hL
  have hle := hI.len
  obtain ⟨ho1, ho2, ho3⟩ := hI.out hne
  rw [hL, Nat.add_sub_cancel] at ho3
  have hlo := bk_lt ho3
  have eL : outA bo L = .sl bo m 0 (m + 1) 3 := by
    cases L with
    | nil => exact absurd rfl hne
    | cons x L => simp at hL; simp [outA, hL]
  have eL2 : outA bo (L ++ [(slot1 L s).1]) = .sl bo (m + 1) 0 (m + 2) 3 := by
    cases L with
    | nil => exact absurd rfl hne
    | cons x L => simp at hL; simp [outA, hL]
  have wi : IntKind.u64.wrap ((m : Int) + 1 - 1) = m := by rw [wu64 (by omega) (by omega)]; omega
  have wi' : IntKind.u64.wrap (m : Int) = m := wu64 (by omega) (by omega)
  have wj : IntKind.u64.wrap ((m : Int) + 1 + 1) = (m : Int) + 2 := by rw [wu64 (by omega) (by omega)]; omega
  have ip : (0 : Int) < (m : Int) + 1 := by omega
  have im : (m : Int) < ((m + 1 : Nat) : Int) := by omega
  have im' : (m : Int) < (m : Int) + 1 := by omega
  have hCl : (L.flatMap slotC).length = (m + 1) * 3 := by
    rw [slotC_len, hL]
  have hCg : (L.flatMap slotC)[m * 3]? = some (.s (.int .u64 (L.getLastD (0, 0)).1)) := by
    obtain ⟨M, x, rfl⟩ : ∃ M x, L = M ++ [x] := ⟨L.dropLast, L.getLast hne, (List.dropLast_concat_getLast hne).symm⟩
    simp at hL
    have : (M.flatMap slotC).length = m * 3 := by rw [slotC_len, hL]
    rw [List.flatMap_append, List.getElem?_append_right (by omega), this]
    simp [slotC]
  have hsl : slot1 L s = (((slot1 L s).1.1, (slot1 L s).1.2), (slot1 L s).2.1, (slot1 L s).2.2) := rfl
  generalize hlast : (L.getLastD (0, 0)).1 = last at *
  generalize hC : L.flatMap slotC = C at *
  have hCd : (C.drop (m * 3)).take 1 = [.s (.int .u64 last)] := by
    rw [List.take_one, List.head?_drop, hCg]; rfl
  have hle1 : m * 3 + 1 ≤ C.length := by omega
  have hle2 : (m + 1) * 3 ≤ C.length := by omega
  have hlt2 : m * 3 < C.length := by omega
  have hall : C.take ((m + 1) * 3) = C := List.take_of_length_le (by omega)
  have n1 : bo ≠ h'.length := by omega
  have n2 : bo ≠ h'.length + 1 := by omega
  have b1 : (m + 1 + 1) * 32 ≤ 140737488355328 := by omega
  have b2 : m + 1 + 1 ≤ 9223372036854775807 := by omega
  have ho2' := Ne.symm ho2
  have hs2 := num_size hs1 7
  have wa : IntKind.u64.wrap (18446744073709551615 - last) = 18446744073709551615 - last := wu64 (by omega) (by omega)
  have wb : IntKind.u64.wrap (18446744073709551615 - last - 1) = 18446744073709551615 - last - 1 := wu64 (by omega) (by omega)
  have hy' : 18446744073709551615 - last - 1 < (numS s 0).1 := hy
  have hz : slot1 L s = ((IntKind.u64.wrap ((numS s 0).1 + IntKind.u64.wrap (last + 1)), (numS (numS s 0).2.1 7).1), (numS (numS s 0).2.1 7).2.1, (numS (numS s 0).2.1 7).2.2) := by
    have hlast' : (L.getLast?.getD (0, 0)).1 = last := by simpa using hlast
    simp [slot1, eq_true hw, hne, hlast', eq_true hy']

  refine ⟨?H, ?a6, ?a7, ?tm, ?fg, ?inv, Run.step 40 fun k j => ?run⟩
  case run =>
    simp [c59, body59, fr59, eL, hb, hc, hkNum, hs, hlt, hm, oneOr, cellsOf, isCell, fillA, hs1, apK_s, wi, wi', wj, eq_true ip, im, im', ho3, hCd, hCg, hle1, hle2, hlt2, hall, hlo, n1, n2, b1, b2, ho2, ho2', hs2, eq_true hw, eq_false hx, wa, wb, eq_true hy']
    (constructor <;> rfl)
  case fg =>
    rw [eL2]
    simp [forget, fg59, c59, fr59]
    (constructor <;> rfl)
  case inv =>
    rw [hz]
    refine ⟨?_, fun b h1 h2 => ?_, ?_, fun _ => ⟨?_, ?_, ?_⟩⟩
    · simp [hlt, hlo, ho2']
    · have h3 : b < h'.length := by omega
      have h4 : bo ≠ b := by omega
      simp [h3, h4, Ne.symm h2, hI.old b h1 h2]
    · simp; omega
    · omega
    · omega
    · simp [hlo, List.flatMap_append, hC, slotC, hL]

theorem itD {T : FuncId → Option AFunc} (hN : T 76 = some (.hook hkNum)) (h0 h' : Heap) (br bo vr er m : Nat) (s : ByteArray) (hs : s.size ≤ 9223372036854775807) (many : Int) (L : List (Int × Int)) (hL : L.length = m + 1) (hm : (m : Int) + 1 < many) (hmany : many ≤ 65536) (hI : InvS h0 h' br bo vr er L s 0) (h0b : br < h0.length)
    (h0l : 0 ≤ (L.getLastD (0, 0)).1) (h1l : (L.getLastD (0, 0)).1 ≤ 18446744073709551615) (hw : (numS s 0).2.2 = 0) (hx : (L.getLastD (0, 0)).1 ≠ 18446744073709551615) (hy : ¬ (numS s 0).1 > 18446744073709551615 - (L.getLastD (0, 0)).1 - 1)
    (a1 a2 a6 a7 a8 a9 a10 a11 a12 a13 a14 a15 a16 a17 a18 a19 a20 a21 a83 : AV) : ∃ H a6' a7' tm', forget fg59 tm' = fr59 br vr many (outA bo (L ++ [(slot1 L s).1])) ((m : Int) + 2) a1 a2 a6' a7' a8 a9 a10 a11 a12 a13 a14 a15 a16 a17 a18 a19 a20 a21 a83 ∧ InvS h0 H br bo vr er (L ++ [(slot1 L s).1]) (slot1 L s).2.1 (slot1 L s).2.2 ∧
      Run Try.prog T body59 (fr59 br vr many (outA bo L) ((m : Int) + 1) a1 a2 a6 a7 a8 a9 a10 a11 a12 a13 a14 a15 a16 a17 a18 a19 a20 a21 a83) h' (.normal, tm', H) := by
  have hb := hI.rd
  have hlt := bk_lt hb
  have hc := fun k l h => evFn_hook (P := Try.prog) (T := T) (k := k) (f := 76) (args := l) (h := h) hN
  have hs1 := num_size hs 0
  have hne : L ≠ [] := by intro h; rw [h] at hL; simp at hL
  have hle := hI.len
  obtain ⟨ho1, ho2, ho3⟩ := hI.out hne
  rw [hL, Nat.add_sub_cancel] at ho3
  have hlo := bk_lt ho3
  have eL : outA bo L = .sl bo m 0 (m + 1) 3 := by
    cases L with
    | nil => exact absurd rfl hne
    | cons x L => simp at hL; simp [outA, hL]
  have eL2 : outA bo (L ++ [(slot1 L s).1]) = .sl bo (m + 1) 0 (m + 2) 3 := by
    cases L with
    | nil => exact absurd rfl hne
    | cons x L => simp at hL; simp [outA, hL]
  have wi : IntKind.u64.wrap ((m : Int) + 1 - 1) = m := by rw [wu64 (by omega) (by omega)]; omega
  have wi' : IntKind.u64.wrap (m : Int) = m := wu64 (by omega) (by omega)
  have wj : IntKind.u64.wrap ((m : Int) + 1 + 1) = (m : Int) + 2 := by rw [wu64 (by omega) (by omega)]; omega
  have ip : (0 : Int) < (m : Int) + 1 := by omega
  have im : (m : Int) < ((m + 1 : Nat) : Int) := by omega
  have im' : (m : Int) < (m : Int) + 1 := by omega
  have hCl : (L.flatMap slotC).length = (m + 1) * 3 := by
    rw [slotC_len, hL]
  have hCg : (L.flatMap slotC)[m * 3]? = some (.s (.int .u64 (L.getLastD (0, 0)).1)) := by
    obtain ⟨M, x, rfl⟩ : ∃ M x, L = M ++ [x] := ⟨L.dropLast, L.getLast hne, (List.dropLast_concat_getLast hne).symm⟩
    simp at hL
    have : (M.flatMap slotC).length = m * 3 := by rw [slotC_len, hL]
    rw [List.flatMap_append, List.getElem?_append_right (by omega), this]
    simp [slotC]
  have hsl : slot1 L s = (((slot1 L s).1.1, (slot1 L s).1.2), (slot1 L s).2.1, (slot1 L s).2.2) := rfl
  generalize hlast : (L.getLastD (0, 0)).1 = last at *
  generalize hC : L.flatMap slotC = C at *
  have hCd : (C.drop (m * 3)).take 1 = [.s (.int .u64 last)] := by
    rw [List.take_one, List.head?_drop, hCg]; rfl
  have hle1 : m * 3 + 1 ≤ C.length := by omega
  have hle2 : (m + 1) * 3 ≤ C.length := by omega
  have hlt2 : m * 3 < C.length := by omega
  have hall : C.take ((m + 1) * 3) = C := List.take_of_length_le (by omega)
  have n1 : bo ≠ h'.length := by omega
  have n2 : bo ≠ h'.length + 1 := by omega
  have b1 : (m + 1 + 1) * 32 ≤ 140737488355328 := by omega
  have b2 : m + 1 + 1 ≤ 9223372036854775807 := by omega
  have ho2' := Ne.symm ho2
  have hs2 := num_size hs1 (numS s 0).2.2
  have wa : IntKind.u64.wrap (18446744073709551615 - last) = 18446744073709551615 - last := wu64 (by omega) (by omega)
  have wb : IntKind.u64.wrap (18446744073709551615 - last - 1) = 18446744073709551615 - last - 1 := wu64 (by omega) (by omega)
  have hy' : ¬ 18446744073709551615 - last - 1 < (numS s 0).1 := hy
  have hz : slot1 L s = ((IntKind.u64.wrap ((numS s 0).1 + IntKind.u64.wrap (last + 1)), (numS (numS s 0).2.1 (numS s 0).2.2).1), (numS (numS s 0).2.1 (numS s 0).2.2).2.1, (numS (numS s 0).2.1 (numS s 0).2.2).2.2) := by
    have hlast' : (L.getLast?.getD (0, 0)).1 = last := by simpa using hlast
    simp [slot1, eq_true hw, hne, hlast', eq_false hx, eq_false hy']

  refine ⟨?H, ?a6, ?a7, ?tm, ?fg, ?inv, Run.step 40 fun k j => ?run⟩
  case run =>
    simp [c59, body59, fr59, eL, hb, hc, hkNum, hs, hlt, hm, oneOr, cellsOf, isCell, fillA, hs1, apK_s, wi, wi', wj, eq_true ip, im, im', ho3, hCd, hCg, hle1, hle2, hlt2, hall, hlo, n1, n2, b1, b2, ho2, ho2', hs2, eq_true hw, eq_false hx, wa, wb, eq_false hy']
    (constructor <;> rfl)
  case fg =>
    rw [eL2]
    simp [forget, fg59, c59, fr59]
    (constructor <;> rfl)
  case inv =>
    rw [hz]
    refine ⟨?_, fun b h1 h2 => ?_, ?_, fun _ => ⟨?_, ?_, ?_⟩⟩
    · simp [hlt, hlo, ho2']
    · have h3 : b < h'.length := by omega
      have h4 : bo ≠ b := by omega
      simp [h3, h4, Ne.symm h2, hI.old b h1 h2]
    · simp; omega
    · omega
    · omega
    · simp [hlo, List.flatMap_append, hC, slotC, hL]
end Go.Proofs.Ytpmoellbfgcefaa.AS
end
section
set_option autoImplicit false
namespace Go.Proofs.Ytpmoellbfgcefaa.AS
open Go Go.RowKit
theorem forget_len : ∀ (fg : List Nat) (tm : List AV), (forget fg tm).length = tm.length
  | [], _ => rfl
  | t :: l, tm => by rw [forget, forget_len l]; simp
theorem forget_get : ∀ (fg : List Nat) (tm : List AV) (i : Nat), (forget fg tm)[i]? = if i ∈ fg ∧ i < tm.length then some .any else tm[i]?
  | [], tm, i => by simp [forget]
  | t :: l, tm, i => by
    rw [forget, forget_get l, List.length_set, List.getElem?_set]
    by_cases h1 : i ∈ l <;> by_cases h2 : t = i <;> by_cases h3 : i < tm.length <;> simp [h1, h2, h3]
    all_goals (try subst h2)
    all_goals (try simp [h3])
    all_goals (intro hh; exact absurd hh.symm h2)
theorem forget_idem (fg : List Nat) (tm : List AV) : forget fg (forget fg tm) = forget fg tm := by
  apply List.ext_getElem?
  intro i
  rw [forget_get, forget_len, forget_get]
  split <;> simp_all
theorem Run.loop_forget {P : Program} {T : FuncId → Option AFunc} {fg : List Nat} {b : ACode} {tm : List AV} {h : Heap} {r : Res} (H : Run P T (.loop fg b) (forget fg tm) h r) : Run P T (.loop fg b) tm h r := by
  obtain ⟨k, H⟩ := H.get
  cases k with
  | zero => simp [evC] at H
  | succ k =>
    simp only [evC] at H
    rw [forget_idem] at H
    exact Run.one (k + 1) (k + 1) (by simp only [evC]; exact H)
theorem Run.loop_go {P : Program} {T : FuncId → Option AFunc} {fg : List Nat} {b : ACode} {tm tm0 tm' tm1 : List AV} {h h' : Heap} {r : Res} (e0 : forget fg tm = tm0) (H : Run P T b tm0 h (.normal, tm', h')) (e1 : forget fg tm' = tm1) (H' : Run P T (.loop fg b) tm1 h' r) : Run P T (.loop fg b) tm h r :=
  Run.loop_next_f e0 H (Run.loop_forget (e1 ▸ H'))
theorem Run.loop_go' {P : Program} {T : FuncId → Option AFunc} {fg : List Nat} {b : ACode} {tm tm1 : List AV} {h : Heap} {r : Res} (H : Run P T (.loop fg b) tm1 h r) (e1 : forget fg tm = tm1) : Run P T (.loop fg b) tm h r := Run.loop_forget (e1 ▸ H)
/-- A block that is a loop, and what is behind it: one more round ahead of it. -/
theorem Run.seq_block_loop {P : Program} {T : FuncId → Option AFunc} {fg : List Nat} {i : Nat} {b t : ACode} {tm tm' tm1 : List AV} {h h' : Heap} {r : Res} (e0 : forget fg tm = tm) (H : Run P T b tm h (.normal, tm', h')) (e1 : forget fg tm' = tm1) (H' : Run P T (.seq (.block i (.loop fg b)) t) tm1 h' r) : Run P T (.seq (.block i (.loop fg b)) t) tm h r := by
  obtain ⟨k, K⟩ := H'.get
  clear H'
  cases k with
  | zero => simp [evC] at K
  | succ k =>
  cases k with
  | zero => simp [evC] at K
  | succ k =>
    rw [evC_seq, evC_block] at K
    cases hl : evC P (evFn P T (k + 1 + 1)) k (.loop fg b) tm1 h' with
    | none => rw [hl] at K; simp [blockC, thenC] at K
    | some x =>
      have hr := Run.loop_go e0 H e1 (Run.one _ _ hl)
      rw [hl] at K
      obtain ⟨e, tm2, h2⟩ := x
      cases e with
      | normal => exact Run.seq (Run.block_id (by simp) hr) (Run.one _ _ K)
      | exit j =>
        simp only [blockC_e] at K
        split at K
        · rename_i hj; subst hj; exact Run.seq (Run.block_exit hr) (Run.one _ _ K)
        · rename_i hj
          simp only [thenC_e, Option.some.injEq] at K
          subst K
          exact Run.seq_stop (by simp) (by have := Run.block (i := i) hr; simpa [hj] using this)
      | goto l =>
        simp only [blockC_g, thenC_g, Option.some.injEq] at K
        subst K
        exact Run.seq_stop (by simp) (Run.block_id (by simp) hr)
      | ret =>
        simp only [blockC_r, thenC_r, Option.some.injEq] at K
        subst K
        exact Run.seq_stop (by simp) (Run.block_id (by simp) hr)
theorem Run.seq_block_forget {P : Program} {T : FuncId → Option AFunc} {fg : List Nat} {i : Nat} {b t : ACode} {tm tm1 : List AV} {h : Heap} {r : Res} (e1 : forget fg tm = tm1) (H' : Run P T (.seq (.block i (.loop fg b)) t) tm1 h r) : Run P T (.seq (.block i (.loop fg b)) t) tm h r := by
  obtain ⟨k, K⟩ := H'.get
  clear H'
  cases k with
  | zero => simp [evC] at K
  | succ k =>
  cases k with
  | zero => simp [evC] at K
  | succ k =>
    rw [evC_seq, evC_block] at K
    cases hl : evC P (evFn P T (k + 1 + 1)) k (.loop fg b) tm1 h with
    | none => rw [hl] at K; simp [blockC, thenC] at K
    | some x =>
      have hr := Run.loop_go' (Run.one _ _ hl) e1
      rw [hl] at K
      obtain ⟨e, tm2, h2⟩ := x
      cases e with
      | normal => exact Run.seq (Run.block_id (by simp) hr) (Run.one _ _ K)
      | exit j =>
        simp only [blockC_e] at K
        split at K
        · rename_i hj; subst hj; exact Run.seq (Run.block_exit hr) (Run.one _ _ K)
        · rename_i hj
          simp only [thenC_e, Option.some.injEq] at K
          subst K
          exact Run.seq_stop (by simp) (by have := Run.block (i := i) hr; simpa [hj] using this)
      | goto l =>
        simp only [blockC_g, thenC_g, Option.some.injEq] at K
        subst K
        exact Run.seq_stop (by simp) (Run.block_id (by simp) hr)
      | ret =>
        simp only [blockC_r, thenC_r, Option.some.injEq] at K
        subst K
        exact Run.seq_stop (by simp) (Run.block_id (by simp) hr)
end Go.Proofs.Ytpmoellbfgcefaa.AS
end
section
set_option autoImplicit false
set_option maxRecDepth 100000
set_option maxHeartbeats 2000000
set_option linter.unusedSimpArgs false
namespace Go.Proofs.Ytpmoellbfgcefaa.AS
open Go Go.Proofs Go.RowKit Go.Proofs.Ytpmoellbfgcefaa.AS.V

def slotsF : Nat → List (Int × Int) → ByteArray → Int → List (Int × Int) × ByteArray × Int
  | 0, L, s, w => (L, s, w)
  | n + 1, L, s, w => if w ≠ 0 then (L, s, w) else slotsF n (L ++ [(slot1 L s).1]) (slot1 L s).2.1 (slot1 L s).2.2
theorem gets_range (s : ByteArray) : 0 ≤ (gets s).1 ∧ (gets s).1 ≤ 18446744073709551615 := by
  rcases gets_err s with h | h | h
  · obtain ⟨n, r, w⟩ : ∃ n r, gets s = (n, r, 0) := ⟨_, _, Prod.ext rfl (Prod.ext rfl h)⟩
    rw [w]; exact (gets_ok w).2
  · rw [h]; simp
  · rw [h]; simp
theorem wrap_range (n : Int) : 0 ≤ IntKind.u64.wrap n ∧ IntKind.u64.wrap n ≤ 18446744073709551615 := by rw [wu64']; omega
theorem slot1_key (L : List (Int × Int)) (s : ByteArray) : 0 ≤ (slot1 L s).1.1 ∧ (slot1 L s).1.1 ≤ 18446744073709551615 := by
  have e : (numS s 0) = gets s := if_pos rfl
  simp only [slot1, e]
  split
  · exact wrap_range _
  · exact gets_range s
theorem slot1_size (L : List (Int × Int)) {s : ByteArray} (hs : s.size ≤ 9223372036854775807) : (slot1 L s).2.1.size ≤ 9223372036854775807 := num_size (num_size hs 0) _

theorem itE {T : FuncId → Option AFunc} (h0 h' : Heap) (br bo vr er : Nat) (s : ByteArray) (w many i : Int) (L : List (Int × Int)) (hI : InvS h0 h' br bo vr er L s w) (hend : w ≠ 0 ∨ ¬ i < many)
    (out a1 a2 a6 a7 a8 a9 a10 a11 a12 a13 a14 a15 a16 a17 a18 a19 a20 a21 a83 : AV) : ∃ tm', tm'.length = 84 ∧ tm'[4]? = some out ∧ Run Try.prog T body59 (fr59 br vr many out i a1 a2 a6 a7 a8 a9 a10 a11 a12 a13 a14 a15 a16 a17 a18 a19 a20 a21 a83) h' (.exit 0, tm', h') := by
  have hb := hI.rd
  have hlt := bk_lt hb
  by_cases hm : i < many
  · have hw : w ≠ 0 := by rcases hend with h | h <;> first | exact h | exact absurd hm h
    refine ⟨?tm, ?l, ?o, Run.step 40 fun k j => ?run⟩
    case run =>
      simp [c59, body59, fr59, hb, hlt, eq_true hm, oneOr, eq_false hw]
      rfl
    case l => rfl
    case o => rfl
  · refine ⟨?tm2, ?l2, ?o2, Run.step 40 fun k j => ?run2⟩
    case run2 =>
      simp [c59, body59, fr59, hb, hlt, eq_false hm, oneOr]
      rfl
    case l2 => rfl
    case o2 => rfl

theorem slots_l {T : FuncId → Option AFunc} (hN : T 76 = some (.hook hkNum)) (h0 : Heap) (br vr er : Nat) (h0b : br < h0.length) (many : Int) (hmany : many ≤ 65536) : ∀ (n : Nat) (h' : Heap) (bo : Nat) (L : List (Int × Int)) (s : ByteArray) (w : Int), s.size ≤ 9223372036854775807 → (L.length : Int) + n = many → InvS h0 h' br bo vr er L s w →
    (0 ≤ (L.getLastD (0, 0)).1 ∧ (L.getLastD (0, 0)).1 ≤ 18446744073709551615) → ∀ (a1 a2 a6 a7 a8 a9 a10 a11 a12 a13 a14 a15 a16 a17 a18 a19 a20 a21 a83 : AV), ∃ H bo' tm', tm'.length = 84 ∧ tm'[4]? = some (outA bo' (slotsF n L s w).1) ∧ InvS h0 H br bo' vr er (slotsF n L s w).1 (slotsF n L s w).2.1 (slotsF n L s w).2.2 ∧
      Run Try.prog T (.loop fg59 body59) (fr59 br vr many (outA bo L) L.length a1 a2 a6 a7 a8 a9 a10 a11 a12 a13 a14 a15 a16 a17 a18 a19 a20 a21 a83) h' (.exit 0, tm', H) := by
  intro n
  induction n with
  | zero =>
    intro h' bo L s w hs hn hI hk a1 a2 a6 a7 a8 a9 a10 a11 a12 a13 a14 a15 a16 a17 a18 a19 a20 a21 a83
    obtain ⟨tm', t1, t2, hr⟩ := itE (T := T) h0 h' br bo vr er s w many L.length L hI (Or.inr (by omega)) (outA bo L) a1 a2 a6 a7 a8 a9 a10 a11 a12 a13 a14 a15 a16 a17 a18 a19 a20 a21 a83
    refine ⟨h', bo, tm', t1, t2, hI, Run.loop_end_f ?_ (by simp) hr⟩
    simp [forget, fg59, c59, fr59]
  | succ n ih =>
    intro h' bo L s w hs hn hI hk a1 a2 a6 a7 a8 a9 a10 a11 a12 a13 a14 a15 a16 a17 a18 a19 a20 a21 a83
    by_cases hw : w = 0
    · subst hw
      have e : slotsF (n + 1) L s 0 = slotsF n (L ++ [(slot1 L s).1]) (slot1 L s).2.1 (slot1 L s).2.2 := by rw [slotsF]; simp
      rw [e]
      have hk' := slot1_key L s
      have hnext : ∃ H bo' a6' a7' tm', forget fg59 tm' = fr59 br vr many (outA bo' (L ++ [(slot1 L s).1])) ((L ++ [(slot1 L s).1]).length : Int) a1 a2 a6' a7' a8 a9 a10 a11 a12 a13 a14 a15 a16 a17 a18 a19 a20 a21 a83 ∧ InvS h0 H br bo' vr er (L ++ [(slot1 L s).1]) (slot1 L s).2.1 (slot1 L s).2.2 ∧
          Run Try.prog T body59 (fr59 br vr many (outA bo L) L.length a1 a2 a6 a7 a8 a9 a10 a11 a12 a13 a14 a15 a16 a17 a18 a19 a20 a21 a83) h' (.normal, tm', H) := by
        cases hm : L.length with
        | zero =>
          cases L with
          | nil =>
            obtain ⟨H, bo', a6', a7', tm', x1, x2, x3⟩ := it0 hN h0 h' br bo vr er s hs many (by simp at hn; omega) hI h0b a1 a2 a6 a7 a8 a9 a10 a11 a12 a13 a14 a15 a16 a17 a18 a19 a20 a21 a83
            exact ⟨H, bo', a6', a7', tm', x1, x2, x3⟩
          | cons x L => simp at hm
        | succ m =>
          have hm1 : (m : Int) + 1 < many := by omega
          have e2 : ((L ++ [(slot1 L s).1]).length : Int) = (m : Int) + 2 := by simp [hm]; omega
          rw [e2]
          have : ∃ H a6' a7' tm', forget fg59 tm' = fr59 br vr many (outA bo (L ++ [(slot1 L s).1])) ((m : Int) + 2) a1 a2 a6' a7' a8 a9 a10 a11 a12 a13 a14 a15 a16 a17 a18 a19 a20 a21 a83 ∧ InvS h0 H br bo vr er (L ++ [(slot1 L s).1]) (slot1 L s).2.1 (slot1 L s).2.2 ∧
              Run Try.prog T body59 (fr59 br vr many (outA bo L) ((m : Int) + 1) a1 a2 a6 a7 a8 a9 a10 a11 a12 a13 a14 a15 a16 a17 a18 a19 a20 a21 a83) h' (.normal, tm', H) := by
            by_cases h1 : (numS s 0).2.2 = 0
            · by_cases h2 : (L.getLastD (0, 0)).1 = 18446744073709551615
              · exact itB hN h0 h' br bo vr er m s hs many L hm hm1 hmany hI h0b hk.1 hk.2 h1 h2 a1 a2 a6 a7 a8 a9 a10 a11 a12 a13 a14 a15 a16 a17 a18 a19 a20 a21 a83
              · by_cases h3 : (numS s 0).1 > 18446744073709551615 - (L.getLastD (0, 0)).1 - 1
                · exact itC hN h0 h' br bo vr er m s hs many L hm hm1 hmany hI h0b hk.1 hk.2 h1 h2 h3 a1 a2 a6 a7 a8 a9 a10 a11 a12 a13 a14 a15 a16 a17 a18 a19 a20 a21 a83
                · exact itD hN h0 h' br bo vr er m s hs many L hm hm1 hmany hI h0b hk.1 hk.2 h1 h2 h3 a1 a2 a6 a7 a8 a9 a10 a11 a12 a13 a14 a15 a16 a17 a18 a19 a20 a21 a83
            · exact itA hN h0 h' br bo vr er m s hs many L hm hm1 hmany hI h0b hk.1 hk.2 h1 a1 a2 a6 a7 a8 a9 a10 a11 a12 a13 a14 a15 a16 a17 a18 a19 a20 a21 a83
          obtain ⟨H, a6', a7', tm', x1, x2, x3⟩ := this
          exact ⟨H, bo, a6', a7', tm', x1, x2, x3⟩
      obtain ⟨H, bo', a6', a7', tm', x1, x2, x3⟩ := hnext
      obtain ⟨H2, bo2, tm2, y1, y2, y3, y4⟩ := ih H bo' (L ++ [(slot1 L s).1]) (slot1 L s).2.1 (slot1 L s).2.2 (slot1_size L hs) (by simp; omega) x2 (by simpa using hk') a1 a2 a6' a7' a8 a9 a10 a11 a12 a13 a14 a15 a16 a17 a18 a19 a20 a21 a83
      refine ⟨H2, bo2, tm2, y1, y2, y3, ?_⟩
      refine Run.loop_go ?_ x3 x1 y4
      simp [forget, fg59, c59, fr59]
    · have e : slotsF (n + 1) L s w = (L, s, w) := by rw [slotsF]; simp [hw]
      rw [e]
      obtain ⟨tm', t1, t2, hr⟩ := itE (T := T) h0 h' br bo vr er s w many L.length L hI (Or.inl hw) (outA bo L) a1 a2 a6 a7 a8 a9 a10 a11 a12 a13 a14 a15 a16 a17 a18 a19 a20 a21 a83
      refine ⟨h', bo, tm', t1, t2, hI, Run.loop_end_f ?_ (by simp) hr⟩
      simp [forget, fg59, c59, fr59]
end Go.Proofs.Ytpmoellbfgcefaa.AS
end
section
set_option autoImplicit false
set_option maxRecDepth 100000
set_option maxHeartbeats 2000000
set_option linter.unusedSimpArgs false
namespace Go.Proofs.Ytpmoellbfgcefaa.AS
open Go Go.Proofs Go.RowKit Go.Proofs.Ytpmoellbfgcefaa.AS.V

def slotsR (s : ByteArray) : List (Int × Int) × ByteArray × Int :=
  if (numS s 0).2.2 = 0 ∧ 65536 < (numS s 0).1 then ([], (numS s 0).2.1, 15) else slotsF (numS s 0).1.toNat [] (numS s 0).2.1 (numS s 0).2.2
noncomputable def tail59 : ACode := match c59 with
  | .seq _ (.seq _ (.seq _ t)) => t
  | _ => .skip
theorem slots_tail {T : FuncId → Option AFunc} (h0 h1 : Heap) (br vr er : Nat) (many : Int) (R : List (Int × Int) × ByteArray × Int)
    (hloop : ∀ (a1 a2 a6 a7 a8 a9 a10 a11 a12 a13 a14 a15 a16 a17 a18 a19 a20 a21 a83 : AV), ∃ H bo' tm', tm'.length = 84 ∧ tm'[4]? = some (outA bo' R.1) ∧ InvS h0 H br bo' vr er R.1 R.2.1 R.2.2 ∧
      Run Try.prog T (.loop fg59 body59) (fr59 br vr many (outA 0 []) (([] : List (Int × Int)).length : Int) a1 a2 a6 a7 a8 a9 a10 a11 a12 a13 a14 a15 a16 a17 a18 a19 a20 a21 a83) h1 (.exit 0, tm', H)) (a1 a2 a4 a5 a6 a7 a8 a9 a10 a11 a12 a13 a14 a15 a16 a17 a18 a19 a20 a21 : AV) :
    ∃ H bo' tm', tm'[2]? = some (outA bo' R.1) ∧ InvS h0 H br bo' vr er R.1 R.2.1 R.2.2 ∧ Run Try.prog T tail59 ([.pt br vr 0, a1, a2, .s (.int .u64 many), a4, a5, a6, a7, a8, a9, a10, a11, a12, a13, a14, a15, a16, a17, a18, a19, a20, a21] ++ List.replicate 62 (.s undef)) h1 (.ret, tm', H) := by
  obtain ⟨H, bo', tm', t1, t2, t3, t4⟩ := hloop a1 a2 a6 a7 a8 a9 a10 a11 a12 a13 a14 a15 a16 a17 a18 a19 a20 a21 (.s undef)
  refine ⟨H, bo', (tm'.set 83 (outA bo' R.1)).set 2 (outA bo' R.1), ?_, t3, ?_⟩
  · simp [t1]
  · apply Run.seq
    · apply Run.step 20; intro k j
      simp
      (constructor <;> rfl)
    · apply Run.seq
      · apply Run.seq
        · apply Run.step 20; intro k j
          simp
          (constructor <;> rfl)
        · apply Run.block_exit
          apply Run.loop_go'
          · exact t4
          · simp [forget, fg59, c59, fr59, outA]
      · apply Run.step 20; intro k j
        simp [t1, t2]
        rw [(List.getElem?_eq_some_iff.1 t2).2]
theorem slots_run {T : FuncId → Option AFunc} (hT : T 59 = prepFn Try.prog 59) (hN : T 76 = some (.hook hkNum)) (h0 : Heap) (br vr er : Nat) (s : ByteArray) (hs : s.size ≤ 9223372036854775807) (hb : bk h0 br = some ⟨vr, er, 2, true, [.s (.string s), .s (.int .i64 0)]⟩) :
    ∃ H bo, FRun Try.prog T 59 [.pt br vr 0] h0 (outA bo (slotsR s).1, H) ∧ InvS h0 H br bo vr er (slotsR s).1 (slotsR s).2.1 (slotsR s).2.2 := by
  have hlt := bk_lt hb
  have hc := fun k l h => evFn_hook (P := Try.prog) (T := T) (k := k) (f := 76) (args := l) (h := h) hN
  have hs1 := num_size hs 0
  have hr : 0 ≤ (numS s 0).1 := (gets_range s).1
  have e0 : numS s 0 = gets s := if_pos rfl
  by_cases hbad : (numS s 0).2.2 = 0 ∧ 65536 < (numS s 0).1
  · have e : slotsR s = ([], (numS s 0).2.1, 15) := if_pos hbad
    rw [e]
    have hI : InvS h0 (h0.set br ⟨vr, er, 2, true, [.s (.string (numS s 0).2.1), .s (.int .i64 15)]⟩) br 0 vr er [] (numS s 0).2.1 15 :=
      ⟨by simp [hlt], fun b h1 h2 => by simp [Ne.symm h2], by simp, fun h => absurd rfl h⟩
    have tl := slots_tail (T := T) h0 _ br vr er (numS s 0).1 ([], (numS s 0).2.1, 15) (fun a1 a2 a6 a7 a8 a9 a10 a11 a12 a13 a14 a15 a16 a17 a18 a19 a20 a21 a83 => by
      obtain ⟨tm', t1, t2, hr⟩ := itE (T := T) h0 _ br 0 vr er (numS s 0).2.1 15 (numS s 0).1 0 [] hI (Or.inl (by omega)) (outA 0 []) a1 a2 a6 a7 a8 a9 a10 a11 a12 a13 a14 a15 a16 a17 a18 a19 a20 a21 a83
      exact ⟨_, 0, tm', t1, t2, hI, Run.loop_end_f (by simp [forget, fg59, c59, fr59]) (by simp) hr⟩)
    obtain ⟨H, bo, tm', x1, x2, x3⟩ : ∃ H bo tm', tm'[2]? = some (outA bo []) ∧ InvS h0 H br bo vr er [] (numS s 0).2.1 15 ∧ Run Try.prog T c59 ([.pt br vr 0] ++ List.replicate 83 (.s undef)) h0 (.ret, tm', H) := by
      obtain ⟨H, bo, tm', x1, x2, x3⟩ := tl (.s undef) (.s (.slice none 0 0)) (.s undef) (.s undef) (.s undef) (.s undef) (.pt br vr 0) (.s (.int .u64 (numS s 0).1)) (.pt br vr 0) (.pt br vr 0) (.pt br vr 1) (.s (.int .i64 (numS s 0).2.2)) (.s (.bool true)) (.s (.bool true)) (.s (.int .u64 (numS s 0).1)) (.s (.bool true)) (.s (.bool true)) (.pt br vr 0) (.pt br vr 0) (.pt br vr 1)
      refine ⟨H, bo, tm', x1, x2, ?_⟩
      apply Run.seq
      · apply Run.step 20; intro k j
        simp
        (constructor <;> rfl)
      · apply Run.seq
        · apply Run.step 20; intro k j
          simp [hc, hkNum, hb, hs]
          (constructor <;> rfl)
        · apply Run.seq
          · apply Run.step 20; intro k j
            simp [hb, hlt, oneOr, cellsOf, isCell, eq_true hbad.1, eq_true hbad.2]
            (constructor <;> rfl)
          · exact x3
    exact ⟨H, bo, FRun.of (e := .ret) (hT.trans p59) x3 (Or.inl rfl) (by simp [resAs, resA, x1, tupA]), x2⟩
  · have e : slotsR s = slotsF (numS s 0).1.toNat [] (numS s 0).2.1 (numS s 0).2.2 := if_neg hbad
    rw [e]
    have hI : InvS h0 (h0.set br ⟨vr, er, 2, true, [.s (.string (numS s 0).2.1), .s (.int .i64 (numS s 0).2.2)]⟩) br 0 vr er [] (numS s 0).2.1 (numS s 0).2.2 :=
      ⟨by simp [hlt], fun b h1 h2 => by simp [Ne.symm h2], by simp, fun h => absurd rfl h⟩
    have hmany : (numS s 0).1 ≤ 65536 := by
      rw [e0] at hbad ⊢
      rcases gets_err s with h | h | h
      · omega
      · rw [h]; simp
      · rw [h]; simp
    have tl := slots_tail (T := T) h0 _ br vr er (numS s 0).1 (slotsF (numS s 0).1.toNat [] (numS s 0).2.1 (numS s 0).2.2) (fun a1 a2 a6 a7 a8 a9 a10 a11 a12 a13 a14 a15 a16 a17 a18 a19 a20 a21 a83 => by
      exact slots_l hN h0 br vr er (by omega) (numS s 0).1 hmany (numS s 0).1.toNat _ 0 [] (numS s 0).2.1 (numS s 0).2.2 hs1 (by simp; omega) hI (by simp) a1 a2 a6 a7 a8 a9 a10 a11 a12 a13 a14 a15 a16 a17 a18 a19 a20 a21 a83)
    obtain ⟨H, bo, tm', x1, x2, x3⟩ : ∃ H bo tm', tm'[2]? = some (outA bo (slotsF (numS s 0).1.toNat [] (numS s 0).2.1 (numS s 0).2.2).1) ∧ InvS h0 H br bo vr er (slotsF (numS s 0).1.toNat [] (numS s 0).2.1 (numS s 0).2.2).1 (slotsF (numS s 0).1.toNat [] (numS s 0).2.1 (numS s 0).2.2).2.1 (slotsF (numS s 0).1.toNat [] (numS s 0).2.1 (numS s 0).2.2).2.2 ∧ Run Try.prog T c59 ([.pt br vr 0] ++ List.replicate 83 (.s undef)) h0 (.ret, tm', H) := by
      by_cases hw : (numS s 0).2.2 = 0
      · have hm : ¬ 65536 < (numS s 0).1 := by omega
        obtain ⟨H, bo, tm', x1, x2, x3⟩ := tl (.s undef) (.s (.slice none 0 0)) (.s undef) (.s undef) (.s undef) (.s undef) (.pt br vr 0) (.s (.int .u64 (numS s 0).1)) (.pt br vr 0) (.pt br vr 0) (.pt br vr 1) (.s (.int .i64 (numS s 0).2.2)) (.s (.bool true)) (.s (.bool true)) (.s (.int .u64 (numS s 0).1)) (.s (.bool false)) (.s (.bool false)) (.s undef) (.s undef) (.s undef)
        refine ⟨H, bo, tm', x1, x2, ?_⟩
        apply Run.seq
        · apply Run.step 20; intro k j
          simp
          (constructor <;> rfl)
        · apply Run.seq
          · apply Run.step 20; intro k j
            simp [hc, hkNum, hb, hs]
            (constructor <;> rfl)
          · apply Run.seq
            · apply Run.step 20; intro k j
              simp [hb, hlt, oneOr, cellsOf, isCell, eq_true hw, eq_false hm]
              (constructor <;> rfl)
            · exact x3
      · obtain ⟨H, bo, tm', x1, x2, x3⟩ := tl (.s undef) (.s (.slice none 0 0)) (.s undef) (.s undef) (.s undef) (.s undef) (.pt br vr 0) (.s (.int .u64 (numS s 0).1)) (.pt br vr 0) (.pt br vr 0) (.pt br vr 1) (.s (.int .i64 (numS s 0).2.2)) (.s (.bool false)) (.s (.bool false)) (.s undef) (.s undef) (.s (.bool false)) (.s undef) (.s undef) (.s undef)
        refine ⟨H, bo, tm', x1, x2, ?_⟩
        apply Run.seq
        · apply Run.step 20; intro k j
          simp
          (constructor <;> rfl)
        · apply Run.seq
          · apply Run.step 20; intro k j
            simp [hc, hkNum, hb, hs]
            (constructor <;> rfl)
          · apply Run.seq
            · apply Run.step 20; intro k j
              simp [hb, hlt, oneOr, cellsOf, isCell, eq_false hw]
              (constructor <;> rfl)
            · exact x3
    exact ⟨H, bo, FRun.of (e := .ret) (hT.trans p59) x3 (Or.inl rfl) (by simp [resAs, resA, x1, tupA]), x2⟩
end Go.Proofs.Ytpmoellbfgcefaa.AS
end
