/- Of our own: an abstract machine beside the model, its soundness, and walks of the program in it. -/
import Derived.Test.YtdgnddidibpilaaDoorA3
import Derived.RangeFuncLeaves
import Derived.RangeFuncRecord
import Derived.RangeFuncIn
import Derived.RangeFuncFrom
import Derived.TacticsIn
import Derived.OrdersIn
set_option linter.unusedSimpArgs false
set_option linter.unusedVariables false
section
set_option autoImplicit false
namespace Go.Proofs.YtdgnddidibpilaaDoor.AS
open Go Go.RowKit

inductive ARes where
  | tmp (t : Nat)
  | cell (agg : Bool) (n t : Nat)

inductive ACode where
  | skip
  | reg (ops : List AOper)
  | draw (ops : List AOper) (chk : List (Nat × Nat × Nat))
  | seq (a b : ACode)
  | cond (c : Operand) (a b : ACode)
  | block (id : Nat) (b : ACode)
  | loop (fg : List Nat) (b : ACode)
  | exit (id : Nat)
  | scope (fg : List Nat) (b cur : ACode)
  | label (fg : List Nat) (l : Nat)
  | goto (l : Nat)
  | ret
  | rangeF (f : Operand) (ps : List Nat) (asg body : ACode)

inductive AFunc where
  | code (ntmps : Nat) (res : List ARes) (body : ACode)
  | hook (f : List AV → Heap → Option (AV × Heap))

inductive Ex where
  | normal | exit (id : Nat) | goto (l : Nat) | ret

def Ex.toExit : Ex → Exit
  | .normal => .normal
  | .exit id => .exit id
  | .goto l => .goto l
  | .ret => .ret

def opV (P : Program) (g : CallF) (tm : List AV) (h : Heap) : AOp → Option (AV × Heap)
  | .p o => (pV P tm o).map fun x => (x, h)
  | .r o => (rV P tm h o).map fun x => (x, h)
  | .e o => eV g tm h o

def putA (tm : List AV) (d : Option Nat) (x : AV) : List AV :=
  match d with
  | some d => tm.set d x
  | none => tm

def wantA (tm : List AV) : Option (Nat × Bool) → Option Bool
  | none => some true
  | some (s, want) => match tm[s]? with
    | some (.s (.bool b)) => some (b == want)
    | some (.s (.tuple _)) => some false
    | _ => none

def evOps (P : Program) (g : CallF) : List AOper → List AV → Heap → Option (List AV × Heap)
  | [], tm, h => some (tm, h)
  | o :: rest, tm, h => match wantA tm o.guard with
    | some true => match opV P g tm h o.op with
      | some (x, h') => evOps P g rest (putA tm o.dst x) h'
      | none => none
    | some false => evOps P g rest (putA tm o.dst (.s undef)) h
    | none => none

def forget : List Nat → List AV → List AV
  | [], tm => tm
  | t :: l, tm => forget l (tm.set t .any)

def findA : ACode → Nat → Option ACode
  | .seq a b, l => match findA a l with
    | some rest => some (.seq rest b)
    | none => findA b l
  | .label _ l', l => if l' == l then some .skip else none
  | _, _ => none

/-! ### A region whose order is open: the text's order, and that no other order would tell -/
def isE : AOp → Bool
  | .e _ => true
  | _ => false

/-- The run in the text's order: the heaps ahead of the effects and behind the last, what stood ahead of each operation and what it gave. -/
def runDraw (P : Program) (g : CallF) : List AOper → List AV → Heap → Option (List Heap × List (List AV × AV × Bool) × List AV × Heap)
  | [], tm, h => some ([h], [], tm, h)
  | o :: rest, tm, h => match wantA tm o.guard with
    | some true => match opV P g tm h o.op with
      | some (x, h') => match runDraw P g rest (putA tm o.dst x) h' with
        | some (hs, xs, r) => some (if isE o.op then h :: hs else hs, (tm, x, true) :: xs, r)
        | none => none
      | none => none
    | some false => match runDraw P g rest (putA tm o.dst (.s undef)) h with
        | some (hs, xs, r) => some (if isE o.op then h :: hs else hs, (tm, .s undef, false) :: xs, r)
        | none => none
    | none => none

def vEq : Value → Value → Bool
  | .int k a, .int k' b => k == k' && a == b
  | .bool a, .bool b => a == b
  | .string a, .string b => a.data.toList == b.data.toList
  | .pointer none, .pointer none => true
  | .slice none a b, .slice none c d => a == c && b == d
  | .nilFunc, .nilFunc => true
  | _, _ => false
mutual
def avEq : AV → AV → Bool
  | .s a, .s b => vEq a b
  | .pt a b c, .pt a' b' c' => a == a' && b == b' && c == c'
  | .sl a b c d e, .sl a' b' c' d' e' => a == a' && b == b' && c == c' && d == d' && e == e'
  | .ag l, .ag l' => avsEq l l'
  | _, _ => false
def avsEq : List AV → List AV → Bool
  | [], [] => true
  | x :: l, y :: l' => avEq x y && avsEq l l'
  | _, _ => false
end

def okAt (P : Program) (tm : List AV) (q : ROp) (x : AV) (h : Heap) : Bool :=
  match rV P tm h q with
  | some y => avEq y x
  | none => false

/-- What reads memory reads the same wherever else the order may have it. -/
def chkDraw (P : Program) (ops : List AOper) (hs : List Heap) (xs : List (List AV × AV × Bool)) : List (Nat × Nat × Nat) → Bool
  | [] => true
  | (i, lo, hi) :: l => (match ops[i]?, xs[i]? with
    | some ⟨_, _, .r q⟩, some (tm, x, ran) => !ran || ((hs.drop lo).take (hi + 1 - lo)).all (okAt P tm q x)
    | _, _ => false) && chkDraw P ops hs xs l

/-- A loop over a function: its record, as a block without cells. -/
def loopBlk : Blk := ⟨0, 0, 0, false, []⟩
def putPs : List Nat → List AV → List AV → List AV
  | p :: ps, x :: xs, tm => putPs ps xs (tm.set p x)
  | _, _, tm => tm
def withY (g : CallF) (b : Nat) (hnd : List AV → Heap → Option (AV × Heap)) : CallF := fun f l h => if f = YB + b then hnd l h else g f l h
def noY (g : CallF) : CallF := fun f l h => if f < YB then g f l h else none
/-- Whether code holds a loop over a function. -/
def hasRF : Code → Bool
  | .rangeFunc _ _ _ _ => true
  | .seq a b | .cond _ a b => hasRF a || hasRF b
  | .block _ b | .loop b | .scope b => hasRF b
  | _ => false

/-! ### From the model's code -/
/-- Whatever is not covered is an operation that comes to nothing. -/
def prepOp (P : Program) (o : Oper) : Option AOp := some ((prepOp0 P o).getD (.p .bad))
def prepOps (P : Program) (ops : Array Oper) : List Oper → Option (List AOper)
  | [] => some []
  | o :: l => match prepOp P o, prepOps P ops l with
    | some q, some r => match o.guard with
      | none => some (⟨o.dst, none, q⟩ :: r)
      | some (j, want) => match (ops[j]?).bind (·.dst) with
        | some s => some (⟨o.dst, some (s, want), q⟩ :: r)
        | none => none
    | _, _ => none

/-! What a region whose order is open must be, that its text's order tells for all. -/
def opdsP : POp → List Operand
  | .mv x => [x]
  | .pick c a b => [c, a, b]
  | .build _ parts => parts.map fun x => x.2.2
  | .sc op _ => op.operands.toList
  | .nilck x => [x]
  | .eqnil _ _ x => [x]
  | .mkfn _ x y => x ++ y
  | .slice _ x lo hi => x :: (lo.toList ++ hi.toList)
  | .slice3 _ x lo hi mx => x :: hi :: mx :: lo.toList
  | .capN x => [x]
  | .bad => []
  | .faddr _ x => [x]
  | .fld _ _ _ x => [x]
  | .iaddr _ x i => [x, i]
  | .iaddrA _ _ x i => [x, i]
  | .idxA _ _ _ x i => [x, i]
  | .ext x _ => [x]
  | .lenS x => [x]
  | .sdata x => [x]

def opdsR : ROp → List Operand
  | .load _ _ x => [x]
  | .b2s x => [x]

def opdsE : EOp → List Operand
  | .new _ _ _ => []
  | .box _ _ x => [x]
  | .bslice _ _ _ _ parts => parts.map fun x => x.2.2
  | .store _ a x => [a, x]
  | .make _ _ _ _ l c => [l, c]
  | .app _ _ _ x y => [x, y]
  | .appz _ _ _ _ x y => [x, y]
  | .s2b _ x => [x]
  | .ustr _ x n => [x, n]
  | .call _ args => args
  | .callv f args => f :: args

def opds : AOp → List Operand
  | .p o => opdsP o
  | .r o => opdsR o
  | .e o => opdsE o

def tmpOf : Operand → List Nat
  | .tmp t => [t]
  | _ => []

def looksA (o : AOper) : List Nat := (opds o.op).flatMap tmpOf ++ (match o.guard with | some (s, _) => [s] | none => [])

def direct (ops : Array Oper) (i : Nat) : List Nat :=
  ((ops[i]?).map fun o => (o.after.toList.filter fun e => Region.binds .any e).map (·.on)).getD []

def ancs (ops : Array Oper) : Nat → List (List Nat)
  | 0 => []
  | n + 1 => let A := ancs ops n; A ++ [((direct ops n).flatMap fun d => d :: A.getD d []).eraseDups]

def before (A : List (List Nat)) (i j : Nat) : Bool := (A.getD j []).contains i

def isEi (al : List AOper) (k : Nat) : Bool := match al[k]? with | some o => isE o.op | none => false

/-- The static conditions. -/
def drawOk (ops : Array Oper) (al : List AOper) (A : List (List Nat)) : Bool :=
  let n := al.length
  let idx := List.range n
  (n == ops.size) &&
  (idx.all fun j => (direct ops j).all fun d => decide (d < j)) &&
  (idx.all fun j => (A.getD j []).all fun i => (direct ops j).contains i || (direct ops j).any fun d => (A.getD d []).contains i) &&
  (idx.all fun i => idx.all fun j => i == j || before A i j || before A j i ||
    (match al[i]?, al[j]? with
      | some x, some y => (match x.dst with | some t => !(looksA y).contains t && !(y.dst == some t) | none => true)
      | _, _ => false)) &&
  (idx.all fun i => idx.all fun j => !decide (i < j) || !isEi al i || !isEi al j || before A i j)

/-- Where the reading operations may stand among the effects. -/
def chkOf (al : List AOper) (A : List (List Nat)) : List (Nat × Nat × Nat) :=
  let n := al.length
  let es := (List.range n).filter (isEi al)
  (List.range n).filterMap fun (i : Nat) => match (al[i]? : Option AOper) with
    | some ⟨_, _, .r _⟩ => let lo := (es.filter fun e => before A e i).length; let hi := (es.filter fun e => !before A i e).length
      if lo < hi then some (i, lo, hi) else none
    | _ => none

/-! What a loop's head may forget: slots without a name that its body writes ahead of reading. -/
structure RW where
  rd : List Nat
  must : List Nat
  may : List Nat

def rwOps : List AOper → RW → RW
  | [], s => s
  | o :: l, s => rwOps l ⟨((looksA o).filter fun t => !s.must.contains t) ++ s.rd, o.dst.toList ++ s.must, o.dst.toList ++ s.may⟩

def rwC : ACode → RW
  | .reg ops => rwOps ops ⟨[], [], []⟩
  | .draw ops _ => rwOps ops ⟨[], [], []⟩
  | .seq a b => let x := rwC a; let y := rwC b; ⟨x.rd ++ y.rd.filter (fun t => !x.must.contains t), x.must ++ y.must, x.may ++ y.may⟩
  | .cond c a b => let x := rwC a; let y := rwC b; ⟨tmpOf c ++ x.rd ++ y.rd, x.must.filter y.must.contains, x.may ++ y.may⟩
  | .block _ b => let x := rwC b; ⟨x.rd, [], x.may⟩
  | .loop _ b => let x := rwC b; ⟨x.rd, [], x.may⟩
  | .scope _ b _ => let x := rwC b; ⟨x.rd, [], x.may⟩
  | .rangeF f _ a b => ⟨tmpOf f ++ (rwC a).rd ++ (rwC b).rd, [], []⟩
  | _ => ⟨[], [], []⟩

def forgetOf (tmp : List Nat) (b : ACode) : List Nat :=
  let x := rwC b
  tmp.filter fun t => x.may.contains t && !x.rd.contains t

def prepC (P : Program) (tmp : List Nat) : Code → Option ACode
  | .skip => some .skip
  | .region _ ops false => (prepOps P ops ops.toList).map .reg
  | .region _ ops true => match prepOps P ops ops.toList with
    | some al => let A := ancs ops ops.size; if drawOk ops al A then some (.draw al (chkOf al A)) else none
    | none => none
  | .seq a b => match prepC P tmp a, prepC P tmp b with
    | some x, some y => some (.seq x y)
    | _, _ => none
  | .cond c a b => match prepC P tmp a, prepC P tmp b with
    | some x, some y => some (.cond c x y)
    | _, _ => none
  | .block id b => (prepC P tmp b).map (.block id)
  | .loop b => (prepC P tmp b).map fun x => .loop (forgetOf tmp x) x
  | .rangeFunc f ps x b => if hasRF x || hasRF b then none else match prepC P tmp x, prepC P tmp b with
    | some y, some z => some (.rangeF f ps.toList y z)
    | _, _ => none
  | .exit id => some (.exit id)
  | .scope b => (prepC P tmp b).map fun x => .scope tmp x x
  | .label l => some (.label tmp l)
  | .goto l => some (.goto l)
  | .ret => some .ret
  | .refuse _ => none

def prepRes (P : Program) : ResultVar → Option ARes
  | .tmp t => some (.tmp t)
  | .cell a t => match P.underlying t, P.info? t with
    | some d, some i => if isAggD d then some (.cell true i.size a) else some (.cell false 1 a)
    | _, _ => none

def prepRess (P : Program) : List ResultVar → Option (List ARes)
  | [] => some []
  | r :: l => match prepRes P r, prepRess P l with | some x, some xs => some (x :: xs) | _, _ => none

/-- The slots without a name: what the loops' heads forget. -/
def tmpSlots (fn : Func) : List Nat := (List.range fn.ntmps).filter fun i => (fn.tmpNames.getD i "").isEmpty

def prepFn (P : Program) (f : FuncId) : Option AFunc :=
  if callable P f then match P.funcs[f]? with
    | some fn => match fn.body with
      | some c => match prepC P (tmpSlots fn) c, prepRess P fn.results.toList with
        | some ac, some rs => some (.code fn.ntmps rs ac)
        | _, _ => none
      | none => none
    | none => none
  else none

abbrev Res := Ex × List AV × Heap

/-- One round: the assignments, and the body. -/
def rndH (ps : List Nat) (tm : List AV) (ra rb : List AV → Heap → Option Res) : List AV → Heap → Option (AV × Heap) := fun xs h1 =>
  if xs.length = ps.length then match ra (putPs ps xs tm) h1 with
    | some (.normal, tm1, h2) => match rb tm1 h2 with
      | some (.normal, _, h3) => some (.s (.bool true), h3)
      | _ => none
    | _ => none
  else none

def evC (P : Program) (g : CallF) : Nat → ACode → List AV → Heap → Option Res
  | 0, _, _, _ => none
  | k + 1, c, tm, h => match c with
    | .skip => some (.normal, tm, h)
    | .label fg _ => some (.normal, forget fg tm, h)
    | .reg ops => (evOps P g ops tm h).map fun r => (.normal, r.1, r.2)
    | .draw ops chk => match runDraw P g ops tm h with
      | some (hs, xs, tm', h') => if chkDraw P ops hs xs chk then some (.normal, tm', h') else none
      | none => none
    | .seq a b => match evC P g k a tm h with
      | some (.normal, tm', h') => evC P g k b tm' h'
      | r => r
    | .cond c a b => match evO tm c with
      | some (.s (.bool t)) => if t then evC P g k a tm h else evC P g k b tm h
      | _ => none
    | .block id b => match evC P g k b tm h with
      | some (.exit j, tm', h') => if j = id then some (.normal, tm', h') else some (.exit j, tm', h')
      | r => r
    | .loop fg b => match evC P g k b (forget fg tm) h with
      | some (.normal, tm', h') => evC P g k (.loop fg b) tm' h'
      | r => r
    | .exit id => some (.exit id, tm, h)
    | .goto l => some (.goto l, tm, h)
    | .ret => some (.ret, tm, h)
    | .scope fg b cur => match evC P g k cur tm h with
      | some (.goto l, tm', h') => match findA b l with
        | some rest => evC P g k (.scope fg b rest) (forget fg tm') h'
        | none => some (.goto l, tm', h')
      | r => r
    | .rangeF f ps asg body => match evO tm f with
      | some (.fn (.func gf) [] cap) => match prepFn P gf with
        | some (.code nt [] itb) =>
          match evC P (withY (noY g) h.length (rndH ps tm (evC P (noY g) k asg) (evC P (noY g) k body))) k itb (.yl h.length :: cap ++ List.replicate (nt - (cap.length + 1)) (.s undef)) (h ++ [loopBlk]) with
          | some (.ret, _, h2) => some (.normal, tm, h2)
          | some (.normal, _, h2) => some (.normal, tm, h2)
          | _ => none
        | _ => none
      | _ => none

def resA (tm : List AV) (h : Heap) : ARes → Option AV
  | .tmp t => tm[t]?
  | .cell agg n t => match tm[t]? with
    | some (.pt b v o) => (rdn h b v o n).bind (oneOr agg)
    | _ => none

def resAs (tm : List AV) (h : Heap) : List ARes → Option (List AV)
  | [] => some []
  | r :: l => match resA tm h r, resAs tm h l with | some x, some xs => some (x :: xs) | _, _ => none

def tupA : List AV → AV
  | [x] => x
  | l => .tp l

def evFn (P : Program) (T : FuncId → Option AFunc) : Nat → CallF
  | 0 => fun _ _ _ => none
  | k + 1 => fun f args h => match T f with
    | some (.code nt res body) => match evC P (evFn P T k) (k + 1) body (args ++ List.replicate (nt - args.length) (.s undef)) h with
      | some (.ret, tm, h') => (resAs tm h' res).map fun l => (tupA l, h')
      | some (.normal, tm, h') => (resAs tm h' res).map fun l => (tupA l, h')
      | _ => none
    | some (.hook hk) => hk args h
    | none => none

section sound
variable {P : Program} {base : Nat} {W : World}

/-- The fence that shuts nothing out, for a frame of whatever make. -/
abbrev WF (r : Option Nat) : Fence := { Fence.wide with round := r }
/-- What the calls of a table come to: functions, and the yields of the loops over functions that are at work. -/
def CallSound (P : Program) (base : Nat) (W : World) (ρ0 : PM) (w0 : World) (g : CallF) : Prop :=
  ∀ f l h r, g f l h = some r →
    (callable P f = true ∧ ∀ ρ w vs, HR P base W ρ h w → RVs ρ w l vs → Calls P f vs.toArray w fun e w' => ∃ v ρ', e = .returned v ∧ Eff P base W ρ w r v w' ρ') ∨
    (∃ b, f = YB + b ∧ ∀ ρ w vs p n, Ext ρ0 ρ → Keep w0 w → HR P base W ρ h w → RVs ρ w l vs → ρ b 0 = some p → YieldAt Fence.wide n P p.blk vs.toArray w fun e w' => ∃ v ρ', e = .returned v ∧ Eff P base W ρ w r v w' ρ')
theorem callable_lt {f : FuncId} (h : callable P f = true) : f < YB := by
  unfold callable at h
  simp only [Bool.and_eq_true, decide_eq_true_eq] at h
  exact h.1
theorem CallSound.noY {ρ0 : PM} {w0 : World} {g : CallF} (hg : CallSound P base W ρ0 w0 g) (ρ1 : PM) (w1 : World) : CallSound P base W ρ1 w1 (noY g) := by
  intro f l h r he
  unfold AS.noY at he
  split at he
  · rename_i hlt
    rcases hg f l h r he with h | ⟨b, h, _⟩
    · exact .inl h
    · exact absurd hlt (by rw [h]; exact Nat.not_lt.2 (Nat.le_add_right _ _))
  · cases he

theorem putA_RVs {ρ : PM} {w : World} {tm : List AV} {a : Act} (hr : RVs ρ w tm a.tmps.toList) (d : Option Nat) {x : AV} {v : Value} (hx : RV ρ w x v) : RVs ρ w (putA tm d x) (a.put d v).tmps.toList := by
  cases d with
  | none => exact hr
  | some d => simp only [putA, Act.put, Array.toList_setIfInBounds]; exact RVs_set hr hx

theorem put_defers {a : Act} (d : Option Nat) (v : Value) : (a.put d v).defers = a.defers := by cases d <;> rfl

theorem callFunc_run {f : FuncId} (hc : callable P f = true) (args : Array Value) (w : World) : (callFunc f args).run P w = .ok (.enter f args) w := by
  unfold callable at hc
  rw [Bool.and_eq_true] at hc
  replace hc := hc.2
  split at hc
  · rename_i fn hf
    simp only [Bool.and_eq_true, bne_iff_ne, ne_eq] at hc
    obtain ⟨c, hb⟩ := Option.isSome_iff_exists.1 hc.2
    simp [callFunc, hf, hc.1, hb]
  · cases hc

theorem semAt_prep {o : Oper} {q : AOp} (hp : prepOp0 P o = some q) (rd : Option Nat) (ρ : Operand → Value) : o.semAt rd ρ = execOp ρ o := by
  obtain ⟨dst, op, ty, pos, after, guard⟩ := o
  cases rd with
  | none => rfl
  | some l => cases op <;> first | rfl | simp [prepOp0] at hp
theorem callsIn_wf {rd : Option Nat} {n : Nat} {f : FuncId} {args : Array Value} {w : World} {R : Ending → World → Prop} (h : Calls P f args w R) : CallsIn (WF rd) n P f args w R :=
  (callsIn_wide (n := n)).2 h
theorem roundIn_wf {rd : Option Nat} {n l : Nat} {f : FuncId} {tmps : Array Value} {assign body : Code} {w : World} {R : Ending → World → Prop} (h : RoundIn Fence.wide n P l f tmps assign body w R) : RoundIn (WF rd) n P l f tmps assign body w R := h
theorem op_wp {ρ0 ρ : PM} {h : Heap} {w0 w : World} {a : Act} {tm : List AV} {g : CallF} {rd : Option Nat} {n : Nat} (hg : CallSound P base W ρ0 w0 g) (hx0 : Ext ρ0 ρ) (hk0 : Keep w0 w) (o : Oper) {q : AOp} (hp : prepOp P o = some q) {r : AV × Heap} (hv : opV P g tm h q = some r)
    (hr : RVs ρ w tm a.tmps.toList) (H : HR P base W ρ h w) (K : Act → World → Prop) (Q : Exit → Act → World → Prop) (hK : ∀ v w' ρ', Eff P base W ρ w r v w' ρ' → K (a.put o.dst v) w') : o.wpIn (WF rd) n P a w K Q := by
  have hp0 : prepOp0 P o = some q := by
    simp only [prepOp, Option.some.injEq] at hp
    cases h0 : prepOp0 P o with
    | none =>
      rw [h0] at hp
      subst hp
      simp [opV, pV] at hv
    | some q' => rw [h0] at hp; rw [← hp]; rfl
  replace hp := hp0
  refine ⟨fun _ _ => trivial, ?_⟩
  rw [semAt_prep hp]
  cases q with
  | p q =>
    simp only [opV, Option.map_eq_some_iff] at hv
    obtain ⟨x, hx, rfl⟩ := hv
    obtain ⟨v, h1, h2⟩ := pV_sound o hp hx hr
    rw [h1, Oper.uponIn_value]
    exact hK v w ρ ⟨Ext.refl _, Keep.refl _, h2, H⟩
  | r q =>
    simp only [opV, Option.map_eq_some_iff] at hv
    obtain ⟨x, hx, rfl⟩ := hv
    obtain ⟨v, h1, h2⟩ := rV_sound o hp hx hr H
    rw [h1, Oper.uponIn_value]
    exact hK v w ρ ⟨Ext.refl _, Keep.refl _, h2, H⟩
  | e q =>
    simp only [opV] at hv
    by_cases hc : (∀ f as, q ≠ .call f as) ∧ (∀ f as, q ≠ .callv f as)
    · obtain ⟨nx, v, w', ρ', h1, h2, h3⟩ := eV_sound o hp hc hv hr H
      rw [h1]
      rcases h2 with rfl | ⟨rfl, rfl⟩
      · exact hK v w' ρ' h3
      · exact hK undef w' ρ' h3
    · have hcall : (∃ f vs l, g f l h = some r ∧ callable P f = true ∧ RVs ρ w l vs ∧ (execOp a.eval o).run P w = .ok (.enter f vs.toArray) w) ∨ (∃ b p vs l, g (YB + b) l h = some r ∧ ρ b 0 = some p ∧ RVs ρ w l vs ∧ (execOp a.eval o).run P w = (Instr.yield p.blk vs.toArray).run P w) := by
        obtain ⟨dst, op, ty, pos, after, guard⟩ := o
        unfold prepOp0 at hp
        cases op with
        | call c =>
          obtain ⟨callee, args, argTypes⟩ := c
          cases callee with
          | invoke _ _ => simp [prepCall] at hp
          | builtin bi => cases bi <;> simp only [prepCall, prepSc] at hp <;> (repeat' split at hp) <;> simp at hp <;> subst hp <;> exact absurd ⟨fun _ _ => by simp, fun _ _ => by simp⟩ hc
          | value fo =>
            cases fo with
            | const v => simp [prepCall] at hp
            | global n => simp [prepCall] at hp
            | func f =>
              simp only [prepCall] at hp
              split at hp
              · rename_i hcf
                simp only [Option.some.injEq, AOp.e.injEq] at hp; subst hp
                simp only [eV] at hv
                split at hv
                · rename_i l hl
                  refine .inl ⟨f, _, l, hv, hcf, evOs_RVs hr hl, ?_⟩
                  have he : a.eval (.func f) = .func (.func f) #[] #[] := rfl
                  have ha : (args.toList.map a.eval).toArray = args.map a.eval := by apply Array.ext'; simp
                  rw [ha]
                  simp only [execOp, resolve, he, Deferred.ofValue, Sem.run_bind, Sem.run_pure, Result.andThen_ok, invoke, Array.empty_append, Array.append_empty]
                  exact callFunc_run hcf _ w
                · cases hv
              · cases hp
            | tmp t =>
              simp only [prepCall, Option.some.injEq, AOp.e.injEq] at hp; subst hp
              simp only [eV] at hv
              split at hv
              · rename_i k x y l hf hl
                obtain ⟨xs, ys, h1, h2, h3⟩ := evO_RV hr hf
                split at hv
                case isFalse => cases hv
                rename_i hlt
                have hcf : callable P k = true := by
                  rcases hg _ _ _ _ hv with h | ⟨b, h, _⟩
                  · exact h.1
                  · exact absurd hlt (by rw [h]; exact Nat.not_lt.2 (Nat.le_add_right _ _))
                refine .inl ⟨k, xs.toList ++ args.toList.map a.eval ++ ys.toList, _, hv, hcf, RVs_append h3 (RVs_append (evOs_RVs hr hl) h2), ?_⟩
                have ha : (xs.toList ++ args.toList.map a.eval ++ ys.toList).toArray = xs ++ args.map a.eval ++ ys := by apply Array.ext'; simp
                rw [ha]
                simp only [execOp, resolve, h1, Deferred.ofValue, Sem.run_bind, Sem.run_pure, Result.andThen_ok, invoke]
                exact callFunc_run hcf _ w
              · rename_i k x y l hf hl
                have h1 : a.eval (.tmp t) = .func (.func k) x y := evO_RV hr hf
                split at hv
                case isFalse => cases hv
                rename_i hlt
                have hcf : callable P k = true := by
                  rcases hg _ _ _ _ hv with h | ⟨b, h, _⟩
                  · exact h.1
                  · exact absurd hlt (by rw [h]; exact Nat.not_lt.2 (Nat.le_add_right _ _))
                refine .inl ⟨k, x.toList ++ args.toList.map a.eval ++ y.toList, _, hv, hcf, RVs_append (RVs_s _) (RVs_append (evOs_RVs hr hl) (RVs_s _)), ?_⟩
                have ha : (x.toList ++ args.toList.map a.eval ++ y.toList).toArray = x ++ args.map a.eval ++ y := by apply Array.ext'; simp
                rw [ha]
                simp only [execOp, resolve, h1, Deferred.ofValue, Sem.run_bind, Sem.run_pure, Result.andThen_ok, invoke]
                exact callFunc_run hcf _ w
              · rename_i b l hf hl
                obtain ⟨p, hp1, h1⟩ := evO_RV hr hf
                refine .inr ⟨b, p, args.toList.map a.eval, l, hv, hp1, evOs_RVs hr hl, ?_⟩
                have ha : (args.toList.map a.eval).toArray = args.map a.eval := by apply Array.ext'; simp
                rw [ha]
                simp [execOp, resolve, h1, Deferred.ofValue, Sem.run_bind, Sem.run_pure, Result.andThen_ok, invoke, callFunc]
              · cases hv
        | alloc e => simp only at hp; (repeat' split at hp) <;> simp at hp <;> subst hp <;> exact absurd ⟨fun _ _ => by simp, fun _ _ => by simp⟩ hc
        | box e y => simp only at hp; (repeat' split at hp) <;> simp at hp <;> subst hp <;> exact absurd ⟨fun _ _ => by simp, fun _ _ => by simp⟩ hc
        | buildSlice t len parts =>
          simp only at hp
          (repeat' split at hp) <;> simp at hp <;> (obtain ⟨l, _, rfl⟩ := hp; exact absurd ⟨fun _ _ => by simp, fun _ _ => by simp⟩ hc)
        | store t y z => simp only at hp; (repeat' split at hp) <;> simp at hp <;> subst hp <;> exact absurd ⟨fun _ _ => by simp, fun _ _ => by simp⟩ hc
        | makeSlice t l c => simp only at hp; (repeat' split at hp) <;> simp at hp <;> subst hp <;> exact absurd ⟨fun _ _ => by simp, fun _ _ => by simp⟩ hc
        | load t y => simp only at hp; (repeat' split at hp) <;> simp at hp
        | convert src dst' y => simp only [prepSc] at hp; (repeat' split at hp) <;> simp at hp <;> subst hp <;> exact absurd ⟨fun _ _ => by simp, fun _ _ => by simp⟩ hc
        | build t parts => simp only at hp; (repeat' split at hp) <;> simp at hp
        | binOp op t y z yt => simp only [prepEq, prepSc] at hp; (repeat' split at hp) <;> simp at hp
        | unOp op t y => simp [prepSc] at hp
        | slice t y lo hi mx => simp only [prepSc] at hp; (repeat' split at hp) <;> simp at hp
        | fieldAddr s y f => simp only at hp; (repeat' split at hp) <;> simp at hp
        | field s y f => simp only at hp; (repeat' split at hp) <;> simp at hp
        | indexAddr s y f => simp only at hp; (repeat' split at hp) <;> simp at hp
        | index s y f => simp only [prepSc] at hp; (repeat' split at hp) <;> simp at hp
        | _ => simp at hp
      rcases hcall with ⟨f, vs, l, h1, hcf, h2, h3⟩ | ⟨b, p, vs, l, h1, hp1, h2, h3⟩
      · rw [h3, Oper.uponIn_enter]
        refine ⟨fun h => by simp [WF, Fence.wide] at h, callsIn_wf ?_⟩
        rcases hg f l h r h1 with hh | ⟨b, hh, _⟩
        · refine (hh.2 ρ w vs H h2).mono ?_
          rintro e w' ⟨v, ρ', rfl, he⟩
          exact hK v w' ρ' he
        · exact absurd (callable_lt hcf) (by rw [hh]; exact Nat.not_lt.2 (Nat.le_add_right _ _))
      · rcases hg _ l h r h1 with hh | ⟨b', hh, hy⟩
        · exact absurd (callable_lt hh.1) (Nat.not_lt.2 (Nat.le_add_right _ _))
        · obtain rfl : b = b' := Nat.add_left_cancel hh
          obtain ⟨fn, tmps, assign, body, e1, e2⟩ := hy ρ w vs p (n - 1) hx0 hk0 H h2 hp1
          rw [h3, e1, Oper.uponIn_round]
          refine ⟨fun h => by simp [WF, Fence.wide] at h, roundIn_wf (e2.mono ?_)⟩
          rintro e w' ⟨v, ρ', rfl, he⟩
          exact hK v w' ρ' he

end sound
end Go.Proofs.YtdgnddidibpilaaDoor.AS
end
section
set_option autoImplicit false
namespace Go.Proofs.YtdgnddidibpilaaDoor.AS
open Go Go.RowKit

section congr
variable {tm tm2 : List AV}
theorem evO_congr {x : Operand} (h : ∀ t ∈ tmpOf x, tm[t]? = tm2[t]?) : evO tm x = evO tm2 x := by
  cases x with
  | tmp t => exact h t (by simp [tmpOf])
  | _ => rfl

theorem evOs_congr : ∀ {l : List Operand}, (∀ t ∈ l.flatMap tmpOf, tm[t]? = tm2[t]?) → evOs tm l = evOs tm2 l
  | [], _ => rfl
  | x :: l, h => by
    have h1 := evO_congr (tm := tm) (tm2 := tm2) (x := x) fun t ht => h t (by simp [ht])
    have h2 := evOs_congr (l := l) fun t ht => h t (by rw [List.flatMap_cons]; exact List.mem_append_right _ ht)
    simp only [evOs, h1, h2]

theorem evParts_congr : ∀ {l : List (Nat × Nat × Operand)}, (∀ t ∈ (l.map fun x => x.2.2).flatMap tmpOf, tm[t]? = tm2[t]?) → evParts tm l = evParts tm2 l
  | [], _ => rfl
  | (o, n, x) :: l, h => by
    have h1 := evO_congr (tm := tm) (tm2 := tm2) (x := x) fun t ht => h t (by simp [ht])
    have h2 := evParts_congr (l := l) fun t ht => h t (by rw [List.map_cons, List.flatMap_cons]; exact List.mem_append_right _ ht)
    simp only [evParts, h1, h2]

theorem scV_congr {P : Program} {op : Op} {ty : TypeId} (h : ∀ t ∈ op.operands.toList.flatMap tmpOf, tm[t]? = tm2[t]?) : scV P tm op ty = scV P tm2 op ty := by
  have he : ∀ x ∈ op.operands, evO tm x = evO tm2 x := fun x hx => evO_congr fun t ht => h t (List.mem_flatMap.2 ⟨x, Array.mem_toList_iff.2 hx, ht⟩)
  unfold scV
  have h1 : (op.operands.toList.all fun x => ((evO tm x).bind toV).isSome) = (op.operands.toList.all fun x => ((evO tm2 x).bind toV).isSome) := by
    rw [Bool.eq_iff_iff, List.all_eq_true, List.all_eq_true]
    constructor
    · intro hh x hx; rw [← he x (Array.mem_toList_iff.1 hx)]; exact hh x hx
    · intro hh x hx; rw [he x (Array.mem_toList_iff.1 hx)]; exact hh x hx
  rw [h1]
  split
  · rename_i hc
    have hs := (Bool.and_eq_true _ _ ▸ hc : _ ∧ _).2
    have : execOp (envV tm) (opOf op ty) = execOp (envV tm2) (opOf op ty) := by
      refine execOp_congr _ ?_ fun x hx => ?_
      · intro cs b hcs
        have : op = .select cs b := hcs
        subst this
        simp [notSel] at hs
      · unfold envV; rw [he x hx]
    rw [this]
  · rfl

theorem pV_congr {P : Program} {q : POp} (h : ∀ t ∈ (opdsP q).flatMap tmpOf, tm[t]? = tm2[t]?) : pV P tm q = pV P tm2 q := by
  have one : ∀ x ∈ opdsP q, evO tm x = evO tm2 x := fun x hx => evO_congr fun t ht => h t (List.mem_flatMap.2 ⟨x, hx, ht⟩)
  cases q with
  | build zero parts => simp only [pV]; rw [evParts_congr h]
  | sc op ty => exact scV_congr h
  | mkfn f x y =>
    simp only [pV]
    rw [evOs_congr (l := x) fun t ht => h t (by simp only [opdsP, List.flatMap_append]; exact List.mem_append_left _ ht), evOs_congr (l := y) fun t ht => h t (by simp only [opdsP, List.flatMap_append]; exact List.mem_append_right _ ht)]
  | slice3 sz x lo hi mx =>
    have hx := one x (by simp [opdsP])
    have hh := one hi (by simp [opdsP])
    have hm := one mx (by simp [opdsP])
    have hlo : ∀ d, loI tm d lo = loI tm2 d lo := by
      intro d
      cases lo with
      | none => rfl
      | some y => simp only [loI]; rw [one y (by simp [opdsP])]
    have hhi : ∀ d, loI tm d (some hi) = loI tm2 d (some hi) := fun d => by simp only [loI]; rw [hh]
    have hmx : ∀ d, loI tm d (some mx) = loI tm2 d (some mx) := fun d => by simp only [loI]; rw [hm]
    simp only [pV, hx, hlo, hhi, hmx]
  | capN x => simp only [pV]; rw [one x (by simp [opdsP])]
  | bad => rfl
  | slice sz x lo hi =>
    have hx := one x (by simp [opdsP])
    have hlo : ∀ d, loI tm d lo = loI tm2 d lo := by
      intro d
      cases lo with
      | none => rfl
      | some y => simp only [loI]; rw [one y (by simp [opdsP])]
    have hhi : ∀ d, loI tm d hi = loI tm2 d hi := by
      intro d
      cases hi with
      | none => rfl
      | some y => simp only [loI]; rw [one y (by simp [opdsP])]
    simp only [pV, hx, hlo, hhi]
  | mv x => simp only [pV, one x (by simp [opdsP])]
  | pick c a b => simp only [pV, one c (by simp [opdsP]), one a (by simp [opdsP]), one b (by simp [opdsP])]
  | nilck x => simp only [pV, one x (by simp [opdsP])]
  | eqnil n k x => simp only [pV, one x (by simp [opdsP])]
  | faddr o x => simp only [pV, one x (by simp [opdsP])]
  | fld a o n x => simp only [pV, one x (by simp [opdsP])]
  | iaddr s x i => simp only [pV, one x (by simp [opdsP]), one i (by simp [opdsP])]
  | iaddrA n s x i => simp only [pV, one x (by simp [opdsP]), one i (by simp [opdsP])]
  | idxA n a s x i => simp only [pV, one x (by simp [opdsP]), one i (by simp [opdsP])]
  | ext x i => simp only [pV, one x (by simp [opdsP])]
  | lenS x => simp only [pV, one x (by simp [opdsP])]
  | sdata x => simp only [pV, one x (by simp [opdsP])]

theorem rV_congr {P : Program} {hp : Heap} {q : ROp} (h : ∀ t ∈ (opdsR q).flatMap tmpOf, tm[t]? = tm2[t]?) : rV P tm hp q = rV P tm2 hp q := by
  have one : ∀ x ∈ opdsR q, evO tm x = evO tm2 x := fun x hx => evO_congr fun t ht => h t (List.mem_flatMap.2 ⟨x, hx, ht⟩)
  cases q with
  | load a n x => simp only [rV, one x (by simp [opdsR])]
  | b2s x => simp only [rV, one x (by simp [opdsR])]

theorem eV_congr {g : CallF} {hp : Heap} {q : EOp} (h : ∀ t ∈ (opdsE q).flatMap tmpOf, tm[t]? = tm2[t]?) : eV g tm hp q = eV g tm2 hp q := by
  have one : ∀ x ∈ opdsE q, evO tm x = evO tm2 x := fun x hx => evO_congr fun t ht => h t (List.mem_flatMap.2 ⟨x, hx, ht⟩)
  cases q with
  | new e s c => rfl
  | box e s x => simp only [eV, one x (by simp [opdsE])]
  | bslice e s l c parts => simp only [eV]; rw [evParts_congr h]
  | store n a x => simp only [eV, one a (by simp [opdsE]), one x (by simp [opdsE])]
  | make e s b z l c => simp only [eV, one l (by simp [opdsE]), one c (by simp [opdsE])]
  | app e s b x y => simp only [eV, one x (by simp [opdsE]), one y (by simp [opdsE])]
  | appz e s b z x y => simp only [eV, one x (by simp [opdsE]), one y (by simp [opdsE])]
  | s2b e x => simp only [eV, one x (by simp [opdsE])]
  | ustr e x y => simp only [eV, one x (by simp [opdsE]), one y (by simp [opdsE])]
  | call f args => simp only [eV]; rw [evOs_congr (l := args) h]
  | callv f args =>
    simp only [eV]
    rw [one f (by simp [opdsE]), evOs_congr (l := args) fun t ht => h t (by simp only [opdsE, List.flatMap_cons]; exact List.mem_append_right _ ht)]

theorem opV_congr {P : Program} {g : CallF} {hp : Heap} {q : AOp} (h : ∀ t ∈ (opds q).flatMap tmpOf, tm[t]? = tm2[t]?) : opV P g tm hp q = opV P g tm2 hp q := by
  cases q with
  | p q => simp only [opV]; rw [pV_congr h]
  | r q => simp only [opV]; rw [rV_congr h]
  | e q => simp only [opV]; exact eV_congr h

theorem wantA_congr {gd : Option (Nat × Bool)} (h : ∀ s w, gd = some (s, w) → tm[s]? = tm2[s]?) : wantA tm gd = wantA tm2 gd := by
  cases gd with
  | none => rfl
  | some x => obtain ⟨s, w⟩ := x; simp only [wantA]; rw [h s w rfl]
end congr

theorem vEq_eq : ∀ {a b : Value}, vEq a b = true → a = b := by
  intro a b h
  unfold vEq at h
  split at h <;> simp_all
  rename_i x y
  have : x.data = y.data := h
  cases x; cases y; simp_all
mutual
theorem avEq_eq : ∀ (a b : AV), avEq a b = true → a = b
  | .s a, .s b, h => by simp only [avEq] at h; rw [vEq_eq h]
  | .pt a b c, .pt a' b' c', h => by simp only [avEq, Bool.and_eq_true, beq_iff_eq] at h; obtain ⟨⟨rfl, rfl⟩, rfl⟩ := h; rfl
  | .sl a b c d e, .sl a' b' c' d' e', h => by simp only [avEq, Bool.and_eq_true, beq_iff_eq] at h; obtain ⟨⟨⟨⟨rfl, rfl⟩, rfl⟩, rfl⟩, rfl⟩ := h; rfl
  | .ag l, .ag l', h => by simp only [avEq] at h; rw [avsEq_eq l l' h]
  | .s _, .pt _ _ _, h => by simp [avEq] at h
  | .s _, .sl _ _ _ _ _, h => by simp [avEq] at h
  | .s _, .fn _ _ _, h => by simp [avEq] at h
  | .s _, .ag _, h => by simp [avEq] at h
  | .s _, .tp _, h => by simp [avEq] at h
  | .s _, .any, h => by simp [avEq] at h
  | .pt _ _ _, .s _, h => by simp [avEq] at h
  | .pt _ _ _, .sl _ _ _ _ _, h => by simp [avEq] at h
  | .pt _ _ _, .fn _ _ _, h => by simp [avEq] at h
  | .pt _ _ _, .ag _, h => by simp [avEq] at h
  | .pt _ _ _, .tp _, h => by simp [avEq] at h
  | .pt _ _ _, .any, h => by simp [avEq] at h
  | .sl _ _ _ _ _, .s _, h => by simp [avEq] at h
  | .sl _ _ _ _ _, .pt _ _ _, h => by simp [avEq] at h
  | .sl _ _ _ _ _, .fn _ _ _, h => by simp [avEq] at h
  | .sl _ _ _ _ _, .ag _, h => by simp [avEq] at h
  | .sl _ _ _ _ _, .tp _, h => by simp [avEq] at h
  | .sl _ _ _ _ _, .any, h => by simp [avEq] at h
  | .ag _, .s _, h => by simp [avEq] at h
  | .ag _, .pt _ _ _, h => by simp [avEq] at h
  | .ag _, .sl _ _ _ _ _, h => by simp [avEq] at h
  | .ag _, .fn _ _ _, h => by simp [avEq] at h
  | .ag _, .tp _, h => by simp [avEq] at h
  | .ag _, .any, h => by simp [avEq] at h
  | .fn _ _ _, b, h => by cases b <;> simp [avEq] at h
  | .tp _, b, h => by cases b <;> simp [avEq] at h
  | .any, b, h => by cases b <;> simp [avEq] at h
theorem avsEq_eq : ∀ (a b : List AV), avsEq a b = true → a = b
  | [], [], _ => rfl
  | x :: l, y :: l', h => by simp only [avsEq, Bool.and_eq_true] at h; rw [avEq_eq x y h.1, avsEq_eq l l' h.2]
  | [], _ :: _, h => by simp [avsEq] at h
  | _ :: _, [], h => by simp [avsEq] at h
end

end Go.Proofs.YtdgnddidibpilaaDoor.AS
end
