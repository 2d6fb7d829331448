/- Of our own: an abstract machine beside the model, its soundness, and walks of the program in it. -/
import Derived.Test.YtpmoellbfgcefaaA5
set_option linter.unusedSimpArgs false
set_option linter.unusedVariables false
section
set_option autoImplicit false
namespace Go.Proofs.Ytpmoellbfgcefaa.AS
open Go Go.RowKit

def prepRes (P : Program) : ResultVar → Option ARes
  | .tmp t => some (.tmp t)
  | .cell a t => match P.underlying t, P.info? t with
    | some d, some i => if isAggD d then some (.cell true i.size a) else some (.cell false 1 a)
    | _, _ => none

def prepRess (P : Program) : List ResultVar → Option (List ARes)
  | [] => some []
  | r :: l => match prepRes P r, prepRess P l with | some x, some xs => some (x :: xs) | _, _ => none

/-- The slots without a name: what the loops' heads forget. -/
def tmpSlots (fn : Func) : List Nat := (List.range fn.ntmps).filter fun i => (fn.tmpNames.getD i "").isEmpty

def prepFn (P : Program) (f : FuncId) : Option AFunc :=
  if callable P f then match P.funcs[f]? with
    | some fn => match fn.body with
      | some c => match prepC P (tmpSlots fn) c, prepRess P fn.results.toList with
        | some ac, some rs => some (.code fn.ntmps rs ac)
        | _, _ => none
      | none => none
    | none => none
  else none

def HookSound (P : Program) (f : FuncId) (hk : List AV → Heap → Option (AV × Heap)) : Prop :=
  callable P f = true ∧ ∀ base W l h r, hk l h = some r → ∀ ρ w vs, HR P base W ρ h w → RVs ρ w l vs → Calls P f vs.toArray w fun e w' => ∃ v ρ', e = .returned v ∧ Eff P base W ρ w r v w' ρ'

def TabOK (P : Program) (T : FuncId → Option AFunc) : Prop :=
  ∀ f x, T f = some x → match x with
    | .code n r b => prepFn P f = some (.code n r b)
    | .hook hk => HookSound P f hk

section sound
variable {P : Program} {base : Nat} {W : World}

theorem res_sound {ρ : PM} {w : World} {tm : List AV} {tmps : Array Value} {h : Heap} (hr : RVs ρ w tm tmps.toList) (H : HR P base W ρ h w) : ∀ (l : List ResultVar) (al : List ARes) (xs : List AV),
    prepRess P l = some al → resAs tm h al = some xs →
    ∃ vs, (l.mapM (fun | .tmp t => pure (tmps.getD t undef) | .cell a t => do loadVar t (← asAddr (tmps.getD a undef)) : ResultVar → Sem Value)).run P w = .ok vs w ∧ RVs ρ w xs vs
  | [], al, xs, hp, hx => by
    simp only [prepRess, Option.some.injEq] at hp; subst hp
    simp only [resAs, Option.some.injEq] at hx; subst hx
    exact ⟨[], rfl, trivial⟩
  | r :: l, al, xs, hp, hx => by
    simp only [prepRess] at hp
    split at hp
    · rename_i y ys hy hys
      cases hp
      simp only [resAs] at hx
      split at hx
      · rename_i u us hu hus
        cases hx
        obtain ⟨vs, h1, h2⟩ := res_sound hr H l ys us hys hus
        have key : ∃ v, ((match r with | .tmp t => pure (tmps.getD t undef) | .cell a t => do loadVar t (← asAddr (tmps.getD a undef)) : Sem Value)).run P w = .ok v w ∧ RV ρ w u v := by
          cases r with
          | tmp t =>
            simp only [prepRes, Option.some.injEq] at hy; subst hy
            simp only [resA] at hu
            obtain ⟨v, hv, hrv⟩ := RVs_get hr hu
            refine ⟨v, ?_, hrv⟩
            simp only [Sem.run_pure, Array.getD_eq_getD_getElem?]
            rw [← Array.getElem?_toList, hv]; rfl
          | cell s t =>
            simp only [prepRes] at hy
            split at hy
            · rename_i d i hd hi
              have hq : ∃ n, y = .cell (isAggD d) n s ∧ n = (if isAggD d then i.size else 1) := by
                split at hy
                · rename_i ha; cases hy; exact ⟨_, by rw [ha], by rw [ha]; rfl⟩
                · rename_i ha; cases hy; exact ⟨1, by simp [ha], by simp [ha]⟩
              obtain ⟨n, rfl, hn⟩ := hq
              simp only [resA] at hu
              split at hu
              · rename_i b ver off hb
                obtain ⟨v0, hv0, hrv0⟩ := RVs_get hr hb
                obtain ⟨p, hp1, rfl⟩ := hrv0
                have hts : tmps.getD s undef = .pointer (some ⟨p.blk, p.off + off, none⟩) := by
                  rw [Array.getD_eq_getD_getElem?, ← Array.getElem?_toList, hv0]; rfl
                obtain ⟨ll, hl, hxx⟩ := Option.bind_eq_some_iff.1 hu
                obtain ⟨hll, vs', hvl, hrs, hcell⟩ := rdn_RVs H hl hp1
                obtain ⟨g1, g2⟩ := oneOr_RV hxx hrs
                cases ha : isAggD d with
                | true =>
                  rw [ha] at hn; simp at hn; subst hn
                  have hlc := run_loadCells_list (P := P) w ⟨p.blk, p.off + off, none⟩ vs' (fun j v hj => by rw [Addr_add]; exact hcell j v hj)
                  rw [hvl] at hlc
                  exact ⟨_, by simp [hts, asAddr, loadVar, run_isAgg hd, ha, sizeOf, typeInfo, hi, hlc], g1 ha⟩
                | false =>
                  obtain ⟨v, hv1, hv2⟩ := g2 ha
                  have hc := hcell 0 v (by rw [← hv1]; cases vs' <;> rfl)
                  rw [Nat.add_zero] at hc
                  exact ⟨v, by simp [hts, asAddr, loadVar, run_isAgg hd, ha, hc], hv2⟩
              · cases hu
            · cases hy
        obtain ⟨v, hv, hrv⟩ := key
        refine ⟨v :: vs, ?_, hrv, h2⟩
        simp only [List.mapM_cons, Sem.run_bind]
        rw [hv]
        simp only [Result.andThen_ok, Sem.run_bind]
        rw [h1]
        rfl
      · cases hx
    · cases hp

theorem tupA_RV {ρ : PM} {w : World} {xs : List AV} {vs : Array Value} (h : RVs ρ w xs vs.toList) : RV ρ w (tupA xs) (if h : vs.size = 1 then vs[0] else .tuple vs) := by
  have hl := RVs_length h
  rw [Array.length_toList] at hl
  split
  · rename_i h1
    cases xs with
    | nil => simp at hl; omega
    | cons x xs =>
      cases xs with
      | nil =>
        simp only [tupA]
        obtain ⟨v, hv, hr⟩ := RVs_get h (i := 0) (x := x) rfl
        rw [Array.getElem?_toList, Array.getElem?_eq_getElem (by omega)] at hv
        cases hv
        exact hr
      | cons y ys => simp at hl; omega
  · rename_i h1
    cases xs with
    | nil => exact ⟨vs, rfl, h⟩
    | cons x xs =>
      cases xs with
      | nil => simp at hl; omega
      | cons y ys => exact ⟨vs, rfl, h⟩

theorem Eff.of {ρ ρ' : PM} {w w' : World} {r : AV × Heap} {v : Value} (hx : Ext ρ ρ') (hk : Keep w w') (hr : RV ρ' w' r.1 v) (H : HR P base W ρ' r.2 w') : Eff P base W ρ w r v w' ρ' := ⟨hx, hk, hr, H⟩

theorem evFn_sound (hm : P.follows .mixedOrders = true) {T : FuncId → Option AFunc} (hT : TabOK P T) : ∀ k, CallSound P base W (evFn P T k) := by
  intro k
  induction k with
  | zero => intro f l h r he; simp [evFn] at he
  | succ k ih =>
    intro f l h r he
    simp only [evFn] at he
    split at he
    · rename_i nt res body hTf
      have hp : prepFn P f = some (.code nt res body) := hT f _ hTf
      unfold prepFn at hp
      split at hp
      · rename_i hcal
        refine ⟨hcal, fun ρ w vs H hr => ?_⟩
        split at hp
        · rename_i fn hfn
          split at hp
          · rename_i c hc
            split at hp
            · rename_i ac rs hac hrs
              simp only [Option.some.injEq, AFunc.code.injEq] at hp
              obtain ⟨rfl, rfl, rfl⟩ := hp
              have hlen := RVs_length hr
              have hfr : RVs ρ w (l ++ List.replicate (fn.ntmps - l.length) (.s undef)) (vs.toArray ++ Array.replicate (fn.ntmps - vs.toArray.size) undef).toList := by
                rw [Array.toList_append, Array.toList_replicate]
                simp only [List.size_toArray]
                rw [← hlen]
                refine RVs_append ?_ hr
                generalize fn.ntmps - l.length = m
                induction m with
                | zero => exact trivial
                | succ m ihm => exact ⟨rfl, ihm⟩
              refine calls_of_wp hfn hc ?_
              have fin : ∀ (e : Exit) (a' : Act) (w' : World) (tm' : List AV) (h' : Heap) (x : AV × Heap), a'.defers = [] → (resAs tm' h' rs).map (fun l => (tupA l, h')) = some x → (e = .ret ∨ e = .normal) →
                  (∃ ρ', Ext ρ ρ' ∧ Keep w w' ∧ RVs ρ' w' tm' a'.tmps.toList ∧ HR P base W ρ' h' w') → bodyPost P fn (fun e w' => ∃ v ρ', e = .returned v ∧ Eff P base W ρ w x v w' ρ') e a' w' := by
                intro e a' w' tm' h' x hd hx hee hρ
                obtain ⟨ρ', hx', hk, hr', H'⟩ := hρ
                obtain ⟨xs, hxs, rfl⟩ := Option.map_eq_some_iff.1 hx
                obtain ⟨us, hu1, hu2⟩ := res_sound hr' H' fn.results.toList rs xs hrs hxs
                have hres : (results fn a'.tmps).run P w' = .ok (if h : us.toArray.size = 1 then us.toArray[0] else .tuple us.toArray) w' := by
                  unfold results
                  rw [Array.mapM_eq_mapM_toList]
                  simp only [Sem.run_bind]
                  rw [Sem.run_map]
                  exact (congrArg (fun z : Result (List Value) => (z.andThen (fun a w' => .ok a.toArray w')).andThen (fun (a : Array Value) w' => Sem.run P (pure (if h : a.size = 1 then a[0] else Value.tuple a)) w')) hu1).trans rfl
                have hv := tupA_RV (vs := us.toArray) hu2
                rcases hee with rfl | rfl
                · exact ⟨hd, _, hres, _, ρ', rfl, hx', hk, hv, H'⟩
                · exact ⟨hd, _, hres, _, ρ', rfl, hx', hk, hv, H'⟩
              split at he
              · rename_i tm' h' hev
                refine Code.wp_mono ?_ ((evC_sound ih hm (tmpSlots fn) (k + 1)).1 c ac _ h _ hac hev ρ { tmps := vs.toArray ++ Array.replicate (fn.ntmps - vs.toArray.size) undef, defers := [] } w hfr H rfl)
                rintro e a' w' ⟨rfl, hd, hρ⟩
                exact fin .ret a' w' tm' h' r hd he (.inl rfl) hρ
              · rename_i tm' h' hev
                refine Code.wp_mono ?_ ((evC_sound ih hm (tmpSlots fn) (k + 1)).1 c ac _ h _ hac hev ρ { tmps := vs.toArray ++ Array.replicate (fn.ntmps - vs.toArray.size) undef, defers := [] } w hfr H rfl)
                rintro e a' w' ⟨rfl, hd, hρ⟩
                exact fin .normal a' w' tm' h' r hd he (.inr rfl) hρ
              · cases he
            · cases hp
          · cases hp
        · cases hp
      · cases hp
    · rename_i hk hTf
      have hh : HookSound P f hk := hT f _ hTf
      exact ⟨hh.1, fun ρ w vs H hr => hh.2 base W l h r he ρ w vs H hr⟩
    · cases he

end sound
end Go.Proofs.Ytpmoellbfgcefaa.AS
end
section
set_option autoImplicit false
namespace Go.Proofs.Ytpmoellbfgcefaa.AS
open Go Go.RowKit

/-! ### Scalar operations, as a walk by 'simp' wants them -/
section
variable {P : Program}
def bin2 (P : Program) (op : BinOp) (t : TypeId) (x y : Operand) (a b : Option AV) : Option AV :=
  match a.bind toV, b.bind toV with
  | some u, some v => (semv P (do eqGuard op t x y u v; binOp op t u v)).map .s
  | _, _ => none
def un1 (P : Program) (op : UnOp) (a : Option AV) : Option AV :=
  match a.bind toV with
  | some u => (semv P (Op.unary op u)).map .s
  | none => none
def cv1 (P : Program) (src dst : TypeId) (a : Option AV) : Option AV :=
  match a.bind toV with
  | some u => (semv P (convert src dst u)).map .s
  | none => none
def ix2 (P : Program) (t : TypeId) (a b : Option AV) : Option AV :=
  match a.bind toV, b.bind toV with
  | some u, some v => (semv P (Instr.index t u v)).map .s
  | _, _ => none

theorem semv_bind {α β : Type} (s : Sem α) (f : α → Sem β) : semv P (s >>= f) = (semv P s).bind fun a => semv P (f a) := by
  show semv P (Sem.bind s f) = _
  induction s with
  | pure a => rfl
  | program k ih => simp only [Sem.bind, semv]; exact ih P
  | mark m k ih => simp only [Sem.bind, semv]; exact ih
  | _ => rfl
theorem semv_pure {α : Type} (a : α) : semv P (pure a) = some a := rfl
theorem semv_map {α β : Type} (s : Sem α) (f : α → β) : semv P (f <$> s) = (semv P s).map f := by
  rw [map_eq_pure_bind, semv_bind]
  cases semv P s <;> rfl
theorem semv_value (s : Sem Value) : semv P (do let v ← s; pure (Next.value v)) = (semv P s).map Next.value := by
  rw [semv_bind]
  cases semv P s <;> rfl
theorem sc_bin (tm : List AV) (op : BinOp) (t : TypeId) (x y : Operand) (yt ty : TypeId) : scV P tm (.binOp op t x y yt) ty = bin2 P op t x y (evO tm x) (evO tm y) := by
  unfold scV bin2
  simp only [Op.operands, List.all_cons, List.all_nil, Bool.and_true, notSel]
  cases hx : (evO tm x).bind toV with
  | none => simp
  | some u =>
    cases hy : (evO tm y).bind toV with
    | none => simp
    | some v =>
      simp only [Option.isSome_some, Bool.and_self, if_true, execOp, opOf, envV, hx, hy, Option.getD_some]
      rw [semv_value]
      generalize semv P (do eqGuard op t x y u v; binOp op t u v) = o
      cases o <;> rfl
theorem sc_un (tm : List AV) (op : UnOp) (t : TypeId) (x : Operand) (ty : TypeId) : scV P tm (.unOp op t x) ty = un1 P op (evO tm x) := by
  unfold scV un1
  simp only [Op.operands, List.all_cons, List.all_nil, Bool.and_true, notSel]
  cases hx : (evO tm x).bind toV with
  | none => simp
  | some u =>
    simp only [Option.isSome_some, Bool.and_self, if_true, execOp, opOf, envV, hx, Option.getD_some]
    rw [semv_value]
    generalize semv P (Op.unary op u) = o
    cases o <;> rfl
theorem sc_cv (tm : List AV) (src dst : TypeId) (x : Operand) (ty : TypeId) : scV P tm (.convert src dst x) ty = cv1 P src dst (evO tm x) := by
  unfold scV cv1
  simp only [Op.operands, List.all_cons, List.all_nil, Bool.and_true, notSel]
  cases hx : (evO tm x).bind toV with
  | none => simp
  | some u =>
    simp only [Option.isSome_some, Bool.and_self, if_true, execOp, opOf, envV, hx, Option.getD_some]
    rw [semv_value]
    generalize semv P (convert src dst u) = o
    cases o <;> rfl
theorem sc_ix (tm : List AV) (t : TypeId) (x i : Operand) (ty : TypeId) : scV P tm (.index t x i) ty = ix2 P t (evO tm x) (evO tm i) := by
  unfold scV ix2
  simp only [Op.operands, List.all_cons, List.all_nil, Bool.and_true, notSel]
  cases hx : (evO tm x).bind toV with
  | none => simp
  | some u =>
    cases hy : (evO tm i).bind toV with
    | none => simp
    | some v =>
      simp only [Option.isSome_some, Bool.and_self, if_true, execOp, opOf, envV, hx, hy, Option.getD_some]
      rw [semv_value]
      generalize semv P (Instr.index t u v) = o
      cases o <;> rfl

/-! numbers -/
section
variable (t : TypeId) (x y : Operand) (k : IntKind) (a b : Int)
@[simp] theorem bin_add : bin2 P .add t x y (some (.s (.int k a))) (some (.s (.int k b))) = some (.s (.int k (k.wrap (a + b)))) := by
  simp [bin2, toV, eqGuard, binOp, Op.intArith, semv_bind, semv_pure]
@[simp] theorem bin_sub : bin2 P .sub t x y (some (.s (.int k a))) (some (.s (.int k b))) = some (.s (.int k (k.wrap (a - b)))) := by
  simp [bin2, toV, eqGuard, binOp, Op.intArith, semv_bind, semv_pure]
@[simp] theorem bin_mul : bin2 P .mul t x y (some (.s (.int k a))) (some (.s (.int k b))) = some (.s (.int k (k.wrap (a * b)))) := by
  simp [bin2, toV, eqGuard, binOp, Op.intArith, semv_bind, semv_pure]
@[simp] theorem bin_and : bin2 P .and t x y (some (.s (.int k a))) (some (.s (.int k b))) = some (.s (.int k (Go.bits .and k a b))) := by
  simp [bin2, toV, eqGuard, binOp, Op.intBits, semv_bind, semv_pure, Go.bits]
@[simp] theorem bin_or : bin2 P .or t x y (some (.s (.int k a))) (some (.s (.int k b))) = some (.s (.int k (Go.bits .or k a b))) := by
  simp [bin2, toV, eqGuard, binOp, Op.intBits, semv_bind, semv_pure, Go.bits]
@[simp] theorem bin_xor : bin2 P .xor t x y (some (.s (.int k a))) (some (.s (.int k b))) = some (.s (.int k (Go.bits .xor k a b))) := by
  simp [bin2, toV, eqGuard, binOp, Op.intBits, semv_bind, semv_pure, Go.bits]
@[simp] theorem bin_andNot : bin2 P .andNot t x y (some (.s (.int k a))) (some (.s (.int k b))) = some (.s (.int k (Go.bits .andNot k a b))) := by
  simp [bin2, toV, eqGuard, binOp, Op.intBits, semv_bind, semv_pure, Go.bits]
@[simp] theorem bin_eql : bin2 P .eql t x y (some (.s (.int k a))) (some (.s (.int k b))) = some (.s (.bool (decide (a = b)))) := by
  simp [bin2, toV, eqGuard, binOp, Op.intCmp, semv_bind, semv_pure]; rfl
@[simp] theorem bin_neq : bin2 P .neq t x y (some (.s (.int k a))) (some (.s (.int k b))) = some (.s (.bool (!decide (a = b)))) := by
  simp [bin2, toV, eqGuard, binOp, Op.intCmp, semv_bind, semv_pure]; rfl
@[simp] theorem bin_lss : bin2 P .lss t x y (some (.s (.int k a))) (some (.s (.int k b))) = some (.s (.bool (decide (a < b)))) := by
  simp [bin2, toV, eqGuard, binOp, Op.intCmp, semv_bind, semv_pure]
@[simp] theorem bin_leq : bin2 P .leq t x y (some (.s (.int k a))) (some (.s (.int k b))) = some (.s (.bool (decide (a ≤ b)))) := by
  simp [bin2, toV, eqGuard, binOp, Op.intCmp, semv_bind, semv_pure]
@[simp] theorem bin_gtr : bin2 P .gtr t x y (some (.s (.int k a))) (some (.s (.int k b))) = some (.s (.bool (decide (b < a)))) := by
  simp [bin2, toV, eqGuard, binOp, Op.intCmp, semv_bind, semv_pure]
@[simp] theorem bin_geq : bin2 P .geq t x y (some (.s (.int k a))) (some (.s (.int k b))) = some (.s (.bool (decide (b ≤ a)))) := by
  simp [bin2, toV, eqGuard, binOp, Op.intCmp, semv_bind, semv_pure]
@[simp] theorem bin_quo (h : b ≠ 0) : bin2 P .quo t x y (some (.s (.int k a))) (some (.s (.int k b))) = some (.s (.int k (k.wrap (a.tdiv b)))) := by
  simp [bin2, toV, eqGuard, binOp, Op.intDiv, semv_bind, semv_pure, h]
@[simp] theorem bin_rem (h : b ≠ 0) : bin2 P .rem t x y (some (.s (.int k a))) (some (.s (.int k b))) = some (.s (.int k (a.tmod b))) := by
  simp [bin2, toV, eqGuard, binOp, Op.intDiv, semv_bind, semv_pure, h]
variable (k' : IntKind)
@[simp] theorem bin_shl (h : 0 ≤ b) : bin2 P .shl t x y (some (.s (.int k a))) (some (.s (.int k' b))) = some (.s (.int k (k.wrap (a * 2 ^ (min b.toNat k.bits))))) := by
  simp [bin2, toV, eqGuard, binOp, Op.shift, semv_bind, semv_pure, show ¬ b < 0 by omega]
@[simp] theorem bin_shr (h : 0 ≤ b) : bin2 P .shr t x y (some (.s (.int k a))) (some (.s (.int k' b))) = some (.s (.int k (a.fdiv (2 ^ (min b.toNat k.bits))))) := by
  simp [bin2, toV, eqGuard, binOp, Op.shift, semv_bind, semv_pure, show ¬ b < 0 by omega]
end
section
variable (t : TypeId) (x y : Operand) (a b : ByteArray)
@[simp] theorem bin_sadd (h : a.size + b.size ≤ 9223372036854775807) : bin2 P .add t x y (some (.s (.string a))) (some (.s (.string b))) = some (.s (.string (a ++ b))) := by
  have : ¬ (((a.size + b.size : Nat) : Int) > IntKind.i64.max) := by rw [show IntKind.i64.max = 9223372036854775807 from rfl]; omega
  simp [bin2, toV, eqGuard, binOp, Op.stringOp, semv_bind, semv_pure]
  rw [if_neg (by simpa using this)]
  rfl
@[simp] theorem bin_seql : bin2 P .eql t x y (some (.s (.string a))) (some (.s (.string b))) = some (.s (.bool (a.toList == b.toList))) := by
  simp [bin2, toV, eqGuard, binOp, Op.stringOp, semv_bind, semv_pure]
@[simp] theorem bin_sneq : bin2 P .neq t x y (some (.s (.string a))) (some (.s (.string b))) = some (.s (.bool (!(a.toList == b.toList)))) := by
  simp [bin2, toV, eqGuard, binOp, Op.stringOp, semv_bind, semv_pure]
@[simp] theorem un_not (c : Bool) : un1 P .not (some (.s (.bool c))) = some (.s (.bool !c)) := rfl
end
end
end Go.Proofs.Ytpmoellbfgcefaa.AS
end
section
set_option autoImplicit false
namespace Go.Proofs.Ytpmoellbfgcefaa.AS
open Go Go.RowKit
/-! ### The walk by 'simp': one step at a time, what follows untouched until it is come to -/
section
variable {P : Program} {g : CallF} {k : Nat} {tm : List AV} {h : Heap}

def thenC (r : Option Res) (f : List AV → Heap → Option Res) : Option Res :=
  match r with
  | some (.normal, tm, h) => f tm h
  | r => r
@[congr] theorem thenC_congr {r r' : Option Res} {f : List AV → Heap → Option Res} (h : r = r') : thenC r f = thenC r' f := by rw [h]
@[simp] theorem thenC_n (f : List AV → Heap → Option Res) : thenC (some (.normal, tm, h)) f = f tm h := rfl
@[simp] theorem thenC_e (f : List AV → Heap → Option Res) (i : Nat) : thenC (some (.exit i, tm, h)) f = some (.exit i, tm, h) := rfl
@[simp] theorem thenC_g (f : List AV → Heap → Option Res) (i : Nat) : thenC (some (.goto i, tm, h)) f = some (.goto i, tm, h) := rfl
@[simp] theorem thenC_r (f : List AV → Heap → Option Res) : thenC (some (.ret, tm, h)) f = some (.ret, tm, h) := rfl

def thenO (r : Option (AV × Heap)) (d : Option Nat) (tm : List AV) (f : List AV → Heap → Option (List AV × Heap)) : Option (List AV × Heap) :=
  match r with
  | some (x, h) => f (putA tm d x) h
  | none => none
@[congr] theorem thenO_congr {r r' : Option (AV × Heap)} {d : Option Nat} {tm : List AV} {f : List AV → Heap → Option (List AV × Heap)} (h : r = r') : thenO r d tm f = thenO r' d tm f := by rw [h]
@[simp] theorem thenO_s (x : AV) (d : Option Nat) (f : List AV → Heap → Option (List AV × Heap)) : thenO (some (x, h)) d tm f = f (putA tm d x) h := rfl

def thenR (r : Option (List AV × Heap)) : Option Res := r.map fun x => (.normal, x.1, x.2)
@[simp] theorem thenR_s : thenR (some (tm, h)) = some (.normal, tm, h) := rfl

def thenW (w : Option Bool) (d : Option Nat) (tm : List AV) (h : Heap) (r : Option (AV × Heap)) (f : List AV → Heap → Option (List AV × Heap)) : Option (List AV × Heap) :=
  match w with
  | some true => thenO r d tm f
  | some false => f (putA tm d (.s undef)) h
  | none => none
@[congr] theorem thenW_congr {w w' : Option Bool} {d : Option Nat} {tm : List AV} {h : Heap} {r : Option (AV × Heap)} {f : List AV → Heap → Option (List AV × Heap)} (hw : w = w') : thenW w d tm h r f = thenW w' d tm h r f := by rw [hw]
@[simp] theorem thenW_t (d : Option Nat) (r : Option (AV × Heap)) (f : List AV → Heap → Option (List AV × Heap)) : thenW (some true) d tm h r f = thenO r d tm f := rfl
@[simp] theorem thenW_f (d : Option Nat) (r : Option (AV × Heap)) (f : List AV → Heap → Option (List AV × Heap)) : thenW (some false) d tm h r f = f (putA tm d (.s undef)) h := rfl

theorem evC_seq (a b : ACode) : evC P g (k + 1) (.seq a b) tm h = thenC (evC P g k a tm h) (evC P g k b) := by
  simp only [evC]
  unfold thenC
  cases evC P g k a tm h with
  | none => rfl
  | some r => obtain ⟨e, tm', h'⟩ := r; cases e <;> rfl
theorem evC_reg (ops : List AOper) : evC P g (k + 1) (.reg ops) tm h = thenR (evOps P g ops tm h) := rfl
theorem evC_skip : evC P g (k + 1) .skip tm h = some (.normal, tm, h) := rfl
theorem evC_label (fg : List Nat) (l : Nat) : evC P g (k + 1) (.label fg l) tm h = some (.normal, forget fg tm, h) := rfl
theorem evC_ret : evC P g (k + 1) .ret tm h = some (.ret, tm, h) := rfl
theorem evC_exit (i : Nat) : evC P g (k + 1) (.exit i) tm h = some (.exit i, tm, h) := rfl
theorem evC_goto (i : Nat) : evC P g (k + 1) (.goto i) tm h = some (.goto i, tm, h) := rfl

def condC (c : Option AV) (a b : Option Res) : Option Res :=
  match c with
  | some (.s (.bool t)) => if t then a else b
  | _ => none
@[congr] theorem condC_congr {c c' : Option AV} {a b : Option Res} (h : c = c') : condC c a b = condC c' a b := by rw [h]
@[simp] theorem condC_t (a b : Option Res) : condC (some (.s (.bool true))) a b = a := rfl
@[simp] theorem condC_f (a b : Option Res) : condC (some (.s (.bool false))) a b = b := rfl
theorem condC_i (t : Bool) (a b : Option Res) : condC (some (.s (.bool t))) a b = if t then a else b := rfl
theorem evC_cond (c : Operand) (a b : ACode) : evC P g (k + 1) (.cond c a b) tm h = condC (evO tm c) (evC P g k a tm h) (evC P g k b tm h) := rfl

def blockC (i : Nat) (r : Option Res) : Option Res :=
  match r with
  | some (.exit j, tm', h') => if j = i then some (.normal, tm', h') else some (.exit j, tm', h')
  | r => r
@[simp] theorem blockC_n (i : Nat) : blockC i (some (.normal, tm, h)) = some (.normal, tm, h) := rfl
@[simp] theorem blockC_r (i : Nat) : blockC i (some (.ret, tm, h)) = some (.ret, tm, h) := rfl
@[simp] theorem blockC_g (i j : Nat) : blockC i (some (.goto j, tm, h)) = some (.goto j, tm, h) := rfl
@[simp] theorem blockC_e (i j : Nat) : blockC i (some (.exit j, tm, h)) = if j = i then some (.normal, tm, h) else some (.exit j, tm, h) := rfl
theorem evC_block (i : Nat) (b : ACode) : evC P g (k + 1) (.block i b) tm h = blockC i (evC P g k b tm h) := by
  simp only [evC]
  unfold blockC
  cases evC P g k b tm h with
  | none => rfl
  | some r => obtain ⟨e, tm', h'⟩ := r; cases e <;> rfl

theorem evOps_nil : evOps P g [] tm h = some (tm, h) := rfl
theorem evOps_cons (d : Option Nat) (gd : Option (Nat × Bool)) (q : AOp) (l : List AOper) : evOps P g (⟨d, gd, q⟩ :: l) tm h = thenW (wantA tm gd) d tm h (opV P g tm h q) (evOps P g l) := by
  simp only [evOps]
  unfold thenW thenO
  cases wantA tm gd with
  | none => rfl
  | some b =>
    cases b with
    | false => rfl
    | true => cases opV P g tm h q <;> rfl
theorem evOps_cons0 (d : Option Nat) (q : AOp) (l : List AOper) : evOps P g (⟨d, none, q⟩ :: l) tm h = thenO (opV P g tm h q) d tm (evOps P g l) := evOps_cons d none q l

@[simp] theorem opV_p (o : POp) : opV P g tm h (.p o) = (pV P tm o).map fun x => (x, h) := rfl
@[simp] theorem opV_r (o : ROp) : opV P g tm h (.r o) = (rV tm h o).map fun x => (x, h) := rfl
@[simp] theorem opV_e (o : EOp) : opV P g tm h (.e o) = eV g tm h o := rfl
@[simp] theorem putA_s (d : Nat) (x : AV) : putA tm (some d) x = tm.set d x := rfl
@[simp] theorem putA_n (x : AV) : putA tm none x = tm := rfl
@[simp] theorem want_n : wantA tm none = some true := rfl
def wantV (a : Option AV) (b : Bool) : Option Bool := match a with | some (.s (.bool c)) => some (c == b) | _ => none
@[simp] theorem want_s (s : Nat) (b : Bool) : wantA tm (some (s, b)) = wantV tm[s]? b := rfl
@[simp] theorem wantV_s (c b : Bool) : wantV (some (.s (.bool c))) b = some (c == b) := rfl
@[simp] theorem evO_t (t : Nat) : evO tm (.tmp t) = tm[t]? := rfl
@[simp] theorem evO_c (v : Value) : evO tm (.const v) = some (.s v) := rfl
@[simp] theorem evO_f (f : FuncId) : evO tm (.func f) = some (.s (.func (.func f) #[] #[])) := rfl
@[simp] theorem pV_mv (x : Operand) : pV P tm (.mv x) = evO tm x := rfl
@[simp] theorem pV_sc (op : Op) (ty : TypeId) : pV P tm (.sc op ty) = scV P tm op ty := rfl
def pickV (c a b : Option AV) : Option AV := match c with | some (.s (.bool t)) => if t then a else b | _ => none
@[simp] theorem pV_pick (c a b : Operand) : pV P tm (.pick c a b) = pickV (evO tm c) (evO tm a) (evO tm b) := rfl
@[simp] theorem pickV_s (t : Bool) (a b : Option AV) : pickV (some (.s (.bool t))) a b = if t then a else b := rfl
@[simp] theorem pickV_b (t c d : Bool) : pickV (some (.s (.bool t))) (some (.s (.bool c))) (some (.s (.bool d))) = some (.s (.bool (if t then c else d))) := by cases t <;> rfl
end
section
variable {P : Program} {tm : List AV}
def fn1 (P : Program) (b : Builtin) (ts : Array TypeId) (ty : TypeId) (a : Option AV) : Option AV :=
  match a.bind toV with
  | some u => match semv P (builtin b ts ty #[false] #[u]) with | some (.value v) => some (.s v) | _ => none
  | none => none
def lenV (P : Program) (t : TypeId) (a : Option AV) : Option AV :=
  match a.bind toV with
  | some u => (semv P (Builtin.len_ #[t] 0 #[u])).map .s
  | none => none
theorem sc_len (x : Operand) (t ty : TypeId) : scV P tm (.call ⟨.builtin .len, #[x], #[t]⟩) ty = lenV P t (evO tm x) := by
  unfold scV lenV
  simp only [Op.operands, Call.operands, Array.empty_append, List.append_nil, List.nil_append, List.all_cons, List.all_nil, Bool.and_true, notSel]
  cases hx : (evO tm x).bind toV with
  | none => simp
  | some u =>
    simp only [Option.isSome_some, Bool.and_self, if_true, execOp, opOf, resolve, envV, List.map_toArray, List.map_cons, List.map_nil, hx, Option.getD_some, pure_bind, invoke, builtin]
    rw [semv_value]
    have : ∀ ty, Builtin.len_ #[t] ty #[u] = Builtin.len_ #[t] 0 #[u] := fun _ => rfl
    rw [this]
    generalize semv P (Builtin.len_ #[t] 0 #[u]) = o
    cases o <;> rfl
@[simp] theorem lenV_s {t : TypeId} (h : P.underlying t = some .string) (s : ByteArray) : lenV P t (some (.s (.string s))) = some (.s (.int .i64 s.size)) := by
  simp [lenV, toV, Builtin.len_, semv_bind, semv_pure, underlying, program, semv, h, goInt]
@[simp] theorem cv_int {src dst : TypeId} {d : TypeDesc} {k k' : IntKind} (hs : P.underlying src = some d) (hd : P.underlying dst = some (.int k')) (n : Int) : cv1 P src dst (some (.s (.int k n))) = some (.s (.int k' (k'.wrap n))) := by
  simp [cv1, toV, convert, semv_bind, semv_pure, underlying, program, semv, hs, hd, Conv.intToInt]
@[simp] theorem cv_str {src dst : TypeId} (hs : P.underlying src = some .string) (hd : P.underlying dst = some .string) (s : ByteArray) : cv1 P src dst (some (.s (.string s))) = some (.s (.string s)) := by
  simp [cv1, toV, convert, semv_bind, semv_pure, underlying, program, semv, hs, hd]
theorem ix_str {t : TypeId} (h : P.underlying t = some .string) (s : ByteArray) (k : IntKind) (i : Int) (h0 : 0 ≤ i) (h1 : i < s.size) :
    ix2 P t (some (.s (.string s))) (some (.s (.int k i))) = some (.s (.int .u8 (s[i.toNat]'(by omega)).toNat)) := by
  have h2 : s[i.toNat]? = some (s[i.toNat]'(by omega)) := getElem?_pos s i.toNat (by omega)
  simp [ix2, toV, Instr.index, semv_bind, semv_pure, underlying, program, semv, h, asIntOf, h0, h2]
def sl3 (P : Program) (t : TypeId) (a : Option AV) (lo hi : Option Int) : Option AV :=
  match a with
  | some (.s (.string s)) => let l := lo.getD 0; let h := hi.getD s.size
    if 0 ≤ l ∧ l ≤ h ∧ h ≤ s.size then some (.s (.string (s.extract l.toNat h.toNat))) else none
  | _ => none
end
attribute [simp] sc_len
attribute [simp] evC_seq evC_reg evC_skip evC_label evC_ret evC_exit evC_goto evC_cond evC_block evOps_nil evOps_cons0 evOps_cons sc_bin sc_un sc_cv sc_ix
end Go.Proofs.Ytpmoellbfgcefaa.AS
end
section
set_option autoImplicit false
namespace Go.Proofs.Ytpmoellbfgcefaa.AS
open Go Go.RowKit

mutual
/-- All blocks that a value names are known. -/
def Ment (ρ : PM) : AV → Prop
  | .s _ => True
  | .pt b v _ => ∃ p, ρ b v = some p
  | .sl b v _ _ _ => ∃ p, ρ b v = some p
  | .fn _ x y => Ments ρ x ∧ Ments ρ y
  | .ag l => Ments ρ l
  | .tp l => Ments ρ l
  | .any => True
def Ments (ρ : PM) : List AV → Prop
  | [] => True
  | x :: l => Ment ρ x ∧ Ments ρ l
end
mutual
theorem ment_of {ρ : PM} {w : World} : ∀ (x : AV) (v : Value), RV ρ w x v → Ment ρ x
  | .s _, _, _ => trivial
  | .pt _ _ _, _, ⟨p, h, _⟩ => ⟨p, h⟩
  | .sl _ _ _ _ _, _, ⟨p, _, _, h, _⟩ => ⟨p, h.1⟩
  | .fn _ x y, _, ⟨_, _, _, h1, h2⟩ => ⟨ments_of x _ h1, ments_of y _ h2⟩
  | .ag l, _, ⟨_, _, h⟩ => ments_of l _ h
  | .tp l, _, ⟨_, _, h⟩ => ments_of l _ h
  | .any, _, _ => trivial
theorem ments_of {ρ : PM} {w : World} : ∀ (l : List AV) (vs : List Value), RVs ρ w l vs → Ments ρ l
  | [], [], _ => trivial
  | x :: l, v :: vs, h => ⟨ment_of x v h.1, ments_of l vs h.2⟩
  | [], _ :: _, h => h.elim
  | _ :: _, [], h => h.elim
end
mutual
theorem RV_back {ρ ρ1 ρ' : PM} {w : World} (h1 : Ext ρ ρ1) (h' : Ext ρ ρ') : ∀ (x : AV) (v : Value), Ment ρ x → RV ρ1 w x v → RV ρ' w x v
  | .s _, _, _, h => h
  | .pt _ _ _, _, ⟨p, hp⟩, ⟨q, hq, e⟩ => by
    have := h1 _ _ _ hp; rw [hq] at this; cases this
    exact ⟨p, h' _ _ _ hp, e⟩
  | .sl _ _ _ _ _, _, ⟨p, hp⟩, ⟨q, c, a, hq, r⟩ => by
    have := h1 _ _ _ hp; rw [hq.1] at this; cases this
    exact ⟨p, c, a, ⟨h' _ _ _ hp, hq.2⟩, r⟩
  | .fn _ x y, _, hm, ⟨xs, ys, e, a, b⟩ => ⟨xs, ys, e, RVs_back h1 h' x _ hm.1 a, RVs_back h1 h' y _ hm.2 b⟩
  | .ag l, _, hm, ⟨xs, e, a⟩ => ⟨xs, e, RVs_back h1 h' l _ hm a⟩
  | .tp l, _, hm, ⟨xs, e, a⟩ => ⟨xs, e, RVs_back h1 h' l _ hm a⟩
  | .any, _, _, _ => trivial
theorem RVs_back {ρ ρ1 ρ' : PM} {w : World} (h1 : Ext ρ ρ1) (h' : Ext ρ ρ') : ∀ (l : List AV) (vs : List Value), Ments ρ l → RVs ρ1 w l vs → RVs ρ' w l vs
  | [], [], _, _ => trivial
  | x :: l, v :: vs, hm, h => ⟨RV_back h1 h' x v hm.1 h.1, RVs_back h1 h' l vs hm.2 h.2⟩
  | [], _ :: _, _, h => h.elim
  | _ :: _, [], _, h => h.elim
end
mutual
theorem flat_RV {ρ ρ' : PM} {w : World} : ∀ (x : AV) (u v : Value), toV x = some u → RV ρ w x v → RV ρ' w x v
  | .s _, _, _, _, h => h
  | .ag l, u, v, hu, ⟨xs, e, h⟩ => by
    simp only [toV, Option.map_eq_some_iff] at hu
    obtain ⟨us, hus, _⟩ := hu
    exact ⟨xs, e, flats_RV l us _ hus h⟩
  | .tp l, u, v, hu, ⟨xs, e, h⟩ => by
    simp only [toV, Option.map_eq_some_iff] at hu
    obtain ⟨us, hus, _⟩ := hu
    exact ⟨xs, e, flats_RV l us _ hus h⟩
  | .fn f x y, u, v, hu, ⟨xs, ys, e, h1, h2⟩ => by
    simp only [toV] at hu
    split at hu
    · rename_i a b ha hb
      exact ⟨xs, ys, e, flats_RV x a _ ha h1, flats_RV y b _ hb h2⟩
    · cases hu
  | .pt _ _ _, _, _, hu, _ => by simp [toV] at hu
  | .sl _ _ _ _ _, _, _, hu, _ => by simp [toV] at hu
  | .any, _, _, hu, _ => by simp [toV] at hu
theorem flats_RV {ρ ρ' : PM} {w : World} : ∀ (l : List AV) (us vs : List Value), toVs l = some us → RVs ρ w l vs → RVs ρ' w l vs
  | [], _, [], _, _ => trivial
  | x :: l, us, v :: vs, hu, h => by
    simp only [toVs] at hu
    split at hu
    · rename_i a b ha hb
      exact ⟨flat_RV x a v ha h.1, flats_RV l b vs hb h.2⟩
    · cases hu
  | [], _, _ :: _, _, h => h.elim
  | _ :: _, _, [], _, h => h.elim
end

/-- What was there stands. -/
def Grows (h h1 : Heap) : Prop := ∀ b, b < h.length → h1[b]? = h[b]?
theorem Grows.refl (h : Heap) : Grows h h := fun _ _ => rfl
theorem Grows.len {h h1 : Heap} (g : Grows h h1) : h.length ≤ h1.length := by
  rcases Nat.lt_or_ge h1.length h.length with hl | hl
  · have := g _ hl
    rw [List.getElem?_eq_none (Nat.le_refl _), List.getElem?_eq_getElem hl] at this
    cases this
  · exact hl
theorem Grows.trans {a b c : Heap} (h : Grows a b) (k : Grows b c) : Grows a c := fun i hi => (k i (Nat.lt_of_lt_of_le hi h.len)).trans (h i hi)
theorem Grows.app (h l : Heap) : Grows h (h ++ l) := fun b hb => List.getElem?_append_left hb
theorem Grows.set {h h1 : Heap} (g : Grows h h1) {b : Nat} (hb : h.length ≤ b) (k : Blk) : Grows h (h1.set b k) := fun i hi => by
  rw [List.getElem?_set_ne (by omega)]; exact g i hi
theorem Grows.app' {h h1 : Heap} (g : Grows h h1) (l : Heap) : Grows h (h1 ++ l) := g.trans (Grows.app h1 l)

/-- The map below a number of blocks. -/
def cutP (ρ : PM) (n : Nat) : PM := fun b v => if b < n then ρ b v else none
theorem cutP_lt {ρ : PM} {n b : Nat} (h : b < n) (v : Nat) : cutP ρ n b v = ρ b v := by simp [cutP, h]

section
variable {P : Program} {base : Nat} {W : World}
theorem HR.dom {ρ : PM} {h : Heap} {w : World} (H : HR P base W ρ h w) {b v : Nat} {p : Place} (hp : ρ b v = some p) : b < h.length := by
  rcases Nat.lt_or_ge b h.length with hb | hb
  · exact hb
  · rw [H.fresh b v hb] at hp; cases hp

/-- The blocks above are forgotten. -/
theorem HR.cut {ρ ρ1 : PM} {h h1 : Heap} {w0 w : World} (H : HR P base W ρ h w0) (hx : Ext ρ ρ1) (H1 : HR P base W ρ1 h1 w) (hg : Grows h h1) :
    HR P base W (cutP ρ1 h.length) h w ∧ Ext ρ (cutP ρ1 h.length) := by
  have hx' : Ext ρ (cutP ρ1 h.length) := fun b v p hp => by rw [cutP_lt (H.dom hp)]; exact hx _ _ _ hp
  refine ⟨⟨H1.below, H1.hbase, fun b ver hb => by unfold cutP; rw [if_neg (by omega)], ?_, ?_⟩, hx'⟩
  · intro b k hb
    have hlt := (List.getElem?_eq_some_iff.1 hb).1
    obtain ⟨p, a1, a2, a3, a4, a5, a6, a7, a8⟩ := H1.blk b k ((hg b hlt).trans hb)
    obtain ⟨p0, b1, _, _, _, _, _, b7, _⟩ := H.blk b k hb
    refine ⟨p, by rw [cutP_lt hlt]; exact a1, fun v hv => by rw [cutP_lt hlt]; exact a2 v hv, a3, a4, a5, a6, fun j x hj => ?_, a8⟩
    obtain ⟨v, hv, hr⟩ := a7 j x hj
    obtain ⟨v0, _, hr0⟩ := b7 j x hj
    exact ⟨v, hv, RV_back hx hx' _ _ (ment_of _ _ hr0) hr⟩
  · intro b b' k k' p p' hb hb' hp hp' hrw heq
    have hlt := (List.getElem?_eq_some_iff.1 hb).1
    have hlt' := (List.getElem?_eq_some_iff.1 hb').1
    rw [cutP_lt hlt] at hp
    rw [cutP_lt hlt'] at hp'
    exact H1.inj b b' k k' p p' ((hg b hlt).trans hb) ((hg b' hlt').trans hb') hp hp' hrw heq

/-- What a call leaves, told shorter. -/
def Drops (h : Heap) (r1 r : AV × Heap) : Prop :=
  ∀ (P : Program) (base : Nat) (W : World) (ρ ρ1 : PM) (w0 w : World) (v : Value), HR P base W ρ h w0 → Ext ρ ρ1 → HR P base W ρ1 r1.2 w → RV ρ1 w r1.1 v → ∃ ρ', Ext ρ ρ' ∧ RV ρ' w r.1 v ∧ HR P base W ρ' r.2 w

theorem Drops.refl (h : Heap) (r : AV × Heap) : Drops h r r := fun _ _ _ _ ρ1 _ _ _ _ hx H1 hr => ⟨ρ1, hx, hr, H1⟩

/-- A result without blocks: whatever else was made is forgotten. -/
theorem Drops.flat {h h1 : Heap} {x : AV} (hg : Grows h h1) (hx : (toV x).isSome = true) : Drops h (x, h1) (x, h) := by
  intro P base W ρ ρ1 w0 w v H hx1 H1 hr
  obtain ⟨H2, hx2⟩ := H.cut hx1 H1 hg
  obtain ⟨u, hu⟩ := Option.isSome_iff_exists.1 hx
  exact ⟨_, hx2, flat_RV x u v hu hr, H2⟩

theorem hookSound_of {T : FuncId → Option AFunc} (hm : P.follows .mixedOrders = true) (hT : TabOK P T) {f : FuncId} (hc : callable P f = true) {hk : List AV → Heap → Option (AV × Heap)}
    (hs : ∀ l h r, hk l h = some r → ∃ k r1, evFn P T k f l h = some r1 ∧ Drops h r1 r) : HookSound P f hk := by
  refine ⟨hc, fun base W l h r he ρ w vs H hr => ?_⟩
  obtain ⟨k, r1, h1, h2⟩ := hs l h r he
  refine ((evFn_sound hm hT k f l h r1 h1).2 ρ w vs H hr).mono ?_
  rintro e w' ⟨v, ρ1, rfl, E⟩
  obtain ⟨ρ', hx', hr', H'⟩ := h2 P base W ρ ρ1 w w' v H E.ext E.hr E.rv
  exact ⟨v, ρ', rfl, hx', E.keep, hr', H'⟩

/-- A table with a hook over it. -/
def over (T : FuncId → Option AFunc) (f : FuncId) (hk : List AV → Heap → Option (AV × Heap)) : FuncId → Option AFunc := fun f' => if f' = f then some (.hook hk) else T f'
theorem over_ok {T : FuncId → Option AFunc} (hT : TabOK P T) {f : FuncId} {hk : List AV → Heap → Option (AV × Heap)} (hs : HookSound P f hk) : TabOK P (over T f hk) := by
  intro f' x hx
  unfold over at hx
  split at hx
  · rename_i he; subst he; cases hx; exact hs
  · exact hT f' x hx
@[simp] theorem over_same (T : FuncId → Option AFunc) (f : FuncId) (hk : List AV → Heap → Option (AV × Heap)) : over T f hk f = some (.hook hk) := by simp [over]
theorem over_ne {T : FuncId → Option AFunc} {f f' : FuncId} {hk : List AV → Heap → Option (AV × Heap)} (h : f' ≠ f) : over T f hk f' = T f' := by simp [over, h]

theorem tab0 (P : Program) : TabOK P (prepFn P) := by
  intro f x hx
  cases x with
  | code n r b => exact hx
  | hook hk =>
    exfalso
    unfold prepFn at hx
    (repeat' split at hx) <;> simp at hx
end

section
variable {P : Program} {T : FuncId → Option AFunc}
/-- A call of a function of the table, its frame laid. -/
theorem evFn_code {k : Nat} {f : FuncId} {args : List AV} {h : Heap} {nt : Nat} {res : List ARes} {body : ACode} (hT : T f = some (.code nt res body)) :
    evFn P T (k + 1) f args h = (match evC P (evFn P T k) (k + 1) body (args ++ List.replicate (nt - args.length) (.s undef)) h with
      | some (.ret, tm, h') => (resAs tm h' res).map fun l => (tupA l, h')
      | some (.normal, tm, h') => (resAs tm h' res).map fun l => (tupA l, h')
      | _ => none) := by simp only [evFn, hT]; rfl
theorem evFn_hook {k : Nat} {f : FuncId} {args : List AV} {h : Heap} {hk : List AV → Heap → Option (AV × Heap)} (hT : T f = some (.hook hk)) : evFn P T (k + 1) f args h = hk args h := by simp only [evFn, hT]
end
end Go.Proofs.Ytpmoellbfgcefaa.AS
end
