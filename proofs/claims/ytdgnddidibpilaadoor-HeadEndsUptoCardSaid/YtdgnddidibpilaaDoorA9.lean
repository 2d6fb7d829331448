/- Of our own: an abstract machine beside the model, its soundness, and walks of the program in it. -/
import Derived.Test.YtdgnddidibpilaaDoorA8
set_option linter.unusedSimpArgs false
set_option linter.unusedVariables false
section
set_option autoImplicit false
set_option linter.unusedSimpArgs false
namespace Go.Proofs.YtdgnddidibpilaaDoor.AS
open Go Go.RowKit

/-! ### A frame as a function, and walks that end in any of some ways -/
abbrev Fr := Nat → AV
def U (d : Nat) (x : AV) (F : Fr) : Fr := fun i => bif Nat.beq i d then x else F i
def UL : List (Nat × AV) → Fr → Fr
  | [], F => F
  | p :: l, F => U p.1 p.2 (UL l F)
def memN (i : Nat) : List Nat → Bool
  | [] => false
  | j :: l => bif Nat.beq i j then true else memN i l
def FG (fg : List Nat) (F : Fr) : Fr := fun i => bif memN i fg then .any else F i
def PS : List Nat → List AV → Fr → Fr
  | p :: ps, x :: xs, F => PS ps xs (U p x F)
  | _, _, F => F
def fr (n : Nat) (F : Fr) : List AV := (List.range n).map F
def evF (F : Fr) : Operand → AV
  | .tmp t => F t
  | .const v => .s v
  | .global g => .s (.pointer (some ⟨g, 0, none⟩))
  | .func f => .s (.func (.func f) #[] #[])
def evFs (F : Fr) : List Operand → List AV
  | [] => []
  | x :: l => evF F x :: evFs F l
def putF : Option Nat → AV → Fr → Fr
  | some d, x, F => U d x F
  | none, _, F => F
/-- Places that lie in a frame. -/
def okO (n : Nat) : Operand → Bool
  | .tmp t => decide (t < n)
  | _ => true
def okD (n : Nat) : Option Nat → Bool
  | some d => decide (d < n)
  | none => true
def okG (n : Nat) : Option (Nat × Bool) → Bool
  | some (s, _) => decide (s < n)
  | none => true
def okAO (n : Nat) (o : AOper) : Bool := (opds o.op).all (okO n) && okD n o.dst && okG n o.guard
def okC (n : Nat) : ACode → Bool
  | .reg ops | .draw ops _ => ops.all (okAO n)
  | .seq a b => okC n a && okC n b
  | .cond c a b => okO n c && okC n a && okC n b
  | .block _ b | .loop _ b => okC n b
  | .scope _ b c => okC n b && okC n c
  | .rangeF f ps a b => okO n f && ps.all (fun p => decide (p < n)) && okC n a && okC n b
  | _ => true

section
variable {n : Nat} {F : Fr}
theorem fr_len : (fr n F).length = n := by simp [fr]
theorem fr_get {t : Nat} (h : t < n) : (fr n F)[t]? = some (F t) := by simp [fr, h]
theorem fr_set (d : Nat) (x : AV) (h : d < n) : (fr n F).set d x = fr n (U d x F) := by
  apply List.ext_getElem?
  intro i
  by_cases hi : i < n
  · rw [fr_get hi]
    by_cases hd : d = i
    · subst hd
      rw [List.getElem?_set_self (by rw [fr_len]; exact hi)]
      simp [U]
    · rw [List.getElem?_set_ne hd, fr_get hi]
      have : Nat.beq i d = false := by
        cases h : Nat.beq i d with
        | false => rfl
        | true => exact absurd (Nat.eq_of_beq_eq_true h).symm hd
      simp [U, this]
  · rw [List.getElem?_eq_none (by simp [fr]; omega), List.getElem?_eq_none (by simp [fr]; omega)]
theorem fr_put (d : Option Nat) (x : AV) (h : okD n d = true) : putA (fr n F) d x = fr n (putF d x F) := by
  cases d with
  | none => rfl
  | some d => exact fr_set d x (by simpa [okD] using h)
theorem memN_iff (i : Nat) : ∀ (l : List Nat), memN i l = true ↔ i ∈ l
  | [] => by simp [memN]
  | j :: l => by
    have ih := memN_iff i l
    by_cases h : i = j
    · subst h; simp [memN]
    · have : Nat.beq i j = false := by
        cases hb : Nat.beq i j with
        | false => rfl
        | true => exact absurd (Nat.eq_of_beq_eq_true hb) h
      simp [memN, this, h, ih]
theorem fr_forget (fg : List Nat) : forget fg (fr n F) = fr n (FG fg F) := by
  apply List.ext_getElem?
  intro i
  rw [forget_get, fr_len]
  by_cases hi : i < n
  · rw [fr_get hi, fr_get hi]
    by_cases hm : i ∈ fg
    · simp [hm, hi, FG, (memN_iff i fg).2 hm]
    · have : memN i fg = false := by
        cases hb : memN i fg with
        | false => rfl
        | true => exact absurd ((memN_iff i fg).1 hb) hm
      simp [hm, FG, this]
  · rw [List.getElem?_eq_none (by rw [fr_len]; omega), List.getElem?_eq_none (by rw [fr_len]; omega)]
    simp [hi]
theorem evO_fr {x : Operand} (h : okO n x = true) : evO (fr n F) x = some (evF F x) := by
  cases x with
  | tmp t => exact fr_get (by simpa [okO] using h)
  | _ => rfl
theorem evOs_fr : ∀ {l : List Operand}, l.all (okO n) = true → evOs (fr n F) l = some (evFs F l)
  | [], _ => rfl
  | x :: l, h => by
    simp only [List.all_cons, Bool.and_eq_true] at h
    simp only [evOs, evO_fr h.1, evOs_fr h.2, evFs]
/-- A frame's first slots: the arguments. -/
def argF : List AV → Fr
  | [], _ => .s undef
  | x :: _, 0 => x
  | _ :: l, i + 1 => argF l i
theorem argF_get : ∀ (l : List AV) (i : Nat), argF l i = (l[i]?).getD (.s undef)
  | [], i => by simp [argF]
  | x :: l, 0 => rfl
  | x :: l, i + 1 => by simp only [argF, List.getElem?_cons_succ]; exact argF_get l i
theorem fr_args (args : List AV) (h : args.length ≤ n) : args ++ List.replicate (n - args.length) (.s undef) = fr n (argF args) := by
  apply List.ext_getElem?
  intro i
  by_cases hi : i < n
  · rw [fr_get hi, argF_get]
    by_cases ha : i < args.length
    · rw [List.getElem?_append_left ha, List.getElem?_eq_getElem ha]; rfl
    · rw [List.getElem?_append_right (by omega), List.getElem?_replicate, if_pos (by omega), List.getElem?_eq_none (by omega)]; rfl
  · rw [List.getElem?_eq_none (by simp; omega), List.getElem?_eq_none (by rw [fr_len]; omega)]
end

/-! ### Runs, whatever answers the calls -/
def RunG (P : Program) (G : Nat → CallF) (c : ACode) (tm : List AV) (h : Heap) (r : Res) : Prop :=
  ∃ K, ∀ k j, K ≤ k → K ≤ j → evC P (G j) k c tm h = some r
section
variable {P : Program} {G : Nat → CallF} {tm tm' : List AV} {h h' : Heap} {r : Res} {a b c : ACode}
theorem RunG.step (K : Nat) (H : ∀ k j, evC P (G j) (k + K) c tm h = some r) : RunG P G c tm h r := by
  refine ⟨K, fun k j hk hj => ?_⟩
  obtain ⟨k', rfl⟩ : ∃ k', k = k' + K := ⟨k - K, by omega⟩
  exact H k' j
theorem RunG.seq (ha : RunG P G a tm h (.normal, tm', h')) (hb : RunG P G b tm' h' r) : RunG P G (.seq a b) tm h r := by
  obtain ⟨K, ha⟩ := ha; obtain ⟨L, hb⟩ := hb
  refine ⟨K + L + 1, fun k j hk hj => ?_⟩
  obtain ⟨k, rfl⟩ : ∃ k', k = k' + 1 := ⟨k - 1, by omega⟩
  rw [evC_seq, ha k j (by omega) (by omega)]
  exact hb k j (by omega) (by omega)
theorem RunG.seq_stop {e : Ex} (he : e ≠ .normal) (ha : RunG P G a tm h (e, tm', h')) : RunG P G (.seq a b) tm h (e, tm', h') := by
  obtain ⟨K, ha⟩ := ha
  refine ⟨K + 1, fun k j hk hj => ?_⟩
  obtain ⟨k, rfl⟩ : ∃ k', k = k' + 1 := ⟨k - 1, by omega⟩
  rw [evC_seq, ha k j (by omega) (by omega)]
  cases e <;> first | rfl | exact absurd rfl he
theorem RunG.skip : RunG P G .skip tm h (.normal, tm, h) := RunG.step 1 fun _ _ => rfl
theorem RunG.cond {o : Operand} {t : Bool} (ho : evO tm o = some (.s (.bool t))) (H : RunG P G (if t then a else b) tm h r) : RunG P G (.cond o a b) tm h r := by
  obtain ⟨K, H⟩ := H
  refine ⟨K + 1, fun k j hk hj => ?_⟩
  obtain ⟨k, rfl⟩ : ∃ k', k = k' + 1 := ⟨k - 1, by omega⟩
  rw [evC_cond, ho, condC_i, ← H k j (by omega) (by omega)]
  cases t <;> rfl
theorem RunG.block {i : Nat} {e : Ex} (H : RunG P G b tm h (e, tm', h')) : RunG P G (.block i b) tm h (match e with | .exit j => if j = i then .normal else .exit j | e => e, tm', h') := by
  obtain ⟨K, H⟩ := H
  refine ⟨K + 1, fun k j hk hj => ?_⟩
  obtain ⟨k, rfl⟩ : ∃ k', k = k' + 1 := ⟨k - 1, by omega⟩
  rw [evC_block, H k j (by omega) (by omega)]
  cases e <;> simp
  split <;> rfl
theorem RunG.block_exit {i : Nat} (H : RunG P G b tm h (.exit i, tm', h')) : RunG P G (.block i b) tm h (.normal, tm', h') := by
  have := RunG.block (i := i) H
  simpa using this
theorem RunG.block_id {i : Nat} {e : Ex} (he : ∀ j, e ≠ .exit j) (H : RunG P G b tm h (e, tm', h')) : RunG P G (.block i b) tm h (e, tm', h') := by
  have := RunG.block (i := i) H
  cases e <;> first | exact this | exact absurd rfl (he _)
theorem RunG.loop_next {fg : List Nat} (H : RunG P G b (forget fg tm) h (.normal, tm', h')) (H' : RunG P G (.loop fg b) tm' h' r) : RunG P G (.loop fg b) tm h r := by
  obtain ⟨K, H⟩ := H; obtain ⟨L, H'⟩ := H'
  refine ⟨K + L + 1, fun k j hk hj => ?_⟩
  obtain ⟨k, rfl⟩ : ∃ k', k = k' + 1 := ⟨k - 1, by omega⟩
  simp only [evC]
  rw [H k j (by omega) (by omega)]
  exact H' k j (by omega) (by omega)
theorem RunG.loop_end {fg : List Nat} {e : Ex} (he : e ≠ .normal) (H : RunG P G b (forget fg tm) h (e, tm', h')) : RunG P G (.loop fg b) tm h (e, tm', h') := by
  obtain ⟨K, H⟩ := H
  refine ⟨K + 1, fun k j hk hj => ?_⟩
  obtain ⟨k, rfl⟩ : ∃ k', k = k' + 1 := ⟨k - 1, by omega⟩
  simp only [evC]
  rw [H k j (by omega) (by omega)]
  cases e <;> first | rfl | exact absurd rfl he
theorem RunG.scope_goto {fg : List Nat} {l : Nat} {rest : ACode} (H : RunG P G c tm h (.goto l, tm', h')) (hf : findA b l = some rest) (H' : RunG P G (.scope fg b rest) (forget fg tm') h' r) : RunG P G (.scope fg b c) tm h r := by
  obtain ⟨K, H⟩ := H; obtain ⟨L, H'⟩ := H'
  refine ⟨K + L + 1, fun k j hk hj => ?_⟩
  obtain ⟨k, rfl⟩ : ∃ k', k = k' + 1 := ⟨k - 1, by omega⟩
  simp only [evC]
  rw [H k j (by omega) (by omega)]
  simp only [hf]
  exact H' k j (by omega) (by omega)
theorem RunG.scope_end {fg : List Nat} {e : Ex} (he : ∀ l, e ≠ .goto l) (H : RunG P G c tm h (e, tm', h')) : RunG P G (.scope fg b c) tm h (e, tm', h') := by
  obtain ⟨K, H⟩ := H
  refine ⟨K + 1, fun k j hk hj => ?_⟩
  obtain ⟨k, rfl⟩ : ∃ k', k = k' + 1 := ⟨k - 1, by omega⟩
  simp only [evC]
  rw [H k j (by omega) (by omega)]
  cases e <;> first | rfl | exact absurd rfl (he _)
theorem RunG.scope_goto_f {fg : List Nat} {l : Nat} {rest : ACode} {tm'' : List AV} (H : RunG P G c tm h (.goto l, tm', h')) (hf : findA b l = some rest) (hfg : forget fg tm' = tm'') (H' : RunG P G (.scope fg b rest) tm'' h' r) : RunG P G (.scope fg b c) tm h r :=
  RunG.scope_goto H hf (hfg ▸ H')
theorem RunG.loop_next_f {fg : List Nat} {tm0 : List AV} (hfg : forget fg tm = tm0) (H : RunG P G b tm0 h (.normal, tm', h')) (H' : RunG P G (.loop fg b) tm' h' r) : RunG P G (.loop fg b) tm h r :=
  RunG.loop_next (hfg.symm ▸ H) H'
theorem RunG.loop_end_f {fg : List Nat} {e : Ex} {tm0 : List AV} (hfg : forget fg tm = tm0) (he : e ≠ .normal) (H : RunG P G b tm0 h (e, tm', h')) : RunG P G (.loop fg b) tm h (e, tm', h') :=
  RunG.loop_end he (hfg.symm ▸ H)
end

/-! ### Walks -/
section
variable {P : Program} {T : Nat → CallF} {n : Nat}
structure W (P : Program) (T : Nat → CallF) (n : Nat) (c : ACode) (F : Fr) (h : Heap) (Q : Ex → Fr → Heap → Prop) : Prop where
  of ::
  go : okC n c = true → ∃ e F' h', RunG P T c (fr n F) h (e, fr n F', h') ∧ Q e F' h'
def RunO (P : Program) (T : Nat → CallF) (ops : List AOper) (tm : List AV) (h : Heap) (r : List AV × Heap) : Prop :=
  ∃ K, ∀ j, K ≤ j → evOps P (T j) ops tm h = some r
structure WO (P : Program) (T : Nat → CallF) (n : Nat) (ops : List AOper) (F : Fr) (h : Heap) (K : Fr → Heap → Prop) : Prop where
  of ::
  go : ops.all (okAO n) = true → ∃ F' h', RunO P T ops (fr n F) h (fr n F', h') ∧ K F' h'
/-- A call that comes to something right. -/
def FR (P : Program) (T : Nat → CallF) (f : FuncId) (args : List AV) (h : Heap) (Q : AV → Heap → Prop) : Prop :=
  ∃ a H, (∃ K, ∀ j, K ≤ j → T j f args h = some (a, H)) ∧ Q a H
/-- What is behind a first part. -/
structure SQ (P : Program) (T : Nat → CallF) (n : Nat) (b : ACode) (Q : Ex → Fr → Heap → Prop) (e : Ex) (F : Fr) (h : Heap) : Prop where
  of ::
  go : match e with
    | .normal => W P T n b F h Q
    | e => Q e F h
structure BQ (i : Nat) (Q : Ex → Fr → Heap → Prop) (e : Ex) (F : Fr) (h : Heap) : Prop where
  of ::
  go : match e with
    | .exit j => if j = i then Q .normal F h else Q (.exit j) F h
    | e => Q e F h
/-- Behind a round of a loop. -/
structure LQ (R : Fr → Heap → Prop) (Q : Ex → Fr → Heap → Prop) (e : Ex) (F : Fr) (h : Heap) : Prop where
  of ::
  go : match e with
    | .normal => R F h
    | e => Q e F h
structure GQ (R : Nat → Fr → Heap → Prop) (Q : Ex → Fr → Heap → Prop) (e : Ex) (F : Fr) (h : Heap) : Prop where
  of ::
  go : match e with
    | .goto l => R l F h
    | e => Q e F h

variable {F : Fr} {h : Heap} {Q Q' : Ex → Fr → Heap → Prop} {K : Fr → Heap → Prop} {a b c : ACode} {l ops : List AOper}

theorem W.mono (H : W P T n c F h Q) (hq : ∀ e F h, Q e F h → Q' e F h) : W P T n c F h Q' := .of fun ho =>
  let ⟨e, F', h', r, q⟩ := H.go ho; ⟨e, F', h', r, hq _ _ _ q⟩
theorem WO.mono {K' : Fr → Heap → Prop} (H : WO P T n ops F h K) (hq : ∀ F h, K F h → K' F h) : WO P T n ops F h K' := .of fun ho =>
  let ⟨F', h', r, q⟩ := H.go ho; ⟨F', h', r, hq _ _ q⟩
theorem FR.mono {f : FuncId} {args : List AV} {R R' : AV → Heap → Prop} (H : FR P T f args h R) (hq : ∀ a H, R a H → R' a H) : FR P T f args h R' :=
  let ⟨a, H', r, q⟩ := H; ⟨a, H', r, hq _ _ q⟩
theorem FR.run {T0 : FuncId → Option AFunc} {f : FuncId} {args : List AV} {a : AV} {H : Heap} {R : AV → Heap → Prop} (r : FRun P T0 f args h (a, H)) (q : R a H) : FR P (evFn P T0) f args h R := ⟨a, H, r, q⟩

theorem SQ.nn (H : W P T n b F h Q) : SQ P T n b Q .normal F h := ⟨H⟩
theorem SQ.x {i : Nat} (H : Q (.exit i) F h) : SQ P T n b Q (.exit i) F h := ⟨H⟩
theorem SQ.g {i : Nat} (H : Q (.goto i) F h) : SQ P T n b Q (.goto i) F h := ⟨H⟩
theorem SQ.r (H : Q .ret F h) : SQ P T n b Q .ret F h := ⟨H⟩
theorem BQ.nn {i : Nat} (H : Q .normal F h) : BQ i Q .normal F h := ⟨H⟩
theorem BQ.r {i : Nat} (H : Q .ret F h) : BQ i Q .ret F h := ⟨H⟩
theorem BQ.g {i j : Nat} (H : Q (.goto j) F h) : BQ i Q (.goto j) F h := ⟨H⟩
theorem BQ.x {i : Nat} (H : Q .normal F h) : BQ i Q (.exit i) F h := ⟨by simp only [if_true]; exact H⟩
theorem BQ.y {i j : Nat} (hj : Nat.beq j i = false) (H : Q (.exit j) F h) : BQ i Q (.exit j) F h := ⟨by
  simp only
  rw [if_neg (by intro e; subst e; simp at hj)]; exact H⟩
theorem LQ.nn {R : Fr → Heap → Prop} (H : R F h) : LQ R Q .normal F h := ⟨H⟩
theorem LQ.x {R : Fr → Heap → Prop} {i : Nat} (H : Q (.exit i) F h) : LQ R Q (.exit i) F h := ⟨H⟩
theorem LQ.g {R : Fr → Heap → Prop} {i : Nat} (H : Q (.goto i) F h) : LQ R Q (.goto i) F h := ⟨H⟩
theorem LQ.r {R : Fr → Heap → Prop} (H : Q .ret F h) : LQ R Q .ret F h := ⟨H⟩
theorem GQ.nn {R : Nat → Fr → Heap → Prop} (H : Q .normal F h) : GQ R Q .normal F h := ⟨H⟩
theorem GQ.x {R : Nat → Fr → Heap → Prop} {i : Nat} (H : Q (.exit i) F h) : GQ R Q (.exit i) F h := ⟨H⟩
theorem GQ.r {R : Nat → Fr → Heap → Prop} (H : Q .ret F h) : GQ R Q .ret F h := ⟨H⟩
theorem GQ.g {R : Nat → Fr → Heap → Prop} {i : Nat} (H : R i F h) : GQ R Q (.goto i) F h := ⟨H⟩

theorem W.seq (H : W P T n a F h (SQ P T n b Q)) : W P T n (.seq a b) F h Q := .of fun ho => by
  simp only [okC, Bool.and_eq_true] at ho
  obtain ⟨e, F', h', r, q⟩ := H.go ho.1
  cases e with
  | normal => obtain ⟨e2, F2, h2, r2, q2⟩ := (q.go : W P T n b F' h' Q).go ho.2; exact ⟨e2, F2, h2, RunG.seq r r2, q2⟩
  | exit i => exact ⟨_, F', h', RunG.seq_stop (by simp) r, q.go⟩
  | goto i => exact ⟨_, F', h', RunG.seq_stop (by simp) r, q.go⟩
  | ret => exact ⟨_, F', h', RunG.seq_stop (by simp) r, q.go⟩
theorem W.skip (H : Q .normal F h) : W P T n .skip F h Q := .of fun _ => ⟨_, _, _, RunG.skip, H⟩
theorem W.exit {i : Nat} (H : Q (.exit i) F h) : W P T n (.exit i) F h Q := .of fun _ => ⟨_, _, _, RunG.step 1 fun _ _ => rfl, H⟩
theorem W.goto {i : Nat} (H : Q (.goto i) F h) : W P T n (.goto i) F h Q := .of fun _ => ⟨_, _, _, RunG.step 1 fun _ _ => rfl, H⟩
theorem W.ret (H : Q .ret F h) : W P T n .ret F h Q := .of fun _ => ⟨_, _, _, RunG.step 1 fun _ _ => rfl, H⟩
theorem W.label {fg : List Nat} {i : Nat} (H : Q .normal (FG fg F) h) : W P T n (.label fg i) F h Q := .of fun _ => ⟨_, _, _, RunG.step 1 fun _ _ => by rw [evC_label, fr_forget], H⟩
theorem W.cond {x : Operand} {t : Bool} (hx : evF F x = .s (.bool t)) (H1 : t = true → W P T n a F h Q) (H2 : t = false → W P T n b F h Q) : W P T n (.cond x a b) F h Q := .of fun ho => by
  simp only [okC, Bool.and_eq_true] at ho
  have he : evO (fr n F) x = some (.s (.bool t)) := by rw [evO_fr ho.1.1, hx]
  cases t with
  | true => obtain ⟨e, F', h', r, q⟩ := (H1 rfl).go ho.1.2; exact ⟨e, F', h', RunG.cond he r, q⟩
  | false => obtain ⟨e, F', h', r, q⟩ := (H2 rfl).go ho.2; exact ⟨e, F', h', RunG.cond he r, q⟩
theorem W.condT {x : Operand} (hx : evF F x = .s (.bool true)) (H1 : W P T n a F h Q) : W P T n (.cond x a b) F h Q := W.cond hx (fun _ => H1) (fun h => by cases h)
theorem W.condF {x : Operand} (hx : evF F x = .s (.bool false)) (H1 : W P T n b F h Q) : W P T n (.cond x a b) F h Q := W.cond hx (fun h => by cases h) (fun _ => H1)
theorem W.condD {x : Operand} {p : Prop} [Decidable p] (hx : evF F x = .s (.bool (decide p))) (H1 : p → W P T n a F h Q) (H2 : ¬ p → W P T n b F h Q) : W P T n (.cond x a b) F h Q :=
  W.cond hx (fun h => H1 (of_decide_eq_true h)) (fun h => H2 (of_decide_eq_false h))
theorem W.condDT {x : Operand} {p : Prop} [Decidable p] (hx : evF F x = .s (.bool (decide p))) (hp : p) (H1 : W P T n a F h Q) : W P T n (.cond x a b) F h Q :=
  W.condD hx (fun _ => H1) (fun h => absurd hp h)
theorem W.condDF {x : Operand} {p : Prop} [Decidable p] (hx : evF F x = .s (.bool (decide p))) (hp : ¬ p) (H1 : W P T n b F h Q) : W P T n (.cond x a b) F h Q :=
  W.condD hx (fun h => absurd h hp) (fun _ => H1)
theorem W.block {i : Nat} (H : W P T n b F h (BQ i Q)) : W P T n (.block i b) F h Q := .of fun ho => by
  obtain ⟨e, F', h', r, q⟩ := H.go ho
  replace q := q.go
  cases e with
  | exit j =>
    simp only at q
    split at q
    · rename_i hj; subst hj; exact ⟨_, F', h', RunG.block_exit r, q⟩
    · rename_i hj
      have := RunG.block (i := i) r
      simp only [if_neg hj] at this
      exact ⟨_, F', h', this, q⟩
  | normal => exact ⟨_, F', h', RunG.block_id (by simp) r, q⟩
  | goto j => exact ⟨_, F', h', RunG.block_id (by simp) r, q⟩
  | ret => exact ⟨_, F', h', RunG.block_id (by simp) r, q⟩
/-- A loop, by what holds ahead of each round; the rounds come to an end. -/
theorem W.loop {fg : List Nat} (I : Nat → Fr → Heap → Prop) (m0 : Nat) (h0 : I m0 (FG fg F) h) (H : ∀ m F h, I m F h → W P T n b F h (LQ (fun F' h' => ∃ m', m' < m ∧ I m' (FG fg F') h') Q)) : W P T n (.loop fg b) F h Q := by
  have key : ∀ k m, m < k → ∀ F h, I m (FG fg F) h → W P T n (.loop fg b) F h Q := by
    intro k
    induction k with
    | zero => intro m hm; omega
    | succ k ih =>
      intro m hm F h hI
      refine .of fun ho => ?_
      obtain ⟨e, F', h', r, q⟩ := (H m _ h hI).go ho
      replace q := q.go
      cases e with
      | normal =>
        obtain ⟨m', hlt, hI'⟩ := q
        obtain ⟨e2, F2, h2, r2, q2⟩ := (ih m' (by omega) F' h' hI').go ho
        exact ⟨e2, F2, h2, RunG.loop_next_f (fr_forget fg) r r2, q2⟩
      | exit i => exact ⟨_, F', h', RunG.loop_end_f (fr_forget fg) (by simp) r, q⟩
      | goto i => exact ⟨_, F', h', RunG.loop_end_f (fr_forget fg) (by simp) r, q⟩
      | ret => exact ⟨_, F', h', RunG.loop_end_f (fr_forget fg) (by simp) r, q⟩
  exact key (m0 + 1) m0 (by omega) F h h0
theorem findA_ok : ∀ {b : ACode} {l : Nat} {r : ACode}, findA b l = some r → okC n b = true → okC n r = true
  | .seq a b, l, r, hf, ho => by
    simp only [okC, Bool.and_eq_true] at ho
    simp only [findA] at hf
    cases ha : findA a l with
    | some r1 =>
      rw [ha] at hf
      simp only [Option.some.injEq] at hf; subst hf
      simp only [okC, Bool.and_eq_true]
      exact ⟨findA_ok ha ho.1, ho.2⟩
    | none => rw [ha] at hf; exact findA_ok hf ho.2
  | .label _ l', l, r, hf, ho => by
    simp only [findA] at hf
    split at hf
    · cases hf; rfl
    · cases hf
  | .skip, _, _, hf, _ | .reg _, _, _, hf, _ | .draw _ _, _, _, hf, _ | .cond _ _ _, _, _, hf, _ | .block _ _, _, _, hf, _ | .loop _ _, _, _, hf, _ | .exit _, _, _, hf, _ | .scope _ _ _, _, _, hf, _ | .goto _, _, _, hf, _ | .ret, _, _, hf, _ | .rangeF _ _ _ _, _, _, hf, _ => by cases hf
/-- A scope: what holds at its labels; the jumps come to an end. -/
theorem W.scope {fg : List Nat} {cur : ACode} (I : Nat → Nat → Fr → Heap → Prop) (m0 : Nat)
    (H0 : W P T n cur F h (GQ (fun i F' h' => ∃ m, m < m0 ∧ I m i (FG fg F') h') Q))
    (H : ∀ m i F h, I m i F h → ∃ r, findA b i = some r ∧ W P T n r F h (GQ (fun i F' h' => ∃ m', m' < m ∧ I m' i (FG fg F') h') Q)) : W P T n (.scope fg b cur) F h Q := by
  have key : ∀ k m, m < k → ∀ (cur : ACode) F h, W P T n cur F h (GQ (fun i F' h' => ∃ m', m' < m ∧ I m' i (FG fg F') h') Q) → W P T n (.scope fg b cur) F h Q := by
    intro k
    induction k with
    | zero => intro m hm; omega
    | succ k ih =>
      intro m hm cur F h hW
      refine .of fun ho => ?_
      simp only [okC, Bool.and_eq_true] at ho
      obtain ⟨e, F', h', r, q⟩ := hW.go ho.2
      replace q := q.go
      cases e with
      | goto i =>
        obtain ⟨m', hlt, hI⟩ := q
        obtain ⟨r1, hf, hw⟩ := H m' i _ h' hI
        obtain ⟨e2, F2, h2, r2, q2⟩ := (ih m' (by omega) r1 _ h' hw).go (by simp only [okC, Bool.and_eq_true]; exact ⟨ho.1, findA_ok hf ho.1⟩)
        exact ⟨e2, F2, h2, RunG.scope_goto_f r hf (fr_forget fg) r2, q2⟩
      | normal => exact ⟨_, F', h', RunG.scope_end (by simp) r, q⟩
      | exit i => exact ⟨_, F', h', RunG.scope_end (by simp) r, q⟩
      | ret => exact ⟨_, F', h', RunG.scope_end (by simp) r, q⟩
  exact key (m0 + 1) m0 (by omega) cur F h H0
theorem W.reg (H : WO P T n ops F h (fun F h => Q .normal F h)) : W P T n (.reg ops) F h Q := .of fun ho => by
  obtain ⟨F', h', ⟨K, r⟩, q⟩ := H.go ho
  refine ⟨_, F', h', ⟨K + 1, fun k j hk hj => ?_⟩, q⟩
  obtain ⟨k, rfl⟩ : ∃ k', k = k' + 1 := ⟨k - 1, by omega⟩
  rw [evC_reg, r j (by omega)]; rfl
/-- A region whose order is open, if nothing needs a look at other heaps. -/
theorem W.draw (H : WO P T n ops F h (fun F h => Q .normal F h)) : W P T n (.draw ops []) F h Q := .of fun ho => by
  obtain ⟨F', h', ⟨K, r⟩, q⟩ := H.go ho
  refine ⟨_, F', h', ⟨K + 1, fun k j hk hj => ?_⟩, q⟩
  obtain ⟨k, rfl⟩ : ∃ k', k = k' + 1 := ⟨k - 1, by omega⟩
  rw [evC_draw0, r j (by omega)]; rfl
/-- The parts of a code, one behind the other. -/
theorem W.sreg (H : WO P T n ops F h (fun F h => W P T n b F h Q)) : W P T n (.seq (.reg ops) b) F h Q := W.seq (W.reg (H.mono fun _ _ h => ⟨h⟩))
theorem W.sdraw (H : WO P T n ops F h (fun F h => W P T n b F h Q)) : W P T n (.seq (.draw ops []) b) F h Q := W.seq (W.draw (H.mono fun _ _ h => ⟨h⟩))

/-! ### Functions -/
def resF1 (F : Fr) (h : Heap) : ARes → Option AV
  | .tmp t => some (F t)
  | .cell agg n t => match F t with
    | .pt b v o => (rdK (bk h b) v o n).bind (oneOr agg)
    | _ => none
def resFs (F : Fr) (h : Heap) : List ARes → Option (List AV)
  | [] => some []
  | r :: l => match resF1 F h r, resFs F h l with | some x, some xs => some (x :: xs) | _, _ => none
def okRes (n : Nat) : List ARes → Bool
  | [] => true
  | .tmp t :: l => decide (t < n) && okRes n l
  | .cell _ _ t :: l => decide (t < n) && okRes n l
theorem resAs_fr : ∀ {l : List ARes}, okRes n l = true → resAs (fr n F) h l = resFs F h l
  | [], _ => rfl
  | .tmp t :: l, ho => by
    simp only [okRes, Bool.and_eq_true, decide_eq_true_eq] at ho
    simp only [resAs, resFs, resA, resF1, fr_get ho.1, resAs_fr ho.2]
    rfl
  | .cell agg m t :: l, ho => by
    simp only [okRes, Bool.and_eq_true, decide_eq_true_eq] at ho
    simp only [resAs, resFs, resA, resF1, fr_get ho.1, resAs_fr ho.2]
    cases F t <;> first | rfl | simp only [rdn_K]; rfl
/-- What is right behind a function's code. -/
structure EQ (res : List ARes) (Q : AV → Heap → Prop) (e : Ex) (F : Fr) (h : Heap) : Prop where
  of ::
  go : (e = .ret ∨ e = .normal) ∧ ∃ l, resFs F h res = some l ∧ Q (tupA l) h
theorem EQ.r {res : List ARes} {R : AV → Heap → Prop} {l : List AV} (hl : resFs F h res = some l) (H : R (tupA l) h) : EQ res R .ret F h := ⟨.inl rfl, l, hl, H⟩
theorem EQ.nn {res : List ARes} {R : AV → Heap → Prop} {l : List AV} (hl : resFs F h res = some l) (H : R (tupA l) h) : EQ res R .normal F h := ⟨.inr rfl, l, hl, H⟩
theorem FR.of {T0 : FuncId → Option AFunc} {f : FuncId} {args : List AV} {res : List ARes} {R : AV → Heap → Prop} (hT : T0 f = some (.code n res c)) (ho : (okC n c && okRes n res && Nat.ble args.length n) = true) (H : W P (evFn P T0) n c (argF args) h (EQ res R)) : FR P (evFn P T0) f args h R := by
  simp only [Bool.and_eq_true] at ho
  obtain ⟨e, F', h', r, ⟨he, l, hl, q⟩⟩ := H.go ho.1.1
  refine ⟨tupA l, h', FRun.of (T := T0) hT (by rw [fr_args args (Nat.le_of_ble_eq_true ho.2)]; exact r) he ?_, q⟩
  rw [resAs_fr ho.1.2, hl]; rfl

/-! ### Regions -/
theorem WO.nil (H : K F h) : WO P T n [] F h K := .of fun _ => ⟨F, h, ⟨0, fun _ _ => rfl⟩, H⟩
theorem WO.op {d : Option Nat} {op : AOp} {x : AV} {h' : Heap} (H : (opds op).all (okO n) = true → ∃ J, ∀ j, J ≤ j → opV P (T j) (fr n F) h op = some (x, h')) (k : WO P T n l (putF d x F) h' K) : WO P T n (⟨d, none, op⟩ :: l) F h K := .of fun ho => by
  simp only [List.all_cons, okAO, Bool.and_eq_true] at ho
  obtain ⟨J, hJ⟩ := H ho.1.1.1
  obtain ⟨F', H', ⟨L, r⟩, q⟩ := k.go ho.2
  refine ⟨F', H', ⟨J + L, fun j hj => ?_⟩, q⟩
  rw [evOps_cons0, hJ j (by omega), thenO_s, fr_put d x ho.1.1.2]
  exact r j (by omega)
theorem WO.pv {d : Option Nat} {q : POp} {x : AV} (H : (opds (.p q)).all (okO n) = true → pV P (fr n F) q = some x) (k : WO P T n l (putF d x F) h K) : WO P T n (⟨d, none, .p q⟩ :: l) F h K :=
  WO.op (fun ho => ⟨0, fun j _ => by rw [opV_p, H ho]; rfl⟩) k
theorem WO.gU {d : Option Nat} {op : AOp} {s : Nat} {b : Bool} {vs : Array Value} (hs : F s = .s (.tuple vs)) (k : WO P T n l (putF d (.s undef) F) h K) : WO P T n (⟨d, some (s, b), op⟩ :: l) F h K := .of fun ho => by
  simp only [List.all_cons, okAO, Bool.and_eq_true, okG, decide_eq_true_eq] at ho
  obtain ⟨F', H', ⟨L, r⟩, q⟩ := k.go ho.2
  refine ⟨F', H', ⟨L, fun j hj => ?_⟩, q⟩
  rw [evOps_cons, want_s, fr_get ho.1.2, hs]
  simp only [wantV, thenW_f, fr_put d _ ho.1.1.2]
  exact r j (by omega)
theorem WO.gF {d : Option Nat} {op : AOp} {s : Nat} {w b : Bool} (hs : F s = .s (.bool b)) (hb : (b == w) = false) (k : WO P T n l (putF d (.s undef) F) h K) : WO P T n (⟨d, some (s, w), op⟩ :: l) F h K := .of fun ho => by
  simp only [List.all_cons, okAO, Bool.and_eq_true, okG, decide_eq_true_eq] at ho
  obtain ⟨F', H', ⟨L, r⟩, q⟩ := k.go ho.2
  refine ⟨F', H', ⟨L, fun j hj => ?_⟩, q⟩
  rw [evOps_cons, want_s, fr_get ho.1.2, hs]
  simp only [wantV, hb, thenW_f, fr_put d _ ho.1.1.2]
  exact r j (by omega)
theorem WO.gT {d : Option Nat} {op : AOp} {s : Nat} {w b : Bool} (hs : F s = .s (.bool b)) (hb : (b == w) = true) (k : WO P T n (⟨d, none, op⟩ :: l) F h K) : WO P T n (⟨d, some (s, w), op⟩ :: l) F h K := .of fun ho => by
  have ho' := ho
  simp only [List.all_cons, okAO, Bool.and_eq_true, okG, decide_eq_true_eq] at ho
  obtain ⟨F', H', ⟨L, r⟩, q⟩ := k.go (by simp only [List.all_cons, okAO, Bool.and_eq_true, okG]; exact ⟨⟨ho.1.1, trivial⟩, ho.2⟩)
  refine ⟨F', H', ⟨L, fun j hj => ?_⟩, q⟩
  have := r j hj
  rw [evOps_cons0] at this
  rw [evOps_cons, want_s, fr_get ho.1.2, hs]
  simp only [wantV, hb, thenW_t]
  exact this
theorem U_same {s : Nat} {x : AV} (hs : F s = x) : U s x F = F := by
  funext i
  unfold U
  cases hb : Nat.beq i s with
  | false => rfl
  | true => obtain rfl := Nat.eq_of_beq_eq_true hb; exact hs.symm
/-- A guard that is not known: both ways. -/
theorem WO.gS {d : Option Nat} {op : AOp} {s : Nat} {w : Bool} {p : Prop} [Decidable p] (hs : F s = .s (.bool (decide p)))
    (k1 : p → WO P T n (⟨d, some (s, w), op⟩ :: l) (U s (.s (.bool true)) F) h K) (k2 : ¬ p → WO P T n (⟨d, some (s, w), op⟩ :: l) (U s (.s (.bool false)) F) h K) : WO P T n (⟨d, some (s, w), op⟩ :: l) F h K := by
  by_cases hp : p
  · have := k1 hp
    rwa [U_same (by rw [hs, decide_eq_true hp])] at this
  · have := k2 hp
    rwa [U_same (by rw [hs, decide_eq_false hp])] at this

section
variable {d : Option Nat} {x y z : Operand} {t ty yt : TypeId}
theorem WO.mv (k : WO P T n l (putF d (evF F x) F) h K) : WO P T n (⟨d, none, .p (.mv x)⟩ :: l) F h K :=
  WO.pv (fun ho => by simp only [opds, opdsP, List.all_cons, List.all_nil, Bool.and_true] at ho; rw [pV_mv, evO_fr ho]) k
theorem WO.mvs {v : Value} (hx : evF F x = .s v) (k : WO P T n l (putF d (.s v) F) h K) : WO P T n (⟨d, none, .p (.mv x)⟩ :: l) F h K := WO.mv (hx ▸ k)
theorem WO.mvp {b v o : Nat} (hx : evF F x = .pt b v o) (k : WO P T n l (putF d (.pt b v o) F) h K) : WO P T n (⟨d, none, .p (.mv x)⟩ :: l) F h K := WO.mv (hx ▸ k)
theorem WO.mvt {vs : List AV} (hx : evF F x = .tp vs) (k : WO P T n l (putF d (.tp vs) F) h K) : WO P T n (⟨d, none, .p (.mv x)⟩ :: l) F h K := WO.mv (hx ▸ k)
theorem WO.bin {op : BinOp} {u v z : Value} (hx : evF F x = .s u) (hy : evF F y = .s v) (hz : bin2 P op t x y (some (.s u)) (some (.s v)) = some (.s z)) (k : WO P T n l (putF d (.s z) F) h K) : WO P T n (⟨d, none, .p (.sc (.binOp op t x y yt) ty)⟩ :: l) F h K :=
  WO.pv (fun ho => by
    simp only [opds, opdsP, Op.operands, List.all_cons, List.all_nil, Bool.and_true, Bool.and_eq_true] at ho
    rw [pV_sc, sc_bin, evO_fr ho.1, evO_fr ho.2, hx, hy, hz]) k
section
variable {i : IntKind} {a b r : Int} (hx : evF F x = .s (.int i a)) (hy : evF F y = .s (.int i b))
include hx hy
theorem WO.add (hr : i.wrap (a + b) = r) (k : WO P T n l (putF d (.s (.int i r)) F) h K) : WO P T n (⟨d, none, .p (.sc (.binOp .add t x y yt) ty)⟩ :: l) F h K := WO.bin hx hy (by rw [bin_add, hr]) k
theorem WO.sub (hr : i.wrap (a - b) = r) (k : WO P T n l (putF d (.s (.int i r)) F) h K) : WO P T n (⟨d, none, .p (.sc (.binOp .sub t x y yt) ty)⟩ :: l) F h K := WO.bin hx hy (by rw [bin_sub, hr]) k
theorem WO.mul (hr : i.wrap (a * b) = r) (k : WO P T n l (putF d (.s (.int i r)) F) h K) : WO P T n (⟨d, none, .p (.sc (.binOp .mul t x y yt) ty)⟩ :: l) F h K := WO.bin hx hy (by rw [bin_mul, hr]) k
theorem WO.quo (hb : b ≠ 0) (hr : i.wrap (a.tdiv b) = r) (k : WO P T n l (putF d (.s (.int i r)) F) h K) : WO P T n (⟨d, none, .p (.sc (.binOp .quo t x y yt) ty)⟩ :: l) F h K := WO.bin hx hy (by rw [bin_quo _ _ _ _ _ _ hb, hr]) k
theorem WO.rem (hb : b ≠ 0) (k : WO P T n l (putF d (.s (.int i (a.tmod b))) F) h K) : WO P T n (⟨d, none, .p (.sc (.binOp .rem t x y yt) ty)⟩ :: l) F h K := WO.bin hx hy (bin_rem _ _ _ _ _ _ hb) k
theorem WO.and (k : WO P T n l (putF d (.s (.int i (Go.bits .and i a b))) F) h K) : WO P T n (⟨d, none, .p (.sc (.binOp .and t x y yt) ty)⟩ :: l) F h K := WO.bin hx hy (bin_and ..) k
theorem WO.or (k : WO P T n l (putF d (.s (.int i (Go.bits .or i a b))) F) h K) : WO P T n (⟨d, none, .p (.sc (.binOp .or t x y yt) ty)⟩ :: l) F h K := WO.bin hx hy (bin_or ..) k
theorem WO.xor (k : WO P T n l (putF d (.s (.int i (Go.bits .xor i a b))) F) h K) : WO P T n (⟨d, none, .p (.sc (.binOp .xor t x y yt) ty)⟩ :: l) F h K := WO.bin hx hy (bin_xor ..) k
theorem WO.eql (k : WO P T n l (putF d (.s (.bool (decide (a = b)))) F) h K) : WO P T n (⟨d, none, .p (.sc (.binOp .eql t x y yt) ty)⟩ :: l) F h K := WO.bin hx hy (bin_eql ..) k
theorem WO.neq (k : WO P T n l (putF d (.s (.bool (decide (a ≠ b)))) F) h K) : WO P T n (⟨d, none, .p (.sc (.binOp .neq t x y yt) ty)⟩ :: l) F h K := WO.bin hx hy (by rw [bin_neq, decide_not]) k
theorem WO.lss (k : WO P T n l (putF d (.s (.bool (decide (a < b)))) F) h K) : WO P T n (⟨d, none, .p (.sc (.binOp .lss t x y yt) ty)⟩ :: l) F h K := WO.bin hx hy (bin_lss ..) k
theorem WO.leq (k : WO P T n l (putF d (.s (.bool (decide (a ≤ b)))) F) h K) : WO P T n (⟨d, none, .p (.sc (.binOp .leq t x y yt) ty)⟩ :: l) F h K := WO.bin hx hy (bin_leq ..) k
theorem WO.gtr (k : WO P T n l (putF d (.s (.bool (decide (b < a)))) F) h K) : WO P T n (⟨d, none, .p (.sc (.binOp .gtr t x y yt) ty)⟩ :: l) F h K := WO.bin hx hy (bin_gtr ..) k
theorem WO.geq (k : WO P T n l (putF d (.s (.bool (decide (b ≤ a)))) F) h K) : WO P T n (⟨d, none, .p (.sc (.binOp .geq t x y yt) ty)⟩ :: l) F h K := WO.bin hx hy (bin_geq ..) k
end
theorem WO.shl {i j : IntKind} {a b r : Int} (hx : evF F x = .s (.int i a)) (hy : evF F y = .s (.int j b)) (hb : 0 ≤ b) (hr : i.wrap (a * 2 ^ (min b.toNat i.bits)) = r) (k : WO P T n l (putF d (.s (.int i r)) F) h K) : WO P T n (⟨d, none, .p (.sc (.binOp .shl t x y yt) ty)⟩ :: l) F h K := WO.bin hx hy (by rw [bin_shl _ _ _ _ _ _ _ hb, hr]) k
theorem WO.shr {i j : IntKind} {a b r : Int} (hx : evF F x = .s (.int i a)) (hy : evF F y = .s (.int j b)) (hb : 0 ≤ b) (hr : a / (2 ^ (min b.toNat i.bits)) = r) (k : WO P T n l (putF d (.s (.int i r)) F) h K) : WO P T n (⟨d, none, .p (.sc (.binOp .shr t x y yt) ty)⟩ :: l) F h K := WO.bin hx hy (by rw [bin_shr _ _ _ _ _ _ _ hb, Int.fdiv_eq_ediv_of_nonneg _ (Int.le_of_lt (Int.pow_pos (by decide))), hr]) k
theorem toList_eq_iff {a b : ByteArray} : a.toList = b.toList ↔ a = b :=
  ⟨fun h => by rw [ByteArray.toList_eq, ByteArray.toList_eq] at h; exact ByteArray.ext (Array.toList_inj.1 h), fun h => h ▸ rfl⟩
theorem WO.sadd {a b : ByteArray} (hx : evF F x = .s (.string a)) (hy : evF F y = .s (.string b)) (hb : a.size + b.size ≤ 9223372036854775807) (k : WO P T n l (putF d (.s (.string (a ++ b))) F) h K) : WO P T n (⟨d, none, .p (.sc (.binOp .add t x y yt) ty)⟩ :: l) F h K := WO.bin hx hy (bin_sadd _ _ _ _ _ hb) k
theorem WO.seql {a b : ByteArray} (hx : evF F x = .s (.string a)) (hy : evF F y = .s (.string b)) (k : WO P T n l (putF d (.s (.bool (decide (a = b)))) F) h K) : WO P T n (⟨d, none, .p (.sc (.binOp .eql t x y yt) ty)⟩ :: l) F h K :=
  WO.bin hx hy (by rw [bin_seql, show (a.toList == b.toList) = decide (a = b) from by rw [Bool.eq_iff_iff]; simp [toList_eq_iff]]) k
theorem WO.sneq {a b : ByteArray} (hx : evF F x = .s (.string a)) (hy : evF F y = .s (.string b)) (k : WO P T n l (putF d (.s (.bool (decide (a ≠ b)))) F) h K) : WO P T n (⟨d, none, .p (.sc (.binOp .neq t x y yt) ty)⟩ :: l) F h K :=
  WO.bin hx hy (by rw [bin_sneq, show (!(a.toList == b.toList)) = decide (a ≠ b) from by rw [Bool.eq_iff_iff]; simp [toList_eq_iff]]) k
theorem WO.not {p : Prop} [Decidable p] (hx : evF F x = .s (.bool (decide p))) (k : WO P T n l (putF d (.s (.bool (decide (¬ p)))) F) h K) : WO P T n (⟨d, none, .p (.sc (.unOp .not t x) ty)⟩ :: l) F h K :=
  WO.pv (fun ho => by
    simp only [opds, opdsP, Op.operands, List.all_cons, List.all_nil, Bool.and_true] at ho
    rw [pV_sc, sc_un, evO_fr ho, hx, un_not, decide_not]) k
theorem WO.not0 {b : Bool} (hx : evF F x = .s (.bool b)) (k : WO P T n l (putF d (.s (.bool (!b))) F) h K) : WO P T n (⟨d, none, .p (.sc (.unOp .not t x) ty)⟩ :: l) F h K :=
  WO.pv (fun ho => by
    simp only [opds, opdsP, Op.operands, List.all_cons, List.all_nil, Bool.and_true] at ho
    rw [pV_sc, sc_un, evO_fr ho, hx, un_not]) k
theorem WO.cvi {dk : TypeDesc} {src dst : TypeId} {i j : IntKind} {a r : Int} (hx : evF F x = .s (.int i a)) (hs : P.underlying src = some dk) (hd : P.underlying dst = some (.int j)) (hr : j.wrap a = r) (k : WO P T n l (putF d (.s (.int j r)) F) h K) : WO P T n (⟨d, none, .p (.sc (.convert src dst x) ty)⟩ :: l) F h K :=
  WO.pv (fun ho => by
    simp only [opds, opdsP, Op.operands, List.all_cons, List.all_nil, Bool.and_true] at ho
    rw [pV_sc, sc_cv, evO_fr ho, hx, cv_int hs hd, hr]) k
theorem WO.cvs {src dst : TypeId} {a : ByteArray} (hx : evF F x = .s (.string a)) (hs : P.underlying src = some .string) (hd : P.underlying dst = some .string) (k : WO P T n l (putF d (.s (.string a)) F) h K) : WO P T n (⟨d, none, .p (.sc (.convert src dst x) ty)⟩ :: l) F h K :=
  WO.pv (fun ho => by
    simp only [opds, opdsP, Op.operands, List.all_cons, List.all_nil, Bool.and_true] at ho
    rw [pV_sc, sc_cv, evO_fr ho, hx, cv_str hs hd]) k
theorem btRange (s : ByteArray) (i : Int) : 0 ≤ V.bt s i ∧ V.bt s i ≤ 255 := by
  unfold V.bt
  split
  · have := (s[i.toNat]).toNat_lt; omega
  · omega
theorem WO.ix {s : ByteArray} {j : IntKind} {a : Int} (hx : evF F x = .s (.string s)) (hy : evF F y = .s (.int j a)) (ht : P.underlying t = some .string) (h0 : 0 ≤ a) (h1 : a < s.size) (k : WO P T n l (putF d (.s (.int .u8 (V.bt s a))) F) h K) : WO P T n (⟨d, none, .p (.sc (.index t x y) ty)⟩ :: l) F h K :=
  WO.pv (fun ho => by
    simp only [opds, opdsP, Op.operands, List.all_cons, List.all_nil, Bool.and_true, Bool.and_eq_true] at ho
    rw [pV_sc, sc_ix, evO_fr ho.1, evO_fr ho.2, hx, hy, ix_str ht s j a h0 h1]
    unfold V.bt; rw [dif_pos (by omega)]) k
theorem WO.slen {s : ByteArray} (hx : evF F x = .s (.string s)) (ht : P.underlying t = some .string) (k : WO P T n l (putF d (.s (.int .i64 s.size)) F) h K) : WO P T n (⟨d, none, .p (.sc (.call ⟨.builtin .len, #[x], #[t]⟩) ty)⟩ :: l) F h K :=
  WO.pv (fun ho => by
    simp only [opds, opdsP, Op.operands, Call.operands, Array.empty_append, List.append_nil, List.nil_append, List.all_cons, List.all_nil, Bool.and_true] at ho
    rw [pV_sc, sc_len, evO_fr ho, hx, lenV_s ht]) k
theorem WO.sll {s : ByteArray} {j : IntKind} {a : Int} (hx : evF F x = .s (.string s)) (hy : evF F y = .s (.int j a)) (ht : P.underlying t = some .string) (h0 : 0 ≤ a) (h1 : a ≤ s.size) (k : WO P T n l (putF d (.s (.string (s.extract a.toNat s.size))) F) h K) : WO P T n (⟨d, none, .p (.sc (.slice t x (some y) none none) ty)⟩ :: l) F h K :=
  WO.pv (fun ho => by
    simp [opds, opdsP, Op.operands] at ho
    rw [pV_sc, sc_sl]
    simp only [Option.map_some, Option.map_none]
    rw [evO_fr ho.1, evO_fr ho.2, hx, hy, sl_lo ht s j a h0 h1]) k
theorem WO.slh {s : ByteArray} {j : IntKind} {a : Int} (hx : evF F x = .s (.string s)) (hy : evF F y = .s (.int j a)) (ht : P.underlying t = some .string) (h0 : 0 ≤ a) (h1 : a ≤ s.size) (k : WO P T n l (putF d (.s (.string (s.extract 0 a.toNat))) F) h K) : WO P T n (⟨d, none, .p (.sc (.slice t x none (some y) none) ty)⟩ :: l) F h K :=
  WO.pv (fun ho => by
    simp [opds, opdsP, Op.operands] at ho
    rw [pV_sc, sc_sl]
    simp only [Option.map_some, Option.map_none]
    rw [evO_fr ho.1, evO_fr ho.2, hx, hy, sl_hi ht s j a h0 h1]) k
theorem WO.slb {s : ByteArray} {i j : IntKind} {a b : Int} (hx : evF F x = .s (.string s)) (hy : evF F y = .s (.int i a)) (hz : evF F z = .s (.int j b)) (ht : P.underlying t = some .string) (h0 : 0 ≤ a) (h1 : a ≤ b) (h2 : b ≤ s.size) (k : WO P T n l (putF d (.s (.string (s.extract a.toNat b.toNat))) F) h K) : WO P T n (⟨d, none, .p (.sc (.slice t x (some y) (some z) none) ty)⟩ :: l) F h K :=
  WO.pv (fun ho => by
    simp [opds, opdsP, Op.operands] at ho
    rw [pV_sc, sc_sl]
    simp only [Option.map_some]
    rw [evO_fr ho.1, evO_fr ho.2.1, evO_fr ho.2.2, hx, hy, hz, sl_lh ht s i j a b h0 h1 h2]) k
theorem WO.pickT {y z : Operand} (hx : evF F x = .s (.bool true)) (k : WO P T n l (putF d (evF F y) F) h K) : WO P T n (⟨d, none, .p (.pick x y z)⟩ :: l) F h K :=
  WO.pv (fun ho => by
    simp only [opds, opdsP, List.all_cons, List.all_nil, Bool.and_true, Bool.and_eq_true] at ho
    rw [pV_pick, evO_fr ho.1, evO_fr ho.2.1, evO_fr ho.2.2, hx]; rfl) k
theorem WO.pickF {y z : Operand} (hx : evF F x = .s (.bool false)) (k : WO P T n l (putF d (evF F z) F) h K) : WO P T n (⟨d, none, .p (.pick x y z)⟩ :: l) F h K :=
  WO.pv (fun ho => by
    simp only [opds, opdsP, List.all_cons, List.all_nil, Bool.and_true, Bool.and_eq_true] at ho
    rw [pV_pick, evO_fr ho.1, evO_fr ho.2.1, evO_fr ho.2.2, hx]; rfl) k
theorem WO.pickS {y z : Operand} {p : Prop} [Decidable p] (hx : evF F x = .s (.bool (decide p))) (k1 : p → WO P T n l (putF d (evF F y) F) h K) (k2 : ¬ p → WO P T n l (putF d (evF F z) F) h K) : WO P T n (⟨d, none, .p (.pick x y z)⟩ :: l) F h K := by
  by_cases hp : p
  · exact WO.pickT (by rw [hx, decide_eq_true hp]) (k1 hp)
  · exact WO.pickF (by rw [hx, decide_eq_false hp]) (k2 hp)
theorem WO.ext {x : Operand} {i : Nat} {vs : List AV} {v : AV} (hx : evF F x = .tp vs) (hv : vs[i]? = some v) (k : WO P T n l (putF d v F) h K) : WO P T n (⟨d, none, .p (.ext x i)⟩ :: l) F h K :=
  WO.pv (fun ho => by
    simp only [opds, opdsP, List.all_cons, List.all_nil, Bool.and_true] at ho
    simp only [pV, evO_fr ho, hx, hv]) k
theorem WO.lenS {x : Operand} {b v o m z : Nat} (hx : evF F x = .sl b v o m z) (k : WO P T n l (putF d (.s (.int .i64 m)) F) h K) : WO P T n (⟨d, none, .p (.lenS x)⟩ :: l) F h K :=
  WO.pv (fun ho => by
    simp only [opds, opdsP, List.all_cons, List.all_nil, Bool.and_true] at ho
    simp only [pV, evO_fr ho, hx]) k
theorem WO.lenN {x : Operand} (hx : evF F x = .s (.slice none 0 0)) (k : WO P T n l (putF d (.s (.int .i64 0)) F) h K) : WO P T n (⟨d, none, .p (.lenS x)⟩ :: l) F h K :=
  WO.pv (fun ho => by
    simp only [opds, opdsP, List.all_cons, List.all_nil, Bool.and_true] at ho
    simp only [pV, evO_fr ho, hx]) k
theorem WO.nilck {x : Operand} {b v o : Nat} (hx : evF F x = .pt b v o) (k : WO P T n l (putF d (.pt b v o) F) h K) : WO P T n (⟨d, none, .p (.nilck x)⟩ :: l) F h K :=
  WO.pv (fun ho => by
    simp only [opds, opdsP, List.all_cons, List.all_nil, Bool.and_true] at ho
    rw [pV_nilck, evO_fr ho, hx, nilV_p]) k
theorem WO.faddr {x : Operand} {off b v o : Nat} (hx : evF F x = .pt b v o) (k : WO P T n l (putF d (.pt b v (o + off)) F) h K) : WO P T n (⟨d, none, .p (.faddr off x)⟩ :: l) F h K :=
  WO.pv (fun ho => by
    simp only [opds, opdsP, List.all_cons, List.all_nil, Bool.and_true] at ho
    rw [pV_faddr, evO_fr ho, hx, faV_p]) k
theorem WO.fld {x : Operand} {agg : Bool} {off m : Nat} {vs : List AV} {v : AV} (hx : evF F x = .ag vs) (hm : Nat.ble (off + m) vs.length = true) (hv : oneOr agg ((vs.drop off).take m) = some v) (k : WO P T n l (putF d v F) h K) : WO P T n (⟨d, none, .p (.fld agg off m x)⟩ :: l) F h K :=
  WO.pv (fun ho => by
    simp only [opds, opdsP, List.all_cons, List.all_nil, Bool.and_true] at ho
    rw [pV_fld, evO_fr ho, hx, fldV_a, if_pos (Nat.le_of_ble_eq_true hm), hv]) k
theorem WO.call {f : FuncId} {args : List Operand} {R : AV → Heap → Prop} {vs : List AV} (hv : evFs F args = vs) (hf : FR P T f vs h R) (k : ∀ a H, R a H → WO P T n l (putF d a F) H K) : WO P T n (⟨d, none, .e (.call f args)⟩ :: l) F h K := by
  obtain ⟨a, H, ⟨J, r⟩, q⟩ := hf
  exact WO.op (fun ho => ⟨J, fun j hj => by
    simp only [opds, opdsE] at ho
    rw [opV_e, eV_call, evOs_fr ho, hv]; exact r j hj⟩) (k a H q)
end
end
end Go.Proofs.YtdgnddidibpilaaDoor.AS
end
