/- Of our own: an abstract machine beside the model, its soundness, and walks of the program in it. -/
import Derived.Test.YtdgnddidibpilaaDoorA1
import Derived.Lib.UnsafeStr
import Derived.Lib.ConvBytes
set_option linter.unusedSimpArgs false
set_option linter.unusedVariables false
section
set_option autoImplicit false
namespace Go.Proofs.YtdgnddidibpilaaDoor.AS
open Go Go.RowKit

section sound
variable {P : Program} {ρ : PM} {w : World} {a : Act} {tm : List AV}

theorem Addr_add (b o k : Nat) : (⟨b, o, none⟩ : Addr).add k = ⟨b, o + k, none⟩ := by
  unfold Addr.add
  split
  · rename_i h; subst h; rfl
  · rfl

theorem run_part_agg {t : TypeId} {d : TypeDesc} {i : TypeInfo} (hd : P.underlying t = some d) (hi : P.info? t = some i) (ha : isAggD d = true) (cs : Array Value) (off : Nat) :
    (part t cs off).run P w = .ok (.agg (cs.extract off (off + i.size))) w := by
  simp [part, run_isAgg hd, ha, sizeOf, typeInfo, hi]

theorem run_part_one {t : TypeId} {d : TypeDesc} (hd : P.underlying t = some d) (ha : isAggD d = false) (cs : Array Value) (off : Nat) {v : Value} (hv : cs[off]? = some v) :
    (part t cs off).run P w = .ok v w := by
  simp [part, run_isAgg hd, ha, hv]

theorem RVs_extract {l : List AV} {cs : Array Value} (h : RVs ρ w l cs.toList) (off n : Nat) : RVs ρ w ((l.drop off).take n) (cs.extract off (off + n)).toList := by
  have : (cs.extract off (off + n)).toList = (cs.toList.drop off).take n := by
    simp [Array.toList_extract, List.extract_eq_take_drop]
  rw [this]
  exact RVs_take (RVs_drop h _) _

theorem part_sound {t : TypeId} {d : TypeDesc} {i : TypeInfo} (hd : P.underlying t = some d) (hi : P.info? t = some i) {n : Nat} {l : List AV} {cs : Array Value} {off : Nat} {x : AV}
    (hn : n = if isAggD d then i.size else 1) (hl : RVs ρ w l cs.toList) (hoff : off + n ≤ l.length) (hx : oneOr (isAggD d) ((l.drop off).take n) = some x) :
    ∃ v, (part t cs off).run P w = .ok v w ∧ RV ρ w x v := by
  have hE := RVs_extract hl off n
  obtain ⟨h1, h2⟩ := oneOr_RV hx hE
  cases ha : isAggD d with
  | true =>
    rw [ha] at hn; simp at hn; subst hn
    exact ⟨_, run_part_agg hd hi ha cs off, by have h3 := h1 ha; rwa [Array.toArray_toList] at h3⟩
  | false =>
    rw [ha] at hn; simp at hn; subst hn
    obtain ⟨v, hv, hr⟩ := h2 ha
    refine ⟨v, run_part_one hd ha cs off ?_, hr⟩
    rw [← hv]
    simp [Array.toList_extract, List.extract_eq_take_drop, List.head?_take, List.head?_drop]

theorem loI_RV (hr : RVs ρ w tm a.tmps.toList) {d n : Int} {x : Option Operand} (h : loI tm d x = some n) :
    (x = none ∧ n = d) ∨ ∃ y k, x = some y ∧ a.eval y = .int k n := by
  cases x with
  | none => simp only [loI, Option.some.injEq] at h; exact .inl ⟨rfl, h.symm⟩
  | some y =>
    simp only [loI] at h
    obtain ⟨z, hz, hzn⟩ := Option.bind_eq_some_iff.1 h
    obtain ⟨k, hk⟩ := asI_RV hzn (evO_RV hr hz)
    exact .inr ⟨y, k, rfl, hk⟩

theorem run_sliceBound {k : IntKind} {n : Int} {y : Nat} {code : BoundsCode} (h0 : 0 ≤ n) (h1 : n ≤ y) : (Instr.sliceBound (.int k n) y code).run P w = .ok n.toNat w := by
  simp [Instr.sliceBound, asIntOf, h0, h1]

theorem run_sliceBounds3 (hr : RVs ρ w tm a.tmps.toList) {lo : Option Operand} {hi mx : Operand} {len cap n : Nat} {l h m : Int} (hl : loI tm 0 lo = some l) (hh : loI tm n (some hi) = some h) (hm : loI tm n (some mx) = some m) (h0 : 0 ≤ l) (h1 : l ≤ h) (h2 : h ≤ m) (h3 : m ≤ cap) :
    (Instr.sliceBounds true len cap (lo.map a.eval) (some (a.eval hi)) (some (a.eval mx))).run P w = .ok (l.toNat, h.toNat, m.toNat) w := by
  rcases loI_RV hr hh with ⟨h', _⟩ | ⟨y1, k1, hy1, hv1⟩
  · cases h'
  cases hy1
  rcases loI_RV hr hm with ⟨h', _⟩ | ⟨y2, k2, hy2, hv2⟩
  · cases h'
  cases hy2
  have e1 : ((m.toNat : Nat) : Int) = m := by omega
  have e2 : ((h.toNat : Nat) : Int) = h := by omega
  rcases loI_RV hr hl with ⟨rfl, rfl⟩ | ⟨y, k, rfl, hy⟩
  · simp [Instr.sliceBounds, hv1, hv2, run_sliceBound (by omega : 0 ≤ m) h3, run_sliceBound (by omega : 0 ≤ h) (show h ≤ (m.toNat : Int) by omega)]
  · simp [Instr.sliceBounds, hv1, hv2, hy, run_sliceBound (by omega : 0 ≤ m) h3, run_sliceBound (by omega : 0 ≤ h) (show h ≤ (m.toNat : Int) by omega), run_sliceBound h0 (show l ≤ (h.toNat : Int) by omega)]
theorem run_sliceBounds (hr : RVs ρ w tm a.tmps.toList) {lo hi : Option Operand} {len cap : Nat} {l h : Int} (hl : loI tm 0 lo = some l) (hh : loI tm len hi = some h) (h0 : 0 ≤ l) (h1 : l ≤ h) (h2 : h ≤ cap) (isS : Bool) :
    (Instr.sliceBounds isS len cap (lo.map a.eval) (hi.map a.eval) none).run P w = .ok (l.toNat, h.toNat, cap) w := by
  have hb : ∀ (code : BoundsCode), (Instr.sliceBound (.int .i64 0) 0 code).run P w = .ok 0 w := fun code => run_sliceBound (by omega) (by omega)
  rcases loI_RV hr hl with ⟨rfl, rfl⟩ | ⟨y, k, rfl, hy⟩ <;> rcases loI_RV hr hh with ⟨rfl, rfl⟩ | ⟨y', k', rfl, hy'⟩
  · simp [Instr.sliceBounds]
  · cases isS <;> simp [Instr.sliceBounds, hy', run_sliceBound (by omega : 0 ≤ h) h2]
  · have : (l.toNat : Int) = l := by omega
    cases isS <;> simp [Instr.sliceBounds, hy, run_sliceBound h0 (show l ≤ (len : Int) by omega)]
  · have e : ((h.toNat : Nat) : Int) = h := by omega
    cases isS <;> simp [Instr.sliceBounds, hy, hy', run_sliceBound (by omega : 0 ≤ h) h2, run_sliceBound h0 (show l ≤ (h.toNat : Int) by omega)]

theorem equal_eq (t : TypeId) (x y : Value) : Op.equal t x y = Op.equalIn (9999 + 1) t x y := rfl

theorem run_equal_nil {t : TypeId} {d : TypeDesc} (hd : P.underlying t = some d) (v : Value) (neg : Bool) (b : Bool)
    (hk : (∃ e, d = .slice e) ∧ (∃ ad n c, v = .slice ad n c ∧ b = ad.isNone) ∨ (∃ e, d = .pointer e) ∧ (∃ ad, v = .pointer ad ∧ b = ad.isNone) ∨ (∃ x y z, d = .func x y z) ∧ ((v = .nilFunc ∧ b = true) ∨ (∃ f x y, v = .func f x y) ∧ b = false)) (n : Value)
    (hn : ((∃ e, d = .slice e) ∧ n = .slice none 0 0) ∨ ((∃ e, d = .pointer e) ∧ n = .pointer none) ∨ ((∃ x y z, d = .func x y z) ∧ n = .nilFunc)) :
    (Op.equal t v n).run P w = .ok b w ∧ (Op.equal t n v).run P w = .ok b w := by
  rcases hk with ⟨⟨e, rfl⟩, ad, m, c, rfl, rfl⟩ | ⟨⟨e, rfl⟩, ad, rfl, rfl⟩ | ⟨⟨x, y, z, rfl⟩, (⟨rfl, rfl⟩ | ⟨⟨f, x', y', rfl⟩, rfl⟩)⟩ <;>
    rcases hn with ⟨⟨e', he⟩, rfl⟩ | ⟨⟨e', he⟩, rfl⟩ | ⟨⟨p, q, r, he⟩, rfl⟩ <;> cases he
  · rw [equal_eq, equal_eq]
    unfold Op.equalIn
    cases ad <;> simp [run_underlying hd]
  · rw [equal_eq, equal_eq]
    unfold Op.equalIn
    cases ad <;> simp [run_underlying hd]
  · rw [equal_eq]
    unfold Op.equalIn
    simp [run_underlying hd]
  · rw [equal_eq, equal_eq]
    unfold Op.equalIn
    simp [run_underlying hd]

/-- An operation that needs no world, or draws nothing. -/
theorem pV_sound (o : Oper) {q : POp} (hp : prepOp0 P o = some (.p q)) {x : AV} (hv : pV P tm q = some x) (hr : RVs ρ w tm a.tmps.toList) :
    ∃ v, (execOp a.eval o).run P w = .ok (.value v) w ∧ RV ρ w x v := by
  have sc : prepSc o = some (.p q) → (∀ cs b, o.op ≠ .select cs b) → ∃ v, (execOp a.eval o).run P w = .ok (.value v) w ∧ RV ρ w x v := by
    intro h hs
    simp only [prepSc, Option.some.injEq, AOp.p.injEq] at h
    subst h
    exact scV_sound hr o hs hv
  obtain ⟨dst, op, ty, pos, after, guard⟩ := o
  unfold prepOp0 at hp
  cases op with
  | move y =>
    simp only [Option.some.injEq, AOp.p.injEq] at hp; subst hp
    exact ⟨_, rfl, evO_RV hr hv⟩
  | assign y =>
    simp only [Option.some.injEq, AOp.p.injEq] at hp; subst hp
    exact ⟨_, rfl, evO_RV hr hv⟩
  | pick c y z =>
    simp only [Option.some.injEq, AOp.p.injEq] at hp; subst hp
    simp only [pV] at hv
    split at hv
    · rename_i t hc
      have h1 : a.eval c = .bool t := evO_RV hr hc
      refine ⟨if t then a.eval y else a.eval z, by simp [execOp, h1, asBool], ?_⟩
      cases t with
      | true => simp at hv ⊢; exact evO_RV hr hv
      | false => simp at hv ⊢; exact evO_RV hr hv
    · cases hv
  | build t parts =>
    simp only at hp
    split at hp
    · rename_i i hi
      split at hp
      · rename_i z hz
        have fin : ∀ (place : Nat → Option (Nat × Nat)) (l : List (Nat × Nat × Operand)), prepParts place parts.toList = some l → q = .build z.cells.toList l →
            ∃ out, Instr.fill place z.cells ((parts.map fun (x : Nat × Operand) => (x.1, a.eval x.2)).toList) = some out ∧ RV ρ w x (.agg out) := by
          intro place l hl hq
          subst hq
          simp only [pV] at hv
          split at hv
          · rename_i ys hys
            simp only [Option.map_eq_some_iff] at hv
            obtain ⟨r, hr1, rfl⟩ := hv
            obtain ⟨out, ho, hro⟩ := fill_sound place hr hl hys hr1 (RVs_s z.cells.toList)
            exact ⟨out, by simpa using ho, out, rfl, hro⟩
          · cases hv
        split at hp
        · rename_i fs hd
          split at hp
          · rename_i places hpl
            simp only [Option.map_eq_some_iff, AOp.p.injEq] at hp
            obtain ⟨l, hl, hq⟩ := hp
            obtain ⟨out, ho, hro⟩ := fin _ l hl hq.symm
            refine ⟨_, ?_, hro⟩
            have := run_build w t (parts.map fun (x : Nat × Operand) => (x.1, a.eval x.2)) out (P := P) (by simp only [Program.built, hi, hd, hz, hpl]; exact ho)
            simp [execOp, this]
          · cases hp
        · rename_i n el hd
          split at hp
          · rename_i j hj
            simp only [Option.map_eq_some_iff, AOp.p.injEq] at hp
            obtain ⟨l, hl, hq⟩ := hp
            obtain ⟨out, ho, hro⟩ := fin _ l hl hq.symm
            refine ⟨_, ?_, hro⟩
            have := run_build w t (parts.map fun (x : Nat × Operand) => (x.1, a.eval x.2)) out (P := P) (by simp only [Program.built, hi, hd, hz, hj]; exact ho)
            simp [execOp, this]
          · cases hp
        · cases hp
      · cases hp
    · cases hp
  | nilCheck y =>
    simp only [Option.some.injEq, AOp.p.injEq] at hp; subst hp
    simp only [pV] at hv
    split at hv
    · rename_i b v o hy
      have h1 := evO_RV hr hy
      obtain ⟨p, h2, h3⟩ := h1
      cases hv
      exact ⟨_, by simp [execOp, h3], p, h2, rfl⟩
    · rename_i f u v hy
      have h1 := evO_RV hr hy
      obtain ⟨xs, ys, h2, h3, h4⟩ := h1
      cases hv
      exact ⟨_, by simp [execOp, h2], xs, ys, rfl, h3, h4⟩
    · rename_i f u v hy
      have h1 : a.eval y = .func (.func f) u v := evO_RV hr hy
      cases hv
      exact ⟨_, by simp [execOp, h1], rfl⟩
    · cases hv
  | unOp op t y => exact sc hp (by simp)
  | makeFunc f u v =>
    simp only [Option.some.injEq, AOp.p.injEq] at hp; subst hp
    simp only [pV] at hv
    split at hv
    · rename_i b c hb hc
      cases hv
      exact ⟨_, rfl, _, _, rfl, by simpa using evOs_RVs hr hb, by simpa using evOs_RVs hr hc⟩
    · cases hv
  | extract y i =>
    simp only [Option.some.injEq, AOp.p.injEq] at hp; subst hp
    simp only [pV] at hv
    split at hv
    · rename_i l hy
      obtain ⟨xs, h1, h2⟩ := evO_RV hr hy
      obtain ⟨v, hv1, hv2⟩ := RVs_get h2 hv
      rw [Array.getElem?_toList] at hv1
      exact ⟨v, by simp [execOp, h1, Instr.extract, hv1], hv2⟩
    · rename_i vs hy
      have h1 : a.eval y = .tuple vs := evO_RV hr hy
      simp only [Option.map_eq_some_iff] at hv
      obtain ⟨v, hv1, rfl⟩ := hv
      exact ⟨v, by simp [execOp, h1, Instr.extract, hv1], rfl⟩
    · cases hv
  | convert src dst y =>
    simp only at hp
    split at hp
    · (repeat' split at hp) <;> simp at hp
    · (repeat' split at hp) <;> simp at hp
    · exact sc hp (by simp)
  | binOp op t y z yt =>
    simp only at hp
    split at hp
    · rename_i d hd
      split at hp
      · have key : ∀ (neg : Bool), op = (if neg then .neq else .eql) → prepEq neg d y z = some (.p q) →
            ∃ v, (execOp a.eval ⟨dst, .binOp op t y z yt, ty, pos, after, guard⟩).run P w = .ok (.value v) w ∧ RV ρ w x v := by
          intro neg ho hq
          have fin : ∀ (k : Nat) (u n : Operand), nilK d n = some k → q = .eqnil neg k u → (y = u ∧ z = n ∨ y = n ∧ z = u) →
              ∃ v, (execOp a.eval ⟨dst, .binOp op t y z yt, ty, pos, after, guard⟩).run P w = .ok (.value v) w ∧ RV ρ w x v := by
            intro k u n hn hqq hyz
            subst hqq
            have hne : ∀ u n : Value, (∃ (kd : Nat), (kd = 0 ∧ ∃ ad m c, u = .slice ad m c) ∨ (kd = 1 ∧ ∃ ad, u = .pointer ad) ∨ (kd = 2 ∧ (u = .nilFunc ∨ ∃ f x y, u = .func f x y))) → (n = .slice none 0 0 ∨ n = .pointer none ∨ n = .nilFunc) →
                ∀ (b : Bool) (ox oy : Operand) (vx vy : Value), (vx = u ∧ vy = n ∨ vx = n ∧ vy = u) → (Op.equal t vx vy).run P w = .ok b w →
                (do eqGuard op t ox oy vx vy; binOp op t vx vy : Sem Value).run P w = .ok (.bool (b != neg)) w := by
              intro u n hu hn b ox oy vx vy hxy he
              subst ho
              obtain ⟨kd, ⟨_, ad, m, c, rfl⟩ | ⟨_, ad, rfl⟩ | ⟨_, (rfl | ⟨f, x', y', rfl⟩)⟩⟩ := hu <;> rcases hn with rfl | rfl | rfl <;> rcases hxy with ⟨rfl, rfl⟩ | ⟨rfl, rfl⟩ <;> cases neg <;> simp [eqGuard, binOp, he]
            have fin2 : ∀ (b : Bool) (n' : Value), a.eval n = n' → (n' = .slice none 0 0 ∨ n' = .pointer none ∨ n' = .nilFunc) →
                ((Op.equal t (a.eval u) n').run P w = .ok b w ∧ (Op.equal t n' (a.eval u)).run P w = .ok b w) →
                (∃ (kd : Nat), (kd = 0 ∧ ∃ ad m c, a.eval u = .slice ad m c) ∨ (kd = 1 ∧ ∃ ad, a.eval u = .pointer ad) ∨ (kd = 2 ∧ (a.eval u = .nilFunc ∨ ∃ f x y, a.eval u = .func f x y))) →
                x = .s (.bool (b != neg)) → ∃ v, (execOp a.eval ⟨dst, .binOp op t y z yt, ty, pos, after, guard⟩).run P w = .ok (.value v) w ∧ RV ρ w x v := by
              intro b n' hn1 hn2 he hu hx
              refine ⟨.bool (b != neg), ?_, by rw [hx]; rfl⟩
              rcases hyz with ⟨rfl, rfl⟩ | ⟨rfl, rfl⟩
              · have := hne _ _ hu hn2 b y z (a.eval y) n' (.inl ⟨rfl, rfl⟩) he.1
                subst hn1
                simp only [execOp]
                simp only [Sem.run_bind, this]
                rfl
              · have := hne _ _ hu hn2 b y z n' (a.eval z) (.inr ⟨rfl, rfl⟩) he.2
                subst hn1
                simp only [execOp]
                simp only [Sem.run_bind, this]
                rfl
            have nk : (∃ e, d = .slice e) ∧ a.eval n = .slice none 0 0 ∧ k = 0 ∨ (∃ e, d = .pointer e) ∧ a.eval n = .pointer none ∧ k = 1 ∨ (∃ x y z, d = .func x y z) ∧ a.eval n = .nilFunc ∧ k = 2 := by
              unfold nilK at hn
              split at hn
              · cases hn; exact .inl ⟨⟨_, rfl⟩, rfl, rfl⟩
              · cases hn; exact .inr (.inl ⟨⟨_, rfl⟩, rfl, rfl⟩)
              · cases hn; exact .inr (.inr ⟨⟨_, _, _, rfl⟩, rfl, rfl⟩)
              · cases hn
            simp only [pV] at hv
            rcases nk with ⟨⟨e, rfl⟩, h1, rfl⟩ | ⟨⟨e, rfl⟩, h1, rfl⟩ | ⟨⟨x1, x2, x3, rfl⟩, h1, rfl⟩
            · split at hv
              · rename_i b v o n z h2
                cases hv
                obtain ⟨p, cap, ad, _, h3, _⟩ := evO_RV hr h2
                exact fin2 false _ h1 (.inl rfl) (run_equal_nil hd _ false false (.inl ⟨⟨_, rfl⟩, _, _, _, h3, rfl⟩) _ (.inl ⟨⟨_, rfl⟩, rfl⟩)) ⟨0, .inl ⟨rfl, _, _, _, h3⟩⟩ (by simp)
              · rename_i m c _ h2
                cases hv
                have h3 : a.eval u = .slice none m c := evO_RV hr h2
                exact fin2 true _ h1 (.inl rfl) (run_equal_nil hd _ false true (.inl ⟨⟨_, rfl⟩, _, _, _, h3, rfl⟩) _ (.inl ⟨⟨_, rfl⟩, rfl⟩)) ⟨0, .inl ⟨rfl, _, _, _, h3⟩⟩ (by simp)
              all_goals first | (simp at hv; done) | (exfalso; simp_all; done)
            · split at hv
              case h_3 =>
                rename_i b v o _ h2
                cases hv
                obtain ⟨p, _, h3⟩ := evO_RV hr h2
                exact fin2 false _ h1 (.inr (.inl rfl)) (run_equal_nil hd _ false false (.inr (.inl ⟨⟨_, rfl⟩, _, h3, rfl⟩)) _ (.inr (.inl ⟨⟨_, rfl⟩, rfl⟩))) ⟨1, .inr (.inl ⟨rfl, _, h3⟩)⟩ (by simp)
              case h_4 =>
                rename_i _ h2
                cases hv
                have h3 : a.eval u = .pointer none := evO_RV hr h2
                exact fin2 true _ h1 (.inr (.inl rfl)) (run_equal_nil hd _ false true (.inr (.inl ⟨⟨_, rfl⟩, _, h3, rfl⟩)) _ (.inr (.inl ⟨⟨_, rfl⟩, rfl⟩))) ⟨1, .inr (.inl ⟨rfl, _, h3⟩)⟩ (by simp)
              all_goals first | (simp at hv; done) | (exfalso; simp_all; done)
            · split at hv
              case h_5 =>
                rename_i f fx fy _ h2
                cases hv
                obtain ⟨xs, ys, h3, _⟩ := evO_RV hr h2
                exact fin2 false _ h1 (.inr (.inr rfl)) (run_equal_nil hd _ false false (.inr (.inr ⟨⟨_, _, _, rfl⟩, .inr ⟨⟨_, _, _, h3⟩, rfl⟩⟩)) _ (.inr (.inr ⟨⟨_, _, _, rfl⟩, rfl⟩))) ⟨2, .inr (.inr ⟨rfl, .inr ⟨_, _, _, h3⟩⟩)⟩ (by simp)
              case h_6 =>
                rename_i f fx fy _ h2
                cases hv
                have h3 : a.eval u = .func f fx fy := evO_RV hr h2
                exact fin2 false _ h1 (.inr (.inr rfl)) (run_equal_nil hd _ false false (.inr (.inr ⟨⟨_, _, _, rfl⟩, .inr ⟨⟨_, _, _, h3⟩, rfl⟩⟩)) _ (.inr (.inr ⟨⟨_, _, _, rfl⟩, rfl⟩))) ⟨2, .inr (.inr ⟨rfl, .inr ⟨_, _, _, h3⟩⟩)⟩ (by simp)
              case h_7 =>
                rename_i _ h2
                cases hv
                have h3 : a.eval u = .nilFunc := evO_RV hr h2
                exact fin2 true _ h1 (.inr (.inr rfl)) (run_equal_nil hd _ false true (.inr (.inr ⟨⟨_, _, _, rfl⟩, .inl ⟨h3, rfl⟩⟩)) _ (.inr (.inr ⟨⟨_, _, _, rfl⟩, rfl⟩))) ⟨2, .inr (.inr ⟨rfl, .inl h3⟩)⟩ (by simp)
              all_goals first | (simp at hv; done) | (exfalso; simp_all; done)
          unfold prepEq at hq
          split at hq
          · rename_i k hk
            simp only [Option.some.injEq, AOp.p.injEq] at hq
            exact fin k y z hk hq.symm (.inl ⟨rfl, rfl⟩)
          · split at hq
            · rename_i k hk
              simp only [Option.some.injEq, AOp.p.injEq] at hq
              exact fin k z y hk hq.symm (.inr ⟨rfl, rfl⟩)
            · cases hq
        split at hp
        · exact key false rfl hp
        · exact key true rfl hp
        · cases hp
      · exact sc hp (by simp)
    · cases hp
  | slice t y lo hi mx =>
    simp only at hp
    split at hp
    · exact sc hp (by simp)
    · rename_i e hd
      split at hp
      · rename_i i hi'
        simp only [Option.some.injEq, AOp.p.injEq] at hp; subst hp
        simp only [pV] at hv
        split at hv
        · rename_i b v o n z hy
          split at hv
          · rename_i l h hl hh
            split at hv
            · rename_i hb
              cases hv
              obtain ⟨p, cap, ad, ⟨h1, hps⟩, h2, h3, h4, h5⟩ := evO_RV hr hy
              obtain ⟨hzs, hb0, hb1, hb2⟩ := hb
              have hsb := run_sliceBounds (P := P) (w := w) hr hl hh hb0 hb1 (by omega : h ≤ (cap : Int)) true
              refine ⟨.slice (if cap = l.toNat then some ad else (some ad).map (·.add (l.toNat * i.size))) (h.toNat - l.toNat) (cap - l.toNat), ?_, ?_⟩
              · simp [execOp, Instr.sliceAt, Instr.slice, run_underlying hd, h2, hsb, sizeOf, typeInfo, hi']
              · by_cases hc : cap = l.toNat
                · rw [if_pos hc]
                  refine ⟨p, _, ad, ⟨h1, hps.trans hzs⟩, rfl, by omega, .inl ⟨by omega, by rcases h4 with h4 | rfl; exact h4.2; rfl⟩, fun hrw => ?_⟩
                  obtain ⟨h6, m, h7, h8⟩ := h5 hrw
                  refine ⟨by omega, m, h7, ?_⟩
                  have hsz : p.sz = i.size := hps.trans hzs
                  rw [hsz] at h8 ⊢
                  have : cap - l.toNat = 0 := by omega
                  rw [this, ← hc]
                  omega
                · rw [if_neg hc]
                  rcases h4 with h4 | rfl
                  · have := h4.1; omega
                  · simp only [Option.map_some, Addr_add]
                    refine ⟨p, _, _, ⟨h1, hps.trans hzs⟩, rfl, by omega, .inr (by rw [Nat.add_assoc]), fun hrw => ?_⟩
                    obtain ⟨h6, m, h7, h8⟩ := h5 hrw
                    refine ⟨by omega, m, h7, ?_⟩
                    have hsz : p.sz = i.size := hps.trans hzs
                    rw [hsz] at h8 ⊢
                    have e1 : cap * i.size = l.toNat * i.size + (cap - l.toNat) * i.size := by rw [← Nat.add_mul]; congr 1; omega
                    omega
            · cases hv
          · cases hv
        · rename_i hy
          split at hv
          · rename_i l h hl hh
            split at hv
            · rename_i hb
              obtain ⟨rfl, rfl⟩ := hb
              cases hv
              have h1 : a.eval y = .slice none 0 0 := evO_RV hr hy
              have hsb := run_sliceBounds (P := P) (w := w) (len := 0) (cap := 0) hr hl hh (by omega) (by omega) (by omega) true
              refine ⟨.slice none 0 0, ?_, rfl⟩
              simp [execOp, Instr.sliceAt, Instr.slice, run_underlying hd, h1, hsb, sizeOf, typeInfo, hi']
            · cases hv
          · cases hv
        · cases hv
      · cases hp
    · rename_i mx e hd
      split at hp
      · rename_i hi i hi'
        simp only [Option.some.injEq, AOp.p.injEq] at hp; subst hp
        simp only [pV] at hv
        split at hv
        · rename_i b v o n z hy
          split at hv
          · rename_i l h m hl hh hmm
            split at hv
            · rename_i hb
              cases hv
              obtain ⟨p, cap, ad, ⟨h1, hps⟩, h2, h3, h4, h5⟩ := evO_RV hr hy
              obtain ⟨hzs, hb0, hb1, hb2, hb3⟩ := hb
              have hsb := run_sliceBounds3 (P := P) (w := w) (len := n) hr hl hh hmm hb0 hb1 hb2 (by omega : m ≤ (cap : Int))
              refine ⟨.slice (if m.toNat = l.toNat then some ad else (some ad).map (·.add (l.toNat * i.size))) (h.toNat - l.toNat) (m.toNat - l.toNat), ?_, ?_⟩
              · simp [execOp, Instr.sliceAt, Instr.slice, run_underlying hd, h2, hsb, sizeOf, typeInfo, hi']
              · by_cases hc : m.toNat = l.toNat
                · rw [if_pos hc]
                  refine ⟨p, _, ad, ⟨h1, hps.trans hzs⟩, rfl, by omega, .inl ⟨by omega, by rcases h4 with h4 | rfl; exact h4.2; rfl⟩, fun hrw => ?_⟩
                  obtain ⟨h6, mm, h7, h8⟩ := h5 hrw
                  refine ⟨by omega, mm, h7, ?_⟩
                  have hsz : p.sz = i.size := hps.trans hzs
                  rw [hsz] at h8 ⊢
                  have : m.toNat - l.toNat = 0 := by omega
                  have e2 : l.toNat * i.size ≤ cap * i.size := Nat.mul_le_mul_right _ (by omega)
                  rw [this]
                  omega
                · rw [if_neg hc]
                  rcases h4 with h4 | rfl
                  · have := h4.1; omega
                  · simp only [Option.map_some, Addr_add]
                    refine ⟨p, _, _, ⟨h1, hps.trans hzs⟩, rfl, by omega, .inr (by rw [Nat.add_assoc]), fun hrw => ?_⟩
                    obtain ⟨h6, mm, h7, h8⟩ := h5 hrw
                    refine ⟨by omega, mm, h7, ?_⟩
                    have hsz : p.sz = i.size := hps.trans hzs
                    rw [hsz] at h8 ⊢
                    have e1 : m.toNat * i.size = l.toNat * i.size + (m.toNat - l.toNat) * i.size := by rw [← Nat.add_mul]; congr 1; omega
                    have e2 : m.toNat * i.size ≤ cap * i.size := Nat.mul_le_mul_right _ (by omega)
                    omega
            · cases hv
          · cases hv
        · cases hv
      · cases hp
    · cases hp
  | fieldAddr s y f =>
    simp only at hp
    split at hp
    · rename_i fs hd
      split at hp
      · rename_i fl hf
        split at hp
        · rename_i i hi
          split at hp
          · cases hp
          · rename_i hz
            simp only [Option.some.injEq, AOp.p.injEq] at hp; subst hp
            simp only [pV] at hv
            split at hv
            · rename_i b v o hy
              cases hv
              obtain ⟨p, h1, h2⟩ := evO_RV hr hy
              refine ⟨_, ?_, p, h1, rfl⟩
              simp [execOp, Instr.fieldAt, run_underlying hd, hf, h2, Instr.sureAddr, fieldPlace, sizeOf, typeInfo, hi, hz, Addr_add, Nat.add_assoc]
            · cases hv
        · cases hp
      · cases hp
    · cases hp
  | field t y f =>
    simp only at hp
    split at hp
    · rename_i fs hd
      split at hp
      · rename_i fl hf
        split at hp
        · rename_i d i hd' hi
          have hq : ∃ n, q = .fld (isAggD d) fl.offset n y ∧ n = (if isAggD d then i.size else 1) := by
            split at hp
            · rename_i ha; simp only [Option.some.injEq, AOp.p.injEq] at hp; exact ⟨_, by rw [← hp, ha], by rw [ha]; rfl⟩
            · rename_i ha; simp only [Option.some.injEq, AOp.p.injEq] at hp; exact ⟨1, by rw [← hp]; simp [ha], by simp [ha]⟩
          obtain ⟨n, rfl, hn⟩ := hq
          simp only [pV] at hv
          split at hv
          · rename_i l hl
            split at hv
            · rename_i hoff
              obtain ⟨z, hz, hzl⟩ := Option.bind_eq_some_iff.1 hl
              obtain ⟨cs, hcs, hrs⟩ := aggOf_RV hzl (evO_RV hr hz)
              obtain ⟨v, hv1, hv2⟩ := part_sound hd' hi hn hrs hoff hv
              exact ⟨v, by simp [execOp, Instr.field, run_underlying hd, hf, hcs, asAgg, hv1], hv2⟩
            · exact absurd hv (by simp)
          · cases hv
        · cases hp
      · cases hp
    · cases hp
  | indexAddr t y i =>
    simp only at hp
    split at hp
    · rename_i e hd
      split at hp
      · rename_i k hk
        simp only [Option.some.injEq, AOp.p.injEq] at hp; subst hp
        simp only [pV] at hv
        split at hv
        · rename_i b v o n sz' j hy hj
          split at hv
          · rename_i hb
            cases hv
            obtain ⟨p, cap, ad, ⟨h1, _⟩, h2, h3, h4, h5⟩ := evO_RV hr hy
            obtain ⟨z, hz, hzj⟩ := Option.bind_eq_some_iff.1 hj
            obtain ⟨ik, hik⟩ := asI_RV hzj (evO_RV hr hz)
            rcases h4 with h4 | rfl
            · have := h4.1; omega
            · refine ⟨_, ?_, p, h1, rfl⟩
              simp [execOp, Instr.indexAt, run_underlying hd, h2, hik, asIntOf, hb.1, hb.2, sizeOf, typeInfo, hk, Addr_add, Nat.add_assoc]
          · cases hv
        · cases hv
      · cases hp
    · rename_i n e hd
      split at hp
      · rename_i k hk
        simp only [Option.some.injEq, AOp.p.injEq] at hp; subst hp
        simp only [pV] at hv
        split at hv
        · rename_i b v o j hy hj
          split at hv
          · rename_i hb
            cases hv
            obtain ⟨p, h1, h2⟩ := evO_RV hr hy
            obtain ⟨z, hz, hzj⟩ := Option.bind_eq_some_iff.1 hj
            obtain ⟨ik, hik⟩ := asI_RV hzj (evO_RV hr hz)
            refine ⟨_, ?_, p, h1, rfl⟩
            simp [execOp, Instr.indexAt, run_underlying hd, h2, hik, asIntOf, hb.1, hb.2, sizeOf, typeInfo, hk, Addr_add, Nat.add_assoc, Instr.sureAddr]
          · cases hv
        · rename_i g o j hy hj
          split at hv
          · rename_i hb
            simp only [Option.some.injEq] at hv
            subst hv
            have h2 : a.eval y = .pointer (some ⟨g, o, none⟩) := evO_RV hr hy
            obtain ⟨z, hz, hzj⟩ := Option.bind_eq_some_iff.1 hj
            obtain ⟨ik, hik⟩ := asI_RV hzj (evO_RV hr hz)
            refine ⟨_, ?_, rfl⟩
            simp [execOp, Instr.indexAt, run_underlying hd, h2, hik, asIntOf, hb.1, hb.2, sizeOf, typeInfo, hk, Addr_add, Nat.add_assoc, Instr.sureAddr]
          · exact absurd hv (by simp)
        · cases hv
      · cases hp
    · cases hp
  | index t y i =>
    simp only at hp
    split at hp
    · exact sc hp (by simp)
    · rename_i n e hd
      split at hp
      · rename_i d k hd' hk
        have hq : ∃ sz, q = .idxA n (isAggD d) sz y i ∧ sz = (if isAggD d then k.size else 1) ∧ sz = k.size := by
          split at hp
          · rename_i ha; simp only [Option.some.injEq, AOp.p.injEq] at hp; exact ⟨_, by rw [← hp, ha], by rw [ha]; rfl, rfl⟩
          · rename_i ha
            split at hp
            · rename_i h1; simp only [Option.some.injEq, AOp.p.injEq] at hp; exact ⟨1, by rw [← hp]; simp [ha], by simp [ha], h1.symm⟩
            · cases hp
        obtain ⟨sz, rfl, hsz, hsk⟩ := hq
        simp only [pV] at hv
        split at hv
        · rename_i l j hl hj
          split at hv
          · rename_i hb
            obtain ⟨z, hz, hzl⟩ := Option.bind_eq_some_iff.1 hl
            obtain ⟨cs, hcs, hrs⟩ := aggOf_RV hzl (evO_RV hr hz)
            obtain ⟨u, hu, huj⟩ := Option.bind_eq_some_iff.1 hj
            obtain ⟨ik, hik⟩ := asI_RV huj (evO_RV hr hu)
            obtain ⟨v, hv1, hv2⟩ := part_sound hd' hk hsz hrs hb.2.2 hv
            rw [hsk] at hv1
            exact ⟨v, by simp [execOp, Instr.index, run_underlying hd, hcs, hik, asIntOf, hb.1, hb.2.1, sizeOf, typeInfo, hk, hv1], hv2⟩
          · exact absurd hv (by simp)
        · cases hv
      · cases hp
    · cases hp
  | call c =>
    obtain ⟨callee, args, argTypes⟩ := c
    cases callee with
    | invoke _ _ => simp [prepCall] at hp
    | value f => cases f <;> simp only [prepCall] at hp <;> (repeat' split at hp) <;> simp at hp
    | builtin bi =>
      cases bi <;> simp only [prepCall] at hp <;> try (simp at hp; done)
      case len =>
        split at hp
        · rename_i t y ht hy
          have hargs : args = #[y] := by cases args; simp_all
          subst hargs
          split at hp
          · rename_i e hd
            simp only [Option.some.injEq, AOp.p.injEq] at hp; subst hp
            simp only [pV] at hv
            split at hv
            · rename_i b v o n z hyv
              cases hv
              obtain ⟨p, cap, ad, _, h2, _⟩ := evO_RV hr hyv
              exact ⟨_, by simp [execOp, resolve, invoke, builtin, Builtin.len_, ht, h2, run_underlying hd, goInt], rfl⟩
            · rename_i hyv
              cases hv
              have h2 : a.eval y = .slice none 0 0 := evO_RV hr hyv
              exact ⟨_, by simp [execOp, resolve, invoke, builtin, Builtin.len_, ht, h2, run_underlying hd, goInt], rfl⟩
            · cases hv
          · exact sc hp (by simp)
          · rename_i n e hd
            simp only [Option.some.injEq, AOp.p.injEq] at hp; subst hp
            simp only [pV, evO, Option.some.injEq] at hv
            subst hv
            exact ⟨_, by simp [execOp, resolve, invoke, builtin, Builtin.len_, ht, run_underlying hd, goInt], rfl⟩
          · cases hp
        · cases hp
      case cap =>
        split at hp
        · rename_i t y ht hy
          have hargs : args = #[y] := by cases args; simp_all
          subst hargs
          split at hp
          · rename_i e hd
            simp only [Option.some.injEq, AOp.p.injEq] at hp; subst hp
            simp only [pV] at hv
            split at hv
            · rename_i hyv
              cases hv
              have h2 : a.eval y = .slice none 0 0 := evO_RV hr hyv
              exact ⟨_, by simp [execOp, resolve, invoke, builtin, Builtin.cap_, ht, h2, run_underlying hd, goInt], rfl⟩
            · cases hv
          · cases hp
        · cases hp
      case unsafeSliceData =>
        split at hp
        · rename_i t y ht hy
          have hargs : args = #[y] := by cases args; simp_all
          subst hargs
          split at hp
          · rename_i e hd
            simp only [Option.some.injEq, AOp.p.injEq] at hp; subst hp
            simp only [pV] at hv
            split at hv
            · rename_i b v o n z hyv
              split at hv
              · rename_i h0
                cases hv
                obtain ⟨p, cap, ad, ⟨h1, _⟩, h2, h3, h4, h5⟩ := evO_RV hr hyv
                rcases h4 with h4 | rfl
                · have := h4.1; omega
                · refine ⟨_, ?_, p, h1, rfl⟩
                  have := Go.Lib.run_unsafeSliceData_row (P := P) w argTypes ty ⟨p.blk, p.off + o, none⟩ n cap (by omega)
                  simp [execOp, resolve, invoke, builtin, h2, this]
              · cases hv
            · rename_i hyv
              cases hv
              have h2 : a.eval y = .slice none 0 0 := evO_RV hr hyv
              have := Go.Lib.run_unsafeSliceData_nil (P := P) w argTypes ty 0 0
              exact ⟨_, by simp [execOp, resolve, invoke, builtin, h2, this], rfl⟩
            · cases hv
          · cases hp
        · cases hp
      case unsafeString => (repeat' split at hp) <;> simp at hp
      case min => exact sc hp (by simp)
      case max => exact sc hp (by simp)
      case append => (repeat' split at hp) <;> simp at hp
  | alloc e => simp only at hp; (repeat' split at hp) <;> simp at hp
  | box e y => simp only at hp; (repeat' split at hp) <;> simp at hp
  | buildSlice t len parts => simp only at hp; (repeat' split at hp) <;> simp at hp
  | load t y => simp only at hp; (repeat' split at hp) <;> simp at hp
  | store t y z => simp only at hp; (repeat' split at hp) <;> simp at hp
  | makeSlice t l c => simp only at hp; (repeat' split at hp) <;> simp at hp
  | _ => simp at hp

end sound
end Go.Proofs.YtdgnddidibpilaaDoor.AS
end
section
set_option autoImplicit false
namespace Go.Proofs.YtdgnddidibpilaaDoor.AS
open Go Go.RowKit

theorem exists_list {Q : Nat → Value → Prop} : ∀ n, (∀ j, j < n → ∃ v, Q j v) → ∃ vs : List Value, vs.length = n ∧ ∀ j v, vs[j]? = some v → Q j v
  | 0, _ => ⟨[], rfl, fun j v h => by simp at h⟩
  | n + 1, h => by
    obtain ⟨vs, hl, hq⟩ := exists_list n fun j hj => h j (by omega)
    obtain ⟨v, hv⟩ := h n (by omega)
    refine ⟨vs ++ [v], by simp [hl], fun j u hu => ?_⟩
    rcases Nat.lt_or_ge j n with hj | hj
    · rw [List.getElem?_append_left (by omega)] at hu
      exact hq j u hu
    · have hjn : j = n := by
        have := (List.getElem?_eq_some_iff.1 hu).1
        simp [hl] at this
        omega
      subst hjn
      rw [List.getElem?_append_right (by omega), hl, Nat.sub_self] at hu
      simp at hu
      subst hu
      exact hv

section sound
variable {P : Program} {base : Nat} {W : World} {ρ : PM} {w : World} {a : Act} {tm : List AV} {h : Heap}

theorem rdn_RVs (H : HR P base W ρ h w) {b ver off n : Nat} {l : List AV} (hl : rdn h b ver off n = some l) {p : Place} (hp : ρ b ver = some p) :
    l.length = n ∧ ∃ vs : List Value, vs.length = n ∧ RVs ρ w l vs ∧ ∀ j v, vs[j]? = some v → w.cell? ⟨p.blk, p.off + off + j, none⟩ = some v := by
  unfold rdn at hl
  split at hl
  · rename_i k hk
    split at hl
    · rename_i hc
      obtain ⟨rfl, hlen⟩ := hc
      cases hl
      obtain ⟨p', h1, _, _, _, _, _, h7, _⟩ := H.blk b k hk
      rw [hp] at h1; cases h1
      have hll : ((k.cells.drop off).take n).length = n := by simp; omega
      refine ⟨hll, ?_⟩
      obtain ⟨vs, hv1, hv2⟩ := exists_list (Q := fun j v => w.cell? ⟨p.blk, p.off + off + j, none⟩ = some v ∧ ∀ x, k.cells[off + j]? = some x → RV ρ w x v) n (by
        intro j hj
        have hlt : off + j < k.cells.length := by omega
        obtain ⟨v, hv, hr⟩ := h7 (off + j) _ (List.getElem?_eq_getElem hlt)
        refine ⟨v, by rw [Nat.add_assoc]; exact hv, fun x hx => ?_⟩
        rw [List.getElem?_eq_getElem hlt] at hx
        cases hx
        exact hr)
      refine ⟨vs, hv1, RVs_of (by rw [hll, hv1]) ?_, fun j v hj => (hv2 j v hj).1⟩
      intro i x v hx hv
      refine (hv2 i v hv).2 x ?_
      have hin : i < n := by
        have := (List.getElem?_eq_some_iff.1 hv).1
        omega
      rw [List.getElem?_take_of_lt hin, List.getElem?_drop] at hx
      exact hx
    · cases hl
  · cases hl

theorem bytesA_RVs : ∀ {l : List AV} {ns : List Int} {vs : List Value}, bytesA l = some ns → RVs ρ w l vs → vs = ns.map (Value.int .u8)
  | [], ns, [], h, _ => by simp only [bytesA, Option.some.injEq] at h; subst h; rfl
  | [], ns, _ :: _, _, hr => hr.elim
  | _ :: _, ns, [], _, hr => hr.elim
  | x :: l, ns, v :: vs, h, hr => by
    cases x with
    | s u =>
      cases u with
      | int k n =>
        cases k <;> simp only [bytesA, reduceCtorEq] at h
        simp only [Option.map_eq_some_iff] at h
        obtain ⟨ms, hm, rfl⟩ := h
        have h1 : v = .int .u8 n := hr.1
        rw [h1, bytesA_RVs hm hr.2]
        rfl
      | _ => simp [bytesA] at h
    | _ => simp [bytesA] at h

theorem spot_eta {ad : Addr} (h : ad.spot = none) : ad = ⟨ad.block, ad.off, none⟩ := by cases ad; simp_all

theorem laid_cell (H : HR P base W ρ h w) {g : Nat} {C : List Value} (hC : globC P g = some C) {j : Nat} {v : Value} (hj : C[j]? = some v) : w.cell? ⟨g, j, none⟩ = some v :=
  (H.below.cell (p := ⟨g, j, none⟩) (H.gl g C hC).1).trans ((H.gl g C hC).2 j v hj)
theorem RVs_maps : ∀ vs : List Value, RVs ρ w (vs.map .s) vs
  | [] => trivial
  | _ :: vs => ⟨rfl, RVs_maps vs⟩
theorem rV_sound (o : Oper) {q : ROp} (hp : prepOp0 P o = some (.r q)) {x : AV} (hv : rV P tm h q = some x) (hr : RVs ρ w tm a.tmps.toList) (H : HR P base W ρ h w) :
    ∃ v, (execOp a.eval o).run P w = .ok (.value v) w ∧ RV ρ w x v := by
  obtain ⟨dst, op, ty, pos, after, guard⟩ := o
  unfold prepOp0 at hp
  cases op with
  | load t y =>
    simp only at hp
    split at hp
    · rename_i d i hd hi
      have hq : ∃ n, q = .load (isAggD d) n y ∧ n = (if isAggD d then i.size else 1) := by
        split at hp
        · rename_i ha; simp only [Option.some.injEq, AOp.r.injEq] at hp; exact ⟨_, by rw [← hp, ha], by rw [ha]; rfl⟩
        · rename_i ha; simp only [Option.some.injEq, AOp.r.injEq] at hp; exact ⟨1, by rw [← hp]; simp [ha], by simp [ha]⟩
      obtain ⟨n, rfl, hn⟩ := hq
      simp only [rV] at hv
      split at hv
      · rename_i b ver off hy
        obtain ⟨p, hp1, hp2⟩ := evO_RV hr hy
        obtain ⟨l, hl, hx⟩ := Option.bind_eq_some_iff.1 hv
        obtain ⟨hll, vs, hvl, hrs, hcell⟩ := rdn_RVs H hl hp1
        obtain ⟨h1, h2⟩ := oneOr_RV hx hrs
        cases ha : isAggD d with
        | true =>
          rw [ha] at hn; simp at hn; subst hn
          have hlc := run_loadCells_list (P := P) w ⟨p.blk, p.off + off, none⟩ vs (fun j v hj => by rw [Addr_add]; exact hcell j v hj)
          rw [hvl] at hlc
          exact ⟨_, by simp [execOp, Instr.loadAt, hp2, Instr.sureAddr, loadVar, run_isAgg hd, ha, sizeOf, typeInfo, hi, hlc], h1 ha⟩
        | false =>
          obtain ⟨v, hv1, hv2⟩ := h2 ha
          have hc := hcell 0 v (by rw [← hv1]; cases vs <;> rfl)
          rw [Nat.add_zero] at hc
          exact ⟨v, by simp [execOp, Instr.loadAt, hp2, Instr.sureAddr, loadVar, run_isAgg hd, ha, hc], hv2⟩
      · rename_i g o hy
        have hp2 : a.eval y = .pointer (some ⟨g, o, none⟩) := evO_RV hr hy
        unfold tabV at hv
        split at hv
        · rename_i C hC
          split at hv
          · rename_i hle
            have hcell : ∀ j v, ((C.drop o).take n)[j]? = some v → w.cell? ⟨g, o + j, none⟩ = some v := by
              intro j v hj
              have hjn : j < n := by
                have := (List.getElem?_eq_some_iff.1 hj).1
                simp only [List.length_take] at this; omega
              rw [List.getElem?_take_of_lt hjn, List.getElem?_drop] at hj
              exact laid_cell H hC hj
            have hvl : ((C.drop o).take n).length = n := by rw [List.length_take, List.length_drop]; omega
            obtain ⟨h1, h2⟩ := oneOr_RV hv (RVs_maps (ρ := ρ) (w := w) ((C.drop o).take n))
            generalize (C.drop o).take n = vs at *
            cases ha : isAggD d with
            | true =>
              rw [ha] at hn; simp at hn; subst hn
              have hlc := run_loadCells_list (P := P) w ⟨g, o, none⟩ vs (fun j v hj => by rw [Addr_add]; exact hcell j v hj)
              rw [hvl] at hlc
              exact ⟨_, by simp [execOp, Instr.loadAt, hp2, Instr.sureAddr, loadVar, run_isAgg hd, ha, sizeOf, typeInfo, hi, hlc], h1 ha⟩
            | false =>
              obtain ⟨v, hv1, hv2⟩ := h2 ha
              have hc := hcell 0 v (by rw [← hv1]; cases vs <;> rfl)
              rw [Nat.add_zero] at hc
              exact ⟨v, by simp [execOp, Instr.loadAt, hp2, Instr.sureAddr, loadVar, run_isAgg hd, ha, hc], hv2⟩
          · cases hv
        · cases hv
      · cases hv
    · cases hp
  | convert src dst' y =>
    simp only at hp
    split at hp
    · rename_i e hs hd
      split at hp
      · rename_i he
        simp only [Option.some.injEq, AOp.r.injEq] at hp; subst hp
        simp only [rV] at hv
        split at hv
        · rename_i b ver off n sz hy
          obtain ⟨p, cap, ad, ⟨hp1, _⟩, hp2, hp3, hp4, _⟩ := evO_RV hr hy
          split at hv
          · rename_i ns hns
            cases hv
            obtain ⟨l, hl, hb⟩ := Option.bind_eq_some_iff.1 hns
            obtain ⟨hll, vs, hvl, hrs, hcell⟩ := rdn_RVs H hl hp1
            have hvs := bytesA_RVs hb hrs
            have hnl : ns.length = n := by rw [← hvl, hvs]; simp
            have hcells : ∀ B O, (n = 0 ∨ (B = p.blk ∧ O = p.off + off)) → (convert src dst' (.slice (some ⟨B, O, none⟩) n cap)).run P w = .ok (.string (strOfNums ns)) w := by
              intro B O hBO
              refine run_convert_bytes_arg w src e hs he B O n cap ns hnl (fun j hj => ?_) dst' hd
              rcases hBO with h0 | ⟨rfl, rfl⟩
              · omega
              · have hj' : j < vs.length := by omega
                rw [hcell j _ (List.getElem?_eq_getElem hj')]
                have : j < ns.length := by omega
                simp [hvs, List.getD_eq_getElem?_getD, List.getElem?_eq_getElem this]
            refine ⟨.string (strOfNums ns), ?_, rfl⟩
            rcases hp4 with ⟨h0, hsp⟩ | rfl
            · have := hcells ad.block ad.off (.inl (by omega))
              rw [← spot_eta hsp] at this
              simp [execOp, hp2, this]
            · have := hcells _ _ (.inr ⟨rfl, rfl⟩)
              simp [execOp, hp2, this]
          · cases hv
        · rename_i m c hy
          cases hv
          have h1 : a.eval y = .slice none m c := evO_RV hr hy
          exact ⟨_, by simp [execOp, h1, run_convert_bytes_nil w src e hs he m c dst' hd], rfl⟩
        · cases hv
      · cases hp
    · (repeat' split at hp) <;> simp at hp
    · simp [prepSc] at hp
  | alloc e => simp only at hp; (repeat' split at hp) <;> simp at hp
  | box e y => simp only at hp; (repeat' split at hp) <;> simp at hp
  | build t parts => simp only at hp; (repeat' split at hp) <;> simp at hp
  | buildSlice t len parts => simp only at hp; (repeat' split at hp) <;> simp at hp
  | store t y z => simp only at hp; (repeat' split at hp) <;> simp at hp
  | makeSlice t l c => simp only at hp; (repeat' split at hp) <;> simp at hp
  | binOp op t y z yt => simp only [prepEq, prepSc] at hp; (repeat' split at hp) <;> simp at hp
  | unOp op t y => simp [prepSc] at hp
  | slice t y lo hi mx => simp only [prepSc] at hp; (repeat' split at hp) <;> simp at hp
  | fieldAddr s y f => simp only at hp; (repeat' split at hp) <;> simp at hp
  | field s y f => simp only at hp; (repeat' split at hp) <;> simp at hp
  | indexAddr s y f => simp only at hp; (repeat' split at hp) <;> simp at hp
  | index s y f => simp only [prepSc] at hp; (repeat' split at hp) <;> simp at hp
  | call c =>
    obtain ⟨callee, args, argTypes⟩ := c
    cases callee with
    | invoke _ _ => simp [prepCall] at hp
    | value f => cases f <;> simp only [prepCall] at hp <;> (repeat' split at hp) <;> simp at hp
    | builtin bi => cases bi <;> simp only [prepCall, prepSc] at hp <;> (repeat' split at hp) <;> simp at hp
  | _ => simp at hp

end sound
end Go.Proofs.YtdgnddidibpilaaDoor.AS
end
section
set_option autoImplicit false
namespace Go.Proofs.YtdgnddidibpilaaDoor.AS
open Go Go.RowKit
/-- A new block, however it came into the world. -/
theorem HR.allocW {P : Program} {base : Nat} {W : World} {ρ : PM} {h : Heap} {w : World} (H : HR P base W ρ h w) {w' : World} (hb : Below w.heap.size w w') (hsz' : w.heap.size < w'.heap.size) (l : List AV) (e : TypeId) (sz : Nat)
    (hsz : ∀ i, P.info? e = some i → i.size = sz) (hl : ∀ (j : Nat) (x : AV), l[j]? = some x → ∃ v, w'.cell? ⟨w.heap.size, j, none⟩ = some v ∧ RV ρ w x v) (hfr : ∀ o, o < shN w' w.heap.size → w'.frozen? ⟨w.heap.size, o, none⟩ = false) (hsh : ∃ n, w'.shape? w.heap.size = some (e, n)) :
    HR P base W (upd ρ h.length 0 ⟨w.heap.size, 0, e, sz, true⟩) (h ++ [⟨0, e, sz, true, l⟩]) w' ∧
      Ext ρ (upd ρ h.length 0 ⟨w.heap.size, 0, e, sz, true⟩) ∧ Keep w w' := by
  have hx : Ext ρ (upd ρ h.length 0 ⟨w.heap.size, 0, e, sz, true⟩) := upd_ext _ (H.fresh _ _ (Nat.le_refl _))
  have hk := Keep.of_below hb
  have G := H.grow hb
  refine ⟨⟨G.below, G.hbase, ?_, ?_, ?_, H.gl⟩, hx, hk⟩
  · intro b ver hlen
    simp only [List.length_append, List.length_cons, List.length_nil] at hlen
    unfold upd
    rw [if_neg (by omega)]
    exact H.fresh _ _ (by omega)
  · intro b k hbk
    rcases Nat.lt_or_ge b h.length with hlt | hge
    · rw [List.getElem?_append_left hlt] at hbk
      obtain ⟨p, h1, h2, h3, h4, h5, h6, h7, h8⟩ := G.blk b k hbk
      refine ⟨p, hx _ _ _ h1, ?_, h3, h4, h5, h6, fun j x hj => ?_, h8⟩
      · intro v hv
        unfold upd
        rw [if_neg (by omega)]
        exact h2 v hv
      · obtain ⟨v, hv, hr⟩ := h7 j x hj
        exact ⟨v, hv, RV_mono hx (Keep.refl _) _ _ hr⟩
    · have hbe : b = h.length := by
        have := (List.getElem?_eq_some_iff.1 hbk).1
        simp at this
        omega
      subst hbe
      simp at hbk
      subst hbk
      refine ⟨⟨w.heap.size, 0, e, sz, true⟩, upd_same _ _ _ _, ?_, rfl, rfl, rfl, hsz', ?_, ?_⟩
      · intro v hv
        unfold upd
        rw [if_neg (by simp at hv; omega)]
        exact H.fresh _ _ (Nat.le_refl _)
      · intro j x hj
        obtain ⟨v, hv, hr⟩ := hl j x hj
        refine ⟨v, ?_, RV_mono hx hk _ _ hr⟩
        simp only [Nat.zero_add]
        exact hv
      · intro _
        exact ⟨H.hbase, hfr, hsh, hsz, fun _ => rfl⟩
  · intro b b' k k' p p' hbk hbk' hp hp' hrw heq
    have lt_old : ∀ b k p, h[b]? = some k → ρ b k.ver = some p → p.blk < w.heap.size := by
      intro b k p hb hp
      obtain ⟨q, h1, _, _, _, _, h6, _⟩ := H.blk b k hb
      rw [hp] at h1; cases h1; exact h6
    rcases Nat.lt_or_ge b h.length with hlt | hge <;> rcases Nat.lt_or_ge b' h.length with hlt' | hge'
    · rw [List.getElem?_append_left hlt] at hbk
      rw [List.getElem?_append_left hlt'] at hbk'
      unfold upd at hp hp'
      rw [if_neg (by omega)] at hp hp'
      exact H.inj b b' k k' p p' hbk hbk' hp hp' hrw heq
    · rw [List.getElem?_append_left hlt] at hbk
      have hbe : b' = h.length := by
        have := (List.getElem?_eq_some_iff.1 hbk').1
        simp at this
        omega
      subst hbe
      simp at hbk'
      subst hbk'
      rw [upd_same] at hp'
      cases hp'
      unfold upd at hp
      rw [if_neg (by omega)] at hp
      have := lt_old b k p hbk hp
      simp only at heq
      omega
    · rw [List.getElem?_append_left hlt'] at hbk'
      have hbe : b = h.length := by
        have := (List.getElem?_eq_some_iff.1 hbk).1
        simp at this
        omega
      subst hbe
      simp at hbk
      subst hbk
      rw [upd_same] at hp
      cases hp
      unfold upd at hp'
      rw [if_neg (by omega)] at hp'
      have := lt_old b' k' p' hbk' hp'
      simp only at heq
      omega
    · have h1 := (List.getElem?_eq_some_iff.1 hbk).1
      have h2 := (List.getElem?_eq_some_iff.1 hbk').1
      simp at h1 h2
      omega


section
variable {P : Program} {base : Nat} {W : World} {ρ : PM} {w : World} {h : Heap}
theorem rowAt_bytes {e : TypeId} (hc : P.cellsOf e = 1) (count off n : Nat) (hn : off + n ≤ count) : liesAt P P.depth e count off e n = true := by
  have hd : P.depth = (2 * (P.types.size + Made.depth) + 1) + 1 := rfl
  rw [hd]
  simp only [liesAt, Bool.or_eq_true]
  left
  rw [hd]
  simp [rowAt, hc, hn, sameLayout, Nat.mod_one]
theorem run_loadBytesI : ∀ (l : List Int) (a : Addr) (acc : ByteArray), (∀ j x, l[j]? = some x → w.cell? (a.add j) = some (.int .u8 x)) →
    (loadBytes a acc l.length).run P w = .ok ⟨acc.data ++ (l.map fun n => UInt8.ofNat n.toNat).toArray⟩ w
  | [], a, acc, _ => by simp [loadBytes]
  | x :: l, a, acc, h => by
    have h0 : w.cell? a = some (.int .u8 x) := by
      have := h 0 x rfl
      simpa [Addr.add] using this
    have ih := run_loadBytesI l (a.add 1) (acc.push (UInt8.ofNat x.toNat)) (fun j y hy => by
      have := h (j + 1) y (by simpa using hy)
      have e : (a.add 1).add j = a.add (j + 1) := by
        unfold Addr.add
        by_cases hj : j = 0
        · subst hj; simp
        · simp [hj]; omega
      rw [e]; exact this)
    simp only [List.length_cons, loadBytes, Sem.run_bind, run_load, h0, Result.andThen]
    refine Eq.trans ih ?_
    congr 1
    apply ByteArray.ext
    simp [ByteArray.push]
/-- A text over a piece of a row of bytes. -/
theorem run_ustr (pt it ty e : TypeId) (hp : P.underlying pt = some (.pointer e)) (hc : P.cellsOf e = 1) (g o cells : Nat) (hsh : w.shape? g = some (e, cells)) (l : List Int) (h0 : l ≠ []) (hn : o + l.length ≤ cells) (h63 : l.length ≤ 9223372036854775807)
    (hcell : ∀ j x, l[j]? = some x → w.cell? ((⟨g, o, none⟩ : Addr).add j) = some (.int .u8 x)) :
    (Builtin.unsafeString_ #[pt, it] ty #[.pointer (some ⟨g, o, none⟩), .int .i64 l.length]).run P w = .ok (.string (strOfNums l)) (w.freeze ⟨g, o, none⟩ l.length) := by
  have hl : l.length ≠ 0 := by simpa using h0
  have hlb := run_loadBytesI (P := P) l ⟨g, o, none⟩ .empty hcell
  have he : (⟨ByteArray.empty.data ++ (l.map fun n => UInt8.ofNat n.toNat).toArray⟩ : ByteArray) = strOfNums l := by
    apply ByteArray.ext
    show ByteArray.empty.data ++ _ = _
    rw [show ByteArray.empty.data = #[] from rfl, Array.empty_append]; rfl
  rw [he] at hlb
  have hlies := rowAt_bytes (P := P) hc (cells / P.cellsOf e) o l.length (by rw [hc]; simpa using hn)
  have h63' : ¬ (9223372036854775807 : Int) < (l.length : Int) := by omega
  obtain ⟨e1, e2, e3, hdef⟩ : ∃ e1 e2 e3, Builtin.unsafeString_ #[pt, it] ty #[.pointer (some ⟨g, o, none⟩), .int .i64 l.length] =
      (do
        let n ← asInt (.int .i64 l.length)
        if n < 0 then runtimePanic e1
        if n > IntKind.i64.max then unsupported e2
        if n = 0 then pure (.string .empty)
        else if ← variablesAt ⟨g, o, none⟩ (← elemOf pt) n.toNat then do
          let s ← loadBytes ⟨g, o, none⟩ .empty n.toNat
          freeze ⟨g, o, none⟩ n.toNat
          pure (.string s)
        else unsupported e3) := ⟨_, _, _, rfl⟩
  rw [hdef]
  have hmax : IntKind.i64.max = 9223372036854775807 := rfl
  have hneg : ¬ (l.length : Int) < 0 := by omega
  simp [asInt, asIntOf, hmax, h63', hneg, hl, variablesAt, hsh, elemOf, run_underlying hp, hlies, hlb]
theorem freeze_at (w : World) (a : Addr) (n : Nat) {c : Nat} (hc : c ≠ a.block) : (w.freeze a n).heap[c]? = w.heap[c]? := by
  unfold World.freeze
  split
  · rfl
  · simp only [Array.getElem?_modify]
    rw [if_neg (fun e => hc e.symm)]
theorem freeze_keep (w : World) (a : Addr) (n : Nat) : Keep w (w.freeze a n) := by
  unfold World.freeze
  split
  · exact Keep.refl _
  · refine ⟨fun B s hs => ?_, by simp, fun B ob hB hn => ?_⟩
    · simp only [World.shape?, Array.getElem?_modify] at hs ⊢
      by_cases h1 : a.block = B
      · subst h1
        rw [if_pos rfl]
        cases hB : w.heap[a.block]? with
        | none => rw [hB] at hs; cases hs
        | some o => rw [hB] at hs; cases o <;> simp_all
      · rw [if_neg h1]; exact hs
    · simp only [Array.getElem?_modify]
      by_cases h1 : a.block = B
      · subst h1
        rw [if_pos rfl, hB]
        cases ob <;> simp_all [noCells]
      · rw [if_neg h1]; exact hB
/-- A block whose bytes have become a text: nobody has it any more. -/
theorem HR.ustr (H : HR P base W ρ h w) {b : Nat} {k : Blk} {p : Place} (hb : h[b]? = some k) (hp : ρ b k.ver = some p) (hrw : k.rw = true) (a : Addr) (ha : a.block = p.blk) (n : Nat) :
    HR P base W (upd ρ b (k.ver + 1) { p with rw := false }) (h.set b { k with ver := k.ver + 1, rw := false, cells := [] }) (w.freeze a n) ∧ Ext ρ (upd ρ b (k.ver + 1) { p with rw := false }) := by
  obtain ⟨p1, h1, h2, h3, h4, h5, h6, h7, h8⟩ := H.blk b k hb
  rw [hp] at h1; cases h1
  obtain ⟨a1, _⟩ := h8 hrw
  have hx : Ext ρ (upd ρ b (k.ver + 1) { p with rw := false }) := upd_ext _ (h2 _ (by omega))
  have hblen : b < h.length := (List.getElem?_eq_some_iff.1 hb).1
  have hupd : ∀ c v, c ≠ b → upd ρ b (k.ver + 1) { p with rw := false } c v = ρ c v := by
    intro c v hc; unfold upd; rw [if_neg (fun e => hc e.1)]
  have hk := freeze_keep w a n
  have hsz : (w.freeze a n).heap.size = w.heap.size := by
    unfold World.freeze; split
    · rfl
    · simp
  refine ⟨⟨Go.Lib.below_freeze H.below (by rw [ha]; exact a1) n, by rw [hsz]; exact H.hbase, ?_, ?_, ?_, H.gl⟩, hx⟩
  · intro c ver hc
    simp only [List.length_set] at hc
    rw [hupd c _ (by omega)]
    exact H.fresh _ _ hc
  · intro c kc hc
    by_cases hcb : c = b
    · subst hcb
      rw [List.getElem?_set_self hblen] at hc
      cases hc
      refine ⟨{ p with rw := false }, upd_same _ _ _ _, fun v hv => ?_, h3, h4, rfl, by rw [hsz]; exact h6, fun j x hj => by simp at hj, fun hr => by cases hr⟩
      simp only at hv
      unfold upd
      rw [if_neg (by omega)]
      exact h2 v (by omega)
    · rw [List.getElem?_set_ne (fun e => hcb e.symm)] at hc
      obtain ⟨q, g1, g2, g3, g4, g5, g6, g7, g8⟩ := H.blk c kc hc
      have hne : q.blk ≠ a.block := fun e => hcb (H.inj b c k kc p q hb hc hp g1 hrw (by rw [e, ha])).symm
      have hob := freeze_at w a n hne
      refine ⟨q, hx _ _ _ g1, fun v hv => by rw [hupd c _ hcb]; exact g2 v hv, g3, g4, g5, by rw [hsz]; exact g6, fun j x hj => ?_, fun hr => ?_⟩
      · obtain ⟨v, hv, hrv⟩ := g7 j x hj
        refine ⟨v, ?_, RV_mono hx hk _ _ hrv⟩
        simp only [World.cell?] at hv ⊢
        rw [hob]; exact hv
      · obtain ⟨b1, b2, ⟨m, b3⟩, b4⟩ := g8 hr
        refine ⟨b1, fun o ho => ?_, ⟨m, hk.shape _ _ b3⟩, b4⟩
        have := b2 o (by rwa [shN_eq b3 (hk.shape _ _ b3)] at ho)
        simp only [World.frozen?] at this ⊢
        rw [hob]; exact this
  · intro c c' kc kc' q q' hc hc' hq hq' hr heq
    have key : ∀ (c : Nat) (kc : Blk) (q : Place), (h.set b { k with ver := k.ver + 1, rw := false, cells := [] })[c]? = some kc → upd ρ b (k.ver + 1) { p with rw := false } c kc.ver = some q →
        (c = b ∧ q = { p with rw := false } ∧ kc.rw = false) ∨ (c ≠ b ∧ h[c]? = some kc ∧ ρ c kc.ver = some q) := by
      intro c kc q hc hq
      by_cases hcb : c = b
      · subst hcb
        rw [List.getElem?_set_self hblen] at hc
        cases hc
        rw [upd_same] at hq
        cases hq
        exact .inl ⟨rfl, rfl, rfl⟩
      · rw [List.getElem?_set_ne (fun e => hcb e.symm)] at hc
        rw [hupd c _ hcb] at hq
        exact .inr ⟨hcb, hc, hq⟩
    rcases key c kc q hc hq with ⟨rfl, rfl, h0⟩ | ⟨hne, e1, e2⟩
    · rw [h0] at hr; cases hr
    · rcases key c' kc' q' hc' hq' with ⟨rfl, rfl, _⟩ | ⟨hne', e1', e2'⟩
      · exact absurd (H.inj c' c k kc p q hb e1 hp e2 hrw (by simpa using heq.symm)).symm hne
      · exact H.inj c c' kc kc' q q' e1 e1' e2 e2' hr heq
end
end Go.Proofs.YtdgnddidibpilaaDoor.AS
end
