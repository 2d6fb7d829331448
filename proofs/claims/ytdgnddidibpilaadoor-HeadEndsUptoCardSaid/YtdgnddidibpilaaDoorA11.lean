/- Of our own: an abstract machine beside the model, its soundness, and walks of the program in it. -/
import Derived.Test.YtdgnddidibpilaaDoorA10
set_option linter.unusedSimpArgs false
set_option linter.unusedVariables false
section
set_option autoImplicit false
set_option linter.unusedSimpArgs false
namespace Go.Proofs.YtdgnddidibpilaaDoor.AS
open Go Go.RowKit

/-! ### Regions whose order is open, where what may stand between lets the heap grow -/
def okGr (k : Nat) (al : List AOper) : List (Nat × Nat × Nat) → Bool
  | [] => true
  | (i, lo, hi) :: l => (match al[i]? with
    | some ⟨some d, _, .r _⟩ => Nat.beq ((effs al).filter fun e => decide (e < i)).length lo && Nat.ble hi k &&
        (List.range al.length).all fun j => !decide (i < j) || (match al[j]? with | some o => (match o.dst with | some d' => !Nat.beq d' d | none => true) | none => true)
    | _ => false) && okGr k al l
section
variable {P : Program} {g : CallF}
theorem rV_grows {tm : List AV} {h h1 : Heap} {q : ROp} {x : AV} (hg : Grows h h1) (H : rV P tm h q = some x) : rV P tm h1 q = some x := by
  have key : ∀ b v o n ys, rdn h b v o n = some ys → rdn h1 b v o n = some ys := by
    intro b v o n ys hr
    unfold rdn at hr ⊢
    cases hb : h[b]? with
    | none => rw [hb] at hr; cases hr
    | some k => rw [hg b (List.getElem?_eq_some_iff.1 hb).1, hb]; rw [hb] at hr; exact hr
  cases q with
  | load agg n x =>
    simp only [rV] at H ⊢
    split at H
    · rename_i b v o he
      cases hr : rdn h b v o n with
      | none => rw [hr] at H; cases H
      | some ys => rw [key _ _ _ _ _ hr]; rw [hr] at H; exact H
    · exact H
    · cases H
  | b2s x =>
    simp only [rV] at H ⊢
    split at H
    · rename_i b v o m z he
      cases hr : rdn h b v o m with
      | none => rw [hr] at H; cases H
      | some ys => rw [key _ _ _ _ _ hr]; rw [hr] at H; exact H
    · exact H
    · cases H
theorem chk_gr {k : Nat} {al : List AOper} {tm tm' : List AV} {h h' : Heap} {hs : List Heap} {xs : List (List AV × AV × Bool)} (he : runDraw P g al tm h = some (hs, xs, tm', h')) (hok : ∀ o ∈ al, okD tm.length o.dst = true) (hgr : ∀ m, m < k → ∀ a b, hs[m]? = some a → hs[m + 1]? = some b → Grows a b) :
    ∀ (chk : List (Nat × Nat × Nat)), okGr k al chk = true → (∀ d ∈ chkD al chk, ∀ x, tm'[d]? = some x → avEq x x = true) → chkDraw P al hs xs chk = true := by
  obtain ⟨tmF, hF, xF, rF, e1, e2, e3, e4, e5, e6, e7⟩ := runDraw_trace al tm tm' h h' hs xs he
  have hlen : ∀ j, j ≤ al.length → (tmF j).length = tm.length := by
    intro j
    induction j with
    | zero => intro _; rw [e1]
    | succ j ih =>
      intro hj
      obtain ⟨_, _, _, _, h5⟩ := e5 j _ (List.getElem?_eq_getElem (by omega))
      rw [h5, ← ih (by omega)]
      cases (al[j]).dst <;> simp [putA]
  intro chk
  induction chk with
  | nil => intro _ _; rfl
  | cons c chk ih =>
    obtain ⟨i, lo, hi⟩ := c
    intro hst hrf
    simp only [okGr, Bool.and_eq_true] at hst
    simp only [chkDraw, Bool.and_eq_true]
    refine ⟨?_, ih hst.2 (fun d hd => hrf d (by simp only [chkD]; exact List.mem_append_right _ hd))⟩
    have h1 := hst.1
    cases ha : al[i]? with
    | none => rw [ha] at h1; simp at h1
    | some o =>
      obtain ⟨d, gd, op⟩ := o
      rw [ha] at h1
      cases d with
      | none => simp at h1
      | some d =>
        cases op with
        | p _ => simp at h1
        | e _ => simp at h1
        | r q =>
          simp only [Bool.and_eq_true] at h1
          obtain ⟨⟨h2, h3⟩, h4⟩ := h1
          have h2 := Nat.eq_of_beq_eq_true h2
          have hin := (List.getElem?_eq_some_iff.1 ha).1
          obtain ⟨f1, f2, f3, f4, f5⟩ := e5 i _ ha
          rw [f1]
          simp only
          cases hr : rF i with
          | false => rfl
          | true =>
            simp only [Bool.not_true, Bool.false_or, List.all_eq_true]
            have hop := f3 hr
            simp only [opV, Option.map_eq_some_iff, Prod.mk.injEq] at hop
            obtain ⟨y, hy1, rfl, hy2⟩ := hop
            -- what was read stands at the end
            have hx : tm'[d]? = some (xF i) := by
              have hdlt : d < tm.length := by
                have := hok _ (List.mem_iff_getElem?.2 ⟨i, ha⟩)
                simpa [okD] using this
              have key : ∀ j, i < j → j ≤ al.length → (tmF j)[d]? = some (xF i) := by
                intro j
                induction j with
                | zero => intro h; omega
                | succ j ihj =>
                  intro h5 h6
                  rcases Nat.lt_or_ge i j with h7 | h7
                  · have h8 := ihj h7 (by omega)
                    obtain ⟨_, _, _, _, h9⟩ := e5 j _ (List.getElem?_eq_getElem (by omega : j < al.length))
                    rw [h9]
                    have h10 := List.all_eq_true.1 h4 j (List.mem_range.2 (by omega))
                    rw [List.getElem?_eq_getElem (by omega : j < al.length)] at h10
                    simp only [decide_eq_true h7, Bool.not_true, Bool.false_or] at h10
                    cases hd' : (al[j]).dst with
                    | none => exact h8
                    | some d' =>
                      rw [hd'] at h10
                      simp only [Bool.not_eq_true'] at h10
                      show ((tmF j).set d' _)[d]? = _
                      rw [List.getElem?_set_ne (fun e => by subst e; simp at h10)]
                      exact h8
                  · obtain rfl : j = i := by omega
                    rw [f5]
                    show ((tmF j).set d _)[d]? = _
                    rw [List.getElem?_set_self (by rw [hlen j (by omega)]; exact hdlt)]
              rw [← e3]; exact key al.length hin (Nat.le_refl _)
            have hrefl := hrf d (by simp only [chkD, ha]; simp) _ hx
            have hrank : cnt (isEi al) (fun _ => true) i = lo := by
              rw [← h2, effs, cnt_filter, cnt_lt _ _ _ (by omega)]
            have hcE : ∀ j, j ≤ al.length → hs[cnt (isEi al) (fun _ => true) j]? = some (hF j) := fun j hj => by rw [← cntE_take al j hj]; exact e6 j hj
            have hlo : hs[lo]? = some (hF i) := by rw [← hrank]; exact hcE i (by omega)
            have h3 := Nat.le_of_ble_eq_true h3
            have grow : ∀ q, lo + q ≤ hi → ∀ hk, hs[lo + q]? = some hk → Grows (hF i) hk := by
              intro q
              induction q with
              | zero =>
                intro _ hk h5
                rw [Nat.add_zero, hlo] at h5
                cases h5
                exact Grows.refl _
              | succ q ihq =>
                intro h5 hk h6
                have hlt : lo + q < hs.length := by
                  have := (List.getElem?_eq_some_iff.1 h6).1; omega
                have h7 := List.getElem?_eq_getElem hlt
                exact (ihq (by omega) _ h7).trans (hgr (lo + q) (by omega) _ _ h7 (by rw [Nat.add_assoc]; exact h6))
            intro hh hmem
            obtain ⟨m, hm⟩ := List.mem_iff_getElem?.1 hmem
            have hmlt : m < hi + 1 - lo := by
              have := (List.getElem?_eq_some_iff.1 hm).1
              rw [List.length_take] at this
              omega
            rw [List.getElem?_take_of_lt hmlt, List.getElem?_drop] at hm
            have hg := grow m (by omega) hh hm
            unfold okAt
            rw [rV_grows hg hy1]
            exact hrefl

theorem runDraw_head : ∀ (al : List AOper) (tm : List AV) (h : Heap) (hs : List Heap) (xs : List (List AV × AV × Bool)) (r : List AV × Heap), runDraw P g al tm h = some (hs, xs, r) → hs[0]? = some h
  | [], tm, h, hs, xs, r, H => by simp only [runDraw, Option.some.injEq, Prod.mk.injEq] at H; rw [← H.1]; rfl
  | o :: al, tm, h, hs, xs, r, H => by
    simp only [runDraw] at H
    split at H
    · split at H
      · rename_i x h' hop
        split at H
        · rename_i hs' xs' r' hr
          simp only [Option.some.injEq, Prod.mk.injEq] at H
          rw [← H.1]
          cases he : isE o.op with
          | true => rfl
          | false =>
            have : h' = h := by
              cases ho : o.op with
              | e q => rw [ho] at he; simp [isE] at he
              | p q => rw [ho, opV_p] at hop; simp only [Option.map_eq_some_iff, Prod.mk.injEq] at hop; obtain ⟨_, _, _, e⟩ := hop; exact e.symm
              | r q => rw [ho, opV_r] at hop; simp only [Option.map_eq_some_iff, Prod.mk.injEq] at hop; obtain ⟨_, _, _, e⟩ := hop; exact e.symm
            subst this
            exact runDraw_head al _ _ _ _ _ hr
        · cases H
      · cases H
    · split at H
      · rename_i hs' xs' r' hr
        simp only [Option.some.injEq, Prod.mk.injEq] at H
        rw [← H.1]
        cases he : isE o.op with
        | true => rfl
        | false => exact runDraw_head al _ _ _ _ _ hr
      · cases H
    · cases H
theorem runDraw_one {o : AOper} {l : List AOper} {tm tm1 : List AV} {h h1 : Heap} {hs : List Heap} {xs : List (List AV × AV × Bool)} {r : List AV × Heap} (H1 : evOps P g [o] tm h = some (tm1, h1)) (H2 : runDraw P g l tm1 h1 = some (hs, xs, r)) :
    ∃ x, runDraw P g (o :: l) tm h = some (if isE o.op then h :: hs else hs, x :: xs, r) := by
  simp only [evOps] at H1
  simp only [runDraw]
  split at H1
  · split at H1
    · rename_i x h' hop
      simp only [evOps, Option.some.injEq, Prod.mk.injEq] at H1
      obtain ⟨rfl, rfl⟩ := H1
      rw [H2]
      exact ⟨_, rfl⟩
    · cases H1
  · simp only [evOps, Option.some.injEq, Prod.mk.injEq] at H1
    obtain ⟨rfl, rfl⟩ := H1
    rw [H2]
    exact ⟨_, rfl⟩
  · cases H1
end
section
variable {P : Program} {T : Nat → CallF} {n : Nat} {F : Fr} {h : Heap} {Q : Ex → Fr → Heap → Prop} {K : Fr → Heap → Prop} {ops l : List AOper} {o : AOper} {b : ACode}
/-- A walk of operations whose first k effects let the heap grow. -/
structure WG (P : Program) (T : Nat → CallF) (n k : Nat) (ops : List AOper) (F : Fr) (h : Heap) (K : Fr → Heap → Prop) : Prop where
  of ::
  go : ops.all (okAO n) = true → ∃ F' h', (∃ J, ∀ j, J ≤ j → ∃ hs xs, runDraw P (T j) ops (fr n F) h = some (hs, xs, fr n F', h') ∧ ∀ m, m < k → ∀ a b, hs[m]? = some a → hs[m + 1]? = some b → Grows a b) ∧ K F' h'
theorem WG.zero (H : WO P T n ops F h K) : WG P T n 0 ops F h K := .of fun ho => by
  obtain ⟨F', h', ⟨J, r⟩, q⟩ := H.go ho
  refine ⟨F', h', ⟨J, fun j hj => ?_⟩, q⟩
  obtain ⟨hs, xs, e⟩ := runDraw_of ops _ _ _ (r j hj)
  exact ⟨hs, xs, e, fun m hm => absurd hm (Nat.not_lt_zero _)⟩
theorem WG.ee {k : Nat} (he : isE o.op = true) (H : WO P T n [o] F h (fun F' h' => Grows h h' ∧ WG P T n k l F' h' K)) : WG P T n (k + 1) (o :: l) F h K := .of fun ho => by
  simp only [List.all_cons, Bool.and_eq_true] at ho
  obtain ⟨F1, h1, ⟨J1, r1⟩, g1, H2⟩ := H.go (by simp [ho.1])
  obtain ⟨F2, h2, ⟨J2, r2⟩, q⟩ := H2.go ho.2
  refine ⟨F2, h2, ⟨J1 + J2, fun j hj => ?_⟩, q⟩
  obtain ⟨hs, xs, e, hg⟩ := r2 j (by omega)
  obtain ⟨x, e2⟩ := runDraw_one (r1 j (by omega)) e
  rw [he, if_pos rfl] at e2
  refine ⟨_, _, e2, fun m hm a b ha hb => ?_⟩
  cases m with
  | zero =>
    have := runDraw_head _ _ _ _ _ _ e
    simp only [List.getElem?_cons_zero, Option.some.injEq] at ha
    simp only [Nat.zero_add, List.getElem?_cons_succ] at hb
    rw [this] at hb
    cases hb
    exact ha ▸ g1
  | succ m =>
    simp only [List.getElem?_cons_succ] at ha hb
    exact hg m (by omega) a b ha hb
theorem WG.nn {k : Nat} (he : isE o.op = false) (H : WO P T n [o] F h (fun F' h' => WG P T n k l F' h' K)) : WG P T n k (o :: l) F h K := .of fun ho => by
  simp only [List.all_cons, Bool.and_eq_true] at ho
  obtain ⟨F1, h1, ⟨J1, r1⟩, H2⟩ := H.go (by simp [ho.1])
  obtain ⟨F2, h2, ⟨J2, r2⟩, q⟩ := H2.go ho.2
  refine ⟨F2, h2, ⟨J1 + J2, fun j hj => ?_⟩, q⟩
  obtain ⟨hs, xs, e, hg⟩ := r2 j (by omega)
  obtain ⟨x, e2⟩ := runDraw_one (r1 j (by omega)) e
  rw [he, if_neg (by simp)] at e2
  exact ⟨_, _, e2, hg⟩
theorem W.drawG {k : Nat} {chk : List (Nat × Nat × Nat)} (hst : okGr k ops chk = true) (H : WG P T n k ops F h (fun F' h' => allR (chkD ops chk) F' ∧ Q .normal F' h')) : W P T n (.draw ops chk) F h Q := .of fun ho => by
  obtain ⟨F', h', ⟨K, r⟩, hR, q⟩ := H.go ho
  refine ⟨_, F', h', ⟨K + 1, fun k j hk hj => ?_⟩, q⟩
  obtain ⟨k, rfl⟩ : ∃ k', k = k' + 1 := ⟨k - 1, by omega⟩
  obtain ⟨hs, xs, hr, hg⟩ := r j (by omega)
  have hc : chkDraw P ops hs xs chk = true := by
    refine chk_gr hr (fun o hm => ?_) hg chk hst (fun d hd x hx => ?_)
    · have : okAO n o = true := List.all_eq_true.1 ho o hm
      simp only [okAO, Bool.and_eq_true] at this
      rw [fr_len]; exact this.1.2
    · have hlt : d < n := by
        have := (List.getElem?_eq_some_iff.1 hx).1
        rwa [fr_len] at this
      rw [fr_get hlt] at hx
      cases hx
      exact allR_get hR d hd
  simp only [evC, hr, hc, if_true]
end
section
variable {P : Program} {T : Nat → CallF} {n : Nat} {F : Fr} {h : Heap} {K : Fr → Heap → Prop} {l : List AOper} {d : Option Nat} {x y z w : Operand}
/-- A piece of a row, its room told. -/
theorem WO.sl3 {α : Type} {E : Enc α} {L : List α} {sz : Nat} {j1 j2 j3 : IntKind} {i j m : Int} {hh : Heap} (r : Row E hh (evF F x) L) (hne : L ≠ []) (hy : evF F y = .s (.int j1 i)) (hz : evF F z = .s (.int j2 j)) (hw : evF F w = .s (.int j3 m)) (hs : E.sz = sz) (h0 : 0 ≤ i) (h1 : i ≤ j) (h2 : j ≤ m) (h3 : m ≤ L.length)
    (k : ∀ a', Row E hh a' ((L.take j.toNat).drop i.toNat) → bo a' = bo (evF F x) → WO P T n l (putF d a' F) h K) : WO P T n (⟨d, none, .p (.slice3 sz x (some y) z w)⟩ :: l) F h K := by
  subst hs
  rcases r.slice (lo := i.toNat) (hi := j.toNat) (by omega) (by omega) with ⟨_, e⟩ | ⟨b, v, o, hb, hr⟩
  · exact absurd e hne
  · refine WO.pv (fun ho => ?_) (k _ hr (by rw [hb]; rfl))
    simp [opds, opdsP] at ho
    simp only [pV, loI, evO_fr ho.1, evO_fr ho.2.1, evO_fr ho.2.2.1, evO_fr ho.2.2.2, hb, hy, hz, hw, Option.bind_some, asI]
    rw [if_pos (by refine ⟨?_, by omega, by omega, by omega, by omega⟩; first | rfl | trivial)]
end
end Go.Proofs.YtdgnddidibpilaaDoor.AS
end
