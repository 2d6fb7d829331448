/- Of our own: an abstract machine beside the model, its soundness, and walks of the program in it. -/
import Derived.Test.YtpmoellbfgcefaaA10
import Derived.Test.YtpmoellbfgcefaaA8
import Derived.Test.YtpmoellbfgcefaaProg
set_option linter.unusedSimpArgs false
set_option linter.unusedVariables false
section
set_option autoImplicit false
set_option linter.unusedSimpArgs false
namespace Go.Proofs.Ytpmoellbfgcefaa.AS
open Go Go.RowKit

/-! ### Regions whose order is open, where what may stand between lets the heap grow -/
def okGr (k : Nat) (al : List AOper) : List (Nat × Nat × Nat) → Bool
  | [] => true
  | (i, lo, hi) :: l => (match al[i]? with
    | some ⟨some d, _, .r _⟩ => Nat.beq ((effs al).filter fun e => decide (e < i)).length lo && Nat.ble hi k &&
        (List.range al.length).all fun j => !decide (i < j) || (match al[j]? with | some o => (match o.dst with | some d' => !Nat.beq d' d | none => true) | none => true)
    | _ => false) && okGr k al l
section
variable {P : Program} {g : CallF}
theorem rV_grows {tm : List AV} {h h1 : Heap} {q : ROp} {x : AV} (hg : Grows h h1) (H : rV tm h q = some x) : rV tm h1 q = some x := by
  have key : ∀ b v o n ys, rdn h b v o n = some ys → rdn h1 b v o n = some ys := by
    intro b v o n ys hr
    unfold rdn at hr ⊢
    cases hb : h[b]? with
    | none => rw [hb] at hr; cases hr
    | some k => rw [hg b (List.getElem?_eq_some_iff.1 hb).1, hb]; rw [hb] at hr; exact hr
  cases q with
  | load agg n x =>
    simp only [rV] at H ⊢
    split at H
    · rename_i b v o he
      cases hr : rdn h b v o n with
      | none => rw [hr] at H; cases H
      | some ys => rw [key _ _ _ _ _ hr]; rw [hr] at H; exact H
    · cases H
  | b2s x =>
    simp only [rV] at H ⊢
    split at H
    · rename_i b v o m z he
      cases hr : rdn h b v o m with
      | none => rw [hr] at H; cases H
      | some ys => rw [key _ _ _ _ _ hr]; rw [hr] at H; exact H
    · exact H
    · cases H
theorem chk_gr {k : Nat} {al : List AOper} {tm tm' : List AV} {h h' : Heap} {hs : List Heap} {xs : List (List AV × AV × Bool)} (he : runDraw P g al tm h = some (hs, xs, tm', h')) (hok : ∀ o ∈ al, okD tm.length o.dst = true) (hgr : ∀ m, m < k → ∀ a b, hs[m]? = some a → hs[m + 1]? = some b → Grows a b) :
    ∀ (chk : List (Nat × Nat × Nat)), okGr k al chk = true → (∀ d ∈ chkD al chk, ∀ x, tm'[d]? = some x → avEq x x = true) → chkDraw al hs xs chk = true := by
  obtain ⟨tmF, hF, xF, rF, e1, e2, e3, e4, e5, e6, e7⟩ := runDraw_trace al tm tm' h h' hs xs he
  have hlen : ∀ j, j ≤ al.length → (tmF j).length = tm.length := by
    intro j
    induction j with
    | zero => intro _; rw [e1]
    | succ j ih =>
      intro hj
      obtain ⟨_, _, _, _, h5⟩ := e5 j _ (List.getElem?_eq_getElem (by omega))
      rw [h5, ← ih (by omega)]
      cases (al[j]).dst <;> simp [putA]
  intro chk
  induction chk with
  | nil => intro _ _; rfl
  | cons c chk ih =>
    obtain ⟨i, lo, hi⟩ := c
    intro hst hrf
    simp only [okGr, Bool.and_eq_true] at hst
    simp only [chkDraw, Bool.and_eq_true]
    refine ⟨?_, ih hst.2 (fun d hd => hrf d (by simp only [chkD]; exact List.mem_append_right _ hd))⟩
    have h1 := hst.1
    cases ha : al[i]? with
    | none => rw [ha] at h1; simp at h1
    | some o =>
      obtain ⟨d, gd, op⟩ := o
      rw [ha] at h1
      cases d with
      | none => simp at h1
      | some d =>
        cases op with
        | p _ => simp at h1
        | e _ => simp at h1
        | r q =>
          simp only [Bool.and_eq_true] at h1
          obtain ⟨⟨h2, h3⟩, h4⟩ := h1
          have h2 := Nat.eq_of_beq_eq_true h2
          have hin := (List.getElem?_eq_some_iff.1 ha).1
          obtain ⟨f1, f2, f3, f4, f5⟩ := e5 i _ ha
          rw [f1]
          simp only
          cases hr : rF i with
          | false => rfl
          | true =>
            simp only [Bool.not_true, Bool.false_or, List.all_eq_true]
            have hop := f3 hr
            simp only [opV, Option.map_eq_some_iff, Prod.mk.injEq] at hop
            obtain ⟨y, hy1, rfl, hy2⟩ := hop
            -- what was read stands at the end
            have hx : tm'[d]? = some (xF i) := by
              have hdlt : d < tm.length := by
                have := hok _ (List.mem_iff_getElem?.2 ⟨i, ha⟩)
                simpa [okD] using this
              have key : ∀ j, i < j → j ≤ al.length → (tmF j)[d]? = some (xF i) := by
                intro j
                induction j with
                | zero => intro h; omega
                | succ j ihj =>
                  intro h5 h6
                  rcases Nat.lt_or_ge i j with h7 | h7
                  · have h8 := ihj h7 (by omega)
                    obtain ⟨_, _, _, _, h9⟩ := e5 j _ (List.getElem?_eq_getElem (by omega : j < al.length))
                    rw [h9]
                    have h10 := List.all_eq_true.1 h4 j (List.mem_range.2 (by omega))
                    rw [List.getElem?_eq_getElem (by omega : j < al.length)] at h10
                    simp only [decide_eq_true h7, Bool.not_true, Bool.false_or] at h10
                    cases hd' : (al[j]).dst with
                    | none => exact h8
                    | some d' =>
                      rw [hd'] at h10
                      simp only [Bool.not_eq_true'] at h10
                      show ((tmF j).set d' _)[d]? = _
                      rw [List.getElem?_set_ne (fun e => by subst e; simp at h10)]
                      exact h8
                  · obtain rfl : j = i := by omega
                    rw [f5]
                    show ((tmF j).set d _)[d]? = _
                    rw [List.getElem?_set_self (by rw [hlen j (by omega)]; exact hdlt)]
              rw [← e3]; exact key al.length hin (Nat.le_refl _)
            have hrefl := hrf d (by simp only [chkD, ha]; simp) _ hx
            have hrank : cnt (isEi al) (fun _ => true) i = lo := by
              rw [← h2, effs, cnt_filter, cnt_lt _ _ _ (by omega)]
            have hcE : ∀ j, j ≤ al.length → hs[cnt (isEi al) (fun _ => true) j]? = some (hF j) := fun j hj => by rw [← cntE_take al j hj]; exact e6 j hj
            have hlo : hs[lo]? = some (hF i) := by rw [← hrank]; exact hcE i (by omega)
            have h3 := Nat.le_of_ble_eq_true h3
            have grow : ∀ q, lo + q ≤ hi → ∀ hk, hs[lo + q]? = some hk → Grows (hF i) hk := by
              intro q
              induction q with
              | zero =>
                intro _ hk h5
                rw [Nat.add_zero, hlo] at h5
                cases h5
                exact Grows.refl _
              | succ q ihq =>
                intro h5 hk h6
                have hlt : lo + q < hs.length := by
                  have := (List.getElem?_eq_some_iff.1 h6).1; omega
                have h7 := List.getElem?_eq_getElem hlt
                exact (ihq (by omega) _ h7).trans (hgr (lo + q) (by omega) _ _ h7 (by rw [Nat.add_assoc]; exact h6))
            intro hh hmem
            obtain ⟨m, hm⟩ := List.mem_iff_getElem?.1 hmem
            have hmlt : m < hi + 1 - lo := by
              have := (List.getElem?_eq_some_iff.1 hm).1
              rw [List.length_take] at this
              omega
            rw [List.getElem?_take_of_lt hmlt, List.getElem?_drop] at hm
            have hg := grow m (by omega) hh hm
            unfold okAt
            rw [rV_grows hg hy1]
            exact hrefl

theorem runDraw_head : ∀ (al : List AOper) (tm : List AV) (h : Heap) (hs : List Heap) (xs : List (List AV × AV × Bool)) (r : List AV × Heap), runDraw P g al tm h = some (hs, xs, r) → hs[0]? = some h
  | [], tm, h, hs, xs, r, H => by simp only [runDraw, Option.some.injEq, Prod.mk.injEq] at H; rw [← H.1]; rfl
  | o :: al, tm, h, hs, xs, r, H => by
    simp only [runDraw] at H
    split at H
    · split at H
      · rename_i x h' hop
        split at H
        · rename_i hs' xs' r' hr
          simp only [Option.some.injEq, Prod.mk.injEq] at H
          rw [← H.1]
          cases he : isE o.op with
          | true => rfl
          | false =>
            have : h' = h := by
              cases ho : o.op with
              | e q => rw [ho] at he; simp [isE] at he
              | p q => rw [ho, opV_p] at hop; simp only [Option.map_eq_some_iff, Prod.mk.injEq] at hop; obtain ⟨_, _, _, e⟩ := hop; exact e.symm
              | r q => rw [ho, opV_r] at hop; simp only [Option.map_eq_some_iff, Prod.mk.injEq] at hop; obtain ⟨_, _, _, e⟩ := hop; exact e.symm
            subst this
            exact runDraw_head al _ _ _ _ _ hr
        · cases H
      · cases H
    · split at H
      · rename_i hs' xs' r' hr
        simp only [Option.some.injEq, Prod.mk.injEq] at H
        rw [← H.1]
        cases he : isE o.op with
        | true => rfl
        | false => exact runDraw_head al _ _ _ _ _ hr
      · cases H
    · cases H
theorem runDraw_one {o : AOper} {l : List AOper} {tm tm1 : List AV} {h h1 : Heap} {hs : List Heap} {xs : List (List AV × AV × Bool)} {r : List AV × Heap} (H1 : evOps P g [o] tm h = some (tm1, h1)) (H2 : runDraw P g l tm1 h1 = some (hs, xs, r)) :
    ∃ x, runDraw P g (o :: l) tm h = some (if isE o.op then h :: hs else hs, x :: xs, r) := by
  simp only [evOps] at H1
  simp only [runDraw]
  split at H1
  · split at H1
    · rename_i x h' hop
      simp only [evOps, Option.some.injEq, Prod.mk.injEq] at H1
      obtain ⟨rfl, rfl⟩ := H1
      rw [H2]
      exact ⟨_, rfl⟩
    · cases H1
  · simp only [evOps, Option.some.injEq, Prod.mk.injEq] at H1
    obtain ⟨rfl, rfl⟩ := H1
    rw [H2]
    exact ⟨_, rfl⟩
  · cases H1
end
section
variable {P : Program} {T : Nat → CallF} {n : Nat} {F : Fr} {h : Heap} {Q : Ex → Fr → Heap → Prop} {K : Fr → Heap → Prop} {ops l : List AOper} {o : AOper} {b : ACode}
/-- A walk of operations whose first k effects let the heap grow. -/
structure WG (P : Program) (T : Nat → CallF) (n k : Nat) (ops : List AOper) (F : Fr) (h : Heap) (K : Fr → Heap → Prop) : Prop where
  of ::
  go : ops.all (okAO n) = true → ∃ F' h', (∃ J, ∀ j, J ≤ j → ∃ hs xs, runDraw P (T j) ops (fr n F) h = some (hs, xs, fr n F', h') ∧ ∀ m, m < k → ∀ a b, hs[m]? = some a → hs[m + 1]? = some b → Grows a b) ∧ K F' h'
theorem WG.zero (H : WO P T n ops F h K) : WG P T n 0 ops F h K := .of fun ho => by
  obtain ⟨F', h', ⟨J, r⟩, q⟩ := H.go ho
  refine ⟨F', h', ⟨J, fun j hj => ?_⟩, q⟩
  obtain ⟨hs, xs, e⟩ := runDraw_of ops _ _ _ (r j hj)
  exact ⟨hs, xs, e, fun m hm => absurd hm (Nat.not_lt_zero _)⟩
theorem WG.ee {k : Nat} (he : isE o.op = true) (H : WO P T n [o] F h (fun F' h' => Grows h h' ∧ WG P T n k l F' h' K)) : WG P T n (k + 1) (o :: l) F h K := .of fun ho => by
  simp only [List.all_cons, Bool.and_eq_true] at ho
  obtain ⟨F1, h1, ⟨J1, r1⟩, g1, H2⟩ := H.go (by simp [ho.1])
  obtain ⟨F2, h2, ⟨J2, r2⟩, q⟩ := H2.go ho.2
  refine ⟨F2, h2, ⟨J1 + J2, fun j hj => ?_⟩, q⟩
  obtain ⟨hs, xs, e, hg⟩ := r2 j (by omega)
  obtain ⟨x, e2⟩ := runDraw_one (r1 j (by omega)) e
  rw [he, if_pos rfl] at e2
  refine ⟨_, _, e2, fun m hm a b ha hb => ?_⟩
  cases m with
  | zero =>
    have := runDraw_head _ _ _ _ _ _ e
    simp only [List.getElem?_cons_zero, Option.some.injEq] at ha
    simp only [Nat.zero_add, List.getElem?_cons_succ] at hb
    rw [this] at hb
    cases hb
    exact ha ▸ g1
  | succ m =>
    simp only [List.getElem?_cons_succ] at ha hb
    exact hg m (by omega) a b ha hb
theorem WG.nn {k : Nat} (he : isE o.op = false) (H : WO P T n [o] F h (fun F' h' => WG P T n k l F' h' K)) : WG P T n k (o :: l) F h K := .of fun ho => by
  simp only [List.all_cons, Bool.and_eq_true] at ho
  obtain ⟨F1, h1, ⟨J1, r1⟩, H2⟩ := H.go (by simp [ho.1])
  obtain ⟨F2, h2, ⟨J2, r2⟩, q⟩ := H2.go ho.2
  refine ⟨F2, h2, ⟨J1 + J2, fun j hj => ?_⟩, q⟩
  obtain ⟨hs, xs, e, hg⟩ := r2 j (by omega)
  obtain ⟨x, e2⟩ := runDraw_one (r1 j (by omega)) e
  rw [he, if_neg (by simp)] at e2
  exact ⟨_, _, e2, hg⟩
theorem W.drawG {k : Nat} {chk : List (Nat × Nat × Nat)} (hst : okGr k ops chk = true) (H : WG P T n k ops F h (fun F' h' => allR (chkD ops chk) F' ∧ Q .normal F' h')) : W P T n (.draw ops chk) F h Q := .of fun ho => by
  obtain ⟨F', h', ⟨K, r⟩, hR, q⟩ := H.go ho
  refine ⟨_, F', h', ⟨K + 1, fun k j hk hj => ?_⟩, q⟩
  obtain ⟨k, rfl⟩ : ∃ k', k = k' + 1 := ⟨k - 1, by omega⟩
  obtain ⟨hs, xs, hr, hg⟩ := r j (by omega)
  have hc : chkDraw ops hs xs chk = true := by
    refine chk_gr hr (fun o hm => ?_) hg chk hst (fun d hd x hx => ?_)
    · have : okAO n o = true := List.all_eq_true.1 ho o hm
      simp only [okAO, Bool.and_eq_true] at this
      rw [fr_len]; exact this.1.2
    · have hlt : d < n := by
        have := (List.getElem?_eq_some_iff.1 hx).1
        rwa [fr_len] at this
      rw [fr_get hlt] at hx
      cases hx
      exact allR_get hR d hd
  simp only [evC, hr, hc, if_true]
end
section
variable {P : Program} {T : Nat → CallF} {n : Nat} {F : Fr} {h : Heap} {K : Fr → Heap → Prop} {l : List AOper} {d : Option Nat} {x y z w : Operand}
/-- A piece of a row, its room told. -/
theorem WO.sl3 {α : Type} {E : Enc α} {L : List α} {sz : Nat} {j1 j2 j3 : IntKind} {i j m : Int} {hh : Heap} (r : Row E hh (evF F x) L) (hne : L ≠ []) (hy : evF F y = .s (.int j1 i)) (hz : evF F z = .s (.int j2 j)) (hw : evF F w = .s (.int j3 m)) (hs : E.sz = sz) (h0 : 0 ≤ i) (h1 : i ≤ j) (h2 : j ≤ m) (h3 : m ≤ L.length)
    (k : ∀ a', Row E hh a' ((L.take j.toNat).drop i.toNat) → bo a' = bo (evF F x) → WO P T n l (putF d a' F) h K) : WO P T n (⟨d, none, .p (.slice3 sz x (some y) z w)⟩ :: l) F h K := by
  subst hs
  rcases r.slice (lo := i.toNat) (hi := j.toNat) (by omega) (by omega) with ⟨_, e⟩ | ⟨b, v, o, hb, hr⟩
  · exact absurd e hne
  · refine WO.pv (fun ho => ?_) (k _ hr (by rw [hb]; rfl))
    simp [opds, opdsP] at ho
    simp only [pV, loI, evO_fr ho.1, evO_fr ho.2.1, evO_fr ho.2.2.1, evO_fr ho.2.2.2, hb, hy, hz, hw, Option.bind_some, asI]
    rw [if_pos (by refine ⟨?_, by omega, by omega, by omega, by omega⟩; first | rfl | trivial)]
end
end Go.Proofs.Ytpmoellbfgcefaa.AS
end
section
set_option maxRecDepth 100000
namespace Go.Proofs.Ytpmoellbfgcefaa.AS
open Go Go.Proofs
noncomputable def c4 : ACode := (.seq (.reg [⟨(some 6), none, (.p (.mv (.const (.bool false))))⟩]) (.seq (.seq (.reg [⟨(some 15), none, (.e (.call 18 []))⟩, ⟨(some 16), none, (.p (.sc (.unOp .not 4 (.tmp 15)) 4))⟩]) (.cond (.tmp 16) (.seq (.reg [⟨(some 6), none, (.p (.mv (.const (.bool false))))⟩]) .ret) .skip)) (.seq (.reg [⟨(some 18), none, (.p (.mv (.tmp 0)))⟩, ⟨(some 19), none, (.p (.mv (.tmp 1)))⟩, ⟨(some 20), none, (.e (.bslice 23 1 2 [(.slice none 0 0), (.slice none 0 0)] [(0, (1, (.tmp 18))), (1, (1, (.tmp 19)))]))⟩, ⟨(some 21), none, (.e (.call 12 [(.tmp 20)]))⟩, ⟨(some 17), none, (.p (.mv (.tmp 21)))⟩, ⟨(some 22), none, (.p (.ext (.tmp 17) 0))⟩, ⟨(some 23), none, (.p (.ext (.tmp 17) 1))⟩, ⟨(some 7), none, (.p (.mv (.tmp 22)))⟩, ⟨(some 8), none, (.p (.mv (.tmp 23)))⟩]) (.seq (.reg [⟨(some 25), none, (.p (.mv (.tmp 0)))⟩, ⟨(some 26), none, (.p (.mv (.tmp 1)))⟩, ⟨(some 27), none, (.e (.bslice 23 1 2 [(.slice none 0 0), (.slice none 0 0)] [(0, (1, (.tmp 25))), (1, (1, (.tmp 26)))]))⟩, ⟨(some 28), none, (.e (.call 14 [(.tmp 27)]))⟩, ⟨(some 24), none, (.p (.mv (.tmp 28)))⟩, ⟨(some 29), none, (.p (.ext (.tmp 24) 0))⟩, ⟨(some 30), none, (.p (.ext (.tmp 24) 1))⟩, ⟨(some 9), none, (.p (.mv (.tmp 29)))⟩, ⟨(some 10), none, (.p (.mv (.tmp 30)))⟩]) (.seq (.reg [⟨(some 32), none, (.p (.mv (.tmp 0)))⟩, ⟨(some 33), none, (.p (.mv (.tmp 1)))⟩, ⟨(some 34), none, (.e (.call 16 [(.tmp 32), (.tmp 33)]))⟩, ⟨(some 31), none, (.p (.mv (.tmp 34)))⟩, ⟨(some 35), none, (.p (.ext (.tmp 31) 0))⟩, ⟨(some 36), none, (.p (.ext (.tmp 31) 1))⟩, ⟨(some 11), none, (.p (.mv (.tmp 35)))⟩, ⟨(some 12), none, (.p (.mv (.tmp 36)))⟩]) (.seq (.seq (.reg [⟨(some 37), none, (.p (.mv (.tmp 8)))⟩, ⟨(some 38), none, (.p (.sc (.binOp .neq 24 (.tmp 37) (.const (.int .i64 0)) 24) 4))⟩, ⟨(some 39), none, (.p (.mv (.tmp 38)))⟩, ⟨(some 40), (some (39, false)), (.p (.mv (.tmp 10)))⟩, ⟨(some 41), (some (39, false)), (.p (.sc (.binOp .neq 24 (.tmp 40) (.const (.int .i64 0)) 24) 4))⟩, ⟨(some 42), none, (.p (.pick (.tmp 39) (.const (.bool true)) (.tmp 41)))⟩, ⟨(some 43), none, (.p (.mv (.tmp 42)))⟩, ⟨(some 44), (some (43, false)), (.p (.mv (.tmp 12)))⟩, ⟨(some 45), (some (43, false)), (.p (.sc (.binOp .neq 24 (.tmp 44) (.const (.int .i64 0)) 24) 4))⟩, ⟨(some 46), none, (.p (.pick (.tmp 43) (.const (.bool true)) (.tmp 45)))⟩]) (.cond (.tmp 46) (.seq (.reg [⟨(some 47), none, (.p (.mv (.tmp 8)))⟩, ⟨(some 48), none, (.p (.mv (.tmp 12)))⟩, ⟨(some 49), none, (.p (.sc (.binOp .eql 24 (.tmp 47) (.tmp 48) 24) 4))⟩, ⟨(some 50), none, (.p (.mv (.tmp 49)))⟩, ⟨(some 51), (some (50, true)), (.p (.mv (.tmp 8)))⟩, ⟨(some 52), (some (50, true)), (.p (.sc (.binOp .neq 24 (.tmp 51) (.const (.int .i64 0)) 24) 4))⟩, ⟨(some 53), (some (50, true)), (.p (.mv (.tmp 52)))⟩, ⟨(some 54), (some (53, false)), (.p (.mv (.tmp 10)))⟩, ⟨(some 55), (some (53, false)), (.p (.sc (.binOp .eql 24 (.tmp 54) (.const (.int .i64 15)) 24) 4))⟩, ⟨(some 56), (some (50, true)), (.p (.pick (.tmp 53) (.const (.bool true)) (.tmp 55)))⟩, ⟨(some 57), none, (.p (.pick (.tmp 50) (.tmp 56) (.const (.bool false))))⟩, ⟨(some 6), none, (.p (.mv (.tmp 57)))⟩]) .ret) .skip)) (.seq (.reg [⟨(some 58), none, (.p (.mv (.tmp 0)))⟩, ⟨(some 59), none, (.p (.mv (.tmp 2)))⟩, ⟨(some 60), none, (.e (.call 22 [(.tmp 58), (.tmp 59)]))⟩, ⟨(some 61), none, (.p (.mv (.tmp 1)))⟩, ⟨(some 62), none, (.p (.mv (.tmp 2)))⟩, ⟨(some 63), none, (.e (.call 22 [(.tmp 61), (.tmp 62)]))⟩, ⟨(some 13), none, (.p (.mv (.tmp 60)))⟩, ⟨(some 14), none, (.p (.mv (.tmp 63)))⟩]) (.seq (.reg [⟨(some 64), none, (.p (.mv (.tmp 7)))⟩, ⟨(some 65), none, (.p (.mv (.tmp 2)))⟩, ⟨(some 66), none, (.e (.call 22 [(.tmp 64), (.tmp 65)]))⟩, ⟨(some 67), none, (.p (.mv (.tmp 13)))⟩, ⟨(some 68), none, (.p (.mv (.tmp 67)))⟩, ⟨(some 69), (some (68, true)), (.p (.mv (.tmp 14)))⟩, ⟨(some 70), none, (.p (.pick (.tmp 68) (.tmp 69) (.const (.bool false))))⟩, ⟨(some 71), none, (.p (.sc (.binOp .eql 4 (.tmp 66) (.tmp 70) 4) 4))⟩, ⟨(some 72), none, (.p (.mv (.tmp 71)))⟩, ⟨(some 73), (some (72, true)), (.p (.mv (.tmp 9)))⟩, ⟨(some 74), (some (72, true)), (.p (.mv (.tmp 2)))⟩, ⟨(some 75), (some (72, true)), (.e (.call 22 [(.tmp 73), (.tmp 74)]))⟩, ⟨(some 76), (some (72, true)), (.p (.mv (.tmp 13)))⟩, ⟨(some 77), (some (72, true)), (.p (.mv (.tmp 76)))⟩, ⟨(some 78), (some (77, false)), (.p (.mv (.tmp 14)))⟩, ⟨(some 79), (some (72, true)), (.p (.pick (.tmp 77) (.const (.bool true)) (.tmp 78)))⟩, ⟨(some 80), (some (72, true)), (.p (.sc (.binOp .eql 4 (.tmp 75) (.tmp 79) 4) 4))⟩, ⟨(some 81), none, (.p (.pick (.tmp 72) (.tmp 80) (.const (.bool false))))⟩, ⟨(some 82), none, (.p (.mv (.tmp 81)))⟩, ⟨(some 83), (some (82, true)), (.p (.mv (.tmp 11)))⟩, ⟨(some 84), (some (82, true)), (.p (.mv (.tmp 2)))⟩, ⟨(some 85), (some (82, true)), (.e (.call 22 [(.tmp 83), (.tmp 84)]))⟩, ⟨(some 86), (some (82, true)), (.p (.mv (.tmp 13)))⟩, ⟨(some 87), (some (82, true)), (.p (.mv (.tmp 86)))⟩, ⟨(some 88), (some (87, true)), (.p (.mv (.tmp 14)))⟩, ⟨(some 89), (some (87, true)), (.p (.sc (.unOp .not 4 (.tmp 88)) 4))⟩, ⟨(some 90), (some (82, true)), (.p (.pick (.tmp 87) (.tmp 89) (.const (.bool false))))⟩, ⟨(some 91), (some (82, true)), (.p (.sc (.binOp .eql 4 (.tmp 85) (.tmp 90) 4) 4))⟩, ⟨(some 92), none, (.p (.pick (.tmp 82) (.tmp 91) (.const (.bool false))))⟩, ⟨(some 93), none, (.p (.mv (.tmp 92)))⟩, ⟨(some 94), (some (93, true)), (.p (.mv (.tmp 7)))⟩, ⟨(some 95), (some (93, true)), (.p (.lenS (.tmp 94)))⟩, ⟨(some 96), (some (93, true)), (.p (.mv (.tmp 11)))⟩, ⟨(some 97), (some (93, true)), (.p (.lenS (.tmp 96)))⟩, ⟨(some 98), (some (93, true)), (.p (.sc (.binOp .add 3 (.tmp 95) (.tmp 97) 3) 3))⟩, ⟨(some 99), (some (93, true)), (.p (.mv (.tmp 0)))⟩, ⟨(some 100), (some (93, true)), (.p (.lenS (.tmp 99)))⟩, ⟨(some 101), (some (93, true)), (.p (.sc (.binOp .eql 3 (.tmp 98) (.tmp 100) 3) 4))⟩, ⟨(some 102), none, (.p (.pick (.tmp 93) (.tmp 101) (.const (.bool false))))⟩, ⟨(some 103), none, (.p (.mv (.tmp 102)))⟩, ⟨(some 104), (some (103, true)), (.p (.mv (.tmp 9)))⟩, ⟨(some 105), (some (103, true)), (.p (.lenS (.tmp 104)))⟩, ⟨(some 106), (some (103, true)), (.p (.mv (.tmp 11)))⟩, ⟨(some 107), (some (103, true)), (.p (.lenS (.tmp 106)))⟩, ⟨(some 108), (some (103, true)), (.p (.sc (.binOp .sub 3 (.tmp 105) (.tmp 107) 3) 3))⟩, ⟨(some 109), (some (103, true)), (.p (.mv (.tmp 1)))⟩, ⟨(some 110), (some (103, true)), (.p (.lenS (.tmp 109)))⟩, ⟨(some 111), (some (103, true)), (.p (.sc (.binOp .eql 3 (.tmp 108) (.tmp 110) 3) 4))⟩, ⟨(some 112), none, (.p (.pick (.tmp 103) (.tmp 111) (.const (.bool false))))⟩, ⟨(some 113), none, (.p (.mv (.tmp 112)))⟩, ⟨(some 114), (some (113, true)), (.p (.mv (.tmp 9)))⟩, ⟨(some 115), (some (113, true)), (.e (.call 20 [(.tmp 114)]))⟩, ⟨(some 116), (some (113, true)), (.p (.sc (.binOp .eql 24 (.tmp 115) (.const (.int .i64 0)) 24) 4))⟩, ⟨(some 117), none, (.p (.pick (.tmp 113) (.tmp 116) (.const (.bool false))))⟩, ⟨(some 6), none, (.p (.mv (.tmp 117)))⟩]) .ret))))))))
theorem p4 : prepFn Try.prog 4 = some (.code 118 [(.tmp 6)] c4) := by kernel_rfl
noncomputable def c12 : ACode := (.seq (.reg [⟨(some 2), none, (.p (.mv (.const (.slice none 0 0))))⟩, ⟨(some 3), none, (.p (.mv (.const (.int .i64 0))))⟩]) (.seq (.seq (.reg [⟨(some 8), none, (.p (.mv (.tmp 0)))⟩, ⟨(some 9), none, (.e (.call 45 [(.tmp 8)]))⟩, ⟨(some 4), none, (.p (.mv (.tmp 9)))⟩]) (.seq (.reg [⟨(some 10), none, (.p (.mv (.tmp 4)))⟩, ⟨(some 11), none, (.p (.sc (.binOp .neq 24 (.tmp 10) (.const (.int .i64 0)) 24) 4))⟩, ⟨(some 12), none, (.p (.mv (.tmp 11)))⟩, ⟨(some 13), (some (12, false)), (.p (.mv (.tmp 0)))⟩, ⟨(some 14), (some (12, false)), (.p (.lenS (.tmp 13)))⟩, ⟨(some 15), (some (12, false)), (.p (.sc (.binOp .eql 3 (.tmp 14) (.const (.int .i64 0)) 3) 4))⟩, ⟨(some 16), none, (.p (.pick (.tmp 12) (.const (.bool true)) (.tmp 15)))⟩]) (.cond (.tmp 16) (.seq (.reg [⟨(some 17), none, (.p (.mv (.tmp 4)))⟩, ⟨(some 2), none, (.p (.mv (.const (.slice none 0 0))))⟩, ⟨(some 3), none, (.p (.mv (.tmp 17)))⟩]) .ret) .skip))) (.seq (.reg [⟨(some 18), none, (.p (.mv (.tmp 0)))⟩, ⟨(some 19), none, (.p (.iaddr 1 (.tmp 18) (.const (.int .i64 0))))⟩, ⟨(some 20), none, (.r (.load false 1 (.tmp 19)))⟩, ⟨(some 21), none, (.e (.call 46 [(.tmp 20)]))⟩, ⟨(some 5), none, (.p (.mv (.tmp 21)))⟩]) (.seq (.seq (.reg [⟨(some 22), none, (.p (.mv (.tmp 0)))⟩, ⟨(some 23), none, (.p (.slice 1 (.tmp 22) (some (.const (.int .i64 1))) none))⟩, ⟨(some 24), none, (.p (.lenS (.tmp 23)))⟩, ⟨(some 25), none, (.p (.mv (.const (.int .i64 0))))⟩]) (.block 0 (.loop [26, 27, 28, 29, 30, 31, 32] (.seq (.reg [⟨(some 26), none, (.p (.sc (.binOp .lss 3 (.tmp 25) (.tmp 24) 3) 0))⟩]) (.seq (.cond (.tmp 26) .skip (.exit 0)) (.seq (.block 1 (.seq (.reg [⟨(some 27), none, (.p (.iaddr 1 (.tmp 23) (.tmp 25)))⟩, ⟨(some 28), none, (.r (.load false 1 (.tmp 27)))⟩, ⟨(some 7), none, (.p (.mv (.tmp 28)))⟩]) (.reg [⟨(some 29), none, (.p (.mv (.tmp 5)))⟩, ⟨(some 30), none, (.p (.mv (.tmp 7)))⟩, ⟨(some 31), none, (.e (.call 47 [(.tmp 29), (.tmp 30)]))⟩, ⟨(some 5), none, (.p (.mv (.tmp 31)))⟩]))) (.reg [⟨(some 32), none, (.p (.sc (.binOp .add 3 (.tmp 25) (.const (.int .i64 1)) 3) 3))⟩, ⟨(some 25), none, (.p (.mv (.tmp 32)))⟩]))))))) (.seq (.reg [⟨(some 33), none, (.p (.mv (.tmp 5)))⟩, ⟨(some 2), none, (.p (.mv (.tmp 33)))⟩, ⟨(some 3), none, (.p (.mv (.const (.int .i64 0))))⟩]) .ret)))))
theorem p12 : prepFn Try.prog 12 = some (.code 34 [(.tmp 2), (.tmp 3)] c12) := by kernel_rfl
noncomputable def c14 : ACode := (.seq (.reg [⟨(some 2), none, (.p (.mv (.const (.slice none 0 0))))⟩, ⟨(some 3), none, (.p (.mv (.const (.int .i64 0))))⟩]) (.seq (.seq (.reg [⟨(some 7), none, (.p (.mv (.tmp 0)))⟩, ⟨(some 8), none, (.e (.call 45 [(.tmp 7)]))⟩, ⟨(some 4), none, (.p (.mv (.tmp 8)))⟩]) (.seq (.reg [⟨(some 9), none, (.p (.mv (.tmp 4)))⟩, ⟨(some 10), none, (.p (.sc (.binOp .neq 24 (.tmp 9) (.const (.int .i64 0)) 24) 4))⟩, ⟨(some 11), none, (.p (.mv (.tmp 10)))⟩, ⟨(some 12), (some (11, false)), (.p (.mv (.tmp 0)))⟩, ⟨(some 13), (some (11, false)), (.p (.lenS (.tmp 12)))⟩, ⟨(some 14), (some (11, false)), (.p (.sc (.binOp .eql 3 (.tmp 13) (.const (.int .i64 0)) 3) 4))⟩, ⟨(some 15), none, (.p (.pick (.tmp 11) (.const (.bool true)) (.tmp 14)))⟩]) (.cond (.tmp 15) (.seq (.reg [⟨(some 16), none, (.p (.mv (.tmp 4)))⟩, ⟨(some 2), none, (.p (.mv (.const (.slice none 0 0))))⟩, ⟨(some 3), none, (.p (.mv (.tmp 16)))⟩]) .ret) .skip))) (.seq (.reg [⟨(some 17), none, (.p (.mv (.tmp 0)))⟩, ⟨(some 18), none, (.e (.call 49 [(.tmp 17)]))⟩, ⟨(some 0), none, (.p (.mv (.tmp 18)))⟩]) (.seq (.block 0 (.loop [19, 20, 21, 22, 23, 35] (.seq (.seq (.reg [⟨(some 19), none, (.p (.mv (.tmp 0)))⟩, ⟨(some 20), none, (.p (.lenS (.tmp 19)))⟩, ⟨(some 21), none, (.p (.sc (.binOp .gtr 3 (.tmp 20) (.const (.int .i64 1)) 3) 4))⟩]) (.cond (.tmp 21) .skip (.exit 0))) (.block 1 (.seq (.reg [⟨(some 5), none, (.e (.new 22 1 [(.slice none 0 0)]))⟩]) (.seq (.seq (.reg [⟨(some 22), none, (.p (.mv (.tmp 0)))⟩, ⟨(some 23), none, (.e (.call 50 [(.tmp 22), (.const (.int .i64 2))]))⟩]) (.block 2 (.rangeF (.tmp 23) [24] (.reg [⟨(some 6), none, (.p (.mv (.tmp 24)))⟩]) (.block 3 (.draw [⟨(some 25), none, (.r (.load false 1 (.tmp 5)))⟩, ⟨(some 26), none, (.p (.mv (.tmp 6)))⟩, ⟨(some 27), none, (.p (.iaddr 1 (.tmp 26) (.const (.int .i64 0))))⟩, ⟨(some 28), none, (.r (.load false 1 (.tmp 27)))⟩, ⟨(some 29), none, (.p (.mv (.tmp 6)))⟩, ⟨(some 30), none, (.p (.slice 1 (.tmp 29) (some (.const (.int .i64 1))) none))⟩, ⟨(some 31), none, (.e (.call 52 [(.tmp 30)]))⟩, ⟨(some 32), none, (.e (.call 51 [(.tmp 28), (.tmp 31)]))⟩, ⟨(some 33), none, (.e (.bslice 23 1 1 [(.slice none 0 0)] [(0, (1, (.tmp 32)))]))⟩, ⟨(some 34), none, (.e (.app 23 1 24 (.tmp 25) (.tmp 33)))⟩, ⟨none, none, (.e (.store 1 (.tmp 5) (.tmp 34)))⟩] [(0, (0, 3)), (3, (0, 1))]))))) (.reg [⟨(some 35), none, (.r (.load false 1 (.tmp 5)))⟩, ⟨(some 0), none, (.p (.mv (.tmp 35)))⟩]))))))) (.seq (.seq (.reg [⟨(some 36), none, (.p (.mv (.tmp 0)))⟩, ⟨(some 37), none, (.p (.iaddr 1 (.tmp 36) (.const (.int .i64 0))))⟩, ⟨(some 38), none, (.r (.load false 1 (.tmp 37)))⟩, ⟨(some 39), none, (.p (.lenS (.tmp 38)))⟩, ⟨(some 40), none, (.p (.sc (.binOp .gtr 3 (.tmp 39) (.const (.int .i64 65536)) 3) 4))⟩]) (.cond (.tmp 40) (.seq (.reg [⟨(some 2), none, (.p (.mv (.const (.slice none 0 0))))⟩, ⟨(some 3), none, (.p (.mv (.const (.int .i64 15))))⟩]) .ret) .skip)) (.seq (.reg [⟨(some 41), none, (.p (.mv (.tmp 0)))⟩, ⟨(some 42), none, (.p (.iaddr 1 (.tmp 41) (.const (.int .i64 0))))⟩, ⟨(some 43), none, (.r (.load false 1 (.tmp 42)))⟩, ⟨(some 44), none, (.e (.call 46 [(.tmp 43)]))⟩, ⟨(some 2), none, (.p (.mv (.tmp 44)))⟩, ⟨(some 3), none, (.p (.mv (.const (.int .i64 0))))⟩]) .ret))))))
theorem p14 : prepFn Try.prog 14 = some (.code 45 [(.tmp 2), (.tmp 3)] c14) := by kernel_rfl
noncomputable def c16 : ACode := (.seq (.reg [⟨(some 4), none, (.p (.mv (.const (.slice none 0 0))))⟩, ⟨(some 5), none, (.p (.mv (.const (.int .i64 0))))⟩]) (.seq (.seq (.reg [⟨(some 12), none, (.p (.mv (.tmp 0)))⟩, ⟨(some 13), none, (.p (.mv (.tmp 1)))⟩, ⟨(some 14), none, (.e (.bslice 23 1 2 [(.slice none 0 0), (.slice none 0 0)] [(0, (1, (.tmp 12))), (1, (1, (.tmp 13)))]))⟩, ⟨(some 15), none, (.e (.call 45 [(.tmp 14)]))⟩, ⟨(some 6), none, (.p (.mv (.tmp 15)))⟩]) (.seq (.reg [⟨(some 16), none, (.p (.mv (.tmp 6)))⟩, ⟨(some 17), none, (.p (.sc (.binOp .neq 24 (.tmp 16) (.const (.int .i64 0)) 24) 4))⟩]) (.cond (.tmp 17) (.seq (.reg [⟨(some 18), none, (.p (.mv (.tmp 6)))⟩, ⟨(some 4), none, (.p (.mv (.const (.slice none 0 0))))⟩, ⟨(some 5), none, (.p (.mv (.tmp 18)))⟩]) .ret) .skip))) (.seq (.reg [⟨(some 7), none, (.p (.mv (.const (.slice none 0 0))))⟩]) (.seq (.seq (.reg [⟨(some 19), none, (.p (.mv (.tmp 0)))⟩, ⟨(some 20), none, (.p (.lenS (.tmp 19)))⟩, ⟨(some 21), none, (.p (.mv (.const (.int .i64 0))))⟩]) (.block 0 (.loop [22, 23, 24, 25, 26, 27, 28, 29, 30, 31, 32, 33, 34, 35, 36, 37] (.seq (.reg [⟨(some 22), none, (.p (.sc (.binOp .lss 3 (.tmp 21) (.tmp 20) 3) 0))⟩]) (.seq (.cond (.tmp 22) .skip (.exit 0)) (.seq (.block 1 (.seq (.reg [⟨(some 23), none, (.p (.iaddr 1 (.tmp 19) (.tmp 21)))⟩, ⟨(some 24), none, (.r (.load false 1 (.tmp 23)))⟩, ⟨(some 9), none, (.p (.mv (.tmp 24)))⟩]) (.seq (.reg [⟨(some 26), none, (.p (.mv (.tmp 1)))⟩, ⟨(some 27), none, (.p (.mv (.tmp 9)))⟩, ⟨(some 28), none, (.e (.call 54 [(.tmp 26), (.tmp 27)]))⟩, ⟨(some 25), none, (.p (.mv (.tmp 28)))⟩, ⟨(some 29), none, (.p (.ext (.tmp 25) 0))⟩, ⟨(some 30), none, (.p (.ext (.tmp 25) 1))⟩, ⟨(some 10), none, (.p (.mv (.tmp 29)))⟩, ⟨(some 11), none, (.p (.mv (.tmp 30)))⟩]) (.seq (.reg [⟨(some 31), none, (.p (.mv (.tmp 11)))⟩, ⟨(some 32), none, (.p (.sc (.unOp .not 4 (.tmp 31)) 4))⟩]) (.cond (.tmp 32) (.reg [⟨(some 33), none, (.p (.mv (.tmp 7)))⟩, ⟨(some 34), none, (.p (.mv (.tmp 9)))⟩, ⟨(some 35), none, (.e (.bslice 32 1 1 [(.int .u32 0)] [(0, (1, (.tmp 34)))]))⟩, ⟨(some 36), none, (.e (.app 32 1 4 (.tmp 33) (.tmp 35)))⟩, ⟨(some 7), none, (.p (.mv (.tmp 36)))⟩]) .skip))))) (.reg [⟨(some 37), none, (.p (.sc (.binOp .add 3 (.tmp 21) (.const (.int .i64 1)) 3) 3))⟩, ⟨(some 21), none, (.p (.mv (.tmp 37)))⟩]))))))) (.seq (.reg [⟨(some 38), none, (.p (.mv (.tmp 7)))⟩, ⟨(some 4), none, (.p (.mv (.tmp 38)))⟩, ⟨(some 5), none, (.p (.mv (.const (.int .i64 0))))⟩]) .ret)))))
theorem p16 : prepFn Try.prog 16 = some (.code 39 [(.tmp 4), (.tmp 5)] c16) := by kernel_rfl
noncomputable def c20 : ACode := (.seq (.reg [⟨(some 2), none, (.p (.mv (.const (.int .i64 0))))⟩]) (.seq (.seq (.reg [⟨(some 3), none, (.p (.mv (.const (.int .i64 1))))⟩]) (.block 0 (.loop [2, 4, 5, 6, 7, 8, 9, 10, 11, 12, 13, 14, 15, 16, 17, 18, 19] (.seq (.seq (.reg [⟨(some 4), none, (.p (.mv (.tmp 3)))⟩, ⟨(some 5), none, (.p (.mv (.tmp 0)))⟩, ⟨(some 6), none, (.p (.lenS (.tmp 5)))⟩, ⟨(some 7), none, (.p (.sc (.binOp .lss 3 (.tmp 4) (.tmp 6) 3) 4))⟩]) (.cond (.tmp 7) .skip (.exit 0))) (.seq (.block 1 (.seq (.draw [⟨(some 10), none, (.p (.mv (.tmp 0)))⟩, ⟨(some 11), none, (.p (.mv (.tmp 3)))⟩, ⟨(some 12), none, (.p (.iaddr 1 (.tmp 10) (.tmp 11)))⟩, ⟨(some 13), none, (.r (.load false 1 (.tmp 12)))⟩, ⟨(some 14), none, (.p (.mv (.tmp 0)))⟩, ⟨(some 15), none, (.p (.mv (.tmp 3)))⟩, ⟨(some 16), none, (.p (.sc (.binOp .sub 3 (.tmp 15) (.const (.int .i64 1)) 3) 3))⟩, ⟨(some 17), none, (.p (.iaddr 1 (.tmp 14) (.tmp 16)))⟩, ⟨(some 18), none, (.r (.load false 1 (.tmp 17)))⟩, ⟨(some 19), none, (.p (.sc (.binOp .leq 32 (.tmp 13) (.tmp 18) 32) 4))⟩] []) (.cond (.tmp 19) (.seq (.reg [⟨(some 2), none, (.p (.mv (.const (.int .i64 12))))⟩]) .ret) .skip))) (.reg [⟨(some 8), none, (.p (.mv (.tmp 3)))⟩, ⟨(some 9), none, (.p (.sc (.binOp .add 3 (.tmp 8) (.const (.int .i64 1)) 3) 3))⟩, ⟨(some 3), none, (.p (.mv (.tmp 9)))⟩])))))) (.seq (.seq (.reg [⟨(some 20), none, (.p (.mv (.tmp 0)))⟩, ⟨(some 21), none, (.p (.lenS (.tmp 20)))⟩, ⟨(some 22), none, (.p (.sc (.binOp .gtr 3 (.tmp 21) (.const (.int .i64 65536)) 3) 4))⟩]) (.cond (.tmp 22) (.seq (.reg [⟨(some 2), none, (.p (.mv (.const (.int .i64 15))))⟩]) .ret) .skip)) (.seq (.reg [⟨(some 2), none, (.p (.mv (.const (.int .i64 0))))⟩]) .ret))))
theorem p20 : prepFn Try.prog 20 = some (.code 23 [(.tmp 2)] c20) := by kernel_rfl
noncomputable def c22 : ACode := (.seq (.reg [⟨(some 4), none, (.p (.mv (.const (.bool false))))⟩]) (.seq (.seq (.reg [⟨(some 7), none, (.p (.mv (.tmp 0)))⟩, ⟨(some 8), none, (.p (.lenS (.tmp 7)))⟩, ⟨(some 9), none, (.p (.mv (.const (.int .i64 0))))⟩]) (.block 0 (.loop [4, 10, 11, 12, 13, 14, 15, 16] (.seq (.reg [⟨(some 10), none, (.p (.sc (.binOp .lss 3 (.tmp 9) (.tmp 8) 3) 0))⟩]) (.seq (.cond (.tmp 10) .skip (.exit 0)) (.seq (.block 1 (.seq (.reg [⟨(some 11), none, (.p (.iaddr 1 (.tmp 7) (.tmp 9)))⟩, ⟨(some 12), none, (.r (.load false 1 (.tmp 11)))⟩, ⟨(some 6), none, (.p (.mv (.tmp 12)))⟩]) (.seq (.reg [⟨(some 13), none, (.p (.mv (.tmp 6)))⟩, ⟨(some 14), none, (.p (.mv (.tmp 1)))⟩, ⟨(some 15), none, (.p (.sc (.binOp .eql 32 (.tmp 13) (.tmp 14) 32) 4))⟩]) (.cond (.tmp 15) (.seq (.reg [⟨(some 4), none, (.p (.mv (.const (.bool true))))⟩]) .ret) .skip)))) (.reg [⟨(some 16), none, (.p (.sc (.binOp .add 3 (.tmp 9) (.const (.int .i64 1)) 3) 3))⟩, ⟨(some 9), none, (.p (.mv (.tmp 16)))⟩]))))))) (.seq (.reg [⟨(some 4), none, (.p (.mv (.const (.bool false))))⟩]) .ret)))
theorem p22 : prepFn Try.prog 22 = some (.code 17 [(.tmp 4)] c22) := by kernel_rfl
noncomputable def c45 : ACode := (.seq (.reg [⟨(some 2), none, (.p (.mv (.const (.int .i64 0))))⟩]) (.seq (.seq (.reg [⟨(some 6), none, (.p (.mv (.tmp 0)))⟩, ⟨(some 7), none, (.p (.lenS (.tmp 6)))⟩, ⟨(some 8), none, (.p (.mv (.const (.int .i64 0))))⟩]) (.block 0 (.loop [2, 9, 10, 11, 12, 13, 14, 15, 16, 17] (.seq (.reg [⟨(some 9), none, (.p (.sc (.binOp .lss 3 (.tmp 8) (.tmp 7) 3) 0))⟩]) (.seq (.cond (.tmp 9) .skip (.exit 0)) (.seq (.block 1 (.seq (.reg [⟨(some 10), none, (.p (.iaddr 1 (.tmp 6) (.tmp 8)))⟩, ⟨(some 11), none, (.r (.load false 1 (.tmp 10)))⟩, ⟨(some 4), none, (.p (.mv (.tmp 11)))⟩]) (.seq (.reg [⟨(some 12), none, (.p (.mv (.tmp 4)))⟩, ⟨(some 13), none, (.e (.call 20 [(.tmp 12)]))⟩, ⟨(some 5), none, (.p (.mv (.tmp 13)))⟩]) (.seq (.reg [⟨(some 14), none, (.p (.mv (.tmp 5)))⟩, ⟨(some 15), none, (.p (.sc (.binOp .neq 24 (.tmp 14) (.const (.int .i64 0)) 24) 4))⟩]) (.cond (.tmp 15) (.seq (.reg [⟨(some 16), none, (.p (.mv (.tmp 5)))⟩, ⟨(some 2), none, (.p (.mv (.tmp 16)))⟩]) .ret) .skip))))) (.reg [⟨(some 17), none, (.p (.sc (.binOp .add 3 (.tmp 8) (.const (.int .i64 1)) 3) 3))⟩, ⟨(some 8), none, (.p (.mv (.tmp 17)))⟩]))))))) (.seq (.reg [⟨(some 2), none, (.p (.mv (.const (.int .i64 0))))⟩]) .ret)))
theorem p45 : prepFn Try.prog 45 = some (.code 18 [(.tmp 2)] c45) := by kernel_rfl
noncomputable def c46 : ACode := (.seq (.reg [⟨(some 2), none, (.p (.mv (.const (.slice none 0 0))))⟩]) (.seq (.seq (.reg [⟨(some 3), none, (.p (.mv (.tmp 0)))⟩, ⟨(some 4), none, (.p (.eqnil false 0 (.tmp 3)))⟩]) (.cond (.tmp 4) (.seq (.reg [⟨(some 2), none, (.p (.mv (.const (.slice none 0 0))))⟩]) .ret) .skip)) (.seq (.reg [⟨(some 5), none, (.e (.bslice 32 1 0 [] []))⟩, ⟨(some 6), none, (.p (.mv (.tmp 0)))⟩, ⟨(some 7), none, (.e (.app 32 1 4 (.tmp 5) (.tmp 6)))⟩, ⟨(some 2), none, (.p (.mv (.tmp 7)))⟩]) .ret)))
theorem p46 : prepFn Try.prog 46 = some (.code 8 [(.tmp 2)] c46) := by kernel_rfl
noncomputable def c47 : ACode := (.seq (.reg [⟨(some 4), none, (.p (.mv (.const (.slice none 0 0))))⟩]) (.seq (.seq (.reg [⟨(some 10), none, (.p (.mv (.tmp 0)))⟩, ⟨(some 11), none, (.p (.lenS (.tmp 10)))⟩, ⟨(some 12), none, (.p (.mv (.tmp 1)))⟩, ⟨(some 13), none, (.p (.lenS (.tmp 12)))⟩, ⟨(some 14), none, (.p (.sc (.binOp .gtr 3 (.tmp 11) (.tmp 13) 3) 4))⟩]) (.cond (.tmp 14) (.reg [⟨(some 15), none, (.p (.mv (.tmp 1)))⟩, ⟨(some 16), none, (.p (.mv (.tmp 0)))⟩, ⟨(some 0), none, (.p (.mv (.tmp 15)))⟩, ⟨(some 1), none, (.p (.mv (.tmp 16)))⟩]) .skip)) (.seq (.reg [⟨(some 5), none, (.p (.mv (.const (.slice none 0 0))))⟩]) (.seq (.seq (.reg [⟨(some 17), none, (.p (.mv (.tmp 0)))⟩, ⟨(some 18), none, (.p (.lenS (.tmp 17)))⟩, ⟨(some 19), none, (.p (.mv (.const (.int .i64 0))))⟩]) (.block 0 (.loop [20, 21, 22, 23, 24, 25, 26, 27, 28, 29, 30, 31, 32, 33, 34, 35, 36, 37] (.seq (.reg [⟨(some 20), none, (.p (.sc (.binOp .lss 3 (.tmp 19) (.tmp 18) 3) 0))⟩]) (.seq (.cond (.tmp 20) .skip (.exit 0)) (.seq (.block 1 (.seq (.reg [⟨(some 21), none, (.p (.iaddr 1 (.tmp 17) (.tmp 19)))⟩, ⟨(some 22), none, (.r (.load false 1 (.tmp 21)))⟩, ⟨(some 7), none, (.p (.mv (.tmp 22)))⟩]) (.seq (.reg [⟨(some 24), none, (.p (.mv (.tmp 1)))⟩, ⟨(some 25), none, (.p (.mv (.tmp 7)))⟩, ⟨(some 26), none, (.e (.call 54 [(.tmp 24), (.tmp 25)]))⟩, ⟨(some 23), none, (.p (.mv (.tmp 26)))⟩, ⟨(some 27), none, (.p (.ext (.tmp 23) 0))⟩, ⟨(some 28), none, (.p (.ext (.tmp 23) 1))⟩, ⟨(some 8), none, (.p (.mv (.tmp 27)))⟩, ⟨(some 9), none, (.p (.mv (.tmp 28)))⟩]) (.seq (.seq (.reg [⟨(some 29), none, (.p (.mv (.tmp 9)))⟩]) (.cond (.tmp 29) (.reg [⟨(some 30), none, (.p (.mv (.tmp 5)))⟩, ⟨(some 31), none, (.p (.mv (.tmp 7)))⟩, ⟨(some 32), none, (.e (.bslice 32 1 1 [(.int .u32 0)] [(0, (1, (.tmp 31)))]))⟩, ⟨(some 33), none, (.e (.app 32 1 4 (.tmp 30) (.tmp 32)))⟩, ⟨(some 5), none, (.p (.mv (.tmp 33)))⟩]) .skip)) (.reg [⟨(some 34), none, (.p (.mv (.tmp 1)))⟩, ⟨(some 35), none, (.p (.mv (.tmp 8)))⟩, ⟨(some 36), none, (.p (.slice 1 (.tmp 34) (some (.tmp 35)) none))⟩, ⟨(some 1), none, (.p (.mv (.tmp 36)))⟩]))))) (.reg [⟨(some 37), none, (.p (.sc (.binOp .add 3 (.tmp 19) (.const (.int .i64 1)) 3) 3))⟩, ⟨(some 19), none, (.p (.mv (.tmp 37)))⟩]))))))) (.seq (.reg [⟨(some 38), none, (.p (.mv (.tmp 5)))⟩, ⟨(some 4), none, (.p (.mv (.tmp 38)))⟩]) .ret)))))
theorem p47 : prepFn Try.prog 47 = some (.code 39 [(.tmp 4)] c47) := by kernel_rfl
noncomputable def c49 : ACode := (.seq (.reg [⟨(some 2), none, (.p (.mv (.const (.slice none 0 0))))⟩]) (.seq (.seq (.reg [⟨(some 3), none, (.p (.mv (.tmp 0)))⟩, ⟨(some 4), none, (.p (.eqnil false 0 (.tmp 3)))⟩]) (.cond (.tmp 4) (.seq (.reg [⟨(some 2), none, (.p (.mv (.const (.slice none 0 0))))⟩]) .ret) .skip)) (.seq (.reg [⟨(some 5), none, (.e (.bslice 23 1 0 [] []))⟩, ⟨(some 6), none, (.p (.mv (.tmp 0)))⟩, ⟨(some 7), none, (.e (.app 23 1 24 (.tmp 5) (.tmp 6)))⟩, ⟨(some 2), none, (.p (.mv (.tmp 7)))⟩]) .ret)))
theorem p49 : prepFn Try.prog 49 = some (.code 8 [(.tmp 2)] c49) := by kernel_rfl
noncomputable def c50 : ACode := (.seq (.reg [⟨(some 2), none, (.e (.box 22 1 (.tmp 0)))⟩, ⟨(some 3), none, (.e (.box 3 1 (.tmp 1)))⟩, ⟨(some 4), none, (.p (.mv (.const .nilFunc)))⟩]) (.seq (.seq (.reg [⟨(some 5), none, (.r (.load false 1 (.tmp 3)))⟩, ⟨(some 6), none, (.p (.sc (.binOp .lss 3 (.tmp 5) (.const (.int .i64 1)) 3) 4))⟩]) (.cond (.tmp 6) (.reg [⟨(some 7), none, (.p .bad)⟩, ⟨none, none, (.p .bad)⟩]) .skip)) (.seq (.reg [⟨(some 8), none, (.p (.mkfn (.func 68) [] [(.tmp 2), (.tmp 3)]))⟩, ⟨(some 4), none, (.p (.mv (.tmp 8)))⟩]) .ret)))
theorem p50 : prepFn Try.prog 50 = some (.code 9 [(.tmp 4)] c50) := by kernel_rfl
noncomputable def c51 : ACode := (.seq (.reg [⟨(some 4), none, (.p (.mv (.const (.slice none 0 0))))⟩]) (.seq (.reg [⟨(some 6), none, (.p (.mv (.tmp 0)))⟩, ⟨(some 7), none, (.p (.lenS (.tmp 6)))⟩, ⟨(some 8), none, (.p (.mv (.tmp 1)))⟩, ⟨(some 9), none, (.p (.lenS (.tmp 8)))⟩, ⟨(some 10), none, (.p (.sc (.binOp .add 3 (.tmp 7) (.tmp 9) 3) 3))⟩, ⟨(some 11), none, (.e (.make 32 1 4 [(.int .u32 0)] (.const (.int .i64 0)) (.tmp 10)))⟩, ⟨(some 5), none, (.p (.mv (.tmp 11)))⟩]) (.seq (.block 0 (.loop [12, 13, 14, 15, 16, 17, 18, 19, 20, 21, 22, 23, 24, 25, 26, 27, 28, 29, 30, 31, 32, 33, 34, 35, 36, 37, 38, 39, 40, 41, 42, 43, 44, 45, 46, 47, 48, 49, 50, 51, 52, 53, 54, 55, 56, 57, 58, 59, 60, 61] (.seq (.seq (.reg [⟨(some 12), none, (.p (.mv (.tmp 0)))⟩, ⟨(some 13), none, (.p (.lenS (.tmp 12)))⟩, ⟨(some 14), none, (.p (.sc (.binOp .gtr 3 (.tmp 13) (.const (.int .i64 0)) 3) 4))⟩, ⟨(some 15), none, (.p (.mv (.tmp 14)))⟩, ⟨(some 16), (some (15, true)), (.p (.mv (.tmp 1)))⟩, ⟨(some 17), (some (15, true)), (.p (.lenS (.tmp 16)))⟩, ⟨(some 18), (some (15, true)), (.p (.sc (.binOp .gtr 3 (.tmp 17) (.const (.int .i64 0)) 3) 4))⟩, ⟨(some 19), none, (.p (.pick (.tmp 15) (.tmp 18) (.const (.bool false))))⟩]) (.cond (.tmp 19) .skip (.exit 0))) (.block 1 (.block 2 (.seq (.draw [⟨(some 31), none, (.p (.mv (.tmp 0)))⟩, ⟨(some 32), none, (.p (.iaddr 1 (.tmp 31) (.const (.int .i64 0))))⟩, ⟨(some 33), none, (.r (.load false 1 (.tmp 32)))⟩, ⟨(some 34), none, (.p (.mv (.tmp 1)))⟩, ⟨(some 35), none, (.p (.iaddr 1 (.tmp 34) (.const (.int .i64 0))))⟩, ⟨(some 36), none, (.r (.load false 1 (.tmp 35)))⟩, ⟨(some 37), none, (.p (.sc (.binOp .lss 32 (.tmp 33) (.tmp 36) 32) 4))⟩, ⟨(some 30), none, (.p (.mv (.tmp 37)))⟩] []) (.cond (.tmp 30) (.draw [⟨(some 38), none, (.p (.mv (.tmp 5)))⟩, ⟨(some 39), none, (.p (.mv (.tmp 0)))⟩, ⟨(some 40), none, (.p (.iaddr 1 (.tmp 39) (.const (.int .i64 0))))⟩, ⟨(some 41), none, (.r (.load false 1 (.tmp 40)))⟩, ⟨(some 42), none, (.e (.bslice 32 1 1 [(.int .u32 0)] [(0, (1, (.tmp 41)))]))⟩, ⟨(some 43), none, (.e (.app 32 1 4 (.tmp 38) (.tmp 42)))⟩, ⟨(some 44), none, (.p (.mv (.tmp 0)))⟩, ⟨(some 45), none, (.p (.slice 1 (.tmp 44) (some (.const (.int .i64 1))) none))⟩, ⟨(some 5), none, (.p (.mv (.tmp 43)))⟩, ⟨(some 0), none, (.p (.mv (.tmp 45)))⟩] []) (.seq (.draw [⟨(some 47), none, (.p (.mv (.tmp 0)))⟩, ⟨(some 48), none, (.p (.iaddr 1 (.tmp 47) (.const (.int .i64 0))))⟩, ⟨(some 49), none, (.r (.load false 1 (.tmp 48)))⟩, ⟨(some 50), none, (.p (.mv (.tmp 1)))⟩, ⟨(some 51), none, (.p (.iaddr 1 (.tmp 50) (.const (.int .i64 0))))⟩, ⟨(some 52), none, (.r (.load false 1 (.tmp 51)))⟩, ⟨(some 53), none, (.p (.sc (.binOp .gtr 32 (.tmp 49) (.tmp 52) 32) 4))⟩, ⟨(some 46), none, (.p (.mv (.tmp 53)))⟩] []) (.cond (.tmp 46) (.draw [⟨(some 54), none, (.p (.mv (.tmp 5)))⟩, ⟨(some 55), none, (.p (.mv (.tmp 1)))⟩, ⟨(some 56), none, (.p (.iaddr 1 (.tmp 55) (.const (.int .i64 0))))⟩, ⟨(some 57), none, (.r (.load false 1 (.tmp 56)))⟩, ⟨(some 58), none, (.e (.bslice 32 1 1 [(.int .u32 0)] [(0, (1, (.tmp 57)))]))⟩, ⟨(some 59), none, (.e (.app 32 1 4 (.tmp 54) (.tmp 58)))⟩, ⟨(some 60), none, (.p (.mv (.tmp 1)))⟩, ⟨(some 61), none, (.p (.slice 1 (.tmp 60) (some (.const (.int .i64 1))) none))⟩, ⟨(some 5), none, (.p (.mv (.tmp 59)))⟩, ⟨(some 1), none, (.p (.mv (.tmp 61)))⟩] []) (.draw [⟨(some 20), none, (.p (.mv (.tmp 5)))⟩, ⟨(some 21), none, (.p (.mv (.tmp 0)))⟩, ⟨(some 22), none, (.p (.iaddr 1 (.tmp 21) (.const (.int .i64 0))))⟩, ⟨(some 23), none, (.r (.load false 1 (.tmp 22)))⟩, ⟨(some 24), none, (.e (.bslice 32 1 1 [(.int .u32 0)] [(0, (1, (.tmp 23)))]))⟩, ⟨(some 25), none, (.e (.app 32 1 4 (.tmp 20) (.tmp 24)))⟩, ⟨(some 26), none, (.p (.mv (.tmp 0)))⟩, ⟨(some 27), none, (.p (.slice 1 (.tmp 26) (some (.const (.int .i64 1))) none))⟩, ⟨(some 28), none, (.p (.mv (.tmp 1)))⟩, ⟨(some 29), none, (.p (.slice 1 (.tmp 28) (some (.const (.int .i64 1))) none))⟩, ⟨(some 5), none, (.p (.mv (.tmp 25)))⟩, ⟨(some 0), none, (.p (.mv (.tmp 27)))⟩, ⟨(some 1), none, (.p (.mv (.tmp 29)))⟩] [])))))))))) (.seq (.reg [⟨(some 62), none, (.p (.mv (.tmp 5)))⟩, ⟨(some 63), none, (.p (.mv (.tmp 0)))⟩, ⟨(some 64), none, (.e (.app 32 1 4 (.tmp 62) (.tmp 63)))⟩, ⟨(some 65), none, (.p (.mv (.tmp 1)))⟩, ⟨(some 66), none, (.e (.app 32 1 4 (.tmp 64) (.tmp 65)))⟩, ⟨(some 4), none, (.p (.mv (.tmp 66)))⟩]) .ret))))
theorem p51 : prepFn Try.prog 51 = some (.code 67 [(.tmp 4)] c51) := by kernel_rfl
noncomputable def c52 : ACode := (.seq (.reg [⟨(some 2), none, (.p (.mv (.const (.slice none 0 0))))⟩]) (.seq (.reg [⟨(some 3), none, (.p (.mv (.const (.int .i64 0))))⟩]) (.seq (.seq (.reg [⟨(some 9), none, (.p (.mv (.tmp 0)))⟩, ⟨(some 10), none, (.p (.lenS (.tmp 9)))⟩, ⟨(some 11), none, (.p (.mv (.const (.int .i64 0))))⟩]) (.block 0 (.loop [12, 13, 14, 15, 16, 17, 18, 19, 20, 21, 22] (.seq (.reg [⟨(some 12), none, (.p (.sc (.binOp .lss 3 (.tmp 11) (.tmp 10) 3) 0))⟩]) (.seq (.cond (.tmp 12) .skip (.exit 0)) (.seq (.block 1 (.seq (.reg [⟨(some 13), none, (.p (.iaddr 1 (.tmp 9) (.tmp 11)))⟩, ⟨(some 14), none, (.r (.load false 1 (.tmp 13)))⟩, ⟨(some 5), none, (.p (.mv (.tmp 14)))⟩]) (.seq (.reg [⟨(some 15), none, (.p (.mv (.tmp 3)))⟩, ⟨(some 16), none, (.p (.mv (.tmp 5)))⟩, ⟨(some 17), none, (.p (.lenS (.tmp 16)))⟩, ⟨(some 18), none, (.p (.sc (.binOp .add 3 (.tmp 15) (.tmp 17) 3) 3))⟩, ⟨(some 3), none, (.p (.mv (.tmp 18)))⟩]) (.seq (.reg [⟨(some 19), none, (.p (.mv (.tmp 3)))⟩, ⟨(some 20), none, (.p (.sc (.binOp .lss 3 (.tmp 19) (.const (.int .i64 0)) 3) 4))⟩]) (.cond (.tmp 20) (.reg [⟨(some 21), none, (.p .bad)⟩, ⟨none, none, (.p .bad)⟩]) .skip))))) (.reg [⟨(some 22), none, (.p (.sc (.binOp .add 3 (.tmp 11) (.const (.int .i64 1)) 3) 3))⟩, ⟨(some 11), none, (.p (.mv (.tmp 22)))⟩]))))))) (.seq (.reg [⟨(some 23), none, (.p (.mv (.tmp 3)))⟩, ⟨(some 24), none, (.e (.call 69 [(.const (.slice none 0 0)), (.tmp 23)]))⟩, ⟨(some 6), none, (.p (.mv (.tmp 24)))⟩]) (.seq (.seq (.reg [⟨(some 25), none, (.p (.mv (.tmp 0)))⟩, ⟨(some 26), none, (.p (.lenS (.tmp 25)))⟩, ⟨(some 27), none, (.p (.mv (.const (.int .i64 0))))⟩]) (.block 2 (.loop [28, 29, 30, 31, 32, 33, 34] (.seq (.reg [⟨(some 28), none, (.p (.sc (.binOp .lss 3 (.tmp 27) (.tmp 26) 3) 0))⟩]) (.seq (.cond (.tmp 28) .skip (.exit 2)) (.seq (.block 3 (.seq (.reg [⟨(some 29), none, (.p (.iaddr 1 (.tmp 25) (.tmp 27)))⟩, ⟨(some 30), none, (.r (.load false 1 (.tmp 29)))⟩, ⟨(some 8), none, (.p (.mv (.tmp 30)))⟩]) (.reg [⟨(some 31), none, (.p (.mv (.tmp 6)))⟩, ⟨(some 32), none, (.p (.mv (.tmp 8)))⟩, ⟨(some 33), none, (.e (.app 32 1 4 (.tmp 31) (.tmp 32)))⟩, ⟨(some 6), none, (.p (.mv (.tmp 33)))⟩]))) (.reg [⟨(some 34), none, (.p (.sc (.binOp .add 3 (.tmp 27) (.const (.int .i64 1)) 3) 3))⟩, ⟨(some 27), none, (.p (.mv (.tmp 34)))⟩]))))))) (.seq (.reg [⟨(some 35), none, (.p (.mv (.tmp 6)))⟩, ⟨(some 2), none, (.p (.mv (.tmp 35)))⟩]) .ret))))))
theorem p52 : prepFn Try.prog 52 = some (.code 36 [(.tmp 2)] c52) := by kernel_rfl
noncomputable def c54 : ACode := (.seq (.reg [⟨(some 4), none, (.p (.mv (.const (.int .i64 0))))⟩, ⟨(some 5), none, (.p (.mv (.const (.bool false))))⟩]) (.seq (.reg [⟨(some 10), none, (.p (.mv (.tmp 0)))⟩, ⟨(some 11), none, (.p (.lenS (.tmp 10)))⟩, ⟨(some 6), none, (.p (.mv (.tmp 11)))⟩]) (.seq (.reg [⟨(some 12), none, (.p (.mv (.tmp 6)))⟩, ⟨(some 7), none, (.p (.mv (.const (.int .i64 0))))⟩, ⟨(some 8), none, (.p (.mv (.tmp 12)))⟩]) (.seq (.block 0 (.loop [13, 14, 15, 16, 17, 18, 19, 20, 21, 22, 23, 24, 25, 26, 27, 28, 29, 30] (.seq (.seq (.reg [⟨(some 13), none, (.p (.mv (.tmp 7)))⟩, ⟨(some 14), none, (.p (.mv (.tmp 8)))⟩, ⟨(some 15), none, (.p (.sc (.binOp .lss 3 (.tmp 13) (.tmp 14) 3) 4))⟩]) (.cond (.tmp 15) .skip (.exit 0))) (.block 1 (.seq (.reg [⟨(some 16), none, (.p (.mv (.tmp 7)))⟩, ⟨(some 17), none, (.p (.mv (.tmp 8)))⟩, ⟨(some 18), none, (.p (.sc (.binOp .add 3 (.tmp 16) (.tmp 17) 3) 3))⟩, ⟨(some 19), none, (.p (.sc (.convert 3 114 (.tmp 18)) 114))⟩, ⟨(some 20), none, (.p (.sc (.binOp .shr 114 (.tmp 19) (.const (.int .u64 1)) 114) 114))⟩, ⟨(some 21), none, (.p (.sc (.convert 114 3 (.tmp 20)) 3))⟩, ⟨(some 9), none, (.p (.mv (.tmp 21)))⟩]) (.seq (.reg [⟨(some 22), none, (.p (.mv (.tmp 0)))⟩, ⟨(some 23), none, (.p (.mv (.tmp 9)))⟩, ⟨(some 24), none, (.p (.iaddr 1 (.tmp 22) (.tmp 23)))⟩, ⟨(some 25), none, (.r (.load false 1 (.tmp 24)))⟩, ⟨(some 26), none, (.p (.mv (.tmp 1)))⟩, ⟨(some 27), none, (.e (.call 70 [(.tmp 25), (.tmp 26)]))⟩]) (.cond (.tmp 27) (.reg [⟨(some 28), none, (.p (.mv (.tmp 9)))⟩, ⟨(some 29), none, (.p (.sc (.binOp .add 3 (.tmp 28) (.const (.int .i64 1)) 3) 3))⟩, ⟨(some 7), none, (.p (.mv (.tmp 29)))⟩]) (.reg [⟨(some 30), none, (.p (.mv (.tmp 9)))⟩, ⟨(some 8), none, (.p (.mv (.tmp 30)))⟩])))))))) (.seq (.reg [⟨(some 31), none, (.p (.mv (.tmp 7)))⟩, ⟨(some 32), none, (.p (.mv (.tmp 7)))⟩, ⟨(some 33), none, (.p (.mv (.tmp 6)))⟩, ⟨(some 34), none, (.p (.sc (.binOp .lss 3 (.tmp 32) (.tmp 33) 3) 4))⟩, ⟨(some 35), none, (.p (.mv (.tmp 34)))⟩, ⟨(some 36), (some (35, true)), (.p (.mv (.tmp 0)))⟩, ⟨(some 37), (some (35, true)), (.p (.mv (.tmp 7)))⟩, ⟨(some 38), (some (35, true)), (.p (.iaddr 1 (.tmp 36) (.tmp 37)))⟩, ⟨(some 39), (some (35, true)), (.r (.load false 1 (.tmp 38)))⟩, ⟨(some 40), (some (35, true)), (.p (.mv (.tmp 1)))⟩, ⟨(some 41), (some (35, true)), (.p (.sc (.binOp .eql 32 (.tmp 39) (.tmp 40) 32) 4))⟩, ⟨(some 42), (some (35, true)), (.p (.mv (.tmp 41)))⟩, ⟨(some 43), (some (42, false)), (.p (.mv (.tmp 0)))⟩, ⟨(some 44), (some (42, false)), (.p (.mv (.tmp 7)))⟩, ⟨(some 45), (some (42, false)), (.p (.iaddr 1 (.tmp 43) (.tmp 44)))⟩, ⟨(some 46), (some (42, false)), (.r (.load false 1 (.tmp 45)))⟩, ⟨(some 47), (some (42, false)), (.e (.call 71 [(.tmp 46)]))⟩, ⟨(some 48), (some (42, false)), (.p (.mv (.tmp 47)))⟩, ⟨(some 49), (some (48, true)), (.p (.mv (.tmp 1)))⟩, ⟨(some 50), (some (48, true)), (.e (.call 71 [(.tmp 49)]))⟩, ⟨(some 51), (some (42, false)), (.p (.pick (.tmp 48) (.tmp 50) (.const (.bool false))))⟩, ⟨(some 52), (some (35, true)), (.p (.pick (.tmp 42) (.const (.bool true)) (.tmp 51)))⟩, ⟨(some 53), none, (.p (.pick (.tmp 35) (.tmp 52) (.const (.bool false))))⟩, ⟨(some 4), none, (.p (.mv (.tmp 31)))⟩, ⟨(some 5), none, (.p (.mv (.tmp 53)))⟩]) .ret)))))
theorem p54 : prepFn Try.prog 54 = some (.code 54 [(.tmp 4), (.tmp 5)] c54) := by kernel_rfl
noncomputable def c68 : ACode := (.seq (.reg [⟨(some 4), none, (.p (.mv (.const (.int .i64 0))))⟩]) (.block 0 (.loop [6, 7, 8, 9, 10, 11, 12, 13, 14, 15, 16, 17, 18, 19, 20, 21, 22, 23, 24, 25, 26, 27, 28, 29, 30] (.seq (.seq (.reg [⟨(some 6), none, (.p (.mv (.tmp 4)))⟩, ⟨(some 7), none, (.r (.load false 1 (.tmp 1)))⟩, ⟨(some 8), none, (.p (.lenS (.tmp 7)))⟩, ⟨(some 9), none, (.p (.sc (.binOp .lss 3 (.tmp 6) (.tmp 8) 3) 4))⟩]) (.cond (.tmp 9) .skip (.exit 0))) (.seq (.block 1 (.seq (.draw [⟨(some 13), none, (.r (.load false 1 (.tmp 2)))⟩, ⟨(some 14), none, (.r (.load false 1 (.tmp 1)))⟩, ⟨(some 15), none, (.p (.mv (.tmp 4)))⟩, ⟨(some 16), none, (.p (.slice 1 (.tmp 14) (some (.tmp 15)) none))⟩, ⟨(some 17), none, (.p (.lenS (.tmp 16)))⟩, ⟨(some 18), none, (.p (.sc (.call ⟨(.builtin .min), #[(.tmp 13), (.tmp 17)], #[3, 3]⟩) 3))⟩, ⟨(some 5), none, (.p (.mv (.tmp 18)))⟩] []) (.seq (.reg [⟨(some 19), none, (.p (.mv (.tmp 0)))⟩, ⟨(some 20), none, (.r (.load false 1 (.tmp 1)))⟩, ⟨(some 21), none, (.p (.mv (.tmp 4)))⟩, ⟨(some 22), none, (.p (.mv (.tmp 4)))⟩, ⟨(some 23), none, (.p (.mv (.tmp 5)))⟩, ⟨(some 24), none, (.p (.sc (.binOp .add 3 (.tmp 22) (.tmp 23) 3) 3))⟩, ⟨(some 25), none, (.p (.mv (.tmp 4)))⟩, ⟨(some 26), none, (.p (.mv (.tmp 5)))⟩, ⟨(some 27), none, (.p (.sc (.binOp .add 3 (.tmp 25) (.tmp 26) 3) 3))⟩, ⟨(some 28), none, (.p (.slice3 1 (.tmp 20) (some (.tmp 21)) (.tmp 24) (.tmp 27)))⟩, ⟨(some 29), none, (.e (.callv (.tmp 19) [(.tmp 28)]))⟩, ⟨(some 30), none, (.p (.sc (.unOp .not 4 (.tmp 29)) 4))⟩]) (.cond (.tmp 30) .ret .skip)))) (.reg [⟨(some 10), none, (.p (.mv (.tmp 4)))⟩, ⟨(some 11), none, (.r (.load false 1 (.tmp 2)))⟩, ⟨(some 12), none, (.p (.sc (.binOp .add 3 (.tmp 10) (.tmp 11) 3) 3))⟩, ⟨(some 4), none, (.p (.mv (.tmp 12)))⟩]))))))
theorem p68 : prepFn Try.prog 68 = some (.code 31 [] c68) := by kernel_rfl
noncomputable def c69 : ACode := (.seq (.reg [⟨(some 4), none, (.p (.mv (.const (.slice none 0 0))))⟩]) (.seq (.seq (.reg [⟨(some 5), none, (.p (.mv (.tmp 1)))⟩, ⟨(some 6), none, (.p (.sc (.binOp .lss 3 (.tmp 5) (.const (.int .i64 0)) 3) 4))⟩]) (.cond (.tmp 6) (.reg [⟨(some 7), none, (.p .bad)⟩, ⟨none, none, (.p .bad)⟩]) .skip)) (.seq (.seq (.reg [⟨(some 8), none, (.p (.mv (.tmp 1)))⟩, ⟨(some 9), none, (.p (.mv (.tmp 0)))⟩, ⟨(some 10), none, (.p (.capN (.tmp 9)))⟩, ⟨(some 11), none, (.p (.mv (.tmp 0)))⟩, ⟨(some 12), none, (.p (.lenS (.tmp 11)))⟩, ⟨(some 13), none, (.p (.sc (.binOp .sub 3 (.tmp 10) (.tmp 12) 3) 3))⟩, ⟨(some 14), none, (.p (.sc (.binOp .sub 3 (.tmp 8) (.tmp 13) 3) 3))⟩, ⟨(some 1), none, (.p (.mv (.tmp 14)))⟩]) (.seq (.reg [⟨(some 15), none, (.p (.mv (.tmp 1)))⟩, ⟨(some 16), none, (.p (.sc (.binOp .gtr 3 (.tmp 15) (.const (.int .i64 0)) 3) 4))⟩]) (.cond (.tmp 16) (.reg [⟨(some 17), none, (.p (.mv (.tmp 0)))⟩, ⟨(some 18), none, (.p (.mv (.tmp 0)))⟩, ⟨(some 19), none, (.p (.capN (.tmp 18)))⟩, ⟨(some 20), none, (.p (.slice 1 (.tmp 17) none (some (.tmp 19))))⟩, ⟨(some 21), none, (.p (.mv (.tmp 1)))⟩, ⟨(some 22), none, (.e (.appz 32 1 4 [(.int .u32 0)] (.tmp 20) (.tmp 21)))⟩, ⟨(some 23), none, (.p (.mv (.tmp 0)))⟩, ⟨(some 24), none, (.p (.lenS (.tmp 23)))⟩, ⟨(some 25), none, (.p (.slice 1 (.tmp 22) none (some (.tmp 24))))⟩, ⟨(some 0), none, (.p (.mv (.tmp 25)))⟩]) .skip))) (.seq (.reg [⟨(some 26), none, (.p (.mv (.tmp 0)))⟩, ⟨(some 4), none, (.p (.mv (.tmp 26)))⟩]) .ret))))
theorem p69 : prepFn Try.prog 69 = some (.code 27 [(.tmp 4)] c69) := by kernel_rfl
noncomputable def c70 : ACode := (.seq (.reg [⟨(some 4), none, (.p (.mv (.const (.bool false))))⟩]) (.seq (.reg [⟨(some 5), none, (.p (.mv (.tmp 0)))⟩, ⟨(some 6), none, (.e (.call 83 [(.tmp 5)]))⟩, ⟨(some 7), none, (.p (.mv (.tmp 6)))⟩, ⟨(some 8), (some (7, true)), (.p (.mv (.tmp 1)))⟩, ⟨(some 9), (some (7, true)), (.e (.call 83 [(.tmp 8)]))⟩, ⟨(some 10), (some (7, true)), (.p (.sc (.unOp .not 4 (.tmp 9)) 4))⟩, ⟨(some 11), none, (.p (.pick (.tmp 7) (.tmp 10) (.const (.bool false))))⟩, ⟨(some 12), none, (.p (.mv (.tmp 11)))⟩, ⟨(some 13), (some (12, false)), (.p (.mv (.tmp 0)))⟩, ⟨(some 14), (some (12, false)), (.p (.mv (.tmp 1)))⟩, ⟨(some 15), (some (12, false)), (.p (.sc (.binOp .lss 32 (.tmp 13) (.tmp 14) 32) 4))⟩, ⟨(some 16), none, (.p (.pick (.tmp 12) (.const (.bool true)) (.tmp 15)))⟩, ⟨(some 4), none, (.p (.mv (.tmp 16)))⟩]) .ret))
theorem p70 : prepFn Try.prog 70 = some (.code 17 [(.tmp 4)] c70) := by kernel_rfl
noncomputable def c71 : ACode := (.seq (.reg [⟨(some 2), none, (.p (.mv (.const (.bool false))))⟩]) (.seq (.reg [⟨(some 3), none, (.p (.mv (.tmp 0)))⟩, ⟨(some 4), none, (.p (.mv (.tmp 0)))⟩, ⟨(some 5), none, (.p (.sc (.binOp .neq 32 (.tmp 3) (.tmp 4) 32) 4))⟩, ⟨(some 2), none, (.p (.mv (.tmp 5)))⟩]) .ret))
theorem p71 : prepFn Try.prog 71 = some (.code 6 [(.tmp 2)] c71) := by kernel_rfl
noncomputable def c83 : ACode := (.seq (.reg [⟨(some 2), none, (.p (.mv (.const (.bool false))))⟩]) (.seq (.reg [⟨(some 3), none, (.p (.mv (.tmp 0)))⟩, ⟨(some 4), none, (.p (.mv (.tmp 0)))⟩, ⟨(some 5), none, (.p (.sc (.binOp .neq 32 (.tmp 3) (.tmp 4) 32) 4))⟩, ⟨(some 2), none, (.p (.mv (.tmp 5)))⟩]) .ret))
theorem p83 : prepFn Try.prog 83 = some (.code 6 [(.tmp 2)] c83) := by kernel_rfl
end Go.Proofs.Ytpmoellbfgcefaa.AS
end
section
set_option autoImplicit false
set_option linter.unusedSimpArgs false
namespace Go.Proofs.Ytpmoellbfgcefaa.AS
open Go Go.RowKit
section
variable {P : Program} {tm : List AV}
def minV (P : Program) (t t2 ty : TypeId) (a b : Option AV) : Option AV :=
  match a.bind toV, b.bind toV with
  | some u, some v => (semv P (Builtin.min_ #[t, t2] ty #[u, v])).map .s
  | _, _ => none
@[simp] theorem sc_min (x y : Operand) (t t2 ty : TypeId) : scV P tm (.call ⟨.builtin .min, #[x, y], #[t, t2]⟩) ty = minV P t t2 ty (evO tm x) (evO tm y) := by
  unfold scV minV
  simp only [Op.operands, Call.operands, Array.empty_append, List.append_nil, List.nil_append, List.all_cons, List.all_nil, Bool.and_true, notSel]
  cases hx : (evO tm x).bind toV with
  | none => simp
  | some u =>
    cases hy : (evO tm y).bind toV with
    | none => simp
    | some v =>
      simp only [Option.isSome_some, Bool.and_self, if_true, execOp, opOf, resolve, envV, List.map_toArray, List.map_cons, List.map_nil, hx, hy, Option.getD_some, pure_bind, invoke, builtin]
      rw [semv_value]
      generalize semv P (Builtin.min_ #[t, t2] ty #[u, v]) = o
      cases o <;> rfl
@[simp] theorem minV_i {t t2 ty : TypeId} (k : IntKind) (a b : Int) : minV P t t2 ty (some (.s (.int k a))) (some (.s (.int k b))) = some (.s (.int k (if b < a then b else a))) := by
  simp [minV, toV, Builtin.min_, Builtin.min2, semv_pure]
end
end Go.Proofs.Ytpmoellbfgcefaa.AS
end
section
set_option maxRecDepth 100000
namespace Go.Proofs.Ytpmoellbfgcefaa.AS
open Go Go.Proofs Go.RowKit
def tyTab : List Nat := [0,0,4,4,10,5,5,0,0,9,9,9,8,0,0,0,0,0,0,0,0,3,0,0,4,0,0,0,0,0,0,0,7,0,0,8,0,0,0,0,0,0,0,0,0,0,0,0,0,0,0,0,0,0,0,0,0,0,0,0,0,0,0,0,0,0,0,0,0,0,0,0,0,0,0,0,0,0,0,0,0,0,0,0,0,0,0,0,0,0,0,0,0,0,0,0,0,0,0,0,0,0,0,0,0,0,0,0,0,0,0,0,0,0,8,0,0,0,0,0,0,0,0,0,0,0,0,0,0,0,0,0,0,0,0,0,0,0,5,5,0,0,3,3,0,0,0,0,0,0,0,0,0,0,0,0,0,0,0,0]
theorem tyTab_ok : undTab Try.prog 160 = tyTab := by kernel_rfl
theorem kd {t : Nat} {k : IntKind} (h : kdN (nthN tyTab t) = some k) : Try.prog.underlying t = some (.int k) := kd_of tyTab_ok h
theorem st {t : Nat} (h : Nat.beq (nthN tyTab t) 9 = true) : Try.prog.underlying t = some .string := str_of tyTab_ok h
theorem tb {t : Nat} (h : Nat.beq (nthN tyTab t) 10 = true) : Try.prog.underlying t = some .bool := bl_of tyTab_ok h
noncomputable abbrev TT : Nat → CallF := evFn Try.prog (prepFn Try.prog)
theorem TT_ok : TabOK Try.prog (prepFn Try.prog) := tab0 _
theorem hm : Try.prog.follows .mixedOrders = true := by kernel_rfl
end Go.Proofs.Ytpmoellbfgcefaa.AS
end
