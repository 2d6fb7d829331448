/- Of our own: an abstract machine beside the model, its soundness, and walks of the program in it. -/
import Derived.Test.YtdgnddidibpilaaDoorA2
import Derived.IntWalk
set_option linter.unusedSimpArgs false
set_option linter.unusedVariables false
section
set_option autoImplicit false
namespace Go.Proofs.YtdgnddidibpilaaDoor.AS
open Go Go.RowKit

theorem cell_of_shape {w : World} {b n : Nat} {e : TypeId} (h : w.shape? b = some (e, n)) {j : Nat} (hj : j < n) : (w.cell? ⟨b, j, none⟩).isSome = true := by
  unfold World.shape? at h
  unfold World.cell?
  simp only
  split at h
  · rename_i c el fr hc
    cases h
    simp [hj]
  · cases h

theorem flatten_replicate_get {α : Type} (l : List α) : ∀ (c j : Nat), j < c * l.length → (List.replicate c l).flatten[j]? = l[j % l.length]?
  | 0, j, h => by simp at h
  | c + 1, j, h => by
    rw [List.replicate_succ, List.flatten_cons]
    rcases Nat.lt_or_ge j l.length with hj | hj
    · rw [List.getElem?_append_left hj, Nat.mod_eq_of_lt hj]
    · rw [List.getElem?_append_right hj, flatten_replicate_get l c (j - l.length) (by rw [Nat.succ_mul] at h; omega)]
      congr 1
      rw [← Nat.mod_eq_sub_mod hj]

/-- What an operation with an effect leaves. -/
structure Eff (P : Program) (base : Nat) (W : World) (ρ : PM) (w : World) (r : AV × Heap) (v : Value) (w' : World) (ρ' : PM) : Prop where
  ext : Ext ρ ρ'
  keep : Keep w w'
  rv : RV ρ' w' r.1 v
  hr : HR P base W ρ' r.2 w'

section sound
variable {P : Program} {base : Nat} {W : World} {ρ : PM} {w : World} {a : Act} {tm : List AV} {h : Heap}

theorem eff_alloc (H : HR P base W ρ h w) (cs : Array Value) (l : List AV) (e : TypeId) {i : TypeInfo} (hi : P.info? e = some i) (hl : RVs ρ w l cs.toList) :
    HR P base W (upd ρ h.length 0 ⟨w.heap.size, 0, e, i.size, true⟩) (h ++ [⟨0, e, i.size, true, l⟩]) (w.alloc (.cells cs e)) ∧
      Ext ρ (upd ρ h.length 0 ⟨w.heap.size, 0, e, i.size, true⟩) ∧ Keep w (w.alloc (.cells cs e)) :=
  H.alloc cs l e i.size (fun j hj => by rw [hi] at hj; cases hj; rfl) fun j x hx => by
    obtain ⟨v, hv, hr⟩ := RVs_get hl hx
    exact ⟨v, by rw [← Array.getElem?_toList]; exact hv, hr⟩

theorem allCell_RVs {l : List AV} {vs : List Value} (h : l.all isCell = true) (hr : RVs ρ w l vs) : ∀ u ∈ vs, u.oneCell' = true := by
  intro u hu
  obtain ⟨i, hi⟩ := List.mem_iff_getElem?.1 hu
  obtain ⟨x, hx, hxr⟩ := RVs_get' hr hi
  exact isCell_one (List.all_eq_true.1 h x (List.mem_iff_getElem?.2 ⟨i, hx⟩)) hxr

theorem wrn_sound (H : HR P base W ρ h w) {b ver off : Nat} {l : List AV} {h' : Heap} (hw : wrn h b ver off l = some h') {p : Place} (hp : ρ b ver = some p) {vs : List Value} (hr : RVs ρ w l vs) (hc : l.all isCell = true) :
    ∃ w', (storeCells ⟨p.blk, p.off + off, none⟩ vs).run P w = .ok () w' ∧ w' = w.setCells p.blk (p.off + off) vs ∧ HR P base W ρ h' w' ∧ Keep w w' := by
  unfold wrn at hw
  split at hw
  · rename_i k hk
    split at hw
    · rename_i hcond
      obtain ⟨rfl, hrw, hlen⟩ := hcond
      cases hw
      obtain ⟨p', h1, h2, h3, h4, h5, h6, h7, h8⟩ := H.blk b k hk
      rw [hp] at h1; cases h1
      obtain ⟨a1, a2, ⟨n, a3⟩, a4⟩ := h8 hrw
      have hvl := RVs_length hr
      have hcells : ∀ j, j < vs.length → (w.cell? ⟨p.blk, p.off + off + j, none⟩).isSome = true := by
        intro j hj
        obtain ⟨v, hv, _⟩ := h7 (off + j) _ (List.getElem?_eq_getElem (show off + j < k.cells.length by omega))
        rw [Nat.add_assoc, hv]; rfl
      have hst := run_storeCells_cells (P := P) p.blk (p.off + off) vs 0 w (by simpa using hcells) (by simpa using fun j hj => a2 _ (lt_shN (hcells j hj))) (allCell_RVs hc hr)
      refine ⟨_, by simpa using hst, by simp, ?_, Keep.setCells _ _ _ _⟩
      refine H.write hk hp hrw off vs _ hcells fun j x hx => ?_
      have hin : j < k.cells.length := by
        have := (List.getElem?_eq_some_iff.1 hx).1
        simp only [List.length_append, List.length_take, List.length_drop] at this
        omega
      by_cases hj : off ≤ j ∧ j < off + vs.length
      · rw [if_pos hj]
        rw [List.append_assoc, List.getElem?_append_right (by simp; omega), List.getElem?_append_left (by simp; omega)] at hx
        simp only [List.length_take] at hx
        rw [Nat.min_eq_left (by omega)] at hx
        exact RVs_get hr hx
      · rw [if_neg hj]
        have hx' : k.cells[j]? = some x := by
          rcases Nat.lt_or_ge j off with hlt | hge
          · rw [List.append_assoc, List.getElem?_append_left (by simp; omega), List.getElem?_take_of_lt hlt] at hx
            exact hx
          · rw [List.getElem?_append_right (by simp; omega)] at hx
            simp only [List.length_append, List.length_take] at hx
            rw [List.getElem?_drop] at hx
            rw [← hx]
            congr 1
            omega
        exact h7 j x hx'
    · cases hw
  · cases hw

theorem srcA_sound (H : HR P base W ρ h w) {sz : Nat} {y : AV} {v : Value} {m : Nat} {l : List AV} (hs : srcA h sz y = some (m, l)) (hv : RV ρ w y v) (hc : l.all isCell = true) {tx : TypeId}
    (hk : (∃ e', P.underlying tx = some (.slice e')) ∨ P.underlying tx = some .string) : ∃ news, Src P sz tx v m news w ∧ RVs ρ w l news := by
  cases y with
  | sl b ver off n z =>
    simp only [srcA, Option.map_eq_some_iff, Prod.mk.injEq] at hs
    obtain ⟨l', hl', rfl, rfl⟩ := hs
    obtain ⟨p, cap, ad, ⟨hp1, _⟩, rfl, hp3, hp4, _⟩ := hv
    obtain ⟨hll, vs, hvl, hrs, hcell⟩ := rdn_RVs H hl' hp1
    have hone := allCell_RVs hc hrs
    have hcell' : ∀ j u, vs[j]? = some u → w.cell? (ad.add j) = some u := by
      intro j u hu
      rcases hp4 with ⟨h0, _⟩ | rfl
      · have hj := (List.getElem?_eq_some_iff.1 hu).1
        have : n = 0 := by omega
        subst this
        omega
      · rw [Addr_add]; exact hcell j u hu
    exact ⟨vs, ⟨hk, fun _ => rfl, run_firstCells_some w sz n ad n cap vs hvl hcell', run_firstCells_some w.drew sz n ad n cap vs hvl (by simpa using hcell'), hvl, hone⟩, hrs⟩
  | s u =>
    have hu : v = u := hv
    subst hu
    cases v with
    | slice ad n c =>
      cases ad with
      | none =>
        cases n with
        | zero =>
          cases c with
          | zero =>
            simp only [srcA, Option.some.injEq, Prod.mk.injEq] at hs
            obtain ⟨rfl, rfl⟩ := hs
            exact ⟨[], ⟨hk, fun _ => rfl, run_firstCells_none w sz 0 0 0, run_firstCells_none w.drew sz 0 0 0, by simp, fun _ h => by cases h⟩, trivial⟩
          | succ _ => simp [srcA] at hs
        | succ _ => simp [srcA] at hs
      | some _ => simp [srcA] at hs
    | string s =>
      simp only [srcA] at hs
      split at hs
      · rename_i h1
        subst h1
        simp only [Option.some.injEq, Prod.mk.injEq] at hs
        obtain ⟨rfl, rfl⟩ := hs
        refine ⟨byteCells s, ⟨hk, fun _ => rfl, firstCells_string s w, firstCells_string s w.drew, by rw [byteCells_length, Nat.mul_one], fun u hu => by
          obtain ⟨_, _, rfl⟩ := List.mem_map.1 hu
          rfl⟩, ?_⟩
        have : (s.data.toList.map fun b => AV.s (.int .u8 b.toNat)) = (byteCells s).map AV.s := by simp [byteCells]
        rw [this]
        exact RVs_s _
      · cases hs
    | _ => simp [srcA] at hs
  | _ => simp [srcA] at hs

theorem growslice_ok {need old bytes : Nat} (h : old < need) (hb : need * bytes ≤ 140737488355328) : Builtin.nextslicecap need old * bytes ≤ 281474976710656 := growslice_fits h hb

/-- append, at the heaps. -/
theorem app_sound (H : HR P base W ρ h w) {t tx e : TypeId} {i : TypeInfo} {z : Value} (ht : P.underlying t = some (.slice e)) (hi : P.info? e = some i) (hz : i.zero = some z) (hzs : z.cells.size = i.size) (hpos : 0 < i.size)
    (hk : (∃ e', P.underlying tx = some (.slice e')) ∨ P.underlying tx = some .string) (ty : TypeId) {g : CallF} {x y : Operand} {r : AV × Heap} (hv : eV g tm h (.app e i.size i.bytes x y) = some r) (hr : RVs ρ w tm a.tmps.toList) :
    ∃ v w' ρ', (Builtin.append_ #[t, tx] ty #[a.eval x, a.eval y]).run P w = .ok v w' ∧ Eff P base W ρ w r v w' ρ' := by
  simp only [eV] at hv
  split at hv
  · rename_i m l hx hy
    obtain ⟨yv, hyv, hsrc⟩ := Option.bind_eq_some_iff.1 hy
    have hx' : a.eval x = .slice none 0 0 := evO_RV hr hx
    rw [hx']
    have hyr := evO_RV hr hyv
    split at hv
    · rename_i h0
      subst h0
      cases hv
      -- nothing onto nothing
      have hlt : ∃ news, (Builtin.lenOf (a.eval y)).run P w = .ok 0 w ∧ (Builtin.firstCells i.size 0 (a.eval y)).run P w = .ok news w := by
        cases yv with
        | sl b ver off n sz =>
          simp only [srcA, Option.map_eq_some_iff, Prod.mk.injEq] at hsrc
          obtain ⟨_, _, rfl, _⟩ := hsrc
          obtain ⟨p, cap, ad, _, hv', _⟩ := hyr
          rw [hv']
          exact ⟨#[], rfl, by simpa using run_firstCells_some (P := P) w i.size 0 ad 0 cap [] (by simp) (fun j v hj => by simp at hj)⟩
        | s u =>
          have hu : a.eval y = u := hyr
          rw [hu]
          cases u with
          | slice ad n c =>
            cases ad <;> cases n <;> cases c <;> simp [srcA] at hsrc
            exact ⟨#[], rfl, run_firstCells_none w i.size 0 0 0⟩
          | string s =>
            simp only [srcA] at hsrc
            split at hsrc
            · simp only [Option.some.injEq, Prod.mk.injEq] at hsrc
              exact ⟨_, by simp [Builtin.lenOf, hsrc.1], by simp [Builtin.firstCells]; rfl⟩
            · cases hsrc
          | _ => simp [srcA] at hsrc
        | _ => simp [srcA] at hsrc
      obtain ⟨news, hl1, hl2⟩ := hlt
      refine ⟨.slice none 0 0, w, ρ, ?_, Ext.refl _, Keep.refl _, rfl, H⟩
      rcases hk with ⟨e', hk⟩ | hk <;> simp [Builtin.append_, run_underlying ht, run_underlying hk, sizeOf, typeInfo, hi, hl1, hl2]
    · rename_i h0
      split at hv
      · rename_i hcond
        obtain ⟨hc, hb, h63⟩ := hcond
        cases hv
        obtain ⟨news, hs, hrs⟩ := srcA_sound H hsrc hyr hc hk
        have hgo := run_append_grow_src (P := P) w t tx ty e i z ht hi hz none 0 0 [] (run_firstCells_none w.drew i.size 0 0 0) (a.eval y) m news hs (by omega) (by simp; omega) (growslice_ok (by omega) (by simpa using hb))
        simp only [Nat.zero_add, List.nil_append] at hgo
        have hD := H.grow (w' := w.drew) ⟨rfl, rfl, rfl, Nat.le_refl _, fun _ _ => rfl⟩
        have hnl := hs.newsLen
        have hge := grownCap_ge w m 0 e
        obtain ⟨H2, hx2, hk2⟩ := HR.alloc hD (news.toArray ++ Builtin.zeroCells z.cells (grownCap w m 0 e - m)) l e i.size (fun j hj => by rw [hi] at hj; cases hj; rfl) (fun j x hx => by
          obtain ⟨v, hv, hr⟩ := RVs_get hrs hx
          refine ⟨v, ?_, RV_mono (w := w) (w' := w.drew) (Ext.refl _) (Keep.drew w _) _ _ hr⟩
          have hj := (List.getElem?_eq_some_iff.1 hv).1
          rw [Array.getElem?_append_left (by simpa using hj)]
          simpa using hv)
        refine ⟨_, _, _, hgo, hx2, ((Keep.drew w _).trans hk2), ?_, H2⟩
        refine ⟨_, _, _, ⟨upd_same _ _ _ _, rfl⟩, rfl, hge, .inr rfl, fun _ => ⟨grownCap_le_maxLen w m 0 e (by simp only [maxLen]; omega), _, shape_alloc _ _, ?_⟩⟩
        simp only [Array.size_append, List.size_toArray, size_zeroCells, hzs, hnl]
        have : grownCap w m 0 e * i.size = m * i.size + (grownCap w m 0 e - m) * i.size := by rw [← Nat.add_mul]; congr 1; omega
        simp only [Nat.zero_add]
        omega
      · cases hv
  · rename_i b ver o n sz m l hx hy
    obtain ⟨yv, hyv, hsrc⟩ := Option.bind_eq_some_iff.1 hy
    have hyr := evO_RV hr hyv
    obtain ⟨p, cap, ad, ⟨hp1, hps⟩, hxe, hlc, had, hroom⟩ := evO_RV hr hx
    rw [hxe]
    split at hv
    · rename_i k hk'
      split at hv
      · rename_i hcond
        obtain ⟨rfl, hrw, rfl, hksz, hlen, hc, hb, h63⟩ := hcond
        cases hv
        obtain ⟨news, hs, hrs⟩ := srcA_sound H hsrc hyr hc hk
        obtain ⟨p', q1, q2, q3, q4, q5, q6, q7, q8⟩ := H.blk b k hk'
        rw [hp1] at q1; cases q1
        obtain ⟨a1, a2, ⟨N, a3⟩, a4⟩ := q8 hrw
        obtain ⟨hcm, n', hsh, hfit⟩ := hroom (q5.trans hrw)
        rw [q3] at hsh
        rw [a3] at hsh; cases hsh
        have hpsz : p.sz = i.size := q4.trans hksz
        rw [hpsz] at hfit
        have hnl := hs.newsLen
        have hll : l.length = m * i.size := by rw [RVs_length hrs, hnl]
        by_cases hroom' : n + m ≤ cap
        · -- room
          have hcs : ∀ B O, (n + m = 0 ∧ True ∨ (B = p.blk ∧ O = p.off + o)) → ∀ j, j < news.length → (w.cell? ⟨B, O + n * i.size + j, none⟩).isSome = true := by
            intro B O hBO j hj
            rcases hBO with ⟨h0, _⟩ | ⟨rfl, rfl⟩
            · have : m = 0 := by omega
              subst this
              simp at hnl
              subst hnl
              simp at hj
            · refine cell_of_shape a3 ?_
              have e1 : (n + m) * i.size ≤ cap * i.size := Nat.mul_le_mul_right _ hroom'
              rw [Nat.add_mul] at e1
              omega
          have hfz : ∀ B O, (n + m = 0 ∧ True ∨ (B = p.blk ∧ O = p.off + o)) → ∀ j, j < news.length → w.frozen? ⟨B, O + n * i.size + j, none⟩ = false := by
            intro B O hBO j hj
            rcases hBO with ⟨h0, _⟩ | ⟨rfl, rfl⟩
            · have : m = 0 := by omega
              subst this
              simp at hnl
              subst hnl
              simp at hj
            · exact a2 _ (lt_shN (hcs _ _ (.inr ⟨rfl, rfl⟩) j hj))
          have hBO : n + m = 0 ∧ True ∨ (ad.block = p.blk ∧ ad.off = p.off + o) := by
            rcases had with ⟨h0, _⟩ | rfl
            · exact .inl ⟨by omega, trivial⟩
            · exact .inr ⟨rfl, rfl⟩
          have hsp : ad.spot = none := by
            rcases had with ⟨_, h0⟩ | rfl
            · exact h0
            · rfl
          have hgo := run_append_room_src (P := P) w t tx ty k.e i ht hi ad.block ad.off n cap (a.eval y) m news hs hroom' (hcs _ _ hBO) (hfz _ _ hBO)
          rw [← spot_eta hsp] at hgo
          -- the world: the cells behind the length are written
          have hw : w.setCells ad.block (ad.off + n * i.size) news = w.setCells p.blk (p.off + (o + n * i.size)) news := by
            rcases hBO with ⟨h0, _⟩ | ⟨h1, h2⟩
            · have : m = 0 := by omega
              subst this
              simp at hnl
              subst hnl
              rfl
            · rw [h1, h2, Nat.add_assoc]
          rw [hw] at hgo
          have H1 := H.write hk' hp1 hrw (o + n * i.size) news (k.cells.take (o + n * i.size) ++ l)
            (fun j hj => by
              have := hcs p.blk (p.off + o) (.inr ⟨rfl, rfl⟩) j hj
              rwa [← Nat.add_assoc]) (fun j x hx => by
            have hj := (List.getElem?_eq_some_iff.1 hx).1
            simp only [List.length_append, List.length_take, hll] at hj
            rw [Nat.min_eq_left hlen] at hj
            by_cases hjn : o + n * i.size ≤ j
            · rw [if_pos ⟨hjn, by omega⟩]
              rw [List.getElem?_append_right (by simp; omega)] at hx
              simp only [List.length_take] at hx
              rw [Nat.min_eq_left hlen] at hx
              exact RVs_get hrs hx
            · rw [if_neg (by omega)]
              rw [List.getElem?_append_left (by simp; omega), List.getElem?_take_of_lt (by omega)] at hx
              exact q7 j x hx)
          have hb1 : (h.set b { k with cells := k.cells.take (o + n * i.size) ++ l })[b]? = some { k with cells := k.cells.take (o + n * i.size) ++ l } := List.getElem?_set_self (List.getElem?_eq_some_iff.1 hk').1
          have hkeep := Keep.setCells w p.blk (p.off + (o + n * i.size)) news
          obtain ⟨p2, r1, r2, r3, r4, r5, r6, r7, r8⟩ := H1.blk b _ hb1
          rw [hp1] at r1; cases r1
          obtain ⟨c1, c2, ⟨N2, c3⟩, c4⟩ := r8 hrw
          have hdrop : (k.cells.take (o + n * i.size) ++ l).drop o = (k.cells.drop o).take (n * i.size) ++ l := by
            rw [List.drop_append_of_le_length (by simp; omega), List.drop_take, Nat.add_sub_cancel_left]
          obtain ⟨H2, hx2⟩ := H1.bump hb1 hrw { p with off := p.off + o } ((k.cells.drop o).take (n * i.size) ++ l) q3 q4 (q5.trans hrw) r6
            (fun j x hx => by
              rw [← hdrop, List.getElem?_drop] at hx
              obtain ⟨v, hv, hvr⟩ := r7 (o + j) x hx
              exact ⟨v, by rw [← hv, Nat.add_assoc], hvr⟩)
            ⟨c1, c2, ⟨N2, c3⟩⟩ (fun c kc q hcb hc' hq heq => hcb (H1.inj b c _ kc p q hb1 hc' hp1 hq hrw heq.symm).symm)
          refine ⟨_, _, _, hgo, hx2, hkeep, ?_, by simpa using H2⟩
          refine ⟨_, cap, ad, ⟨upd_same _ _ _ _, hpsz⟩, rfl, hroom', ?_, fun _ => ⟨hcm, N, ?_, ?_⟩⟩
          · rcases had with ⟨h0, h1⟩ | rfl
            · exact .inl ⟨h0, h1⟩
            · exact .inr rfl
          · have := hkeep.shape _ _ a3
            rw [← q3] at this
            exact this
          · simp only [Nat.add_zero]; rw [hpsz]; omega
        · -- a new row
          have hB0 : ∃ olds : List Value, olds.length = n * i.size ∧ RVs ρ w ((k.cells.drop o).take (n * i.size)) olds ∧ ∀ j v, olds[j]? = some v → w.cell? (ad.add j) = some v := by
            have hrd : rdn h b k.ver o (n * i.size) = some ((k.cells.drop o).take (n * i.size)) := by
              unfold rdn; rw [hk']; simp only; rw [if_pos ⟨trivial, hlen⟩]
            obtain ⟨_, vs, hvl, hrv, hcell⟩ := rdn_RVs H hrd hp1
            refine ⟨vs, hvl, hrv, fun j v hj => ?_⟩
            rcases had with ⟨h0, _⟩ | rfl
            · have : n = 0 := by omega
              subst this
              simp at hvl
              subst hvl
              simp at hj
            · rw [Addr_add]; exact hcell j v hj
          obtain ⟨olds, hol, hor, hoc⟩ := hB0
          have hgo := run_append_grow_src (P := P) w t tx ty k.e i z ht hi hz (some ad) n cap olds (run_firstCells_some w.drew i.size n ad n cap olds hol (by simpa using hoc)) (a.eval y) m news hs (by omega) (by omega) (growslice_ok (by omega) hb)
          have hge := grownCap_ge w (n + m) cap k.e
          have hD := H.grow (w' := w.drew.alloc (.cells ((olds ++ news).toArray ++ Builtin.zeroCells z.cells (grownCap w (n + m) cap k.e - (n + m))) k.e)) ((Below.refl _ _).drew.alloc (Nat.le_refl _) _)
          have hkeep : Keep w (w.drew.alloc (.cells ((olds ++ news).toArray ++ Builtin.zeroCells z.cells (grownCap w (n + m) cap k.e - (n + m))) k.e)) := Keep.of_below ((Below.refl _ _).drew.alloc (Nat.le_refl _) _)
          have hcell2 : ∀ j, (w.drew.alloc (.cells ((olds ++ news).toArray ++ Builtin.zeroCells z.cells (grownCap w (n + m) cap k.e - (n + m))) k.e)).cell? ⟨w.heap.size, j, none⟩ = ((olds ++ news).toArray ++ Builtin.zeroCells z.cells (grownCap w (n + m) cap k.e - (n + m)))[j]? := fun j => cell_alloc (w := w.drew) _ _ j
          obtain ⟨H2, hx2⟩ := hD.bump hk' hrw ⟨w.heap.size, 0, k.e, k.sz, true⟩ ((k.cells.drop o).take (n * i.size) ++ l) rfl rfl rfl (by simp)
            (fun j x hx => by
              obtain ⟨v, hv, hvr⟩ := RVs_get (RVs_append hrs hor) hx
              refine ⟨v, ?_, RV_mono (Ext.refl _) hkeep _ _ hvr⟩
              simp only [Nat.zero_add]
              rw [hcell2, Array.getElem?_append_left (by simpa using (List.getElem?_eq_some_iff.1 hv).1)]
              simpa using hv)
            ⟨H.hbase, fun q _ => frozen_alloc (w := w.drew) _ _ q, ⟨_, shape_alloc (w := w.drew) _ _⟩⟩ (fun c kc q hcb hc' hq heq => by
              obtain ⟨q', g1, _, _, _, _, g6, _⟩ := H.blk c kc hc'
              rw [hq] at g1; cases g1
              simp only at heq
              omega)
          refine ⟨_, _, _, hgo, hx2, hkeep, ?_, H2⟩
          refine ⟨_, _, _, ⟨upd_same _ _ _ _, hksz⟩, rfl, hge, .inr rfl, fun _ => ⟨grownCap_le_maxLen w (n + m) cap k.e (by simp only [maxLen]; omega), _, shape_alloc (w := w.drew) _ _, ?_⟩⟩
          simp only [Array.size_append, List.size_toArray, List.length_append, size_zeroCells, hzs, hnl, hol, hksz]
          have : grownCap w (n + m) cap k.e * i.size = n * i.size + m * i.size + (grownCap w (n + m) cap k.e - (n + m)) * i.size := by rw [← Nat.add_mul, ← Nat.add_mul]; congr 1; omega
          simp only [Nat.zero_add]
          omega
      · cases hv
    · cases hv
  · cases hv

/-- Zeros onto nothing. -/
theorem run_append_zeros (w : World) (t tx ty e : TypeId) (i : TypeInfo) (z : Value) {kd : IntKind} (ht : P.underlying t = some (.slice e)) (hx : P.underlying tx = some (.int kd)) (hi : P.info? e = some i) (hz : i.zero = some z) (k : IntKind) (l : Int)
    (h0 : 0 < l) (h63 : l ≤ 9223372036854775807) (hb : l * i.bytes ≤ 140737488355328) (hpos : 0 < i.size) (hzs : z.cells.size = i.size) :
    (Builtin.append_ #[t, tx] ty #[.slice none 0 0, .int k l]).run P w =
      .ok (.slice (some ⟨w.heap.size, 0, none⟩) l.toNat (grownCap w l.toNat 0 e))
        (w.drew.alloc (.cells (Builtin.zeroCells z.cells l.toNat ++ Builtin.zeroCells z.cells (grownCap w l.toNat 0 e - l.toNat)) e)) := by
  have hw : IntKind.i64.wrap l = l := by simp [IntKind.wrap, IntKind.bits, IntKind.signed]; omega
  have hl : ¬ l < 0 := by omega
  have hn : l.toNat ≠ 0 := by omega
  have hbn : l.toNat * i.bytes ≤ 140737488355328 := by
    have : ((l.toNat * i.bytes : Nat) : Int) = l * i.bytes := by rw [Int.natCast_mul, Int.toNat_of_nonneg (by omega)]
    omega
  have hfit := growslice_ok (need := l.toNat) (old := 0) (bytes := i.bytes) (by omega) hbn
  have h48 : ¬ (281474976710656 < l * (i.bytes : Int)) := by omega
  have h48' : ¬ (281474976710656 < Builtin.nextslicecap l.toNat 0 * i.bytes) := by omega
  have h63' : ¬ (9223372036854775807 < (l.toNat : Int)) := by omega
  have hcond : ¬ (9223372036854775807 < max l 0) := by omega
  have hs : ¬ l.toNat * i.size = 0 := by
    intro h
    rcases Nat.mul_eq_zero.1 h with h | h <;> omega
  simp [Builtin.append_, run_underlying ht, run_underlying hx, sizeOf, typeInfo, zeroValue, hi, hz, asInt, asIntOf, hw, hl, h48, hn, h48', hcond, Question.forced, newRow, grownCap, hs]
  rw [if_neg (by omega), run_firstCells_none w.drew i.size 0 0 0]
  simp
theorem appz_sound (H : HR P base W ρ h w) {t tx e : TypeId} {i : TypeInfo} {z : Value} {kd : IntKind} (ht : P.underlying t = some (.slice e)) (htx : P.underlying tx = some (.int kd)) (hi : P.info? e = some i) (hz : i.zero = some z) (hzs : z.cells.size = i.size) (hpos : 0 < i.size)
    (ty : TypeId) {g : CallF} {x y : Operand} {r : AV × Heap} (hv : eV g tm h (.appz e i.size i.bytes z.cells.toList x y) = some r) (hr : RVs ρ w tm a.tmps.toList) :
    ∃ v w' ρ', (Builtin.append_ #[t, tx] ty #[a.eval x, a.eval y]).run P w = .ok v w' ∧ Eff P base W ρ w r v w' ρ' := by
  simp only [eV] at hv
  split at hv
  · rename_i l hx hy
    split at hv
    · rename_i hcond
      obtain ⟨h0, hb, h63⟩ := hcond
      cases hv
      have hx' : a.eval x = .slice none 0 0 := evO_RV hr hx
      obtain ⟨yv, hyv, hyi⟩ := Option.bind_eq_some_iff.1 hy
      obtain ⟨k, hk⟩ := asI_RV hyi (evO_RV hr hyv)
      have hgo := run_append_zeros (P := P) w t tx ty e i z ht htx hi hz k l h0 h63 hb hpos hzs
      rw [hx', hk]
      have hD := H.grow (w' := w.drew) ⟨rfl, rfl, rfl, Nat.le_refl _, fun _ _ => rfl⟩
      have hge := grownCap_ge w l.toNat 0 e
      have hzl : (z.cells.toList.map AV.s).length = i.size := by simp [hzs]
      obtain ⟨H2, hx2, hk2⟩ := HR.alloc hD (Builtin.zeroCells z.cells l.toNat ++ Builtin.zeroCells z.cells (grownCap w l.toNat 0 e - l.toNat)) (List.replicate l.toNat (z.cells.toList.map AV.s)).flatten e i.size (fun j hj => by rw [hi] at hj; cases hj; rfl) (fun j x hx => by
        have hj : j < l.toNat * i.size := by
          have := (List.getElem?_eq_some_iff.1 hx).1
          simpa [hzs] using this
        rw [flatten_replicate_get _ _ _ (by rw [hzl]; exact hj), hzl, List.getElem?_map] at hx
        cases hc : z.cells.toList[j % i.size]? with
        | none => rw [hc] at hx; cases hx
        | some u =>
          rw [hc] at hx
          simp only [Option.map_some, Option.some.injEq] at hx
          subst hx
          refine ⟨u, ?_, rfl⟩
          rw [Array.getElem?_append_left (by rw [size_zeroCells, hzs]; exact hj)]
          unfold Builtin.zeroCells
          rw [Array.getElem?_map, hzs, Array.getElem?_range, if_pos hj]
          simp only [Option.map_some, Option.some.injEq]
          rw [Array.getElem?_toList] at hc
          rw [getElem!_def, hc])
      refine ⟨_, _, _, hgo, hx2, ((Keep.drew w _).trans hk2), ?_, H2⟩
      refine ⟨_, _, _, ⟨upd_same _ _ _ _, rfl⟩, rfl, hge, .inr rfl, fun _ => ⟨grownCap_le_maxLen w l.toNat 0 e (by simp only [maxLen]; omega), _, shape_alloc _ _, ?_⟩⟩
      simp only [Array.size_append, size_zeroCells, hzs]
      have : grownCap w l.toNat 0 e * i.size = l.toNat * i.size + (grownCap w l.toNat 0 e - l.toNat) * i.size := by rw [← Nat.add_mul]; congr 1; omega
      simp only [Nat.zero_add]
      omega
    · cases hv
  · cases hv
theorem fillA_length : ∀ {ys : List (Nat × Nat × AV)} {cells r : List AV}, fillA cells ys = some r → r.length = cells.length
  | [], cells, r, h => by simp only [fillA, Option.some.injEq] at h; rw [h]
  | (off, size, x) :: ys, cells, r, h => by
    simp only [fillA] at h
    split at h
    · split at h
      · rename_i l _ hc
        rw [fillA_length h]
        simp only [List.length_append, List.length_take, List.length_drop]
        omega
      · cases h
    · cases h

theorem upd_RV {b v : Nat} {p : Place} : upd ρ b v p b v = some p := upd_same _ _ _ _

/-- The operations with an effect, but for calls. -/
theorem eV_sound (o : Oper) {q : EOp} (hp : prepOp0 P o = some (.e q)) (hnc : (∀ f as, q ≠ .call f as) ∧ (∀ f as, q ≠ .callv f as)) {g : CallF} {r : AV × Heap} (hv : eV g tm h q = some r) (hr : RVs ρ w tm a.tmps.toList) (H : HR P base W ρ h w) :
    ∃ nx v w' ρ', (execOp a.eval o).run P w = .ok nx w' ∧ (nx = .value v ∨ nx = .skip ∧ v = undef) ∧ Eff P base W ρ w r v w' ρ' := by
  obtain ⟨dst, op, ty, pos, after, guard⟩ := o
  unfold prepOp0 at hp
  cases op with
  | alloc e =>
    simp only at hp
    split at hp
    · rename_i i hi
      split at hp
      · rename_i z hz
        simp only [Option.some.injEq, AOp.e.injEq] at hp; subst hp
        simp only [eV, Option.some.injEq] at hv; subst hv
        obtain ⟨H2, hx, hk⟩ := eff_alloc H z.cells (z.cells.toList.map .s) e hi (RVs_s _)
        refine ⟨_, .pointer (some ⟨w.heap.size, 0, none⟩), _, _, by simp [execOp, Instr.alloc, zeroValue, typeInfo, hi, hz, newVar, newRow], .inl rfl, hx, hk, ⟨_, upd_RV, rfl⟩, H2⟩
      · cases hp
    · cases hp
  | box e y =>
    simp only at hp
    split at hp
    · rename_i i hi
      simp only [Option.some.injEq, AOp.e.injEq] at hp; subst hp
      simp only [eV] at hv
      split at hv
      · rename_i l hl
        cases hv
        obtain ⟨z, hz, hzl⟩ := Option.bind_eq_some_iff.1 hl
        obtain ⟨H2, hx, hk⟩ := eff_alloc H (a.eval y).cells l e hi (cellsOf_RVs hzl (evO_RV hr hz))
        refine ⟨_, .pointer (some ⟨w.heap.size, 0, none⟩), _, _, by simp [execOp, Instr.box, newVar, newRow], .inl rfl, hx, hk, ⟨_, upd_RV, rfl⟩, H2⟩
      · cases hv
    · cases hp
  | buildSlice t len parts =>
    simp only at hp
    split at hp
    · rename_i e hd
      split at hp
      · rename_i i hi
        split at hp
        · rename_i z hz
          split at hp
          · rename_i hlim
            simp only [Option.map_eq_some_iff, AOp.e.injEq] at hp
            obtain ⟨l, hl, rfl⟩ := hp
            simp only [eV] at hv
            split at hv
            · rename_i ys hys
              split at hv
              · rename_i c hc
                cases hv
                have hcl : ∃ cs : Array Value, cs.toList = (if len * i.size = 0 then [] else (List.range (len * i.size)).map fun k => z.cells[k % z.cells.size]!) ∧
                    ∀ zc : Array Value, zc = (if len * i.size = 0 then #[] else z.cells) → (Array.range (len * i.size)).map (fun k => zc[k % zc.size]!) = cs := by
                  by_cases h0 : len * i.size = 0
                  · refine ⟨#[], by rw [if_pos h0], fun zc _ => by rw [h0]; simp⟩
                  · refine ⟨(Array.range (len * i.size)).map (fun k => z.cells[k % z.cells.size]!), by rw [if_neg h0]; simp [Array.toList_map, Array.toList_range], fun zc hzc => by rw [if_neg h0] at hzc; subst hzc; rfl⟩
                obtain ⟨cs, hcs1, hcs2⟩ := hcl
                obtain ⟨out, ho, hro⟩ := fill_sound (cs := cs) _ hr hl hys hc (by rw [hcs1]; exact RVs_s _)
                have hlen : out.size = len * i.size := by
                  have h1 : c.length = out.size := (RVs_length hro).trans Array.length_toList
                  have h2 := fillA_length hc
                  rw [← h1, h2]
                  split
                  · rename_i h0; simp [h0]
                  · simp
                obtain ⟨H2, hx, hk⟩ := eff_alloc H out c e hi hro
                refine ⟨_, .slice (some ⟨w.heap.size, 0, none⟩) len len, _, _, ?_, .inl rfl, hx, hk, ⟨_, _, _, ⟨upd_RV, rfl⟩, rfl, Nat.le_refl _, .inr rfl, fun _ => ⟨?_, _, shape_alloc _ _, by simp only [Nat.zero_add]; omega⟩⟩, H2⟩
                · have hz2 := hcs2 (if len * i.size = 0 then #[] else z.cells) rfl
                  have ho' : Instr.fill (fun k => some (k * i.size, i.size)) cs ((parts.map fun (x : Nat × Operand) => (x.1, a.eval x.2)).toList) = some out := by simpa using ho
                  have hlim' : ¬ (2 ^ 24 < len * i.size) := by omega
                  have hzrun : (if len * i.size = 0 then (pure #[] : Sem (Array Value)) else do pure (← zeroValue e).cells).run P w = .ok (if len * i.size = 0 then #[] else z.cells) w := by
                    by_cases h0 : len * i.size = 0
                    · rw [if_pos h0, if_pos h0]; rfl
                    · rw [if_neg h0, if_neg h0]; simp [zeroValue, typeInfo, hi, hz]
                  have hpm : (parts.map fun (x : Nat × Operand) => (x.1, a.eval x.2)).toList = (parts.map fun x => match x with | (i, x) => (i, a.eval x)).toList := rfl
                  have hbs : (Instr.buildSlice t len (parts.map fun (x : Nat × Operand) => (x.1, a.eval x.2))).run P w = .ok (.slice (some ⟨w.heap.size, 0, none⟩) len len) (w.alloc (.cells out e)) := by
                    unfold Instr.buildSlice
                    simp [run_underlying hd, sizeOf, typeInfo, hi, zeroValue, hz, hlim', newRow]
                    have ho2 : Instr.fill (fun k => some (k * i.size, i.size)) cs (List.map (fun (x : Nat × Operand) => (x.1, a.eval x.2)) parts.toList) = some out := by simpa using ho'
                    by_cases h0 : len * i.size = 0
                    · rw [if_pos h0]
                      have hz3 : Array.map (fun _ => (default : Value)) (Array.range (len * i.size)) = cs := by
                        have := hcs2 #[] (by rw [if_pos h0])
                        simpa using this
                      rw [hz3, ho2]
                      simp
                    · rw [if_neg h0]
                      have hz3 := hcs2 z.cells (by rw [if_neg h0])
                      rw [hz3, ho2]
                      simp
                  simp [execOp, hbs]
                · have := Nat.le_mul_of_pos_right len hlim.2
                  simp only [maxLen]
                  omega
              · cases hv
            · cases hv
          · cases hp
        · cases hp
      · cases hp
    · cases hp
  | store t y z =>
    simp only at hp
    split at hp
    · rename_i i hi
      simp only [Option.some.injEq, AOp.e.injEq] at hp; subst hp
      simp only [eV] at hv
      split at hv
      · rename_i b ver off l hy hl
        split at hv
        · rename_i hc
          obtain ⟨h', hw, rfl⟩ := Option.map_eq_some_iff.1 hv
          obtain ⟨u, hu, hul⟩ := Option.bind_eq_some_iff.1 hl
          obtain ⟨p, hp1, hp2⟩ := evO_RV hr hy
          have hrs := cellsOf_RVs hul (evO_RV hr hu)
          obtain ⟨w', hst, _, H2, hk⟩ := wrn_sound H hw hp1 hrs hc.2
          have hsz : (a.eval z).cells.size = i.size := by
            have h1 : l.length = (a.eval z).cells.size := (RVs_length hrs).trans Array.length_toList
            have h2 := hc.1
            omega
          exact ⟨.skip, undef, w', ρ, by simp [execOp, Instr.storeAt, hp2, Instr.sureAddr, storeVar, sizeOf, typeInfo, hi, hsz, hst], .inr ⟨rfl, rfl⟩, Ext.refl _, hk, rfl, H2⟩
        · cases hv
      · cases hv
    · cases hp
  | makeSlice t l c =>
    simp only at hp
    split at hp
    · rename_i e hd
      split at hp
      · rename_i i hi
        split at hp
        · rename_i z hz
          split at hp
          · rename_i hzs
            simp only [Option.some.injEq, AOp.e.injEq] at hp; subst hp
            simp only [eV] at hv
            split at hv
            · rename_i n m hn hm
              split at hv
              · rename_i hb
                obtain ⟨b0, b1, b2, b3⟩ := hb
                cases hv
                obtain ⟨u, hu, hun⟩ := Option.bind_eq_some_iff.1 hn
                obtain ⟨k1, hk1⟩ := asI_RV hun (evO_RV hr hu)
                obtain ⟨u', hu', hun'⟩ := Option.bind_eq_some_iff.1 hm
                obtain ⟨k2, hk2⟩ := asI_RV hun' (evO_RV hr hu')
                have hc0 : (m.toNat : Int) = m := by omega
                have hbn : (i.bytes : Int) * m ≤ 140737488355328 := by rw [Int.mul_comm]; exact b2
                obtain ⟨H2, hx, hk⟩ := eff_alloc H ((Array.range (m.toNat * i.size)).map fun k => z.cells[k % z.cells.size]!) (List.replicate m.toNat (z.cells.toList.map AV.s)).flatten e hi (by
                  refine RVs_of ?_ ?_
                  · simp [hzs.1]
                  · intro j x v hj hv
                    have hjl := (List.getElem?_eq_some_iff.1 hv).1
                    simp only [Array.toList_map, Array.toList_range, List.length_map, List.length_range] at hjl
                    rw [flatten_replicate_get _ _ _ (by simpa [hzs.1] using hjl)] at hj
                    simp only [List.length_map, Array.length_toList] at hj
                    have hmod : j % z.cells.size < z.cells.size := Nat.mod_lt _ (by omega)
                    rw [List.getElem?_map, Array.getElem?_toList, Array.getElem?_eq_getElem hmod] at hj
                    simp only [Option.map_some, Option.some.injEq] at hj
                    subst hj
                    simp only [Array.toList_map, Array.toList_range, List.getElem?_map] at hv
                    rw [List.getElem?_eq_getElem (by simpa using hjl)] at hv
                    simp only [List.getElem_range, Option.map_some, Option.some.injEq] at hv
                    rw [← hv]
                    simp only [RV]
                    rw [getElem!_pos z.cells _ hmod])
                have hw1 : IntKind.i64.wrap n = n := IntWalk.i64_in n (by omega)
                have hw2 : IntKind.i64.wrap m = m := IntWalk.i64_in m (by omega)
                refine ⟨_, .slice (some ⟨w.heap.size, 0, none⟩) n.toNat m.toNat, _, _, ?_, .inl rfl, hx, hk, ⟨_, _, _, ⟨upd_RV, rfl⟩, rfl, by omega, .inr rfl, fun _ => ⟨by simp only [maxLen]; omega, _, shape_alloc _ _, by simp⟩⟩, H2⟩
                have ht : ¬ ((m < 0 ∨ 281474976710656 < (i.bytes : Int) * m) ∨ n < 0) := by omega
                have ht2 : ¬ (m < n) := by omega
                have hzrun : (if m.toNat * i.size = 0 then (pure #[] : Sem (Array Value)) else do pure (← zeroValue e).cells).run P w = .ok (if m.toNat * i.size = 0 then #[] else z.cells) w := by
                  by_cases h0 : m.toNat * i.size = 0
                  · rw [if_pos h0, if_pos h0]; rfl
                  · rw [if_neg h0, if_neg h0]; simp [zeroValue, typeInfo, hi, hz]
                have harr : (Array.range (m.toNat * i.size)).map (fun k => (if m.toNat * i.size = 0 then #[] else z.cells)[k % (if m.toNat * i.size = 0 then #[] else z.cells).size]!) = (Array.range (m.toNat * i.size)).map fun k => z.cells[k % z.cells.size]! := by
                  by_cases h0 : m.toNat * i.size = 0
                  · rw [h0]; simp
                  · rw [if_neg h0]
                have hms : (Instr.makeSlice t (.int k1 n) (.int k2 m)).run P w = .ok (.slice (some ⟨w.heap.size, 0, none⟩) n.toNat m.toNat) (w.alloc (.cells ((Array.range (m.toNat * i.size)).map fun k => z.cells[k % z.cells.size]!) e)) := by
                  unfold Instr.makeSlice
                  simp [run_underlying hd, asInt, asIntOf, sizeOf, typeInfo, hi, zeroValue, hz, hw1, hw2, newRow]
                  have hcd : ¬ (((m < 0 ∨ 281474976710656 < (i.bytes : Int) * m) ∨ n < 0) ∨ m < n) := by omega
                  rw [if_neg hcd]
                  by_cases h0 : m.toNat * i.size = 0
                  · rw [if_pos h0, h0, show Array.range 0 = (#[] : Array Nat) from rfl]; simp
                  · rw [if_neg h0]
                simp [execOp, hk1, hk2, hms]
              · cases hv
            · cases hv
          · cases hp
        · cases hp
      · cases hp
    · cases hp
  | call c =>
    obtain ⟨callee, args, argTypes⟩ := c
    cases callee with
    | invoke _ _ => simp [prepCall] at hp
    | value f =>
      cases f <;> simp only [prepCall] at hp <;> (repeat' split at hp) <;> first | (simp at hp; done) | (simp only [Option.some.injEq, AOp.e.injEq] at hp; subst hp; first | exact absurd rfl (hnc.1 _ _) | exact absurd rfl (hnc.2 _ _))
    | builtin bi =>
      cases bi <;> simp only [prepCall, prepSc] at hp <;> try (simp at hp; done)
      case len => (repeat' split at hp) <;> simp at hp
      case cap => (repeat' split at hp) <;> simp at hp
      case unsafeSliceData => (repeat' split at hp) <;> simp at hp
      case unsafeString =>
        split at hp
        · rename_i t t2 y n hts hxs
          have hargs : args = #[y, n] := by cases args; simp_all
          have htys : argTypes = #[t, t2] := by cases argTypes; simp_all
          subst hargs htys
          split at hp
          · rename_i e hd
            split at hp
            · rename_i hc1
              simp only [Option.some.injEq, AOp.e.injEq] at hp; subst hp
              simp only [eV] at hv
              split at hv
              · rename_i b v o k hy hn
                split at hv
                · rename_i q bs hq hbs
                  split at hv
                  · rename_i hcnd
                    obtain ⟨hk0, hk63, hrw, rfl⟩ := hcnd
                    cases hv
                    obtain ⟨p, hp1, hp2⟩ := evO_RV hr hy
                    have hn2 : a.eval n = .int .i64 k := evO_RV hr hn
                    obtain ⟨l, hl, hb⟩ := Option.bind_eq_some_iff.1 hbs
                    obtain ⟨hll, vs, hvl, hrs, hcell⟩ := rdn_RVs H hl hp1
                    have hvs := bytesA_RVs hb hrs
                    have hver : q.ver = v := by
                      unfold rdn at hl
                      rw [hq] at hl
                      simp only at hl
                      split at hl
                      · rename_i hc; exact hc.1
                      · cases hl
                    subst hver
                    obtain ⟨p', g1, g2, g3, g4, g5, g6, g7, g8⟩ := H.blk b q hq
                    rw [hp1] at g1; cases g1
                    obtain ⟨a1, a2, ⟨m, a3⟩, a4⟩ := g8 hrw
                    have hbl : bs.length = k.toNat := by rw [← hvl, hvs]; simp
                    have hin : p.off + o + bs.length ≤ m := by
                      have hlt : k.toNat - 1 < vs.length := by omega
                      have := lt_shN (w := w) (b := p.blk) (o := p.off + o + (k.toNat - 1)) (by rw [hcell _ _ (List.getElem?_eq_getElem hlt)]; rfl)
                      rw [shN, a3] at this
                      simp only at this
                      omega
                    have hrun := run_ustr (P := P) (w := w) t t2 ty _ hd hc1 p.blk (p.off + o) m a3 bs (by
                      intro e0
                      rw [e0] at hbl
                      simp at hbl
                      omega) (by simpa using hin) (by omega) (fun j x hj => by
                        rw [Addr_add, hcell j (.int .u8 x) (by rw [hvs, List.getElem?_map, hj]; rfl)])
                    have hkl : ((bs.length : Nat) : Int) = k := by omega
                    rw [hkl] at hrun
                    obtain ⟨H2, hx⟩ := H.ustr hq hp1 hrw ⟨p.blk, p.off + o, none⟩ rfl bs.length
                    exact ⟨_, .string (strOfNums bs), _, _, by simp [execOp, resolve, invoke, builtin, hp2, hn2, hrun], .inl rfl, hx, freeze_keep _ _ _, rfl, H2⟩
                  · cases hv
                · cases hv
              · rename_i hy hn
                cases hv
                have h1 : a.eval y = .pointer none := evO_RV hr hy
                have h2 : a.eval n = .int .i64 0 := evO_RV hr hn
                have := Go.Lib.run_unsafeString_none (P := P) w t t2 ty none
                exact ⟨_, .string .empty, w, ρ, by simp [execOp, resolve, invoke, builtin, h1, h2, this], .inl rfl, Ext.refl _, Keep.refl _, rfl, H⟩
              · cases hv
            · cases hp
          · cases hp
        · cases hp
      case append =>
        split at hp
        · rename_i t t2 x y ht hy
          have hargs : args = #[x, y] := by cases args; simp_all
          have hts : argTypes = #[t, t2] := by cases argTypes; simp_all
          subst hargs hts
          have fin : ∀ (e : TypeId) (i : TypeInfo) (z : Value), P.underlying t = some (.slice e) → P.info? e = some i → i.zero = some z → z.cells.size = i.size → 0 < i.size →
              ((∃ e', P.underlying t2 = some (.slice e')) ∨ P.underlying t2 = some .string) → q = .app e i.size i.bytes x y →
              ∃ nx v w' ρ', (execOp a.eval ⟨dst, .call ⟨.builtin .append, #[x, y], #[t, t2]⟩, ty, pos, after, guard⟩).run P w = .ok nx w' ∧ (nx = .value v ∨ nx = .skip ∧ v = undef) ∧ Eff P base W ρ w r v w' ρ' := by
            intro e i z hd hi hz hzs hpos hk hq
            subst hq
            obtain ⟨v, w', ρ', h1, h2⟩ := app_sound H hd hi hz hzs hpos hk ty hv hr
            exact ⟨_, v, w', ρ', by simp [execOp, resolve, invoke, builtin, h1], .inl rfl, h2⟩
          split at hp
          · rename_i e e' hd hd2
            split at hp
            · rename_i i hi
              split at hp
              · rename_i z hz
                split at hp
                · rename_i hc
                  simp only [Option.some.injEq, AOp.e.injEq] at hp
                  exact fin e i z hd hi hz hc.2 hc.1 (.inl ⟨_, hd2⟩) hp.symm
                · cases hp
              · cases hp
            · cases hp
          · rename_i e hd hd2
            split at hp
            · rename_i i hi
              split at hp
              · rename_i z hz
                split at hp
                · rename_i hc
                  simp only [Option.some.injEq, AOp.e.injEq] at hp
                  exact fin e i z hd hi hz hc.2 (by omega) (.inr hd2) hp.symm
                · cases hp
              · cases hp
            · cases hp
          · rename_i e kd hd hd2
            split at hp
            · rename_i i hi
              split at hp
              · rename_i z hz
                split at hp
                · rename_i hc
                  simp only [Option.some.injEq, AOp.e.injEq] at hp
                  subst hp
                  obtain ⟨v, w', ρ', h1, h2⟩ := appz_sound H hd hd2 hi hz hc.2 hc.1 ty hv hr
                  exact ⟨_, v, w', ρ', by simp [execOp, resolve, invoke, builtin, h1], .inl rfl, h2⟩
                · cases hp
              · cases hp
            · cases hp
          · cases hp
        · cases hp
  | load t y => simp only at hp; (repeat' split at hp) <;> simp at hp
  | convert src dst' y =>
    simp only [prepSc] at hp
    split at hp
    · (repeat' split at hp) <;> simp at hp
    · rename_i e hs hd
      split at hp
      · rename_i i he hi
        split at hp
        · rename_i hi1
          simp only [Option.some.injEq, AOp.e.injEq] at hp; subst hp
          simp only [eV] at hv
          split at hv
          · rename_i st hy
            split at hv
            · rename_i hsz
              cases hv
              have h1 : a.eval y = .string st := evO_RV hr hy
              have hold : ∀ j, j < w.heap.size → (Go.Lib.bytesWorld w e st).heap[j]? = w.heap[j]? := fun j hj => Go.Lib.bytesWorld_at_old w e st j hj
              have hsize := Go.Lib.bytesWorld_size w e st
              have hnew := Go.Lib.bytesWorld_at_new w e st
              have hb : Below w.heap.size w (Go.Lib.bytesWorld w e st) := by
                refine ⟨?_, ?_, ?_, by rw [hsize]; omega, hold⟩ <;> simp [Go.Lib.bytesWorld, World.freeze, World.alloc, World.drew, -World.alloc_eq, -World.drew_eq] <;> rfl
              have hshape : (Go.Lib.bytesWorld w e st).shape? w.heap.size = some (e, (Go.Lib.bytesCells w e st).size) := by
                unfold World.shape?; rw [hnew]
              have hcs : (Go.Lib.bytesCells w e st).size = grownCap w st.size 0 e := by
                have hge := grownCap_ge w st.size 0 e
                simp only [Go.Lib.bytesCells, Array.size_append, Array.size_map, Array.size_replicate]
                have : st.data.size = st.size := rfl
                omega
              obtain ⟨H2, hx, hk⟩ := H.allocW hb (by rw [hsize]; omega) (st.data.toList.map fun b => .s (.int .u8 b.toNat)) e 1 (fun j hj => by rw [hi] at hj; cases hj; exact hi1)
                (fun j x hj => by
                  rw [List.getElem?_map, Option.map_eq_some_iff] at hj
                  obtain ⟨u, hu, rfl⟩ := hj
                  have hjl := (List.getElem?_eq_some_iff.1 hu).1
                  have := Go.Lib.bytesWorld_cell w e st j (by simpa using hjl)
                  refine ⟨_, this, ?_⟩
                  rw [List.getD_eq_getElem?_getD, hu]; rfl)
                (fun o ho => by
                  rw [shN, hshape] at ho
                  simp only [World.frozen?, hnew]
                  simp only at ho
                  simp; omega) ⟨_, hshape⟩
              refine ⟨_, .slice (some ⟨w.heap.size, 0, none⟩) st.size (grownCap w st.size 0 e), _, _, by simp [execOp, h1, Go.Lib.run_convert_string_bytes w src dst' e st hs hd he], .inl rfl, hx, hk, ?_, H2⟩
              exact ⟨_, _, _, ⟨upd_RV, rfl⟩, rfl, grownCap_ge w st.size 0 e, .inr rfl, fun _ => ⟨grownCap_le_maxLen w st.size 0 e (by simp only [maxLen]; omega), _, hshape, by rw [hcs]; simp⟩⟩
            · cases hv
          · cases hv
        · cases hp
      · cases hp
    · cases hp
  | build t parts => simp only at hp; (repeat' split at hp) <;> simp at hp
  | binOp op t y z yt => simp only [prepEq, prepSc] at hp; (repeat' split at hp) <;> simp at hp
  | unOp op t y => simp [prepSc] at hp
  | slice t y lo hi mx => simp only [prepSc] at hp; (repeat' split at hp) <;> simp at hp
  | fieldAddr s y f => simp only at hp; (repeat' split at hp) <;> simp at hp
  | field s y f => simp only at hp; (repeat' split at hp) <;> simp at hp
  | indexAddr s y f => simp only at hp; (repeat' split at hp) <;> simp at hp
  | index s y f => simp only [prepSc] at hp; (repeat' split at hp) <;> simp at hp
  | _ => simp at hp

end sound
end Go.Proofs.YtdgnddidibpilaaDoor.AS
end
