/- Of our own: an abstract machine beside the model, its soundness, and walks of the program in it. -/
import Derived.Test.YtpmoellbfgcefaaA2
import Derived.IntWalk
set_option linter.unusedSimpArgs false
set_option linter.unusedVariables false
section
set_option autoImplicit false
namespace Go.Proofs.Ytpmoellbfgcefaa.AS
open Go Go.RowKit

theorem cell_of_shape {w : World} {b n : Nat} {e : TypeId} (h : w.shape? b = some (e, n)) {j : Nat} (hj : j < n) : (w.cell? ⟨b, j, none⟩).isSome = true := by
  unfold World.shape? at h
  unfold World.cell?
  simp only
  split at h
  · rename_i c el fr hc
    cases h
    simp [hj]
  · cases h

theorem flatten_replicate_get {α : Type} (l : List α) : ∀ (c j : Nat), j < c * l.length → (List.replicate c l).flatten[j]? = l[j % l.length]?
  | 0, j, h => by simp at h
  | c + 1, j, h => by
    rw [List.replicate_succ, List.flatten_cons]
    rcases Nat.lt_or_ge j l.length with hj | hj
    · rw [List.getElem?_append_left hj, Nat.mod_eq_of_lt hj]
    · rw [List.getElem?_append_right hj, flatten_replicate_get l c (j - l.length) (by rw [Nat.succ_mul] at h; omega)]
      congr 1
      rw [← Nat.mod_eq_sub_mod hj]

/-- What an operation with an effect leaves. -/
structure Eff (P : Program) (base : Nat) (W : World) (ρ : PM) (w : World) (r : AV × Heap) (v : Value) (w' : World) (ρ' : PM) : Prop where
  ext : Ext ρ ρ'
  keep : Keep w w'
  rv : RV ρ' w' r.1 v
  hr : HR P base W ρ' r.2 w'

section sound
variable {P : Program} {base : Nat} {W : World} {ρ : PM} {w : World} {a : Act} {tm : List AV} {h : Heap}

theorem eff_alloc (H : HR P base W ρ h w) (cs : Array Value) (l : List AV) (e : TypeId) {i : TypeInfo} (hi : P.info? e = some i) (hl : RVs ρ w l cs.toList) :
    HR P base W (upd ρ h.length 0 ⟨w.heap.size, 0, e, i.size, true⟩) (h ++ [⟨0, e, i.size, true, l⟩]) (w.alloc (.cells cs e)) ∧
      Ext ρ (upd ρ h.length 0 ⟨w.heap.size, 0, e, i.size, true⟩) ∧ Keep w (w.alloc (.cells cs e)) :=
  H.alloc cs l e i.size (fun j hj => by rw [hi] at hj; cases hj; rfl) fun j x hx => by
    obtain ⟨v, hv, hr⟩ := RVs_get hl hx
    exact ⟨v, by rw [← Array.getElem?_toList]; exact hv, hr⟩

theorem allCell_RVs {l : List AV} {vs : List Value} (h : l.all isCell = true) (hr : RVs ρ w l vs) : ∀ u ∈ vs, u.oneCell' = true := by
  intro u hu
  obtain ⟨i, hi⟩ := List.mem_iff_getElem?.1 hu
  obtain ⟨x, hx, hxr⟩ := RVs_get' hr hi
  exact isCell_one (List.all_eq_true.1 h x (List.mem_iff_getElem?.2 ⟨i, hx⟩)) hxr

theorem wrn_sound (H : HR P base W ρ h w) {b ver off : Nat} {l : List AV} {h' : Heap} (hw : wrn h b ver off l = some h') {p : Place} (hp : ρ b ver = some p) {vs : List Value} (hr : RVs ρ w l vs) (hc : l.all isCell = true) :
    ∃ w', (storeCells ⟨p.blk, p.off + off, none⟩ vs).run P w = .ok () w' ∧ w' = w.setCells p.blk (p.off + off) vs ∧ HR P base W ρ h' w' ∧ Keep w w' := by
  unfold wrn at hw
  split at hw
  · rename_i k hk
    split at hw
    · rename_i hcond
      obtain ⟨rfl, hrw, hlen⟩ := hcond
      cases hw
      obtain ⟨p', h1, h2, h3, h4, h5, h6, h7, h8⟩ := H.blk b k hk
      rw [hp] at h1; cases h1
      obtain ⟨a1, a2, ⟨n, a3⟩, a4⟩ := h8 hrw
      have hvl := RVs_length hr
      have hcells : ∀ j, j < vs.length → (w.cell? ⟨p.blk, p.off + off + j, none⟩).isSome = true := by
        intro j hj
        obtain ⟨v, hv, _⟩ := h7 (off + j) _ (List.getElem?_eq_getElem (show off + j < k.cells.length by omega))
        rw [Nat.add_assoc, hv]; rfl
      have hst := run_storeCells_cells (P := P) p.blk (p.off + off) vs 0 w (by simpa using hcells) (by simpa using fun j _ => a2 _) (allCell_RVs hc hr)
      refine ⟨_, by simpa using hst, by simp, ?_, Keep.setCells _ _ _ _⟩
      refine H.write hk hp hrw off vs _ hcells fun j x hx => ?_
      have hin : j < k.cells.length := by
        have := (List.getElem?_eq_some_iff.1 hx).1
        simp only [List.length_append, List.length_take, List.length_drop] at this
        omega
      by_cases hj : off ≤ j ∧ j < off + vs.length
      · rw [if_pos hj]
        rw [List.append_assoc, List.getElem?_append_right (by simp; omega), List.getElem?_append_left (by simp; omega)] at hx
        simp only [List.length_take] at hx
        rw [Nat.min_eq_left (by omega)] at hx
        exact RVs_get hr hx
      · rw [if_neg hj]
        have hx' : k.cells[j]? = some x := by
          rcases Nat.lt_or_ge j off with hlt | hge
          · rw [List.append_assoc, List.getElem?_append_left (by simp; omega), List.getElem?_take_of_lt hlt] at hx
            exact hx
          · rw [List.getElem?_append_right (by simp; omega)] at hx
            simp only [List.length_append, List.length_take] at hx
            rw [List.getElem?_drop] at hx
            rw [← hx]
            congr 1
            omega
        exact h7 j x hx'
    · cases hw
  · cases hw

theorem srcA_sound (H : HR P base W ρ h w) {sz : Nat} {y : AV} {v : Value} {m : Nat} {l : List AV} (hs : srcA h sz y = some (m, l)) (hv : RV ρ w y v) (hc : l.all isCell = true) {tx : TypeId}
    (hk : (∃ e', P.underlying tx = some (.slice e')) ∨ P.underlying tx = some .string) : ∃ news, Src P sz tx v m news w ∧ RVs ρ w l news := by
  cases y with
  | sl b ver off n z =>
    simp only [srcA, Option.map_eq_some_iff, Prod.mk.injEq] at hs
    obtain ⟨l', hl', rfl, rfl⟩ := hs
    obtain ⟨p, cap, ad, ⟨hp1, _⟩, rfl, hp3, hp4, _⟩ := hv
    obtain ⟨hll, vs, hvl, hrs, hcell⟩ := rdn_RVs H hl' hp1
    have hone := allCell_RVs hc hrs
    have hcell' : ∀ j u, vs[j]? = some u → w.cell? (ad.add j) = some u := by
      intro j u hu
      rcases hp4 with ⟨h0, _⟩ | rfl
      · have hj := (List.getElem?_eq_some_iff.1 hu).1
        have : n = 0 := by omega
        subst this
        omega
      · rw [Addr_add]; exact hcell j u hu
    exact ⟨vs, ⟨hk, fun _ => rfl, run_firstCells_some w sz n ad n cap vs hvl hcell', run_firstCells_some w.drew sz n ad n cap vs hvl (by simpa using hcell'), hvl, hone⟩, hrs⟩
  | s u =>
    have hu : v = u := hv
    subst hu
    cases v with
    | slice ad n c =>
      cases ad with
      | none =>
        cases n with
        | zero =>
          cases c with
          | zero =>
            simp only [srcA, Option.some.injEq, Prod.mk.injEq] at hs
            obtain ⟨rfl, rfl⟩ := hs
            exact ⟨[], ⟨hk, fun _ => rfl, run_firstCells_none w sz 0 0 0, run_firstCells_none w.drew sz 0 0 0, by simp, fun _ h => by cases h⟩, trivial⟩
          | succ _ => simp [srcA] at hs
        | succ _ => simp [srcA] at hs
      | some _ => simp [srcA] at hs
    | string s =>
      simp only [srcA] at hs
      split at hs
      · rename_i h1
        subst h1
        simp only [Option.some.injEq, Prod.mk.injEq] at hs
        obtain ⟨rfl, rfl⟩ := hs
        refine ⟨byteCells s, ⟨hk, fun _ => rfl, firstCells_string s w, firstCells_string s w.drew, by rw [byteCells_length, Nat.mul_one], fun u hu => by
          obtain ⟨_, _, rfl⟩ := List.mem_map.1 hu
          rfl⟩, ?_⟩
        have : (s.data.toList.map fun b => AV.s (.int .u8 b.toNat)) = (byteCells s).map AV.s := by simp [byteCells]
        rw [this]
        exact RVs_s _
      · cases hs
    | _ => simp [srcA] at hs
  | _ => simp [srcA] at hs

theorem growslice_ok {need old bytes : Nat} (h : old < need) (hb : need * bytes ≤ 140737488355328) : Builtin.nextslicecap need old * bytes ≤ 281474976710656 := growslice_fits h hb

/-- append, at the heaps. -/
theorem app_sound (H : HR P base W ρ h w) {t tx e : TypeId} {i : TypeInfo} {z : Value} (ht : P.underlying t = some (.slice e)) (hi : P.info? e = some i) (hz : i.zero = some z) (hzs : z.cells.size = i.size) (hpos : 0 < i.size)
    (hk : (∃ e', P.underlying tx = some (.slice e')) ∨ P.underlying tx = some .string) (ty : TypeId) {g : CallF} {x y : Operand} {r : AV × Heap} (hv : eV g tm h (.app e i.size i.bytes x y) = some r) (hr : RVs ρ w tm a.tmps.toList) :
    ∃ v w' ρ', (Builtin.append_ #[t, tx] ty #[a.eval x, a.eval y]).run P w = .ok v w' ∧ Eff P base W ρ w r v w' ρ' := by
  simp only [eV] at hv
  split at hv
  · rename_i m l hx hy
    obtain ⟨yv, hyv, hsrc⟩ := Option.bind_eq_some_iff.1 hy
    have hx' : a.eval x = .slice none 0 0 := evO_RV hr hx
    rw [hx']
    have hyr := evO_RV hr hyv
    split at hv
    · rename_i h0
      subst h0
      cases hv
      -- nothing onto nothing
      have hlt : ∃ news, (Builtin.lenOf (a.eval y)).run P w = .ok 0 w ∧ (Builtin.firstCells i.size 0 (a.eval y)).run P w = .ok news w := by
        cases yv with
        | sl b ver off n sz =>
          simp only [srcA, Option.map_eq_some_iff, Prod.mk.injEq] at hsrc
          obtain ⟨_, _, rfl, _⟩ := hsrc
          obtain ⟨p, cap, ad, _, hv', _⟩ := hyr
          rw [hv']
          exact ⟨#[], rfl, by simpa using run_firstCells_some (P := P) w i.size 0 ad 0 cap [] (by simp) (fun j v hj => by simp at hj)⟩
        | s u =>
          have hu : a.eval y = u := hyr
          rw [hu]
          cases u with
          | slice ad n c =>
            cases ad <;> cases n <;> cases c <;> simp [srcA] at hsrc
            exact ⟨#[], rfl, run_firstCells_none w i.size 0 0 0⟩
          | string s =>
            simp only [srcA] at hsrc
            split at hsrc
            · simp only [Option.some.injEq, Prod.mk.injEq] at hsrc
              exact ⟨_, by simp [Builtin.lenOf, hsrc.1], by simp [Builtin.firstCells]; rfl⟩
            · cases hsrc
          | _ => simp [srcA] at hsrc
        | _ => simp [srcA] at hsrc
      obtain ⟨news, hl1, hl2⟩ := hlt
      refine ⟨.slice none 0 0, w, ρ, ?_, Ext.refl _, Keep.refl _, rfl, H⟩
      rcases hk with ⟨e', hk⟩ | hk <;> simp [Builtin.append_, run_underlying ht, run_underlying hk, sizeOf, typeInfo, hi, hl1, hl2]
    · rename_i h0
      split at hv
      · rename_i hcond
        obtain ⟨hc, hb, h63⟩ := hcond
        cases hv
        obtain ⟨news, hs, hrs⟩ := srcA_sound H hsrc hyr hc hk
        have hgo := run_append_grow_src (P := P) w t tx ty e i z ht hi hz none 0 0 [] (run_firstCells_none w.drew i.size 0 0 0) (a.eval y) m news hs (by omega) (by simp; omega) (growslice_ok (by omega) (by simpa using hb))
        simp only [Nat.zero_add, List.nil_append] at hgo
        have hD := H.grow (w' := w.drew) ⟨rfl, rfl, rfl, Nat.le_refl _, fun _ _ => rfl⟩
        have hnl := hs.newsLen
        have hge := grownCap_ge w m 0 e
        obtain ⟨H2, hx2, hk2⟩ := HR.alloc hD (news.toArray ++ Builtin.zeroCells z.cells (grownCap w m 0 e - m)) l e i.size (fun j hj => by rw [hi] at hj; cases hj; rfl) (fun j x hx => by
          obtain ⟨v, hv, hr⟩ := RVs_get hrs hx
          refine ⟨v, ?_, RV_mono (w := w) (w' := w.drew) (Ext.refl _) (fun _ _ h => h) _ _ hr⟩
          have hj := (List.getElem?_eq_some_iff.1 hv).1
          rw [Array.getElem?_append_left (by simpa using hj)]
          simpa using hv)
        refine ⟨_, _, _, hgo, hx2, hk2, ?_, H2⟩
        refine ⟨_, _, _, ⟨upd_same _ _ _ _, rfl⟩, rfl, hge, .inr rfl, fun _ => ⟨grownCap_le_maxLen w m 0 e (by simp only [maxLen]; omega), _, shape_alloc _ _, ?_⟩⟩
        simp only [Array.size_append, List.size_toArray, size_zeroCells, hzs, hnl]
        have : grownCap w m 0 e * i.size = m * i.size + (grownCap w m 0 e - m) * i.size := by rw [← Nat.add_mul]; congr 1; omega
        simp only [Nat.zero_add]
        omega
      · cases hv
  · rename_i b ver o n sz m l hx hy
    obtain ⟨yv, hyv, hsrc⟩ := Option.bind_eq_some_iff.1 hy
    have hyr := evO_RV hr hyv
    obtain ⟨p, cap, ad, ⟨hp1, hps⟩, hxe, hlc, had, hroom⟩ := evO_RV hr hx
    rw [hxe]
    split at hv
    · rename_i k hk'
      split at hv
      · rename_i hcond
        obtain ⟨rfl, hrw, rfl, hksz, hlen, hc, hb, h63⟩ := hcond
        cases hv
        obtain ⟨news, hs, hrs⟩ := srcA_sound H hsrc hyr hc hk
        obtain ⟨p', q1, q2, q3, q4, q5, q6, q7, q8⟩ := H.blk b k hk'
        rw [hp1] at q1; cases q1
        obtain ⟨a1, a2, ⟨N, a3⟩, a4⟩ := q8 hrw
        obtain ⟨hcm, n', hsh, hfit⟩ := hroom (q5.trans hrw)
        rw [q3] at hsh
        rw [a3] at hsh; cases hsh
        have hpsz : p.sz = i.size := q4.trans hksz
        rw [hpsz] at hfit
        have hnl := hs.newsLen
        have hll : l.length = m * i.size := by rw [RVs_length hrs, hnl]
        by_cases hroom' : n + m ≤ cap
        · -- room
          have hcs : ∀ B O, (n + m = 0 ∧ True ∨ (B = p.blk ∧ O = p.off + o)) → ∀ j, j < news.length → (w.cell? ⟨B, O + n * i.size + j, none⟩).isSome = true := by
            intro B O hBO j hj
            rcases hBO with ⟨h0, _⟩ | ⟨rfl, rfl⟩
            · have : m = 0 := by omega
              subst this
              simp at hnl
              subst hnl
              simp at hj
            · refine cell_of_shape a3 ?_
              have e1 : (n + m) * i.size ≤ cap * i.size := Nat.mul_le_mul_right _ hroom'
              rw [Nat.add_mul] at e1
              omega
          have hfz : ∀ B O, (n + m = 0 ∧ True ∨ (B = p.blk ∧ O = p.off + o)) → ∀ j, j < news.length → w.frozen? ⟨B, O + n * i.size + j, none⟩ = false := by
            intro B O hBO j hj
            rcases hBO with ⟨h0, _⟩ | ⟨rfl, rfl⟩
            · have : m = 0 := by omega
              subst this
              simp at hnl
              subst hnl
              simp at hj
            · exact a2 _
          have hBO : n + m = 0 ∧ True ∨ (ad.block = p.blk ∧ ad.off = p.off + o) := by
            rcases had with ⟨h0, _⟩ | rfl
            · exact .inl ⟨by omega, trivial⟩
            · exact .inr ⟨rfl, rfl⟩
          have hsp : ad.spot = none := by
            rcases had with ⟨_, h0⟩ | rfl
            · exact h0
            · rfl
          have hgo := run_append_room_src (P := P) w t tx ty k.e i ht hi ad.block ad.off n cap (a.eval y) m news hs hroom' (hcs _ _ hBO) (hfz _ _ hBO)
          rw [← spot_eta hsp] at hgo
          -- the world: the cells behind the length are written
          have hw : w.setCells ad.block (ad.off + n * i.size) news = w.setCells p.blk (p.off + (o + n * i.size)) news := by
            rcases hBO with ⟨h0, _⟩ | ⟨h1, h2⟩
            · have : m = 0 := by omega
              subst this
              simp at hnl
              subst hnl
              rfl
            · rw [h1, h2, Nat.add_assoc]
          rw [hw] at hgo
          have H1 := H.write hk' hp1 hrw (o + n * i.size) news (k.cells.take (o + n * i.size) ++ l)
            (fun j hj => by
              have := hcs p.blk (p.off + o) (.inr ⟨rfl, rfl⟩) j hj
              rwa [← Nat.add_assoc]) (fun j x hx => by
            have hj := (List.getElem?_eq_some_iff.1 hx).1
            simp only [List.length_append, List.length_take, hll] at hj
            rw [Nat.min_eq_left hlen] at hj
            by_cases hjn : o + n * i.size ≤ j
            · rw [if_pos ⟨hjn, by omega⟩]
              rw [List.getElem?_append_right (by simp; omega)] at hx
              simp only [List.length_take] at hx
              rw [Nat.min_eq_left hlen] at hx
              exact RVs_get hrs hx
            · rw [if_neg (by omega)]
              rw [List.getElem?_append_left (by simp; omega), List.getElem?_take_of_lt (by omega)] at hx
              exact q7 j x hx)
          have hb1 : (h.set b { k with cells := k.cells.take (o + n * i.size) ++ l })[b]? = some { k with cells := k.cells.take (o + n * i.size) ++ l } := List.getElem?_set_self (List.getElem?_eq_some_iff.1 hk').1
          have hkeep := Keep.setCells w p.blk (p.off + (o + n * i.size)) news
          obtain ⟨p2, r1, r2, r3, r4, r5, r6, r7, r8⟩ := H1.blk b _ hb1
          rw [hp1] at r1; cases r1
          obtain ⟨c1, c2, ⟨N2, c3⟩, c4⟩ := r8 hrw
          have hdrop : (k.cells.take (o + n * i.size) ++ l).drop o = (k.cells.drop o).take (n * i.size) ++ l := by
            rw [List.drop_append_of_le_length (by simp; omega), List.drop_take, Nat.add_sub_cancel_left]
          obtain ⟨H2, hx2⟩ := H1.bump hb1 hrw { p with off := p.off + o } ((k.cells.drop o).take (n * i.size) ++ l) q3 q4 (q5.trans hrw) r6
            (fun j x hx => by
              rw [← hdrop, List.getElem?_drop] at hx
              obtain ⟨v, hv, hvr⟩ := r7 (o + j) x hx
              exact ⟨v, by rw [← hv, Nat.add_assoc], hvr⟩)
            ⟨c1, c2, ⟨N2, c3⟩⟩ (fun c kc q hcb hc' hq heq => hcb (H1.inj b c _ kc p q hb1 hc' hp1 hq hrw heq.symm).symm)
          refine ⟨_, _, _, hgo, hx2, hkeep, ?_, by simpa using H2⟩
          refine ⟨_, cap, ad, ⟨upd_same _ _ _ _, hpsz⟩, rfl, hroom', ?_, fun _ => ⟨hcm, N, ?_, ?_⟩⟩
          · rcases had with ⟨h0, h1⟩ | rfl
            · exact .inl ⟨h0, h1⟩
            · exact .inr rfl
          · have := hkeep _ _ a3
            rw [← q3] at this
            exact this
          · simp only [Nat.add_zero]; rw [hpsz]; omega
        · -- a new row
          have hB0 : ∃ olds : List Value, olds.length = n * i.size ∧ RVs ρ w ((k.cells.drop o).take (n * i.size)) olds ∧ ∀ j v, olds[j]? = some v → w.cell? (ad.add j) = some v := by
            have hrd : rdn h b k.ver o (n * i.size) = some ((k.cells.drop o).take (n * i.size)) := by
              unfold rdn; rw [hk']; simp only; rw [if_pos ⟨trivial, hlen⟩]
            obtain ⟨_, vs, hvl, hrv, hcell⟩ := rdn_RVs H hrd hp1
            refine ⟨vs, hvl, hrv, fun j v hj => ?_⟩
            rcases had with ⟨h0, _⟩ | rfl
            · have : n = 0 := by omega
              subst this
              simp at hvl
              subst hvl
              simp at hj
            · rw [Addr_add]; exact hcell j v hj
          obtain ⟨olds, hol, hor, hoc⟩ := hB0
          have hgo := run_append_grow_src (P := P) w t tx ty k.e i z ht hi hz (some ad) n cap olds (run_firstCells_some w.drew i.size n ad n cap olds hol (by simpa using hoc)) (a.eval y) m news hs (by omega) (by omega) (growslice_ok (by omega) hb)
          have hge := grownCap_ge w (n + m) cap k.e
          have hD := H.grow (w' := w.drew.alloc (.cells ((olds ++ news).toArray ++ Builtin.zeroCells z.cells (grownCap w (n + m) cap k.e - (n + m))) k.e)) ((Below.refl _ _).drew.alloc (Nat.le_refl _) _)
          have hkeep : Keep w (w.drew.alloc (.cells ((olds ++ news).toArray ++ Builtin.zeroCells z.cells (grownCap w (n + m) cap k.e - (n + m))) k.e)) := Keep.of_below ((Below.refl _ _).drew.alloc (Nat.le_refl _) _)
          have hcell2 : ∀ j, (w.drew.alloc (.cells ((olds ++ news).toArray ++ Builtin.zeroCells z.cells (grownCap w (n + m) cap k.e - (n + m))) k.e)).cell? ⟨w.heap.size, j, none⟩ = ((olds ++ news).toArray ++ Builtin.zeroCells z.cells (grownCap w (n + m) cap k.e - (n + m)))[j]? := fun j => cell_alloc (w := w.drew) _ _ j
          obtain ⟨H2, hx2⟩ := hD.bump hk' hrw ⟨w.heap.size, 0, k.e, k.sz, true⟩ ((k.cells.drop o).take (n * i.size) ++ l) rfl rfl rfl (by simp)
            (fun j x hx => by
              obtain ⟨v, hv, hvr⟩ := RVs_get (RVs_append hrs hor) hx
              refine ⟨v, ?_, RV_mono (Ext.refl _) hkeep _ _ hvr⟩
              simp only [Nat.zero_add]
              rw [hcell2, Array.getElem?_append_left (by simpa using (List.getElem?_eq_some_iff.1 hv).1)]
              simpa using hv)
            ⟨H.hbase, fun q => frozen_alloc (w := w.drew) _ _ q, ⟨_, shape_alloc (w := w.drew) _ _⟩⟩ (fun c kc q hcb hc' hq heq => by
              obtain ⟨q', g1, _, _, _, _, g6, _⟩ := H.blk c kc hc'
              rw [hq] at g1; cases g1
              simp only at heq
              omega)
          refine ⟨_, _, _, hgo, hx2, hkeep, ?_, H2⟩
          refine ⟨_, _, _, ⟨upd_same _ _ _ _, hksz⟩, rfl, hge, .inr rfl, fun _ => ⟨grownCap_le_maxLen w (n + m) cap k.e (by simp only [maxLen]; omega), _, shape_alloc (w := w.drew) _ _, ?_⟩⟩
          simp only [Array.size_append, List.size_toArray, List.length_append, size_zeroCells, hzs, hnl, hol, hksz]
          have : grownCap w (n + m) cap k.e * i.size = n * i.size + m * i.size + (grownCap w (n + m) cap k.e - (n + m)) * i.size := by rw [← Nat.add_mul, ← Nat.add_mul]; congr 1; omega
          simp only [Nat.zero_add]
          omega
      · cases hv
    · cases hv
  · cases hv

theorem fillA_length : ∀ {ys : List (Nat × Nat × AV)} {cells r : List AV}, fillA cells ys = some r → r.length = cells.length
  | [], cells, r, h => by simp only [fillA, Option.some.injEq] at h; rw [h]
  | (off, size, x) :: ys, cells, r, h => by
    simp only [fillA] at h
    split at h
    · split at h
      · rename_i l _ hc
        rw [fillA_length h]
        simp only [List.length_append, List.length_take, List.length_drop]
        omega
      · cases h
    · cases h

theorem upd_RV {b v : Nat} {p : Place} : upd ρ b v p b v = some p := upd_same _ _ _ _

/-- The operations with an effect, but for calls. -/
theorem eV_sound (o : Oper) {q : EOp} (hp : prepOp P o = some (.e q)) (hnc : (∀ f as, q ≠ .call f as) ∧ (∀ f as, q ≠ .callv f as)) {g : CallF} {r : AV × Heap} (hv : eV g tm h q = some r) (hr : RVs ρ w tm a.tmps.toList) (H : HR P base W ρ h w) :
    ∃ nx v w' ρ', (execOp a.eval o).run P w = .ok nx w' ∧ (nx = .value v ∨ nx = .skip ∧ v = undef) ∧ Eff P base W ρ w r v w' ρ' := by
  obtain ⟨dst, op, ty, pos, after, guard⟩ := o
  unfold prepOp at hp
  cases op with
  | alloc e =>
    simp only at hp
    split at hp
    · rename_i i hi
      split at hp
      · rename_i z hz
        simp only [Option.some.injEq, AOp.e.injEq] at hp; subst hp
        simp only [eV, Option.some.injEq] at hv; subst hv
        obtain ⟨H2, hx, hk⟩ := eff_alloc H z.cells (z.cells.toList.map .s) e hi (RVs_s _)
        refine ⟨_, .pointer (some ⟨w.heap.size, 0, none⟩), _, _, by simp [execOp, Instr.alloc, zeroValue, typeInfo, hi, hz, newVar, newRow], .inl rfl, hx, hk, ⟨_, upd_RV, rfl⟩, H2⟩
      · cases hp
    · cases hp
  | box e y =>
    simp only at hp
    split at hp
    · rename_i i hi
      simp only [Option.some.injEq, AOp.e.injEq] at hp; subst hp
      simp only [eV] at hv
      split at hv
      · rename_i l hl
        cases hv
        obtain ⟨z, hz, hzl⟩ := Option.bind_eq_some_iff.1 hl
        obtain ⟨H2, hx, hk⟩ := eff_alloc H (a.eval y).cells l e hi (cellsOf_RVs hzl (evO_RV hr hz))
        refine ⟨_, .pointer (some ⟨w.heap.size, 0, none⟩), _, _, by simp [execOp, Instr.box, newVar, newRow], .inl rfl, hx, hk, ⟨_, upd_RV, rfl⟩, H2⟩
      · cases hv
    · cases hp
  | buildSlice t len parts =>
    simp only at hp
    split at hp
    · rename_i e hd
      split at hp
      · rename_i i hi
        split at hp
        · rename_i z hz
          split at hp
          · rename_i hlim
            simp only [Option.map_eq_some_iff, AOp.e.injEq] at hp
            obtain ⟨l, hl, rfl⟩ := hp
            simp only [eV] at hv
            split at hv
            · rename_i ys hys
              split at hv
              · rename_i c hc
                cases hv
                have hcl : ∃ cs : Array Value, cs.toList = (if len * i.size = 0 then [] else (List.range (len * i.size)).map fun k => z.cells[k % z.cells.size]!) ∧
                    ∀ zc : Array Value, zc = (if len * i.size = 0 then #[] else z.cells) → (Array.range (len * i.size)).map (fun k => zc[k % zc.size]!) = cs := by
                  by_cases h0 : len * i.size = 0
                  · refine ⟨#[], by rw [if_pos h0], fun zc _ => by rw [h0]; simp⟩
                  · refine ⟨(Array.range (len * i.size)).map (fun k => z.cells[k % z.cells.size]!), by rw [if_neg h0]; simp [Array.toList_map, Array.toList_range], fun zc hzc => by rw [if_neg h0] at hzc; subst hzc; rfl⟩
                obtain ⟨cs, hcs1, hcs2⟩ := hcl
                obtain ⟨out, ho, hro⟩ := fill_sound (cs := cs) _ hr hl hys hc (by rw [hcs1]; exact RVs_s _)
                have hlen : out.size = len * i.size := by
                  have h1 : c.length = out.size := (RVs_length hro).trans Array.length_toList
                  have h2 := fillA_length hc
                  rw [← h1, h2]
                  split
                  · rename_i h0; simp [h0]
                  · simp
                obtain ⟨H2, hx, hk⟩ := eff_alloc H out c e hi hro
                refine ⟨_, .slice (some ⟨w.heap.size, 0, none⟩) len len, _, _, ?_, .inl rfl, hx, hk, ⟨_, _, _, ⟨upd_RV, rfl⟩, rfl, Nat.le_refl _, .inr rfl, fun _ => ⟨?_, _, shape_alloc _ _, by simp only [Nat.zero_add]; omega⟩⟩, H2⟩
                · have hz2 := hcs2 (if len * i.size = 0 then #[] else z.cells) rfl
                  have ho' : Instr.fill (fun k => some (k * i.size, i.size)) cs ((parts.map fun (x : Nat × Operand) => (x.1, a.eval x.2)).toList) = some out := by simpa using ho
                  have hlim' : ¬ (2 ^ 24 < len * i.size) := by omega
                  have hzrun : (if len * i.size = 0 then (pure #[] : Sem (Array Value)) else do pure (← zeroValue e).cells).run P w = .ok (if len * i.size = 0 then #[] else z.cells) w := by
                    by_cases h0 : len * i.size = 0
                    · rw [if_pos h0, if_pos h0]; rfl
                    · rw [if_neg h0, if_neg h0]; simp [zeroValue, typeInfo, hi, hz]
                  have hpm : (parts.map fun (x : Nat × Operand) => (x.1, a.eval x.2)).toList = (parts.map fun x => match x with | (i, x) => (i, a.eval x)).toList := rfl
                  have hbs : (Instr.buildSlice t len (parts.map fun (x : Nat × Operand) => (x.1, a.eval x.2))).run P w = .ok (.slice (some ⟨w.heap.size, 0, none⟩) len len) (w.alloc (.cells out e)) := by
                    unfold Instr.buildSlice
                    simp [run_underlying hd, sizeOf, typeInfo, hi, zeroValue, hz, hlim', newRow]
                    have ho2 : Instr.fill (fun k => some (k * i.size, i.size)) cs (List.map (fun (x : Nat × Operand) => (x.1, a.eval x.2)) parts.toList) = some out := by simpa using ho'
                    by_cases h0 : len * i.size = 0
                    · rw [if_pos h0]
                      have hz3 : Array.map (fun _ => (default : Value)) (Array.range (len * i.size)) = cs := by
                        have := hcs2 #[] (by rw [if_pos h0])
                        simpa using this
                      rw [hz3, ho2]
                      simp
                    · rw [if_neg h0]
                      have hz3 := hcs2 z.cells (by rw [if_neg h0])
                      rw [hz3, ho2]
                      simp
                  simp [execOp, hbs]
                · have := Nat.le_mul_of_pos_right len hlim.2
                  simp only [maxLen]
                  omega
              · cases hv
            · cases hv
          · cases hp
        · cases hp
      · cases hp
    · cases hp
  | store t y z =>
    simp only at hp
    split at hp
    · rename_i i hi
      simp only [Option.some.injEq, AOp.e.injEq] at hp; subst hp
      simp only [eV] at hv
      split at hv
      · rename_i b ver off l hy hl
        split at hv
        · rename_i hc
          obtain ⟨h', hw, rfl⟩ := Option.map_eq_some_iff.1 hv
          obtain ⟨u, hu, hul⟩ := Option.bind_eq_some_iff.1 hl
          obtain ⟨p, hp1, hp2⟩ := evO_RV hr hy
          have hrs := cellsOf_RVs hul (evO_RV hr hu)
          obtain ⟨w', hst, _, H2, hk⟩ := wrn_sound H hw hp1 hrs hc.2
          have hsz : (a.eval z).cells.size = i.size := by
            have h1 : l.length = (a.eval z).cells.size := (RVs_length hrs).trans Array.length_toList
            have h2 := hc.1
            omega
          exact ⟨.skip, undef, w', ρ, by simp [execOp, Instr.storeAt, hp2, Instr.sureAddr, storeVar, sizeOf, typeInfo, hi, hsz, hst], .inr ⟨rfl, rfl⟩, Ext.refl _, hk, rfl, H2⟩
        · cases hv
      · cases hv
    · cases hp
  | makeSlice t l c =>
    simp only at hp
    split at hp
    · rename_i e hd
      split at hp
      · rename_i i hi
        split at hp
        · rename_i z hz
          split at hp
          · rename_i hzs
            simp only [Option.some.injEq, AOp.e.injEq] at hp; subst hp
            simp only [eV] at hv
            split at hv
            · rename_i n m hn hm
              split at hv
              · rename_i hb
                obtain ⟨b0, b1, b2, b3⟩ := hb
                cases hv
                obtain ⟨u, hu, hun⟩ := Option.bind_eq_some_iff.1 hn
                obtain ⟨k1, hk1⟩ := asI_RV hun (evO_RV hr hu)
                obtain ⟨u', hu', hun'⟩ := Option.bind_eq_some_iff.1 hm
                obtain ⟨k2, hk2⟩ := asI_RV hun' (evO_RV hr hu')
                have hc0 : (m.toNat : Int) = m := by omega
                have hbn : (i.bytes : Int) * m ≤ 140737488355328 := by rw [Int.mul_comm]; exact b2
                obtain ⟨H2, hx, hk⟩ := eff_alloc H ((Array.range (m.toNat * i.size)).map fun k => z.cells[k % z.cells.size]!) (List.replicate m.toNat (z.cells.toList.map AV.s)).flatten e hi (by
                  refine RVs_of ?_ ?_
                  · simp [hzs.1]
                  · intro j x v hj hv
                    have hjl := (List.getElem?_eq_some_iff.1 hv).1
                    simp only [Array.toList_map, Array.toList_range, List.length_map, List.length_range] at hjl
                    rw [flatten_replicate_get _ _ _ (by simpa [hzs.1] using hjl)] at hj
                    simp only [List.length_map, Array.length_toList] at hj
                    have hmod : j % z.cells.size < z.cells.size := Nat.mod_lt _ (by omega)
                    rw [List.getElem?_map, Array.getElem?_toList, Array.getElem?_eq_getElem hmod] at hj
                    simp only [Option.map_some, Option.some.injEq] at hj
                    subst hj
                    simp only [Array.toList_map, Array.toList_range, List.getElem?_map] at hv
                    rw [List.getElem?_eq_getElem (by simpa using hjl)] at hv
                    simp only [List.getElem_range, Option.map_some, Option.some.injEq] at hv
                    rw [← hv]
                    simp only [RV]
                    rw [getElem!_pos z.cells _ hmod])
                have hw1 : IntKind.i64.wrap n = n := IntWalk.i64_in n (by omega)
                have hw2 : IntKind.i64.wrap m = m := IntWalk.i64_in m (by omega)
                refine ⟨_, .slice (some ⟨w.heap.size, 0, none⟩) n.toNat m.toNat, _, _, ?_, .inl rfl, hx, hk, ⟨_, _, _, ⟨upd_RV, rfl⟩, rfl, by omega, .inr rfl, fun _ => ⟨by simp only [maxLen]; omega, _, shape_alloc _ _, by simp⟩⟩, H2⟩
                have ht : ¬ ((m < 0 ∨ 281474976710656 < (i.bytes : Int) * m) ∨ n < 0) := by omega
                have ht2 : ¬ (m < n) := by omega
                have hzrun : (if m.toNat * i.size = 0 then (pure #[] : Sem (Array Value)) else do pure (← zeroValue e).cells).run P w = .ok (if m.toNat * i.size = 0 then #[] else z.cells) w := by
                  by_cases h0 : m.toNat * i.size = 0
                  · rw [if_pos h0, if_pos h0]; rfl
                  · rw [if_neg h0, if_neg h0]; simp [zeroValue, typeInfo, hi, hz]
                have harr : (Array.range (m.toNat * i.size)).map (fun k => (if m.toNat * i.size = 0 then #[] else z.cells)[k % (if m.toNat * i.size = 0 then #[] else z.cells).size]!) = (Array.range (m.toNat * i.size)).map fun k => z.cells[k % z.cells.size]! := by
                  by_cases h0 : m.toNat * i.size = 0
                  · rw [h0]; simp
                  · rw [if_neg h0]
                have hms : (Instr.makeSlice t (.int k1 n) (.int k2 m)).run P w = .ok (.slice (some ⟨w.heap.size, 0, none⟩) n.toNat m.toNat) (w.alloc (.cells ((Array.range (m.toNat * i.size)).map fun k => z.cells[k % z.cells.size]!) e)) := by
                  unfold Instr.makeSlice
                  simp [run_underlying hd, asInt, asIntOf, sizeOf, typeInfo, hi, zeroValue, hz, hw1, hw2, newRow]
                  have hcd : ¬ (((m < 0 ∨ 281474976710656 < (i.bytes : Int) * m) ∨ n < 0) ∨ m < n) := by omega
                  rw [if_neg hcd]
                  by_cases h0 : m.toNat * i.size = 0
                  · rw [if_pos h0, h0, show Array.range 0 = (#[] : Array Nat) from rfl]; simp
                  · rw [if_neg h0]
                simp [execOp, hk1, hk2, hms]
              · cases hv
            · cases hv
          · cases hp
        · cases hp
      · cases hp
    · cases hp
  | call c =>
    obtain ⟨callee, args, argTypes⟩ := c
    cases callee with
    | invoke _ _ => simp [prepCall] at hp
    | value f =>
      cases f <;> simp only [prepCall] at hp <;> (repeat' split at hp) <;> first | (simp at hp; done) | (simp only [Option.some.injEq, AOp.e.injEq] at hp; subst hp; first | exact absurd rfl (hnc.1 _ _) | exact absurd rfl (hnc.2 _ _))
    | builtin bi =>
      cases bi <;> simp only [prepCall, prepSc] at hp <;> try (simp at hp; done)
      case len => (repeat' split at hp) <;> simp at hp
      case append =>
        split at hp
        · rename_i t t2 x y ht hy
          have hargs : args = #[x, y] := by cases args; simp_all
          have hts : argTypes = #[t, t2] := by cases argTypes; simp_all
          subst hargs hts
          have fin : ∀ (e : TypeId) (i : TypeInfo) (z : Value), P.underlying t = some (.slice e) → P.info? e = some i → i.zero = some z → z.cells.size = i.size → 0 < i.size →
              ((∃ e', P.underlying t2 = some (.slice e')) ∨ P.underlying t2 = some .string) → q = .app e i.size i.bytes x y →
              ∃ nx v w' ρ', (execOp a.eval ⟨dst, .call ⟨.builtin .append, #[x, y], #[t, t2]⟩, ty, pos, after, guard⟩).run P w = .ok nx w' ∧ (nx = .value v ∨ nx = .skip ∧ v = undef) ∧ Eff P base W ρ w r v w' ρ' := by
            intro e i z hd hi hz hzs hpos hk hq
            subst hq
            obtain ⟨v, w', ρ', h1, h2⟩ := app_sound H hd hi hz hzs hpos hk ty hv hr
            exact ⟨_, v, w', ρ', by simp [execOp, resolve, invoke, builtin, h1], .inl rfl, h2⟩
          split at hp
          · rename_i e e' hd hd2
            split at hp
            · rename_i i hi
              split at hp
              · rename_i z hz
                split at hp
                · rename_i hc
                  simp only [Option.some.injEq, AOp.e.injEq] at hp
                  exact fin e i z hd hi hz hc.2 hc.1 (.inl ⟨_, hd2⟩) hp.symm
                · cases hp
              · cases hp
            · cases hp
          · rename_i e hd hd2
            split at hp
            · rename_i i hi
              split at hp
              · rename_i z hz
                split at hp
                · rename_i hc
                  simp only [Option.some.injEq, AOp.e.injEq] at hp
                  exact fin e i z hd hi hz hc.2 (by omega) (.inr hd2) hp.symm
                · cases hp
              · cases hp
            · cases hp
          · cases hp
        · cases hp
  | load t y => simp only at hp; (repeat' split at hp) <;> simp at hp
  | convert src dst' y => simp only [prepSc] at hp; (repeat' split at hp) <;> simp at hp
  | build t parts => simp only at hp; (repeat' split at hp) <;> simp at hp
  | binOp op t y z yt => simp only [prepEq, prepSc] at hp; (repeat' split at hp) <;> simp at hp
  | unOp op t y => simp [prepSc] at hp
  | slice t y lo hi mx => simp only [prepSc] at hp; (repeat' split at hp) <;> simp at hp
  | fieldAddr s y f => simp only at hp; (repeat' split at hp) <;> simp at hp
  | field s y f => simp only at hp; (repeat' split at hp) <;> simp at hp
  | indexAddr s y f => simp only at hp; (repeat' split at hp) <;> simp at hp
  | index s y f => simp only [prepSc] at hp; (repeat' split at hp) <;> simp at hp
  | _ => simp at hp

end sound
end Go.Proofs.Ytpmoellbfgcefaa.AS
end
section
set_option autoImplicit false
namespace Go.Proofs.Ytpmoellbfgcefaa.AS
open Go Go.RowKit

inductive ARes where
  | tmp (t : Nat)
  | cell (agg : Bool) (n t : Nat)

inductive ACode where
  | skip
  | reg (ops : List AOper)
  | draw (ops : List AOper) (chk : List (Nat × Nat × Nat))
  | seq (a b : ACode)
  | cond (c : Operand) (a b : ACode)
  | block (id : Nat) (b : ACode)
  | loop (fg : List Nat) (b : ACode)
  | exit (id : Nat)
  | scope (fg : List Nat) (b cur : ACode)
  | label (fg : List Nat) (l : Nat)
  | goto (l : Nat)
  | ret

inductive AFunc where
  | code (ntmps : Nat) (res : List ARes) (body : ACode)
  | hook (f : List AV → Heap → Option (AV × Heap))

inductive Ex where
  | normal | exit (id : Nat) | goto (l : Nat) | ret

def Ex.toExit : Ex → Exit
  | .normal => .normal
  | .exit id => .exit id
  | .goto l => .goto l
  | .ret => .ret

def opV (P : Program) (g : CallF) (tm : List AV) (h : Heap) : AOp → Option (AV × Heap)
  | .p o => (pV P tm o).map fun x => (x, h)
  | .r o => (rV tm h o).map fun x => (x, h)
  | .e o => eV g tm h o

def putA (tm : List AV) (d : Option Nat) (x : AV) : List AV :=
  match d with
  | some d => tm.set d x
  | none => tm

def wantA (tm : List AV) : Option (Nat × Bool) → Option Bool
  | none => some true
  | some (s, want) => match tm[s]? with
    | some (.s (.bool b)) => some (b == want)
    | _ => none

def evOps (P : Program) (g : CallF) : List AOper → List AV → Heap → Option (List AV × Heap)
  | [], tm, h => some (tm, h)
  | o :: rest, tm, h => match wantA tm o.guard with
    | some true => match opV P g tm h o.op with
      | some (x, h') => evOps P g rest (putA tm o.dst x) h'
      | none => none
    | some false => evOps P g rest (putA tm o.dst (.s undef)) h
    | none => none

def forget : List Nat → List AV → List AV
  | [], tm => tm
  | t :: l, tm => forget l (tm.set t .any)

def findA : ACode → Nat → Option ACode
  | .seq a b, l => match findA a l with
    | some rest => some (.seq rest b)
    | none => findA b l
  | .label _ l', l => if l' == l then some .skip else none
  | _, _ => none

/-! ### A region whose order is open: the text's order, and that no other order would tell -/
def isE : AOp → Bool
  | .e _ => true
  | _ => false

/-- The run in the text's order: the heaps ahead of the effects and behind the last, what stood ahead of each operation and what it gave. -/
def runDraw (P : Program) (g : CallF) : List AOper → List AV → Heap → Option (List Heap × List (List AV × AV × Bool) × List AV × Heap)
  | [], tm, h => some ([h], [], tm, h)
  | o :: rest, tm, h => match wantA tm o.guard with
    | some true => match opV P g tm h o.op with
      | some (x, h') => match runDraw P g rest (putA tm o.dst x) h' with
        | some (hs, xs, r) => some (if isE o.op then h :: hs else hs, (tm, x, true) :: xs, r)
        | none => none
      | none => none
    | some false => match runDraw P g rest (putA tm o.dst (.s undef)) h with
        | some (hs, xs, r) => some (if isE o.op then h :: hs else hs, (tm, .s undef, false) :: xs, r)
        | none => none
    | none => none

def vEq : Value → Value → Bool
  | .int k a, .int k' b => k == k' && a == b
  | .bool a, .bool b => a == b
  | .string a, .string b => a.data.toList == b.data.toList
  | .pointer none, .pointer none => true
  | .slice none a b, .slice none c d => a == c && b == d
  | .nilFunc, .nilFunc => true
  | _, _ => false
mutual
def avEq : AV → AV → Bool
  | .s a, .s b => vEq a b
  | .pt a b c, .pt a' b' c' => a == a' && b == b' && c == c'
  | .sl a b c d e, .sl a' b' c' d' e' => a == a' && b == b' && c == c' && d == d' && e == e'
  | .ag l, .ag l' => avsEq l l'
  | _, _ => false
def avsEq : List AV → List AV → Bool
  | [], [] => true
  | x :: l, y :: l' => avEq x y && avsEq l l'
  | _, _ => false
end

def okAt (tm : List AV) (q : ROp) (x : AV) (h : Heap) : Bool :=
  match rV tm h q with
  | some y => avEq y x
  | none => false

/-- What reads memory reads the same wherever else the order may have it. -/
def chkDraw (ops : List AOper) (hs : List Heap) (xs : List (List AV × AV × Bool)) : List (Nat × Nat × Nat) → Bool
  | [] => true
  | (i, lo, hi) :: l => (match ops[i]?, xs[i]? with
    | some ⟨_, _, .r q⟩, some (tm, x, ran) => !ran || ((hs.drop lo).take (hi + 1 - lo)).all (okAt tm q x)
    | _, _ => false) && chkDraw ops hs xs l

abbrev Res := Ex × List AV × Heap

def evC (P : Program) (g : CallF) : Nat → ACode → List AV → Heap → Option Res
  | 0, _, _, _ => none
  | k + 1, c, tm, h => match c with
    | .skip => some (.normal, tm, h)
    | .label fg _ => some (.normal, forget fg tm, h)
    | .reg ops => (evOps P g ops tm h).map fun r => (.normal, r.1, r.2)
    | .draw ops chk => match runDraw P g ops tm h with
      | some (hs, xs, tm', h') => if chkDraw ops hs xs chk then some (.normal, tm', h') else none
      | none => none
    | .seq a b => match evC P g k a tm h with
      | some (.normal, tm', h') => evC P g k b tm' h'
      | r => r
    | .cond c a b => match evO tm c with
      | some (.s (.bool t)) => if t then evC P g k a tm h else evC P g k b tm h
      | _ => none
    | .block id b => match evC P g k b tm h with
      | some (.exit j, tm', h') => if j = id then some (.normal, tm', h') else some (.exit j, tm', h')
      | r => r
    | .loop fg b => match evC P g k b (forget fg tm) h with
      | some (.normal, tm', h') => evC P g k (.loop fg b) tm' h'
      | r => r
    | .exit id => some (.exit id, tm, h)
    | .goto l => some (.goto l, tm, h)
    | .ret => some (.ret, tm, h)
    | .scope fg b cur => match evC P g k cur tm h with
      | some (.goto l, tm', h') => match findA b l with
        | some rest => evC P g k (.scope fg b rest) (forget fg tm') h'
        | none => some (.goto l, tm', h')
      | r => r

def resA (tm : List AV) (h : Heap) : ARes → Option AV
  | .tmp t => tm[t]?
  | .cell agg n t => match tm[t]? with
    | some (.pt b v o) => (rdn h b v o n).bind (oneOr agg)
    | _ => none

def resAs (tm : List AV) (h : Heap) : List ARes → Option (List AV)
  | [] => some []
  | r :: l => match resA tm h r, resAs tm h l with | some x, some xs => some (x :: xs) | _, _ => none

def tupA : List AV → AV
  | [x] => x
  | l => .tp l

def evFn (P : Program) (T : FuncId → Option AFunc) : Nat → CallF
  | 0 => fun _ _ _ => none
  | k + 1 => fun f args h => match T f with
    | some (.code nt res body) => match evC P (evFn P T k) (k + 1) body (args ++ List.replicate (nt - args.length) (.s undef)) h with
      | some (.ret, tm, h') => (resAs tm h' res).map fun l => (tupA l, h')
      | some (.normal, tm, h') => (resAs tm h' res).map fun l => (tupA l, h')
      | _ => none
    | some (.hook hk) => hk args h
    | none => none

/-! ### From the model's code -/
def prepOps (P : Program) (ops : Array Oper) : List Oper → Option (List AOper)
  | [] => some []
  | o :: l => match prepOp P o, prepOps P ops l with
    | some q, some r => match o.guard with
      | none => some (⟨o.dst, none, q⟩ :: r)
      | some (j, want) => match (ops[j]?).bind (·.dst) with
        | some s => some (⟨o.dst, some (s, want), q⟩ :: r)
        | none => none
    | _, _ => none

/-! What a region whose order is open must be, that its text's order tells for all. -/
def opdsP : POp → List Operand
  | .mv x => [x]
  | .pick c a b => [c, a, b]
  | .build _ parts => parts.map fun x => x.2.2
  | .sc op _ => op.operands.toList
  | .nilck x => [x]
  | .eqnil _ _ x => [x]
  | .mkfn _ x y => x ++ y
  | .slice _ x lo hi => x :: (lo.toList ++ hi.toList)
  | .faddr _ x => [x]
  | .fld _ _ _ x => [x]
  | .iaddr _ x i => [x, i]
  | .iaddrA _ _ x i => [x, i]
  | .idxA _ _ _ x i => [x, i]
  | .ext x _ => [x]
  | .lenS x => [x]

def opdsR : ROp → List Operand
  | .load _ _ x => [x]
  | .b2s x => [x]

def opdsE : EOp → List Operand
  | .new _ _ _ => []
  | .box _ _ x => [x]
  | .bslice _ _ _ _ parts => parts.map fun x => x.2.2
  | .store _ a x => [a, x]
  | .make _ _ _ _ l c => [l, c]
  | .app _ _ _ x y => [x, y]
  | .call _ args => args
  | .callv f args => f :: args

def opds : AOp → List Operand
  | .p o => opdsP o
  | .r o => opdsR o
  | .e o => opdsE o

def tmpOf : Operand → List Nat
  | .tmp t => [t]
  | _ => []

def looksA (o : AOper) : List Nat := (opds o.op).flatMap tmpOf ++ (match o.guard with | some (s, _) => [s] | none => [])

def direct (ops : Array Oper) (i : Nat) : List Nat :=
  ((ops[i]?).map fun o => (o.after.toList.filter fun e => Region.binds .any e).map (·.on)).getD []

def ancs (ops : Array Oper) : Nat → List (List Nat)
  | 0 => []
  | n + 1 => let A := ancs ops n; A ++ [((direct ops n).flatMap fun d => d :: A.getD d []).eraseDups]

def before (A : List (List Nat)) (i j : Nat) : Bool := (A.getD j []).contains i

def isEi (al : List AOper) (k : Nat) : Bool := match al[k]? with | some o => isE o.op | none => false

/-- The static conditions. -/
def drawOk (ops : Array Oper) (al : List AOper) (A : List (List Nat)) : Bool :=
  let n := al.length
  let idx := List.range n
  (n == ops.size) &&
  (idx.all fun j => (direct ops j).all fun d => decide (d < j)) &&
  (idx.all fun j => (A.getD j []).all fun i => (direct ops j).contains i || (direct ops j).any fun d => (A.getD d []).contains i) &&
  (idx.all fun i => idx.all fun j => i == j || before A i j || before A j i ||
    (match al[i]?, al[j]? with
      | some x, some y => (match x.dst with | some t => !(looksA y).contains t && !(y.dst == some t) | none => true)
      | _, _ => false)) &&
  (idx.all fun i => idx.all fun j => !decide (i < j) || !isEi al i || !isEi al j || before A i j)

/-- Where the reading operations may stand among the effects. -/
def chkOf (al : List AOper) (A : List (List Nat)) : List (Nat × Nat × Nat) :=
  let n := al.length
  let es := (List.range n).filter (isEi al)
  (List.range n).filterMap fun (i : Nat) => match (al[i]? : Option AOper) with
    | some ⟨_, _, .r _⟩ => let lo := (es.filter fun e => before A e i).length; let hi := (es.filter fun e => !before A i e).length
      if lo < hi then some (i, lo, hi) else none
    | _ => none

/-! What a loop's head may forget: slots without a name that its body writes ahead of reading. -/
structure RW where
  rd : List Nat
  must : List Nat
  may : List Nat

def rwOps : List AOper → RW → RW
  | [], s => s
  | o :: l, s => rwOps l ⟨((looksA o).filter fun t => !s.must.contains t) ++ s.rd, o.dst.toList ++ s.must, o.dst.toList ++ s.may⟩

def rwC : ACode → RW
  | .reg ops => rwOps ops ⟨[], [], []⟩
  | .draw ops _ => rwOps ops ⟨[], [], []⟩
  | .seq a b => let x := rwC a; let y := rwC b; ⟨x.rd ++ y.rd.filter (fun t => !x.must.contains t), x.must ++ y.must, x.may ++ y.may⟩
  | .cond c a b => let x := rwC a; let y := rwC b; ⟨tmpOf c ++ x.rd ++ y.rd, x.must.filter y.must.contains, x.may ++ y.may⟩
  | .block _ b => let x := rwC b; ⟨x.rd, [], x.may⟩
  | .loop _ b => let x := rwC b; ⟨x.rd, [], x.may⟩
  | .scope _ b _ => let x := rwC b; ⟨x.rd, [], x.may⟩
  | _ => ⟨[], [], []⟩

def forgetOf (tmp : List Nat) (b : ACode) : List Nat :=
  let x := rwC b
  tmp.filter fun t => x.may.contains t && !x.rd.contains t

def prepC (P : Program) (tmp : List Nat) : Code → Option ACode
  | .skip => some .skip
  | .region _ ops false => (prepOps P ops ops.toList).map .reg
  | .region _ ops true => match prepOps P ops ops.toList with
    | some al => let A := ancs ops ops.size; if drawOk ops al A then some (.draw al (chkOf al A)) else none
    | none => none
  | .seq a b => match prepC P tmp a, prepC P tmp b with
    | some x, some y => some (.seq x y)
    | _, _ => none
  | .cond c a b => match prepC P tmp a, prepC P tmp b with
    | some x, some y => some (.cond c x y)
    | _, _ => none
  | .block id b => (prepC P tmp b).map (.block id)
  | .loop b => (prepC P tmp b).map fun x => .loop (forgetOf tmp x) x
  | .rangeFunc _ _ _ _ => none
  | .exit id => some (.exit id)
  | .scope b => (prepC P tmp b).map fun x => .scope tmp x x
  | .label l => some (.label tmp l)
  | .goto l => some (.goto l)
  | .ret => some .ret
  | .refuse _ => none

section sound
variable {P : Program} {base : Nat} {W : World}

/-- What the calls of a table come to. -/
def CallSound (P : Program) (base : Nat) (W : World) (g : CallF) : Prop :=
  ∀ f l h r, g f l h = some r → callable P f = true ∧ ∀ ρ w vs, HR P base W ρ h w → RVs ρ w l vs → Calls P f vs.toArray w fun e w' => ∃ v ρ', e = .returned v ∧ Eff P base W ρ w r v w' ρ'

theorem putA_RVs {ρ : PM} {w : World} {tm : List AV} {a : Act} (hr : RVs ρ w tm a.tmps.toList) (d : Option Nat) {x : AV} {v : Value} (hx : RV ρ w x v) : RVs ρ w (putA tm d x) (a.put d v).tmps.toList := by
  cases d with
  | none => exact hr
  | some d => simp only [putA, Act.put, Array.toList_setIfInBounds]; exact RVs_set hr hx

theorem put_defers {a : Act} (d : Option Nat) (v : Value) : (a.put d v).defers = a.defers := by cases d <;> rfl

theorem callFunc_run {f : FuncId} (hc : callable P f = true) (args : Array Value) (w : World) : (callFunc f args).run P w = .ok (.enter f args) w := by
  unfold callable at hc
  split at hc
  · rename_i fn hf
    simp only [Bool.and_eq_true, bne_iff_ne, ne_eq] at hc
    obtain ⟨c, hb⟩ := Option.isSome_iff_exists.1 hc.2
    simp [callFunc, hf, hc.1, hb]
  · cases hc

theorem op_wp {ρ : PM} {h : Heap} {w : World} {a : Act} {tm : List AV} {g : CallF} (hg : CallSound P base W g) (o : Oper) {q : AOp} (hp : prepOp P o = some q) {r : AV × Heap} (hv : opV P g tm h q = some r)
    (hr : RVs ρ w tm a.tmps.toList) (H : HR P base W ρ h w) (K : Act → World → Prop) (Q : Exit → Act → World → Prop) (hK : ∀ v w' ρ', Eff P base W ρ w r v w' ρ' → K (a.put o.dst v) w') : o.wp P a w K Q := by
  unfold Oper.wp
  cases q with
  | p q =>
    simp only [opV, Option.map_eq_some_iff] at hv
    obtain ⟨x, hx, rfl⟩ := hv
    obtain ⟨v, h1, h2⟩ := pV_sound o hp hx hr
    rw [h1, Oper.upon_value]
    exact hK v w ρ ⟨Ext.refl _, Keep.refl _, h2, H⟩
  | r q =>
    simp only [opV, Option.map_eq_some_iff] at hv
    obtain ⟨x, hx, rfl⟩ := hv
    obtain ⟨v, h1, h2⟩ := rV_sound o hp hx hr H
    rw [h1, Oper.upon_value]
    exact hK v w ρ ⟨Ext.refl _, Keep.refl _, h2, H⟩
  | e q =>
    simp only [opV] at hv
    by_cases hc : (∀ f as, q ≠ .call f as) ∧ (∀ f as, q ≠ .callv f as)
    · obtain ⟨nx, v, w', ρ', h1, h2, h3⟩ := eV_sound o hp hc hv hr H
      rw [h1]
      rcases h2 with rfl | ⟨rfl, rfl⟩
      · exact hK v w' ρ' h3
      · exact hK undef w' ρ' h3
    · have hcall : ∃ f vs l, g f l h = some r ∧ RVs ρ w l vs ∧ (execOp a.eval o).run P w = .ok (.enter f vs.toArray) w := by
        obtain ⟨dst, op, ty, pos, after, guard⟩ := o
        unfold prepOp at hp
        cases op with
        | call c =>
          obtain ⟨callee, args, argTypes⟩ := c
          cases callee with
          | invoke _ _ => simp [prepCall] at hp
          | builtin bi => cases bi <;> simp only [prepCall, prepSc] at hp <;> (repeat' split at hp) <;> simp at hp <;> subst hp <;> exact absurd ⟨fun _ _ => by simp, fun _ _ => by simp⟩ hc
          | value fo =>
            cases fo with
            | const v => simp [prepCall] at hp
            | global n => simp [prepCall] at hp
            | func f =>
              simp only [prepCall] at hp
              split at hp
              · rename_i hcf
                simp only [Option.some.injEq, AOp.e.injEq] at hp; subst hp
                simp only [eV] at hv
                split at hv
                · rename_i l hl
                  refine ⟨f, _, l, hv, evOs_RVs hr hl, ?_⟩
                  have he : a.eval (.func f) = .func (.func f) #[] #[] := rfl
                  have ha : (args.toList.map a.eval).toArray = args.map a.eval := by apply Array.ext'; simp
                  rw [ha]
                  simp only [execOp, resolve, he, Deferred.ofValue, Sem.run_bind, Sem.run_pure, Result.andThen_ok, invoke, Array.empty_append, Array.append_empty]
                  exact callFunc_run hcf _ w
                · cases hv
              · cases hp
            | tmp t =>
              simp only [prepCall, Option.some.injEq, AOp.e.injEq] at hp; subst hp
              simp only [eV] at hv
              split at hv
              · rename_i k x y l hf hl
                obtain ⟨xs, ys, h1, h2, h3⟩ := evO_RV hr hf
                refine ⟨k, xs.toList ++ args.toList.map a.eval ++ ys.toList, _, hv, RVs_append h3 (RVs_append (evOs_RVs hr hl) h2), ?_⟩
                have hcf := (hg _ _ _ _ hv).1
                have ha : (xs.toList ++ args.toList.map a.eval ++ ys.toList).toArray = xs ++ args.map a.eval ++ ys := by apply Array.ext'; simp
                rw [ha]
                simp only [execOp, resolve, h1, Deferred.ofValue, Sem.run_bind, Sem.run_pure, Result.andThen_ok, invoke]
                exact callFunc_run hcf _ w
              · rename_i k x y l hf hl
                have h1 : a.eval (.tmp t) = .func (.func k) x y := evO_RV hr hf
                refine ⟨k, x.toList ++ args.toList.map a.eval ++ y.toList, _, hv, RVs_append (RVs_s _) (RVs_append (evOs_RVs hr hl) (RVs_s _)), ?_⟩
                have hcf := (hg _ _ _ _ hv).1
                have ha : (x.toList ++ args.toList.map a.eval ++ y.toList).toArray = x ++ args.map a.eval ++ y := by apply Array.ext'; simp
                rw [ha]
                simp only [execOp, resolve, h1, Deferred.ofValue, Sem.run_bind, Sem.run_pure, Result.andThen_ok, invoke]
                exact callFunc_run hcf _ w
              · cases hv
        | alloc e => simp only at hp; (repeat' split at hp) <;> simp at hp <;> subst hp <;> exact absurd ⟨fun _ _ => by simp, fun _ _ => by simp⟩ hc
        | box e y => simp only at hp; (repeat' split at hp) <;> simp at hp <;> subst hp <;> exact absurd ⟨fun _ _ => by simp, fun _ _ => by simp⟩ hc
        | buildSlice t len parts =>
          simp only at hp
          (repeat' split at hp) <;> simp at hp <;> (obtain ⟨l, _, rfl⟩ := hp; exact absurd ⟨fun _ _ => by simp, fun _ _ => by simp⟩ hc)
        | store t y z => simp only at hp; (repeat' split at hp) <;> simp at hp <;> subst hp <;> exact absurd ⟨fun _ _ => by simp, fun _ _ => by simp⟩ hc
        | makeSlice t l c => simp only at hp; (repeat' split at hp) <;> simp at hp <;> subst hp <;> exact absurd ⟨fun _ _ => by simp, fun _ _ => by simp⟩ hc
        | load t y => simp only at hp; (repeat' split at hp) <;> simp at hp
        | convert src dst' y => simp only [prepSc] at hp; (repeat' split at hp) <;> simp at hp
        | build t parts => simp only at hp; (repeat' split at hp) <;> simp at hp
        | binOp op t y z yt => simp only [prepEq, prepSc] at hp; (repeat' split at hp) <;> simp at hp
        | unOp op t y => simp [prepSc] at hp
        | slice t y lo hi mx => simp only [prepSc] at hp; (repeat' split at hp) <;> simp at hp
        | fieldAddr s y f => simp only at hp; (repeat' split at hp) <;> simp at hp
        | field s y f => simp only at hp; (repeat' split at hp) <;> simp at hp
        | indexAddr s y f => simp only at hp; (repeat' split at hp) <;> simp at hp
        | index s y f => simp only [prepSc] at hp; (repeat' split at hp) <;> simp at hp
        | _ => simp at hp
      obtain ⟨f, vs, l, h1, h2, h3⟩ := hcall
      rw [h3, Oper.upon_enter]
      refine ((hg f l h r h1).2 ρ w vs H h2).mono ?_
      rintro e w' ⟨v, ρ', rfl, he⟩
      exact hK v w' ρ' he

end sound
end Go.Proofs.Ytpmoellbfgcefaa.AS
end
