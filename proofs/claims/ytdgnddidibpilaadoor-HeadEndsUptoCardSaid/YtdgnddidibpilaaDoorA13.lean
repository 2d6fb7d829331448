/- Of our own: an abstract machine beside the model, its soundness, and walks of the program in it. -/
import Derived.Test.YtdgnddidibpilaaDoorA8
import Derived.Test.YtdgnddidibpilaaDoorA11
import Derived.Test.YtdgnddidibpilaaDoorProg
import Derived.WalkKit
import Derived.Lib.Builder
import Derived.Lib.Walk
import Derived.Laws.Externs
import Derived.Lib.Bytealg
import Derived.Laws.BitsLemmas
import Derived.Test.YtdgnddidibpilaaDoorA12
set_option linter.unusedSimpArgs false
set_option linter.unusedVariables false
section
set_option autoImplicit false
set_option linter.unusedSimpArgs false
namespace Go.Proofs.YtdgnddidibpilaaDoor.AS
open Go Go.RowKit
section
variable {P : Program} {tm : List AV}
def minV (P : Program) (t t2 ty : TypeId) (a b : Option AV) : Option AV :=
  match a.bind toV, b.bind toV with
  | some u, some v => (semv P (Builtin.min_ #[t, t2] ty #[u, v])).map .s
  | _, _ => none
@[simp] theorem sc_min (x y : Operand) (t t2 ty : TypeId) : scV P tm (.call ⟨.builtin .min, #[x, y], #[t, t2]⟩) ty = minV P t t2 ty (evO tm x) (evO tm y) := by
  unfold scV minV
  simp only [Op.operands, Call.operands, Array.empty_append, List.append_nil, List.nil_append, List.all_cons, List.all_nil, Bool.and_true, notSel]
  cases hx : (evO tm x).bind toV with
  | none => simp
  | some u =>
    cases hy : (evO tm y).bind toV with
    | none => simp
    | some v =>
      simp only [Option.isSome_some, Bool.and_self, if_true, execOp, opOf, resolve, envV, List.map_toArray, List.map_cons, List.map_nil, hx, hy, Option.getD_some, pure_bind, invoke, builtin]
      rw [semv_value]
      generalize semv P (Builtin.min_ #[t, t2] ty #[u, v]) = o
      cases o <;> rfl
@[simp] theorem minV_i {t t2 ty : TypeId} (k : IntKind) (a b : Int) : minV P t t2 ty (some (.s (.int k a))) (some (.s (.int k b))) = some (.s (.int k (if b < a then b else a))) := by
  simp [minV, toV, Builtin.min_, Builtin.min2, semv_pure]
end
end Go.Proofs.YtdgnddidibpilaaDoor.AS
end
section
set_option autoImplicit false
namespace Go.Proofs.YtdgnddidibpilaaDoor.AS
open Go Go.RowKit
/-- A value moved, told by its name. -/
theorem WO.mvE {P : Program} {T : Nat → CallF} {n : Nat} {F : Fr} {h : Heap} {K : Fr → Heap → Prop} {l : List AOper} {d : Option Nat} {x : Operand} (v : AV) (hx : evF F x = v) (k : WO P T n l (putF d v F) h K) : WO P T n (⟨d, none, .p (.mv x)⟩ :: l) F h K := WO.mv (hx ▸ k)
end Go.Proofs.YtdgnddidibpilaaDoor.AS
end
section
set_option autoImplicit false
set_option linter.unusedVariables false
set_option maxRecDepth 100000
set_option maxHeartbeats 4000000
namespace Go.Proofs.YtdgnddidibpilaaDoor.AS
open Go Go.Proofs Go.RowKit
theorem copy_used (B O : Nat) (w : World) (h0 : w.cell? ⟨B, O, none⟩ = some (.pointer (some ⟨B, O, none⟩))) :
    Calls Tryd.prog 59 #[.pointer (some ⟨B, O, none⟩)] w fun e w' => e = .returned (.tuple #[]) ∧ w' = w := by
  obtain ⟨j, hj⟩ : ∃ j, Tryd.prog.info? 49 = some j := Option.isSome_iff_exists.1 (by kernel_rfl)
  go_enter Tryd.func59, Tryd.ntmps59
  go_wp2
  rw [Lib.run_neq_ptr_same w _ Tryd.underlying47 hj]
  go_wp2
  go_end0
  exact ⟨rfl, rfl⟩
theorem copy_fresh (B O T n : Nat) (w : World) (h0 : w.cell? ⟨B, O, none⟩ = some (.pointer none)) (hsh : w.shape? B = some (T, n)) (hO : O < n) (hl : liesAt Tryd.prog Tryd.prog.depth T (n / Tryd.prog.cellsOf T) O 49 1 = true) (hfz : w.frozen? ⟨B, O, none⟩ = false) :
    Calls Tryd.prog 59 #[.pointer (some ⟨B, O, none⟩)] w fun e w' => e = .returned (.tuple #[]) ∧ w' = w.setCell ⟨B, O, none⟩ (.pointer (some ⟨B, O, none⟩)) := by
  obtain ⟨j, hj, hjs⟩ : ∃ j, Tryd.prog.info? 49 = some j ∧ j.size = 2 := Option.map_eq_some_iff.1 (show (Tryd.prog.info? 49).map (·.size) = some 2 by kernel_rfl)
  go_enter Tryd.func59, Tryd.ntmps59
  go_wp2
  rw [Lib.run_to_unsafe w ⟨B, O, none⟩ Tryd.underlying47 Tryd.underlying88 hj (by rw [hjs]; decide) hsh hO]
  simp only [Result.andThen]
  rw [Oper.upon_value]
  go_wp2
  rw [run_callFunc_extern Tryd.func72 (by kernel_rfl) (by kernel_rfl) (by kernel_rfl) (e := Extern.AbiNoEscape.same) (by kernel_rfl)]
  rw [Lib.run_noEscape]
  simp only [Result.andThen]
  rw [Oper.upon_value]
  go_wp2
  rw [Lib.run_from_unsafe w ⟨B, O, none⟩ Tryd.underlying88 Tryd.underlying47 hj hsh hl]
  simp only [Result.andThen]
  rw [Oper.upon_value]
  go_wp2
  go_end0
  exact ⟨rfl, rfl⟩
end Go.Proofs.YtdgnddidibpilaaDoor.AS
end
section
set_option autoImplicit false
set_option linter.unusedVariables false
set_option maxRecDepth 100000
namespace Go.Proofs.YtdgnddidibpilaaDoor.AS
open Go Go.Proofs Go.RowKit
theorem rowAt_mono {p : Program} {fits : TypeId → Bool} {d : Nat} {e : TypeId} {c c' off n : Nat} (h : rowAt p fits d e c off n = true) (hc : c ≤ c') : rowAt p fits d e c' off n = true := by
  cases d with
  | zero => simp [rowAt] at h
  | succ d =>
    simp only [rowAt] at h ⊢
    split at h
    · cases h
    · rename_i hs
      rw [if_neg hs]
      simp only [Bool.or_eq_true, Bool.and_eq_true, decide_eq_true_eq] at h ⊢
      rcases h with ⟨⟨h1, h2⟩, h3⟩ | ⟨h1, h2⟩
      · exact .inl ⟨⟨h1, by omega⟩, h3⟩
      · exact .inr ⟨by omega, h2⟩
theorem liesAt_mono {p : Program} {e u : TypeId} {c c' off : Nat} (hc : c ≤ c') : ∀ {d n : Nat} {u : TypeId}, liesAt p d e c off u n = true → liesAt p d e c' off u n = true
  | 0, n, u, h => by simp [liesAt] at h
  | d + 1, n, u, h => by
    simp only [liesAt, Bool.or_eq_true] at h ⊢
    rcases h with h | h
    · exact .inl (rowAt_mono h hc)
    · right
      split at h
      · exact liesAt_mono (u := u) hc h
      · cases h
noncomputable def lies49 (e n o : Nat) : Bool := liesAt Tryd.prog Tryd.prog.depth e (n / Tryd.prog.cellsOf e) o 49 1
/-- What a Builder's check of its own place does. -/
noncomputable def hkCopy : List AV → Heap → Option (AV × Heap)
  | [.pt b 0 o], h => match h[b]? with
    | some k => match k.cells[o]? with
      | some (.s (.pointer none)) => if k.ver = 0 ∧ k.rw = true ∧ lies49 k.e k.cells.length o = true then (wrn h b 0 o [.pt b 0 o]).map fun h' => (.tp [], h') else none
      | some (.pt b' 0 o') => if k.ver = 0 ∧ b' = b ∧ o' = o then some (.tp [], h) else none
      | _ => none
    | none => none
  | _, _ => none
theorem hkCopy_ok : HookSound Tryd.prog 59 hkCopy := by
  refine ⟨by kernel_rfl, fun base W l h r he ρ w vs H hr => ?_⟩
  unfold hkCopy at he
  split at he
  · rename_i b o
    match vs, hr with
    | [], hr => exact hr.elim
    | _ :: _ :: _, hr => exact hr.2.elim
    | [v0], hr =>
    obtain ⟨⟨p, hp, rfl⟩, _⟩ := hr
    split at he
    · rename_i k hk
      obtain ⟨p1, h1, h2, h3, h4, h5, h6, h7, h8⟩ := H.blk b k hk
      split at he
      · rename_i hc
        split at he
        · rename_i hcnd
          obtain ⟨hv, hrw, hl⟩ := hcnd
          rw [hv] at h1
          rw [hp] at h1; cases h1
          obtain ⟨a1, a2, ⟨n, a3⟩, a4, a5⟩ := h8 hrw
          obtain ⟨x, hx, hxr⟩ := h7 o _ hc
          have hx' : x = .pointer none := hxr
          subst hx'
          simp only [Option.map_eq_some_iff] at he
          obtain ⟨h', hw, rfl⟩ := he
          obtain ⟨w', hst, hw', H', hkp⟩ := wrn_sound (P := Tryd.prog) H hw hp (vs := [.pointer (some ⟨p.blk, p.off + o, none⟩)]) ⟨⟨p, hp, rfl⟩, trivial⟩ rfl
          have hoff := a5 hv
          have hon : p.off + o < n := by
            have := lt_shN (w := w) (b := p.blk) (o := p.off + o) (by rw [hx]; rfl)
            rwa [shN, a3] at this
          have hln : k.cells.length ≤ n := by
            rcases Nat.eq_zero_or_pos k.cells.length with h0 | h0
            · omega
            · obtain ⟨y, hy, _⟩ := h7 (k.cells.length - 1) _ (List.getElem?_eq_getElem (by omega))
              have := lt_shN (w := w) (b := p.blk) (o := p.off + (k.cells.length - 1)) (by rw [hy]; rfl)
              rw [shN, a3] at this
              simp only at this
              omega
          have hlies : liesAt Tryd.prog Tryd.prog.depth k.e (n / Tryd.prog.cellsOf k.e) (p.off + o) 49 1 = true := by
            rw [hoff, Nat.zero_add]
            exact liesAt_mono (u := 49) (Nat.div_le_div_right hln) hl
          refine (copy_fresh p.blk (p.off + o) k.e n w hx a3 hon hlies (a2 _ (by rw [shN, a3]; exact hon))).mono ?_
          rintro e w2 ⟨rfl, rfl⟩
          have e2 : w.setCell ⟨p.blk, p.off + o, none⟩ (.pointer (some ⟨p.blk, p.off + o, none⟩)) = w' := by rw [hw']; rfl
          rw [e2]
          exact ⟨_, ρ, rfl, Ext.refl _, hkp, ⟨#[], rfl, trivial⟩, H'⟩
        · cases he
      · rename_i b' o' hc
        split at he
        · rename_i hcnd
          obtain ⟨hv, rfl, rfl⟩ := hcnd
          cases he
          rw [hv] at h1
          rw [hp] at h1; cases h1
          obtain ⟨x, hx, p2, hp2, rfl⟩ := h7 _ _ hc
          rw [hp] at hp2; cases hp2
          refine (copy_used p.blk _ w hx).mono ?_
          rintro e w2 ⟨rfl, rfl⟩
          exact ⟨_, ρ, rfl, Ext.refl _, Keep.refl _, ⟨#[], rfl, trivial⟩, H⟩
        · cases he
      · cases he
    · cases he
  · cases he
end Go.Proofs.YtdgnddidibpilaaDoor.AS
end
section
set_option autoImplicit false
set_option linter.unusedVariables false
set_option maxRecDepth 100000
set_option maxHeartbeats 4000000
namespace Go.Proofs.YtdgnddidibpilaaDoor.AS
open Go Go.Proofs Go.RowKit
/-- Where a byte is in a text. -/
def idxS (s : ByteArray) (c : Int) : Int := Lib.indexByte s.data.toList c.toNat.toUInt8
theorem idx_calls (s : ByteArray) (c : Int) (w : World) :
    Calls Tryd.prog 58 #[.string s, .int .u8 c] w fun e w' => e = .returned (.int .i64 (idxS s c)) ∧ w' = w := by
  go_enter Tryd.func58, Tryd.ntmps58
  go_wp2
  rw [run_callFunc_extern Tryd.func71 (by kernel_rfl) (by kernel_rfl) (by kernel_rfl) (e := Extern.BytealgIndexByte.indexByte) (by kernel_rfl)]
  rw [Lib.run_indexByteString]
  simp only [Result.andThen]
  rw [Oper.upon_value]
  go_wp2
  go_ret
  exact ⟨rfl, rfl⟩
def hkIdx : List AV → Heap → Option (AV × Heap)
  | [.s (.string s), .s (.int .u8 c)], h => some (.s (.int .i64 (idxS s c)), h)
  | _, _ => none
theorem hkIdx_ok : HookSound Tryd.prog 58 hkIdx := by
  refine ⟨by kernel_rfl, fun base W l h r he ρ w vs H hr => ?_⟩
  unfold hkIdx at he
  split at he
  · rename_i s c
    cases he
    match vs, hr with
    | [], hr => exact hr.elim
    | [_], hr => exact hr.2.elim
    | _ :: _ :: _ :: _, hr => exact hr.2.2.elim
    | [v0, v1], hr =>
    obtain ⟨e0, e1, _⟩ := hr
    have e0 : v0 = .string s := e0
    have e1 : v1 = .int .u8 c := e1
    subst e0 e1
    refine (idx_calls s c w).mono ?_
    rintro e w2 ⟨rfl, rfl⟩
    exact ⟨_, ρ, rfl, Ext.refl _, Keep.refl _, rfl, H⟩
  · cases he
end Go.Proofs.YtdgnddidibpilaaDoor.AS
end
section
set_option autoImplicit false
set_option linter.unusedSimpArgs false
namespace Go.Proofs.YtdgnddidibpilaaDoor.AS
open Go Go.RowKit Go.Proofs.YtdgnddidibpilaaDoor.AS.V
section
variable {P : Program} {T : Nat → CallF} {n : Nat} {F : Fr} {h : Heap} {K : Fr → Heap → Prop} {l : List AOper} {d : Option Nat} {x y : Operand}
/-- A place in a table. -/
theorem WO.tabA {len sz g o : Nat} {j : IntKind} {i : Int} (hx : evF F x = .s (.pointer (some ⟨g, o, none⟩))) (hy : evF F y = .s (.int j i)) (h0 : 0 ≤ i) (h1 : i < len) (k : WO P T n l (putF d (.s (.pointer (some ⟨g, o + i.toNat * sz, none⟩))) F) h K) : WO P T n (⟨d, none, .p (.iaddrA len sz x y)⟩ :: l) F h K :=
  WO.pv (fun ho => by
    simp only [opds, opdsP, List.all_cons, List.all_nil, Bool.and_true, Bool.and_eq_true] at ho
    simp only [pV, evO_fr ho.1, evO_fr ho.2, hx, hy, Option.bind_some, asI]
    rw [if_pos ⟨h0, h1⟩]) k
/-- What lies there. -/
theorem WO.tabL {agg : Bool} {m g o : Nat} {v : AV} (hx : evF F x = .s (.pointer (some ⟨g, o, none⟩))) (hv : tabV P agg m g o = some v) (k : WO P T n l (putF d v F) h K) : WO P T n (⟨d, none, .r (.load agg m x)⟩ :: l) F h K := by
  refine WO.op (fun ho => ⟨0, fun j _ => ?_⟩) k
  simp only [opds, opdsR, List.all_cons, List.all_nil, Bool.and_true] at ho
  rw [opV_r, rV_load, evO_fr ho, hx, ldV_g, hv]; rfl
theorem tab_one {k : IntKind} {g : Nat} {C : List Int} (hC : globC P g = some (C.map (.int k))) {i : Int} (h0 : 0 ≤ i) (h1 : i < C.length) : tabV P false 1 g (0 + i.toNat * 1) = some (.s (.int k (nth C i))) := by
  unfold tabV
  rw [hC]
  simp only [List.length_map]
  rw [if_pos (by omega)]
  have hlt : i.toNat < C.length := by omega
  simp only [Nat.zero_add, Nat.mul_one, oneOr]
  rw [← List.map_drop, List.drop_eq_getElem_cons hlt, nth_eq hlt]
  rfl
theorem tab_two {k : IntKind} {g : Nat} {C : List Int} (hC : globC P g = some (C.map (.int k))) {i : Int} (h0 : 0 ≤ i) (h1 : 2 * i + 1 < C.length) : tabV P true 2 g (0 + i.toNat * 2) = some (.ag [.s (.int k (nth C (2 * i))), .s (.int k (nth C (2 * i + 1)))]) := by
  unfold tabV
  rw [hC]
  simp only [List.length_map]
  rw [if_pos (by omega)]
  have hlt : i.toNat * 2 < C.length := by omega
  have hlt1 : i.toNat * 2 + 1 < C.length := by omega
  have e0 : nth C (2 * i) = C[i.toNat * 2] := by
    rw [nth_eq (by omega)]
    congr 1; omega
  have e1 : nth C (2 * i + 1) = C[i.toNat * 2 + 1] := by
    rw [nth_eq (by omega)]
    congr 1; omega
  rw [e0, e1]
  simp only [Nat.zero_add, oneOr]
  rw [← List.map_drop, List.drop_eq_getElem_cons hlt, List.drop_eq_getElem_cons hlt1]
  rfl
/-- A text as bytes of one's own. -/
theorem WO.s2b {e : TypeId} {s : ByteArray} (hx : evF F x = .s (.string s)) (hs : s.size ≤ 140737488355328) (k : ∀ a H, Grows h H → Own (encI .u8) e H a (bytesOf s) → New h.length a → WO P T n l (putF d a F) H K) : WO P T n (⟨d, none, .e (.s2b e x)⟩ :: l) F h K := by
  have hlen : (bytesOf s).length = s.size := bytesOf_length s
  have hcells : (s.data.toList.map fun b => AV.s (.int .u8 b.toNat)) = (bytesOf s).flatMap (encI .u8).cells := by
    unfold bytesOf
    generalize s.data.toList = L
    induction L with
    | nil => rfl
    | cons b L ih => rw [List.map_cons, ih]; rfl
  refine WO.op (fun ho => ⟨0, fun j _ => ?_⟩) (k (.sl h.length 0 0 (bytesOf s).length 1) (h ++ [⟨0, e, 1, true, s.data.toList.map fun b => .s (.int .u8 b.toNat)⟩]) (Grows.app _ _) (.inr ⟨_, 0, 0, _, rfl, bk_new, rfl, ?_, ?_, rfl, rfl, rfl⟩) (fun c hc => by simp [bo] at hc; omega))
  · simp only [opds, opdsE, List.all_cons, List.all_nil, Bool.and_true] at ho
    rw [opV_e]
    simp only [eV, evO_fr ho, hx]
    rw [if_pos hs, hlen]
  · rw [hcells, Enc.flat_len]; simp [encI]
  · rw [hcells, List.drop_zero, List.take_of_length_le (by rw [Enc.flat_len]; exact Nat.le_refl _)]
theorem WO.sdN {z : Nat} (hx : evF F x = .s (.slice none 0 0)) (k : WO P T n l (putF d (.s (.pointer none)) F) h K) : WO P T n (⟨d, none, .p (.sdata x)⟩ :: l) F h K :=
  WO.pv (fun ho => by
    simp only [opds, opdsP, List.all_cons, List.all_nil, Bool.and_true] at ho
    simp only [pV, evO_fr ho, hx]) k
theorem WO.sdS {b v o m z : Nat} (hx : evF F x = .sl b v o m z) (h0 : 0 < m) (k : WO P T n l (putF d (.pt b v o) F) h K) : WO P T n (⟨d, none, .p (.sdata x)⟩ :: l) F h K :=
  WO.pv (fun ho => by
    simp only [opds, opdsP, List.all_cons, List.all_nil, Bool.and_true] at ho
    simp only [pV, evO_fr ho, hx]
    rw [if_pos h0]) k
theorem WO.ustrN {e : TypeId} (hx : evF F x = .s (.pointer none)) (hy : evF F y = .s (.int .i64 0)) (k : WO P T n l (putF d (.s (.string .empty)) F) h K) : WO P T n (⟨d, none, .e (.ustr e x y)⟩ :: l) F h K := by
  refine WO.op (fun ho => ⟨0, fun j _ => ?_⟩) k
  simp only [opds, opdsE, List.all_cons, List.all_nil, Bool.and_true, Bool.and_eq_true] at ho
  rw [opV_e]
  simp only [eV, evO_fr ho.1, evO_fr ho.2, hx, hy]
theorem bytesA_I : ∀ L : List Int, bytesA (L.flatMap (encI .u8).cells) = some L
  | [] => rfl
  | x :: L => by
    have := bytesA_I L
    rw [List.flatMap_cons]
    show (bytesA (L.flatMap (encI .u8).cells)).map (x :: ·) = _
    rw [this]; rfl
/-- A row's bytes as a text: the block is nobody's from then on. -/
theorem WO.ustrS {e : TypeId} {b v o : Nat} {L : List Int} (hx : evF F x = .pt b v o) (hy : evF F y = .s (.int .i64 L.length)) (r : Own (encI .u8) e h (.sl b v o L.length 1) L) (h0 : L ≠ []) (h63 : L.length ≤ 9223372036854775807)
    (k : ∀ H, Upd h H b → WO P T n l (putF d (.s (.string (strOfNums L))) F) H K) : WO P T n (⟨d, none, .e (.ustr e x y)⟩ :: l) F h K := by
  rcases r with ⟨r, _⟩ | ⟨b', v', o', q, r1, r2, r3, r4, r5, r6, r7, r8⟩
  · cases r
  · cases r1
    have hq : h[b]? = some q := by rw [← r2]; rfl
    have hlt : b < h.length := (List.getElem?_eq_some_iff.1 hq).1
    have hp : 0 < L.length := List.length_pos_iff.2 h0
    refine WO.op (fun ho => ⟨0, fun j _ => ?_⟩) (k (h.set b { q with ver := q.ver + 1, rw := false, cells := [] }) ⟨fun c hc => ?_, by simp⟩)
    · simp only [opds, opdsE, List.all_cons, List.all_nil, Bool.and_true, Bool.and_eq_true] at ho
      rw [opV_e]
      simp only [encI, Nat.mul_one] at r4 r5
      have hr : rdn h b v o L.length = some (L.flatMap (encI .u8).cells) := by
        unfold rdn
        rw [hq]
        simp only
        rw [if_pos ⟨r3, r4⟩]
        exact congrArg some r5
      have hb2 : ((rdn h b v o L.length).bind bytesA) = some L := by rw [hr]; exact bytesA_I L
      simp only [eV, evO_fr ho.1, evO_fr ho.2, hx, hy, Int.toNat_natCast, hq, hb2]
      rw [if_pos ⟨by omega, by omega, r6, r7⟩]
    · show bk _ c = bk h c
      unfold bk
      rw [List.getElem?_set_ne (fun e => hc e.symm)]
end
end Go.Proofs.YtdgnddidibpilaaDoor.AS
end
section
set_option autoImplicit false
set_option linter.unusedSimpArgs false
namespace Go.Proofs.YtdgnddidibpilaaDoor.AS
open Go Go.RowKit Go.Proofs.YtdgnddidibpilaaDoor.AS.V
/-- An object of one's own, its type known. -/
structure ObjT (h : Heap) (b e : Nat) (C : List AV) : Prop where
  mk ::
  x : ∃ k, bk h b = some k ∧ k.ver = 0 ∧ k.rw = true ∧ k.e = e ∧ k.cells = C
section
variable {P : Program} {T : Nat → CallF} {n : Nat} {F : Fr} {h H h0 : Heap} {K : Fr → Heap → Prop} {l : List AOper} {d : Option Nat} {x y : Operand} {b e : Nat} {C : List AV} {a a' : AV}
theorem ObjT.o (r : ObjT h b e C) : Obj h b C := by obtain ⟨k, h1, h2, h3, _, h4⟩ := r.x; exact ⟨k, h1, h2, h3, h4⟩
theorem ObjT.lt (r : ObjT h b e C) : b < h.length := r.o.lt
theorem ObjT.grows (r : ObjT h b e C) (g : Grows h H) : ObjT H b e C := by obtain ⟨k, h1, r⟩ := r.x; exact ⟨⟨k, (g.bk (bk_lt h1)).trans h1, r⟩⟩
theorem ObjT.upd {c : Nat} (r : ObjT h b e C) (u : Upd h H c) (hn : b ≠ c) : ObjT H b e C := by obtain ⟨k, h1, r⟩ := r.x; exact ⟨⟨k, (u.keep b hn).trans h1, r⟩⟩
theorem ObjT.ap (r : ObjT h b e C) (u : ApF h H a a') (hn : bo a ≠ some b) : ObjT H b e C := by obtain ⟨k, h1, r⟩ := r.x; exact ⟨⟨k, (u.keep b (bk_lt h1) hn).trans h1, r⟩⟩
theorem WO.newT {sz : Nat} {cs : List Value} (k : ∀ b H, h.length ≤ b → Grows h H → ObjT H b e (cs.map .s) → WO P T n l (putF d (.pt b 0 0) F) H K) : WO P T n (⟨d, none, .e (.new e sz cs)⟩ :: l) F h K := by
  refine WO.op (fun ho => ⟨0, fun j _ => ?_⟩) (k h.length (h ++ [⟨0, e, sz, true, cs.map .s⟩]) (Nat.le_refl _) (Grows.app _ _) ⟨⟨_, bk_new, rfl, rfl, rfl, rfl⟩⟩)
  rw [opV_e, eV_new]
theorem WO.boxT {sz : Nat} {C : List AV} (hl : cellsOf (evF F x) = some C) (k : ∀ b H, h.length ≤ b → Grows h H → ObjT H b e C → WO P T n l (putF d (.pt b 0 0) F) H K) : WO P T n (⟨d, none, .e (.box e sz x)⟩ :: l) F h K := by
  refine WO.op (fun ho => ⟨0, fun j _ => ?_⟩) (k h.length (h ++ [⟨0, e, sz, true, C⟩]) (Nat.le_refl _) (Grows.app _ _) ⟨⟨_, bk_new, rfl, rfl, rfl, rfl⟩⟩)
  simp only [opds, opdsE, List.all_cons, List.all_nil, Bool.and_true] at ho
  rw [opV_e, eV_box, evO_fr ho, boV_s, hl, boW_s]
theorem WO.storeT {C C' lv : List AV} {m b o e : Nat} (hx : evF F x = .pt b 0 o) (r : ObjT h b e C) (hl : cellsOf (evF F y) = some lv) (hn : Nat.beq lv.length m = true) (hc : lv.all isCell = true) (hm : Nat.ble (o + m) C.length = true) (hC : C.take o ++ lv ++ C.drop (o + m) = C')
    (k : ∀ H, ObjT H b e C' → Upd h H b → WO P T n l (putF d (.s undef) F) H K) : WO P T n (⟨d, none, .e (.store m x y)⟩ :: l) F h K := by
  obtain ⟨k', h2, h3, h4, h5, rfl⟩ := r.x
  have hn := Nat.eq_of_beq_eq_true hn
  have hm := Nat.le_of_ble_eq_true hm
  have hlt := bk_lt h2
  obtain ⟨v', e', s', rw', c'⟩ := k'
  simp only at h3 h4 h5 hm hC
  subst h3 h4 h5 hn hC
  refine WO.op (fun ho => ⟨0, fun j _ => ?_⟩) (k (h.set b ⟨0, e', s', true, c'.take o ++ lv ++ c'.drop (o + lv.length)⟩) ⟨⟨⟨0, e', s', true, c'.take o ++ lv ++ c'.drop (o + lv.length)⟩, bk_set_same hlt, rfl, rfl, rfl, rfl⟩⟩ ⟨fun c hc => bk_set_ne (fun e => hc e.symm), by simp⟩)
  simp only [opds, opdsE, List.all_cons, List.all_nil, Bool.and_true, Bool.and_eq_true] at ho
  rw [opV_e, eV_store, evO_fr ho.1, evO_fr ho.2, hx, stV_p, hl, stW_s, if_pos ⟨rfl, hc⟩, h2, wrK_s, if_pos ⟨rfl, rfl, Nat.le_of_ble_eq_true hm⟩]
  rfl
end
end Go.Proofs.YtdgnddidibpilaaDoor.AS
end
section
set_option autoImplicit false
set_option linter.unusedSimpArgs false
namespace Go.Proofs.YtdgnddidibpilaaDoor.AS
open Go Go.RowKit Go.Proofs.YtdgnddidibpilaaDoor.AS.V
section
variable {P : Program} {T : Nat → CallF} {n : Nat} {F : Fr} {h H h0 : Heap} {K : Fr → Heap → Prop} {l : List AOper} {d : Option Nat} {x y : Operand}
/-- A text as an object of bytes. -/
theorem WO.s2bO {e : TypeId} {s : ByteArray} (hx : evF F x = .s (.string s)) (hs : s.size ≤ 140737488355328) (k : ∀ b H, h.length ≤ b → Grows h H → Obj H b ((bytesOf s).map fun m => .s (.int .u8 m)) → WO P T n l (putF d (.sl b 0 0 (bytesOf s).length 1) F) H K) : WO P T n (⟨d, none, .e (.s2b e x)⟩ :: l) F h K := by
  have hlen : (bytesOf s).length = s.size := bytesOf_length s
  have hcells : (s.data.toList.map fun b => AV.s (.int .u8 b.toNat)) = (bytesOf s).map fun m => .s (.int .u8 m) := by
    unfold bytesOf
    rw [List.map_map]; rfl
  refine WO.op (fun ho => ⟨0, fun j _ => ?_⟩) (k h.length (h ++ [⟨0, e, 1, true, s.data.toList.map fun b => .s (.int .u8 b.toNat)⟩]) (Nat.le_refl _) (Grows.app _ _) ⟨_, bk_new, rfl, rfl, hcells⟩)
  simp only [opds, opdsE, List.all_cons, List.all_nil, Bool.and_true] at ho
  rw [opV_e]
  simp only [eV, evO_fr ho, hx]
  rw [if_pos hs, hlen]
/-- A place in a slice whose block is known. -/
theorem WO.iaddrO {sz b v o m z : Nat} {j : IntKind} {i : Int} (hx : evF F x = .sl b v o m z) (hy : evF F y = .s (.int j i)) (h0 : 0 ≤ i) (h1 : i < m) (k : WO P T n l (putF d (.pt b v (o + i.toNat * sz)) F) h K) : WO P T n (⟨d, none, .p (.iaddr sz x y)⟩ :: l) F h K :=
  WO.pv (fun ho => by
    simp only [opds, opdsP, List.all_cons, List.all_nil, Bool.and_true, Bool.and_eq_true] at ho
    rw [pV_iaddr, evO_fr ho.1, evO_fr ho.2, hx, hy, iaV_s, if_pos ⟨h0, h1⟩]) k
theorem WO.lenO {b v o m z : Nat} (hx : evF F x = .sl b v o m z) (k : WO P T n l (putF d (.s (.int .i64 m)) F) h K) : WO P T n (⟨d, none, .p (.lenS x)⟩ :: l) F h K :=
  WO.pv (fun ho => by
    simp only [opds, opdsP, List.all_cons, List.all_nil, Bool.and_true] at ho
    simp only [pV, evO_fr ho, hx]) k
theorem bytesA_M : ∀ L : List Int, bytesA (L.map fun m => .s (.int .u8 m)) = some L
  | [] => rfl
  | x :: L => by
    have := bytesA_M L
    rw [List.map_cons]
    show (bytesA (L.map fun m => .s (.int .u8 m))).map (x :: ·) = _
    rw [this]; rfl
/-- An object of bytes as a text. -/
theorem WO.b2sO {b : Nat} {L : List Int} (hx : evF F x = .sl b 0 0 L.length 1) (r : Obj h b (L.map fun m => .s (.int .u8 m))) (k : WO P T n l (putF d (.s (.string (strOfNums L))) F) h K) : WO P T n (⟨d, none, .r (.b2s x)⟩ :: l) F h K := by
  obtain ⟨q, h1, h2, h3, h4⟩ := r
  have hq : h[b]? = some q := by rw [← h1]; rfl
  refine WO.op (fun ho => ⟨0, fun j _ => ?_⟩) k
  simp only [opds, opdsR, List.all_cons, List.all_nil, Bool.and_true] at ho
  have hr : rdn h b 0 0 L.length = some (L.map fun m => .s (.int .u8 m)) := by
    unfold rdn
    rw [hq]
    simp only
    rw [h4, if_pos ⟨h2, by simp⟩, List.drop_zero, List.take_of_length_le (by simp)]
  rw [opV_r]
  simp only [rV, evO_fr ho, hx, hr, Option.bind_some, bytesA_M]
  rfl
theorem cells_at {L : List Int} {i : Nat} (h : i < L.length) : oneOr false (((L.map fun m => AV.s (.int .u8 m)).drop i).take 1) = some (.s (.int .u8 (nth L (i : Int)))) := by
  have hl : i < (L.map fun m => AV.s (.int .u8 m)).length := by simpa using h
  rw [List.drop_eq_getElem_cons hl, nth_eq (by simpa using h)]
  simp [oneOr]
end
end Go.Proofs.YtdgnddidibpilaaDoor.AS
end
section
set_option autoImplicit false
set_option linter.unusedSimpArgs false
namespace Go.Proofs.YtdgnddidibpilaaDoor.AS
open Go Go.RowKit Go.Proofs.YtdgnddidibpilaaDoor.AS.V
theorem wrap8 (n : Int) : IntKind.u8.wrap n = n % 256 := by simp [IntKind.wrap, IntKind.bits, IntKind.signed]
theorem wrap_u8 (n : Int) (h0 : 0 ≤ n) (h1 : n < 2 ^ 8) : IntKind.u8.wrap n = n := by rw [wrap8]; omega
theorem wrap_i32 (n : Int) (h0 : 0 ≤ n) (h1 : n < 2 ^ 31) : IntKind.i32.wrap n = n := wrOK (by simp only [loK, hiK]; omega)
theorem ApF.pre {h H1 H2 : Heap} {a a' : AV} (g : Grows h H1) (u : ApF H1 H2 a a') : ApF h H2 a a' :=
  ⟨fun c hc hn => (u.keep c (by have := g.len; omega) hn).trans (g c hc), by have := g.len; have := u.len; omega, fun c hc => (u.place c hc).imp (fun h => by have := g.len; omega) id⟩
section
variable {P : Program} {T : Nat → CallF} {n : Nat} {F : Fr} {h : Heap} {K : Fr → Heap → Prop} {l : List AOper} {d : Option Nat} {x y : Operand} {a b m : Int} {t yt ty : TypeId}
theorem WO.or8 (i : Nat) (hx : evF F x = .s (.int .u8 a)) (hy : evF F y = .s (.int .u8 b)) (h0 : 0 ≤ a) (h1 : a % 2 ^ i = 0) (h2 : a < 256) (h3 : 0 ≤ b) (h4 : b < 2 ^ i) (h5 : b < 256) (k : WO P T n l (putF d (.s (.int .u8 (a + b))) F) h K) : WO P T n (⟨d, none, .p (.sc (.binOp .or t x y yt) ty)⟩ :: l) F h K :=
  WO.or hx hy (by rw [bits_join .u8 8 (by decide) wrap_u8 i a b h0 h1 h2 h3 h4 h5]; exact k)
theorem WO.or32 (i : Nat) (hx : evF F x = .s (.int .i32 a)) (hy : evF F y = .s (.int .i32 b)) (h0 : 0 ≤ a) (h1 : a % 2 ^ i = 0) (h2 : a < 2147483648) (h3 : 0 ≤ b) (h4 : b < 2 ^ i) (h5 : b < 2147483648) (k : WO P T n l (putF d (.s (.int .i32 (a + b))) F) h K) : WO P T n (⟨d, none, .p (.sc (.binOp .or t x y yt) ty)⟩ :: l) F h K :=
  WO.or hx hy (by rw [bits_join .i32 31 (by decide) wrap_i32 i a b h0 h1 h2 h3 h4 h5]; exact k)
theorem WO.and8 (i : Nat) (hx : evF F x = .s (.int .u8 a)) (hy : evF F y = .s (.int .u8 m)) (hm : m = 2 ^ i - 1) (hi : i ≤ 8) (h0 : 0 ≤ a) (h1 : a < 256) (k : WO P T n l (putF d (.s (.int .u8 (a % 2 ^ i))) F) h K) : WO P T n (⟨d, none, .p (.sc (.binOp .and t x y yt) ty)⟩ :: l) F h K :=
  WO.and hx hy (by rw [hm, bits_mask .u8 8 (by decide) wrap_u8 i hi a h0 h1]; exact k)
end
end Go.Proofs.YtdgnddidibpilaaDoor.AS
end
section
set_option autoImplicit false
set_option linter.unusedSimpArgs false
namespace Go.Proofs.YtdgnddidibpilaaDoor.AS
open Go Go.RowKit Go.Proofs.YtdgnddidibpilaaDoor.AS.V
section
variable {P : Program} {T : Nat → CallF} {n : Nat} {F : Fr} {h H h0 : Heap} {K : Fr → Heap → Prop} {l : List AOper} {d : Option Nat} {x y : Operand} {e : TypeId}
/-- A row made: an object of numbers. -/
theorem WO.makeO {bytes : Nat} {kk j i : IntKind} {m c : Int} {v : Int} (hx : evF F x = .s (.int j m)) (hy : evF F y = .s (.int i c)) (h0 : 0 ≤ m) (h1 : m = c) (h2 : c * bytes ≤ 140737488355328) (h3 : c ≤ 9223372036854775807)
    (k : ∀ b H, h.length ≤ b → Grows h H → Obj H b ((List.replicate m.toNat v).map fun q => .s (.int kk q)) → WO P T n l (putF d (.sl b 0 0 m.toNat 1) F) H K) : WO P T n (⟨d, none, .e (.make e 1 bytes [.int kk v] x y)⟩ :: l) F h K := by
  subst h1
  have hlen : ∀ q : Nat, ((List.replicate q [AV.s (.int kk v)]).flatten) = (List.replicate q v).map fun q => .s (.int kk q) := by
    intro q
    induction q with
    | zero => rfl
    | succ q ih => rw [List.replicate_succ, List.replicate_succ, List.flatten_cons, List.map_cons, ih]; rfl
  refine WO.op (fun ho => ⟨0, fun j _ => ?_⟩) (k h.length (h ++ [⟨0, e, 1, true, (List.replicate m.toNat [AV.s (.int kk v)]).flatten⟩]) (Nat.le_refl _) (Grows.app _ _) ⟨_, bk_new, rfl, rfl, hlen _⟩)
  simp only [opds, opdsE, List.all_cons, List.all_nil, Bool.and_true, Bool.and_eq_true] at ho
  simp only [opV_e, eV, evO_fr ho.1, evO_fr ho.2, hx, hy, Option.bind_some, asI]
  rw [if_pos ⟨h0, Int.le_refl _, h2, h3⟩]
  rfl
theorem flat_map_s {kk : IntKind} : ∀ L : List Int, L.flatMap (encI kk).cells = L.map fun q => .s (.int kk q)
  | [] => rfl
  | x :: L => by rw [List.flatMap_cons, flat_map_s L]; rfl
/-- An object of numbers reads as a row. -/
theorem Obj.rowI {kk : IntKind} {b : Nat} {L : List Int} (o : Obj h b (L.map fun q => .s (.int kk q))) : Row (encI kk) h (.sl b 0 0 L.length 1) L := by
  obtain ⟨k, h1, h2, h3, h4⟩ := o
  refine .inr ⟨b, 0, 0, k, rfl, h1, h2, ?_, ?_⟩
  · rw [h4, List.length_map]; show 0 + L.length * 1 ≤ _; omega
  · rw [h4, flat_map_s, List.drop_zero, List.take_of_length_le (by rw [List.length_map]; show _ ≤ L.length * 1; omega)]
end
end Go.Proofs.YtdgnddidibpilaaDoor.AS
end
section
set_option autoImplicit false
set_option linter.unusedSimpArgs false
namespace Go.Proofs.YtdgnddidibpilaaDoor.AS
open Go Go.RowKit Go.Proofs.YtdgnddidibpilaaDoor.AS.V
section
variable {P : Program} {T : Nat → CallF} {n : Nat} {F : Fr} {h : Heap} {Q : Ex → Fr → Heap → Prop} {b : ACode}
/-- A loop, one round of it. -/
theorem W.loopU {fg : List Nat} (H : W P T n b (FG fg F) h (LQ (fun F' h' => W P T n (.loop fg b) F' h' Q) Q)) : W P T n (.loop fg b) F h Q := by
  refine .of fun ho => ?_
  obtain ⟨e, F', h', r, q⟩ := H.go ho
  replace q := q.go
  cases e with
  | normal =>
    obtain ⟨e2, F2, h2, r2, q2⟩ := q.go ho
    exact ⟨e2, F2, h2, RunG.loop_next_f (fr_forget fg) r r2, q2⟩
  | exit i => exact ⟨_, F', h', RunG.loop_end_f (fr_forget fg) (by simp) r, q⟩
  | goto i => exact ⟨_, F', h', RunG.loop_end_f (fr_forget fg) (by simp) r, q⟩
  | ret => exact ⟨_, F', h', RunG.loop_end_f (fr_forget fg) (by simp) r, q⟩
end
end Go.Proofs.YtdgnddidibpilaaDoor.AS
end
section
set_option autoImplicit false
set_option linter.unusedSimpArgs false
namespace Go.Proofs.YtdgnddidibpilaaDoor.AS
open Go Go.RowKit Go.Proofs.YtdgnddidibpilaaDoor.AS.V
section
variable {P : Program} {T : Nat → CallF} {n : Nat} {F : Fr} {h H h0 : Heap} {K : Fr → Heap → Prop} {l : List AOper} {d : Option Nat} {x y : Operand} {e : TypeId}
/-- A place in an array that is a variable. -/
theorem WO.iaddrA {sz len b v o : Nat} {j : IntKind} {i : Int} (hx : evF F x = .pt b v o) (hy : evF F y = .s (.int j i)) (h0 : 0 ≤ i) (h1 : i < len) (k : WO P T n l (putF d (.pt b v (o + i.toNat * sz)) F) h K) : WO P T n (⟨d, none, .p (.iaddrA len sz x y)⟩ :: l) F h K :=
  WO.pv (fun ho => by
    simp only [opds, opdsP, List.all_cons, List.all_nil, Bool.and_true, Bool.and_eq_true] at ho
    simp only [pV, evO_fr ho.1, evO_fr ho.2, hx, hy, Option.bind_some, asI]
    rw [if_pos ⟨h0, h1⟩]) k
/-- A result that is a variable's cells. -/
theorem resC {b o m t : Nat} {agg : Bool} {C : List AV} {v : AV} {res : List ARes} {L : List AV} (hx : F t = .pt b 0 o) (r : Obj h b C) (hm : o + m ≤ C.length) (hv : oneOr agg ((C.drop o).take m) = some v) (hr : resFs F h res = some L) : resFs F h (.cell agg m t :: res) = some (v :: L) := by
  obtain ⟨k', h2, h3, _, rfl⟩ := r
  obtain ⟨v', e', s', rw', c'⟩ := k'
  simp only at h3 hv hm
  have : rdK (bk h b) 0 o m = some ((c'.drop o).take m) := by rw [h2, rdK_s, if_pos ⟨h3, hm⟩]
  simp only [resFs, resF1, hx, this, Option.bind_some, hv, hr]
theorem wrap_u32 (n : Int) (h0 : 0 ≤ n) (h1 : n < 2 ^ 32) : IntKind.u32.wrap n = n := wrOK (by simp only [loK, hiK]; omega)
theorem wrap_i64 (n : Int) (h0 : 0 ≤ n) (h1 : n < 2 ^ 63) : IntKind.i64.wrap n = n := wrOK (by simp only [loK, hiK]; omega)
variable {a b m : Int} {t yt ty : TypeId}
theorem WO.orU (i : Nat) (hx : evF F x = .s (.int .u32 a)) (hy : evF F y = .s (.int .u32 b)) (h0 : 0 ≤ a) (h1 : a % 2 ^ i = 0) (h2 : a < 4294967296) (h3 : 0 ≤ b) (h4 : b < 2 ^ i) (h5 : b < 4294967296) (k : WO P T n l (putF d (.s (.int .u32 (a + b))) F) h K) : WO P T n (⟨d, none, .p (.sc (.binOp .or t x y yt) ty)⟩ :: l) F h K :=
  WO.or hx hy (by rw [bits_join .u32 32 (by decide) wrap_u32 i a b h0 h1 h2 h3 h4 h5]; exact k)
theorem WO.orI (i : Nat) (hx : evF F x = .s (.int .i64 a)) (hy : evF F y = .s (.int .i64 b)) (h0 : 0 ≤ a) (h1 : a % 2 ^ i = 0) (h2 : a < 9223372036854775808) (h3 : 0 ≤ b) (h4 : b < 2 ^ i) (h5 : b < 9223372036854775808) (k : WO P T n l (putF d (.s (.int .i64 (a + b))) F) h K) : WO P T n (⟨d, none, .p (.sc (.binOp .or t x y yt) ty)⟩ :: l) F h K :=
  WO.or hx hy (by rw [bits_join .i64 63 (by decide) wrap_i64 i a b h0 h1 h2 h3 h4 h5]; exact k)
theorem WO.andU (i : Nat) (hx : evF F x = .s (.int .u32 a)) (hy : evF F y = .s (.int .u32 m)) (hm : m = 2 ^ i - 1) (hi : i ≤ 32) (h0 : 0 ≤ a) (h1 : a < 4294967296) (k : WO P T n l (putF d (.s (.int .u32 (a % 2 ^ i))) F) h K) : WO P T n (⟨d, none, .p (.sc (.binOp .and t x y yt) ty)⟩ :: l) F h K :=
  WO.and hx hy (by rw [hm, bits_mask .u32 32 (by decide) wrap_u32 i hi a h0 h1]; exact k)
/-- A shift to the left of a number that is cut to its kind. -/
theorem wrapU (n : Int) : IntKind.u32.wrap n = n % 4294967296 := by simp [IntKind.wrap, IntKind.bits, IntKind.signed]
theorem WO.remP (hx : evF F x = .s (.int .i64 a)) (hy : evF F y = .s (.int .i64 b)) (hb : b ≠ 0) (h0 : 0 ≤ a) (k : WO P T n l (putF d (.s (.int .i64 (a % b))) F) h K) : WO P T n (⟨d, none, .p (.sc (.binOp .rem t x y yt) ty)⟩ :: l) F h K := WO.rem hx hy hb (by rw [Int.tmod_eq_emod_of_nonneg h0]; exact k)
theorem WO.remB (hx : evF F x = .s (.int .u8 a)) (hy : evF F y = .s (.int .u8 b)) (hb : b ≠ 0) (h0 : 0 ≤ a) (k : WO P T n l (putF d (.s (.int .u8 (a % b))) F) h K) : WO P T n (⟨d, none, .p (.sc (.binOp .rem t x y yt) ty)⟩ :: l) F h K := WO.rem hx hy hb (by rw [Int.tmod_eq_emod_of_nonneg h0]; exact k)
end
end Go.Proofs.YtdgnddidibpilaaDoor.AS
end
section
set_option autoImplicit false
set_option linter.unusedSimpArgs false
namespace Go.Proofs.YtdgnddidibpilaaDoor.AS
open Go Go.RowKit Go.Proofs.YtdgnddidibpilaaDoor.AS.V
section
variable {P : Program} {T : Nat → CallF} {n : Nat} {F : Fr} {h : Heap} {Q : Ex → Fr → Heap → Prop} {b : ACode}
theorem W.unskip {c : ACode} (H : W P T n (.seq .skip c) F h Q) : W P T n c F h Q := .of fun ho => by
  obtain ⟨e, F', h', ⟨K, r⟩, q⟩ := H.go (by simp only [okC, Bool.true_and]; exact ho)
  refine ⟨e, F', h', ⟨K + 1, fun k j hk hj => ?_⟩, q⟩
  have := r (k + 1) j (by omega) (by omega)
  rw [evC_seq] at this
  obtain ⟨k, rfl⟩ : ∃ k', k = k' + 1 := ⟨k - 1, by omega⟩
  exact this
theorem W.lab {c : ACode} {fg : List Nat} {i : Nat} (H : W P T n (.seq .skip c) (FG fg F) h Q) : W P T n (.seq (.label fg i) c) F h Q :=
  W.seq (W.label ⟨H.unskip⟩)
/-- Labels, the code of each walked once: what comes from above goes in as what jumps. -/
theorem W.scopeK {fg : List Nat} {cur : ACode} {σ : Type} (fs : σ → List (Nat × AV)) (lb : σ → Nat) (I : σ → Heap → Prop) (μ : σ → Nat) (m0 : Nat)
    (H : ∀ s G h, I s h → ∃ r, findA b (lb s) = some r ∧ W P T n r (UL (fs s) G) h (GQ (fun i F' h' => ∃ s', μ s' < μ s ∧ i = lb s' ∧ AG (fs s') (FG fg F') ∧ I s' h') Q))
    (H0 : ∀ R : Nat → Fr → Heap → Prop, (∀ s F h Y fg' i, μ s ≤ m0 → AG (fs s) (FG fg' F) → I s h → findA b (lb s) = some (.seq .skip Y) → W P T n (.seq (.label fg' i) Y) F h (GQ R Q)) → W P T n cur F h (GQ R Q)) : W P T n (.scope fg b cur) F h Q := by
  refine W.scopeI fs lb I μ m0 (H0 _ ?_) H
  intro s F h Y fg' i hm ha hI hf
  obtain ⟨r, hf', hw⟩ := H s (FG fg' F) h hI
  rw [hf] at hf'
  cases hf'
  rw [ha.eq] at hw
  refine W.lab (hw.mono fun e F' h' q => ?_)
  replace q := q.go
  refine ⟨?_⟩
  cases e with
  | goto i => obtain ⟨s', h1, h2, h3, h4⟩ := q; exact ⟨s', by omega, h2, h3, h4⟩
  | _ => exact q
end
section
variable {P : Program} {T : Nat → CallF} {n : Nat} {F : Fr} {h : Heap} {K : Fr → Heap → Prop} {l : List AOper} {d : Option Nat} {x y : Operand} {e : TypeId} {α : Type}
theorem GQ.fin {F : Fr} {h : Heap} {R : Nat → Fr → Heap → Prop} {Q : Ex → Fr → Heap → Prop} {i : Nat} (H : FinW (R i F h)) : GQ R Q (.goto i) F h := GQ.g H.go
/-- A row of nothing, its room told. -/
theorem WO.make0 (E : Enc α) {sz bytes : Nat} {z : List Value} {j i : IntKind} {c : Int} (hx : evF F x = .s (.int j 0)) (hy : evF F y = .s (.int i c)) (hs : E.sz = sz) (h0 : 0 ≤ c) (h2 : c * bytes ≤ 140737488355328) (h3 : c ≤ 9223372036854775807)
    (k : ∀ a H, Out E e h H a [] → WO P T n l (putF d a F) H K) : WO P T n (⟨d, none, .e (.make e sz bytes z x y)⟩ :: l) F h K := by
  subst hs
  refine WO.op (fun ho => ⟨0, fun j _ => ?_⟩) (k (.sl h.length 0 0 0 E.sz) (h ++ [⟨0, e, E.sz, true, (List.replicate c.toNat (z.map AV.s)).flatten⟩]) ⟨Grows.app _ _, .inr ⟨_, 0, 0, _, rfl, bk_new, rfl, ?_, ?_, rfl, rfl, rfl⟩, ?_⟩)
  · simp only [opds, opdsE, List.all_cons, List.all_nil, Bool.and_true, Bool.and_eq_true] at ho
    simp only [opV_e, eV, evO_fr ho.1, evO_fr ho.2, hx, hy, Option.bind_some, asI]
    rw [if_pos ⟨Int.le_refl _, h0, h2, h3⟩]
    rfl
  · simp
  · simp
  · intro b hb
    simp [bo] at hb
    omega
end
end Go.Proofs.YtdgnddidibpilaaDoor.AS
end
section
set_option autoImplicit false
set_option linter.unusedSimpArgs false
namespace Go.Proofs.YtdgnddidibpilaaDoor.AS
open Go Go.RowKit Go.Proofs.YtdgnddidibpilaaDoor.AS.V

/-! ### Regions whose order is open, where what may stand between leaves the blocks that are read -/
def okSt (k : Nat) (al : List AOper) : List (Nat × Nat × Nat) → Bool
  | [] => true
  | (i, lo, hi) :: l => (match al[i]? with
    | some ⟨some d, _, .r (.load _ _ (.tmp t))⟩ => Nat.beq ((effs al).filter fun e => decide (e < i)).length lo && Nat.ble hi k &&
        ((List.range al.length).all fun j => !decide (i < j) || (match al[j]? with | some o => (match o.dst with | some d' => !Nat.beq d' d | none => true) | none => true)) &&
        ((List.range al.length).all fun j => match al[j]? with | some o => (match o.dst with | some d' => !Nat.beq d' t | none => true) && (match o.guard with | some (s, _) => !Nat.beq s t | none => true) | none => true)
    | _ => false) && okSt k al l
/-- The slots that hold the places read. -/
def chkT (al : List AOper) : List (Nat × Nat × Nat) → List Nat
  | [] => []
  | (i, _, _) :: l => (match al[i]? with | some ⟨_, _, .r (.load _ _ (.tmp t))⟩ => [t] | _ => []) ++ chkT al l
section
variable {P : Program} {g : CallF}
theorem rV_same {tm : List AV} {h h1 : Heap} {agg : Bool} {n : Nat} {x : Operand} {b v o : Nat} (hx : evO tm x = some (.pt b v o)) (hb : bk h1 b = bk h b) : rV P tm h1 (.load agg n x) = rV P tm h (.load agg n x) := by
  simp only [rV, hx]
  have : h1[b]? = h[b]? := hb
  unfold rdn
  rw [this]
theorem chk_st {k : Nat} {S : List Nat} {al : List AOper} {tm tm' : List AV} {h h' : Heap} {hs : List Heap} {xs : List (List AV × AV × Bool)} (he : runDraw P g al tm h = some (hs, xs, tm', h')) (hok : ∀ o ∈ al, okD tm.length o.dst = true) (hgr : ∀ m, m < k → ∀ a b, hs[m]? = some a → hs[m + 1]? = some b → ∀ c ∈ S, bk b c = bk a c) :
    ∀ (chk : List (Nat × Nat × Nat)), okSt k al chk = true → (∀ t ∈ chkT al chk, ∃ b v o, tm'[t]? = some (.pt b v o) ∧ b ∈ S) → (∀ d ∈ chkD al chk, ∀ x, tm'[d]? = some x → avEq x x = true) → chkDraw P al hs xs chk = true := by
  obtain ⟨tmF, hF, xF, rF, e1, e2, e3, e4, e5, e6, e7⟩ := runDraw_trace al tm tm' h h' hs xs he
  have hlen : ∀ j, j ≤ al.length → (tmF j).length = tm.length := by
    intro j
    induction j with
    | zero => intro _; rw [e1]
    | succ j ih =>
      intro hj
      obtain ⟨_, _, _, _, h5⟩ := e5 j _ (List.getElem?_eq_getElem (by omega))
      rw [h5, ← ih (by omega)]
      cases (al[j]).dst <;> simp [putA]
  intro chk
  induction chk with
  | nil => intro _ _ _; rfl
  | cons c chk ih =>
    obtain ⟨i, lo, hi⟩ := c
    intro hst hpt hrf
    simp only [okSt, Bool.and_eq_true] at hst
    simp only [chkDraw, Bool.and_eq_true]
    refine ⟨?_, ih hst.2 (fun t ht => hpt t (by simp only [chkT]; exact List.mem_append_right _ ht)) (fun d hd => hrf d (by simp only [chkD]; exact List.mem_append_right _ hd))⟩
    have h1 := hst.1
    cases ha : al[i]? with
    | none => rw [ha] at h1; simp at h1
    | some o =>
      obtain ⟨d, gd, op⟩ := o
      rw [ha] at h1
      cases d with
      | none => simp at h1
      | some d =>
        cases op with
        | p _ => simp at h1
        | e _ => simp at h1
        | r q =>
          cases q with
          | b2s _ => simp at h1
          | load agg n x =>
          cases x with
          | const _ => simp at h1
          | global _ => simp at h1
          | func _ => simp at h1
          | tmp t =>
          simp only [Bool.and_eq_true] at h1
          obtain ⟨⟨⟨h2, h3⟩, h4⟩, h5t⟩ := h1
          have h2 := Nat.eq_of_beq_eq_true h2
          have hin := (List.getElem?_eq_some_iff.1 ha).1
          obtain ⟨f1, f2, f3, f4, f5⟩ := e5 i _ ha
          rw [f1]
          simp only
          cases hr : rF i with
          | false => rfl
          | true =>
            simp only [Bool.not_true, Bool.false_or, List.all_eq_true]
            have hop := f3 hr
            simp only [opV, Option.map_eq_some_iff, Prod.mk.injEq] at hop
            obtain ⟨y, hy1, rfl, hy2⟩ := hop
            have hx : tm'[d]? = some (xF i) := by
              have hdlt : d < tm.length := by
                have := hok _ (List.mem_iff_getElem?.2 ⟨i, ha⟩)
                simpa [okD] using this
              have key : ∀ j, i < j → j ≤ al.length → (tmF j)[d]? = some (xF i) := by
                intro j
                induction j with
                | zero => intro h; omega
                | succ j ihj =>
                  intro h5 h6
                  rcases Nat.lt_or_ge i j with h7 | h7
                  · have h8 := ihj h7 (by omega)
                    obtain ⟨_, _, _, _, h9⟩ := e5 j _ (List.getElem?_eq_getElem (by omega : j < al.length))
                    rw [h9]
                    have h10 := List.all_eq_true.1 h4 j (List.mem_range.2 (by omega))
                    rw [List.getElem?_eq_getElem (by omega : j < al.length)] at h10
                    simp only [decide_eq_true h7, Bool.not_true, Bool.false_or] at h10
                    cases hd' : (al[j]).dst with
                    | none => exact h8
                    | some d' =>
                      rw [hd'] at h10
                      simp only [Bool.not_eq_true'] at h10
                      show ((tmF j).set d' _)[d]? = _
                      rw [List.getElem?_set_ne (fun e => by subst e; simp at h10)]
                      exact h8
                  · obtain rfl : j = i := by omega
                    rw [f5]
                    show ((tmF j).set d _)[d]? = _
                    rw [List.getElem?_set_self (by rw [hlen j (by omega)]; exact hdlt)]
              rw [← e3]; exact key al.length hin (Nat.le_refl _)
            have hrefl := hrf d (by simp only [chkD, ha]; simp) _ hx
            -- the place read stands in its slot all the while
            obtain ⟨b, v, o, hpt1, hbS⟩ := hpt t (by simp only [chkT, ha]; simp)
            have hti : (tmF i)[t]? = some (.pt b v o) := by
              have key : ∀ q j, j + q = al.length → (tmF j)[t]? = (tmF al.length)[t]? := by
                intro q
                induction q with
                | zero => intro j hj; rw [show j = al.length by omega]
                | succ q ihq =>
                  intro j hj
                  rw [← ihq (j + 1) (by omega)]
                  obtain ⟨_, _, _, _, h9⟩ := e5 j _ (List.getElem?_eq_getElem (by omega : j < al.length))
                  rw [h9]
                  have h10 := List.all_eq_true.1 h5t j (List.mem_range.2 (by omega))
                  rw [List.getElem?_eq_getElem (by omega : j < al.length)] at h10
                  simp only [Bool.and_eq_true] at h10
                  cases hd' : (al[j]).dst with
                  | none => rfl
                  | some d' =>
                    rw [hd'] at h10
                    have h11 := h10.1
                    simp only [Bool.not_eq_true'] at h11
                    show _ = ((tmF j).set d' _)[t]?
                    rw [List.getElem?_set_ne (fun e => by subst e; simp at h11)]
              rw [key (al.length - i) i (by omega), e3]; exact hpt1
            have hrank : cnt (isEi al) (fun _ => true) i = lo := by
              rw [← h2, effs, cnt_filter, cnt_lt _ _ _ (by omega)]
            have hcE : ∀ j, j ≤ al.length → hs[cnt (isEi al) (fun _ => true) j]? = some (hF j) := fun j hj => by rw [← cntE_take al j hj]; exact e6 j hj
            have hlo : hs[lo]? = some (hF i) := by rw [← hrank]; exact hcE i (by omega)
            have h3 := Nat.le_of_ble_eq_true h3
            have grow : ∀ q, lo + q ≤ hi → ∀ hk, hs[lo + q]? = some hk → bk hk b = bk (hF i) b := by
              intro q
              induction q with
              | zero =>
                intro _ hk h5
                rw [Nat.add_zero, hlo] at h5
                cases h5
                rfl
              | succ q ihq =>
                intro h5 hk h6
                have hlt : lo + q < hs.length := by
                  have := (List.getElem?_eq_some_iff.1 h6).1; omega
                have h7 := List.getElem?_eq_getElem hlt
                exact (hgr (lo + q) (by omega) _ _ h7 (by rw [Nat.add_assoc]; exact h6) b hbS).trans (ihq (by omega) _ h7)
            intro hh hmem
            obtain ⟨m, hm⟩ := List.mem_iff_getElem?.1 hmem
            have hmlt : m < hi + 1 - lo := by
              have := (List.getElem?_eq_some_iff.1 hm).1
              rw [List.length_take] at this
              omega
            rw [List.getElem?_take_of_lt hmlt, List.getElem?_drop] at hm
            have hg := grow m (by omega) hh hm
            unfold okAt
            rw [rV_same (x := .tmp t) hti hg, hy1]
            exact hrefl
end
section
variable {P : Program} {T : Nat → CallF} {n : Nat} {F : Fr} {h : Heap} {Q : Ex → Fr → Heap → Prop} {K : Fr → Heap → Prop} {ops l : List AOper} {o : AOper} {b : ACode}
/-- A walk of operations whose first k effects leave some blocks as they are. -/
structure WS (P : Program) (T : Nat → CallF) (n k : Nat) (S : List Nat) (ops : List AOper) (F : Fr) (h : Heap) (K : Fr → Heap → Prop) : Prop where
  of ::
  go : ops.all (okAO n) = true → ∃ F' h', (∃ J, ∀ j, J ≤ j → ∃ hs xs, runDraw P (T j) ops (fr n F) h = some (hs, xs, fr n F', h') ∧ ∀ m, m < k → ∀ a b, hs[m]? = some a → hs[m + 1]? = some b → ∀ c ∈ S, bk b c = bk a c) ∧ K F' h'
variable {S : List Nat}
theorem WS.zero (H : WO P T n ops F h K) : WS P T n 0 S ops F h K := .of fun ho => by
  obtain ⟨F', h', ⟨J, r⟩, q⟩ := H.go ho
  refine ⟨F', h', ⟨J, fun j hj => ?_⟩, q⟩
  obtain ⟨hs, xs, e⟩ := runDraw_of ops _ _ _ (r j hj)
  exact ⟨hs, xs, e, fun m hm => absurd hm (Nat.not_lt_zero _)⟩
theorem WS.ee {k : Nat} (he : isE o.op = true) (H : WO P T n [o] F h (fun F' h' => (∀ c ∈ S, bk h' c = bk h c) ∧ WS P T n k S l F' h' K)) : WS P T n (k + 1) S (o :: l) F h K := .of fun ho => by
  simp only [List.all_cons, Bool.and_eq_true] at ho
  obtain ⟨F1, h1, ⟨J1, r1⟩, g1, H2⟩ := H.go (by simp [ho.1])
  obtain ⟨F2, h2, ⟨J2, r2⟩, q⟩ := H2.go ho.2
  refine ⟨F2, h2, ⟨J1 + J2, fun j hj => ?_⟩, q⟩
  obtain ⟨hs, xs, e, hg⟩ := r2 j (by omega)
  obtain ⟨x, e2⟩ := runDraw_one (r1 j (by omega)) e
  rw [he, if_pos rfl] at e2
  refine ⟨_, _, e2, fun m hm a b ha hb => ?_⟩
  cases m with
  | zero =>
    have := runDraw_head _ _ _ _ _ _ e
    simp only [List.getElem?_cons_zero, Option.some.injEq] at ha
    simp only [Nat.zero_add, List.getElem?_cons_succ] at hb
    rw [this] at hb
    cases hb
    exact ha ▸ g1
  | succ m =>
    simp only [List.getElem?_cons_succ] at ha hb
    exact hg m (by omega) a b ha hb
theorem WS.nn {k : Nat} (he : isE o.op = false) (H : WO P T n [o] F h (fun F' h' => WS P T n k S l F' h' K)) : WS P T n k S (o :: l) F h K := .of fun ho => by
  simp only [List.all_cons, Bool.and_eq_true] at ho
  obtain ⟨F1, h1, ⟨J1, r1⟩, H2⟩ := H.go (by simp [ho.1])
  obtain ⟨F2, h2, ⟨J2, r2⟩, q⟩ := H2.go ho.2
  refine ⟨F2, h2, ⟨J1 + J2, fun j hj => ?_⟩, q⟩
  obtain ⟨hs, xs, e, hg⟩ := r2 j (by omega)
  obtain ⟨x, e2⟩ := runDraw_one (r1 j (by omega)) e
  rw [he, if_neg (by simp)] at e2
  exact ⟨_, _, e2, hg⟩
/-- The slots hold places in some blocks. -/
def allP (S : List Nat) : List Nat → Fr → Prop
  | [], _ => True
  | t :: l, F => (∃ b v o, F t = .pt b v o ∧ b ∈ S) ∧ allP S l F
theorem allP_get : ∀ {l : List Nat} {F : Fr}, allP S l F → ∀ t ∈ l, ∃ b v o, F t = .pt b v o ∧ b ∈ S
  | t :: l, F, h, t', ht => by
    rcases List.mem_cons.1 ht with rfl | ht
    · exact h.1
    · exact allP_get h.2 t' ht
theorem W.drawS (S : List Nat) {k : Nat} {chk : List (Nat × Nat × Nat)} (hst : (okSt k ops chk && (chkT ops chk).all fun t => decide (t < n)) = true) (H : WS P T n k S ops F h (fun F' h' => allP S (chkT ops chk) F' ∧ allR (chkD ops chk) F' ∧ Q .normal F' h')) : W P T n (.draw ops chk) F h Q := .of fun ho => by
  simp only [Bool.and_eq_true] at hst
  obtain ⟨F', h', ⟨K, r⟩, hP, hR, q⟩ := H.go ho
  refine ⟨_, F', h', ⟨K + 1, fun k j hk hj => ?_⟩, q⟩
  obtain ⟨k, rfl⟩ : ∃ k', k = k' + 1 := ⟨k - 1, by omega⟩
  obtain ⟨hs, xs, hr, hg⟩ := r j (by omega)
  have hc : chkDraw P ops hs xs chk = true := by
    refine chk_st hr (fun o hm => ?_) hg chk hst.1 (fun t ht => ?_) (fun d hd x hx => ?_)
    · have : okAO n o = true := List.all_eq_true.1 ho o hm
      simp only [okAO, Bool.and_eq_true] at this
      rw [fr_len]; exact this.1.2
    · obtain ⟨b, v, o, h1, h2⟩ := allP_get hP t ht
      have hlt : t < n := by simpa using List.all_eq_true.1 hst.2 t ht
      exact ⟨b, v, o, by rw [fr_get hlt, h1], h2⟩
    · have hlt : d < n := by
        have := (List.getElem?_eq_some_iff.1 hx).1
        rwa [fr_len] at this
      rw [fr_get hlt] at hx
      cases hx
      exact allR_get hR d hd
  simp only [evC, hr, hc, if_true]
theorem W.sdrawS (S : List Nat) {k : Nat} {chk : List (Nat × Nat × Nat)} (hst : (okSt k ops chk && (chkT ops chk).all fun t => decide (t < n)) = true) (H : WS P T n k S ops F h (fun F' h' => allP S (chkT ops chk) F' ∧ allR (chkD ops chk) F' ∧ W P T n b F' h' Q)) : W P T n (.seq (.draw ops chk) b) F h Q :=
  W.seq (W.drawS S hst (by
    refine .of fun ho => ?_
    obtain ⟨F', h', r, h1, h2, h3⟩ := H.go ho
    exact ⟨F', h', r, h1, h2, ⟨h3⟩⟩))
end
end Go.Proofs.YtdgnddidibpilaaDoor.AS
end
section
set_option autoImplicit false
set_option linter.unusedSimpArgs false
namespace Go.Proofs.YtdgnddidibpilaaDoor.AS
open Go Go.RowKit Go.Proofs.YtdgnddidibpilaaDoor.AS.V
/-- A row of one's own, its place told. -/
structure RowW {α : Type} (E : Enc α) (e : TypeId) (h : Heap) (b v o : Nat) (L : List α) : Prop where
  mk ::
  x : ∃ k, bk h b = some k ∧ k.ver = v ∧ k.rw = true ∧ k.e = e ∧ k.sz = E.sz ∧ o + L.length * E.sz ≤ k.cells.length ∧ (k.cells.drop o).take (L.length * E.sz) = L.flatMap E.cells
section
variable {α : Type} {E : Enc α} {e : TypeId} {h H : Heap} {a : AV} {L : List α} {b v o : Nat}
theorem Own.w (r : Own E e h a L) : (a = .s (.slice none 0 0) ∧ L = []) ∨ ∃ b v o, a = .sl b v o L.length E.sz ∧ RowW E e h b v o L := by
  rcases r with r | ⟨b, v, o, k, h1, h2, h3, h4, h5, h6, h7, h8⟩
  · exact .inl r
  · exact .inr ⟨b, v, o, h1, ⟨k, h2, h3, h6, h7, h8, h4, h5⟩⟩
theorem RowW.own (r : RowW E e h b v o L) : Own E e h (.sl b v o L.length E.sz) L := by
  obtain ⟨k, h2, h3, h6, h7, h8, h4, h5⟩ := r.x
  exact .inr ⟨b, v, o, k, rfl, h2, h3, h4, h5, h6, h7, h8⟩
theorem RowW.at (r : RowW E e h b v o L) (hk : bk H b = bk h b) : RowW E e H b v o L := by
  obtain ⟨k, h2, r⟩ := r.x
  exact ⟨k, hk.trans h2, r⟩
theorem RowW.lt (r : RowW E e h b v o L) : b < h.length := by obtain ⟨k, h2, _⟩ := r.x; exact bk_lt h2
theorem set_cells {C P X1 X2 X3 B lv : List AV} {p m : Nat} (hC : C = P ++ (X1 ++ X2 ++ X3) ++ B) (hp : p = P.length + X1.length) (hm : m = X2.length) : C.take p ++ lv ++ C.drop (p + m) = P ++ (X1 ++ lv ++ X3) ++ B := by
  subst hC hp hm
  have e1 : (P ++ (X1 ++ X2 ++ X3) ++ B).take (P.length + X1.length) = P ++ X1 := by
    rw [show P ++ (X1 ++ X2 ++ X3) ++ B = (P ++ X1) ++ (X2 ++ X3 ++ B) by simp [List.append_assoc]]
    exact List.take_left' (by simp)
  have e2 : (P ++ (X1 ++ X2 ++ X3) ++ B).drop (P.length + X1.length + X2.length) = X3 ++ B := by
    rw [show P ++ (X1 ++ X2 ++ X3) ++ B = (P ++ X1 ++ X2) ++ (X3 ++ B) by simp [List.append_assoc]]
    exact List.drop_left' (by simp; omega)
  rw [e1, e2]
  simp [List.append_assoc]
theorem set_flat {f : α → List AV} : ∀ (L : List α) (i : Nat) (x : α), i < L.length → (L.set i x).flatMap f = (L.take i).flatMap f ++ f x ++ (L.drop (i + 1)).flatMap f
  | y :: L, 0, x, _ => by simp
  | y :: L, i + 1, x, h => by
    have := set_flat (f := f) L i x (by simpa using h)
    simp only [List.set_cons_succ, List.flatMap_cons, this, List.take_succ_cons, List.drop_succ_cons, List.append_assoc]
theorem get_flat {f : α → List AV} [Inhabited α] : ∀ (L : List α) (i : Nat), i < L.length → L.flatMap f = (L.take i).flatMap f ++ f (nth L (i : Int)) ++ (L.drop (i + 1)).flatMap f
  | y :: L, 0, _ => by simp [nth]
  | y :: L, i + 1, h => by
    have := get_flat (f := f) L i (by simpa using h)
    have e : nth (y :: L) ((i + 1 : Nat) : Int) = nth L (i : Int) := by
      rw [nth_eq (by simpa using h), nth_eq (by simpa using h)]
      simp
    rw [e]
    simp only [List.flatMap_cons, List.take_succ_cons, List.drop_succ_cons, List.append_assoc]
    rw [this]; simp only [List.append_assoc]
end
section
variable {P : Program} {T : Nat → CallF} {n : Nat} {F : Fr} {h : Heap} {K : Fr → Heap → Prop} {l : List AOper} {d : Option Nat} {x y : Operand} {e : TypeId} {α : Type} {E : Enc α} {L : List α} {b v o : Nat}
/-- A store into a row of one's own. -/
theorem WO.storeW [Inhabited α] {lv : List AV} {m i off p : Nat} (x' : α) (hx : evF F x = .pt b v p) (r : RowW E e h b v o L) (hi : i < L.length) (hp : p = o + i * E.sz + off) (hl : cellsOf (evF F y) = some lv) (hn : Nat.beq lv.length m = true) (hc : lv.all isCell = true) (hm : off + m ≤ E.sz) (hC : (E.cells (nth L (i : Int))).take off ++ lv ++ (E.cells (nth L (i : Int))).drop (off + m) = E.cells x')
    (k : ∀ H, RowW E e H b v o (L.set i x') → Upd h H b → WO P T n l (putF d (.s undef) F) H K) : WO P T n (⟨d, none, .e (.store m x y)⟩ :: l) F h K := by
  obtain ⟨k', h2, h3, h4, h5, h6, h7, h8⟩ := r.x
  have hn := Nat.eq_of_beq_eq_true hn
  have hlt := bk_lt h2
  obtain ⟨v', e', s', rw', c'⟩ := k'
  simp only at h3 h4 h5 h6 h7 h8
  subst h3 h4 h5 h6 hp hn
  have hX : (E.cells (nth L (i : Int))).length = E.sz := E.len _
  -- the cells, cut in pieces
  have hcut : c' = (c'.take o ++ (L.take i).flatMap E.cells) ++ ((E.cells (nth L (i : Int))).take off ++ ((E.cells (nth L (i : Int))).drop off).take lv.length ++ (E.cells (nth L (i : Int))).drop (off + lv.length)) ++ ((L.drop (i + 1)).flatMap E.cells ++ c'.drop (o + L.length * E.sz)) := by
    have e1 : (E.cells (nth L (i : Int))).take off ++ ((E.cells (nth L (i : Int))).drop off).take lv.length ++ (E.cells (nth L (i : Int))).drop (off + lv.length) = E.cells (nth L (i : Int)) := by
      rw [List.append_assoc, ← List.drop_drop, List.take_append_drop, List.take_append_drop]
    have e2 : c' = c'.take o ++ ((c'.drop o).take (L.length * E.sz) ++ c'.drop (o + L.length * E.sz)) := by
      rw [← List.drop_drop, List.take_append_drop, List.take_append_drop]
    rw [e1]
    have e3 := get_flat (f := E.cells) L i hi
    rw [h8, e3] at e2
    simp only [List.append_assoc] at e2 ⊢
    exact e2
  have hA : ((L.take i).flatMap E.cells).length = i * E.sz := by rw [E.flat_len, List.length_take, Nat.min_eq_left (by omega)]
  have hto : (c'.take o).length = o := by rw [List.length_take, Nat.min_eq_left (by omega)]
  have hnew := set_cells (lv := lv) (p := o + i * E.sz + off) (m := lv.length) hcut
    (by rw [List.length_append, hto, hA, List.length_take, hX]; omega)
    (by rw [List.length_take, List.length_drop, hX]; omega)
  rw [hC] at hnew
  have hlen : o + i * E.sz + off + lv.length ≤ c'.length := by
    have : (i + 1) * E.sz ≤ L.length * E.sz := Nat.mul_le_mul_right _ (by omega)
    rw [Nat.add_mul, Nat.one_mul] at this
    omega
  refine WO.op (fun ho => ⟨0, fun j _ => ?_⟩) (k (h.set b ⟨v', e', E.sz, true, c'.take (o + i * E.sz + off) ++ lv ++ c'.drop (o + i * E.sz + off + lv.length)⟩) ⟨⟨_, bk_set_same hlt, rfl, rfl, rfl, rfl, ?_, ?_⟩⟩ ⟨fun c hc => bk_set_ne (fun e => hc e.symm), by simp⟩)
  · simp only [opds, opdsE, List.all_cons, List.all_nil, Bool.and_true, Bool.and_eq_true] at ho
    rw [opV_e, eV_store, evO_fr ho.1, evO_fr ho.2, hx, stV_p, hl, stW_s, if_pos ⟨rfl, hc⟩, h2, wrK_s, if_pos ⟨rfl, rfl, hlen⟩]
    rfl
  · simp only [List.length_set, List.length_append, List.length_take, List.length_drop]
    omega
  · simp only [List.length_set]
    rw [hnew, set_flat L i x' hi]
    rw [show c'.take o ++ (L.take i).flatMap E.cells ++ E.cells x' ++ ((L.drop (i + 1)).flatMap E.cells ++ c'.drop (o + L.length * E.sz)) = c'.take o ++ (((L.take i).flatMap E.cells ++ E.cells x' ++ (L.drop (i + 1)).flatMap E.cells) ++ c'.drop (o + L.length * E.sz)) by simp only [List.append_assoc]]
    rw [List.drop_left' hto, List.take_left']
    rw [List.length_append, List.length_append, hA, E.len, E.flat_len, List.length_drop]
    rw [← Nat.succ_mul, ← Nat.add_mul]
    congr 1
    omega
end
end Go.Proofs.YtdgnddidibpilaaDoor.AS
end
