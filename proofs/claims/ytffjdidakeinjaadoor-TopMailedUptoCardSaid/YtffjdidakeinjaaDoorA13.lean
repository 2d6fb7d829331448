/- Of our own: an abstract machine beside the model, its soundness, and walks of the program in it. -/
import Derived.Test.YtffjdidakeinjaaDoorA8
import Derived.Test.YtffjdidakeinjaaDoorA11
import Derived.Test.YtffjdidakeinjaaDoorProg
import Derived.WalkKit
import Derived.Lib.Builder
import Derived.Lib.Walk
import Derived.Laws.Externs
import Derived.Lib.Bytealg
import Derived.Test.YtffjdidakeinjaaDoorA12
import Derived.Laws.BitsLemmas
set_option linter.unusedSimpArgs false
set_option linter.unusedVariables false
section
set_option autoImplicit false
set_option linter.unusedSimpArgs false
namespace Go.Proofs.YtffjdidakeinjaaDoor.AS
open Go Go.RowKit
section
variable {P : Program} {tm : List AV}
def minV (P : Program) (t t2 ty : TypeId) (a b : Option AV) : Option AV :=
  match a.bind toV, b.bind toV with
  | some u, some v => (semv P (Builtin.min_ #[t, t2] ty #[u, v])).map .s
  | _, _ => none
@[simp] theorem sc_min (x y : Operand) (t t2 ty : TypeId) : scV P tm (.call ⟨.builtin .min, #[x, y], #[t, t2]⟩) ty = minV P t t2 ty (evO tm x) (evO tm y) := by
  unfold scV minV
  simp only [Op.operands, Call.operands, Array.empty_append, List.append_nil, List.nil_append, List.all_cons, List.all_nil, Bool.and_true, notSel]
  cases hx : (evO tm x).bind toV with
  | none => simp
  | some u =>
    cases hy : (evO tm y).bind toV with
    | none => simp
    | some v =>
      simp only [Option.isSome_some, Bool.and_self, if_true, execOp, opOf, resolve, envV, List.map_toArray, List.map_cons, List.map_nil, hx, hy, Option.getD_some, pure_bind, invoke, builtin]
      rw [semv_value]
      generalize semv P (Builtin.min_ #[t, t2] ty #[u, v]) = o
      cases o <;> rfl
@[simp] theorem minV_i {t t2 ty : TypeId} (k : IntKind) (a b : Int) : minV P t t2 ty (some (.s (.int k a))) (some (.s (.int k b))) = some (.s (.int k (if b < a then b else a))) := by
  simp [minV, toV, Builtin.min_, Builtin.min2, semv_pure]
end
end Go.Proofs.YtffjdidakeinjaaDoor.AS
end
section
set_option autoImplicit false
namespace Go.Proofs.YtffjdidakeinjaaDoor.AS
open Go Go.RowKit
/-- A value moved, told by its name. -/
theorem WO.mvE {P : Program} {T : Nat → CallF} {n : Nat} {F : Fr} {h : Heap} {K : Fr → Heap → Prop} {l : List AOper} {d : Option Nat} {x : Operand} (v : AV) (hx : evF F x = v) (k : WO P T n l (putF d v F) h K) : WO P T n (⟨d, none, .p (.mv x)⟩ :: l) F h K := WO.mv (hx ▸ k)
end Go.Proofs.YtffjdidakeinjaaDoor.AS
end
section
set_option autoImplicit false
set_option linter.unusedVariables false
set_option maxRecDepth 100000
set_option maxHeartbeats 4000000
namespace Go.Proofs.YtffjdidakeinjaaDoor.AS
open Go Go.Proofs Go.RowKit
theorem copy_used (B O : Nat) (w : World) (h0 : w.cell? ⟨B, O, none⟩ = some (.pointer (some ⟨B, O, none⟩))) :
    Calls Tryd.prog 44 #[.pointer (some ⟨B, O, none⟩)] w fun e w' => e = .returned (.tuple #[]) ∧ w' = w := by
  obtain ⟨j, hj⟩ : ∃ j, Tryd.prog.info? 48 = some j := Option.isSome_iff_exists.1 (by kernel_rfl)
  go_enter Tryd.func44, Tryd.ntmps44
  go_wp2
  rw [Lib.run_neq_ptr_same w _ Tryd.underlying46 hj]
  go_wp2
  go_end0
  exact ⟨rfl, rfl⟩
theorem copy_fresh (B O T n : Nat) (w : World) (h0 : w.cell? ⟨B, O, none⟩ = some (.pointer none)) (hsh : w.shape? B = some (T, n)) (hO : O < n) (hl : liesAt Tryd.prog Tryd.prog.depth T (n / Tryd.prog.cellsOf T) O 48 1 = true) (hfz : w.frozen? ⟨B, O, none⟩ = false) :
    Calls Tryd.prog 44 #[.pointer (some ⟨B, O, none⟩)] w fun e w' => e = .returned (.tuple #[]) ∧ w' = w.setCell ⟨B, O, none⟩ (.pointer (some ⟨B, O, none⟩)) := by
  obtain ⟨j, hj, hjs⟩ : ∃ j, Tryd.prog.info? 48 = some j ∧ j.size = 2 := Option.map_eq_some_iff.1 (show (Tryd.prog.info? 48).map (·.size) = some 2 by kernel_rfl)
  go_enter Tryd.func44, Tryd.ntmps44
  go_wp2
  rw [Lib.run_to_unsafe w ⟨B, O, none⟩ Tryd.underlying46 Tryd.underlying89 hj (by rw [hjs]; decide) hsh hO]
  simp only [Result.andThen]
  rw [Oper.upon_value]
  go_wp2
  rw [run_callFunc_extern Tryd.func56 (by kernel_rfl) (by kernel_rfl) (by kernel_rfl) (e := Extern.AbiNoEscape.same) (by kernel_rfl)]
  rw [Lib.run_noEscape]
  simp only [Result.andThen]
  rw [Oper.upon_value]
  go_wp2
  rw [Lib.run_from_unsafe w ⟨B, O, none⟩ Tryd.underlying89 Tryd.underlying46 hj hsh hl]
  simp only [Result.andThen]
  rw [Oper.upon_value]
  go_wp2
  go_end0
  exact ⟨rfl, rfl⟩
end Go.Proofs.YtffjdidakeinjaaDoor.AS
end
section
set_option autoImplicit false
set_option linter.unusedVariables false
set_option maxRecDepth 100000
namespace Go.Proofs.YtffjdidakeinjaaDoor.AS
open Go Go.Proofs Go.RowKit
theorem rowAt_mono {p : Program} {fits : TypeId → Bool} {d : Nat} {e : TypeId} {c c' off n : Nat} (h : rowAt p fits d e c off n = true) (hc : c ≤ c') : rowAt p fits d e c' off n = true := by
  cases d with
  | zero => simp [rowAt] at h
  | succ d =>
    simp only [rowAt] at h ⊢
    split at h
    · cases h
    · rename_i hs
      rw [if_neg hs]
      simp only [Bool.or_eq_true, Bool.and_eq_true, decide_eq_true_eq] at h ⊢
      rcases h with ⟨⟨h1, h2⟩, h3⟩ | ⟨h1, h2⟩
      · exact .inl ⟨⟨h1, by omega⟩, h3⟩
      · exact .inr ⟨by omega, h2⟩
theorem liesAt_mono {p : Program} {e u : TypeId} {c c' off : Nat} (hc : c ≤ c') : ∀ {d n : Nat} {u : TypeId}, liesAt p d e c off u n = true → liesAt p d e c' off u n = true
  | 0, n, u, h => by simp [liesAt] at h
  | d + 1, n, u, h => by
    simp only [liesAt, Bool.or_eq_true] at h ⊢
    rcases h with h | h
    · exact .inl (rowAt_mono h hc)
    · right
      split at h
      · exact liesAt_mono (u := u) hc h
      · cases h
noncomputable def lies48 (e n o : Nat) : Bool := liesAt Tryd.prog Tryd.prog.depth e (n / Tryd.prog.cellsOf e) o 48 1
/-- What a Builder's check of its own place does. -/
noncomputable def hkCopy : List AV → Heap → Option (AV × Heap)
  | [.pt b 0 o], h => match h[b]? with
    | some k => match k.cells[o]? with
      | some (.s (.pointer none)) => if k.ver = 0 ∧ k.rw = true ∧ lies48 k.e k.cells.length o = true then (wrn h b 0 o [.pt b 0 o]).map fun h' => (.tp [], h') else none
      | some (.pt b' 0 o') => if k.ver = 0 ∧ b' = b ∧ o' = o then some (.tp [], h) else none
      | _ => none
    | none => none
  | _, _ => none
theorem hkCopy_ok : HookSound Tryd.prog 44 hkCopy := by
  refine ⟨by kernel_rfl, fun base W l h r he ρ w vs H hr => ?_⟩
  unfold hkCopy at he
  split at he
  · rename_i b o
    match vs, hr with
    | [], hr => exact hr.elim
    | _ :: _ :: _, hr => exact hr.2.elim
    | [v0], hr =>
    obtain ⟨⟨p, hp, rfl⟩, _⟩ := hr
    split at he
    · rename_i k hk
      obtain ⟨p1, h1, h2, h3, h4, h5, h6, h7, h8⟩ := H.blk b k hk
      split at he
      · rename_i hc
        split at he
        · rename_i hcnd
          obtain ⟨hv, hrw, hl⟩ := hcnd
          rw [hv] at h1
          rw [hp] at h1; cases h1
          obtain ⟨a1, a2, ⟨n, a3⟩, a4, a5⟩ := h8 hrw
          obtain ⟨x, hx, hxr⟩ := h7 o _ hc
          have hx' : x = .pointer none := hxr
          subst hx'
          simp only [Option.map_eq_some_iff] at he
          obtain ⟨h', hw, rfl⟩ := he
          obtain ⟨w', hst, hw', H', hkp⟩ := wrn_sound (P := Tryd.prog) H hw hp (vs := [.pointer (some ⟨p.blk, p.off + o, none⟩)]) ⟨⟨p, hp, rfl⟩, trivial⟩ rfl
          have hoff := a5 hv
          have hon : p.off + o < n := by
            have := lt_shN (w := w) (b := p.blk) (o := p.off + o) (by rw [hx]; rfl)
            rwa [shN, a3] at this
          have hln : k.cells.length ≤ n := by
            rcases Nat.eq_zero_or_pos k.cells.length with h0 | h0
            · omega
            · obtain ⟨y, hy, _⟩ := h7 (k.cells.length - 1) _ (List.getElem?_eq_getElem (by omega))
              have := lt_shN (w := w) (b := p.blk) (o := p.off + (k.cells.length - 1)) (by rw [hy]; rfl)
              rw [shN, a3] at this
              simp only at this
              omega
          have hlies : liesAt Tryd.prog Tryd.prog.depth k.e (n / Tryd.prog.cellsOf k.e) (p.off + o) 48 1 = true := by
            rw [hoff, Nat.zero_add]
            exact liesAt_mono (u := 48) (Nat.div_le_div_right hln) hl
          refine (copy_fresh p.blk (p.off + o) k.e n w hx a3 hon hlies (a2 _ (by rw [shN, a3]; exact hon))).mono ?_
          rintro e w2 ⟨rfl, rfl⟩
          have e2 : w.setCell ⟨p.blk, p.off + o, none⟩ (.pointer (some ⟨p.blk, p.off + o, none⟩)) = w' := by rw [hw']; rfl
          rw [e2]
          exact ⟨_, ρ, rfl, Ext.refl _, hkp, ⟨#[], rfl, trivial⟩, H'⟩
        · cases he
      · rename_i b' o' hc
        split at he
        · rename_i hcnd
          obtain ⟨hv, rfl, rfl⟩ := hcnd
          cases he
          rw [hv] at h1
          rw [hp] at h1; cases h1
          obtain ⟨x, hx, p2, hp2, rfl⟩ := h7 _ _ hc
          rw [hp] at hp2; cases hp2
          refine (copy_used p.blk _ w hx).mono ?_
          rintro e w2 ⟨rfl, rfl⟩
          exact ⟨_, ρ, rfl, Ext.refl _, Keep.refl _, ⟨#[], rfl, trivial⟩, H⟩
        · cases he
      · cases he
    · cases he
  · cases he
end Go.Proofs.YtffjdidakeinjaaDoor.AS
end
section
set_option autoImplicit false
set_option linter.unusedVariables false
set_option maxRecDepth 100000
set_option maxHeartbeats 4000000
namespace Go.Proofs.YtffjdidakeinjaaDoor.AS
open Go Go.Proofs Go.RowKit
/-- Where a byte is in a text. -/
def idxS (s : ByteArray) (c : Int) : Int := Lib.indexByte s.data.toList c.toNat.toUInt8
theorem idx_calls (s : ByteArray) (c : Int) (w : World) :
    Calls Tryd.prog 63 #[.string s, .int .u8 c] w fun e w' => e = .returned (.int .i64 (idxS s c)) ∧ w' = w := by
  go_enter Tryd.func63, Tryd.ntmps63
  go_wp2
  rw [run_callFunc_extern Tryd.func67 (by kernel_rfl) (by kernel_rfl) (by kernel_rfl) (e := Extern.BytealgIndexByte.indexByte) (by kernel_rfl)]
  rw [Lib.run_indexByteString]
  simp only [Result.andThen]
  rw [Oper.upon_value]
  go_wp2
  go_ret
  exact ⟨rfl, rfl⟩
def hkIdx : List AV → Heap → Option (AV × Heap)
  | [.s (.string s), .s (.int .u8 c)], h => some (.s (.int .i64 (idxS s c)), h)
  | _, _ => none
theorem hkIdx_ok : HookSound Tryd.prog 63 hkIdx := by
  refine ⟨by kernel_rfl, fun base W l h r he ρ w vs H hr => ?_⟩
  unfold hkIdx at he
  split at he
  · rename_i s c
    cases he
    match vs, hr with
    | [], hr => exact hr.elim
    | [_], hr => exact hr.2.elim
    | _ :: _ :: _ :: _, hr => exact hr.2.2.elim
    | [v0, v1], hr =>
    obtain ⟨e0, e1, _⟩ := hr
    have e0 : v0 = .string s := e0
    have e1 : v1 = .int .u8 c := e1
    subst e0 e1
    refine (idx_calls s c w).mono ?_
    rintro e w2 ⟨rfl, rfl⟩
    exact ⟨_, ρ, rfl, Ext.refl _, Keep.refl _, rfl, H⟩
  · cases he
end Go.Proofs.YtffjdidakeinjaaDoor.AS
end
section
set_option maxRecDepth 100000
namespace Go.Proofs.YtffjdidakeinjaaDoor.AS
open Go Go.Proofs Go.RowKit
def tyTab : List Nat := [0,0,4,4,10,5,5,0,0,9,9,9,8,0,0,0,0,0,0,0,0,3,0,0,4,0,0,0,0,0,0,0,5,0,0,0,0,0,0,0,0,0,7,0,8,0,0,0,0,0,0,0,0,0,0,0,0,0,0,0,8,0,0,0,0,0,0,0,0,0,0,0,0,0,0,0,0,0,0,0,0,0,0,0,0,0,0,0,0,0,0,0,0,0,0,0,0,0,0,0,0,0,0,0,0,0,0,5,5,0,3,3,0,0,0,0,0,0,0,0,0,0,0,0,0,0,0,0,0,0]
theorem tyTab_ok : undTab Tryd.prog 130 = tyTab := by kernel_rfl
theorem kd {t : Nat} {k : IntKind} (h : kdN (nthN tyTab t) = some k) : Tryd.prog.underlying t = some (.int k) := kd_of tyTab_ok h
theorem st {t : Nat} (h : Nat.beq (nthN tyTab t) 9 = true) : Tryd.prog.underlying t = some .string := str_of tyTab_ok h
theorem tb {t : Nat} (h : Nat.beq (nthN tyTab t) 10 = true) : Tryd.prog.underlying t = some .bool := bl_of tyTab_ok h
theorem hm : Tryd.prog.follows .mixedOrders = true := by kernel_rfl
noncomputable def T4a : FuncId → Option AFunc := over (over (prepFn Tryd.prog) 44 hkCopy) 63 hkIdx
theorem T4a_ok : TabOK Tryd.prog T4a := over_ok (over_ok (tab0 _) hkCopy_ok) hkIdx_ok
def isTrue : Option (AV × Heap) → Bool
  | some (.s (.bool true), _) => true
  | _ => false
theorem isTrue_of {r : Option (AV × Heap)} (h : isTrue r = true) : ∃ H, r = some (.s (.bool true), H) := by
  unfold isTrue at h
  split at h
  · exact ⟨_, rfl⟩
  · cases h
def hkYes : List AV → Option AV
  | [] => some (.s (.bool true))
  | _ => none
theorem begins20 : isTrue (evFn Tryd.prog T4a 400 20 [] []) = true := by kernel_rfl
theorem hkBegins_ok : HookSound Tryd.prog 20 fun l h => (hkYes l).map fun x => (x, h) := by
  have hc : callable Tryd.prog 20 = true := by kernel_rfl
  refine hook0 (T := T4a) hm T4a_ok (fun l x hx => ?_) hc
  unfold hkYes at hx
  split at hx
  · cases hx
    obtain ⟨H, h⟩ := isTrue_of begins20
    exact ⟨hc, ⟨[], rfl⟩, ⟨.bool true, rfl⟩, 400, H, h⟩
  · cases hx
noncomputable def T4 : FuncId → Option AFunc := over T4a 20 fun l h => (hkYes l).map fun x => (x, h)
theorem TT_ok : TabOK Tryd.prog T4 := over_ok T4a_ok hkBegins_ok
theorem T4_20 : T4 20 = some (.hook fun l h => (hkYes l).map fun x => (x, h)) := over_same _ _ _
theorem T4_44 : T4 44 = some (.hook hkCopy) := (show T4 44 = over (prepFn Tryd.prog) 44 hkCopy 44 from rfl).trans (over_same _ _ _)
theorem T4_63 : T4 63 = some (.hook hkIdx) := (show T4 63 = over (over (prepFn Tryd.prog) 44 hkCopy) 63 hkIdx 63 from rfl).trans (over_same _ _ _)
theorem q8 : T4 8 = some (.code 60 [(.tmp 6)] c8) := (show T4 8 = prepFn Tryd.prog 8 from rfl).trans p8
theorem q9 : T4 9 = some (.code 65 [(.tmp 2), (.tmp 3)] c9) := (show T4 9 = prepFn Tryd.prog 9 from rfl).trans p9
theorem q14 : T4 14 = some (.code 47 [(.tmp 2)] c14) := (show T4 14 = prepFn Tryd.prog 14 from rfl).trans p14
theorem q16 : T4 16 = some (.code 70 [(.tmp 2), (.tmp 3)] c16) := (show T4 16 = prepFn Tryd.prog 16 from rfl).trans p16
theorem q18 : T4 18 = some (.code 62 [(.tmp 2)] c18) := (show T4 18 = prepFn Tryd.prog 18 from rfl).trans p18
theorem q21 : T4 21 = some (.code 56 [(.tmp 4), (.tmp 5)] c21) := (show T4 21 = prepFn Tryd.prog 21 from rfl).trans p21
theorem q22 : T4 22 = some (.code 40 [(.tmp 4), (.tmp 5)] c22) := (show T4 22 = prepFn Tryd.prog 22 from rfl).trans p22
theorem q23 : T4 23 = some (.code 26 [(.tmp 4)] c23) := (show T4 23 = prepFn Tryd.prog 23 from rfl).trans p23
theorem q24 : T4 24 = some (.code 20 [(.cell true 256 0)] c24) := (show T4 24 = prepFn Tryd.prog 24 from rfl).trans p24
theorem q25 : T4 25 = some (.code 17 [(.tmp 2)] c25) := (show T4 25 = prepFn Tryd.prog 25 from rfl).trans p25
theorem q26 : T4 26 = some (.code 13 [(.tmp 2)] c26) := (show T4 26 = prepFn Tryd.prog 26 from rfl).trans p26
theorem q27 : T4 27 = some (.code 17 [(.tmp 4)] c27) := (show T4 27 = prepFn Tryd.prog 27 from rfl).trans p27
theorem q28 : T4 28 = some (.code 8 [(.tmp 2)] c28) := (show T4 28 = prepFn Tryd.prog 28 from rfl).trans p28
theorem q29 : T4 29 = some (.code 14 [(.tmp 2)] c29) := (show T4 29 = prepFn Tryd.prog 29 from rfl).trans p29
theorem q30 : T4 30 = some (.code 26 [(.tmp 2), (.tmp 3)] c30) := (show T4 30 = prepFn Tryd.prog 30 from rfl).trans p30
theorem q31 : T4 31 = some (.code 14 [(.tmp 2), (.tmp 3)] c31) := (show T4 31 = prepFn Tryd.prog 31 from rfl).trans p31
theorem q32 : T4 32 = some (.code 37 [(.tmp 4)] c32) := (show T4 32 = prepFn Tryd.prog 32 from rfl).trans p32
theorem q33 : T4 33 = some (.code 21 [(.tmp 2)] c33) := (show T4 33 = prepFn Tryd.prog 33 from rfl).trans p33
theorem q34 : T4 34 = some (.code 31 [(.tmp 4)] c34) := (show T4 34 = prepFn Tryd.prog 34 from rfl).trans p34
theorem q35 : T4 35 = some (.code 24 [(.tmp 4)] c35) := (show T4 35 = prepFn Tryd.prog 35 from rfl).trans p35
theorem q36 : T4 36 = some (.code 43 [(.tmp 2), (.tmp 3), (.tmp 4)] c36) := (show T4 36 = prepFn Tryd.prog 36 from rfl).trans p36
theorem q37 : T4 37 = some (.code 6 [(.tmp 2)] c37) := (show T4 37 = prepFn Tryd.prog 37 from rfl).trans p37
theorem q38 : T4 38 = some (.code 14 [(.tmp 2), (.tmp 3)] c38) := (show T4 38 = prepFn Tryd.prog 38 from rfl).trans p38
theorem q39 : T4 39 = some (.code 21 [(.tmp 4), (.tmp 5)] c39) := (show T4 39 = prepFn Tryd.prog 39 from rfl).trans p39
theorem q40 : T4 40 = some (.code 17 [(.tmp 2)] c40) := (show T4 40 = prepFn Tryd.prog 40 from rfl).trans p40
theorem q41 : T4 41 = some (.code 12 [] c41) := (show T4 41 = prepFn Tryd.prog 41 from rfl).trans p41
theorem q42 : T4 42 = some (.code 19 [(.tmp 2)] c42) := (show T4 42 = prepFn Tryd.prog 42 from rfl).trans p42
theorem q43 : T4 43 = some (.code 29 [(.tmp 4)] c43) := (show T4 43 = prepFn Tryd.prog 43 from rfl).trans p43
theorem q45 : T4 45 = some (.code 13 [(.tmp 2)] c45) := (show T4 45 = prepFn Tryd.prog 45 from rfl).trans p45
theorem q46 : T4 46 = some (.code 8 [(.tmp 4)] c46) := (show T4 46 = prepFn Tryd.prog 46 from rfl).trans p46
theorem q47 : T4 47 = some (.code 17 [(.tmp 4)] c47) := (show T4 47 = prepFn Tryd.prog 47 from rfl).trans p47
theorem q48 : T4 48 = some (.code 21 [(.cell true 256 2), (.tmp 3)] c48) := (show T4 48 = prepFn Tryd.prog 48 from rfl).trans p48
theorem q49 : T4 49 = some (.code 16 [(.tmp 4)] c49) := (show T4 49 = prepFn Tryd.prog 49 from rfl).trans p49
theorem q50 : T4 50 = some (.code 23 [(.tmp 4)] c50) := (show T4 50 = prepFn Tryd.prog 50 from rfl).trans p50
theorem q51 : T4 51 = some (.code 20 [(.tmp 4)] c51) := (show T4 51 = prepFn Tryd.prog 51 from rfl).trans p51
theorem q52 : T4 52 = some (.code 15 [(.tmp 2), (.tmp 3)] c52) := (show T4 52 = prepFn Tryd.prog 52 from rfl).trans p52
theorem q53 : T4 53 = some (.code 30 [(.tmp 4), (.tmp 5)] c53) := (show T4 53 = prepFn Tryd.prog 53 from rfl).trans p53
theorem q54 : T4 54 = some (.code 23 [(.tmp 2)] c54) := (show T4 54 = prepFn Tryd.prog 54 from rfl).trans p54
theorem q55 : T4 55 = some (.code 22 [(.tmp 2)] c55) := (show T4 55 = prepFn Tryd.prog 55 from rfl).trans p55
theorem q57 : T4 57 = some (.code 8 [(.tmp 4)] c57) := (show T4 57 = prepFn Tryd.prog 57 from rfl).trans p57
theorem q58 : T4 58 = some (.code 18 [(.tmp 4)] c58) := (show T4 58 = prepFn Tryd.prog 58 from rfl).trans p58
theorem q59 : T4 59 = some (.code 10 [(.tmp 4)] c59) := (show T4 59 = prepFn Tryd.prog 59 from rfl).trans p59
theorem q60 : T4 60 = some (.code 19 [(.tmp 2), (.tmp 3)] c60) := (show T4 60 = prepFn Tryd.prog 60 from rfl).trans p60
theorem q61 : T4 61 = some (.code 9 [(.tmp 4)] c61) := (show T4 61 = prepFn Tryd.prog 61 from rfl).trans p61
theorem q62 : T4 62 = some (.code 16 [(.tmp 4)] c62) := (show T4 62 = prepFn Tryd.prog 62 from rfl).trans p62
theorem q64 : T4 64 = some (.code 117 [(.tmp 2), (.tmp 3)] c64) := (show T4 64 = prepFn Tryd.prog 64 from rfl).trans p64
theorem q65 : T4 65 = some (.code 187 [(.tmp 4)] c65) := (show T4 65 = prepFn Tryd.prog 65 from rfl).trans p65
theorem q66 : T4 66 = some (.code 78 [(.tmp 4)] c66) := (show T4 66 = prepFn Tryd.prog 66 from rfl).trans p66
noncomputable abbrev TT : Nat → CallF := evFn Tryd.prog T4
end Go.Proofs.YtffjdidakeinjaaDoor.AS
end
section
set_option autoImplicit false
set_option linter.unusedSimpArgs false
namespace Go.Proofs.YtffjdidakeinjaaDoor.AS
open Go Go.RowKit Go.Proofs.YtffjdidakeinjaaDoor.AS.V
section
variable {P : Program} {T : Nat → CallF} {n : Nat} {F : Fr} {h : Heap} {K : Fr → Heap → Prop} {l : List AOper} {d : Option Nat} {x y : Operand}
/-- A place in a table. -/
theorem WO.tabA {len sz g o : Nat} {j : IntKind} {i : Int} (hx : evF F x = .s (.pointer (some ⟨g, o, none⟩))) (hy : evF F y = .s (.int j i)) (h0 : 0 ≤ i) (h1 : i < len) (k : WO P T n l (putF d (.s (.pointer (some ⟨g, o + i.toNat * sz, none⟩))) F) h K) : WO P T n (⟨d, none, .p (.iaddrA len sz x y)⟩ :: l) F h K :=
  WO.pv (fun ho => by
    simp only [opds, opdsP, List.all_cons, List.all_nil, Bool.and_true, Bool.and_eq_true] at ho
    simp only [pV, evO_fr ho.1, evO_fr ho.2, hx, hy, Option.bind_some, asI]
    rw [if_pos ⟨h0, h1⟩]) k
/-- What lies there. -/
theorem WO.tabL {agg : Bool} {m g o : Nat} {v : AV} (hx : evF F x = .s (.pointer (some ⟨g, o, none⟩))) (hv : tabV P agg m g o = some v) (k : WO P T n l (putF d v F) h K) : WO P T n (⟨d, none, .r (.load agg m x)⟩ :: l) F h K := by
  refine WO.op (fun ho => ⟨0, fun j _ => ?_⟩) k
  simp only [opds, opdsR, List.all_cons, List.all_nil, Bool.and_true] at ho
  rw [opV_r, rV_load, evO_fr ho, hx, ldV_g, hv]; rfl
theorem tab_one {k : IntKind} {g : Nat} {C : List Int} (hC : globC P g = some (C.map (.int k))) {i : Int} (h0 : 0 ≤ i) (h1 : i < C.length) : tabV P false 1 g (0 + i.toNat * 1) = some (.s (.int k (nth C i))) := by
  unfold tabV
  rw [hC]
  simp only [List.length_map]
  rw [if_pos (by omega)]
  have hlt : i.toNat < C.length := by omega
  simp only [Nat.zero_add, Nat.mul_one, oneOr]
  rw [← List.map_drop, List.drop_eq_getElem_cons hlt, nth_eq hlt]
  rfl
theorem tab_two {k : IntKind} {g : Nat} {C : List Int} (hC : globC P g = some (C.map (.int k))) {i : Int} (h0 : 0 ≤ i) (h1 : 2 * i + 1 < C.length) : tabV P true 2 g (0 + i.toNat * 2) = some (.ag [.s (.int k (nth C (2 * i))), .s (.int k (nth C (2 * i + 1)))]) := by
  unfold tabV
  rw [hC]
  simp only [List.length_map]
  rw [if_pos (by omega)]
  have hlt : i.toNat * 2 < C.length := by omega
  have hlt1 : i.toNat * 2 + 1 < C.length := by omega
  have e0 : nth C (2 * i) = C[i.toNat * 2] := by
    rw [nth_eq (by omega)]
    congr 1; omega
  have e1 : nth C (2 * i + 1) = C[i.toNat * 2 + 1] := by
    rw [nth_eq (by omega)]
    congr 1; omega
  rw [e0, e1]
  simp only [Nat.zero_add, oneOr]
  rw [← List.map_drop, List.drop_eq_getElem_cons hlt, List.drop_eq_getElem_cons hlt1]
  rfl
/-- A text as bytes of one's own. -/
theorem WO.s2b {e : TypeId} {s : ByteArray} (hx : evF F x = .s (.string s)) (hs : s.size ≤ 140737488355328) (k : ∀ a H, Grows h H → Own (encI .u8) e H a (bytesOf s) → New h.length a → WO P T n l (putF d a F) H K) : WO P T n (⟨d, none, .e (.s2b e x)⟩ :: l) F h K := by
  have hlen : (bytesOf s).length = s.size := bytesOf_length s
  have hcells : (s.data.toList.map fun b => AV.s (.int .u8 b.toNat)) = (bytesOf s).flatMap (encI .u8).cells := by
    unfold bytesOf
    generalize s.data.toList = L
    induction L with
    | nil => rfl
    | cons b L ih => rw [List.map_cons, ih]; rfl
  refine WO.op (fun ho => ⟨0, fun j _ => ?_⟩) (k (.sl h.length 0 0 (bytesOf s).length 1) (h ++ [⟨0, e, 1, true, s.data.toList.map fun b => .s (.int .u8 b.toNat)⟩]) (Grows.app _ _) (.inr ⟨_, 0, 0, _, rfl, bk_new, rfl, ?_, ?_, rfl, rfl, rfl⟩) (fun c hc => by simp [bo] at hc; omega))
  · simp only [opds, opdsE, List.all_cons, List.all_nil, Bool.and_true] at ho
    rw [opV_e]
    simp only [eV, evO_fr ho, hx]
    rw [if_pos hs, hlen]
  · rw [hcells, Enc.flat_len]; simp [encI]
  · rw [hcells, List.drop_zero, List.take_of_length_le (by rw [Enc.flat_len]; exact Nat.le_refl _)]
theorem WO.sdN {z : Nat} (hx : evF F x = .s (.slice none 0 0)) (k : WO P T n l (putF d (.s (.pointer none)) F) h K) : WO P T n (⟨d, none, .p (.sdata x)⟩ :: l) F h K :=
  WO.pv (fun ho => by
    simp only [opds, opdsP, List.all_cons, List.all_nil, Bool.and_true] at ho
    simp only [pV, evO_fr ho, hx]) k
theorem WO.sdS {b v o m z : Nat} (hx : evF F x = .sl b v o m z) (h0 : 0 < m) (k : WO P T n l (putF d (.pt b v o) F) h K) : WO P T n (⟨d, none, .p (.sdata x)⟩ :: l) F h K :=
  WO.pv (fun ho => by
    simp only [opds, opdsP, List.all_cons, List.all_nil, Bool.and_true] at ho
    simp only [pV, evO_fr ho, hx]
    rw [if_pos h0]) k
theorem WO.ustrN {e : TypeId} (hx : evF F x = .s (.pointer none)) (hy : evF F y = .s (.int .i64 0)) (k : WO P T n l (putF d (.s (.string .empty)) F) h K) : WO P T n (⟨d, none, .e (.ustr e x y)⟩ :: l) F h K := by
  refine WO.op (fun ho => ⟨0, fun j _ => ?_⟩) k
  simp only [opds, opdsE, List.all_cons, List.all_nil, Bool.and_true, Bool.and_eq_true] at ho
  rw [opV_e]
  simp only [eV, evO_fr ho.1, evO_fr ho.2, hx, hy]
theorem bytesA_I : ∀ L : List Int, bytesA (L.flatMap (encI .u8).cells) = some L
  | [] => rfl
  | x :: L => by
    have := bytesA_I L
    rw [List.flatMap_cons]
    show (bytesA (L.flatMap (encI .u8).cells)).map (x :: ·) = _
    rw [this]; rfl
/-- A row's bytes as a text: the block is nobody's from then on. -/
theorem WO.ustrS {e : TypeId} {b v o : Nat} {L : List Int} (hx : evF F x = .pt b v o) (hy : evF F y = .s (.int .i64 L.length)) (r : Own (encI .u8) e h (.sl b v o L.length 1) L) (h0 : L ≠ []) (h63 : L.length ≤ 9223372036854775807)
    (k : ∀ H, Upd h H b → WO P T n l (putF d (.s (.string (strOfNums L))) F) H K) : WO P T n (⟨d, none, .e (.ustr e x y)⟩ :: l) F h K := by
  rcases r with ⟨r, _⟩ | ⟨b', v', o', q, r1, r2, r3, r4, r5, r6, r7, r8⟩
  · cases r
  · cases r1
    have hq : h[b]? = some q := by rw [← r2]; rfl
    have hlt : b < h.length := (List.getElem?_eq_some_iff.1 hq).1
    have hp : 0 < L.length := List.length_pos_iff.2 h0
    refine WO.op (fun ho => ⟨0, fun j _ => ?_⟩) (k (h.set b { q with ver := q.ver + 1, rw := false, cells := [] }) ⟨fun c hc => ?_, by simp⟩)
    · simp only [opds, opdsE, List.all_cons, List.all_nil, Bool.and_true, Bool.and_eq_true] at ho
      rw [opV_e]
      simp only [encI, Nat.mul_one] at r4 r5
      have hr : rdn h b v o L.length = some (L.flatMap (encI .u8).cells) := by
        unfold rdn
        rw [hq]
        simp only
        rw [if_pos ⟨r3, r4⟩]
        exact congrArg some r5
      have hb2 : ((rdn h b v o L.length).bind bytesA) = some L := by rw [hr]; exact bytesA_I L
      simp only [eV, evO_fr ho.1, evO_fr ho.2, hx, hy, Int.toNat_natCast, hq, hb2]
      rw [if_pos ⟨by omega, by omega, r6, r7⟩]
    · show bk _ c = bk h c
      unfold bk
      rw [List.getElem?_set_ne (fun e => hc e.symm)]
end
end Go.Proofs.YtffjdidakeinjaaDoor.AS
end
section
set_option autoImplicit false
set_option linter.unusedSimpArgs false
namespace Go.Proofs.YtffjdidakeinjaaDoor.AS
open Go Go.RowKit Go.Proofs.YtffjdidakeinjaaDoor.AS.V
/-- An object of one's own, its type known. -/
structure ObjT (h : Heap) (b e : Nat) (C : List AV) : Prop where
  mk ::
  x : ∃ k, bk h b = some k ∧ k.ver = 0 ∧ k.rw = true ∧ k.e = e ∧ k.cells = C
section
variable {P : Program} {T : Nat → CallF} {n : Nat} {F : Fr} {h H h0 : Heap} {K : Fr → Heap → Prop} {l : List AOper} {d : Option Nat} {x y : Operand} {b e : Nat} {C : List AV} {a a' : AV}
theorem ObjT.o (r : ObjT h b e C) : Obj h b C := by obtain ⟨k, h1, h2, h3, _, h4⟩ := r.x; exact ⟨k, h1, h2, h3, h4⟩
theorem ObjT.lt (r : ObjT h b e C) : b < h.length := r.o.lt
theorem ObjT.grows (r : ObjT h b e C) (g : Grows h H) : ObjT H b e C := by obtain ⟨k, h1, r⟩ := r.x; exact ⟨⟨k, (g.bk (bk_lt h1)).trans h1, r⟩⟩
theorem ObjT.upd {c : Nat} (r : ObjT h b e C) (u : Upd h H c) (hn : b ≠ c) : ObjT H b e C := by obtain ⟨k, h1, r⟩ := r.x; exact ⟨⟨k, (u.keep b hn).trans h1, r⟩⟩
theorem ObjT.ap (r : ObjT h b e C) (u : ApF h H a a') (hn : bo a ≠ some b) : ObjT H b e C := by obtain ⟨k, h1, r⟩ := r.x; exact ⟨⟨k, (u.keep b (bk_lt h1) hn).trans h1, r⟩⟩
theorem WO.newT {sz : Nat} {cs : List Value} (k : ∀ b H, h.length ≤ b → Grows h H → ObjT H b e (cs.map .s) → WO P T n l (putF d (.pt b 0 0) F) H K) : WO P T n (⟨d, none, .e (.new e sz cs)⟩ :: l) F h K := by
  refine WO.op (fun ho => ⟨0, fun j _ => ?_⟩) (k h.length (h ++ [⟨0, e, sz, true, cs.map .s⟩]) (Nat.le_refl _) (Grows.app _ _) ⟨⟨_, bk_new, rfl, rfl, rfl, rfl⟩⟩)
  rw [opV_e, eV_new]
theorem WO.boxT {sz : Nat} {C : List AV} (hl : cellsOf (evF F x) = some C) (k : ∀ b H, h.length ≤ b → Grows h H → ObjT H b e C → WO P T n l (putF d (.pt b 0 0) F) H K) : WO P T n (⟨d, none, .e (.box e sz x)⟩ :: l) F h K := by
  refine WO.op (fun ho => ⟨0, fun j _ => ?_⟩) (k h.length (h ++ [⟨0, e, sz, true, C⟩]) (Nat.le_refl _) (Grows.app _ _) ⟨⟨_, bk_new, rfl, rfl, rfl, rfl⟩⟩)
  simp only [opds, opdsE, List.all_cons, List.all_nil, Bool.and_true] at ho
  rw [opV_e, eV_box, evO_fr ho, boV_s, hl, boW_s]
theorem WO.storeT {C C' lv : List AV} {m b o e : Nat} (hx : evF F x = .pt b 0 o) (r : ObjT h b e C) (hl : cellsOf (evF F y) = some lv) (hn : Nat.beq lv.length m = true) (hc : lv.all isCell = true) (hm : Nat.ble (o + m) C.length = true) (hC : C.take o ++ lv ++ C.drop (o + m) = C')
    (k : ∀ H, ObjT H b e C' → Upd h H b → WO P T n l (putF d (.s undef) F) H K) : WO P T n (⟨d, none, .e (.store m x y)⟩ :: l) F h K := by
  obtain ⟨k', h2, h3, h4, h5, rfl⟩ := r.x
  have hn := Nat.eq_of_beq_eq_true hn
  have hm := Nat.le_of_ble_eq_true hm
  have hlt := bk_lt h2
  obtain ⟨v', e', s', rw', c'⟩ := k'
  simp only at h3 h4 h5 hm hC
  subst h3 h4 h5 hn hC
  refine WO.op (fun ho => ⟨0, fun j _ => ?_⟩) (k (h.set b ⟨0, e', s', true, c'.take o ++ lv ++ c'.drop (o + lv.length)⟩) ⟨⟨⟨0, e', s', true, c'.take o ++ lv ++ c'.drop (o + lv.length)⟩, bk_set_same hlt, rfl, rfl, rfl, rfl⟩⟩ ⟨fun c hc => bk_set_ne (fun e => hc e.symm), by simp⟩)
  simp only [opds, opdsE, List.all_cons, List.all_nil, Bool.and_true, Bool.and_eq_true] at ho
  rw [opV_e, eV_store, evO_fr ho.1, evO_fr ho.2, hx, stV_p, hl, stW_s, if_pos ⟨rfl, hc⟩, h2, wrK_s, if_pos ⟨rfl, rfl, Nat.le_of_ble_eq_true hm⟩]
  rfl
end
end Go.Proofs.YtffjdidakeinjaaDoor.AS
end
section
set_option autoImplicit false
set_option maxRecDepth 100000
set_option maxHeartbeats 4000000
set_option linter.unusedSimpArgs false
set_option linter.unusedVariables false
namespace Go.Proofs.YtffjdidakeinjaaDoor.AS
open Go Go.Proofs Go.RowKit Go.Proofs.YtffjdidakeinjaaDoor.AS.V

/-- A strings.Builder at the head of an object. -/
structure Bld (h0 h : Heap) (b e : Nat) (xs : List AV) (L : List Int) : Prop where
  mk ::
  x : ∃ ad buf, ObjT h b e (ad :: buf :: xs) ∧ (ad = .s (.pointer none) ∨ ad = .pt b 0 0) ∧ Out (encI .u8) 5 h0 h buf L ∧ bo buf ≠ some b ∧ (L = [] → buf = .s (.slice none 0 0))
  n : h0.length ≤ b
  e : e = 48 ∧ xs.length = 0 ∨ e = 66 ∧ xs.length = 1
theorem Bld.lies {h0 h : Heap} {b e : Nat} {xs : List AV} {L : List Int} (B : Bld h0 h b e xs L) (n : Nat) (hn : n = xs.length + 2) : lies48 e n 0 = true := by
  rcases B.e with ⟨rfl, h⟩ | ⟨rfl, h⟩
  · rw [hn, h]; kernel_rfl
  · rw [hn, h]; kernel_rfl
theorem copy_FR {h : Heap} {b e : Nat} {ad : AV} {C : List AV} (o : ObjT h b e (ad :: C)) (hl : lies48 e (C.length + 1) 0 = true) (ha : ad = .s (.pointer none) ∨ ad = .pt b 0 0) :
    FR Tryd.prog TT 44 [.pt b 0 0] h fun x H => x = .tp [] ∧ ObjT H b e (.pt b 0 0 :: C) ∧ Upd h H b := by
  obtain ⟨k, h1, h2, h3, h4, h5⟩ := o.x
  obtain ⟨v', e', s', rw', c'⟩ := k
  simp only at h2 h3 h4 h5
  subst h2 h3 h4 h5
  have hb : h[b]? = some ⟨0, e', s', true, ad :: C⟩ := by rw [← h1]; rfl
  have hlt := bk_lt h1
  rcases ha with rfl | rfl
  · refine FR.run (a := .tp []) (H := h.set b ⟨0, e', s', true, .pt b 0 0 :: C⟩) (FRun.hook T4_44 ?_) ⟨rfl, ⟨⟨_, bk_set_same hlt, rfl, rfl, rfl, rfl⟩⟩, ⟨fun c hc => bk_set_ne (fun e => hc e.symm), by simp⟩⟩
    simp only [hkCopy, hb, List.getElem?_cons_zero, List.length_cons]
    rw [if_pos ⟨trivial, trivial, hl⟩]
    simp [wrn, hb]
  · refine FR.run (a := .tp []) (H := h) (FRun.hook T4_44 ?_) ⟨rfl, o, ⟨fun c _ => rfl, rfl⟩⟩
    simp only [hkCopy, hb, List.getElem?_cons_zero]
    rw [if_pos ⟨trivial, trivial, trivial⟩]
theorem wb_FR {h0 h : Heap} {b e : Nat} {xs : List AV} {L : List Int} (c : Int) (B : Bld h0 h b e xs L) (hl : L.length ≤ 140737488355327) :
    FR Tryd.prog TT 27 [.pt b 0 0, .s (.int .u8 c)] h fun x H => x = .s .nilIface ∧ Bld h0 H b e xs (L ++ [c]) := by
  obtain ⟨ad, buf, ot, ha, out, hbo, hne⟩ := B.x
  have hlt := ot.lt
  have hc := copy_FR ot (B.lies _ (by simp)) ha
  have hn := B.n
  refine FR.of q27 (by kernel_rfl) ?_
  unfold c27
  repeat' (first
    | (refine WO.mvE buf rfl ?_)
    | (refine WO.call rfl hc ?_; rintro _ H1 ⟨rfl, ot1, u1⟩; have ob1 := ot1.o; have out1 : Out (encI .u8) 5 h0 H1 buf L := ⟨u1.grows out.g hn, out.o.upd u1 hbo, out.nw⟩)
    | (refine WO.bslI rfl rfl (fun a1 H2 g1 o1 nw1 => ?_))
    | (refine WO.appO (out1.grows g1) o1.row rfl (encI_ok _ _) (by simp; omega) (by simp; omega) (fun a2 H3 out3 ap => ?_))
    | (refine WO.storeT rfl ((ot1.grows g1).ap ap hbo) out3.row.cellsOf rfl out3.row.isC rfl rfl (fun H4 ot4 u4 => ?_))
    | (refine LQ.fin ?_)
    | (refine EQ.fin rfl ?_)
    | (refine WO.mvs rfl ?_)
    | (refine WO.mvp rfl ?_)
    | (refine WO.mvt rfl ?_)
    | (refine WO.mv ?_)
    | (refine W.sreg ?_)
    | (refine W.sdraw ?_)
    | (refine W.reg ?_)
    | (refine W.draw ?_)
    | (refine WO.nil ?_)
    | (refine WO.gU rfl ?_)
    | (refine WO.gT rfl rfl ?_)
    | (refine WO.gF rfl rfl ?_)
    | (refine WO.ext rfl rfl ?_)
    | (refine WO.lenR (by assumption) ?_)
    | (refine WO.add rfl rfl (by first | exact wrOK (by simp only [loK, hiK]; omega) | rfl) ?_)
    | (refine WO.sub rfl rfl (by first | exact wrOK (by simp only [loK, hiK]; omega) | rfl) ?_)
    | (refine WO.lss rfl rfl ?_)
    | (refine WO.leq rfl rfl ?_)
    | (refine WO.gtr rfl rfl ?_)
    | (refine WO.geq rfl rfl ?_)
    | (refine WO.eql rfl rfl ?_)
    | (refine WO.neq rfl rfl ?_)
    | (refine WO.seql rfl rfl ?_)
    | (refine WO.sneq rfl rfl ?_)
    | (refine WO.beql rfl rfl (tb rfl) ?_)
    | (refine WO.bneq rfl rfl (tb rfl) ?_)
    | (refine WO.not rfl ?_)
    | (refine WO.not0 rfl ?_)
    | (refine WO.cvi rfl (kd rfl) (kd rfl) (by first | exact wrOK (by simp only [loK, hiK]; omega) | rfl) ?_)
    | (refine WO.cvs rfl (st rfl) (st rfl) ?_)
    | (refine WO.ix rfl rfl (st rfl) (by first | assumption | omega) (by first | assumption | omega) ?_)
    | (refine WO.slen rfl (st rfl) ?_)
    | (refine WO.iaddr (by assumption) rfl rfl (by first | assumption | omega) (by first | assumption | omega) (fun q hq => ?_))
    | (refine WO.load (by assumption) rfl rfl ?_)
    | (refine WO.loadO rfl (by assumption) rfl rfl ?_)
    | (refine WO.faddrP (by assumption) rfl (fun q hq => ?_))
    | (refine WO.nilckP (by assumption) ?_)
    | (refine WO.nilck rfl ?_)
    | (refine WO.faddr rfl ?_)
    | (refine WO.fld rfl rfl rfl ?_)
    | (refine WO.pickT rfl ?_)
    | (refine WO.pickF rfl ?_)
    | (refine WO.sll rfl rfl (st rfl) (by first | assumption | omega) (by first | assumption | omega) ?_)
    | (refine WO.slh rfl rfl (st rfl) (by first | assumption | omega) (by first | assumption | omega) ?_)
    | (refine WO.slb rfl rfl rfl (st rfl) (by first | assumption | omega) (by first | assumption | omega) (by first | assumption | omega) ?_)
    | (refine WO.mul rfl rfl (by first | exact wrOK (by simp only [loK, hiK]; omega) | rfl) ?_)
    | (refine WO.quo rfl rfl (by first | assumption | omega) (by first | exact wrOK (by simp only [loK, hiK]; omega) | rfl) ?_)
    | (refine WO.rem rfl rfl (by first | assumption | omega) ?_)
    | (refine WO.and rfl rfl ?_)
    | (refine WO.or rfl rfl ?_)
    | (refine WO.xor rfl rfl ?_)
    | (refine WO.shl rfl rfl (by first | assumption | omega) (by simp [IntKind.bits]; rfl) ?_)
    | (refine WO.shr rfl rfl (by first | assumption | omega) (by simp [IntKind.bits]; rfl) ?_)
    | (refine WO.build (C := [_]) rfl ?_)
    | (refine WO.build (C := [_, _]) rfl ?_)
    | (refine WO.build (C := [_, _, _]) rfl ?_)
    | (refine WO.build (C := [_, _, _, _]) rfl ?_)
    | (refine WO.build (C := [_, _, _, _, _]) rfl ?_)
    | (refine WO.build (C := [_, _, _, _, _, _]) rfl ?_)
    | (refine WO.build (C := [_, _, _, _, _, _, _]) rfl ?_)
    | (refine WO.eqnil (by assumption) (fun hn1 hn2 => ?_) ?_)
    | (refine W.condT rfl ?_)
    | (refine W.condF rfl ?_)
    | (refine W.condDT rfl (by first | assumption | omega) ?_)
    | (refine W.condDF rfl (by first | assumption | omega) ?_)
    | (refine W.condD rfl (fun hc => ?_) (fun hc => ?_))
    | (refine WO.gS rfl (fun hc => ?_) (fun hc => ?_) <;> try (exfalso; omega))
    | (refine WO.pickS rfl (fun hc => ?_) (fun hc => ?_) <;> try (exfalso; omega))
    | (refine W.skip ?_)
    | (refine W.block ?_)
    | (refine W.drawA rfl ?_)
    | (refine W.sdrawA rfl ?_)
    | (refine And.intro rfl ?_)
    | (refine W.exit ?_)
    | (refine W.ret ?_)
    | (refine W.seq ?_)
    | (refine W.goto ?_)
    | (refine W.label ?_)
    | (refine SQ.nn ?_)
    | (refine SQ.x ?_)
    | (refine SQ.r ?_)
    | (refine SQ.g ?_)
    | (refine BQ.nn ?_)
    | (refine BQ.x ?_)
    | (refine BQ.r ?_)
    | (refine BQ.g ?_)
    | (refine BQ.y rfl ?_)
    | (refine LQ.x ?_)
    | (refine LQ.r ?_)
    | (refine LQ.g ?_)
    | (refine GQ.nn ?_)
    | (refine GQ.x ?_)
    | (refine GQ.r ?_))
  · have hb2 : b < H2.length := by have := ot1.lt; have := g1.len; omega
    have hnb : bo a2 ≠ some b := ap.ne hb2 hbo
    exact ⟨rfl, ⟨⟨_, a2, ot4, .inr rfl, ⟨u4.grows out3.g hn, out3.o.upd u4 hnb, out3.nw⟩, hnb, fun h => absurd h (by simp)⟩, hn, B.e⟩⟩
theorem str_FR {h0 h : Heap} {b e : Nat} {xs : List AV} {L : List Int} (B : Bld h0 h b e xs L) (hl : L.length ≤ 140737488355328) :
    FR Tryd.prog TT 29 [.pt b 0 0] h fun x H => x = .s (.string (strOfNums L)) ∧ Grows h0 H := by
  obtain ⟨ad, buf, ot, ha, out, hbo, hne⟩ := B.x
  have ob := ot.o
  refine FR.of q29 (by kernel_rfl) ?_
  unfold c29
  by_cases h1 : L = []
  · have h2 := hne h1
    subst h1 h2
    repeat' (first
      | (refine WO.mvE (.s (.slice none 0 0)) rfl ?_)
      | (refine WO.lenN rfl ?_)
      | (refine WO.sdN (z := 0) rfl ?_)
      | (refine WO.ustrN rfl rfl ?_)
      | (refine EQ.fin rfl ?_)
      | (refine WO.mvs rfl ?_)
      | (refine WO.mvp rfl ?_)
      | (refine WO.mvt rfl ?_)
      | (refine WO.mv ?_)
      | (refine W.sreg ?_)
      | (refine W.sdraw ?_)
      | (refine W.reg ?_)
      | (refine W.draw ?_)
      | (refine WO.nil ?_)
      | (refine WO.gU rfl ?_)
      | (refine WO.gT rfl rfl ?_)
      | (refine WO.gF rfl rfl ?_)
      | (refine WO.ext rfl rfl ?_)
      | (refine WO.lenR (by assumption) ?_)
      | (refine WO.add rfl rfl (by first | exact wrOK (by simp only [loK, hiK]; omega) | rfl) ?_)
      | (refine WO.sub rfl rfl (by first | exact wrOK (by simp only [loK, hiK]; omega) | rfl) ?_)
      | (refine WO.lss rfl rfl ?_)
      | (refine WO.leq rfl rfl ?_)
      | (refine WO.gtr rfl rfl ?_)
      | (refine WO.geq rfl rfl ?_)
      | (refine WO.eql rfl rfl ?_)
      | (refine WO.neq rfl rfl ?_)
      | (refine WO.seql rfl rfl ?_)
      | (refine WO.sneq rfl rfl ?_)
      | (refine WO.beql rfl rfl (tb rfl) ?_)
      | (refine WO.bneq rfl rfl (tb rfl) ?_)
      | (refine WO.not rfl ?_)
      | (refine WO.not0 rfl ?_)
      | (refine WO.cvi rfl (kd rfl) (kd rfl) (by first | exact wrOK (by simp only [loK, hiK]; omega) | rfl) ?_)
      | (refine WO.cvs rfl (st rfl) (st rfl) ?_)
      | (refine WO.ix rfl rfl (st rfl) (by first | assumption | omega) (by first | assumption | omega) ?_)
      | (refine WO.slen rfl (st rfl) ?_)
      | (refine WO.iaddr (by assumption) rfl rfl (by first | assumption | omega) (by first | assumption | omega) (fun q hq => ?_))
      | (refine WO.load (by assumption) rfl rfl ?_)
      | (refine WO.loadO rfl (by assumption) rfl rfl ?_)
      | (refine WO.faddrP (by assumption) rfl (fun q hq => ?_))
      | (refine WO.nilckP (by assumption) ?_)
      | (refine WO.nilck rfl ?_)
      | (refine WO.faddr rfl ?_)
      | (refine WO.fld rfl rfl rfl ?_)
      | (refine WO.pickT rfl ?_)
      | (refine WO.pickF rfl ?_)
      | (refine WO.sll rfl rfl (st rfl) (by first | assumption | omega) (by first | assumption | omega) ?_)
      | (refine WO.slh rfl rfl (st rfl) (by first | assumption | omega) (by first | assumption | omega) ?_)
      | (refine WO.slb rfl rfl rfl (st rfl) (by first | assumption | omega) (by first | assumption | omega) (by first | assumption | omega) ?_)
      | (refine WO.mul rfl rfl (by first | exact wrOK (by simp only [loK, hiK]; omega) | rfl) ?_)
      | (refine WO.quo rfl rfl (by first | assumption | omega) (by first | exact wrOK (by simp only [loK, hiK]; omega) | rfl) ?_)
      | (refine WO.rem rfl rfl (by first | assumption | omega) ?_)
      | (refine WO.and rfl rfl ?_)
      | (refine WO.or rfl rfl ?_)
      | (refine WO.xor rfl rfl ?_)
      | (refine WO.shl rfl rfl (by first | assumption | omega) (by simp [IntKind.bits]; rfl) ?_)
      | (refine WO.shr rfl rfl (by first | assumption | omega) (by simp [IntKind.bits]; rfl) ?_)
      | (refine WO.build (C := [_]) rfl ?_)
      | (refine WO.build (C := [_, _]) rfl ?_)
      | (refine WO.build (C := [_, _, _]) rfl ?_)
      | (refine WO.build (C := [_, _, _, _]) rfl ?_)
      | (refine WO.build (C := [_, _, _, _, _]) rfl ?_)
      | (refine WO.build (C := [_, _, _, _, _, _]) rfl ?_)
      | (refine WO.build (C := [_, _, _, _, _, _, _]) rfl ?_)
      | (refine WO.eqnil (by assumption) (fun hn1 hn2 => ?_) ?_)
      | (refine W.condT rfl ?_)
      | (refine W.condF rfl ?_)
      | (refine W.condDT rfl (by first | assumption | omega) ?_)
      | (refine W.condDF rfl (by first | assumption | omega) ?_)
      | (refine W.condD rfl (fun hc => ?_) (fun hc => ?_))
      | (refine WO.gS rfl (fun hc => ?_) (fun hc => ?_) <;> try (exfalso; omega))
      | (refine WO.pickS rfl (fun hc => ?_) (fun hc => ?_) <;> try (exfalso; omega))
      | (refine W.skip ?_)
      | (refine W.block ?_)
      | (refine W.drawA rfl ?_)
      | (refine W.sdrawA rfl ?_)
      | (refine And.intro rfl ?_)
      | (refine W.exit ?_)
      | (refine W.ret ?_)
      | (refine W.seq ?_)
      | (refine W.goto ?_)
      | (refine W.label ?_)
      | (refine SQ.nn ?_)
      | (refine SQ.x ?_)
      | (refine SQ.r ?_)
      | (refine SQ.g ?_)
      | (refine BQ.nn ?_)
      | (refine BQ.x ?_)
      | (refine BQ.r ?_)
      | (refine BQ.g ?_)
      | (refine BQ.y rfl ?_)
      | (refine LQ.x ?_)
      | (refine LQ.r ?_)
      | (refine LQ.g ?_)
      | (refine GQ.nn ?_)
      | (refine GQ.x ?_)
      | (refine GQ.r ?_))
    · exact ⟨rfl, out.g⟩
  · have out' := out.o
    obtain ⟨bb, v, o, rfl⟩ : ∃ bb v o, buf = .sl bb v o L.length 1 := by
      rcases out' with ⟨_, h2⟩ | ⟨bb, v, o, k, h2, _⟩
      · exact absurd h2 h1
      · exact ⟨bb, v, o, h2⟩
    have hp : 0 < L.length := List.length_pos_iff.2 h1
    repeat' (first
      | (refine WO.mvE (.sl bb v o L.length 1) rfl ?_)
      | (refine WO.lenR out.row ?_)
      | (refine WO.sdS rfl hp ?_)
      | (refine WO.ustrS rfl rfl out' h1 (by omega) (fun H2 u2 => ?_))
      | (refine EQ.fin rfl ?_)
      | (refine WO.mvs rfl ?_)
      | (refine WO.mvp rfl ?_)
      | (refine WO.mvt rfl ?_)
      | (refine WO.mv ?_)
      | (refine W.sreg ?_)
      | (refine W.sdraw ?_)
      | (refine W.reg ?_)
      | (refine W.draw ?_)
      | (refine WO.nil ?_)
      | (refine WO.gU rfl ?_)
      | (refine WO.gT rfl rfl ?_)
      | (refine WO.gF rfl rfl ?_)
      | (refine WO.ext rfl rfl ?_)
      | (refine WO.lenR (by assumption) ?_)
      | (refine WO.add rfl rfl (by first | exact wrOK (by simp only [loK, hiK]; omega) | rfl) ?_)
      | (refine WO.sub rfl rfl (by first | exact wrOK (by simp only [loK, hiK]; omega) | rfl) ?_)
      | (refine WO.lss rfl rfl ?_)
      | (refine WO.leq rfl rfl ?_)
      | (refine WO.gtr rfl rfl ?_)
      | (refine WO.geq rfl rfl ?_)
      | (refine WO.eql rfl rfl ?_)
      | (refine WO.neq rfl rfl ?_)
      | (refine WO.seql rfl rfl ?_)
      | (refine WO.sneq rfl rfl ?_)
      | (refine WO.beql rfl rfl (tb rfl) ?_)
      | (refine WO.bneq rfl rfl (tb rfl) ?_)
      | (refine WO.not rfl ?_)
      | (refine WO.not0 rfl ?_)
      | (refine WO.cvi rfl (kd rfl) (kd rfl) (by first | exact wrOK (by simp only [loK, hiK]; omega) | rfl) ?_)
      | (refine WO.cvs rfl (st rfl) (st rfl) ?_)
      | (refine WO.ix rfl rfl (st rfl) (by first | assumption | omega) (by first | assumption | omega) ?_)
      | (refine WO.slen rfl (st rfl) ?_)
      | (refine WO.iaddr (by assumption) rfl rfl (by first | assumption | omega) (by first | assumption | omega) (fun q hq => ?_))
      | (refine WO.load (by assumption) rfl rfl ?_)
      | (refine WO.loadO rfl (by assumption) rfl rfl ?_)
      | (refine WO.faddrP (by assumption) rfl (fun q hq => ?_))
      | (refine WO.nilckP (by assumption) ?_)
      | (refine WO.nilck rfl ?_)
      | (refine WO.faddr rfl ?_)
      | (refine WO.fld rfl rfl rfl ?_)
      | (refine WO.pickT rfl ?_)
      | (refine WO.pickF rfl ?_)
      | (refine WO.sll rfl rfl (st rfl) (by first | assumption | omega) (by first | assumption | omega) ?_)
      | (refine WO.slh rfl rfl (st rfl) (by first | assumption | omega) (by first | assumption | omega) ?_)
      | (refine WO.slb rfl rfl rfl (st rfl) (by first | assumption | omega) (by first | assumption | omega) (by first | assumption | omega) ?_)
      | (refine WO.mul rfl rfl (by first | exact wrOK (by simp only [loK, hiK]; omega) | rfl) ?_)
      | (refine WO.quo rfl rfl (by first | assumption | omega) (by first | exact wrOK (by simp only [loK, hiK]; omega) | rfl) ?_)
      | (refine WO.rem rfl rfl (by first | assumption | omega) ?_)
      | (refine WO.and rfl rfl ?_)
      | (refine WO.or rfl rfl ?_)
      | (refine WO.xor rfl rfl ?_)
      | (refine WO.shl rfl rfl (by first | assumption | omega) (by simp [IntKind.bits]; rfl) ?_)
      | (refine WO.shr rfl rfl (by first | assumption | omega) (by simp [IntKind.bits]; rfl) ?_)
      | (refine WO.build (C := [_]) rfl ?_)
      | (refine WO.build (C := [_, _]) rfl ?_)
      | (refine WO.build (C := [_, _, _]) rfl ?_)
      | (refine WO.build (C := [_, _, _, _]) rfl ?_)
      | (refine WO.build (C := [_, _, _, _, _]) rfl ?_)
      | (refine WO.build (C := [_, _, _, _, _, _]) rfl ?_)
      | (refine WO.build (C := [_, _, _, _, _, _, _]) rfl ?_)
      | (refine WO.eqnil (by assumption) (fun hn1 hn2 => ?_) ?_)
      | (refine W.condT rfl ?_)
      | (refine W.condF rfl ?_)
      | (refine W.condDT rfl (by first | assumption | omega) ?_)
      | (refine W.condDF rfl (by first | assumption | omega) ?_)
      | (refine W.condD rfl (fun hc => ?_) (fun hc => ?_))
      | (refine WO.gS rfl (fun hc => ?_) (fun hc => ?_) <;> try (exfalso; omega))
      | (refine WO.pickS rfl (fun hc => ?_) (fun hc => ?_) <;> try (exfalso; omega))
      | (refine W.skip ?_)
      | (refine W.block ?_)
      | (refine W.drawA rfl ?_)
      | (refine W.sdrawA rfl ?_)
      | (refine And.intro rfl ?_)
      | (refine W.exit ?_)
      | (refine W.ret ?_)
      | (refine W.seq ?_)
      | (refine W.goto ?_)
      | (refine W.label ?_)
      | (refine SQ.nn ?_)
      | (refine SQ.x ?_)
      | (refine SQ.r ?_)
      | (refine SQ.g ?_)
      | (refine BQ.nn ?_)
      | (refine BQ.x ?_)
      | (refine BQ.r ?_)
      | (refine BQ.g ?_)
      | (refine BQ.y rfl ?_)
      | (refine LQ.x ?_)
      | (refine LQ.r ?_)
      | (refine LQ.g ?_)
      | (refine GQ.nn ?_)
      | (refine GQ.x ?_)
      | (refine GQ.r ?_))
    · exact ⟨rfl, u2.grows out.g (out.nw bb rfl)⟩
theorem len_FR {h0 h : Heap} {b e : Nat} {xs : List AV} {L : List Int} (B : Bld h0 h b e xs L) :
    FR Tryd.prog TT 28 [.pt b 0 0] h fun x H => x = .s (.int .i64 L.length) ∧ H = h := by
  obtain ⟨ad, buf, ot, ha, out, hbo, hne⟩ := B.x
  have ob := ot.o
  have rb := out.row
  refine FR.of q28 (by kernel_rfl) ?_
  unfold c28
  repeat' (first
    | (refine WO.mvE buf rfl ?_)
    | (refine LQ.fin ?_)
    | (refine EQ.fin rfl ?_)
    | (refine WO.mvs rfl ?_)
    | (refine WO.mvp rfl ?_)
    | (refine WO.mvt rfl ?_)
    | (refine WO.mv ?_)
    | (refine W.sreg ?_)
    | (refine W.sdraw ?_)
    | (refine W.reg ?_)
    | (refine W.draw ?_)
    | (refine WO.nil ?_)
    | (refine WO.gU rfl ?_)
    | (refine WO.gT rfl rfl ?_)
    | (refine WO.gF rfl rfl ?_)
    | (refine WO.ext rfl rfl ?_)
    | (refine WO.lenR (by assumption) ?_)
    | (refine WO.add rfl rfl (by first | exact wrOK (by simp only [loK, hiK]; omega) | rfl) ?_)
    | (refine WO.sub rfl rfl (by first | exact wrOK (by simp only [loK, hiK]; omega) | rfl) ?_)
    | (refine WO.lss rfl rfl ?_)
    | (refine WO.leq rfl rfl ?_)
    | (refine WO.gtr rfl rfl ?_)
    | (refine WO.geq rfl rfl ?_)
    | (refine WO.eql rfl rfl ?_)
    | (refine WO.neq rfl rfl ?_)
    | (refine WO.seql rfl rfl ?_)
    | (refine WO.sneq rfl rfl ?_)
    | (refine WO.beql rfl rfl (tb rfl) ?_)
    | (refine WO.bneq rfl rfl (tb rfl) ?_)
    | (refine WO.not rfl ?_)
    | (refine WO.not0 rfl ?_)
    | (refine WO.cvi rfl (kd rfl) (kd rfl) (by first | exact wrOK (by simp only [loK, hiK]; omega) | rfl) ?_)
    | (refine WO.cvs rfl (st rfl) (st rfl) ?_)
    | (refine WO.ix rfl rfl (st rfl) (by first | assumption | omega) (by first | assumption | omega) ?_)
    | (refine WO.slen rfl (st rfl) ?_)
    | (refine WO.iaddr (by assumption) rfl rfl (by first | assumption | omega) (by first | assumption | omega) (fun q hq => ?_))
    | (refine WO.load (by assumption) rfl rfl ?_)
    | (refine WO.loadO rfl (by assumption) rfl rfl ?_)
    | (refine WO.faddrP (by assumption) rfl (fun q hq => ?_))
    | (refine WO.nilckP (by assumption) ?_)
    | (refine WO.nilck rfl ?_)
    | (refine WO.faddr rfl ?_)
    | (refine WO.fld rfl rfl rfl ?_)
    | (refine WO.pickT rfl ?_)
    | (refine WO.pickF rfl ?_)
    | (refine WO.sll rfl rfl (st rfl) (by first | assumption | omega) (by first | assumption | omega) ?_)
    | (refine WO.slh rfl rfl (st rfl) (by first | assumption | omega) (by first | assumption | omega) ?_)
    | (refine WO.slb rfl rfl rfl (st rfl) (by first | assumption | omega) (by first | assumption | omega) (by first | assumption | omega) ?_)
    | (refine WO.mul rfl rfl (by first | exact wrOK (by simp only [loK, hiK]; omega) | rfl) ?_)
    | (refine WO.quo rfl rfl (by first | assumption | omega) (by first | exact wrOK (by simp only [loK, hiK]; omega) | rfl) ?_)
    | (refine WO.rem rfl rfl (by first | assumption | omega) ?_)
    | (refine WO.and rfl rfl ?_)
    | (refine WO.or rfl rfl ?_)
    | (refine WO.xor rfl rfl ?_)
    | (refine WO.shl rfl rfl (by first | assumption | omega) (by simp [IntKind.bits]; rfl) ?_)
    | (refine WO.shr rfl rfl (by first | assumption | omega) (by simp [IntKind.bits]; rfl) ?_)
    | (refine WO.build (C := [_]) rfl ?_)
    | (refine WO.build (C := [_, _]) rfl ?_)
    | (refine WO.build (C := [_, _, _]) rfl ?_)
    | (refine WO.build (C := [_, _, _, _]) rfl ?_)
    | (refine WO.build (C := [_, _, _, _, _]) rfl ?_)
    | (refine WO.build (C := [_, _, _, _, _, _]) rfl ?_)
    | (refine WO.build (C := [_, _, _, _, _, _, _]) rfl ?_)
    | (refine WO.eqnil (by assumption) (fun hn1 hn2 => ?_) ?_)
    | (refine W.condT rfl ?_)
    | (refine W.condF rfl ?_)
    | (refine W.condDT rfl (by first | assumption | omega) ?_)
    | (refine W.condDF rfl (by first | assumption | omega) ?_)
    | (refine W.condD rfl (fun hc => ?_) (fun hc => ?_))
    | (refine WO.gS rfl (fun hc => ?_) (fun hc => ?_) <;> try (exfalso; omega))
    | (refine WO.pickS rfl (fun hc => ?_) (fun hc => ?_) <;> try (exfalso; omega))
    | (refine W.skip ?_)
    | (refine W.block ?_)
    | (refine W.drawA rfl ?_)
    | (refine W.sdrawA rfl ?_)
    | (refine And.intro rfl ?_)
    | (refine W.exit ?_)
    | (refine W.ret ?_)
    | (refine W.seq ?_)
    | (refine W.goto ?_)
    | (refine W.label ?_)
    | (refine SQ.nn ?_)
    | (refine SQ.x ?_)
    | (refine SQ.r ?_)
    | (refine SQ.g ?_)
    | (refine BQ.nn ?_)
    | (refine BQ.x ?_)
    | (refine BQ.r ?_)
    | (refine BQ.g ?_)
    | (refine BQ.y rfl ?_)
    | (refine LQ.x ?_)
    | (refine LQ.r ?_)
    | (refine LQ.g ?_)
    | (refine GQ.nn ?_)
    | (refine GQ.x ?_)
    | (refine GQ.r ?_))
  exact ⟨rfl, rfl⟩
end Go.Proofs.YtffjdidakeinjaaDoor.AS
end
section
set_option autoImplicit false
set_option linter.unusedSimpArgs false
namespace Go.Proofs.YtffjdidakeinjaaDoor.AS
open Go Go.RowKit Go.Proofs.YtffjdidakeinjaaDoor.AS.V
section
variable {P : Program} {T : Nat → CallF} {n : Nat} {F : Fr} {h H h0 : Heap} {K : Fr → Heap → Prop} {l : List AOper} {d : Option Nat} {x y : Operand}
/-- A text as an object of bytes. -/
theorem WO.s2bO {e : TypeId} {s : ByteArray} (hx : evF F x = .s (.string s)) (hs : s.size ≤ 140737488355328) (k : ∀ b H, h.length ≤ b → Grows h H → Obj H b ((bytesOf s).map fun m => .s (.int .u8 m)) → WO P T n l (putF d (.sl b 0 0 (bytesOf s).length 1) F) H K) : WO P T n (⟨d, none, .e (.s2b e x)⟩ :: l) F h K := by
  have hlen : (bytesOf s).length = s.size := bytesOf_length s
  have hcells : (s.data.toList.map fun b => AV.s (.int .u8 b.toNat)) = (bytesOf s).map fun m => .s (.int .u8 m) := by
    unfold bytesOf
    rw [List.map_map]; rfl
  refine WO.op (fun ho => ⟨0, fun j _ => ?_⟩) (k h.length (h ++ [⟨0, e, 1, true, s.data.toList.map fun b => .s (.int .u8 b.toNat)⟩]) (Nat.le_refl _) (Grows.app _ _) ⟨_, bk_new, rfl, rfl, hcells⟩)
  simp only [opds, opdsE, List.all_cons, List.all_nil, Bool.and_true] at ho
  rw [opV_e]
  simp only [eV, evO_fr ho, hx]
  rw [if_pos hs, hlen]
/-- A place in a slice whose block is known. -/
theorem WO.iaddrO {sz b v o m z : Nat} {j : IntKind} {i : Int} (hx : evF F x = .sl b v o m z) (hy : evF F y = .s (.int j i)) (h0 : 0 ≤ i) (h1 : i < m) (k : WO P T n l (putF d (.pt b v (o + i.toNat * sz)) F) h K) : WO P T n (⟨d, none, .p (.iaddr sz x y)⟩ :: l) F h K :=
  WO.pv (fun ho => by
    simp only [opds, opdsP, List.all_cons, List.all_nil, Bool.and_true, Bool.and_eq_true] at ho
    rw [pV_iaddr, evO_fr ho.1, evO_fr ho.2, hx, hy, iaV_s, if_pos ⟨h0, h1⟩]) k
theorem WO.lenO {b v o m z : Nat} (hx : evF F x = .sl b v o m z) (k : WO P T n l (putF d (.s (.int .i64 m)) F) h K) : WO P T n (⟨d, none, .p (.lenS x)⟩ :: l) F h K :=
  WO.pv (fun ho => by
    simp only [opds, opdsP, List.all_cons, List.all_nil, Bool.and_true] at ho
    simp only [pV, evO_fr ho, hx]) k
theorem bytesA_M : ∀ L : List Int, bytesA (L.map fun m => .s (.int .u8 m)) = some L
  | [] => rfl
  | x :: L => by
    have := bytesA_M L
    rw [List.map_cons]
    show (bytesA (L.map fun m => .s (.int .u8 m))).map (x :: ·) = _
    rw [this]; rfl
/-- An object of bytes as a text. -/
theorem WO.b2sO {b : Nat} {L : List Int} (hx : evF F x = .sl b 0 0 L.length 1) (r : Obj h b (L.map fun m => .s (.int .u8 m))) (k : WO P T n l (putF d (.s (.string (strOfNums L))) F) h K) : WO P T n (⟨d, none, .r (.b2s x)⟩ :: l) F h K := by
  obtain ⟨q, h1, h2, h3, h4⟩ := r
  have hq : h[b]? = some q := by rw [← h1]; rfl
  refine WO.op (fun ho => ⟨0, fun j _ => ?_⟩) k
  simp only [opds, opdsR, List.all_cons, List.all_nil, Bool.and_true] at ho
  have hr : rdn h b 0 0 L.length = some (L.map fun m => .s (.int .u8 m)) := by
    unfold rdn
    rw [hq]
    simp only
    rw [h4, if_pos ⟨h2, by simp⟩, List.drop_zero, List.take_of_length_le (by simp)]
  rw [opV_r]
  simp only [rV, evO_fr ho, hx, hr, Option.bind_some, bytesA_M]
  rfl
theorem cells_at {L : List Int} {i : Nat} (h : i < L.length) : oneOr false (((L.map fun m => AV.s (.int .u8 m)).drop i).take 1) = some (.s (.int .u8 (nth L (i : Int)))) := by
  have hl : i < (L.map fun m => AV.s (.int .u8 m)).length := by simpa using h
  rw [List.drop_eq_getElem_cons hl, nth_eq (by simpa using h)]
  simp [oneOr]
end
end Go.Proofs.YtffjdidakeinjaaDoor.AS
end
section
set_option autoImplicit false
set_option linter.unusedSimpArgs false
namespace Go.Proofs.YtffjdidakeinjaaDoor.AS
open Go Go.RowKit Go.Proofs.YtffjdidakeinjaaDoor.AS.V
theorem wrap8 (n : Int) : IntKind.u8.wrap n = n % 256 := by simp [IntKind.wrap, IntKind.bits, IntKind.signed]
theorem wrap_u8 (n : Int) (h0 : 0 ≤ n) (h1 : n < 2 ^ 8) : IntKind.u8.wrap n = n := by rw [wrap8]; omega
theorem wrap_i32 (n : Int) (h0 : 0 ≤ n) (h1 : n < 2 ^ 31) : IntKind.i32.wrap n = n := wrOK (by simp only [loK, hiK]; omega)
theorem ApF.pre {h H1 H2 : Heap} {a a' : AV} (g : Grows h H1) (u : ApF H1 H2 a a') : ApF h H2 a a' :=
  ⟨fun c hc hn => (u.keep c (by have := g.len; omega) hn).trans (g c hc), by have := g.len; have := u.len; omega, fun c hc => (u.place c hc).imp (fun h => by have := g.len; omega) id⟩
section
variable {P : Program} {T : Nat → CallF} {n : Nat} {F : Fr} {h : Heap} {K : Fr → Heap → Prop} {l : List AOper} {d : Option Nat} {x y : Operand} {a b m : Int} {t yt ty : TypeId}
theorem WO.or8 (i : Nat) (hx : evF F x = .s (.int .u8 a)) (hy : evF F y = .s (.int .u8 b)) (h0 : 0 ≤ a) (h1 : a % 2 ^ i = 0) (h2 : a < 256) (h3 : 0 ≤ b) (h4 : b < 2 ^ i) (h5 : b < 256) (k : WO P T n l (putF d (.s (.int .u8 (a + b))) F) h K) : WO P T n (⟨d, none, .p (.sc (.binOp .or t x y yt) ty)⟩ :: l) F h K :=
  WO.or hx hy (by rw [bits_join .u8 8 (by decide) wrap_u8 i a b h0 h1 h2 h3 h4 h5]; exact k)
theorem WO.or32 (i : Nat) (hx : evF F x = .s (.int .i32 a)) (hy : evF F y = .s (.int .i32 b)) (h0 : 0 ≤ a) (h1 : a % 2 ^ i = 0) (h2 : a < 2147483648) (h3 : 0 ≤ b) (h4 : b < 2 ^ i) (h5 : b < 2147483648) (k : WO P T n l (putF d (.s (.int .i32 (a + b))) F) h K) : WO P T n (⟨d, none, .p (.sc (.binOp .or t x y yt) ty)⟩ :: l) F h K :=
  WO.or hx hy (by rw [bits_join .i32 31 (by decide) wrap_i32 i a b h0 h1 h2 h3 h4 h5]; exact k)
theorem WO.and8 (i : Nat) (hx : evF F x = .s (.int .u8 a)) (hy : evF F y = .s (.int .u8 m)) (hm : m = 2 ^ i - 1) (hi : i ≤ 8) (h0 : 0 ≤ a) (h1 : a < 256) (k : WO P T n l (putF d (.s (.int .u8 (a % 2 ^ i))) F) h K) : WO P T n (⟨d, none, .p (.sc (.binOp .and t x y yt) ty)⟩ :: l) F h K :=
  WO.and hx hy (by rw [hm, bits_mask .u8 8 (by decide) wrap_u8 i hi a h0 h1]; exact k)
end
end Go.Proofs.YtffjdidakeinjaaDoor.AS
end
section
set_option autoImplicit false
set_option linter.unusedSimpArgs false
namespace Go.Proofs.YtffjdidakeinjaaDoor.AS
open Go Go.RowKit Go.Proofs.YtffjdidakeinjaaDoor.AS.V
section
variable {P : Program} {T : Nat → CallF} {n : Nat} {F : Fr} {h H h0 : Heap} {K : Fr → Heap → Prop} {l : List AOper} {d : Option Nat} {x y : Operand} {e : TypeId}
/-- A row made: an object of numbers. -/
theorem WO.makeO {bytes : Nat} {kk j i : IntKind} {m c : Int} {v : Int} (hx : evF F x = .s (.int j m)) (hy : evF F y = .s (.int i c)) (h0 : 0 ≤ m) (h1 : m = c) (h2 : c * bytes ≤ 140737488355328) (h3 : c ≤ 9223372036854775807)
    (k : ∀ b H, h.length ≤ b → Grows h H → Obj H b ((List.replicate m.toNat v).map fun q => .s (.int kk q)) → WO P T n l (putF d (.sl b 0 0 m.toNat 1) F) H K) : WO P T n (⟨d, none, .e (.make e 1 bytes [.int kk v] x y)⟩ :: l) F h K := by
  subst h1
  have hlen : ∀ q : Nat, ((List.replicate q [AV.s (.int kk v)]).flatten) = (List.replicate q v).map fun q => .s (.int kk q) := by
    intro q
    induction q with
    | zero => rfl
    | succ q ih => rw [List.replicate_succ, List.replicate_succ, List.flatten_cons, List.map_cons, ih]; rfl
  refine WO.op (fun ho => ⟨0, fun j _ => ?_⟩) (k h.length (h ++ [⟨0, e, 1, true, (List.replicate m.toNat [AV.s (.int kk v)]).flatten⟩]) (Nat.le_refl _) (Grows.app _ _) ⟨_, bk_new, rfl, rfl, hlen _⟩)
  simp only [opds, opdsE, List.all_cons, List.all_nil, Bool.and_true, Bool.and_eq_true] at ho
  simp only [opV_e, eV, evO_fr ho.1, evO_fr ho.2, hx, hy, Option.bind_some, asI]
  rw [if_pos ⟨h0, Int.le_refl _, h2, h3⟩]
  rfl
theorem flat_map_s {kk : IntKind} : ∀ L : List Int, L.flatMap (encI kk).cells = L.map fun q => .s (.int kk q)
  | [] => rfl
  | x :: L => by rw [List.flatMap_cons, flat_map_s L]; rfl
/-- An object of numbers reads as a row. -/
theorem Obj.rowI {kk : IntKind} {b : Nat} {L : List Int} (o : Obj h b (L.map fun q => .s (.int kk q))) : Row (encI kk) h (.sl b 0 0 L.length 1) L := by
  obtain ⟨k, h1, h2, h3, h4⟩ := o
  refine .inr ⟨b, 0, 0, k, rfl, h1, h2, ?_, ?_⟩
  · rw [h4, List.length_map]; show 0 + L.length * 1 ≤ _; omega
  · rw [h4, flat_map_s, List.drop_zero, List.take_of_length_le (by rw [List.length_map]; show _ ≤ L.length * 1; omega)]
end
end Go.Proofs.YtffjdidakeinjaaDoor.AS
end
section
set_option autoImplicit false
set_option linter.unusedSimpArgs false
namespace Go.Proofs.YtffjdidakeinjaaDoor.AS
open Go Go.RowKit Go.Proofs.YtffjdidakeinjaaDoor.AS.V
section
variable {P : Program} {T : Nat → CallF} {n : Nat} {F : Fr} {h : Heap} {Q : Ex → Fr → Heap → Prop} {b : ACode}
/-- A loop, one round of it. -/
theorem W.loopU {fg : List Nat} (H : W P T n b (FG fg F) h (LQ (fun F' h' => W P T n (.loop fg b) F' h' Q) Q)) : W P T n (.loop fg b) F h Q := by
  refine .of fun ho => ?_
  obtain ⟨e, F', h', r, q⟩ := H.go ho
  replace q := q.go
  cases e with
  | normal =>
    obtain ⟨e2, F2, h2, r2, q2⟩ := q.go ho
    exact ⟨e2, F2, h2, RunG.loop_next_f (fr_forget fg) r r2, q2⟩
  | exit i => exact ⟨_, F', h', RunG.loop_end_f (fr_forget fg) (by simp) r, q⟩
  | goto i => exact ⟨_, F', h', RunG.loop_end_f (fr_forget fg) (by simp) r, q⟩
  | ret => exact ⟨_, F', h', RunG.loop_end_f (fr_forget fg) (by simp) r, q⟩
end
end Go.Proofs.YtffjdidakeinjaaDoor.AS
end
