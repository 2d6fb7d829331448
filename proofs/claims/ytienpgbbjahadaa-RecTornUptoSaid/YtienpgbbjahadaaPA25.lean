/- The functions that the laws use, as plain Lean functions, and that the calls of the program answer so; written by xprint.py. -/
import Derived.Test.YtienpgbbjahadaaPA0
import Derived.Test.YtienpgbbjahadaaPA17
import Derived.Test.YtienpgbbjahadaaPA20
import Derived.Test.YtienpgbbjahadaaPA21
import Derived.Test.YtienpgbbjahadaaPA22
namespace Go.Proofs.Ytienpgbbjahadaa.PA
open Go.RowKit Go.Proofs.YtienpgbbjahadaaX Go.Proofs.YtienpgbbjahadaaW.PrintWords Go.Proofs.YtienpgbbjahadaaW.PrintLast Go.Proofs.YtienpgbbjahadaaW.PrintMore
attribute [local go_sem] max2_int min2_int max_two min_two max_three min_three max_four min_four xjump_ret xjump_normal xjump_exit xjump_panic xjump_goto   -- for this text's walks alone
set_option linter.unusedVariables false
set_option linter.unusedSimpArgs false

/-! ### missivelaw02_RecTorn: function 12 -/
mutual
def missivelaw02_RecTorn.j0 : Nat → List ByteArray → Int → ByteArray → Bool → Option (Bool)
  | 0, _, _, _, _ => none
  | k + 1, x0, x1, x5, x31 => if x31 = true then (some true) else (if 0 ≤ x1 then (if x1 ≤ (x5.size : Int) then ((rec_All.f k (x5.extract 0 (x1 : Int).toNat)).bind fun bt366 => (missivelaw02_RecTorn.l0 k x0 x1 bt366.1 bt366.2 0 0)) else (none)) else (none))
def missivelaw02_RecTorn.l0 : Nat → List ByteArray → Int → List ByteArray → Int → Int → Int → Option (Bool)
  | 0, _, _, _, _, _, _ => none
  | k + 1, x0, x1, x7, x8, x9, x10 => if x10 < (x0.length : Int) then (if 0 ≤ x10 then ((rec_Frame.f k (rdOf ByteArray.empty x0 x10)).bind fun bt371 => (if (bt371.1.size : Int) > (wrap64 (x1 - x9)) then (if x8 = x9 then (if x10 ≤ (x0.length : Int) then ((missiveref02_Same.f k x7 (x0.take (x10 : Int).toNat)).bind fun t374 => (some t374)) else (none)) else (some false)) else (missivelaw02_RecTorn.l0 k x0 x1 x7 x8 (wrap64 (x9 + (bt371.1.size : Int))) (wrap64 (x10 + 1))))) else (none)) else (if x8 = x9 then (if 0 ≤ x10 then (if x10 ≤ (x0.length : Int) then ((missiveref02_Same.f k x7 (x0.take (x10 : Int).toNat)).bind fun t376 => (some t376)) else (none)) else (none)) else (some false))
end
def missivelaw02_RecTorn.f (k : Nat) (l0 : List ByteArray) (a1 : Int) : Option (Bool) := (missivelaw02_lives.f k).bind fun t363 => (if t363 = true then ((rec_Join.f k l0).bind fun bt364 => (if bt364.2 = 0 then (if a1 < 0 then (missivelaw02_RecTorn.j0 k l0 a1 bt364.1 true) else (missivelaw02_RecTorn.j0 k l0 a1 bt364.1 (decide (a1 > (bt364.1.size : Int))))) else (missivelaw02_RecTorn.j0 k l0 a1 bt364.1 true))) else (some false))
theorem missivelaw02_RecTorn.mono_l : ∀ k, (∀ y0 y1 y2 y3, LeO (missivelaw02_RecTorn.j0 k y0 y1 y2 y3) (missivelaw02_RecTorn.j0 (k + 1) y0 y1 y2 y3)) ∧ (∀ y0 y1 y2 y3 y4 y5, LeO (missivelaw02_RecTorn.l0 k y0 y1 y2 y3 y4 y5) (missivelaw02_RecTorn.l0 (k + 1) y0 y1 y2 y3 y4 y5))
  | 0 => ⟨fun _ _ _ _ r h => by simp [missivelaw02_RecTorn.j0] at h, fun _ _ _ _ _ _ r h => by simp [missivelaw02_RecTorn.l0] at h⟩
  | k + 1 => by
    obtain ⟨ih0, ih1⟩ := missivelaw02_RecTorn.mono_l k
    refine ⟨?_, ?_⟩
    · intro y0 y1 y2 y3
      unfold missivelaw02_RecTorn.j0
      repeat' first
      | (with_reducible exact ih0 _ _ _ _)
      | (with_reducible exact ih1 _ _ _ _ _ _)
      | (with_reducible exact missivelaw02_lives.mono _)
      | (with_reducible exact missiveref02_Same.mono _ _ _)
      | (with_reducible exact rec_All.mono _ _)
      | (with_reducible exact rec_Frame.mono _ _)
      | (with_reducible exact rec_Join.mono _ _)
      | (with_reducible exact LeO.refl _)
      | (with_reducible exact LeO.none _)
      | (with_reducible refine LeO.ite ?_ ?_)
      | (with_reducible refine LeO.bind ?_ (fun _ => ?_))
      | exact ih0 _ _ _ _
      | exact ih1 _ _ _ _ _ _
      | exact missivelaw02_lives.mono _
      | exact missiveref02_Same.mono _ _ _
      | exact rec_All.mono _ _
      | exact rec_Frame.mono _ _
      | exact rec_Join.mono _ _
      | exact LeO.none _
      | refine LeO.ite ?_ ?_
      | refine LeO.bind ?_ (fun _ => ?_)
    · intro y0 y1 y2 y3 y4 y5
      unfold missivelaw02_RecTorn.l0
      repeat' first
      | (with_reducible exact ih0 _ _ _ _)
      | (with_reducible exact ih1 _ _ _ _ _ _)
      | (with_reducible exact missivelaw02_lives.mono _)
      | (with_reducible exact missiveref02_Same.mono _ _ _)
      | (with_reducible exact rec_All.mono _ _)
      | (with_reducible exact rec_Frame.mono _ _)
      | (with_reducible exact rec_Join.mono _ _)
      | (with_reducible exact LeO.refl _)
      | (with_reducible exact LeO.none _)
      | (with_reducible refine LeO.ite ?_ ?_)
      | (with_reducible refine LeO.bind ?_ (fun _ => ?_))
      | exact ih0 _ _ _ _
      | exact ih1 _ _ _ _ _ _
      | exact missivelaw02_lives.mono _
      | exact missiveref02_Same.mono _ _ _
      | exact rec_All.mono _ _
      | exact rec_Frame.mono _ _
      | exact rec_Join.mono _ _
      | exact LeO.none _
      | refine LeO.ite ?_ ?_
      | refine LeO.bind ?_ (fun _ => ?_)
theorem missivelaw02_RecTorn.mono : ∀ a0 a1 k, LeO (missivelaw02_RecTorn.f k a0 a1) (missivelaw02_RecTorn.f (k + 1) a0 a1) := by
  intro a0 a1 k
  obtain ⟨ih0, ih1⟩ := missivelaw02_RecTorn.mono_l k
  unfold missivelaw02_RecTorn.f
  repeat' first
      | (with_reducible exact ih0 _ _ _ _)
      | (with_reducible exact ih1 _ _ _ _ _ _)
      | (with_reducible exact missivelaw02_lives.mono _)
      | (with_reducible exact missiveref02_Same.mono _ _ _)
      | (with_reducible exact rec_All.mono _ _)
      | (with_reducible exact rec_Frame.mono _ _)
      | (with_reducible exact rec_Join.mono _ _)
      | (with_reducible exact LeO.refl _)
      | (with_reducible exact LeO.none _)
      | (with_reducible refine LeO.ite ?_ ?_)
      | (with_reducible refine LeO.bind ?_ (fun _ => ?_))
      | exact ih0 _ _ _ _
      | exact ih1 _ _ _ _ _ _
      | exact missivelaw02_lives.mono _
      | exact missiveref02_Same.mono _ _ _
      | exact rec_All.mono _ _
      | exact rec_Frame.mono _ _
      | exact rec_Join.mono _ _
      | exact LeO.none _
      | refine LeO.ite ?_ ?_
      | refine LeO.bind ?_ (fun _ => ?_)
set_option maxHeartbeats 8000000 in
set_option maxRecDepth 100000 in
theorem missivelaw02_RecTorn.calls (k : Nat) (A0 : Option Addr) (c0 : Nat) (l0 : List ByteArray) (a1 : Int) (r : Bool) (w : World) (hr0 : Kd.C Kd.string w A0 l0.length l0) (hc0 : l0.length ≤ c0) (h : missivelaw02_RecTorn.f k l0 a1 = some r) :
    Calls Try.prog 12 #[.slice A0 l0.length c0, .int .i64 a1] w fun e w' => e = .returned (.bool r) ∧ Below w.heap.size w w' := by
  have HR0 := Aside0.mk hr0
  have HC0 := Aside0.mk hc0
  clear hr0 hc0
  have HB := Aside0.mk (Below.refl w.heap.size w)
  have H : ((missivelaw02_lives.f k).bind fun t363 => (if t363 = true then ((rec_Join.f k l0).bind fun bt364 => (if bt364.2 = 0 then (if a1 < 0 then (missivelaw02_RecTorn.j0 k l0 a1 bt364.1 true) else (missivelaw02_RecTorn.j0 k l0 a1 bt364.1 (decide (a1 > (bt364.1.size : Int))))) else (missivelaw02_RecTorn.j0 k l0 a1 bt364.1 true))) else (some false))) = some r := h
  clear h
  replace H := Option.bind_eq_some_iff.mp H
  obtain ⟨t363, A30, H⟩ := H
  replace H : (if t363 = true then ((rec_Join.f k l0).bind fun bt364 => (if bt364.2 = 0 then (if a1 < 0 then (missivelaw02_RecTorn.j0 k l0 a1 bt364.1 true) else (missivelaw02_RecTorn.j0 k l0 a1 bt364.1 (decide (a1 > (bt364.1.size : Int))))) else (missivelaw02_RecTorn.j0 k l0 a1 bt364.1 true))) else (some false)) = some r := H
  have A3 := Aside0.mk A30
  clear A30
  by_cases c4 : t363 = true
  · subst c4
    have H1 : ((rec_Join.f k l0).bind fun bt364 => (if bt364.2 = 0 then (if a1 < 0 then (missivelaw02_RecTorn.j0 k l0 a1 bt364.1 true) else (missivelaw02_RecTorn.j0 k l0 a1 bt364.1 (decide (a1 > (bt364.1.size : Int))))) else (missivelaw02_RecTorn.j0 k l0 a1 bt364.1 true))) = some r := by rw [if_pos rfl] at H; exact H
    clear H
    have H := H1
    clear H1
    replace H := Option.bind_eq_some_iff.mp H
    obtain ⟨⟨t364, t365⟩, A50, H⟩ := H
    replace H : (if t365 = 0 then (if a1 < 0 then (missivelaw02_RecTorn.j0 k l0 a1 t364 true) else (missivelaw02_RecTorn.j0 k l0 a1 t364 (decide (a1 > (t364.size : Int))))) else (missivelaw02_RecTorn.j0 k l0 a1 t364 true)) = some r := H
    have A5 := Aside0.mk A50
    clear A50
    have HC6 := Aside0.mk H
    clear H
    go_enter Try.func12, Try.ntmps12
    go_upto_region 4 with (first | ((with_reducible refine gate_callee (f := 35) rfl ?_); refine goesL_ (some 13) rfl rfl Try.func35 (by kernel_rfl) rfl #[] rfl (by (try simp only [List.map_toArray, List.map_cons, List.map_nil]); first | done | rfl | (simp only [List.length_drop, List.length_take]; rfl)) ?_; (with_reducible refine (missivelaw02_lives.calls k  true _ A3.out).mono ?_); rintro e w7 ⟨rfl, hb⟩; refine ⟨_, rfl, ?_⟩; have n0_ := Aside0.mk (below_step (by repeat (first | (with_reducible first | exact HB.out | apply below_alloc | apply pw_below_drewN | apply below_drew1) | exact HB.out)) hb); clear HB; have HB := n0_; clear n0_; (try clear hb); (try clear hb2); (try clear hk); (try clear hi)) | ((with_reducible refine gate_callee (f := 38) rfl ?_); refine goesL_ (some 17) rfl rfl Try.func38 (by kernel_rfl) rfl #[.slice A0 l0.length c0] rfl (by (try simp only [List.map_toArray, List.map_cons, List.map_nil]); first | done | rfl | (simp only [List.length_drop, List.length_take]; rfl)) ?_; (with_reducible refine (rec_Join.calls k _ _ l0 t364 t365 _ ?side1 ?side2 A5.out).mono ?_); (case side1 => repeat (first | exact (Kd.C_below HR0.out HB.out) | (with_reducible refine Kd.C_alloc ?_ _) | (with_reducible refine Kd.C_drewN ?_ _) | (with_reducible refine Kd.C_drew ?_))); (case side2 => exact HC0.out); rintro e w8 ⟨rfl, hb⟩; refine ⟨_, rfl, ?_⟩; have n0_ := Aside0.mk (below_step (by repeat (first | (with_reducible first | exact HB.out | apply below_alloc | apply pw_below_drewN | apply below_drew1) | exact HB.out)) hb); clear HB; have HB := n0_; clear n0_; (try clear hb); (try clear hb2); (try clear hk); (try clear hi)))
    (try simp only [Act.put, List.setIfInBounds_toArray, List.set_cons_zero, List.set_cons_succ])
    go_cut [31] (fun v31 wc => ∃ (kq : Nat) (x31_5 : Bool), v31 = .bool x31_5 ∧ Aside0 (missivelaw02_RecTorn.j0 kq l0 a1 t364 x31_5 = some r) ∧ Aside0 (kq ≤ k) ∧ Aside0 (Below w.heap.size w wc))
    case first =>
      have H := HC6.out
      clear HC6
      by_cases c9 : t365 = 0
      · rw [if_pos c9] at H
        have c9b0 : (t365 == 0) = true := beq_iff_eq.mpr c9
        have c9b1 : (t365 != 0) = false := bne_eq_false_iff_eq.mpr c9
        clear c9
        (first | rw [c9b0] | (simp only [i64_w, i32_w]; rw [c9b0]) | skip)
        by_cases c10 : a1 < 0
        · rw [if_pos c10] at H
          have c10b0 : decide (a1 < 0) = true := decide_eq_true c10
          clear c10
          have H' := Aside0.mk H
          clear H
          go_wp2
          go_meet
          case rel => exact ⟨_, (true), (by first | rfl | (simp; done) | (simp [*]; done)), H', ⟨by first | omega | exact Nat.le_refl _⟩, ⟨by repeat (first | (with_reducible first | exact HB.out | apply below_alloc | apply pw_below_drewN | apply below_drew1) | exact HB.out)⟩⟩
        · rw [if_neg c10] at H
          have c10b0 : decide (a1 < 0) = false := decide_eq_false c10
          clear c10
          have H' := Aside0.mk H
          clear H
          go_wp2
          go_meet
          case rel => exact ⟨_, (decide (a1 > (t364.size : Int))), (by first | rfl | (simp; done) | (simp [*]; done)), H', ⟨by first | omega | exact Nat.le_refl _⟩, ⟨by repeat (first | (with_reducible first | exact HB.out | apply below_alloc | apply pw_below_drewN | apply below_drew1) | exact HB.out)⟩⟩
      · rw [if_neg c9] at H
        have c9b0 : (t365 == 0) = false := beq_eq_false_iff_ne.mpr c9
        have c9b1 : (t365 != 0) = true := bne_iff_ne.mpr c9
        (first | rw [c9b0] | (simp only [i64_w, i32_w]; rw [c9b0]) | skip)
        have H' := Aside0.mk H
        clear H
        go_wp2
        go_meet
        case rel => exact ⟨_, (true), (by first | rfl | (simp; done) | (simp [*]; done)), H', ⟨by first | omega | exact Nat.le_refl _⟩, ⟨by repeat (first | (with_reducible first | exact HB.out | apply below_alloc | apply pw_below_drewN | apply below_drew1) | exact HB.out)⟩⟩
    case rest =>
      clear HC6
      try clear c1
      try clear p2
      try clear c3
      try clear c4
      try clear c9
      try clear c9b0
      try clear c9b1
      try clear c10
      try clear c10b0
      obtain ⟨kq, x31_5, rfl, HA, HJ5, HB⟩ := hcut
      cases kq with
      | zero => exact absurd HA.out (by simp [missivelaw02_RecTorn.j0])
      | succ kj5 =>
        have H := HA.out
        clear HA
        simp only [missivelaw02_RecTorn.j0] at H
        by_cases c11 : x31_5 = true
        · subst c11
          have H1 : (some true) = some r := by rw [if_pos rfl] at H; exact H
          clear H
          have H := H1
          clear H1
          obtain rfl := Option.some.inj H
          go_wp2
          go_ret
          exact ⟨by first | rfl | (simp [errW_none, errW_some] <;> rfl) | (simp [*, errW_none, errW_some] <;> rfl), by repeat (first | (with_reducible first | exact HB.out | apply below_alloc | apply pw_below_drewN | apply below_drew1) | exact HB.out)⟩
        · replace c11 := Bool.eq_false_iff.mpr c11
          subst c11
          have H1 : (if 0 ≤ a1 then (if a1 ≤ (t364.size : Int) then ((rec_All.f kj5 (t364.extract 0 (a1 : Int).toNat)).bind fun bt366 => (missivelaw02_RecTorn.l0 kj5 l0 a1 bt366.1 bt366.2 0 0)) else (none)) else (none)) = some r := by rw [if_neg (show ¬ (false = true) by decide)] at H; exact H
          clear H
          have H := H1
          clear H1
          by_cases c12 : 0 ≤ a1
          · rw [if_pos c12] at H
            have c12b0 := eq_true c12
            have c12b1 : decide (0 ≤ a1) = true := decide_eq_true c12
            clear c12
            by_cases c13 : a1 ≤ (t364.size : Int)
            · rw [if_pos c13] at H
              have c13b0 := eq_true c13
              have c13b1 : decide (a1 ≤ (t364.size : Int)) = true := decide_eq_true c13
              clear c13
              replace H := Option.bind_eq_some_iff.mp H
              obtain ⟨⟨t366, t367⟩, A140, H⟩ := H
              replace H : (missivelaw02_RecTorn.l0 kj5 l0 a1 t366 t367 0 0) = some r := H
              have A14 := Aside0.mk A140
              clear A140
              have H' := Aside0.mk H
              clear H
              go_wp2_with (first | ((with_reducible refine gate_callee (f := 40) rfl ?_); refine goesL_ (some 36) rfl rfl Try.func40 (by kernel_rfl) rfl #[.string (t364.extract 0 (a1 : Int).toNat)] rfl (by (try simp only [List.map_toArray, List.map_cons, List.map_nil]); first | done | rfl | (simp only [List.length_drop, List.length_take]; rfl)) ?_; (with_reducible refine (rec_All.calls kj5 (t364.extract 0 (a1 : Int).toNat) t366 t367 _ A14.out).mono ?_); rintro e w15 ⟨v368, rfl, ho0, hb⟩; refine ⟨_, rfl, ?_⟩; have n0_ := Aside0.mk (Kd.R_lower ho0 (below_size (by repeat (first | (with_reducible first | exact HB.out | apply below_alloc | apply pw_below_drewN | apply below_drew1) | exact HB.out)))); have n1_ := Aside0.mk (below_step (by repeat (first | (with_reducible first | exact HB.out | apply below_alloc | apply pw_below_drewN | apply below_drew1) | exact HB.out)) hb); clear HB; have HO369 := n0_; have HB := n1_; clear n0_ n1_; (try clear hb); (try clear hb2); (try clear hk); (try clear hi); (try clear ho0)))
              go_loopg [9, 10] kj5 (fun kq v9 v10 w' => ∃ (x9_2 : Int) (x10_2 : Int), v9 = .int .i64 x9_2 ∧ v10 = .int .i64 x10_2 ∧ Aside0 (missivelaw02_RecTorn.l0 kq l0 a1 t366 t367 x9_2 x10_2 = some r) ∧ Aside0 (kq ≤ kj5) ∧ Aside0 (Kd.R Kd.string 9 w' w.heap.size (fun _ => True) v368 t366) ∧ Aside0 (Below w.heap.size w w'))
              case atStart => exact ⟨(0), (0), (by first | rfl | (simp; done) | (simp [*]; done)), (by first | rfl | (simp; done) | (simp [*]; done)), H', ⟨Nat.le_refl _⟩, ⟨by (with_reducible repeat (first | apply Kd.R_alloc | apply Kd.R_drewN | apply Kd.R_drew)); exact HO369.out⟩, ⟨by repeat (first | (with_reducible first | exact HB.out | apply below_alloc | apply pw_below_drewN | apply below_drew1) | exact HB.out)⟩⟩
              case round =>
                clear H'
                try clear c1
                try clear p2
                try clear c3
                try clear c4
                try clear c9
                try clear c9b0
                try clear c9b1
                try clear c10
                try clear c10b0
                try clear c11
                try clear c12
                try clear c12b0
                try clear c12b1
                try clear c13
                try clear c13b0
                try clear c13b1
                try clear p2
                obtain ⟨x9_2, x10_2, rfl, rfl, HA, HK2, HO_7, HB⟩ := hrel
                cases gk with
                | zero => exact absurd HA.out (by simp [missivelaw02_RecTorn.l0])
                | succ k2 =>
                  have H := HA.out
                  clear HA
                  simp only [missivelaw02_RecTorn.l0] at H
                  by_cases c16 : x10_2 < (l0.length : Int)
                  · rw [if_pos c16] at H
                    have c16b0 : decide (x10_2 < (l0.length : Int)) = true := decide_eq_true c16
                    clear c16
                    by_cases c17 : 0 ≤ x10_2
                    · rw [if_pos c17] at H
                      have c17b0 : decide (0 ≤ x10_2) = true := decide_eq_true c17
                      clear c17
                      replace H := Option.bind_eq_some_iff.mp H
                      obtain ⟨⟨t371, t372⟩, A180, H⟩ := H
                      replace H : (if (t371.size : Int) > (wrap64 (a1 - x9_2)) then (if t367 = x9_2 then (if x10_2 ≤ (l0.length : Int) then ((missiveref02_Same.f k2 t366 (l0.take (x10_2 : Int).toNat)).bind fun t374 => (some t374)) else (none)) else (some false)) else (missivelaw02_RecTorn.l0 k2 l0 a1 t366 t367 (wrap64 (x9_2 + (t371.size : Int))) (wrap64 (x10_2 + 1)))) = some r := H
                      have A18 := Aside0.mk A180
                      clear A180
                      by_cases c19 : (t371.size : Int) > (wrap64 (a1 - x9_2))
                      · rw [if_pos c19] at H
                        have c19b0 : decide ((wrap64 (a1 - x9_2)) < (t371.size : Int)) = true := decide_eq_true c19
                        clear c19
                        by_cases c20 : t367 = x9_2
                        · rw [if_pos c20] at H
                          have c20b0 : (t367 == x9_2) = true := beq_iff_eq.mpr c20
                          have c20b1 : (t367 != x9_2) = false := bne_eq_false_iff_eq.mpr c20
                          clear c20
                          have c21b0 := eq_true (of_decide_eq_true (by first | (with_reducible assumption) | assumption) : 0 ≤ x10_2)
                          by_cases c22 : x10_2 ≤ (l0.length : Int)
                          · rw [if_pos c22] at H
                            have c22b0 := eq_true c22
                            have c22b1 : decide (x10_2 ≤ (l0.length : Int)) = true := decide_eq_true c22
                            clear c22
                            replace H := Option.bind_eq_some_iff.mp H
                            obtain ⟨t374, A230, H⟩ := H
                            replace H : (some t374) = some r := H
                            have A23 := Aside0.mk A230
                            clear A230
                            obtain rfl := Option.some.inj H
                            have p370 : 0 ≤ (x10_2 : Int) := of_decide_eq_true (by first | (with_reducible assumption) | assumption)
                            have q370 : x10_2 < (l0.length : Int) := of_decide_eq_true (by first | (with_reducible assumption) | assumption)
                            obtain ⟨ad370, e370, hx370_0⟩ := Kd.at_string HR0.out x10_2 p370 q370
                            cases e370
                            replace hx370_0 := (HB.out.cell (World.block_lt_of_cell? w _ hx370_0)).trans hx370_0
                            replace p370 := eq_true p370
                            replace q370 := eq_true q370
                            go_wp2_with (first | ((with_reducible refine gate_callee (f := 31) rfl ?_); refine goesL_ (some 48) rfl rfl Try.func31 (by kernel_rfl) rfl #[.string (rdOf ByteArray.empty l0 x10_2)] rfl (by (try simp only [List.map_toArray, List.map_cons, List.map_nil]); first | done | rfl | (simp only [List.length_drop, List.length_take]; rfl)) ?_; (with_reducible refine (rec_Frame.calls k2 (rdOf ByteArray.empty l0 x10_2) t371 t372 _ A18.out).mono ?_); rintro e w24 ⟨rfl, hb⟩; refine ⟨_, rfl, ?_⟩; have n0_ := Aside0.mk (Kd.R_below (by (with_reducible repeat (first | apply Kd.R_alloc | apply Kd.R_drewN | apply Kd.R_drew)); exact HO_7.out) hb); have n1_ := Aside0.mk (below_step (by repeat (first | (with_reducible first | exact HB.out | apply below_alloc | apply pw_below_drewN | apply below_drew1) | exact HB.out)) hb); clear HO_7; clear HB; have HO_7 := n0_; have HB := n1_; clear n0_ n1_; (try clear hb); (try clear hb2); (try clear hk); (try clear hi); obtain ⟨i025, hi025, _, hsz25, _⟩ := info_parts info9; obtain ⟨hcut25, hA25, hC25⟩ := print_take_of (P := Try.prog) Value.string (⟨#[]⟩ : ByteArray) 48 9 .i64 Try.underlying48 hi025 hsz25 (some ad370) c0 l0 x10_2 (of_decide_eq_true (by first | (with_reducible assumption) | assumption)) (of_decide_eq_true (by first | (with_reducible assumption) | assumption)) HC0.out; have HR373 := Aside0.mk (Kd.C_of_reads (h1 := fun _ => rfl) (hA25 _ (Kd.reads_of_C HR0.out))); have HC373 := Aside0.mk hC25; clear hA25 hC25 hi025 hsz25; obtain ⟨Ao26, co26, eo26⟩ := Kd.R_slice HO_7.out; subst eo26) | (go_at_call 42; refine calls_of_args (args' := #[.slice Ao26 t366.length co26, .slice (some ad370) (l0.take (x10_2 : Int).toNat).length c0]) (by first | (rw [show (l0.take (x10_2 : Int).toNat).length = x10_2.toNat from (by rw [List.length_take]; have h_ : (x10_2 : Int) ≤ (l0.length : Int) := of_decide_eq_true (by first | (with_reducible assumption) | assumption); omega)] <;> rfl) | rfl) ?_; (with_reducible refine (missiveref02_Same.calls k2 _ _ t366 _ _ (l0.take (x10_2 : Int).toNat) t374 _ ?side1 ?side2 ?side3 ?side4 A23.out).mono ?_); (case side1 => repeat (first | exact (Kd.R_reads' HO_7.out).2.2 | (with_reducible refine Kd.C_alloc ?_ _) | (with_reducible refine Kd.C_drewN ?_ _) | (with_reducible refine Kd.C_drew ?_))); (case side2 => exact (Kd.R_reads' HO_7.out).2.1); (case side3 => repeat (first | exact (Kd.C_below HR373.out HB.out) | (with_reducible refine Kd.C_alloc ?_ _) | (with_reducible refine Kd.C_drewN ?_ _) | (with_reducible refine Kd.C_drew ?_))); (case side4 => exact HC373.out); rintro e w' ⟨rfl, ⟨nd, rfl⟩⟩))
                            go_ret
                            exact ⟨by first | rfl | (simp [errW_none, errW_some] <;> rfl) | (simp [*, errW_none, errW_some] <;> rfl), by repeat (first | (with_reducible first | exact HB.out | apply below_alloc | apply pw_below_drewN | apply below_drew1) | exact HB.out)⟩
                          · rw [if_neg c22] at H
                            exact absurd H (by simp)
                        · rw [if_neg c20] at H
                          have c20b0 : (t367 == x9_2) = false := beq_eq_false_iff_ne.mpr c20
                          have c20b1 : (t367 != x9_2) = true := bne_iff_ne.mpr c20
                          obtain rfl := Option.some.inj H
                          have p370 : 0 ≤ (x10_2 : Int) := of_decide_eq_true (by first | (with_reducible assumption) | assumption)
                          have q370 : x10_2 < (l0.length : Int) := of_decide_eq_true (by first | (with_reducible assumption) | assumption)
                          obtain ⟨ad370, e370, hx370_0⟩ := Kd.at_string HR0.out x10_2 p370 q370
                          cases e370
                          replace hx370_0 := (HB.out.cell (World.block_lt_of_cell? w _ hx370_0)).trans hx370_0
                          replace p370 := eq_true p370
                          replace q370 := eq_true q370
                          go_wp2_with (first | ((with_reducible refine gate_callee (f := 31) rfl ?_); refine goesL_ (some 48) rfl rfl Try.func31 (by kernel_rfl) rfl #[.string (rdOf ByteArray.empty l0 x10_2)] rfl (by (try simp only [List.map_toArray, List.map_cons, List.map_nil]); first | done | rfl | (simp only [List.length_drop, List.length_take]; rfl)) ?_; (with_reducible refine (rec_Frame.calls k2 (rdOf ByteArray.empty l0 x10_2) t371 t372 _ A18.out).mono ?_); rintro e w27 ⟨rfl, hb⟩; refine ⟨_, rfl, ?_⟩; have n0_ := Aside0.mk (Kd.R_below (by (with_reducible repeat (first | apply Kd.R_alloc | apply Kd.R_drewN | apply Kd.R_drew)); exact HO_7.out) hb); have n1_ := Aside0.mk (below_step (by repeat (first | (with_reducible first | exact HB.out | apply below_alloc | apply pw_below_drewN | apply below_drew1) | exact HB.out)) hb); clear HO_7; clear HB; have HO_7 := n0_; have HB := n1_; clear n0_ n1_; (try clear hb); (try clear hb2); (try clear hk); (try clear hi)))
                          go_ret
                          exact ⟨by first | rfl | (simp [errW_none, errW_some] <;> rfl) | (simp [*, errW_none, errW_some] <;> rfl), by repeat (first | (with_reducible first | exact HB.out | apply below_alloc | apply pw_below_drewN | apply below_drew1) | exact HB.out)⟩
                      · rw [if_neg c19] at H
                        have c19b0 : decide ((wrap64 (a1 - x9_2)) < (t371.size : Int)) = false := decide_eq_false c19
                        clear c19
                        have H' := Aside0.mk H
                        clear H
                        have p370 : 0 ≤ (x10_2 : Int) := of_decide_eq_true (by first | (with_reducible assumption) | assumption)
                        have q370 : x10_2 < (l0.length : Int) := of_decide_eq_true (by first | (with_reducible assumption) | assumption)
                        obtain ⟨ad370, e370, hx370_0⟩ := Kd.at_string HR0.out x10_2 p370 q370
                        cases e370
                        replace hx370_0 := (HB.out.cell (World.block_lt_of_cell? w _ hx370_0)).trans hx370_0
                        replace p370 := eq_true p370
                        replace q370 := eq_true q370
                        go_wp2_with (first | ((with_reducible refine gate_callee (f := 31) rfl ?_); refine goesL_ (some 48) rfl rfl Try.func31 (by kernel_rfl) rfl #[.string (rdOf ByteArray.empty l0 x10_2)] rfl (by (try simp only [List.map_toArray, List.map_cons, List.map_nil]); first | done | rfl | (simp only [List.length_drop, List.length_take]; rfl)) ?_; (with_reducible refine (rec_Frame.calls k2 (rdOf ByteArray.empty l0 x10_2) t371 t372 _ A18.out).mono ?_); rintro e w28 ⟨rfl, hb⟩; refine ⟨_, rfl, ?_⟩; have n0_ := Aside0.mk (Kd.R_below (by (with_reducible repeat (first | apply Kd.R_alloc | apply Kd.R_drewN | apply Kd.R_drew)); exact HO_7.out) hb); have n1_ := Aside0.mk (below_step (by repeat (first | (with_reducible first | exact HB.out | apply below_alloc | apply pw_below_drewN | apply below_drew1) | exact HB.out)) hb); clear HO_7; clear HB; have HO_7 := n0_; have HB := n1_; clear n0_ n1_; (try clear hb); (try clear hb2); (try clear hk); (try clear hi)))
                        go_roundg k2
                        case measure => have := HJ5.out; have := HK2.out; omega
                        case rel => exact ⟨(wrap64 (x9_2 + (t371.size : Int))), (wrap64 (x10_2 + 1)), (by first | rfl | (simp; done) | (simp [*]; done)), (by first | rfl | (simp; done) | (simp [*]; done)), H', ⟨by have := HJ5.out; have := HK2.out; omega⟩, ⟨by (with_reducible repeat (first | apply Kd.R_alloc | apply Kd.R_drewN | apply Kd.R_drew)); exact HO_7.out⟩, ⟨by repeat (first | (with_reducible first | exact HB.out | apply below_alloc | apply pw_below_drewN | apply below_drew1) | exact HB.out)⟩⟩
                    · rw [if_neg c17] at H
                      exact absurd H (by simp)
                  · rw [if_neg c16] at H
                    have c16b0 : decide (x10_2 < (l0.length : Int)) = false := decide_eq_false c16
                    clear c16
                    by_cases c29 : t367 = x9_2
                    · rw [if_pos c29] at H
                      have c29b0 : (t367 == x9_2) = true := beq_iff_eq.mpr c29
                      have c29b1 : (t367 != x9_2) = false := bne_eq_false_iff_eq.mpr c29
                      clear c29
                      by_cases c30 : 0 ≤ x10_2
                      · rw [if_pos c30] at H
                        have c30b0 := eq_true c30
                        have c30b1 : decide (0 ≤ x10_2) = true := decide_eq_true c30
                        clear c30
                        by_cases c31 : x10_2 ≤ (l0.length : Int)
                        · rw [if_pos c31] at H
                          have c31b0 := eq_true c31
                          have c31b1 : decide (x10_2 ≤ (l0.length : Int)) = true := decide_eq_true c31
                          clear c31
                          replace H := Option.bind_eq_some_iff.mp H
                          obtain ⟨t376, A320, H⟩ := H
                          replace H : (some t376) = some r := H
                          have A32 := Aside0.mk A320
                          clear A320
                          obtain rfl := Option.some.inj H
                          obtain ⟨i033, hi033, _, hsz33, _⟩ := info_parts info9
                          obtain ⟨hcut33, hA33, hC33⟩ := print_take_of (P := Try.prog) Value.string (⟨#[]⟩ : ByteArray) 48 9 .i64 Try.underlying48 hi033 hsz33 A0 c0 l0 x10_2 (of_decide_eq_true (by first | (with_reducible assumption) | assumption)) (of_decide_eq_true (by first | (with_reducible assumption) | assumption)) HC0.out
                          have HR375 := Aside0.mk (Kd.C_of_reads (h1 := fun _ => rfl) (hA33 _ (Kd.reads_of_C HR0.out)))
                          have HC375 := Aside0.mk hC33
                          clear hA33 hC33 hi033 hsz33
                          obtain ⟨Ao34, co34, eo34⟩ := Kd.R_slice HO_7.out
                          subst eo34
                          go_wp2_with (first | (go_at_call 42; refine calls_of_args (args' := #[.slice Ao34 t366.length co34, .slice A0 (l0.take (x10_2 : Int).toNat).length c0]) (by first | (rw [show (l0.take (x10_2 : Int).toNat).length = x10_2.toNat from (by rw [List.length_take]; have h_ : (x10_2 : Int) ≤ (l0.length : Int) := of_decide_eq_true (by first | (with_reducible assumption) | assumption); omega)] <;> rfl) | rfl) ?_; (with_reducible refine (missiveref02_Same.calls k2 _ _ t366 _ _ (l0.take (x10_2 : Int).toNat) t376 _ ?side1 ?side2 ?side3 ?side4 A32.out).mono ?_); (case side1 => repeat (first | exact (Kd.R_reads' HO_7.out).2.2 | (with_reducible refine Kd.C_alloc ?_ _) | (with_reducible refine Kd.C_drewN ?_ _) | (with_reducible refine Kd.C_drew ?_))); (case side2 => exact (Kd.R_reads' HO_7.out).2.1); (case side3 => repeat (first | exact (Kd.C_below HR375.out HB.out) | (with_reducible refine Kd.C_alloc ?_ _) | (with_reducible refine Kd.C_drewN ?_ _) | (with_reducible refine Kd.C_drew ?_))); (case side4 => exact HC375.out); rintro e w' ⟨rfl, ⟨nd, rfl⟩⟩))
                          go_ret
                          exact ⟨by first | rfl | (simp [errW_none, errW_some] <;> rfl) | (simp [*, errW_none, errW_some] <;> rfl), by repeat (first | (with_reducible first | exact HB.out | apply below_alloc | apply pw_below_drewN | apply below_drew1) | exact HB.out)⟩
                        · rw [if_neg c31] at H
                          exact absurd H (by simp)
                      · rw [if_neg c30] at H
                        exact absurd H (by simp)
                    · rw [if_neg c29] at H
                      have c29b0 : (t367 == x9_2) = false := beq_eq_false_iff_ne.mpr c29
                      have c29b1 : (t367 != x9_2) = true := bne_iff_ne.mpr c29
                      obtain rfl := Option.some.inj H
                      go_wp2
                      go_ret
                      exact ⟨by first | rfl | (simp [errW_none, errW_some] <;> rfl) | (simp [*, errW_none, errW_some] <;> rfl), by repeat (first | (with_reducible first | exact HB.out | apply below_alloc | apply pw_below_drewN | apply below_drew1) | exact HB.out)⟩
            · rw [if_neg c13] at H
              exact absurd H (by simp)
          · rw [if_neg c12] at H
            exact absurd H (by simp)
  · replace c4 := Bool.eq_false_iff.mpr c4
    subst c4
    have H1 : (some false) = some r := by rw [if_neg (show ¬ (false = true) by decide)] at H; exact H
    clear H
    have H := H1
    clear H1
    obtain rfl := Option.some.inj H
    go_enter Try.func12, Try.ntmps12
    go_wp2_with (first | ((with_reducible refine gate_callee (f := 35) rfl ?_); refine goesL_ (some 13) rfl rfl Try.func35 (by kernel_rfl) rfl #[] rfl (by (try simp only [List.map_toArray, List.map_cons, List.map_nil]); first | done | rfl | (simp only [List.length_drop, List.length_take]; rfl)) ?_; (with_reducible refine (missivelaw02_lives.calls k  false _ A3.out).mono ?_); rintro e w35 ⟨rfl, hb⟩; refine ⟨_, rfl, ?_⟩; have n0_ := Aside0.mk (below_step (by repeat (first | (with_reducible first | exact HB.out | apply below_alloc | apply pw_below_drewN | apply below_drew1) | exact HB.out)) hb); clear HB; have HB := n0_; clear n0_; (try clear hb); (try clear hb2); (try clear hk); (try clear hi)))
    go_ret
    exact ⟨by first | rfl | (simp [errW_none, errW_some] <;> rfl) | (simp [*, errW_none, errW_some] <;> rfl), by repeat (first | (with_reducible first | exact HB.out | apply below_alloc | apply pw_below_drewN | apply below_drew1) | exact HB.out)⟩

end Go.Proofs.Ytienpgbbjahadaa.PA
