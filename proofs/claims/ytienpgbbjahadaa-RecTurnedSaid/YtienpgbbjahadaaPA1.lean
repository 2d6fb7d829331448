/- The functions that the laws use, as plain Lean functions, and that the calls of the program answer so; written by xprint.py. -/
import Derived.Test.YtienpgbbjahadaaPA0
namespace Go.Proofs.Ytienpgbbjahadaa.PA
open Go.RowKit Go.Proofs.YtienpgbbjahadaaX Go.Proofs.YtienpgbbjahadaaW.PrintWords Go.Proofs.YtienpgbbjahadaaW.PrintLast Go.Proofs.YtienpgbbjahadaaW.PrintMore
attribute [local go_sem] max2_int min2_int max_two min_two max_three min_three max_four min_four xjump_ret xjump_normal xjump_exit xjump_panic xjump_goto   -- for this text's walks alone
set_option linter.unusedVariables false
set_option linter.unusedSimpArgs false

/-! ### vari_Get: function 14 -/
mutual
def vari_Get.l100 : Nat → ByteArray → Int → Int → Option (Int × ByteArray × Int)
  | 0, _, _, _ => none
  | k + 1, x0, x5, x6 => if x6 = (x0.size : Int) then (some (0, (⟨#[]⟩ : ByteArray), 5)) else (if 0 ≤ x6 then (if x6 < (x0.size : Int) then (if x6 = 9 then (vari_Get.j1 k x0 x5 x6 (bt x0 x6) (decide ((bt x0 x6) > 1))) else (vari_Get.j1 k x0 x5 x6 (bt x0 x6) false)) else (none)) else (none))
def vari_Get.j1 : Nat → ByteArray → Int → Int → Int → Bool → Option (Int × ByteArray × Int)
  | 0, _, _, _, _, _ => none
  | k + 1, x0, x5, x6, x7, x20 => if x20 = true then (some (0, (⟨#[]⟩ : ByteArray), 7)) else (if 0 ≤ (wrap64 (7 * x6)) then (if x7 ≥ 128 then (vari_Get.l100 k x0 (Go.bits .or .u64 x5 (shl .u64 (IntKind.u64.wrap (Go.bits .and .u8 x7 127)) (wrap64 (7 * x6)))) (wrap64 (x6 + 1))) else (if x7 = 0 then (if (wrap64 (x6 + 1)) > 1 then (some (0, (⟨#[]⟩ : ByteArray), 7)) else (if 0 ≤ (wrap64 (x6 + 1)) then (if (wrap64 (x6 + 1)) ≤ (x0.size : Int) then (some (Go.bits .or .u64 x5 (shl .u64 (IntKind.u64.wrap (Go.bits .and .u8 x7 127)) (wrap64 (7 * x6))), x0.extract ((wrap64 (x6 + 1)) : Int).toNat x0.size, 0)) else (none)) else (none))) else (if 0 ≤ (wrap64 (x6 + 1)) then (if (wrap64 (x6 + 1)) ≤ (x0.size : Int) then (some (Go.bits .or .u64 x5 (shl .u64 (IntKind.u64.wrap (Go.bits .and .u8 x7 127)) (wrap64 (7 * x6))), x0.extract ((wrap64 (x6 + 1)) : Int).toNat x0.size, 0)) else (none)) else (none)))) else (none))
end
def vari_Get.f (k : Nat) (a0 : ByteArray) : Option (Int × ByteArray × Int) := vari_Get.l100 k a0 0 0
theorem vari_Get.mono_l : ∀ k, (∀ y0 y1 y2, LeO (vari_Get.l100 k y0 y1 y2) (vari_Get.l100 (k + 1) y0 y1 y2)) ∧ (∀ y0 y1 y2 y3 y4, LeO (vari_Get.j1 k y0 y1 y2 y3 y4) (vari_Get.j1 (k + 1) y0 y1 y2 y3 y4))
  | 0 => ⟨fun _ _ _ r h => by simp [vari_Get.l100] at h, fun _ _ _ _ _ r h => by simp [vari_Get.j1] at h⟩
  | k + 1 => by
    obtain ⟨ih0, ih1⟩ := vari_Get.mono_l k
    refine ⟨?_, ?_⟩
    · intro y0 y1 y2
      unfold vari_Get.l100
      repeat' first
      | (with_reducible exact ih0 _ _ _)
      | (with_reducible exact ih1 _ _ _ _ _)
      | (with_reducible exact LeO.refl _)
      | (with_reducible exact LeO.none _)
      | (with_reducible refine LeO.ite ?_ ?_)
      | (with_reducible refine LeO.bind ?_ (fun _ => ?_))
      | exact ih0 _ _ _
      | exact ih1 _ _ _ _ _
      | exact LeO.none _
      | refine LeO.ite ?_ ?_
      | refine LeO.bind ?_ (fun _ => ?_)
    · intro y0 y1 y2 y3 y4
      unfold vari_Get.j1
      repeat' first
      | (with_reducible exact ih0 _ _ _)
      | (with_reducible exact ih1 _ _ _ _ _)
      | (with_reducible exact LeO.refl _)
      | (with_reducible exact LeO.none _)
      | (with_reducible refine LeO.ite ?_ ?_)
      | (with_reducible refine LeO.bind ?_ (fun _ => ?_))
      | exact ih0 _ _ _
      | exact ih1 _ _ _ _ _
      | exact LeO.none _
      | refine LeO.ite ?_ ?_
      | refine LeO.bind ?_ (fun _ => ?_)
theorem vari_Get.mono : ∀ a0 k, LeO (vari_Get.f k a0) (vari_Get.f (k + 1) a0) := by
  intro a0 k
  obtain ⟨ih0, ih1⟩ := vari_Get.mono_l k
  unfold vari_Get.f
  repeat' first
      | (with_reducible exact ih0 _ _ _)
      | (with_reducible exact ih1 _ _ _ _ _)
      | (with_reducible exact LeO.refl _)
      | (with_reducible exact LeO.none _)
      | (with_reducible refine LeO.ite ?_ ?_)
      | (with_reducible refine LeO.bind ?_ (fun _ => ?_))
      | exact ih0 _ _ _
      | exact ih1 _ _ _ _ _
      | exact LeO.none _
      | refine LeO.ite ?_ ?_
      | refine LeO.bind ?_ (fun _ => ?_)
set_option maxHeartbeats 8000000 in
set_option maxRecDepth 100000 in
theorem vari_Get.calls (k : Nat) (a0 : ByteArray) (r1 : Int) (r2 : ByteArray) (r3 : Int) (w : World) (h : vari_Get.f k a0 = some (r1, r2, r3)) :
    Calls Try.prog 14 #[.string a0] w fun e w' => e = .returned (.tuple #[.int .u64 r1, .string r2, .int .i64 r3]) ∧ Drawn0 w w' := by
  have H : (vari_Get.l100 k a0 0 0) = some (r1, r2, r3) := h
  clear h
  have HC2 := Aside0.mk H
  clear H
  go_enter Try.func14, Try.ntmps14
  go_wp2
  repeat (go_quiet (fail); try go_wp2)
  refine wp_scope_ghost (P := Try.prog) 0 (fun kq a_ wq_ => ∃ v2 v3 v4 v5 v6 v7 v8 v9 v10 v11 v12 v13 v14 v15 v16 v17 v18 v19 v20 v21 v22 v23 v24 v25 v26 v27 v28 v29 v30 v31 v32 v33 v34 v35 v36 v37 v38 v39 v40 v41 v42 : Value, (∃ (x5_g0 : Int) (x6_g0 : Int), v5 = .int .u64 x5_g0 ∧ v6 = .int .i64 x6_g0 ∧ Aside0 (vari_Get.l100 kq a0 x5_g0 x6_g0 = some (r1, r2, r3)) ∧ Aside0 (kq ≤ k) ∧ Drawn0 w wq_) ∧ a_ = { tmps := #[.string a0, undef, v2, v3, v4, v5, v6, v7, v8, v9, v10, v11, v12, v13, v14, v15, v16, v17, v18, v19, v20, v21, v22, v23, v24, v25, v26, v27, v28, v29, v30, v31, v32, v33, v34, v35, v36, v37, v38, v39, v40, v41, v42], defers := [] }) rfl ?round ?first
  case first =>
    intro hlab
    have H := HC2.out
    clear HC2
    have H' := Aside0.mk H
    clear H
    go_wp2
    repeat (go_quiet (fail); try go_wp2)
    go_step3
    (first | refine hlab k _ _ ?_ | (go_step; refine hlab k _ _ ?_) | (go_step; go_step; refine hlab k _ _ ?_))
    (repeat apply Exists.intro)
    refine ⟨?rel, rfl⟩
    case rel => exact ⟨(0), (0), (by first | rfl | (simp; done) | (simp [*]; done)), (by first | rfl | (simp; done) | (simp [*]; done)), H', ⟨Nat.le_refl _⟩, by repeat (first | exact Drawn0.refl _ | apply Drawn0.step)⟩
  case round =>
    try clear c1
    try clear p2
    intro gk a_ wr hinv J_ K_ hJ_ hK_
    obtain ⟨u2, u3, u4, u5, u6, u7, u8, u9, u10, u11, u12, u13, u14, u15, u16, u17, u18, u19, u20, u21, u22, u23, u24, u25, u26, u27, u28, u29, u30, u31, u32, u33, u34, u35, u36, u37, u38, u39, u40, u41, u42, hrel, ha_⟩ := hinv
    subst ha_
    (try dsimp only)
    (try clear HC2)
    obtain ⟨x5_g0, x6_g0, rfl, rfl, HA, HKg0, ⟨mg0, rfl⟩⟩ := hrel
    cases gk with
    | zero => exact absurd HA.out (by simp [vari_Get.l100])
    | succ kg0 =>
      have H := HA.out
      clear HA
      simp only [vari_Get.l100] at H
      by_cases c3 : x6_g0 = (a0.size : Int)
      · rw [if_pos c3] at H
        have c3b0 : (x6_g0 == (a0.size : Int)) = true := beq_iff_eq.mpr c3
        have c3b1 : (x6_g0 != (a0.size : Int)) = false := bne_eq_false_iff_eq.mpr c3
        clear c3
        simp only [Option.some.injEq, Prod.mk.injEq] at H
        obtain ⟨rfl, rfl, rfl⟩ := H
        go_wp2
        repeat (go_quiet (fail); try go_wp2)
        (try simp only [xjump_ret])
        go_ret3
        exact ⟨by first | rfl | (simp; done) | (simp [*]; done), by repeat (first | exact Drawn0.refl _ | apply Drawn0.step)⟩
      · rw [if_neg c3] at H
        have c3b0 : (x6_g0 == (a0.size : Int)) = false := beq_eq_false_iff_ne.mpr c3
        have c3b1 : (x6_g0 != (a0.size : Int)) = true := bne_iff_ne.mpr c3
        by_cases c4 : 0 ≤ x6_g0
        · rw [if_pos c4] at H
          have c4b0 : decide (0 ≤ x6_g0) = true := decide_eq_true c4
          clear c4
          by_cases c5 : x6_g0 < (a0.size : Int)
          · rw [if_pos c5] at H
            have c5b0 : decide (x6_g0 < (a0.size : Int)) = true := decide_eq_true c5
            clear c5
            have HC7 := Aside0.mk H
            clear H
            have p6 : 0 ≤ (x6_g0 : Int) := of_decide_eq_true (by first | (with_reducible assumption) | assumption)
            have q6 : x6_g0 < (a0.size : Int) := of_decide_eq_true (by first | (with_reducible assumption) | assumption)
            have hx6 := bt_at a0 x6_g0
            replace p6 := eq_true p6
            replace q6 := eq_true q6
            go_upto_region 5 with (fail)
            repeat (go_quiet (fail); go_upto_region 5 with (fail))
            go_cut [20] (fun v20 wc => ∃ (kq : Nat) (x20_6 : Bool), v20 = .bool x20_6 ∧ Aside0 (vari_Get.j1 kq a0 x5_g0 x6_g0 (bt a0 x6_g0) x20_6 = some (r1, r2, r3)) ∧ Aside0 (kq ≤ kg0) ∧ Drawn0 w wc)
            case first =>
              have H := HC7.out
              clear HC7
              by_cases c8 : x6_g0 = 9
              · rw [if_pos c8] at H
                have c8b0 : (x6_g0 == 9) = true := beq_iff_eq.mpr c8
                have c8b1 : (x6_g0 != 9) = false := bne_eq_false_iff_eq.mpr c8
                clear c8
                (first | rw [c8b0] | (simp only [i64_w, i32_w]; rw [c8b0]) | skip)
                have H' := Aside0.mk H
                clear H
                go_wp2
                repeat (go_quiet (fail); try go_wp2)
                go_meet
                case rel => exact ⟨_, (decide ((bt a0 x6_g0) > 1)), (by first | rfl | (simp; done) | (simp [*]; done)), H', ⟨by have := HKg0.out; first | omega | exact Nat.le_refl _⟩, by repeat (first | exact Drawn0.refl _ | apply Drawn0.step)⟩
              · rw [if_neg c8] at H
                have c8b0 : (x6_g0 == 9) = false := beq_eq_false_iff_ne.mpr c8
                have c8b1 : (x6_g0 != 9) = true := bne_iff_ne.mpr c8
                (first | rw [c8b0] | (simp only [i64_w, i32_w]; rw [c8b0]) | skip)
                have H' := Aside0.mk H
                clear H
                go_wp2
                repeat (go_quiet (fail); try go_wp2)
                go_meet
                case rel => exact ⟨_, (false), (by first | rfl | (simp; done) | (simp [*]; done)), H', ⟨by have := HKg0.out; first | omega | exact Nat.le_refl _⟩, by repeat (first | exact Drawn0.refl _ | apply Drawn0.step)⟩
            case rest =>
              clear HC7
              try clear c1
              try clear p2
              try clear c3
              try clear c3b0
              try clear c3b1
              try clear p3
              try clear c4
              try clear c4b0
              try clear c5
              try clear c5b0
              try clear p6
              try clear q6
              try clear hx6
              try clear c8
              try clear c8b0
              try clear c8b1
              try clear p2
              try clear p6
              try clear q6
              obtain ⟨kq, x20_6, rfl, HA, HJ6, ⟨mc6, rfl⟩⟩ := hcut
              cases kq with
              | zero => exact absurd HA.out (by simp [vari_Get.j1])
              | succ kj6 =>
                have H := HA.out
                clear HA
                simp only [vari_Get.j1] at H
                by_cases c9 : x20_6 = true
                · subst c9
                  have H1 : (some (0, (⟨#[]⟩ : ByteArray), 7)) = some (r1, r2, r3) := by rw [if_pos rfl] at H; exact H
                  clear H
                  have H := H1
                  clear H1
                  simp only [Option.some.injEq, Prod.mk.injEq] at H
                  obtain ⟨rfl, rfl, rfl⟩ := H
                  go_wp2
                  repeat (go_quiet (fail); try go_wp2)
                  (try simp only [xjump_ret])
                  go_ret3
                  exact ⟨by first | rfl | (simp; done) | (simp [*]; done), by repeat (first | exact Drawn0.refl _ | apply Drawn0.step)⟩
                · replace c9 := Bool.eq_false_iff.mpr c9
                  subst c9
                  have H1 : (if 0 ≤ (wrap64 (7 * x6_g0)) then (if (bt a0 x6_g0) ≥ 128 then (vari_Get.l100 kj6 a0 (Go.bits .or .u64 x5_g0 (shl .u64 (IntKind.u64.wrap (Go.bits .and .u8 (bt a0 x6_g0) 127)) (wrap64 (7 * x6_g0)))) (wrap64 (x6_g0 + 1))) else (if (bt a0 x6_g0) = 0 then (if (wrap64 (x6_g0 + 1)) > 1 then (some (0, (⟨#[]⟩ : ByteArray), 7)) else (if 0 ≤ (wrap64 (x6_g0 + 1)) then (if (wrap64 (x6_g0 + 1)) ≤ (a0.size : Int) then (some (Go.bits .or .u64 x5_g0 (shl .u64 (IntKind.u64.wrap (Go.bits .and .u8 (bt a0 x6_g0) 127)) (wrap64 (7 * x6_g0))), a0.extract ((wrap64 (x6_g0 + 1)) : Int).toNat a0.size, 0)) else (none)) else (none))) else (if 0 ≤ (wrap64 (x6_g0 + 1)) then (if (wrap64 (x6_g0 + 1)) ≤ (a0.size : Int) then (some (Go.bits .or .u64 x5_g0 (shl .u64 (IntKind.u64.wrap (Go.bits .and .u8 (bt a0 x6_g0) 127)) (wrap64 (7 * x6_g0))), a0.extract ((wrap64 (x6_g0 + 1)) : Int).toNat a0.size, 0)) else (none)) else (none)))) else (none)) = some (r1, r2, r3) := by rw [if_neg (show ¬ (false = true) by decide)] at H; exact H
                  clear H
                  have H := H1
                  clear H1
                  obtain ⟨ji10, hji10⟩ : ∃ j_ : Int, (wrap64 (7 * x6_g0)) = j_ := ⟨_, rfl⟩
                  replace H : (if 0 ≤ (ji10) then (if (bt a0 x6_g0) ≥ 128 then (vari_Get.l100 kj6 a0 (Go.bits .or .u64 x5_g0 (shl .u64 (IntKind.u64.wrap (Go.bits .and .u8 (bt a0 x6_g0) 127)) (ji10))) (wrap64 (x6_g0 + 1))) else (if (bt a0 x6_g0) = 0 then (if (wrap64 (x6_g0 + 1)) > 1 then (some (0, (⟨#[]⟩ : ByteArray), 7)) else (if 0 ≤ (wrap64 (x6_g0 + 1)) then (if (wrap64 (x6_g0 + 1)) ≤ (a0.size : Int) then (some (Go.bits .or .u64 x5_g0 (shl .u64 (IntKind.u64.wrap (Go.bits .and .u8 (bt a0 x6_g0) 127)) (ji10)), a0.extract ((wrap64 (x6_g0 + 1)) : Int).toNat a0.size, 0)) else (none)) else (none))) else (if 0 ≤ (wrap64 (x6_g0 + 1)) then (if (wrap64 (x6_g0 + 1)) ≤ (a0.size : Int) then (some (Go.bits .or .u64 x5_g0 (shl .u64 (IntKind.u64.wrap (Go.bits .and .u8 (bt a0 x6_g0) 127)) (ji10)), a0.extract ((wrap64 (x6_g0 + 1)) : Int).toNat a0.size, 0)) else (none)) else (none)))) else (none)) = some (r1, r2, r3) := by first | (rw [hji10] at H; exact H) | (simp only [hji10] at H ⊢; exact H)
                  have hji10w : (IntKind.i64.wrap (7 * x6_g0)) = ji10 := (i64_w _).trans hji10
                  by_cases c11 : 0 ≤ (ji10)
                  · rw [if_pos c11] at H
                    have c11b0 := eq_true c11
                    have c11b1 : decide (0 ≤ (ji10)) = true := decide_eq_true c11
                    clear c11
                    obtain ⟨ji12, hji12⟩ : ∃ j_ : Int, (shl .u64 (IntKind.u64.wrap (Go.bits .and .u8 (bt a0 x6_g0) 127)) (ji10)) = j_ := ⟨_, rfl⟩
                    replace H : (if (bt a0 x6_g0) ≥ 128 then (vari_Get.l100 kj6 a0 (Go.bits .or .u64 x5_g0 (ji12)) (wrap64 (x6_g0 + 1))) else (if (bt a0 x6_g0) = 0 then (if (wrap64 (x6_g0 + 1)) > 1 then (some (0, (⟨#[]⟩ : ByteArray), 7)) else (if 0 ≤ (wrap64 (x6_g0 + 1)) then (if (wrap64 (x6_g0 + 1)) ≤ (a0.size : Int) then (some (Go.bits .or .u64 x5_g0 (ji12), a0.extract ((wrap64 (x6_g0 + 1)) : Int).toNat a0.size, 0)) else (none)) else (none))) else (if 0 ≤ (wrap64 (x6_g0 + 1)) then (if (wrap64 (x6_g0 + 1)) ≤ (a0.size : Int) then (some (Go.bits .or .u64 x5_g0 (ji12), a0.extract ((wrap64 (x6_g0 + 1)) : Int).toNat a0.size, 0)) else (none)) else (none)))) = some (r1, r2, r3) := by first | (rw [hji12] at H; exact H) | (simp only [hji12] at H ⊢; exact H)
                    have hji12_ : (IntKind.u64.wrap ((IntKind.u64.wrap (Go.bits .and .u8 (bt a0 x6_g0) 127)) * 2 ^ min (ji10).toNat 64)) = ji12 := hji12
                    have hji12z : (ji10) ≤ 64 → (IntKind.u64.wrap ((IntKind.u64.wrap (Go.bits .and .u8 (bt a0 x6_g0) 127)) * 2 ^ (ji10).toNat)) = ji12 := shl_small hji12
                    by_cases c13 : (bt a0 x6_g0) ≥ 128
                    · rw [if_pos c13] at H
                      have c13b0 : decide (128 ≤ (bt a0 x6_g0)) = true := decide_eq_true c13
                      clear c13
                      have H' := Aside0.mk H
                      clear H
                      go_wp2
                      repeat (go_quiet (fail); try go_wp2)
                      go_step3
                      refine ⟨rfl, ?_⟩
                      refine hK_ _ _ ?_
                      refine Handed.intro kj6 ?measure ?_
                      rotate_left
                      refine hJ_ _ _ _ ?_
                      (repeat apply Exists.intro)
                      refine ⟨?rel, rfl⟩
                      case measure => have := HKg0.out; have := HJ6.out; omega
                      case rel => exact ⟨(Go.bits .or .u64 x5_g0 (ji12)), (wrap64 (x6_g0 + 1)), (by first | rfl | (simp; done) | (simp only [← hji12] <;> (first | rfl | simp)) | (simp [*]; done)), (by first | rfl | (simp; done) | (simp [*]; done)), H', ⟨by have := HKg0.out; have := HJ6.out; omega⟩, by repeat (first | exact Drawn0.refl _ | apply Drawn0.step)⟩
                    · rw [if_neg c13] at H
                      have c13b0 : decide (128 ≤ (bt a0 x6_g0)) = false := decide_eq_false c13
                      clear c13
                      by_cases c14 : (bt a0 x6_g0) = 0
                      · rw [if_pos c14] at H
                        have c14b0 : ((bt a0 x6_g0) == 0) = true := beq_iff_eq.mpr c14
                        have c14b1 : ((bt a0 x6_g0) != 0) = false := bne_eq_false_iff_eq.mpr c14
                        clear c14
                        by_cases c15 : (wrap64 (x6_g0 + 1)) > 1
                        · rw [if_pos c15] at H
                          have c15b0 : decide (1 < (wrap64 (x6_g0 + 1))) = true := decide_eq_true c15
                          clear c15
                          simp only [Option.some.injEq, Prod.mk.injEq] at H
                          obtain ⟨rfl, rfl, rfl⟩ := H
                          go_wp2
                          repeat (go_quiet (fail); try go_wp2)
                          (try simp only [xjump_ret])
                          go_ret3
                          exact ⟨by first | rfl | (simp; done) | (simp only [← hji10, ← hji12] <;> (first | rfl | simp)) | (simp [*]; done), by repeat (first | exact Drawn0.refl _ | apply Drawn0.step)⟩
                        · rw [if_neg c15] at H
                          have c15b0 : decide (1 < (wrap64 (x6_g0 + 1))) = false := decide_eq_false c15
                          clear c15
                          obtain ⟨ji16, hji16⟩ : ∃ j_ : Int, (wrap64 (x6_g0 + 1)) = j_ := ⟨_, rfl⟩
                          replace H : (if 0 ≤ (ji16) then (if (ji16) ≤ (a0.size : Int) then (some (Go.bits .or .u64 x5_g0 (ji12), a0.extract ((ji16) : Int).toNat a0.size, 0)) else (none)) else (none)) = some (r1, r2, r3) := by first | (rw [hji16] at H; exact H) | (simp only [hji16] at H ⊢; exact H)
                          (try rw [hji16] at c15b0)
                          have hji16w : (IntKind.i64.wrap (x6_g0 + 1)) = ji16 := (i64_w _).trans hji16
                          by_cases c17 : 0 ≤ (ji16)
                          · rw [if_pos c17] at H
                            have c17b0 := eq_true c17
                            have c17b1 : decide (0 ≤ (ji16)) = true := decide_eq_true c17
                            clear c17
                            by_cases c18 : (ji16) ≤ (a0.size : Int)
                            · rw [if_pos c18] at H
                              have c18b0 := eq_true c18
                              have c18b1 : decide ((ji16) ≤ (a0.size : Int)) = true := decide_eq_true c18
                              clear c18
                              simp only [Option.some.injEq, Prod.mk.injEq] at H
                              obtain ⟨rfl, rfl, rfl⟩ := H
                              go_wp2
                              repeat (go_quiet (fail); try go_wp2)
                              (try simp only [xjump_ret])
                              go_ret3
                              exact ⟨by first | rfl | (simp; done) | (simp only [← hji10, ← hji12, ← hji16] <;> (first | rfl | simp)) | (simp [*]; done), by repeat (first | exact Drawn0.refl _ | apply Drawn0.step)⟩
                            · rw [if_neg c18] at H
                              exact absurd H (by simp)
                          · rw [if_neg c17] at H
                            exact absurd H (by simp)
                      · rw [if_neg c14] at H
                        have c14b0 : ((bt a0 x6_g0) == 0) = false := beq_eq_false_iff_ne.mpr c14
                        have c14b1 : ((bt a0 x6_g0) != 0) = true := bne_iff_ne.mpr c14
                        obtain ⟨ji19, hji19⟩ : ∃ j_ : Int, (wrap64 (x6_g0 + 1)) = j_ := ⟨_, rfl⟩
                        replace H : (if 0 ≤ (ji19) then (if (ji19) ≤ (a0.size : Int) then (some (Go.bits .or .u64 x5_g0 (ji12), a0.extract ((ji19) : Int).toNat a0.size, 0)) else (none)) else (none)) = some (r1, r2, r3) := by first | (rw [hji19] at H; exact H) | (simp only [hji19] at H ⊢; exact H)
                        have hji19w : (IntKind.i64.wrap (x6_g0 + 1)) = ji19 := (i64_w _).trans hji19
                        by_cases c20 : 0 ≤ (ji19)
                        · rw [if_pos c20] at H
                          have c20b0 := eq_true c20
                          have c20b1 : decide (0 ≤ (ji19)) = true := decide_eq_true c20
                          clear c20
                          by_cases c21 : (ji19) ≤ (a0.size : Int)
                          · rw [if_pos c21] at H
                            have c21b0 := eq_true c21
                            have c21b1 : decide ((ji19) ≤ (a0.size : Int)) = true := decide_eq_true c21
                            clear c21
                            simp only [Option.some.injEq, Prod.mk.injEq] at H
                            obtain ⟨rfl, rfl, rfl⟩ := H
                            go_wp2
                            repeat (go_quiet (fail); try go_wp2)
                            (try simp only [xjump_ret])
                            go_ret3
                            exact ⟨by first | rfl | (simp; done) | (simp only [← hji10, ← hji12, ← hji19] <;> (first | rfl | simp)) | (simp [*]; done), by repeat (first | exact Drawn0.refl _ | apply Drawn0.step)⟩
                          · rw [if_neg c21] at H
                            exact absurd H (by simp)
                        · rw [if_neg c20] at H
                          exact absurd H (by simp)
                  · rw [if_neg c11] at H
                    exact absurd H (by simp)
          · rw [if_neg c5] at H
            exact absurd H (by simp)
        · rw [if_neg c4] at H
          exact absurd H (by simp)

end Go.Proofs.Ytienpgbbjahadaa.PA
