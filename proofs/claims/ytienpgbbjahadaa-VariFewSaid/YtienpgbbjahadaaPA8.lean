/- The functions that the laws use, as plain Lean functions, and that the calls of the program answer so; written by xprint.py. -/
import Derived.Test.YtienpgbbjahadaaPA0
import Derived.Test.YtienpgbbjahadaaPA4
import Derived.Test.YtienpgbbjahadaaPA5
namespace Go.Proofs.Ytienpgbbjahadaa.PA
open Go.RowKit Go.Proofs.YtienpgbbjahadaaX Go.Proofs.YtienpgbbjahadaaW.PrintWords Go.Proofs.YtienpgbbjahadaaW.PrintLast Go.Proofs.YtienpgbbjahadaaW.PrintMore
attribute [local go_sem] max2_int min2_int max_two min_two max_three min_three max_four min_four xjump_ret xjump_normal xjump_exit xjump_panic xjump_goto   -- for this text's walks alone
set_option linter.unusedVariables false
set_option linter.unusedSimpArgs false

/-! ### missivelaw01_VariFew: function 6 -/
def missivelaw01_VariFew.f (k : Nat) (a0 : Int) (a1 : Int) (a2 : Int) : Option (Bool) := (missivelaw01_numbers.f k).bind fun t159 => (if t159 = true then ((vari_Size.f a0).bind fun t160 => ((vari_Size.f a1).bind fun t161 => (if a2 < 1 then (if a0 = a1 then (if ((decide (a0 ≤ a1)) == true) = true then (if t160 ≥ 1 then (some (decide (t160 ≤ 10))) else (some false)) else (some false)) else (if ((decide (a0 ≤ a1)) == (decide (a0 < a1))) = true then (if t160 ≥ 1 then (some (decide (t160 ≤ 10))) else (some false)) else (some false))) else (if a2 > 9 then (if a0 = a1 then (if ((decide (a0 ≤ a1)) == true) = true then (if t160 ≥ 1 then (some (decide (t160 ≤ 10))) else (some false)) else (some false)) else (if ((decide (a0 ≤ a1)) == (decide (a0 < a1))) = true then (if t160 ≥ 1 then (some (decide (t160 ≤ 10))) else (some false)) else (some false))) else (if a0 > a1 then (if a0 < a1 then (if 0 ≤ (IntKind.u64.wrap (wrap64 (7 * a2))) then (some (((shr .u64 a0 (IntKind.u64.wrap (wrap64 (7 * a2)))) == 0) == (decide (t160 ≤ a2)))) else (none)) else (if t160 ≥ t161 then (if 0 ≤ (IntKind.u64.wrap (wrap64 (7 * a2))) then (some (((shr .u64 a0 (IntKind.u64.wrap (wrap64 (7 * a2)))) == 0) == (decide (t160 ≤ a2)))) else (none)) else (some false))) else (if t160 ≤ t161 then (if a0 < a1 then (if 0 ≤ (IntKind.u64.wrap (wrap64 (7 * a2))) then (some (((shr .u64 a0 (IntKind.u64.wrap (wrap64 (7 * a2)))) == 0) == (decide (t160 ≤ a2)))) else (none)) else (if t160 ≥ t161 then (if 0 ≤ (IntKind.u64.wrap (wrap64 (7 * a2))) then (some (((shr .u64 a0 (IntKind.u64.wrap (wrap64 (7 * a2)))) == 0) == (decide (t160 ≤ a2)))) else (none)) else (some false))) else (some false))))))) else (some false))
theorem missivelaw01_VariFew.mono : ∀ a0 a1 a2 k, LeO (missivelaw01_VariFew.f k a0 a1 a2) (missivelaw01_VariFew.f (k + 1) a0 a1 a2) := by
  intro a0 a1 a2 k
  unfold missivelaw01_VariFew.f
  repeat' first
      | (with_reducible exact missivelaw01_numbers.mono _)
      | (with_reducible exact LeO.refl _)
      | (with_reducible exact LeO.none _)
      | (with_reducible refine LeO.ite ?_ ?_)
      | (with_reducible refine LeO.bind ?_ (fun _ => ?_))
      | exact missivelaw01_numbers.mono _
      | exact LeO.none _
      | refine LeO.ite ?_ ?_
      | refine LeO.bind ?_ (fun _ => ?_)
set_option maxHeartbeats 8000000 in
set_option maxRecDepth 100000 in
theorem missivelaw01_VariFew.calls (k : Nat) (a0 : Int) (a1 : Int) (a2 : Int) (r : Bool) (w : World) (h : missivelaw01_VariFew.f k a0 a1 a2 = some r) :
    Calls Try.prog 6 #[.int .u64 a0, .int .u64 a1, .int .i64 a2] w fun e w' => e = .returned (.bool r) ∧ Below w.heap.size w w' := by
  have HB := Aside0.mk (Below.refl w.heap.size w)
  have H : ((missivelaw01_numbers.f k).bind fun t159 => (if t159 = true then ((vari_Size.f a0).bind fun t160 => ((vari_Size.f a1).bind fun t161 => (if a2 < 1 then (if a0 = a1 then (if ((decide (a0 ≤ a1)) == true) = true then (if t160 ≥ 1 then (some (decide (t160 ≤ 10))) else (some false)) else (some false)) else (if ((decide (a0 ≤ a1)) == (decide (a0 < a1))) = true then (if t160 ≥ 1 then (some (decide (t160 ≤ 10))) else (some false)) else (some false))) else (if a2 > 9 then (if a0 = a1 then (if ((decide (a0 ≤ a1)) == true) = true then (if t160 ≥ 1 then (some (decide (t160 ≤ 10))) else (some false)) else (some false)) else (if ((decide (a0 ≤ a1)) == (decide (a0 < a1))) = true then (if t160 ≥ 1 then (some (decide (t160 ≤ 10))) else (some false)) else (some false))) else (if a0 > a1 then (if a0 < a1 then (if 0 ≤ (IntKind.u64.wrap (wrap64 (7 * a2))) then (some (((shr .u64 a0 (IntKind.u64.wrap (wrap64 (7 * a2)))) == 0) == (decide (t160 ≤ a2)))) else (none)) else (if t160 ≥ t161 then (if 0 ≤ (IntKind.u64.wrap (wrap64 (7 * a2))) then (some (((shr .u64 a0 (IntKind.u64.wrap (wrap64 (7 * a2)))) == 0) == (decide (t160 ≤ a2)))) else (none)) else (some false))) else (if t160 ≤ t161 then (if a0 < a1 then (if 0 ≤ (IntKind.u64.wrap (wrap64 (7 * a2))) then (some (((shr .u64 a0 (IntKind.u64.wrap (wrap64 (7 * a2)))) == 0) == (decide (t160 ≤ a2)))) else (none)) else (if t160 ≥ t161 then (if 0 ≤ (IntKind.u64.wrap (wrap64 (7 * a2))) then (some (((shr .u64 a0 (IntKind.u64.wrap (wrap64 (7 * a2)))) == 0) == (decide (t160 ≤ a2)))) else (none)) else (some false))) else (some false))))))) else (some false))) = some r := h
  clear h
  replace H := Option.bind_eq_some_iff.mp H
  obtain ⟨t159, A40, H⟩ := H
  replace H : (if t159 = true then ((vari_Size.f a0).bind fun t160 => ((vari_Size.f a1).bind fun t161 => (if a2 < 1 then (if a0 = a1 then (if ((decide (a0 ≤ a1)) == true) = true then (if t160 ≥ 1 then (some (decide (t160 ≤ 10))) else (some false)) else (some false)) else (if ((decide (a0 ≤ a1)) == (decide (a0 < a1))) = true then (if t160 ≥ 1 then (some (decide (t160 ≤ 10))) else (some false)) else (some false))) else (if a2 > 9 then (if a0 = a1 then (if ((decide (a0 ≤ a1)) == true) = true then (if t160 ≥ 1 then (some (decide (t160 ≤ 10))) else (some false)) else (some false)) else (if ((decide (a0 ≤ a1)) == (decide (a0 < a1))) = true then (if t160 ≥ 1 then (some (decide (t160 ≤ 10))) else (some false)) else (some false))) else (if a0 > a1 then (if a0 < a1 then (if 0 ≤ (IntKind.u64.wrap (wrap64 (7 * a2))) then (some (((shr .u64 a0 (IntKind.u64.wrap (wrap64 (7 * a2)))) == 0) == (decide (t160 ≤ a2)))) else (none)) else (if t160 ≥ t161 then (if 0 ≤ (IntKind.u64.wrap (wrap64 (7 * a2))) then (some (((shr .u64 a0 (IntKind.u64.wrap (wrap64 (7 * a2)))) == 0) == (decide (t160 ≤ a2)))) else (none)) else (some false))) else (if t160 ≤ t161 then (if a0 < a1 then (if 0 ≤ (IntKind.u64.wrap (wrap64 (7 * a2))) then (some (((shr .u64 a0 (IntKind.u64.wrap (wrap64 (7 * a2)))) == 0) == (decide (t160 ≤ a2)))) else (none)) else (if t160 ≥ t161 then (if 0 ≤ (IntKind.u64.wrap (wrap64 (7 * a2))) then (some (((shr .u64 a0 (IntKind.u64.wrap (wrap64 (7 * a2)))) == 0) == (decide (t160 ≤ a2)))) else (none)) else (some false))) else (some false))))))) else (some false)) = some r := H
  have A4 := Aside0.mk A40
  clear A40
  by_cases c5 : t159 = true
  · subst c5
    have H1 : ((vari_Size.f a0).bind fun t160 => ((vari_Size.f a1).bind fun t161 => (if a2 < 1 then (if a0 = a1 then (if ((decide (a0 ≤ a1)) == true) = true then (if t160 ≥ 1 then (some (decide (t160 ≤ 10))) else (some false)) else (some false)) else (if ((decide (a0 ≤ a1)) == (decide (a0 < a1))) = true then (if t160 ≥ 1 then (some (decide (t160 ≤ 10))) else (some false)) else (some false))) else (if a2 > 9 then (if a0 = a1 then (if ((decide (a0 ≤ a1)) == true) = true then (if t160 ≥ 1 then (some (decide (t160 ≤ 10))) else (some false)) else (some false)) else (if ((decide (a0 ≤ a1)) == (decide (a0 < a1))) = true then (if t160 ≥ 1 then (some (decide (t160 ≤ 10))) else (some false)) else (some false))) else (if a0 > a1 then (if a0 < a1 then (if 0 ≤ (IntKind.u64.wrap (wrap64 (7 * a2))) then (some (((shr .u64 a0 (IntKind.u64.wrap (wrap64 (7 * a2)))) == 0) == (decide (t160 ≤ a2)))) else (none)) else (if t160 ≥ t161 then (if 0 ≤ (IntKind.u64.wrap (wrap64 (7 * a2))) then (some (((shr .u64 a0 (IntKind.u64.wrap (wrap64 (7 * a2)))) == 0) == (decide (t160 ≤ a2)))) else (none)) else (some false))) else (if t160 ≤ t161 then (if a0 < a1 then (if 0 ≤ (IntKind.u64.wrap (wrap64 (7 * a2))) then (some (((shr .u64 a0 (IntKind.u64.wrap (wrap64 (7 * a2)))) == 0) == (decide (t160 ≤ a2)))) else (none)) else (if t160 ≥ t161 then (if 0 ≤ (IntKind.u64.wrap (wrap64 (7 * a2))) then (some (((shr .u64 a0 (IntKind.u64.wrap (wrap64 (7 * a2)))) == 0) == (decide (t160 ≤ a2)))) else (none)) else (some false))) else (some false))))))) = some r := by rw [if_pos rfl] at H; exact H
    clear H
    have H := H1
    clear H1
    replace H := Option.bind_eq_some_iff.mp H
    obtain ⟨t160, A60, H⟩ := H
    replace H : ((vari_Size.f a1).bind fun t161 => (if a2 < 1 then (if a0 = a1 then (if ((decide (a0 ≤ a1)) == true) = true then (if t160 ≥ 1 then (some (decide (t160 ≤ 10))) else (some false)) else (some false)) else (if ((decide (a0 ≤ a1)) == (decide (a0 < a1))) = true then (if t160 ≥ 1 then (some (decide (t160 ≤ 10))) else (some false)) else (some false))) else (if a2 > 9 then (if a0 = a1 then (if ((decide (a0 ≤ a1)) == true) = true then (if t160 ≥ 1 then (some (decide (t160 ≤ 10))) else (some false)) else (some false)) else (if ((decide (a0 ≤ a1)) == (decide (a0 < a1))) = true then (if t160 ≥ 1 then (some (decide (t160 ≤ 10))) else (some false)) else (some false))) else (if a0 > a1 then (if a0 < a1 then (if 0 ≤ (IntKind.u64.wrap (wrap64 (7 * a2))) then (some (((shr .u64 a0 (IntKind.u64.wrap (wrap64 (7 * a2)))) == 0) == (decide (t160 ≤ a2)))) else (none)) else (if t160 ≥ t161 then (if 0 ≤ (IntKind.u64.wrap (wrap64 (7 * a2))) then (some (((shr .u64 a0 (IntKind.u64.wrap (wrap64 (7 * a2)))) == 0) == (decide (t160 ≤ a2)))) else (none)) else (some false))) else (if t160 ≤ t161 then (if a0 < a1 then (if 0 ≤ (IntKind.u64.wrap (wrap64 (7 * a2))) then (some (((shr .u64 a0 (IntKind.u64.wrap (wrap64 (7 * a2)))) == 0) == (decide (t160 ≤ a2)))) else (none)) else (if t160 ≥ t161 then (if 0 ≤ (IntKind.u64.wrap (wrap64 (7 * a2))) then (some (((shr .u64 a0 (IntKind.u64.wrap (wrap64 (7 * a2)))) == 0) == (decide (t160 ≤ a2)))) else (none)) else (some false))) else (some false)))))) = some r := H
    have A6 := Aside0.mk A60
    clear A60
    replace H := Option.bind_eq_some_iff.mp H
    obtain ⟨t161, A70, H⟩ := H
    replace H : (if a2 < 1 then (if a0 = a1 then (if ((decide (a0 ≤ a1)) == true) = true then (if t160 ≥ 1 then (some (decide (t160 ≤ 10))) else (some false)) else (some false)) else (if ((decide (a0 ≤ a1)) == (decide (a0 < a1))) = true then (if t160 ≥ 1 then (some (decide (t160 ≤ 10))) else (some false)) else (some false))) else (if a2 > 9 then (if a0 = a1 then (if ((decide (a0 ≤ a1)) == true) = true then (if t160 ≥ 1 then (some (decide (t160 ≤ 10))) else (some false)) else (some false)) else (if ((decide (a0 ≤ a1)) == (decide (a0 < a1))) = true then (if t160 ≥ 1 then (some (decide (t160 ≤ 10))) else (some false)) else (some false))) else (if a0 > a1 then (if a0 < a1 then (if 0 ≤ (IntKind.u64.wrap (wrap64 (7 * a2))) then (some (((shr .u64 a0 (IntKind.u64.wrap (wrap64 (7 * a2)))) == 0) == (decide (t160 ≤ a2)))) else (none)) else (if t160 ≥ t161 then (if 0 ≤ (IntKind.u64.wrap (wrap64 (7 * a2))) then (some (((shr .u64 a0 (IntKind.u64.wrap (wrap64 (7 * a2)))) == 0) == (decide (t160 ≤ a2)))) else (none)) else (some false))) else (if t160 ≤ t161 then (if a0 < a1 then (if 0 ≤ (IntKind.u64.wrap (wrap64 (7 * a2))) then (some (((shr .u64 a0 (IntKind.u64.wrap (wrap64 (7 * a2)))) == 0) == (decide (t160 ≤ a2)))) else (none)) else (if t160 ≥ t161 then (if 0 ≤ (IntKind.u64.wrap (wrap64 (7 * a2))) then (some (((shr .u64 a0 (IntKind.u64.wrap (wrap64 (7 * a2)))) == 0) == (decide (t160 ≤ a2)))) else (none)) else (some false))) else (some false))))) = some r := H
    have A7 := Aside0.mk A70
    clear A70
    by_cases c8 : a2 < 1
    · rw [if_pos c8] at H
      have c8b0 : decide (a2 < 1) = true := decide_eq_true c8
      clear c8
      by_cases c9 : a0 = a1
      · rw [if_pos c9] at H
        have c9b0 : (a0 == a1) = true := beq_iff_eq.mpr c9
        have c9b1 : (a0 != a1) = false := bne_eq_false_iff_eq.mpr c9
        clear c9
        by_cases c10 : ((decide (a0 ≤ a1)) == true) = true
        · rw [if_pos c10] at H
          have c10b0 : ((decide (a0 ≤ a1)) == true) = true := c10
          (try (have c10b1 : decide ((decide (a0 ≤ a1)) = true) = true := by simpa using c10))
          (try (have c10b2 : ((decide (a0 ≤ a1)) == true) = true := by simpa using c10))
          clear c10
          by_cases c11 : t160 ≥ 1
          · rw [if_pos c11] at H
            have c11b0 : decide (1 ≤ t160) = true := decide_eq_true c11
            clear c11
            obtain rfl := Option.some.inj H
            go_enter Try.func6, Try.ntmps6
            go_wp2_with (first | ((with_reducible refine gate_callee (f := 16) rfl ?_); refine goesL_ (some 9) rfl rfl Try.func16 (by kernel_rfl) rfl #[] rfl (by (try simp only [List.map_toArray, List.map_cons, List.map_nil]); first | done | rfl | (simp only [List.length_drop, List.length_take]; rfl)) ?_; (with_reducible refine (missivelaw01_numbers.calls k  true _ A4.out).mono ?_); rintro e w12 ⟨rfl, hb⟩; refine ⟨_, rfl, ?_⟩; have n0_ := Aside0.mk (below_step (by repeat (first | (with_reducible first | exact HB.out | apply below_alloc | apply pw_below_drewN | apply below_drew1) | exact HB.out)) hb); clear HB; have HB := n0_; clear n0_; (try clear hb); (try clear hb2); (try clear hk); (try clear hi)) | ((with_reducible refine gate_callee (f := 19) rfl ?_); refine goesL_ (some 12) rfl rfl Try.func19 (by kernel_rfl) rfl #[.int .u64 a0] rfl (by (try simp only [List.map_toArray, List.map_cons, List.map_nil]); first | done | rfl | (simp only [List.length_drop, List.length_take]; rfl)) ?_; (with_reducible refine (vari_Size.calls a0 t160 _ A6.out).mono ?_); rintro e w13 ⟨rfl, hb⟩; refine ⟨_, rfl, ?_⟩; have n0_ := Aside0.mk (below_step (by repeat (first | (with_reducible first | exact HB.out | apply below_alloc | apply pw_below_drewN | apply below_drew1) | exact HB.out)) hb); clear HB; have HB := n0_; clear n0_; (try clear hb); (try clear hb2); (try clear hk); (try clear hi)) | ((with_reducible refine gate_callee (f := 19) rfl ?_); refine goesL_ (some 14) rfl rfl Try.func19 (by kernel_rfl) rfl #[.int .u64 a1] rfl (by (try simp only [List.map_toArray, List.map_cons, List.map_nil]); first | done | rfl | (simp only [List.length_drop, List.length_take]; rfl)) ?_; (with_reducible refine (vari_Size.calls a1 t161 _ A7.out).mono ?_); rintro e w14 ⟨rfl, hb⟩; refine ⟨_, rfl, ?_⟩; have n0_ := Aside0.mk (below_step (by repeat (first | (with_reducible first | exact HB.out | apply below_alloc | apply pw_below_drewN | apply below_drew1) | exact HB.out)) hb); clear HB; have HB := n0_; clear n0_; (try clear hb); (try clear hb2); (try clear hk); (try clear hi)))
            go_ret
            exact ⟨by first | rfl | (simp [errW_none, errW_some] <;> rfl) | (simp [*, errW_none, errW_some] <;> rfl), by repeat (first | (with_reducible first | exact HB.out | apply below_alloc | apply pw_below_drewN | apply below_drew1) | exact HB.out)⟩
          · rw [if_neg c11] at H
            have c11b0 : decide (1 ≤ t160) = false := decide_eq_false c11
            clear c11
            obtain rfl := Option.some.inj H
            go_enter Try.func6, Try.ntmps6
            go_wp2_with (first | ((with_reducible refine gate_callee (f := 16) rfl ?_); refine goesL_ (some 9) rfl rfl Try.func16 (by kernel_rfl) rfl #[] rfl (by (try simp only [List.map_toArray, List.map_cons, List.map_nil]); first | done | rfl | (simp only [List.length_drop, List.length_take]; rfl)) ?_; (with_reducible refine (missivelaw01_numbers.calls k  true _ A4.out).mono ?_); rintro e w15 ⟨rfl, hb⟩; refine ⟨_, rfl, ?_⟩; have n0_ := Aside0.mk (below_step (by repeat (first | (with_reducible first | exact HB.out | apply below_alloc | apply pw_below_drewN | apply below_drew1) | exact HB.out)) hb); clear HB; have HB := n0_; clear n0_; (try clear hb); (try clear hb2); (try clear hk); (try clear hi)) | ((with_reducible refine gate_callee (f := 19) rfl ?_); refine goesL_ (some 12) rfl rfl Try.func19 (by kernel_rfl) rfl #[.int .u64 a0] rfl (by (try simp only [List.map_toArray, List.map_cons, List.map_nil]); first | done | rfl | (simp only [List.length_drop, List.length_take]; rfl)) ?_; (with_reducible refine (vari_Size.calls a0 t160 _ A6.out).mono ?_); rintro e w16 ⟨rfl, hb⟩; refine ⟨_, rfl, ?_⟩; have n0_ := Aside0.mk (below_step (by repeat (first | (with_reducible first | exact HB.out | apply below_alloc | apply pw_below_drewN | apply below_drew1) | exact HB.out)) hb); clear HB; have HB := n0_; clear n0_; (try clear hb); (try clear hb2); (try clear hk); (try clear hi)) | ((with_reducible refine gate_callee (f := 19) rfl ?_); refine goesL_ (some 14) rfl rfl Try.func19 (by kernel_rfl) rfl #[.int .u64 a1] rfl (by (try simp only [List.map_toArray, List.map_cons, List.map_nil]); first | done | rfl | (simp only [List.length_drop, List.length_take]; rfl)) ?_; (with_reducible refine (vari_Size.calls a1 t161 _ A7.out).mono ?_); rintro e w17 ⟨rfl, hb⟩; refine ⟨_, rfl, ?_⟩; have n0_ := Aside0.mk (below_step (by repeat (first | (with_reducible first | exact HB.out | apply below_alloc | apply pw_below_drewN | apply below_drew1) | exact HB.out)) hb); clear HB; have HB := n0_; clear n0_; (try clear hb); (try clear hb2); (try clear hk); (try clear hi)))
            go_ret
            exact ⟨by first | rfl | (simp [errW_none, errW_some] <;> rfl) | (simp [*, errW_none, errW_some] <;> rfl), by repeat (first | (with_reducible first | exact HB.out | apply below_alloc | apply pw_below_drewN | apply below_drew1) | exact HB.out)⟩
        · rw [if_neg c10] at H
          have c10b0 : ((decide (a0 ≤ a1)) == true) = false := by simpa using c10
          (try (have c10b1 : decide ((decide (a0 ≤ a1)) = true) = false := by simpa using c10))
          (try (have c10b2 : ((decide (a0 ≤ a1)) == true) = false := by simpa using c10))
          (try (have c10b3 : ¬ ((decide (a0 ≤ a1)) = true) := by simpa using c10))
          clear c10
          obtain rfl := Option.some.inj H
          go_enter Try.func6, Try.ntmps6
          go_wp2_with (first | ((with_reducible refine gate_callee (f := 16) rfl ?_); refine goesL_ (some 9) rfl rfl Try.func16 (by kernel_rfl) rfl #[] rfl (by (try simp only [List.map_toArray, List.map_cons, List.map_nil]); first | done | rfl | (simp only [List.length_drop, List.length_take]; rfl)) ?_; (with_reducible refine (missivelaw01_numbers.calls k  true _ A4.out).mono ?_); rintro e w18 ⟨rfl, hb⟩; refine ⟨_, rfl, ?_⟩; have n0_ := Aside0.mk (below_step (by repeat (first | (with_reducible first | exact HB.out | apply below_alloc | apply pw_below_drewN | apply below_drew1) | exact HB.out)) hb); clear HB; have HB := n0_; clear n0_; (try clear hb); (try clear hb2); (try clear hk); (try clear hi)) | ((with_reducible refine gate_callee (f := 19) rfl ?_); refine goesL_ (some 12) rfl rfl Try.func19 (by kernel_rfl) rfl #[.int .u64 a0] rfl (by (try simp only [List.map_toArray, List.map_cons, List.map_nil]); first | done | rfl | (simp only [List.length_drop, List.length_take]; rfl)) ?_; (with_reducible refine (vari_Size.calls a0 t160 _ A6.out).mono ?_); rintro e w19 ⟨rfl, hb⟩; refine ⟨_, rfl, ?_⟩; have n0_ := Aside0.mk (below_step (by repeat (first | (with_reducible first | exact HB.out | apply below_alloc | apply pw_below_drewN | apply below_drew1) | exact HB.out)) hb); clear HB; have HB := n0_; clear n0_; (try clear hb); (try clear hb2); (try clear hk); (try clear hi)) | ((with_reducible refine gate_callee (f := 19) rfl ?_); refine goesL_ (some 14) rfl rfl Try.func19 (by kernel_rfl) rfl #[.int .u64 a1] rfl (by (try simp only [List.map_toArray, List.map_cons, List.map_nil]); first | done | rfl | (simp only [List.length_drop, List.length_take]; rfl)) ?_; (with_reducible refine (vari_Size.calls a1 t161 _ A7.out).mono ?_); rintro e w20 ⟨rfl, hb⟩; refine ⟨_, rfl, ?_⟩; have n0_ := Aside0.mk (below_step (by repeat (first | (with_reducible first | exact HB.out | apply below_alloc | apply pw_below_drewN | apply below_drew1) | exact HB.out)) hb); clear HB; have HB := n0_; clear n0_; (try clear hb); (try clear hb2); (try clear hk); (try clear hi)))
          go_ret
          exact ⟨by first | rfl | (simp [errW_none, errW_some] <;> rfl) | (simp [*, errW_none, errW_some] <;> rfl), by repeat (first | (with_reducible first | exact HB.out | apply below_alloc | apply pw_below_drewN | apply below_drew1) | exact HB.out)⟩
      · rw [if_neg c9] at H
        have c9b0 : (a0 == a1) = false := beq_eq_false_iff_ne.mpr c9
        have c9b1 : (a0 != a1) = true := bne_iff_ne.mpr c9
        by_cases c21 : ((decide (a0 ≤ a1)) == (decide (a0 < a1))) = true
        · rw [if_pos c21] at H
          have c21b0 : ((decide (a0 ≤ a1)) == (decide (a0 < a1))) = true := c21
          (try (have c21b1 : decide ((decide (a0 ≤ a1)) = (decide (a0 < a1))) = true := by simpa using c21))
          (try (have c21b2 : ((decide (a0 ≤ a1)) == (decide (a0 < a1))) = true := by simpa using c21))
          clear c21
          by_cases c22 : t160 ≥ 1
          · rw [if_pos c22] at H
            have c22b0 : decide (1 ≤ t160) = true := decide_eq_true c22
            clear c22
            obtain rfl := Option.some.inj H
            go_enter Try.func6, Try.ntmps6
            go_wp2_with (first | ((with_reducible refine gate_callee (f := 16) rfl ?_); refine goesL_ (some 9) rfl rfl Try.func16 (by kernel_rfl) rfl #[] rfl (by (try simp only [List.map_toArray, List.map_cons, List.map_nil]); first | done | rfl | (simp only [List.length_drop, List.length_take]; rfl)) ?_; (with_reducible refine (missivelaw01_numbers.calls k  true _ A4.out).mono ?_); rintro e w23 ⟨rfl, hb⟩; refine ⟨_, rfl, ?_⟩; have n0_ := Aside0.mk (below_step (by repeat (first | (with_reducible first | exact HB.out | apply below_alloc | apply pw_below_drewN | apply below_drew1) | exact HB.out)) hb); clear HB; have HB := n0_; clear n0_; (try clear hb); (try clear hb2); (try clear hk); (try clear hi)) | ((with_reducible refine gate_callee (f := 19) rfl ?_); refine goesL_ (some 12) rfl rfl Try.func19 (by kernel_rfl) rfl #[.int .u64 a0] rfl (by (try simp only [List.map_toArray, List.map_cons, List.map_nil]); first | done | rfl | (simp only [List.length_drop, List.length_take]; rfl)) ?_; (with_reducible refine (vari_Size.calls a0 t160 _ A6.out).mono ?_); rintro e w24 ⟨rfl, hb⟩; refine ⟨_, rfl, ?_⟩; have n0_ := Aside0.mk (below_step (by repeat (first | (with_reducible first | exact HB.out | apply below_alloc | apply pw_below_drewN | apply below_drew1) | exact HB.out)) hb); clear HB; have HB := n0_; clear n0_; (try clear hb); (try clear hb2); (try clear hk); (try clear hi)) | ((with_reducible refine gate_callee (f := 19) rfl ?_); refine goesL_ (some 14) rfl rfl Try.func19 (by kernel_rfl) rfl #[.int .u64 a1] rfl (by (try simp only [List.map_toArray, List.map_cons, List.map_nil]); first | done | rfl | (simp only [List.length_drop, List.length_take]; rfl)) ?_; (with_reducible refine (vari_Size.calls a1 t161 _ A7.out).mono ?_); rintro e w25 ⟨rfl, hb⟩; refine ⟨_, rfl, ?_⟩; have n0_ := Aside0.mk (below_step (by repeat (first | (with_reducible first | exact HB.out | apply below_alloc | apply pw_below_drewN | apply below_drew1) | exact HB.out)) hb); clear HB; have HB := n0_; clear n0_; (try clear hb); (try clear hb2); (try clear hk); (try clear hi)))
            go_ret
            exact ⟨by first | rfl | (simp [errW_none, errW_some] <;> rfl) | (simp [*, errW_none, errW_some] <;> rfl), by repeat (first | (with_reducible first | exact HB.out | apply below_alloc | apply pw_below_drewN | apply below_drew1) | exact HB.out)⟩
          · rw [if_neg c22] at H
            have c22b0 : decide (1 ≤ t160) = false := decide_eq_false c22
            clear c22
            obtain rfl := Option.some.inj H
            go_enter Try.func6, Try.ntmps6
            go_wp2_with (first | ((with_reducible refine gate_callee (f := 16) rfl ?_); refine goesL_ (some 9) rfl rfl Try.func16 (by kernel_rfl) rfl #[] rfl (by (try simp only [List.map_toArray, List.map_cons, List.map_nil]); first | done | rfl | (simp only [List.length_drop, List.length_take]; rfl)) ?_; (with_reducible refine (missivelaw01_numbers.calls k  true _ A4.out).mono ?_); rintro e w26 ⟨rfl, hb⟩; refine ⟨_, rfl, ?_⟩; have n0_ := Aside0.mk (below_step (by repeat (first | (with_reducible first | exact HB.out | apply below_alloc | apply pw_below_drewN | apply below_drew1) | exact HB.out)) hb); clear HB; have HB := n0_; clear n0_; (try clear hb); (try clear hb2); (try clear hk); (try clear hi)) | ((with_reducible refine gate_callee (f := 19) rfl ?_); refine goesL_ (some 12) rfl rfl Try.func19 (by kernel_rfl) rfl #[.int .u64 a0] rfl (by (try simp only [List.map_toArray, List.map_cons, List.map_nil]); first | done | rfl | (simp only [List.length_drop, List.length_take]; rfl)) ?_; (with_reducible refine (vari_Size.calls a0 t160 _ A6.out).mono ?_); rintro e w27 ⟨rfl, hb⟩; refine ⟨_, rfl, ?_⟩; have n0_ := Aside0.mk (below_step (by repeat (first | (with_reducible first | exact HB.out | apply below_alloc | apply pw_below_drewN | apply below_drew1) | exact HB.out)) hb); clear HB; have HB := n0_; clear n0_; (try clear hb); (try clear hb2); (try clear hk); (try clear hi)) | ((with_reducible refine gate_callee (f := 19) rfl ?_); refine goesL_ (some 14) rfl rfl Try.func19 (by kernel_rfl) rfl #[.int .u64 a1] rfl (by (try simp only [List.map_toArray, List.map_cons, List.map_nil]); first | done | rfl | (simp only [List.length_drop, List.length_take]; rfl)) ?_; (with_reducible refine (vari_Size.calls a1 t161 _ A7.out).mono ?_); rintro e w28 ⟨rfl, hb⟩; refine ⟨_, rfl, ?_⟩; have n0_ := Aside0.mk (below_step (by repeat (first | (with_reducible first | exact HB.out | apply below_alloc | apply pw_below_drewN | apply below_drew1) | exact HB.out)) hb); clear HB; have HB := n0_; clear n0_; (try clear hb); (try clear hb2); (try clear hk); (try clear hi)))
            go_ret
            exact ⟨by first | rfl | (simp [errW_none, errW_some] <;> rfl) | (simp [*, errW_none, errW_some] <;> rfl), by repeat (first | (with_reducible first | exact HB.out | apply below_alloc | apply pw_below_drewN | apply below_drew1) | exact HB.out)⟩
        · rw [if_neg c21] at H
          have c21b0 : ((decide (a0 ≤ a1)) == (decide (a0 < a1))) = false := by simpa using c21
          (try (have c21b1 : decide ((decide (a0 ≤ a1)) = (decide (a0 < a1))) = false := by simpa using c21))
          (try (have c21b2 : ((decide (a0 ≤ a1)) == (decide (a0 < a1))) = false := by simpa using c21))
          (try (have c21b3 : ¬ ((decide (a0 ≤ a1)) = (decide (a0 < a1))) := by simpa using c21))
          clear c21
          obtain rfl := Option.some.inj H
          go_enter Try.func6, Try.ntmps6
          go_wp2_with (first | ((with_reducible refine gate_callee (f := 16) rfl ?_); refine goesL_ (some 9) rfl rfl Try.func16 (by kernel_rfl) rfl #[] rfl (by (try simp only [List.map_toArray, List.map_cons, List.map_nil]); first | done | rfl | (simp only [List.length_drop, List.length_take]; rfl)) ?_; (with_reducible refine (missivelaw01_numbers.calls k  true _ A4.out).mono ?_); rintro e w29 ⟨rfl, hb⟩; refine ⟨_, rfl, ?_⟩; have n0_ := Aside0.mk (below_step (by repeat (first | (with_reducible first | exact HB.out | apply below_alloc | apply pw_below_drewN | apply below_drew1) | exact HB.out)) hb); clear HB; have HB := n0_; clear n0_; (try clear hb); (try clear hb2); (try clear hk); (try clear hi)) | ((with_reducible refine gate_callee (f := 19) rfl ?_); refine goesL_ (some 12) rfl rfl Try.func19 (by kernel_rfl) rfl #[.int .u64 a0] rfl (by (try simp only [List.map_toArray, List.map_cons, List.map_nil]); first | done | rfl | (simp only [List.length_drop, List.length_take]; rfl)) ?_; (with_reducible refine (vari_Size.calls a0 t160 _ A6.out).mono ?_); rintro e w30 ⟨rfl, hb⟩; refine ⟨_, rfl, ?_⟩; have n0_ := Aside0.mk (below_step (by repeat (first | (with_reducible first | exact HB.out | apply below_alloc | apply pw_below_drewN | apply below_drew1) | exact HB.out)) hb); clear HB; have HB := n0_; clear n0_; (try clear hb); (try clear hb2); (try clear hk); (try clear hi)) | ((with_reducible refine gate_callee (f := 19) rfl ?_); refine goesL_ (some 14) rfl rfl Try.func19 (by kernel_rfl) rfl #[.int .u64 a1] rfl (by (try simp only [List.map_toArray, List.map_cons, List.map_nil]); first | done | rfl | (simp only [List.length_drop, List.length_take]; rfl)) ?_; (with_reducible refine (vari_Size.calls a1 t161 _ A7.out).mono ?_); rintro e w31 ⟨rfl, hb⟩; refine ⟨_, rfl, ?_⟩; have n0_ := Aside0.mk (below_step (by repeat (first | (with_reducible first | exact HB.out | apply below_alloc | apply pw_below_drewN | apply below_drew1) | exact HB.out)) hb); clear HB; have HB := n0_; clear n0_; (try clear hb); (try clear hb2); (try clear hk); (try clear hi)))
          go_ret
          exact ⟨by first | rfl | (simp [errW_none, errW_some] <;> rfl) | (simp [*, errW_none, errW_some] <;> rfl), by repeat (first | (with_reducible first | exact HB.out | apply below_alloc | apply pw_below_drewN | apply below_drew1) | exact HB.out)⟩
    · rw [if_neg c8] at H
      have c8b0 : decide (a2 < 1) = false := decide_eq_false c8
      clear c8
      by_cases c32 : a2 > 9
      · rw [if_pos c32] at H
        have c32b0 : decide (9 < a2) = true := decide_eq_true c32
        clear c32
        by_cases c33 : a0 = a1
        · rw [if_pos c33] at H
          have c33b0 : (a0 == a1) = true := beq_iff_eq.mpr c33
          have c33b1 : (a0 != a1) = false := bne_eq_false_iff_eq.mpr c33
          clear c33
          by_cases c34 : ((decide (a0 ≤ a1)) == true) = true
          · rw [if_pos c34] at H
            have c34b0 : ((decide (a0 ≤ a1)) == true) = true := c34
            (try (have c34b1 : decide ((decide (a0 ≤ a1)) = true) = true := by simpa using c34))
            (try (have c34b2 : ((decide (a0 ≤ a1)) == true) = true := by simpa using c34))
            clear c34
            by_cases c35 : t160 ≥ 1
            · rw [if_pos c35] at H
              have c35b0 : decide (1 ≤ t160) = true := decide_eq_true c35
              clear c35
              obtain rfl := Option.some.inj H
              go_enter Try.func6, Try.ntmps6
              go_wp2_with (first | ((with_reducible refine gate_callee (f := 16) rfl ?_); refine goesL_ (some 9) rfl rfl Try.func16 (by kernel_rfl) rfl #[] rfl (by (try simp only [List.map_toArray, List.map_cons, List.map_nil]); first | done | rfl | (simp only [List.length_drop, List.length_take]; rfl)) ?_; (with_reducible refine (missivelaw01_numbers.calls k  true _ A4.out).mono ?_); rintro e w36 ⟨rfl, hb⟩; refine ⟨_, rfl, ?_⟩; have n0_ := Aside0.mk (below_step (by repeat (first | (with_reducible first | exact HB.out | apply below_alloc | apply pw_below_drewN | apply below_drew1) | exact HB.out)) hb); clear HB; have HB := n0_; clear n0_; (try clear hb); (try clear hb2); (try clear hk); (try clear hi)) | ((with_reducible refine gate_callee (f := 19) rfl ?_); refine goesL_ (some 12) rfl rfl Try.func19 (by kernel_rfl) rfl #[.int .u64 a0] rfl (by (try simp only [List.map_toArray, List.map_cons, List.map_nil]); first | done | rfl | (simp only [List.length_drop, List.length_take]; rfl)) ?_; (with_reducible refine (vari_Size.calls a0 t160 _ A6.out).mono ?_); rintro e w37 ⟨rfl, hb⟩; refine ⟨_, rfl, ?_⟩; have n0_ := Aside0.mk (below_step (by repeat (first | (with_reducible first | exact HB.out | apply below_alloc | apply pw_below_drewN | apply below_drew1) | exact HB.out)) hb); clear HB; have HB := n0_; clear n0_; (try clear hb); (try clear hb2); (try clear hk); (try clear hi)) | ((with_reducible refine gate_callee (f := 19) rfl ?_); refine goesL_ (some 14) rfl rfl Try.func19 (by kernel_rfl) rfl #[.int .u64 a1] rfl (by (try simp only [List.map_toArray, List.map_cons, List.map_nil]); first | done | rfl | (simp only [List.length_drop, List.length_take]; rfl)) ?_; (with_reducible refine (vari_Size.calls a1 t161 _ A7.out).mono ?_); rintro e w38 ⟨rfl, hb⟩; refine ⟨_, rfl, ?_⟩; have n0_ := Aside0.mk (below_step (by repeat (first | (with_reducible first | exact HB.out | apply below_alloc | apply pw_below_drewN | apply below_drew1) | exact HB.out)) hb); clear HB; have HB := n0_; clear n0_; (try clear hb); (try clear hb2); (try clear hk); (try clear hi)))
              go_ret
              exact ⟨by first | rfl | (simp [errW_none, errW_some] <;> rfl) | (simp [*, errW_none, errW_some] <;> rfl), by repeat (first | (with_reducible first | exact HB.out | apply below_alloc | apply pw_below_drewN | apply below_drew1) | exact HB.out)⟩
            · rw [if_neg c35] at H
              have c35b0 : decide (1 ≤ t160) = false := decide_eq_false c35
              clear c35
              obtain rfl := Option.some.inj H
              go_enter Try.func6, Try.ntmps6
              go_wp2_with (first | ((with_reducible refine gate_callee (f := 16) rfl ?_); refine goesL_ (some 9) rfl rfl Try.func16 (by kernel_rfl) rfl #[] rfl (by (try simp only [List.map_toArray, List.map_cons, List.map_nil]); first | done | rfl | (simp only [List.length_drop, List.length_take]; rfl)) ?_; (with_reducible refine (missivelaw01_numbers.calls k  true _ A4.out).mono ?_); rintro e w39 ⟨rfl, hb⟩; refine ⟨_, rfl, ?_⟩; have n0_ := Aside0.mk (below_step (by repeat (first | (with_reducible first | exact HB.out | apply below_alloc | apply pw_below_drewN | apply below_drew1) | exact HB.out)) hb); clear HB; have HB := n0_; clear n0_; (try clear hb); (try clear hb2); (try clear hk); (try clear hi)) | ((with_reducible refine gate_callee (f := 19) rfl ?_); refine goesL_ (some 12) rfl rfl Try.func19 (by kernel_rfl) rfl #[.int .u64 a0] rfl (by (try simp only [List.map_toArray, List.map_cons, List.map_nil]); first | done | rfl | (simp only [List.length_drop, List.length_take]; rfl)) ?_; (with_reducible refine (vari_Size.calls a0 t160 _ A6.out).mono ?_); rintro e w40 ⟨rfl, hb⟩; refine ⟨_, rfl, ?_⟩; have n0_ := Aside0.mk (below_step (by repeat (first | (with_reducible first | exact HB.out | apply below_alloc | apply pw_below_drewN | apply below_drew1) | exact HB.out)) hb); clear HB; have HB := n0_; clear n0_; (try clear hb); (try clear hb2); (try clear hk); (try clear hi)) | ((with_reducible refine gate_callee (f := 19) rfl ?_); refine goesL_ (some 14) rfl rfl Try.func19 (by kernel_rfl) rfl #[.int .u64 a1] rfl (by (try simp only [List.map_toArray, List.map_cons, List.map_nil]); first | done | rfl | (simp only [List.length_drop, List.length_take]; rfl)) ?_; (with_reducible refine (vari_Size.calls a1 t161 _ A7.out).mono ?_); rintro e w41 ⟨rfl, hb⟩; refine ⟨_, rfl, ?_⟩; have n0_ := Aside0.mk (below_step (by repeat (first | (with_reducible first | exact HB.out | apply below_alloc | apply pw_below_drewN | apply below_drew1) | exact HB.out)) hb); clear HB; have HB := n0_; clear n0_; (try clear hb); (try clear hb2); (try clear hk); (try clear hi)))
              go_ret
              exact ⟨by first | rfl | (simp [errW_none, errW_some] <;> rfl) | (simp [*, errW_none, errW_some] <;> rfl), by repeat (first | (with_reducible first | exact HB.out | apply below_alloc | apply pw_below_drewN | apply below_drew1) | exact HB.out)⟩
          · rw [if_neg c34] at H
            have c34b0 : ((decide (a0 ≤ a1)) == true) = false := by simpa using c34
            (try (have c34b1 : decide ((decide (a0 ≤ a1)) = true) = false := by simpa using c34))
            (try (have c34b2 : ((decide (a0 ≤ a1)) == true) = false := by simpa using c34))
            (try (have c34b3 : ¬ ((decide (a0 ≤ a1)) = true) := by simpa using c34))
            clear c34
            obtain rfl := Option.some.inj H
            go_enter Try.func6, Try.ntmps6
            go_wp2_with (first | ((with_reducible refine gate_callee (f := 16) rfl ?_); refine goesL_ (some 9) rfl rfl Try.func16 (by kernel_rfl) rfl #[] rfl (by (try simp only [List.map_toArray, List.map_cons, List.map_nil]); first | done | rfl | (simp only [List.length_drop, List.length_take]; rfl)) ?_; (with_reducible refine (missivelaw01_numbers.calls k  true _ A4.out).mono ?_); rintro e w42 ⟨rfl, hb⟩; refine ⟨_, rfl, ?_⟩; have n0_ := Aside0.mk (below_step (by repeat (first | (with_reducible first | exact HB.out | apply below_alloc | apply pw_below_drewN | apply below_drew1) | exact HB.out)) hb); clear HB; have HB := n0_; clear n0_; (try clear hb); (try clear hb2); (try clear hk); (try clear hi)) | ((with_reducible refine gate_callee (f := 19) rfl ?_); refine goesL_ (some 12) rfl rfl Try.func19 (by kernel_rfl) rfl #[.int .u64 a0] rfl (by (try simp only [List.map_toArray, List.map_cons, List.map_nil]); first | done | rfl | (simp only [List.length_drop, List.length_take]; rfl)) ?_; (with_reducible refine (vari_Size.calls a0 t160 _ A6.out).mono ?_); rintro e w43 ⟨rfl, hb⟩; refine ⟨_, rfl, ?_⟩; have n0_ := Aside0.mk (below_step (by repeat (first | (with_reducible first | exact HB.out | apply below_alloc | apply pw_below_drewN | apply below_drew1) | exact HB.out)) hb); clear HB; have HB := n0_; clear n0_; (try clear hb); (try clear hb2); (try clear hk); (try clear hi)) | ((with_reducible refine gate_callee (f := 19) rfl ?_); refine goesL_ (some 14) rfl rfl Try.func19 (by kernel_rfl) rfl #[.int .u64 a1] rfl (by (try simp only [List.map_toArray, List.map_cons, List.map_nil]); first | done | rfl | (simp only [List.length_drop, List.length_take]; rfl)) ?_; (with_reducible refine (vari_Size.calls a1 t161 _ A7.out).mono ?_); rintro e w44 ⟨rfl, hb⟩; refine ⟨_, rfl, ?_⟩; have n0_ := Aside0.mk (below_step (by repeat (first | (with_reducible first | exact HB.out | apply below_alloc | apply pw_below_drewN | apply below_drew1) | exact HB.out)) hb); clear HB; have HB := n0_; clear n0_; (try clear hb); (try clear hb2); (try clear hk); (try clear hi)))
            go_ret
            exact ⟨by first | rfl | (simp [errW_none, errW_some] <;> rfl) | (simp [*, errW_none, errW_some] <;> rfl), by repeat (first | (with_reducible first | exact HB.out | apply below_alloc | apply pw_below_drewN | apply below_drew1) | exact HB.out)⟩
        · rw [if_neg c33] at H
          have c33b0 : (a0 == a1) = false := beq_eq_false_iff_ne.mpr c33
          have c33b1 : (a0 != a1) = true := bne_iff_ne.mpr c33
          by_cases c45 : ((decide (a0 ≤ a1)) == (decide (a0 < a1))) = true
          · rw [if_pos c45] at H
            have c45b0 : ((decide (a0 ≤ a1)) == (decide (a0 < a1))) = true := c45
            (try (have c45b1 : decide ((decide (a0 ≤ a1)) = (decide (a0 < a1))) = true := by simpa using c45))
            (try (have c45b2 : ((decide (a0 ≤ a1)) == (decide (a0 < a1))) = true := by simpa using c45))
            clear c45
            by_cases c46 : t160 ≥ 1
            · rw [if_pos c46] at H
              have c46b0 : decide (1 ≤ t160) = true := decide_eq_true c46
              clear c46
              obtain rfl := Option.some.inj H
              go_enter Try.func6, Try.ntmps6
              go_wp2_with (first | ((with_reducible refine gate_callee (f := 16) rfl ?_); refine goesL_ (some 9) rfl rfl Try.func16 (by kernel_rfl) rfl #[] rfl (by (try simp only [List.map_toArray, List.map_cons, List.map_nil]); first | done | rfl | (simp only [List.length_drop, List.length_take]; rfl)) ?_; (with_reducible refine (missivelaw01_numbers.calls k  true _ A4.out).mono ?_); rintro e w47 ⟨rfl, hb⟩; refine ⟨_, rfl, ?_⟩; have n0_ := Aside0.mk (below_step (by repeat (first | (with_reducible first | exact HB.out | apply below_alloc | apply pw_below_drewN | apply below_drew1) | exact HB.out)) hb); clear HB; have HB := n0_; clear n0_; (try clear hb); (try clear hb2); (try clear hk); (try clear hi)) | ((with_reducible refine gate_callee (f := 19) rfl ?_); refine goesL_ (some 12) rfl rfl Try.func19 (by kernel_rfl) rfl #[.int .u64 a0] rfl (by (try simp only [List.map_toArray, List.map_cons, List.map_nil]); first | done | rfl | (simp only [List.length_drop, List.length_take]; rfl)) ?_; (with_reducible refine (vari_Size.calls a0 t160 _ A6.out).mono ?_); rintro e w48 ⟨rfl, hb⟩; refine ⟨_, rfl, ?_⟩; have n0_ := Aside0.mk (below_step (by repeat (first | (with_reducible first | exact HB.out | apply below_alloc | apply pw_below_drewN | apply below_drew1) | exact HB.out)) hb); clear HB; have HB := n0_; clear n0_; (try clear hb); (try clear hb2); (try clear hk); (try clear hi)) | ((with_reducible refine gate_callee (f := 19) rfl ?_); refine goesL_ (some 14) rfl rfl Try.func19 (by kernel_rfl) rfl #[.int .u64 a1] rfl (by (try simp only [List.map_toArray, List.map_cons, List.map_nil]); first | done | rfl | (simp only [List.length_drop, List.length_take]; rfl)) ?_; (with_reducible refine (vari_Size.calls a1 t161 _ A7.out).mono ?_); rintro e w49 ⟨rfl, hb⟩; refine ⟨_, rfl, ?_⟩; have n0_ := Aside0.mk (below_step (by repeat (first | (with_reducible first | exact HB.out | apply below_alloc | apply pw_below_drewN | apply below_drew1) | exact HB.out)) hb); clear HB; have HB := n0_; clear n0_; (try clear hb); (try clear hb2); (try clear hk); (try clear hi)))
              go_ret
              exact ⟨by first | rfl | (simp [errW_none, errW_some] <;> rfl) | (simp [*, errW_none, errW_some] <;> rfl), by repeat (first | (with_reducible first | exact HB.out | apply below_alloc | apply pw_below_drewN | apply below_drew1) | exact HB.out)⟩
            · rw [if_neg c46] at H
              have c46b0 : decide (1 ≤ t160) = false := decide_eq_false c46
              clear c46
              obtain rfl := Option.some.inj H
              go_enter Try.func6, Try.ntmps6
              go_wp2_with (first | ((with_reducible refine gate_callee (f := 16) rfl ?_); refine goesL_ (some 9) rfl rfl Try.func16 (by kernel_rfl) rfl #[] rfl (by (try simp only [List.map_toArray, List.map_cons, List.map_nil]); first | done | rfl | (simp only [List.length_drop, List.length_take]; rfl)) ?_; (with_reducible refine (missivelaw01_numbers.calls k  true _ A4.out).mono ?_); rintro e w50 ⟨rfl, hb⟩; refine ⟨_, rfl, ?_⟩; have n0_ := Aside0.mk (below_step (by repeat (first | (with_reducible first | exact HB.out | apply below_alloc | apply pw_below_drewN | apply below_drew1) | exact HB.out)) hb); clear HB; have HB := n0_; clear n0_; (try clear hb); (try clear hb2); (try clear hk); (try clear hi)) | ((with_reducible refine gate_callee (f := 19) rfl ?_); refine goesL_ (some 12) rfl rfl Try.func19 (by kernel_rfl) rfl #[.int .u64 a0] rfl (by (try simp only [List.map_toArray, List.map_cons, List.map_nil]); first | done | rfl | (simp only [List.length_drop, List.length_take]; rfl)) ?_; (with_reducible refine (vari_Size.calls a0 t160 _ A6.out).mono ?_); rintro e w51 ⟨rfl, hb⟩; refine ⟨_, rfl, ?_⟩; have n0_ := Aside0.mk (below_step (by repeat (first | (with_reducible first | exact HB.out | apply below_alloc | apply pw_below_drewN | apply below_drew1) | exact HB.out)) hb); clear HB; have HB := n0_; clear n0_; (try clear hb); (try clear hb2); (try clear hk); (try clear hi)) | ((with_reducible refine gate_callee (f := 19) rfl ?_); refine goesL_ (some 14) rfl rfl Try.func19 (by kernel_rfl) rfl #[.int .u64 a1] rfl (by (try simp only [List.map_toArray, List.map_cons, List.map_nil]); first | done | rfl | (simp only [List.length_drop, List.length_take]; rfl)) ?_; (with_reducible refine (vari_Size.calls a1 t161 _ A7.out).mono ?_); rintro e w52 ⟨rfl, hb⟩; refine ⟨_, rfl, ?_⟩; have n0_ := Aside0.mk (below_step (by repeat (first | (with_reducible first | exact HB.out | apply below_alloc | apply pw_below_drewN | apply below_drew1) | exact HB.out)) hb); clear HB; have HB := n0_; clear n0_; (try clear hb); (try clear hb2); (try clear hk); (try clear hi)))
              go_ret
              exact ⟨by first | rfl | (simp [errW_none, errW_some] <;> rfl) | (simp [*, errW_none, errW_some] <;> rfl), by repeat (first | (with_reducible first | exact HB.out | apply below_alloc | apply pw_below_drewN | apply below_drew1) | exact HB.out)⟩
          · rw [if_neg c45] at H
            have c45b0 : ((decide (a0 ≤ a1)) == (decide (a0 < a1))) = false := by simpa using c45
            (try (have c45b1 : decide ((decide (a0 ≤ a1)) = (decide (a0 < a1))) = false := by simpa using c45))
            (try (have c45b2 : ((decide (a0 ≤ a1)) == (decide (a0 < a1))) = false := by simpa using c45))
            (try (have c45b3 : ¬ ((decide (a0 ≤ a1)) = (decide (a0 < a1))) := by simpa using c45))
            clear c45
            obtain rfl := Option.some.inj H
            go_enter Try.func6, Try.ntmps6
            go_wp2_with (first | ((with_reducible refine gate_callee (f := 16) rfl ?_); refine goesL_ (some 9) rfl rfl Try.func16 (by kernel_rfl) rfl #[] rfl (by (try simp only [List.map_toArray, List.map_cons, List.map_nil]); first | done | rfl | (simp only [List.length_drop, List.length_take]; rfl)) ?_; (with_reducible refine (missivelaw01_numbers.calls k  true _ A4.out).mono ?_); rintro e w53 ⟨rfl, hb⟩; refine ⟨_, rfl, ?_⟩; have n0_ := Aside0.mk (below_step (by repeat (first | (with_reducible first | exact HB.out | apply below_alloc | apply pw_below_drewN | apply below_drew1) | exact HB.out)) hb); clear HB; have HB := n0_; clear n0_; (try clear hb); (try clear hb2); (try clear hk); (try clear hi)) | ((with_reducible refine gate_callee (f := 19) rfl ?_); refine goesL_ (some 12) rfl rfl Try.func19 (by kernel_rfl) rfl #[.int .u64 a0] rfl (by (try simp only [List.map_toArray, List.map_cons, List.map_nil]); first | done | rfl | (simp only [List.length_drop, List.length_take]; rfl)) ?_; (with_reducible refine (vari_Size.calls a0 t160 _ A6.out).mono ?_); rintro e w54 ⟨rfl, hb⟩; refine ⟨_, rfl, ?_⟩; have n0_ := Aside0.mk (below_step (by repeat (first | (with_reducible first | exact HB.out | apply below_alloc | apply pw_below_drewN | apply below_drew1) | exact HB.out)) hb); clear HB; have HB := n0_; clear n0_; (try clear hb); (try clear hb2); (try clear hk); (try clear hi)) | ((with_reducible refine gate_callee (f := 19) rfl ?_); refine goesL_ (some 14) rfl rfl Try.func19 (by kernel_rfl) rfl #[.int .u64 a1] rfl (by (try simp only [List.map_toArray, List.map_cons, List.map_nil]); first | done | rfl | (simp only [List.length_drop, List.length_take]; rfl)) ?_; (with_reducible refine (vari_Size.calls a1 t161 _ A7.out).mono ?_); rintro e w55 ⟨rfl, hb⟩; refine ⟨_, rfl, ?_⟩; have n0_ := Aside0.mk (below_step (by repeat (first | (with_reducible first | exact HB.out | apply below_alloc | apply pw_below_drewN | apply below_drew1) | exact HB.out)) hb); clear HB; have HB := n0_; clear n0_; (try clear hb); (try clear hb2); (try clear hk); (try clear hi)))
            go_ret
            exact ⟨by first | rfl | (simp [errW_none, errW_some] <;> rfl) | (simp [*, errW_none, errW_some] <;> rfl), by repeat (first | (with_reducible first | exact HB.out | apply below_alloc | apply pw_below_drewN | apply below_drew1) | exact HB.out)⟩
      · rw [if_neg c32] at H
        have c32b0 : decide (9 < a2) = false := decide_eq_false c32
        clear c32
        by_cases c56 : a0 > a1
        · rw [if_pos c56] at H
          have c56b0 : decide (a1 < a0) = true := decide_eq_true c56
          clear c56
          by_cases c57 : a0 < a1
          · rw [if_pos c57] at H
            have c57b0 : decide (a0 < a1) = true := decide_eq_true c57
            clear c57
            obtain ⟨ji58, hji58⟩ : ∃ j_ : Int, (IntKind.u64.wrap (wrap64 (7 * a2))) = j_ := ⟨_, rfl⟩
            replace H : (if 0 ≤ (ji58) then (some (((shr .u64 a0 (ji58)) == 0) == (decide (t160 ≤ a2)))) else (none)) = some r := by first | (rw [hji58] at H; exact H) | (simp only [hji58] at H ⊢; exact H)
            (try rw [hji58] at A4)
            (try rw [hji58] at A6)
            (try rw [hji58] at A7)
            by_cases c59 : 0 ≤ (ji58)
            · rw [if_pos c59] at H
              have c59b0 := eq_true c59
              have c59b1 : decide (0 ≤ (ji58)) = true := decide_eq_true c59
              clear c59
              obtain ⟨ji60, hji60⟩ : ∃ j_ : Int, (shr .u64 a0 (ji58)) = j_ := ⟨_, rfl⟩
              replace H : (some (((ji60) == 0) == (decide (t160 ≤ a2)))) = some r := by first | (rw [hji60] at H; exact H) | (simp only [hji60] at H ⊢; exact H)
              (try rw [hji60] at A4)
              (try rw [hji60] at A6)
              (try rw [hji60] at A7)
              have hji60_ : (a0 / 2 ^ min (ji58).toNat 64) = ji60 := hji60
              have hji60z : (ji58) ≤ 64 → (a0 / 2 ^ (ji58).toNat) = ji60 := shr_small hji60
              obtain rfl := Option.some.inj H
              go_enter Try.func6, Try.ntmps6
              go_wp2_with (first | ((with_reducible refine gate_callee (f := 16) rfl ?_); refine goesL_ (some 9) rfl rfl Try.func16 (by kernel_rfl) rfl #[] rfl (by (try simp only [List.map_toArray, List.map_cons, List.map_nil]); first | done | rfl | (simp only [List.length_drop, List.length_take]; rfl)) ?_; (with_reducible refine (missivelaw01_numbers.calls k  true _ A4.out).mono ?_); rintro e w61 ⟨rfl, hb⟩; refine ⟨_, rfl, ?_⟩; have n0_ := Aside0.mk (below_step (by repeat (first | (with_reducible first | exact HB.out | apply below_alloc | apply pw_below_drewN | apply below_drew1) | exact HB.out)) hb); clear HB; have HB := n0_; clear n0_; (try clear hb); (try clear hb2); (try clear hk); (try clear hi)) | ((with_reducible refine gate_callee (f := 19) rfl ?_); refine goesL_ (some 12) rfl rfl Try.func19 (by kernel_rfl) rfl #[.int .u64 a0] rfl (by (try simp only [List.map_toArray, List.map_cons, List.map_nil]); first | done | rfl | (simp only [List.length_drop, List.length_take]; rfl)) ?_; (with_reducible refine (vari_Size.calls a0 t160 _ A6.out).mono ?_); rintro e w62 ⟨rfl, hb⟩; refine ⟨_, rfl, ?_⟩; have n0_ := Aside0.mk (below_step (by repeat (first | (with_reducible first | exact HB.out | apply below_alloc | apply pw_below_drewN | apply below_drew1) | exact HB.out)) hb); clear HB; have HB := n0_; clear n0_; (try clear hb); (try clear hb2); (try clear hk); (try clear hi)) | ((with_reducible refine gate_callee (f := 19) rfl ?_); refine goesL_ (some 14) rfl rfl Try.func19 (by kernel_rfl) rfl #[.int .u64 a1] rfl (by (try simp only [List.map_toArray, List.map_cons, List.map_nil]); first | done | rfl | (simp only [List.length_drop, List.length_take]; rfl)) ?_; (with_reducible refine (vari_Size.calls a1 t161 _ A7.out).mono ?_); rintro e w63 ⟨rfl, hb⟩; refine ⟨_, rfl, ?_⟩; have n0_ := Aside0.mk (below_step (by repeat (first | (with_reducible first | exact HB.out | apply below_alloc | apply pw_below_drewN | apply below_drew1) | exact HB.out)) hb); clear HB; have HB := n0_; clear n0_; (try clear hb); (try clear hb2); (try clear hk); (try clear hi)))
              go_ret
              exact ⟨by first | rfl | (simp [errW_none, errW_some] <;> rfl) | (simp only [← hji58, ← hji60]; first | rfl | (simp [errW_none, errW_some] <;> rfl)) | (simp [*, errW_none, errW_some] <;> rfl), by repeat (first | (with_reducible first | exact HB.out | apply below_alloc | apply pw_below_drewN | apply below_drew1) | exact HB.out)⟩
            · rw [if_neg c59] at H
              exact absurd H (by simp)
          · rw [if_neg c57] at H
            have c57b0 : decide (a0 < a1) = false := decide_eq_false c57
            clear c57
            by_cases c64 : t160 ≥ t161
            · rw [if_pos c64] at H
              have c64b0 : decide (t161 ≤ t160) = true := decide_eq_true c64
              clear c64
              obtain ⟨ji65, hji65⟩ : ∃ j_ : Int, (IntKind.u64.wrap (wrap64 (7 * a2))) = j_ := ⟨_, rfl⟩
              replace H : (if 0 ≤ (ji65) then (some (((shr .u64 a0 (ji65)) == 0) == (decide (t160 ≤ a2)))) else (none)) = some r := by first | (rw [hji65] at H; exact H) | (simp only [hji65] at H ⊢; exact H)
              (try rw [hji65] at A4)
              (try rw [hji65] at A6)
              (try rw [hji65] at A7)
              by_cases c66 : 0 ≤ (ji65)
              · rw [if_pos c66] at H
                have c66b0 := eq_true c66
                have c66b1 : decide (0 ≤ (ji65)) = true := decide_eq_true c66
                clear c66
                obtain ⟨ji67, hji67⟩ : ∃ j_ : Int, (shr .u64 a0 (ji65)) = j_ := ⟨_, rfl⟩
                replace H : (some (((ji67) == 0) == (decide (t160 ≤ a2)))) = some r := by first | (rw [hji67] at H; exact H) | (simp only [hji67] at H ⊢; exact H)
                (try rw [hji67] at A4)
                (try rw [hji67] at A6)
                (try rw [hji67] at A7)
                have hji67_ : (a0 / 2 ^ min (ji65).toNat 64) = ji67 := hji67
                have hji67z : (ji65) ≤ 64 → (a0 / 2 ^ (ji65).toNat) = ji67 := shr_small hji67
                obtain rfl := Option.some.inj H
                go_enter Try.func6, Try.ntmps6
                go_wp2_with (first | ((with_reducible refine gate_callee (f := 16) rfl ?_); refine goesL_ (some 9) rfl rfl Try.func16 (by kernel_rfl) rfl #[] rfl (by (try simp only [List.map_toArray, List.map_cons, List.map_nil]); first | done | rfl | (simp only [List.length_drop, List.length_take]; rfl)) ?_; (with_reducible refine (missivelaw01_numbers.calls k  true _ A4.out).mono ?_); rintro e w68 ⟨rfl, hb⟩; refine ⟨_, rfl, ?_⟩; have n0_ := Aside0.mk (below_step (by repeat (first | (with_reducible first | exact HB.out | apply below_alloc | apply pw_below_drewN | apply below_drew1) | exact HB.out)) hb); clear HB; have HB := n0_; clear n0_; (try clear hb); (try clear hb2); (try clear hk); (try clear hi)) | ((with_reducible refine gate_callee (f := 19) rfl ?_); refine goesL_ (some 12) rfl rfl Try.func19 (by kernel_rfl) rfl #[.int .u64 a0] rfl (by (try simp only [List.map_toArray, List.map_cons, List.map_nil]); first | done | rfl | (simp only [List.length_drop, List.length_take]; rfl)) ?_; (with_reducible refine (vari_Size.calls a0 t160 _ A6.out).mono ?_); rintro e w69 ⟨rfl, hb⟩; refine ⟨_, rfl, ?_⟩; have n0_ := Aside0.mk (below_step (by repeat (first | (with_reducible first | exact HB.out | apply below_alloc | apply pw_below_drewN | apply below_drew1) | exact HB.out)) hb); clear HB; have HB := n0_; clear n0_; (try clear hb); (try clear hb2); (try clear hk); (try clear hi)) | ((with_reducible refine gate_callee (f := 19) rfl ?_); refine goesL_ (some 14) rfl rfl Try.func19 (by kernel_rfl) rfl #[.int .u64 a1] rfl (by (try simp only [List.map_toArray, List.map_cons, List.map_nil]); first | done | rfl | (simp only [List.length_drop, List.length_take]; rfl)) ?_; (with_reducible refine (vari_Size.calls a1 t161 _ A7.out).mono ?_); rintro e w70 ⟨rfl, hb⟩; refine ⟨_, rfl, ?_⟩; have n0_ := Aside0.mk (below_step (by repeat (first | (with_reducible first | exact HB.out | apply below_alloc | apply pw_below_drewN | apply below_drew1) | exact HB.out)) hb); clear HB; have HB := n0_; clear n0_; (try clear hb); (try clear hb2); (try clear hk); (try clear hi)))
                go_ret
                exact ⟨by first | rfl | (simp [errW_none, errW_some] <;> rfl) | (simp only [← hji65, ← hji67]; first | rfl | (simp [errW_none, errW_some] <;> rfl)) | (simp [*, errW_none, errW_some] <;> rfl), by repeat (first | (with_reducible first | exact HB.out | apply below_alloc | apply pw_below_drewN | apply below_drew1) | exact HB.out)⟩
              · rw [if_neg c66] at H
                exact absurd H (by simp)
            · rw [if_neg c64] at H
              have c64b0 : decide (t161 ≤ t160) = false := decide_eq_false c64
              clear c64
              obtain rfl := Option.some.inj H
              go_enter Try.func6, Try.ntmps6
              go_wp2_with (first | ((with_reducible refine gate_callee (f := 16) rfl ?_); refine goesL_ (some 9) rfl rfl Try.func16 (by kernel_rfl) rfl #[] rfl (by (try simp only [List.map_toArray, List.map_cons, List.map_nil]); first | done | rfl | (simp only [List.length_drop, List.length_take]; rfl)) ?_; (with_reducible refine (missivelaw01_numbers.calls k  true _ A4.out).mono ?_); rintro e w71 ⟨rfl, hb⟩; refine ⟨_, rfl, ?_⟩; have n0_ := Aside0.mk (below_step (by repeat (first | (with_reducible first | exact HB.out | apply below_alloc | apply pw_below_drewN | apply below_drew1) | exact HB.out)) hb); clear HB; have HB := n0_; clear n0_; (try clear hb); (try clear hb2); (try clear hk); (try clear hi)) | ((with_reducible refine gate_callee (f := 19) rfl ?_); refine goesL_ (some 12) rfl rfl Try.func19 (by kernel_rfl) rfl #[.int .u64 a0] rfl (by (try simp only [List.map_toArray, List.map_cons, List.map_nil]); first | done | rfl | (simp only [List.length_drop, List.length_take]; rfl)) ?_; (with_reducible refine (vari_Size.calls a0 t160 _ A6.out).mono ?_); rintro e w72 ⟨rfl, hb⟩; refine ⟨_, rfl, ?_⟩; have n0_ := Aside0.mk (below_step (by repeat (first | (with_reducible first | exact HB.out | apply below_alloc | apply pw_below_drewN | apply below_drew1) | exact HB.out)) hb); clear HB; have HB := n0_; clear n0_; (try clear hb); (try clear hb2); (try clear hk); (try clear hi)) | ((with_reducible refine gate_callee (f := 19) rfl ?_); refine goesL_ (some 14) rfl rfl Try.func19 (by kernel_rfl) rfl #[.int .u64 a1] rfl (by (try simp only [List.map_toArray, List.map_cons, List.map_nil]); first | done | rfl | (simp only [List.length_drop, List.length_take]; rfl)) ?_; (with_reducible refine (vari_Size.calls a1 t161 _ A7.out).mono ?_); rintro e w73 ⟨rfl, hb⟩; refine ⟨_, rfl, ?_⟩; have n0_ := Aside0.mk (below_step (by repeat (first | (with_reducible first | exact HB.out | apply below_alloc | apply pw_below_drewN | apply below_drew1) | exact HB.out)) hb); clear HB; have HB := n0_; clear n0_; (try clear hb); (try clear hb2); (try clear hk); (try clear hi)))
              go_ret
              exact ⟨by first | rfl | (simp [errW_none, errW_some] <;> rfl) | (simp [*, errW_none, errW_some] <;> rfl), by repeat (first | (with_reducible first | exact HB.out | apply below_alloc | apply pw_below_drewN | apply below_drew1) | exact HB.out)⟩
        · rw [if_neg c56] at H
          have c56b0 : decide (a1 < a0) = false := decide_eq_false c56
          clear c56
          by_cases c74 : t160 ≤ t161
          · rw [if_pos c74] at H
            have c74b0 : decide (t160 ≤ t161) = true := decide_eq_true c74
            clear c74
            by_cases c75 : a0 < a1
            · rw [if_pos c75] at H
              have c75b0 : decide (a0 < a1) = true := decide_eq_true c75
              clear c75
              obtain ⟨ji76, hji76⟩ : ∃ j_ : Int, (IntKind.u64.wrap (wrap64 (7 * a2))) = j_ := ⟨_, rfl⟩
              replace H : (if 0 ≤ (ji76) then (some (((shr .u64 a0 (ji76)) == 0) == (decide (t160 ≤ a2)))) else (none)) = some r := by first | (rw [hji76] at H; exact H) | (simp only [hji76] at H ⊢; exact H)
              (try rw [hji76] at A4)
              (try rw [hji76] at A6)
              (try rw [hji76] at A7)
              by_cases c77 : 0 ≤ (ji76)
              · rw [if_pos c77] at H
                have c77b0 := eq_true c77
                have c77b1 : decide (0 ≤ (ji76)) = true := decide_eq_true c77
                clear c77
                obtain ⟨ji78, hji78⟩ : ∃ j_ : Int, (shr .u64 a0 (ji76)) = j_ := ⟨_, rfl⟩
                replace H : (some (((ji78) == 0) == (decide (t160 ≤ a2)))) = some r := by first | (rw [hji78] at H; exact H) | (simp only [hji78] at H ⊢; exact H)
                (try rw [hji78] at A4)
                (try rw [hji78] at A6)
                (try rw [hji78] at A7)
                have hji78_ : (a0 / 2 ^ min (ji76).toNat 64) = ji78 := hji78
                have hji78z : (ji76) ≤ 64 → (a0 / 2 ^ (ji76).toNat) = ji78 := shr_small hji78
                obtain rfl := Option.some.inj H
                go_enter Try.func6, Try.ntmps6
                go_wp2_with (first | ((with_reducible refine gate_callee (f := 16) rfl ?_); refine goesL_ (some 9) rfl rfl Try.func16 (by kernel_rfl) rfl #[] rfl (by (try simp only [List.map_toArray, List.map_cons, List.map_nil]); first | done | rfl | (simp only [List.length_drop, List.length_take]; rfl)) ?_; (with_reducible refine (missivelaw01_numbers.calls k  true _ A4.out).mono ?_); rintro e w79 ⟨rfl, hb⟩; refine ⟨_, rfl, ?_⟩; have n0_ := Aside0.mk (below_step (by repeat (first | (with_reducible first | exact HB.out | apply below_alloc | apply pw_below_drewN | apply below_drew1) | exact HB.out)) hb); clear HB; have HB := n0_; clear n0_; (try clear hb); (try clear hb2); (try clear hk); (try clear hi)) | ((with_reducible refine gate_callee (f := 19) rfl ?_); refine goesL_ (some 12) rfl rfl Try.func19 (by kernel_rfl) rfl #[.int .u64 a0] rfl (by (try simp only [List.map_toArray, List.map_cons, List.map_nil]); first | done | rfl | (simp only [List.length_drop, List.length_take]; rfl)) ?_; (with_reducible refine (vari_Size.calls a0 t160 _ A6.out).mono ?_); rintro e w80 ⟨rfl, hb⟩; refine ⟨_, rfl, ?_⟩; have n0_ := Aside0.mk (below_step (by repeat (first | (with_reducible first | exact HB.out | apply below_alloc | apply pw_below_drewN | apply below_drew1) | exact HB.out)) hb); clear HB; have HB := n0_; clear n0_; (try clear hb); (try clear hb2); (try clear hk); (try clear hi)) | ((with_reducible refine gate_callee (f := 19) rfl ?_); refine goesL_ (some 14) rfl rfl Try.func19 (by kernel_rfl) rfl #[.int .u64 a1] rfl (by (try simp only [List.map_toArray, List.map_cons, List.map_nil]); first | done | rfl | (simp only [List.length_drop, List.length_take]; rfl)) ?_; (with_reducible refine (vari_Size.calls a1 t161 _ A7.out).mono ?_); rintro e w81 ⟨rfl, hb⟩; refine ⟨_, rfl, ?_⟩; have n0_ := Aside0.mk (below_step (by repeat (first | (with_reducible first | exact HB.out | apply below_alloc | apply pw_below_drewN | apply below_drew1) | exact HB.out)) hb); clear HB; have HB := n0_; clear n0_; (try clear hb); (try clear hb2); (try clear hk); (try clear hi)))
                go_ret
                exact ⟨by first | rfl | (simp [errW_none, errW_some] <;> rfl) | (simp only [← hji76, ← hji78]; first | rfl | (simp [errW_none, errW_some] <;> rfl)) | (simp [*, errW_none, errW_some] <;> rfl), by repeat (first | (with_reducible first | exact HB.out | apply below_alloc | apply pw_below_drewN | apply below_drew1) | exact HB.out)⟩
              · rw [if_neg c77] at H
                exact absurd H (by simp)
            · rw [if_neg c75] at H
              have c75b0 : decide (a0 < a1) = false := decide_eq_false c75
              clear c75
              by_cases c82 : t160 ≥ t161
              · rw [if_pos c82] at H
                have c82b0 : decide (t161 ≤ t160) = true := decide_eq_true c82
                clear c82
                obtain ⟨ji83, hji83⟩ : ∃ j_ : Int, (IntKind.u64.wrap (wrap64 (7 * a2))) = j_ := ⟨_, rfl⟩
                replace H : (if 0 ≤ (ji83) then (some (((shr .u64 a0 (ji83)) == 0) == (decide (t160 ≤ a2)))) else (none)) = some r := by first | (rw [hji83] at H; exact H) | (simp only [hji83] at H ⊢; exact H)
                (try rw [hji83] at A4)
                (try rw [hji83] at A6)
                (try rw [hji83] at A7)
                by_cases c84 : 0 ≤ (ji83)
                · rw [if_pos c84] at H
                  have c84b0 := eq_true c84
                  have c84b1 : decide (0 ≤ (ji83)) = true := decide_eq_true c84
                  clear c84
                  obtain ⟨ji85, hji85⟩ : ∃ j_ : Int, (shr .u64 a0 (ji83)) = j_ := ⟨_, rfl⟩
                  replace H : (some (((ji85) == 0) == (decide (t160 ≤ a2)))) = some r := by first | (rw [hji85] at H; exact H) | (simp only [hji85] at H ⊢; exact H)
                  (try rw [hji85] at A4)
                  (try rw [hji85] at A6)
                  (try rw [hji85] at A7)
                  have hji85_ : (a0 / 2 ^ min (ji83).toNat 64) = ji85 := hji85
                  have hji85z : (ji83) ≤ 64 → (a0 / 2 ^ (ji83).toNat) = ji85 := shr_small hji85
                  obtain rfl := Option.some.inj H
                  go_enter Try.func6, Try.ntmps6
                  go_wp2_with (first | ((with_reducible refine gate_callee (f := 16) rfl ?_); refine goesL_ (some 9) rfl rfl Try.func16 (by kernel_rfl) rfl #[] rfl (by (try simp only [List.map_toArray, List.map_cons, List.map_nil]); first | done | rfl | (simp only [List.length_drop, List.length_take]; rfl)) ?_; (with_reducible refine (missivelaw01_numbers.calls k  true _ A4.out).mono ?_); rintro e w86 ⟨rfl, hb⟩; refine ⟨_, rfl, ?_⟩; have n0_ := Aside0.mk (below_step (by repeat (first | (with_reducible first | exact HB.out | apply below_alloc | apply pw_below_drewN | apply below_drew1) | exact HB.out)) hb); clear HB; have HB := n0_; clear n0_; (try clear hb); (try clear hb2); (try clear hk); (try clear hi)) | ((with_reducible refine gate_callee (f := 19) rfl ?_); refine goesL_ (some 12) rfl rfl Try.func19 (by kernel_rfl) rfl #[.int .u64 a0] rfl (by (try simp only [List.map_toArray, List.map_cons, List.map_nil]); first | done | rfl | (simp only [List.length_drop, List.length_take]; rfl)) ?_; (with_reducible refine (vari_Size.calls a0 t160 _ A6.out).mono ?_); rintro e w87 ⟨rfl, hb⟩; refine ⟨_, rfl, ?_⟩; have n0_ := Aside0.mk (below_step (by repeat (first | (with_reducible first | exact HB.out | apply below_alloc | apply pw_below_drewN | apply below_drew1) | exact HB.out)) hb); clear HB; have HB := n0_; clear n0_; (try clear hb); (try clear hb2); (try clear hk); (try clear hi)) | ((with_reducible refine gate_callee (f := 19) rfl ?_); refine goesL_ (some 14) rfl rfl Try.func19 (by kernel_rfl) rfl #[.int .u64 a1] rfl (by (try simp only [List.map_toArray, List.map_cons, List.map_nil]); first | done | rfl | (simp only [List.length_drop, List.length_take]; rfl)) ?_; (with_reducible refine (vari_Size.calls a1 t161 _ A7.out).mono ?_); rintro e w88 ⟨rfl, hb⟩; refine ⟨_, rfl, ?_⟩; have n0_ := Aside0.mk (below_step (by repeat (first | (with_reducible first | exact HB.out | apply below_alloc | apply pw_below_drewN | apply below_drew1) | exact HB.out)) hb); clear HB; have HB := n0_; clear n0_; (try clear hb); (try clear hb2); (try clear hk); (try clear hi)))
                  go_ret
                  exact ⟨by first | rfl | (simp [errW_none, errW_some] <;> rfl) | (simp only [← hji83, ← hji85]; first | rfl | (simp [errW_none, errW_some] <;> rfl)) | (simp [*, errW_none, errW_some] <;> rfl), by repeat (first | (with_reducible first | exact HB.out | apply below_alloc | apply pw_below_drewN | apply below_drew1) | exact HB.out)⟩
                · rw [if_neg c84] at H
                  exact absurd H (by simp)
              · rw [if_neg c82] at H
                have c82b0 : decide (t161 ≤ t160) = false := decide_eq_false c82
                clear c82
                obtain rfl := Option.some.inj H
                go_enter Try.func6, Try.ntmps6
                go_wp2_with (first | ((with_reducible refine gate_callee (f := 16) rfl ?_); refine goesL_ (some 9) rfl rfl Try.func16 (by kernel_rfl) rfl #[] rfl (by (try simp only [List.map_toArray, List.map_cons, List.map_nil]); first | done | rfl | (simp only [List.length_drop, List.length_take]; rfl)) ?_; (with_reducible refine (missivelaw01_numbers.calls k  true _ A4.out).mono ?_); rintro e w89 ⟨rfl, hb⟩; refine ⟨_, rfl, ?_⟩; have n0_ := Aside0.mk (below_step (by repeat (first | (with_reducible first | exact HB.out | apply below_alloc | apply pw_below_drewN | apply below_drew1) | exact HB.out)) hb); clear HB; have HB := n0_; clear n0_; (try clear hb); (try clear hb2); (try clear hk); (try clear hi)) | ((with_reducible refine gate_callee (f := 19) rfl ?_); refine goesL_ (some 12) rfl rfl Try.func19 (by kernel_rfl) rfl #[.int .u64 a0] rfl (by (try simp only [List.map_toArray, List.map_cons, List.map_nil]); first | done | rfl | (simp only [List.length_drop, List.length_take]; rfl)) ?_; (with_reducible refine (vari_Size.calls a0 t160 _ A6.out).mono ?_); rintro e w90 ⟨rfl, hb⟩; refine ⟨_, rfl, ?_⟩; have n0_ := Aside0.mk (below_step (by repeat (first | (with_reducible first | exact HB.out | apply below_alloc | apply pw_below_drewN | apply below_drew1) | exact HB.out)) hb); clear HB; have HB := n0_; clear n0_; (try clear hb); (try clear hb2); (try clear hk); (try clear hi)) | ((with_reducible refine gate_callee (f := 19) rfl ?_); refine goesL_ (some 14) rfl rfl Try.func19 (by kernel_rfl) rfl #[.int .u64 a1] rfl (by (try simp only [List.map_toArray, List.map_cons, List.map_nil]); first | done | rfl | (simp only [List.length_drop, List.length_take]; rfl)) ?_; (with_reducible refine (vari_Size.calls a1 t161 _ A7.out).mono ?_); rintro e w91 ⟨rfl, hb⟩; refine ⟨_, rfl, ?_⟩; have n0_ := Aside0.mk (below_step (by repeat (first | (with_reducible first | exact HB.out | apply below_alloc | apply pw_below_drewN | apply below_drew1) | exact HB.out)) hb); clear HB; have HB := n0_; clear n0_; (try clear hb); (try clear hb2); (try clear hk); (try clear hi)))
                go_ret
                exact ⟨by first | rfl | (simp [errW_none, errW_some] <;> rfl) | (simp [*, errW_none, errW_some] <;> rfl), by repeat (first | (with_reducible first | exact HB.out | apply below_alloc | apply pw_below_drewN | apply below_drew1) | exact HB.out)⟩
          · rw [if_neg c74] at H
            have c74b0 : decide (t160 ≤ t161) = false := decide_eq_false c74
            clear c74
            obtain rfl := Option.some.inj H
            go_enter Try.func6, Try.ntmps6
            go_wp2_with (first | ((with_reducible refine gate_callee (f := 16) rfl ?_); refine goesL_ (some 9) rfl rfl Try.func16 (by kernel_rfl) rfl #[] rfl (by (try simp only [List.map_toArray, List.map_cons, List.map_nil]); first | done | rfl | (simp only [List.length_drop, List.length_take]; rfl)) ?_; (with_reducible refine (missivelaw01_numbers.calls k  true _ A4.out).mono ?_); rintro e w92 ⟨rfl, hb⟩; refine ⟨_, rfl, ?_⟩; have n0_ := Aside0.mk (below_step (by repeat (first | (with_reducible first | exact HB.out | apply below_alloc | apply pw_below_drewN | apply below_drew1) | exact HB.out)) hb); clear HB; have HB := n0_; clear n0_; (try clear hb); (try clear hb2); (try clear hk); (try clear hi)) | ((with_reducible refine gate_callee (f := 19) rfl ?_); refine goesL_ (some 12) rfl rfl Try.func19 (by kernel_rfl) rfl #[.int .u64 a0] rfl (by (try simp only [List.map_toArray, List.map_cons, List.map_nil]); first | done | rfl | (simp only [List.length_drop, List.length_take]; rfl)) ?_; (with_reducible refine (vari_Size.calls a0 t160 _ A6.out).mono ?_); rintro e w93 ⟨rfl, hb⟩; refine ⟨_, rfl, ?_⟩; have n0_ := Aside0.mk (below_step (by repeat (first | (with_reducible first | exact HB.out | apply below_alloc | apply pw_below_drewN | apply below_drew1) | exact HB.out)) hb); clear HB; have HB := n0_; clear n0_; (try clear hb); (try clear hb2); (try clear hk); (try clear hi)) | ((with_reducible refine gate_callee (f := 19) rfl ?_); refine goesL_ (some 14) rfl rfl Try.func19 (by kernel_rfl) rfl #[.int .u64 a1] rfl (by (try simp only [List.map_toArray, List.map_cons, List.map_nil]); first | done | rfl | (simp only [List.length_drop, List.length_take]; rfl)) ?_; (with_reducible refine (vari_Size.calls a1 t161 _ A7.out).mono ?_); rintro e w94 ⟨rfl, hb⟩; refine ⟨_, rfl, ?_⟩; have n0_ := Aside0.mk (below_step (by repeat (first | (with_reducible first | exact HB.out | apply below_alloc | apply pw_below_drewN | apply below_drew1) | exact HB.out)) hb); clear HB; have HB := n0_; clear n0_; (try clear hb); (try clear hb2); (try clear hk); (try clear hi)))
            go_ret
            exact ⟨by first | rfl | (simp [errW_none, errW_some] <;> rfl) | (simp [*, errW_none, errW_some] <;> rfl), by repeat (first | (with_reducible first | exact HB.out | apply below_alloc | apply pw_below_drewN | apply below_drew1) | exact HB.out)⟩
  · replace c5 := Bool.eq_false_iff.mpr c5
    subst c5
    have H1 : (some false) = some r := by rw [if_neg (show ¬ (false = true) by decide)] at H; exact H
    clear H
    have H := H1
    clear H1
    obtain rfl := Option.some.inj H
    go_enter Try.func6, Try.ntmps6
    go_wp2_with (first | ((with_reducible refine gate_callee (f := 16) rfl ?_); refine goesL_ (some 9) rfl rfl Try.func16 (by kernel_rfl) rfl #[] rfl (by (try simp only [List.map_toArray, List.map_cons, List.map_nil]); first | done | rfl | (simp only [List.length_drop, List.length_take]; rfl)) ?_; (with_reducible refine (missivelaw01_numbers.calls k  false _ A4.out).mono ?_); rintro e w95 ⟨rfl, hb⟩; refine ⟨_, rfl, ?_⟩; have n0_ := Aside0.mk (below_step (by repeat (first | (with_reducible first | exact HB.out | apply below_alloc | apply pw_below_drewN | apply below_drew1) | exact HB.out)) hb); clear HB; have HB := n0_; clear n0_; (try clear hb); (try clear hb2); (try clear hk); (try clear hi)))
    go_ret
    exact ⟨by first | rfl | (simp [errW_none, errW_some] <;> rfl) | (simp [*, errW_none, errW_some] <;> rfl), by repeat (first | (with_reducible first | exact HB.out | apply below_alloc | apply pw_below_drewN | apply below_drew1) | exact HB.out)⟩

/-- THE ONE PURE STATEMENT of missivelaw01_VariFew: yours. -/
def missivelaw01_VariFew.Pure : Prop := ∀ (a0 : Int) (a1 : Int) (a2 : Int), (Lit.int .u64 a0).wf = true → (Lit.int .u64 a1).wf = true → (Lit.int .i64 a2).wf = true → ∃ k, missivelaw01_VariFew.f k a0 a1 a2 = some true
theorem missivelaw01_VariFew.walk (P : missivelaw01_VariFew.Pure) (a0 : Int) (a1 : Int) (a2 : Int) (w : World) (w0 : (Lit.int .u64 a0).wf = true) (w1 : (Lit.int .u64 a1).wf = true) (w2 : (Lit.int .i64 a2).wf = true) :
    Calls Try.prog 6 #[.int .u64 a0, .int .u64 a1, .int .i64 a2] w fun e w' => e = .returned (.bool true) ∧ Below w.heap.size w w' := by
  obtain ⟨k, h⟩ := P a0 a1 a2 w0 w1 w2
  refine (missivelaw01_VariFew.calls k a0 a1 a2 true w h).mono ?_
  rintro e w' ⟨rfl, hd⟩
  exact ⟨rfl, hd⟩

end Go.Proofs.Ytienpgbbjahadaa.PA
