/- The functions that the laws use, as plain Lean functions, and that the calls of the program answer so; written by xprint.py. -/
import Derived.Test.YtienpgbbjahadaaPA0
import Derived.Test.YtienpgbbjahadaaPA17
import Derived.Test.YtienpgbbjahadaaPA18
import Derived.Test.YtienpgbbjahadaaPA22
namespace Go.Proofs.Ytienpgbbjahadaa.PA
open Go.RowKit Go.Proofs.YtienpgbbjahadaaX Go.Proofs.YtienpgbbjahadaaW.PrintWords Go.Proofs.YtienpgbbjahadaaW.PrintLast Go.Proofs.YtienpgbbjahadaaW.PrintMore
attribute [local go_sem] max2_int min2_int max_two min_two max_three min_three max_four min_four xjump_ret xjump_normal xjump_exit xjump_panic xjump_goto   -- for this text's walks alone
set_option linter.unusedVariables false
set_option linter.unusedSimpArgs false

/-! ### missivelaw02_RecTurned: function 13 -/
theorem bytesCell_at (W : World) (e : TypeId) (s : ByteArray) (i : Int) (h : i.toNat < s.size) : (Lib.bytesWorld W e s).cell? ⟨W.heap.size, i.toNat, none⟩ = some (.int .u8 (bt s i)) := by
  rw [Lib.bytesWorld_cell W e s i.toNat h]
  have h' : i.toNat < s.data.toList.length := by rw [data_length]; exact h
  simp [bt, h, List.getD_eq_getElem?_getD, List.getElem?_eq_getElem h']
  rfl
theorem bytesCell_free (W : World) (e : TypeId) (s : ByteArray) (i : Int) (h : i.toNat < s.size) : (Lib.bytesWorld W e s).frozen? ⟨W.heap.size, i.toNat, none⟩ = false := by
  have hs : s.size ≤ (Lib.bytesCells W e s).size := by simp [Lib.bytesCells]
  unfold World.frozen?
  rw [Lib.bytesWorld_at_new]
  simp only [Bool.and_eq_false_iff, decide_eq_false_iff_not]
  omega
theorem bytesTurned_back {P : Program} (W : World) (src e dst : TypeId) (hs : P.underlying src = some (.slice e)) (he : P.underlying e = some (.int .u8)) (hd : P.underlying dst = some .string) (s : ByteArray) (i x : Int) (c : Nat) (h : i.toNat < s.size) :
    (convert src dst (.slice (some ⟨W.heap.size, 0, none⟩) s.size c)).run P ((Lib.bytesWorld W e s).setCell ⟨W.heap.size, i.toNat, none⟩ (.int .u8 x)) = .ok (.string (strOfNums ((bytesOf s).set i.toNat x))) ((Lib.bytesWorld W e s).setCell ⟨W.heap.size, i.toNat, none⟩ (.int .u8 x)) := by
  refine run_convert_bytes_arg _ src e hs he W.heap.size 0 s.size c ((bytesOf s).set i.toNat x) (by rw [List.length_set, bytesOf_length]) (fun j hj => ?_) dst hd
  rw [Nat.zero_add]
  by_cases hji : j = i.toNat
  · subst hji
    rw [World.cell?_setCell_same _ _ _ (bytesCell_at W e s i h)]
    simp [List.getD_eq_getElem?_getD, bytesOf_length, h]
  · rw [World.cell?_setCell_other _ _ _ _ (by intro hc; injection hc with _ h2 _; exact hji h2.symm)]
    have hz := bytesCell_at W e s (j : Int) (by simpa using hj)
    simp only [Int.toNat_natCast] at hz
    rw [hz]
    have hl : j < (bytesOf s).length := by rw [bytesOf_length]; exact hj
    rw [List.getD_eq_getElem?_getD, List.getElem?_set_ne (fun h => hji h.symm), List.getElem?_eq_getElem hl]
    simp [bytesOf, bt, hj]
    rfl
def missivelaw02_RecTurned.turned (t : ByteArray) (i b : Int) : ByteArray := strOfNums ((bytesOf t).set i.toNat (Go.bits .xor .u8 (bt t i) b))
def missivelaw02_RecTurned.f (k : Nat) (a0 : ByteArray) (a1 : Int) (a2 : Int) : Option (Bool) := (missivelaw02_lives.f k).bind fun t1 => (if t1 = true then ((rec_Frame.f k a0).bind fun b2 => (if b2.2 = 0 then (if a2 = 0 then some true else (if a1 < wrap64 (wrap64 ((b2.1.size : Int) - (a0.size : Int)) - 4) then some true else (if a1 ≥ (b2.1.size : Int) then some true else (if 0 ≤ a1 then ((rec_Next.f k (missivelaw02_RecTurned.turned b2.1 a1 a2)).bind fun b3 => some (b3.2.2 == 6 && b3.1.toList == ([] : List UInt8) && b3.2.1.toList == ([] : List UInt8))) else none)))) else some true)) else (some false))
theorem missivelaw02_RecTurned.mono : ∀ a0 a1 a2 k, LeO (missivelaw02_RecTurned.f k a0 a1 a2) (missivelaw02_RecTurned.f (k + 1) a0 a1 a2) := by
  intro a0 a1 a2 k
  unfold missivelaw02_RecTurned.f
  repeat' first
      | (with_reducible exact missivelaw02_lives.mono _)
      | (with_reducible exact rec_Frame.mono _ _)
      | (with_reducible exact rec_Next.mono _ _)
      | (with_reducible exact LeO.refl _)
      | (with_reducible exact LeO.none _)
      | (with_reducible refine LeO.ite ?_ ?_)
      | (with_reducible refine LeO.bind ?_ (fun _ => ?_))
set_option maxHeartbeats 8000000 in
set_option maxRecDepth 100000 in
theorem missivelaw02_RecTurned.calls (k : Nat) (a0 : ByteArray) (a1 : Int) (a2 : Int) (r : Bool) (w : World) (h : missivelaw02_RecTurned.f k a0 a1 a2 = some r) :
    Calls Try.prog 13 #[.string a0, .int .i64 a1, .int .u8 a2] w fun e w' => e = .returned (.bool r) ∧ Below w.heap.size w w' := by
  have HB := Aside0.mk (Below.refl w.heap.size w)
  unfold missivelaw02_RecTurned.f at h
  replace h := Option.bind_eq_some_iff.mp h
  obtain ⟨t1, A1, h⟩ := h
  replace A1 := Aside0.mk A1
  by_cases c1 : t1 = true
  · subst c1
    rw [if_pos rfl] at h
    replace h := Option.bind_eq_some_iff.mp h
    obtain ⟨⟨b1, b2⟩, A2, h⟩ := h
    replace A2 := Aside0.mk A2
    dsimp only at h
    by_cases c2 : b2 = 0
    · rw [if_pos c2] at h
      by_cases c3 : a2 = 0
      · rw [if_pos c3] at h
        obtain rfl := Option.some.inj h
        have c2b : (b2 == 0) = true := beq_iff_eq.mpr c2
        have c2c : (b2 != 0) = false := bne_eq_false_iff_eq.mpr c2
        have c3b : (a2 == 0) = true := beq_iff_eq.mpr c3
        clear c2 c3 h
        go_enter Try.func13, Try.ntmps13
        go_wp2_with (first | ((with_reducible refine gate_callee (f := 35) rfl ?_); refine goesL_ (some 14) rfl rfl Try.func35 (by kernel_rfl) rfl #[] rfl (by (try simp only [List.map_toArray, List.map_cons, List.map_nil]); first | done | rfl) ?_; (with_reducible refine (missivelaw02_lives.calls k true _ A1.out).mono ?_); rintro e wx ⟨rfl, hb⟩; refine ⟨_, rfl, ?_⟩; have n0_ := Aside0.mk (below_step (by repeat (first | (with_reducible first | exact HB.out | apply below_alloc | apply pw_below_drewN | apply below_drew1) | exact HB.out)) hb); clear HB; have HB := n0_; clear n0_; (try clear hb)) | ((with_reducible refine gate_callee (f := 31) rfl ?_); refine goesL_ (some 18) rfl rfl Try.func31 (by kernel_rfl) rfl #[.string a0] rfl (by (try simp only [List.map_toArray, List.map_cons, List.map_nil]); first | done | rfl) ?_; (with_reducible refine (rec_Frame.calls k a0 b1 b2 _ A2.out).mono ?_); rintro e wx ⟨rfl, hb⟩; refine ⟨_, rfl, ?_⟩; have n0_ := Aside0.mk (below_step (by repeat (first | (with_reducible first | exact HB.out | apply below_alloc | apply pw_below_drewN | apply below_drew1) | exact HB.out)) hb); clear HB; have HB := n0_; clear n0_; (try clear hb)))
        go_ret
        exact ⟨rfl, HB.out⟩
      · rw [if_neg c3] at h
        have c2b : (b2 == 0) = true := beq_iff_eq.mpr c2
        have c2c : (b2 != 0) = false := bne_eq_false_iff_eq.mpr c2
        have c3b : (a2 == 0) = false := beq_eq_false_iff_ne.mpr c3
        clear c2 c3
        by_cases c4 : a1 < wrap64 (wrap64 ((b1.size : Int) - (a0.size : Int)) - 4)
        · rw [if_pos c4] at h
          obtain rfl := Option.some.inj h
          have c4b : decide (a1 < wrap64 (wrap64 ((b1.size : Int) - (a0.size : Int)) - 4)) = true := decide_eq_true c4
          clear c4 h
          go_enter Try.func13, Try.ntmps13
          go_wp2_with (first | ((with_reducible refine gate_callee (f := 35) rfl ?_); refine goesL_ (some 14) rfl rfl Try.func35 (by kernel_rfl) rfl #[] rfl (by (try simp only [List.map_toArray, List.map_cons, List.map_nil]); first | done | rfl) ?_; (with_reducible refine (missivelaw02_lives.calls k true _ A1.out).mono ?_); rintro e wx ⟨rfl, hb⟩; refine ⟨_, rfl, ?_⟩; have n0_ := Aside0.mk (below_step (by repeat (first | (with_reducible first | exact HB.out | apply below_alloc | apply pw_below_drewN | apply below_drew1) | exact HB.out)) hb); clear HB; have HB := n0_; clear n0_; (try clear hb)) | ((with_reducible refine gate_callee (f := 31) rfl ?_); refine goesL_ (some 18) rfl rfl Try.func31 (by kernel_rfl) rfl #[.string a0] rfl (by (try simp only [List.map_toArray, List.map_cons, List.map_nil]); first | done | rfl) ?_; (with_reducible refine (rec_Frame.calls k a0 b1 b2 _ A2.out).mono ?_); rintro e wx ⟨rfl, hb⟩; refine ⟨_, rfl, ?_⟩; have n0_ := Aside0.mk (below_step (by repeat (first | (with_reducible first | exact HB.out | apply below_alloc | apply pw_below_drewN | apply below_drew1) | exact HB.out)) hb); clear HB; have HB := n0_; clear n0_; (try clear hb)))
          go_ret
          exact ⟨rfl, HB.out⟩
        · rw [if_neg c4] at h
          have c4b : decide (a1 < wrap64 (wrap64 ((b1.size : Int) - (a0.size : Int)) - 4)) = false := decide_eq_false c4
          clear c4
          by_cases c5 : a1 ≥ (b1.size : Int)
          · rw [if_pos c5] at h
            obtain rfl := Option.some.inj h
            go_enter Try.func13, Try.ntmps13
            go_wp2_with (first | ((with_reducible refine gate_callee (f := 35) rfl ?_); refine goesL_ (some 14) rfl rfl Try.func35 (by kernel_rfl) rfl #[] rfl (by (try simp only [List.map_toArray, List.map_cons, List.map_nil]); first | done | rfl) ?_; (with_reducible refine (missivelaw02_lives.calls k true _ A1.out).mono ?_); rintro e wx ⟨rfl, hb⟩; refine ⟨_, rfl, ?_⟩; have n0_ := Aside0.mk (below_step (by repeat (first | (with_reducible first | exact HB.out | apply below_alloc | apply pw_below_drewN | apply below_drew1) | exact HB.out)) hb); clear HB; have HB := n0_; clear n0_; (try clear hb)) | ((with_reducible refine gate_callee (f := 31) rfl ?_); refine goesL_ (some 18) rfl rfl Try.func31 (by kernel_rfl) rfl #[.string a0] rfl (by (try simp only [List.map_toArray, List.map_cons, List.map_nil]); first | done | rfl) ?_; (with_reducible refine (rec_Frame.calls k a0 b1 b2 _ A2.out).mono ?_); rintro e wx ⟨rfl, hb⟩; refine ⟨_, rfl, ?_⟩; have n0_ := Aside0.mk (below_step (by repeat (first | (with_reducible first | exact HB.out | apply below_alloc | apply pw_below_drewN | apply below_drew1) | exact HB.out)) hb); clear HB; have HB := n0_; clear n0_; (try clear hb)))
            go_ret
            exact ⟨rfl, HB.out⟩
          · rw [if_neg c5] at h
            by_cases c6 : 0 ≤ a1
            · rw [if_pos c6] at h
              replace h := Option.bind_eq_some_iff.mp h
              obtain ⟨⟨d1, d2, d3⟩, A3, h⟩ := h
              replace A3 := Aside0.mk A3
              dsimp only at h
              have c5b : ¬ ((b1.size : Int) ≤ a1) := c5
              have hlt : a1.toNat < b1.size := by omega
              have hc1 : a1 < (b1.size : Int) := by omega
              have hconv := fun W => print_bytes (P := Try.prog) 9 55 5 Try.underlying9 Try.underlying55 Try.underlying5 b1 W
              have hcell := fun W => bytesCell_at W 5 b1 a1 hlt
              have hfree := fun W => bytesCell_free W 5 b1 a1 hlt
              have hback := fun W c => bytesTurned_back (P := Try.prog) W 55 5 9 Try.underlying55 Try.underlying5 Try.underlying9 b1 a1 (Go.bits .xor .u8 (bt b1 a1) a2) c hlt
              go_enter Try.func13, Try.ntmps13
              go_wp2_with (first | ((with_reducible refine gate_callee (f := 35) rfl ?_); refine goesL_ (some 14) rfl rfl Try.func35 (by kernel_rfl) rfl #[] rfl (by (try simp only [List.map_toArray, List.map_cons, List.map_nil]); first | done | rfl) ?_; (with_reducible refine (missivelaw02_lives.calls k true _ A1.out).mono ?_); rintro e wx ⟨rfl, hb⟩; refine ⟨_, rfl, ?_⟩; have n0_ := Aside0.mk (below_step (by repeat (first | (with_reducible first | exact HB.out | apply below_alloc | apply pw_below_drewN | apply below_drew1) | exact HB.out)) hb); clear HB; have HB := n0_; clear n0_; (try clear hb)) | ((with_reducible refine gate_callee (f := 31) rfl ?_); refine goesL_ (some 18) rfl rfl Try.func31 (by kernel_rfl) rfl #[.string a0] rfl (by (try simp only [List.map_toArray, List.map_cons, List.map_nil]); first | done | rfl) ?_; (with_reducible refine (rec_Frame.calls k a0 b1 b2 _ A2.out).mono ?_); rintro e wx ⟨rfl, hb⟩; refine ⟨_, rfl, ?_⟩; have n0_ := Aside0.mk (below_step (by repeat (first | (with_reducible first | exact HB.out | apply below_alloc | apply pw_below_drewN | apply below_drew1) | exact HB.out)) hb); clear HB; have HB := n0_; clear n0_; (try clear hb)) | ((with_reducible refine gate_callee (f := 33) rfl ?_); refine goesL_ (some 54) rfl rfl Try.func33 (by kernel_rfl) rfl #[.string (missivelaw02_RecTurned.turned b1 a1 a2)] rfl (by (try simp only [List.map_toArray, List.map_cons, List.map_nil]); first | done | rfl) ?_; (with_reducible refine (rec_Next.calls k _ d1 d2 d3 _ A3.out).mono ?_); rintro e wx ⟨rfl, hb⟩; refine ⟨_, rfl, ?_⟩; have n0_ := Aside0.mk (below_step (below_set (bytes_below HB.out HB.out.size 5 b1) HB.out.size) hb); clear HB; have HB := n0_; clear n0_; (try clear hb)))
              all_goals (go_ret; obtain rfl := Option.some.inj h; exact ⟨congrArg (fun b => Ending.returned (.bool b)) (by clear hconv hcell hfree hback HB A1 A2 A3; first | (simp [*]; done) | (simp only [*]; cases d2.toList <;> simp)), HB.out⟩)
            · rw [if_neg c6] at h
              exact absurd h (by simp)
    · rw [if_neg c2] at h
      have c2b : (b2 == 0) = false := beq_eq_false_iff_ne.mpr c2
      have c2c : (b2 != 0) = true := bne_iff_ne.mpr c2
      clear c2
      obtain rfl := Option.some.inj h
      go_enter Try.func13, Try.ntmps13
      go_wp2_with (first | ((with_reducible refine gate_callee (f := 35) rfl ?_); refine goesL_ (some 14) rfl rfl Try.func35 (by kernel_rfl) rfl #[] rfl (by (try simp only [List.map_toArray, List.map_cons, List.map_nil]); first | done | rfl) ?_; (with_reducible refine (missivelaw02_lives.calls k true _ A1.out).mono ?_); rintro e wx ⟨rfl, hb⟩; refine ⟨_, rfl, ?_⟩; have n0_ := Aside0.mk (below_step (by repeat (first | (with_reducible first | exact HB.out | apply below_alloc | apply pw_below_drewN | apply below_drew1) | exact HB.out)) hb); clear HB; have HB := n0_; clear n0_; (try clear hb)) | ((with_reducible refine gate_callee (f := 31) rfl ?_); refine goesL_ (some 18) rfl rfl Try.func31 (by kernel_rfl) rfl #[.string a0] rfl (by (try simp only [List.map_toArray, List.map_cons, List.map_nil]); first | done | rfl) ?_; (with_reducible refine (rec_Frame.calls k a0 b1 b2 _ A2.out).mono ?_); rintro e wx ⟨rfl, hb⟩; refine ⟨_, rfl, ?_⟩; have n0_ := Aside0.mk (below_step (by repeat (first | (with_reducible first | exact HB.out | apply below_alloc | apply pw_below_drewN | apply below_drew1) | exact HB.out)) hb); clear HB; have HB := n0_; clear n0_; (try clear hb)))
      go_ret
      exact ⟨rfl, HB.out⟩
  · rw [if_neg c1] at h
    obtain rfl := Option.some.inj h
    have c1b : t1 = false := by simpa using c1
    subst c1b
    go_enter Try.func13, Try.ntmps13
    go_wp2_with ((with_reducible refine gate_callee (f := 35) rfl ?_); refine goesL_ (some 14) rfl rfl Try.func35 (by kernel_rfl) rfl #[] rfl (by (try simp only [List.map_toArray, List.map_cons, List.map_nil]); first | done | rfl) ?_; (with_reducible refine (missivelaw02_lives.calls k false _ A1.out).mono ?_); rintro e wx ⟨rfl, hb⟩; refine ⟨_, rfl, ?_⟩; have n0_ := Aside0.mk (below_step (by repeat (first | (with_reducible first | exact HB.out | apply below_alloc | apply pw_below_drewN | apply below_drew1) | exact HB.out)) hb); clear HB; have HB := n0_; clear n0_; (try clear hb))
    go_ret
    exact ⟨rfl, HB.out⟩
/-- THE ONE PURE STATEMENT of missivelaw02_RecTurned: yours. -/
def missivelaw02_RecTurned.Pure : Prop := ∀ (a0 : ByteArray) (a1 : Int) (a2 : Int), a0.size ≤ 140737488351232 → (Lit.int .i64 a1).wf = true → (Lit.int .u8 a2).wf = true → ∃ k, missivelaw02_RecTurned.f k a0 a1 a2 = some true
theorem missivelaw02_RecTurned.walk (P : missivelaw02_RecTurned.Pure) (a0 : ByteArray) (a1 : Int) (a2 : Int) (w : World) (w0 : a0.size ≤ 140737488351232) (w1 : (Lit.int .i64 a1).wf = true) (w2 : (Lit.int .u8 a2).wf = true) :
    Calls Try.prog 13 #[.string a0, .int .i64 a1, .int .u8 a2] w fun e w' => e = .returned (.bool true) ∧ Below w.heap.size w w' := by
  obtain ⟨k, h⟩ := P a0 a1 a2 w0 w1 w2
  refine (missivelaw02_RecTurned.calls k a0 a1 a2 true w h).mono ?_
  rintro e w' ⟨rfl, hd⟩
  exact ⟨rfl, hd⟩

end Go.Proofs.Ytienpgbbjahadaa.PA
