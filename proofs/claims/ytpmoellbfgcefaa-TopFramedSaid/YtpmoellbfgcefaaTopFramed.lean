/- The statement of framed lists, over the printed functions. -/
import Derived.Test.YtpmoellbfgcefaaSEv
import Derived.Test.YtpmoellbfgcefaaLEv
import Derived.Test.YtpmoellbfgcefaaPA19
import Derived.Test.YtpmoellbfgcefaaPA23
import Derived.Test.YtpmoellbfgcefaaPA24
namespace Go.Proofs.YtpmoellbfgcefaaV
open Go.RowKit Go.Proofs.YtpmoellbfgcefaaW.PrintWords Go.Proofs.YtpmoellbfgcefaaW.PrintLast Go.Proofs.YtpmoellbfgcefaaW.PrintMore Go.Proofs.Ytpmoellbfgcefaa.PA
set_option linter.unusedVariables false

theorem begins_ev : Ev (fun k => missivetop_begins.f k) true := Ev.of (fun k => missivetop_begins.mono k) (k := 30) (by decide +kernel)
theorem tsame_l (a b : List Int) (hlen : a.length = b.length) (hb : a.length ≤ 9223372036854775807) : ∀ (d i : Nat), i + d = a.length → Ev (fun k => missivetop_same.l0 k a b (a.length : Int) (i : Int)) (decide (a.drop i = b.drop i)) := by
  intro d
  induction d with
  | zero =>
    intro i hd
    refine Ev_one fun k => ?_
    simp only [missivetop_same.l0]
    rw [if_neg (by omega), List.drop_eq_nil_of_le (by omega), List.drop_eq_nil_of_le (by omega)]
    simp
  | succ d ih =>
    intro i hd
    have h1 : i < a.length := by omega
    have h2 : i < b.length := by omega
    rw [drop_getD h1, drop_getD h2]
    have w1 : wrap64 ((i : Int) + 1) = ((i + 1 : Nat) : Int) := by rw [w64 (by omega) (by omega)]; rfl
    by_cases he : a.getD i 0 = b.getD i 0
    · refine Ev.step (f := fun k => missivetop_same.l0 k a b (a.length : Int) ((i + 1 : Nat) : Int)) (fun k => ?_) ?_
      · simp only [missivetop_same.l0, rd_nat]
        rw [if_pos (by omega), if_pos (by omega), if_pos (by omega), if_pos (by omega), if_pos he, w1]
      · rw [he]
        have := ih (i + 1) (by omega)
        simpa using this
    · refine Ev_one fun k => ?_
      simp only [missivetop_same.l0, rd_nat]
      rw [if_pos (by omega), if_pos (by omega), if_pos (by omega), if_pos (by omega), if_neg he]
      refine congrArg some (Eq.symm (decide_eq_false fun h => he ?_))
      injection h
theorem tsame_ev (a b : List Int) (hb : a.length ≤ 9223372036854775807) : Ev (fun k => missivetop_same.f k a b) (decide (a = b)) := by
  unfold missivetop_same.f
  by_cases h : a.length = b.length
  · refine Ev_if (by omega) ?_
    have := tsame_l a b h hb a.length 0 (by omega)
    simpa using this
  · refine Ev_ifn (by omega) (Ev_const ?_)
    have : a ≠ b := fun e => h (by rw [e])
    simp [this]
theorem TopFramed_law : missivetop_TopFramed.Pure := by
  intro a b cut ha ha4 haw hb hb4 hbw hcut
  have har : ∀ x ∈ a, 0 ≤ x ∧ x ≤ 4294967295 := fun x hx => wf_u32 (haw x hx)
  have hbr : ∀ x ∈ b, 0 ≤ x ∧ x ≤ 4294967295 := fun x hx => wf_u32 (hbw x hx)
  have za := lists_size har
  have zb := lists_size hbr
  refine Ev.rounds ?_
  unfold missivetop_TopFramed.f
  refine Ev.bind begins_ev (Ev_if rfl ?_)
  refine Ev.bind (list_ev a har) ?_
  refine Ev.bind (list_ev b hbr) ?_
  have j0t : Ev (fun k => missivetop_TopFramed.j0 k a b cut (lists a).1 (lists b).1 true) true := Ev_one fun k => by simp [missivetop_TopFramed.j0]
  by_cases h1 : (lists a).2 = 0
  · refine Ev_if h1 ?_
    by_cases h2 : (lists b).2 = 0
    · rw [h2]
      have fa : (frames (lists a).1).2 = 0 := by unfold frames; rw [if_neg (by omega)]
      have fb : (frames (lists b).1).2 = 0 := by unfold frames; rw [if_neg (by omega)]
      have hj : joins [(lists a).1, (lists b).1] = ((frames (lists a).1).1 ++ (frames (lists b).1).1, 0) := by
        simp only [joins, joinsF, fa, fb, if_true, nil_app]
      have sa := frames_size (lists a).1
      have sb := frames_size (lists b).1
      refine Ev.step (f := fun k => (rec_Join.f k (([(lists a).1, (lists b).1] : List ByteArray))).bind fun bt417 => (if bt417.2 = 0 then (if cut < 0 then (missivetop_TopFramed.j1 k a b cut bt417.1 true) else (missivetop_TopFramed.j1 k a b cut bt417.1 (decide (cut > (bt417.1.size : Int))))) else (some (bt417.2 == 15)))) (fun k => by simp [missivetop_TopFramed.j0]) ?_
      refine Ev.bind (join_ev _ (by simp)) ?_
      rw [hj]
      refine Ev_if rfl ?_
      simp only
      generalize hf : (frames (lists a).1).1 ++ (frames (lists b).1).1 = f
      have hfz : f.size ≤ 2097180 := by rw [← hf, ByteArray.size_append]; omega
      have j1t : Ev (fun k => missivetop_TopFramed.j1 k a b cut f true) true := Ev_one fun k => by simp [missivetop_TopFramed.j1]
      by_cases c0 : cut < 0
      · exact Ev_if c0 j1t
      · refine Ev_ifn c0 ?_
        by_cases c1 : cut > (f.size : Int)
        · rw [decide_eq_true c1]; exact j1t
        · rw [decide_eq_false c1]
          have hall : alls f = ([(lists a).1, (lists b).1], ⟨#[]⟩) := by rw [← hf]; exact alls_two fa fb
          refine Ev.step (f := fun k => (rec_All.f k f).bind fun bt419 => (if bt419.2 = (f.size : Int) then (missivetop_TopFramed.j2 k a b cut f bt419.1 ((bt419.1.length : Int) != 2)) else (missivetop_TopFramed.j2 k a b cut f bt419.1 true))) (fun k => by simp [missivetop_TopFramed.j1]) ?_
          refine Ev.bind (all_ev f (by omega)) ?_
          rw [hall]
          have z0 : (⟨#[]⟩ : ByteArray).size = 0 := rfl
          refine Ev_if (by simp only [z0]; omega) ?_
          have r1 := reads_lists har h1 ⟨#[]⟩
          have r2 := reads_lists hbr h2 ⟨#[]⟩
          rw [app_nil] at r1 r2
          obtain ⟨c, rfl⟩ := Int.eq_ofNat_of_zero_le (show 0 ≤ cut by omega)
          have hx := take_rest f c (by omega)
          have hxz : (f.extract 0 c).size = c := by rw [ByteArray.size_extract]; omega
          have hrest := alls_rest (f.extract 0 c)
          have hfew := alls_few fa fb (x := f.extract 0 c) (y := f.extract c f.size) (by rw [hf]; exact hx)
          refine Ev.step (f := fun k => (vari_Read.f k (lists a).1).bind fun bt424 => ((vari_Read.f k (lists b).1).bind fun bt430 => ((rec_All.f k (f.extract 0 c)).bind fun bt435 => (if bt424.2.2 = 0 then (if bt424.2.1.toList = ([] : List UInt8) then ((missivetop_same.f k bt424.1 a).bind fun t439 => (if t439 = true then (if bt430.2.2 = 0 then (if bt430.2.1.toList = ([] : List UInt8) then ((missivetop_same.f k bt430.1 b).bind fun t440 => (if t440 = true then (if (bt435.1.length : Int) ≤ 2 then (if bt435.2 ≤ (c : Int) then (if (c : Int) < (f.size : Int) then (some true) else (some ((bt435.1.length : Int) == 2))) else (some false)) else (some false)) else (some false))) else (some false)) else (some false)) else (some false))) else (some false)) else (some false))))) (fun k => ?_) ?_
          · simp only [missivetop_TopFramed.j2]
            rw [if_neg (by simp), if_pos (by simp)]
            congr 1
            funext u
            rw [if_pos (by simp)]
            congr 1
            funext v
            rw [if_pos (by omega), if_pos (by omega), Int.toNat_natCast]
          · refine Ev.bind (read_ev _ (by omega)) ?_
            refine Ev.bind (read_ev _ (by omega)) ?_
            refine Ev.bind (all_ev _ (by omega)) ?_
            rw [r1, r2]
            have hl : ∀ {l : List Int}, (lists l).2 = 0 → l.length ≤ 65536 := fun {l} h => by
              unfold lists at h
              split at h
              · cases h
              · omega
            refine Ev_if rfl (Ev_if empty_toList ?_)
            refine Ev.bind (tsame_ev a a (by have := hl h1; omega)) (Ev_if (by simp) ?_)
            refine Ev_if rfl (Ev_if empty_toList ?_)
            refine Ev.bind (tsame_ev b b (by have := hl h2; omega)) (Ev_if (by simp) ?_)
            refine Ev_if (by simp only; omega) (Ev_if (by simp only; omega) ?_)
            by_cases hlt : (c : Int) < (f.size : Int)
            · exact Ev_if hlt (Ev.now _)
            · refine Ev_ifn hlt (Ev_const ?_)
              obtain rfl : c = f.size := by omega
              have e : f.extract 0 f.size = f := by simp
              rw [e, hall]; rfl
    · rw [bne_iff_ne.mpr h2]; exact j0t
  · exact Ev_ifn h1 j0t
end Go.Proofs.YtpmoellbfgcefaaV
