/- Of our own: an abstract machine beside the model, its soundness, and walks of the program in it. -/
import Derived.Test.YtpmoellbfgcefaaA11
import Derived.Test.YtpmoellbfgcefaaA24
import Derived.Test.YtpmoellbfgcefaaA20
import Derived.Test.YtpmoellbfgcefaaProg
set_option linter.unusedSimpArgs false
set_option linter.unusedVariables false
section
set_option maxRecDepth 100000
namespace Go.Proofs.Ytpmoellbfgcefaa.AS
open Go Go.Proofs Go.RowKit
def tyTab : List Nat := [0,0,4,4,10,5,5,0,0,9,9,9,8,0,0,0,0,0,0,0,0,3,0,0,4,0,0,0,0,0,0,0,7,0,0,8,0,0,0,0,0,0,0,0,0,0,0,0,0,0,0,0,0,0,0,0,0,0,0,0,0,0,0,0,0,0,0,0,0,0,0,0,0,0,0,0,0,0,0,0,0,0,0,0,0,0,0,0,0,0,0,0,0,0,0,0,0,0,0,0,0,0,0,0,0,0,0,0,0,0,0,0,0,0,8,0,0,0,0,0,0,0,0,0,0,0,0,0,0,0,0,0,0,0,0,0,0,0,5,5,0,0,3,3,0,0,0,0,0,0,0,0,0,0,0,0,0,0,0,0]
theorem tyTab_ok : undTab Try.prog 160 = tyTab := by kernel_rfl
theorem kd {t : Nat} {k : IntKind} (h : kdN (nthN tyTab t) = some k) : Try.prog.underlying t = some (.int k) := kd_of tyTab_ok h
theorem st {t : Nat} (h : Nat.beq (nthN tyTab t) 9 = true) : Try.prog.underlying t = some .string := str_of tyTab_ok h
theorem tb {t : Nat} (h : Nat.beq (nthN tyTab t) 10 = true) : Try.prog.underlying t = some .bool := bl_of tyTab_ok h
theorem begins34 : isTrue (evFn Try.prog T0 400 34 [] []) = true := by kernel_rfl
theorem hkBegins_ok : HookSound Try.prog 34 fun l h => (hkYes l).map fun x => (x, h) := by
  have hc : callable Try.prog 34 = true := by kernel_rfl
  refine hook0 (T := T0) hm T0_ok (fun l x hx => ?_) hc
  unfold hkYes at hx
  split at hx
  · cases hx
    obtain ⟨H, h⟩ := isTrue_of begins34
    exact ⟨hc, ⟨[], rfl⟩, ⟨.bool true, rfl⟩, 400, H, h⟩
  · cases hx
noncomputable def TQ1 : FuncId → Option AFunc := over T0 41 hkPack
theorem TQ1_ok : TabOK Try.prog TQ1 := over_ok T0_ok (hkPack_ok hm P2_ok rfl (over_same _ _ _) rfl rfl (by kernel_rfl))
noncomputable def TQ2 : FuncId → Option AFunc := over TQ1 42 hkUnpack
theorem TQ2_ok : TabOK Try.prog TQ2 := over_ok TQ1_ok (hkUnpack_ok hm P3_ok rfl rfl rfl rfl rfl rfl (by kernel_rfl) (by kernel_rfl))
noncomputable def TQ3 : FuncId → Option AFunc := over TQ2 32 hkWrite
theorem TQ3_ok : TabOK Try.prog TQ3 := over_ok TQ2_ok (hkWrite_ok hm T0_ok rfl rfl (by kernel_rfl))
noncomputable def TQ4 : FuncId → Option AFunc := over TQ3 23 hkFind
theorem TQ4_ok : TabOK Try.prog TQ4 := over_ok TQ3_ok (hkFind_ok hm T11_ok rfl rfl rfl (by kernel_rfl))
noncomputable def TQ : FuncId → Option AFunc := over TQ4 34 fun l h => (hkYes l).map fun x => (x, h)
theorem TQ_ok : TabOK Try.prog TQ := over_ok TQ4_ok hkBegins_ok
theorem TQ_34 : TQ 34 = some (.hook fun l h => (hkYes l).map fun x => (x, h)) := over_same _ _ _
theorem TQ_23 : TQ 23 = some (.hook hkFind) := (over_ne (T := TQ4) (f := 34) (by decide)).trans (over_same TQ3 23 hkFind)
theorem TQ_32 : TQ 32 = some (.hook hkWrite) := (over_ne (T := TQ4) (f := 34) (by decide)).trans ((over_ne (T := TQ3) (f := 23) (by decide)).trans (over_same TQ2 32 hkWrite))
theorem TQ_42 : TQ 42 = some (.hook hkUnpack) := (over_ne (T := TQ4) (f := 34) (by decide)).trans ((over_ne (T := TQ3) (f := 23) (by decide)).trans ((over_ne (T := TQ2) (f := 32) (by decide)).trans (over_same TQ1 42 hkUnpack)))
theorem TQ_41 : TQ 41 = some (.hook hkPack) := (over_ne (T := TQ4) (f := 34) (by decide)).trans ((over_ne (T := TQ3) (f := 23) (by decide)).trans ((over_ne (T := TQ2) (f := 32) (by decide)).trans ((over_ne (T := TQ1) (f := 42) (by decide)).trans (over_same T0 41 hkPack))))
theorem q11 : TQ 11 = some (.code 175 [(.tmp 6)] c11) := (show TQ 11 = prepFn Try.prog 11 from rfl).trans p11
theorem q12 : TQ 12 = some (.code 34 [(.tmp 2), (.tmp 3)] c12) := (show TQ 12 = prepFn Try.prog 12 from rfl).trans p12
theorem q20 : TQ 20 = some (.code 23 [(.tmp 2)] c20) := (show TQ 20 = prepFn Try.prog 20 from rfl).trans p20
theorem q22 : TQ 22 = some (.code 17 [(.tmp 4)] c22) := (show TQ 22 = prepFn Try.prog 22 from rfl).trans p22
theorem q39 : TQ 39 = some (.code 26 [(.tmp 4)] c39) := (show TQ 39 = prepFn Try.prog 39 from rfl).trans p39
theorem q44 : TQ 44 = some (.code 25 [(.tmp 4), (.tmp 5)] c44) := (show TQ 44 = prepFn Try.prog 44 from rfl).trans p44
theorem q45 : TQ 45 = some (.code 18 [(.tmp 2)] c45) := (show TQ 45 = prepFn Try.prog 45 from rfl).trans p45
theorem q46 : TQ 46 = some (.code 8 [(.tmp 2)] c46) := (show TQ 46 = prepFn Try.prog 46 from rfl).trans p46
theorem q47 : TQ 47 = some (.code 39 [(.tmp 4)] c47) := (show TQ 47 = prepFn Try.prog 47 from rfl).trans p47
theorem q54 : TQ 54 = some (.code 54 [(.tmp 4), (.tmp 5)] c54) := (show TQ 54 = prepFn Try.prog 54 from rfl).trans p54
theorem q70 : TQ 70 = some (.code 17 [(.tmp 4)] c70) := (show TQ 70 = prepFn Try.prog 70 from rfl).trans p70
theorem q71 : TQ 71 = some (.code 6 [(.tmp 2)] c71) := (show TQ 71 = prepFn Try.prog 71 from rfl).trans p71
theorem q83 : TQ 83 = some (.code 6 [(.tmp 2)] c83) := (show TQ 83 = prepFn Try.prog 83 from rfl).trans p83
noncomputable abbrev TT : Nat → CallF := evFn Try.prog TQ
theorem TT_ok : TabOK Try.prog TQ := TQ_ok
end Go.Proofs.Ytpmoellbfgcefaa.AS
end
section
set_option autoImplicit false
set_option maxRecDepth 100000
set_option maxHeartbeats 4000000
set_option linter.unusedSimpArgs false
set_option linter.unusedVariables false
namespace Go.Proofs.Ytpmoellbfgcefaa.AS
open Go Go.Proofs Go.RowKit

theorem drop_nth {α : Type} [Inhabited α] {L : List α} {i : Nat} (h : i < L.length) : L.drop i = nth L i :: L.drop (i + 1) := by
  rw [List.drop_eq_getElem_cons h, nth_eq (by simpa using h)]; simp
theorem okW_at {L : List Int} {i : Nat} (h : i + 1 < L.length) : okW (L.drop i) = (decide (nth L i < nth L ((i + 1 : Nat) : Int)) && okW (L.drop (i + 1))) := by
  rw [drop_nth (by omega : i < L.length), drop_nth h, okW]
theorem okW_short {L : List Int} (h : L.length ≤ 1) : okW L = true := by
  match L, h with
  | [], _ => rfl
  | [_], _ => rfl
theorem chk_FR {h : Heap} {a : AV} {L : List Int} (r : Row (encI .u32) h a L) (hl : L.length ≤ 4611686018427387903) : FR Try.prog TT 20 [a] h fun x H => x = .s (.int .i64 (chkS L)) ∧ H = h := by
  refine FR.of q20 (by kernel_rfl) ?_
  unfold c20
  repeat' (first
    | (refine W.loopI (σ := Nat) (fun i => [(0, a), (3, .s (.int .i64 ((i + 1 : Nat) : Int)))]) (fun i h' => h' = h ∧ okW (L.drop i) = okW L) (fun i => L.length - i) 0 ⟨rfl, rfl, trivial⟩ ⟨rfl, rfl⟩ ?_; rintro i G h' ⟨rfl, hs⟩; try rw [show (((i + 1 : Nat) : Int) - 1) = (i : Int) by omega])
    | (refine LQ.fin ?_)
    | (refine EQ.fin rfl ?_)
    | (refine WO.mvs rfl ?_)
    | (refine WO.mvp rfl ?_)
    | (refine WO.mvt rfl ?_)
    | (refine WO.mv ?_)
    | (refine W.sreg ?_)
    | (refine W.sdraw ?_)
    | (refine W.reg ?_)
    | (refine W.draw ?_)
    | (refine WO.nil ?_)
    | (refine WO.gU rfl ?_)
    | (refine WO.gT rfl rfl ?_)
    | (refine WO.gF rfl rfl ?_)
    | (refine WO.ext rfl rfl ?_)
    | (refine WO.lenR (by assumption) ?_)
    | (refine WO.add rfl rfl (by first | exact wrOK (by simp only [loK, hiK]; omega) | rfl) ?_)
    | (refine WO.sub rfl rfl (by first | exact wrOK (by simp only [loK, hiK]; omega) | rfl) ?_)
    | (refine WO.lss rfl rfl ?_)
    | (refine WO.leq rfl rfl ?_)
    | (refine WO.gtr rfl rfl ?_)
    | (refine WO.geq rfl rfl ?_)
    | (refine WO.eql rfl rfl ?_)
    | (refine WO.neq rfl rfl ?_)
    | (refine WO.seql rfl rfl ?_)
    | (refine WO.sneq rfl rfl ?_)
    | (refine WO.beql rfl rfl (tb rfl) ?_)
    | (refine WO.bneq rfl rfl (tb rfl) ?_)
    | (refine WO.not rfl ?_)
    | (refine WO.not0 rfl ?_)
    | (refine WO.cvi rfl (kd rfl) (kd rfl) (by first | exact wrOK (by simp only [loK, hiK]; omega) | rfl) ?_)
    | (refine WO.cvs rfl (st rfl) (st rfl) ?_)
    | (refine WO.ix rfl rfl (st rfl) (by first | assumption | omega) (by first | assumption | omega) ?_)
    | (refine WO.slen rfl (st rfl) ?_)
    | (refine WO.iaddr (by assumption) rfl rfl (by first | assumption | omega) (by first | assumption | omega) (fun q hq => ?_))
    | (refine WO.load (by assumption) rfl rfl ?_)
    | (refine WO.loadO rfl (by assumption) rfl rfl ?_)
    | (refine WO.faddrP (by assumption) rfl (fun q hq => ?_))
    | (refine WO.nilckP (by assumption) ?_)
    | (refine WO.nilck rfl ?_)
    | (refine WO.faddr rfl ?_)
    | (refine WO.fld rfl rfl rfl ?_)
    | (refine WO.pickT rfl ?_)
    | (refine WO.pickF rfl ?_)
    | (refine WO.sll rfl rfl (st rfl) (by first | assumption | omega) (by first | assumption | omega) ?_)
    | (refine WO.slh rfl rfl (st rfl) (by first | assumption | omega) (by first | assumption | omega) ?_)
    | (refine WO.slb rfl rfl rfl (st rfl) (by first | assumption | omega) (by first | assumption | omega) (by first | assumption | omega) ?_)
    | (refine WO.mul rfl rfl (by first | exact wrOK (by simp only [loK, hiK]; omega) | rfl) ?_)
    | (refine WO.quo rfl rfl (by first | assumption | omega) (by first | exact wrOK (by simp only [loK, hiK]; omega) | rfl) ?_)
    | (refine WO.rem rfl rfl (by first | assumption | omega) ?_)
    | (refine WO.and rfl rfl ?_)
    | (refine WO.or rfl rfl ?_)
    | (refine WO.xor rfl rfl ?_)
    | (refine WO.shl rfl rfl (by first | assumption | omega) (by simp [IntKind.bits]; rfl) ?_)
    | (refine WO.shr rfl rfl (by first | assumption | omega) (by simp [IntKind.bits]; rfl) ?_)
    | (refine WO.build (C := [_]) rfl ?_)
    | (refine WO.build (C := [_, _]) rfl ?_)
    | (refine WO.build (C := [_, _, _]) rfl ?_)
    | (refine WO.build (C := [_, _, _, _]) rfl ?_)
    | (refine WO.build (C := [_, _, _, _, _]) rfl ?_)
    | (refine WO.build (C := [_, _, _, _, _, _]) rfl ?_)
    | (refine WO.build (C := [_, _, _, _, _, _, _]) rfl ?_)
    | (refine WO.eqnil (by assumption) (fun hn1 hn2 => ?_) ?_)
    | (refine W.condT rfl ?_)
    | (refine W.condF rfl ?_)
    | (refine W.condDT rfl (by first | assumption | omega) ?_)
    | (refine W.condDF rfl (by first | assumption | omega) ?_)
    | (refine W.condD rfl (fun hc => ?_) (fun hc => ?_))
    | (refine WO.gS rfl (fun hc => ?_) (fun hc => ?_) <;> try (exfalso; omega))
    | (refine WO.pickS rfl (fun hc => ?_) (fun hc => ?_) <;> try (exfalso; omega))
    | (refine W.skip ?_)
    | (refine W.block ?_)
    | (refine W.drawA rfl ?_)
    | (refine W.sdrawA rfl ?_)
    | (refine And.intro rfl ?_)
    | (refine W.exit ?_)
    | (refine W.ret ?_)
    | (refine W.seq ?_)
    | (refine W.goto ?_)
    | (refine W.label ?_)
    | (refine SQ.nn ?_)
    | (refine SQ.x ?_)
    | (refine SQ.r ?_)
    | (refine SQ.g ?_)
    | (refine BQ.nn ?_)
    | (refine BQ.x ?_)
    | (refine BQ.r ?_)
    | (refine BQ.g ?_)
    | (refine BQ.y rfl ?_)
    | (refine LQ.x ?_)
    | (refine LQ.r ?_)
    | (refine LQ.g ?_)
    | (refine GQ.nn ?_)
    | (refine GQ.x ?_)
    | (refine GQ.r ?_))
  · have e : ((i + 1 : Nat) : Int) - 1 = (i : Int) := by omega
    rw [e] at hc
    rw [okW_at (by omega), decide_eq_false (by omega), Bool.false_and] at hs
    exact ⟨congrArg (fun z => AV.s (.int .i64 z)) (by rw [chkS, if_pos hs.symm]), rfl⟩
  · have e : ((i + 1 : Nat) : Int) - 1 = (i : Int) := by omega
    rw [e] at hc
    rw [okW_at (by omega), decide_eq_true (by omega), Bool.true_and] at hs
    exact ⟨i + 1, by omega, ⟨rfl, rfl, trivial⟩, rfl, hs⟩
  · rw [okW_short (by rw [List.length_drop]; omega)] at hs
    exact ⟨congrArg (fun z => AV.s (.int .i64 z)) (by rw [chkS, if_neg (by simp [← hs]), if_pos (by omega)]), rfl⟩
  · rw [okW_short (by rw [List.length_drop]; omega)] at hs
    exact ⟨congrArg (fun z => AV.s (.int .i64 z)) (by rw [chkS, if_neg (by simp [← hs]), if_neg (by omega)]), rfl⟩
structure Rows2 (h : Heap) (a : AV) (LL : List (List Int)) : Prop where
  mk ::
  x : ∃ az, Row encA h a az ∧ az.length = LL.length ∧ ∀ i : Nat, i < LL.length → Row (encI .u32) h (nth az i) (nth LL i)
def checkedS : List (List Int) → Int
  | [] => 0
  | L :: LL => if chkS L ≠ 0 then chkS L else checkedS LL
theorem nth_mem {α : Type} [Inhabited α] {L : List α} {i : Int} (h0 : 0 ≤ i) (h : i < L.length) : nth L i ∈ L := by
  rw [nth_eq (by omega)]; exact List.getElem_mem _
theorem checked_FR (h : Heap) (a : AV) (LL : List (List Int)) (r : Rows2 h a LL) (hl : ∀ L ∈ LL, L.length ≤ 4611686018427387903) (hn : LL.length ≤ 4611686018427387903) :
    FR Try.prog TT 45 [a] h fun x H => x = .s (.int .i64 (checkedS LL)) ∧ H = h := by
  obtain ⟨az, ra, hlen, hr⟩ := r.x
  refine FR.of q45 (by kernel_rfl) ?_
  unfold c45
  repeat' (first
    | (refine W.loopI (σ := Nat) (fun i => [(6, a), (7, .s (.int .i64 az.length)), (8, .s (.int .i64 i))]) (fun i h' => h' = h ∧ i ≤ LL.length ∧ checkedS (LL.drop i) = checkedS LL) (fun i => LL.length - i) 0 ⟨rfl, rfl, rfl, trivial⟩ ⟨rfl, Nat.zero_le _, rfl⟩ ?_; rintro i G h' ⟨rfl, hi, hs⟩)
    | (refine WO.call rfl (chk_FR (hr i (by omega)) (hl _ (nth_mem (by omega) (by omega)))) ?_; rintro _ _ ⟨rfl, rfl⟩)
    | (refine LQ.nn ⟨i + 1, by omega, ⟨rfl, rfl, rfl, trivial⟩, rfl, by omega, ?_⟩)
    | (refine EQ.r rfl ⟨?_, rfl⟩)
    | (refine WO.mvs rfl ?_)
    | (refine WO.mvp rfl ?_)
    | (refine WO.mvt rfl ?_)
    | (refine WO.mv ?_)
    | (refine W.sreg ?_)
    | (refine W.sdraw ?_)
    | (refine W.reg ?_)
    | (refine W.draw ?_)
    | (refine WO.nil ?_)
    | (refine WO.gU rfl ?_)
    | (refine WO.gT rfl rfl ?_)
    | (refine WO.gF rfl rfl ?_)
    | (refine WO.ext rfl rfl ?_)
    | (refine WO.lenR (by assumption) ?_)
    | (refine WO.add rfl rfl (by first | exact wrOK (by simp only [loK, hiK]; omega) | rfl) ?_)
    | (refine WO.sub rfl rfl (by first | exact wrOK (by simp only [loK, hiK]; omega) | rfl) ?_)
    | (refine WO.lss rfl rfl ?_)
    | (refine WO.leq rfl rfl ?_)
    | (refine WO.gtr rfl rfl ?_)
    | (refine WO.geq rfl rfl ?_)
    | (refine WO.eql rfl rfl ?_)
    | (refine WO.neq rfl rfl ?_)
    | (refine WO.seql rfl rfl ?_)
    | (refine WO.sneq rfl rfl ?_)
    | (refine WO.beql rfl rfl (tb rfl) ?_)
    | (refine WO.bneq rfl rfl (tb rfl) ?_)
    | (refine WO.not rfl ?_)
    | (refine WO.not0 rfl ?_)
    | (refine WO.cvi rfl (kd rfl) (kd rfl) (by first | exact wrOK (by simp only [loK, hiK]; omega) | rfl) ?_)
    | (refine WO.cvs rfl (st rfl) (st rfl) ?_)
    | (refine WO.ix rfl rfl (st rfl) (by first | assumption | omega) (by first | assumption | omega) ?_)
    | (refine WO.slen rfl (st rfl) ?_)
    | (refine WO.iaddr (by assumption) rfl rfl (by first | assumption | omega) (by first | assumption | omega) (fun q hq => ?_))
    | (refine WO.load (by assumption) rfl rfl ?_)
    | (refine WO.loadO rfl (by assumption) rfl rfl ?_)
    | (refine WO.faddrP (by assumption) rfl (fun q hq => ?_))
    | (refine WO.nilckP (by assumption) ?_)
    | (refine WO.nilck rfl ?_)
    | (refine WO.faddr rfl ?_)
    | (refine WO.fld rfl rfl rfl ?_)
    | (refine WO.pickT rfl ?_)
    | (refine WO.pickF rfl ?_)
    | (refine WO.sll rfl rfl (st rfl) (by first | assumption | omega) (by first | assumption | omega) ?_)
    | (refine WO.slh rfl rfl (st rfl) (by first | assumption | omega) (by first | assumption | omega) ?_)
    | (refine WO.slb rfl rfl rfl (st rfl) (by first | assumption | omega) (by first | assumption | omega) (by first | assumption | omega) ?_)
    | (refine WO.mul rfl rfl (by first | exact wrOK (by simp only [loK, hiK]; omega) | rfl) ?_)
    | (refine WO.quo rfl rfl (by first | assumption | omega) (by first | exact wrOK (by simp only [loK, hiK]; omega) | rfl) ?_)
    | (refine WO.rem rfl rfl (by first | assumption | omega) ?_)
    | (refine WO.and rfl rfl ?_)
    | (refine WO.or rfl rfl ?_)
    | (refine WO.xor rfl rfl ?_)
    | (refine WO.shl rfl rfl (by first | assumption | omega) (by simp [IntKind.bits]; rfl) ?_)
    | (refine WO.shr rfl rfl (by first | assumption | omega) (by simp [IntKind.bits]; rfl) ?_)
    | (refine WO.build (C := [_]) rfl ?_)
    | (refine WO.build (C := [_, _]) rfl ?_)
    | (refine WO.build (C := [_, _, _]) rfl ?_)
    | (refine WO.build (C := [_, _, _, _]) rfl ?_)
    | (refine WO.build (C := [_, _, _, _, _]) rfl ?_)
    | (refine WO.build (C := [_, _, _, _, _, _]) rfl ?_)
    | (refine WO.build (C := [_, _, _, _, _, _, _]) rfl ?_)
    | (refine WO.eqnil (by assumption) (fun hn1 hn2 => ?_) ?_)
    | (refine W.condT rfl ?_)
    | (refine W.condF rfl ?_)
    | (refine W.condDT rfl (by first | assumption | omega) ?_)
    | (refine W.condDF rfl (by first | assumption | omega) ?_)
    | (refine W.condD rfl (fun hc => ?_) (fun hc => ?_))
    | (refine WO.gS rfl (fun hc => ?_) (fun hc => ?_) <;> try (exfalso; omega))
    | (refine WO.pickS rfl (fun hc => ?_) (fun hc => ?_) <;> try (exfalso; omega))
    | (refine W.skip ?_)
    | (refine W.block ?_)
    | (refine W.drawA rfl ?_)
    | (refine W.sdrawA rfl ?_)
    | (refine And.intro rfl ?_)
    | (refine W.exit ?_)
    | (refine W.ret ?_)
    | (refine W.seq ?_)
    | (refine W.goto ?_)
    | (refine W.label ?_)
    | (refine SQ.nn ?_)
    | (refine SQ.x ?_)
    | (refine SQ.r ?_)
    | (refine SQ.g ?_)
    | (refine BQ.nn ?_)
    | (refine BQ.x ?_)
    | (refine BQ.r ?_)
    | (refine BQ.g ?_)
    | (refine BQ.y rfl ?_)
    | (refine LQ.x ?_)
    | (refine LQ.r ?_)
    | (refine LQ.g ?_)
    | (refine GQ.nn ?_)
    | (refine GQ.x ?_)
    | (refine GQ.r ?_))
  · rw [drop_nth (by omega), checkedS, if_pos hc] at hs
    rw [← hs]; rfl
  · rw [drop_nth (by omega), checkedS, if_neg hc] at hs
    exact hs
  · rw [List.drop_eq_nil_of_le (by omega)] at hs
    rw [← hs]; rfl
/-! numbers that rise -/
theorem nan_FR (h : Heap) (a : Int) : FR Try.prog TT 71 [.s (.int .u32 a)] h fun x H => x = .s (.bool false) ∧ H = h := by
  refine FR.of q71 (by kernel_rfl) ?_
  unfold c71
  repeat' (first
    | (refine EQ.r rfl ⟨?_, rfl⟩)
    | (refine WO.mvs rfl ?_)
    | (refine WO.mvp rfl ?_)
    | (refine WO.mvt rfl ?_)
    | (refine WO.mv ?_)
    | (refine W.sreg ?_)
    | (refine W.sdraw ?_)
    | (refine W.reg ?_)
    | (refine W.draw ?_)
    | (refine WO.nil ?_)
    | (refine WO.gU rfl ?_)
    | (refine WO.gT rfl rfl ?_)
    | (refine WO.gF rfl rfl ?_)
    | (refine WO.ext rfl rfl ?_)
    | (refine WO.lenR (by assumption) ?_)
    | (refine WO.add rfl rfl (by first | exact wrOK (by simp only [loK, hiK]; omega) | rfl) ?_)
    | (refine WO.sub rfl rfl (by first | exact wrOK (by simp only [loK, hiK]; omega) | rfl) ?_)
    | (refine WO.lss rfl rfl ?_)
    | (refine WO.leq rfl rfl ?_)
    | (refine WO.gtr rfl rfl ?_)
    | (refine WO.geq rfl rfl ?_)
    | (refine WO.eql rfl rfl ?_)
    | (refine WO.neq rfl rfl ?_)
    | (refine WO.seql rfl rfl ?_)
    | (refine WO.sneq rfl rfl ?_)
    | (refine WO.beql rfl rfl (tb rfl) ?_)
    | (refine WO.bneq rfl rfl (tb rfl) ?_)
    | (refine WO.not rfl ?_)
    | (refine WO.not0 rfl ?_)
    | (refine WO.cvi rfl (kd rfl) (kd rfl) (by first | exact wrOK (by simp only [loK, hiK]; omega) | rfl) ?_)
    | (refine WO.cvs rfl (st rfl) (st rfl) ?_)
    | (refine WO.ix rfl rfl (st rfl) (by first | assumption | omega) (by first | assumption | omega) ?_)
    | (refine WO.slen rfl (st rfl) ?_)
    | (refine WO.iaddr (by assumption) rfl rfl (by first | assumption | omega) (by first | assumption | omega) (fun q hq => ?_))
    | (refine WO.load (by assumption) rfl rfl ?_)
    | (refine WO.loadO rfl (by assumption) rfl rfl ?_)
    | (refine WO.faddrP (by assumption) rfl (fun q hq => ?_))
    | (refine WO.nilckP (by assumption) ?_)
    | (refine WO.nilck rfl ?_)
    | (refine WO.faddr rfl ?_)
    | (refine WO.fld rfl rfl rfl ?_)
    | (refine WO.pickT rfl ?_)
    | (refine WO.pickF rfl ?_)
    | (refine WO.sll rfl rfl (st rfl) (by first | assumption | omega) (by first | assumption | omega) ?_)
    | (refine WO.slh rfl rfl (st rfl) (by first | assumption | omega) (by first | assumption | omega) ?_)
    | (refine WO.slb rfl rfl rfl (st rfl) (by first | assumption | omega) (by first | assumption | omega) (by first | assumption | omega) ?_)
    | (refine WO.mul rfl rfl (by first | exact wrOK (by simp only [loK, hiK]; omega) | rfl) ?_)
    | (refine WO.quo rfl rfl (by first | assumption | omega) (by first | exact wrOK (by simp only [loK, hiK]; omega) | rfl) ?_)
    | (refine WO.rem rfl rfl (by first | assumption | omega) ?_)
    | (refine WO.and rfl rfl ?_)
    | (refine WO.or rfl rfl ?_)
    | (refine WO.xor rfl rfl ?_)
    | (refine WO.shl rfl rfl (by first | assumption | omega) (by simp [IntKind.bits]; rfl) ?_)
    | (refine WO.shr rfl rfl (by first | assumption | omega) (by simp [IntKind.bits]; rfl) ?_)
    | (refine WO.build (C := [_]) rfl ?_)
    | (refine WO.build (C := [_, _]) rfl ?_)
    | (refine WO.build (C := [_, _, _]) rfl ?_)
    | (refine WO.build (C := [_, _, _, _]) rfl ?_)
    | (refine WO.build (C := [_, _, _, _, _]) rfl ?_)
    | (refine WO.build (C := [_, _, _, _, _, _]) rfl ?_)
    | (refine WO.build (C := [_, _, _, _, _, _, _]) rfl ?_)
    | (refine WO.eqnil (by assumption) (fun hn1 hn2 => ?_) ?_)
    | (refine W.condT rfl ?_)
    | (refine W.condF rfl ?_)
    | (refine W.condDT rfl (by first | assumption | omega) ?_)
    | (refine W.condDF rfl (by first | assumption | omega) ?_)
    | (refine W.condD rfl (fun hc => ?_) (fun hc => ?_))
    | (refine WO.gS rfl (fun hc => ?_) (fun hc => ?_) <;> try (exfalso; omega))
    | (refine WO.pickS rfl (fun hc => ?_) (fun hc => ?_) <;> try (exfalso; omega))
    | (refine W.skip ?_)
    | (refine W.block ?_)
    | (refine W.drawA rfl ?_)
    | (refine W.sdrawA rfl ?_)
    | (refine And.intro rfl ?_)
    | (refine W.exit ?_)
    | (refine W.ret ?_)
    | (refine W.seq ?_)
    | (refine W.goto ?_)
    | (refine W.label ?_)
    | (refine SQ.nn ?_)
    | (refine SQ.x ?_)
    | (refine SQ.r ?_)
    | (refine SQ.g ?_)
    | (refine BQ.nn ?_)
    | (refine BQ.x ?_)
    | (refine BQ.r ?_)
    | (refine BQ.g ?_)
    | (refine BQ.y rfl ?_)
    | (refine LQ.x ?_)
    | (refine LQ.r ?_)
    | (refine LQ.g ?_)
    | (refine GQ.nn ?_)
    | (refine GQ.x ?_)
    | (refine GQ.r ?_))
  exact congrArg (fun b => AV.s (.bool b)) (decide_eq_false (fun h => h rfl))
theorem nan2_FR (h : Heap) (a : Int) : FR Try.prog TT 83 [.s (.int .u32 a)] h fun x H => x = .s (.bool false) ∧ H = h := by
  refine FR.of q83 (by kernel_rfl) ?_
  unfold c83
  repeat' (first
    | (refine EQ.r rfl ⟨?_, rfl⟩)
    | (refine WO.mvs rfl ?_)
    | (refine WO.mvp rfl ?_)
    | (refine WO.mvt rfl ?_)
    | (refine WO.mv ?_)
    | (refine W.sreg ?_)
    | (refine W.sdraw ?_)
    | (refine W.reg ?_)
    | (refine W.draw ?_)
    | (refine WO.nil ?_)
    | (refine WO.gU rfl ?_)
    | (refine WO.gT rfl rfl ?_)
    | (refine WO.gF rfl rfl ?_)
    | (refine WO.ext rfl rfl ?_)
    | (refine WO.lenR (by assumption) ?_)
    | (refine WO.add rfl rfl (by first | exact wrOK (by simp only [loK, hiK]; omega) | rfl) ?_)
    | (refine WO.sub rfl rfl (by first | exact wrOK (by simp only [loK, hiK]; omega) | rfl) ?_)
    | (refine WO.lss rfl rfl ?_)
    | (refine WO.leq rfl rfl ?_)
    | (refine WO.gtr rfl rfl ?_)
    | (refine WO.geq rfl rfl ?_)
    | (refine WO.eql rfl rfl ?_)
    | (refine WO.neq rfl rfl ?_)
    | (refine WO.seql rfl rfl ?_)
    | (refine WO.sneq rfl rfl ?_)
    | (refine WO.beql rfl rfl (tb rfl) ?_)
    | (refine WO.bneq rfl rfl (tb rfl) ?_)
    | (refine WO.not rfl ?_)
    | (refine WO.not0 rfl ?_)
    | (refine WO.cvi rfl (kd rfl) (kd rfl) (by first | exact wrOK (by simp only [loK, hiK]; omega) | rfl) ?_)
    | (refine WO.cvs rfl (st rfl) (st rfl) ?_)
    | (refine WO.ix rfl rfl (st rfl) (by first | assumption | omega) (by first | assumption | omega) ?_)
    | (refine WO.slen rfl (st rfl) ?_)
    | (refine WO.iaddr (by assumption) rfl rfl (by first | assumption | omega) (by first | assumption | omega) (fun q hq => ?_))
    | (refine WO.load (by assumption) rfl rfl ?_)
    | (refine WO.loadO rfl (by assumption) rfl rfl ?_)
    | (refine WO.faddrP (by assumption) rfl (fun q hq => ?_))
    | (refine WO.nilckP (by assumption) ?_)
    | (refine WO.nilck rfl ?_)
    | (refine WO.faddr rfl ?_)
    | (refine WO.fld rfl rfl rfl ?_)
    | (refine WO.pickT rfl ?_)
    | (refine WO.pickF rfl ?_)
    | (refine WO.sll rfl rfl (st rfl) (by first | assumption | omega) (by first | assumption | omega) ?_)
    | (refine WO.slh rfl rfl (st rfl) (by first | assumption | omega) (by first | assumption | omega) ?_)
    | (refine WO.slb rfl rfl rfl (st rfl) (by first | assumption | omega) (by first | assumption | omega) (by first | assumption | omega) ?_)
    | (refine WO.mul rfl rfl (by first | exact wrOK (by simp only [loK, hiK]; omega) | rfl) ?_)
    | (refine WO.quo rfl rfl (by first | assumption | omega) (by first | exact wrOK (by simp only [loK, hiK]; omega) | rfl) ?_)
    | (refine WO.rem rfl rfl (by first | assumption | omega) ?_)
    | (refine WO.and rfl rfl ?_)
    | (refine WO.or rfl rfl ?_)
    | (refine WO.xor rfl rfl ?_)
    | (refine WO.shl rfl rfl (by first | assumption | omega) (by simp [IntKind.bits]; rfl) ?_)
    | (refine WO.shr rfl rfl (by first | assumption | omega) (by simp [IntKind.bits]; rfl) ?_)
    | (refine WO.build (C := [_]) rfl ?_)
    | (refine WO.build (C := [_, _]) rfl ?_)
    | (refine WO.build (C := [_, _, _]) rfl ?_)
    | (refine WO.build (C := [_, _, _, _]) rfl ?_)
    | (refine WO.build (C := [_, _, _, _, _]) rfl ?_)
    | (refine WO.build (C := [_, _, _, _, _, _]) rfl ?_)
    | (refine WO.build (C := [_, _, _, _, _, _, _]) rfl ?_)
    | (refine WO.eqnil (by assumption) (fun hn1 hn2 => ?_) ?_)
    | (refine W.condT rfl ?_)
    | (refine W.condF rfl ?_)
    | (refine W.condDT rfl (by first | assumption | omega) ?_)
    | (refine W.condDF rfl (by first | assumption | omega) ?_)
    | (refine W.condD rfl (fun hc => ?_) (fun hc => ?_))
    | (refine WO.gS rfl (fun hc => ?_) (fun hc => ?_) <;> try (exfalso; omega))
    | (refine WO.pickS rfl (fun hc => ?_) (fun hc => ?_) <;> try (exfalso; omega))
    | (refine W.skip ?_)
    | (refine W.block ?_)
    | (refine W.drawA rfl ?_)
    | (refine W.sdrawA rfl ?_)
    | (refine And.intro rfl ?_)
    | (refine W.exit ?_)
    | (refine W.ret ?_)
    | (refine W.seq ?_)
    | (refine W.goto ?_)
    | (refine W.label ?_)
    | (refine SQ.nn ?_)
    | (refine SQ.x ?_)
    | (refine SQ.r ?_)
    | (refine SQ.g ?_)
    | (refine BQ.nn ?_)
    | (refine BQ.x ?_)
    | (refine BQ.r ?_)
    | (refine BQ.g ?_)
    | (refine BQ.y rfl ?_)
    | (refine LQ.x ?_)
    | (refine LQ.r ?_)
    | (refine LQ.g ?_)
    | (refine GQ.nn ?_)
    | (refine GQ.x ?_)
    | (refine GQ.r ?_))
  exact congrArg (fun b => AV.s (.bool b)) (decide_eq_false (fun h => h rfl))
theorem less_FR (h : Heap) (a b : Int) : FR Try.prog TT 70 [.s (.int .u32 a), .s (.int .u32 b)] h fun x H => x = .s (.bool (decide (a < b))) ∧ H = h := by
  refine FR.of q70 (by kernel_rfl) ?_
  unfold c70
  repeat' (first
    | (refine EQ.r rfl ⟨rfl, rfl⟩)
    | (refine WO.call rfl (nan2_FR _ _) ?_; rintro _ _ ⟨rfl, rfl⟩)
    | (refine WO.mvs rfl ?_)
    | (refine WO.mvp rfl ?_)
    | (refine WO.mvt rfl ?_)
    | (refine WO.mv ?_)
    | (refine W.sreg ?_)
    | (refine W.sdraw ?_)
    | (refine W.reg ?_)
    | (refine W.draw ?_)
    | (refine WO.nil ?_)
    | (refine WO.gU rfl ?_)
    | (refine WO.gT rfl rfl ?_)
    | (refine WO.gF rfl rfl ?_)
    | (refine WO.ext rfl rfl ?_)
    | (refine WO.lenR (by assumption) ?_)
    | (refine WO.add rfl rfl (by first | exact wrOK (by simp only [loK, hiK]; omega) | rfl) ?_)
    | (refine WO.sub rfl rfl (by first | exact wrOK (by simp only [loK, hiK]; omega) | rfl) ?_)
    | (refine WO.lss rfl rfl ?_)
    | (refine WO.leq rfl rfl ?_)
    | (refine WO.gtr rfl rfl ?_)
    | (refine WO.geq rfl rfl ?_)
    | (refine WO.eql rfl rfl ?_)
    | (refine WO.neq rfl rfl ?_)
    | (refine WO.seql rfl rfl ?_)
    | (refine WO.sneq rfl rfl ?_)
    | (refine WO.beql rfl rfl (tb rfl) ?_)
    | (refine WO.bneq rfl rfl (tb rfl) ?_)
    | (refine WO.not rfl ?_)
    | (refine WO.not0 rfl ?_)
    | (refine WO.cvi rfl (kd rfl) (kd rfl) (by first | exact wrOK (by simp only [loK, hiK]; omega) | rfl) ?_)
    | (refine WO.cvs rfl (st rfl) (st rfl) ?_)
    | (refine WO.ix rfl rfl (st rfl) (by first | assumption | omega) (by first | assumption | omega) ?_)
    | (refine WO.slen rfl (st rfl) ?_)
    | (refine WO.iaddr (by assumption) rfl rfl (by first | assumption | omega) (by first | assumption | omega) (fun q hq => ?_))
    | (refine WO.load (by assumption) rfl rfl ?_)
    | (refine WO.loadO rfl (by assumption) rfl rfl ?_)
    | (refine WO.faddrP (by assumption) rfl (fun q hq => ?_))
    | (refine WO.nilckP (by assumption) ?_)
    | (refine WO.nilck rfl ?_)
    | (refine WO.faddr rfl ?_)
    | (refine WO.fld rfl rfl rfl ?_)
    | (refine WO.pickT rfl ?_)
    | (refine WO.pickF rfl ?_)
    | (refine WO.sll rfl rfl (st rfl) (by first | assumption | omega) (by first | assumption | omega) ?_)
    | (refine WO.slh rfl rfl (st rfl) (by first | assumption | omega) (by first | assumption | omega) ?_)
    | (refine WO.slb rfl rfl rfl (st rfl) (by first | assumption | omega) (by first | assumption | omega) (by first | assumption | omega) ?_)
    | (refine WO.mul rfl rfl (by first | exact wrOK (by simp only [loK, hiK]; omega) | rfl) ?_)
    | (refine WO.quo rfl rfl (by first | assumption | omega) (by first | exact wrOK (by simp only [loK, hiK]; omega) | rfl) ?_)
    | (refine WO.rem rfl rfl (by first | assumption | omega) ?_)
    | (refine WO.and rfl rfl ?_)
    | (refine WO.or rfl rfl ?_)
    | (refine WO.xor rfl rfl ?_)
    | (refine WO.shl rfl rfl (by first | assumption | omega) (by simp [IntKind.bits]; rfl) ?_)
    | (refine WO.shr rfl rfl (by first | assumption | omega) (by simp [IntKind.bits]; rfl) ?_)
    | (refine WO.build (C := [_]) rfl ?_)
    | (refine WO.build (C := [_, _]) rfl ?_)
    | (refine WO.build (C := [_, _, _]) rfl ?_)
    | (refine WO.build (C := [_, _, _, _]) rfl ?_)
    | (refine WO.build (C := [_, _, _, _, _]) rfl ?_)
    | (refine WO.build (C := [_, _, _, _, _, _]) rfl ?_)
    | (refine WO.build (C := [_, _, _, _, _, _, _]) rfl ?_)
    | (refine WO.eqnil (by assumption) (fun hn1 hn2 => ?_) ?_)
    | (refine W.condT rfl ?_)
    | (refine W.condF rfl ?_)
    | (refine W.condDT rfl (by first | assumption | omega) ?_)
    | (refine W.condDF rfl (by first | assumption | omega) ?_)
    | (refine W.condD rfl (fun hc => ?_) (fun hc => ?_))
    | (refine WO.gS rfl (fun hc => ?_) (fun hc => ?_) <;> try (exfalso; omega))
    | (refine WO.pickS rfl (fun hc => ?_) (fun hc => ?_) <;> try (exfalso; omega))
    | (refine W.skip ?_)
    | (refine W.block ?_)
    | (refine W.drawA rfl ?_)
    | (refine W.sdrawA rfl ?_)
    | (refine And.intro rfl ?_)
    | (refine W.exit ?_)
    | (refine W.ret ?_)
    | (refine W.seq ?_)
    | (refine W.goto ?_)
    | (refine W.label ?_)
    | (refine SQ.nn ?_)
    | (refine SQ.x ?_)
    | (refine SQ.r ?_)
    | (refine SQ.g ?_)
    | (refine BQ.nn ?_)
    | (refine BQ.x ?_)
    | (refine BQ.r ?_)
    | (refine BQ.g ?_)
    | (refine BQ.y rfl ?_)
    | (refine LQ.x ?_)
    | (refine LQ.r ?_)
    | (refine LQ.g ?_)
    | (refine GQ.nn ?_)
    | (refine GQ.x ?_)
    | (refine GQ.r ?_))
theorem mem_low {E : List Int} {n : Int} {i : Nat} (mono : ∀ i j : Nat, i < j → j < E.length → nth E i < nth E j) (hi : i ≤ E.length) (h1 : ∀ k : Nat, k < i → nth E k < n) (h2 : ∀ k : Nat, i ≤ k → k < E.length → n ≤ nth E k) : n ∈ E ↔ i < E.length ∧ nth E i = n := by
  constructor
  · intro hm
    obtain ⟨k, hk, rfl⟩ := List.mem_iff_getElem.1 hm
    have e : nth E k = E[k] := by rw [nth_eq (by simpa using hk)]; simp
    rw [← e] at h1 h2 ⊢
    by_cases c1 : k < i
    · have := h1 k c1; omega
    · refine ⟨by omega, ?_⟩
      by_cases c2 : k = i
      · rw [c2]
      · have := mono i k (by omega) hk
        have := h2 i (Nat.le_refl _) (by omega)
        omega
  · rintro ⟨h3, rfl⟩
    exact nth_mem (by omega) (by omega)
theorem int_eq {k : IntKind} {a b : Int} (h : a = b) : AV.s (.int k a) = AV.s (.int k b) := by rw [h]
theorem bs_FR (h : Heap) (a : AV) (n : Int) (E : List Int) (r : Row (encI .u32) h a E) (hs : E.Pairwise (· < ·)) (hl : E.length ≤ 4611686018427387903) :
    FR Try.prog TT 54 [a, .s (.int .u32 n)] h fun x H => H = h ∧ ∃ i : Nat, x = .tp [.s (.int .i64 i), .s (.bool (decide (n ∈ E)))] ∧ i ≤ E.length ∧ (∀ k : Nat, k < i → nth E k < n) ∧ (∀ k : Nat, i ≤ k → k < E.length → n ≤ nth E k) := by
  have mono : ∀ i j : Nat, i < j → j < E.length → nth E i < nth E j := by
    intro i j h1 h2
    have := List.pairwise_iff_getElem.1 hs i j (by omega) h2 h1
    rwa [nth_eq (by simpa using (by omega : i < E.length)), nth_eq (by simpa using h2)]
  refine FR.of q54 (by kernel_rfl) ?_
  unfold c54
  repeat' (first
    | (refine W.loopI (σ := Nat × Nat) (fun s => [(0, a), (1, .s (.int .u32 n)), (6, .s (.int .i64 E.length)), (7, .s (.int .i64 s.1)), (8, .s (.int .i64 s.2))]) (fun s h' => h' = h ∧ s.1 ≤ s.2 ∧ s.2 ≤ E.length ∧ (∀ k : Nat, k < s.1 → nth E k < n) ∧ (∀ k : Nat, s.2 ≤ k → k < E.length → n ≤ nth E k)) (fun s => s.2 - s.1) (0, E.length) ⟨rfl, rfl, rfl, rfl, rfl, trivial⟩ ⟨rfl, Nat.zero_le _, Nat.le_refl _, fun k hk => absurd hk (Nat.not_lt_zero _), fun k h1 h2 => absurd h1 (Nat.not_le.2 h2)⟩ ?_; rintro ⟨i, j⟩ G h' ⟨rfl, hij, hj, h1, h2⟩; dsimp only at hij hj h1 h2 ⊢)
    | (refine LQ.nn ⟨((i + j) / 2 + 1, j), by dsimp only; omega, ⟨rfl, rfl, rfl, int_eq (by dsimp only; omega), rfl, trivial⟩, rfl, by dsimp only; omega, hj, fun k hk => ?_, h2⟩; have hk : k < (i + j) / 2 + 1 := hk)
    | (refine LQ.nn ⟨(i, (i + j) / 2), by dsimp only; omega, ⟨rfl, rfl, rfl, rfl, int_eq (by dsimp only; omega), trivial⟩, rfl, by dsimp only; omega, by dsimp only; omega, h1, fun k hk1 hk2 => ?_⟩; have hk1 : (i + j) / 2 ≤ k := hk1)
    | (refine EQ.r rfl ⟨rfl, i, ?_, by omega, h1, fun k hk1 hk2 => h2 k (by omega) hk2⟩)
    | (refine WO.call rfl (less_FR _ _ _) ?_; rintro _ _ ⟨rfl, rfl⟩)
    | (refine WO.call rfl (nan_FR _ _) ?_; rintro _ _ ⟨rfl, rfl⟩)
    | (refine WO.mvs rfl ?_)
    | (refine WO.mvp rfl ?_)
    | (refine WO.mvt rfl ?_)
    | (refine WO.mv ?_)
    | (refine W.sreg ?_)
    | (refine W.sdraw ?_)
    | (refine W.reg ?_)
    | (refine W.draw ?_)
    | (refine WO.nil ?_)
    | (refine WO.gU rfl ?_)
    | (refine WO.gT rfl rfl ?_)
    | (refine WO.gF rfl rfl ?_)
    | (refine WO.ext rfl rfl ?_)
    | (refine WO.lenR (by assumption) ?_)
    | (refine WO.add rfl rfl (by first | exact wrOK (by simp only [loK, hiK]; omega) | rfl) ?_)
    | (refine WO.sub rfl rfl (by first | exact wrOK (by simp only [loK, hiK]; omega) | rfl) ?_)
    | (refine WO.lss rfl rfl ?_)
    | (refine WO.leq rfl rfl ?_)
    | (refine WO.gtr rfl rfl ?_)
    | (refine WO.geq rfl rfl ?_)
    | (refine WO.eql rfl rfl ?_)
    | (refine WO.neq rfl rfl ?_)
    | (refine WO.seql rfl rfl ?_)
    | (refine WO.sneq rfl rfl ?_)
    | (refine WO.beql rfl rfl (tb rfl) ?_)
    | (refine WO.bneq rfl rfl (tb rfl) ?_)
    | (refine WO.not rfl ?_)
    | (refine WO.not0 rfl ?_)
    | (refine WO.cvi rfl (kd rfl) (kd rfl) (by first | exact wrOK (by simp only [loK, hiK]; omega) | rfl) ?_)
    | (refine WO.cvs rfl (st rfl) (st rfl) ?_)
    | (refine WO.ix rfl rfl (st rfl) (by first | assumption | omega) (by first | assumption | omega) ?_)
    | (refine WO.slen rfl (st rfl) ?_)
    | (refine WO.iaddr (by assumption) rfl rfl (by first | assumption | omega) (by first | assumption | omega) (fun q hq => ?_))
    | (refine WO.load (by assumption) rfl rfl ?_)
    | (refine WO.loadO rfl (by assumption) rfl rfl ?_)
    | (refine WO.faddrP (by assumption) rfl (fun q hq => ?_))
    | (refine WO.nilckP (by assumption) ?_)
    | (refine WO.nilck rfl ?_)
    | (refine WO.faddr rfl ?_)
    | (refine WO.fld rfl rfl rfl ?_)
    | (refine WO.pickT rfl ?_)
    | (refine WO.pickF rfl ?_)
    | (refine WO.sll rfl rfl (st rfl) (by first | assumption | omega) (by first | assumption | omega) ?_)
    | (refine WO.slh rfl rfl (st rfl) (by first | assumption | omega) (by first | assumption | omega) ?_)
    | (refine WO.slb rfl rfl rfl (st rfl) (by first | assumption | omega) (by first | assumption | omega) (by first | assumption | omega) ?_)
    | (refine WO.mul rfl rfl (by first | exact wrOK (by simp only [loK, hiK]; omega) | rfl) ?_)
    | (refine WO.quo rfl rfl (by first | assumption | omega) (by first | exact wrOK (by simp only [loK, hiK]; omega) | rfl) ?_)
    | (refine WO.rem rfl rfl (by first | assumption | omega) ?_)
    | (refine WO.and rfl rfl ?_)
    | (refine WO.or rfl rfl ?_)
    | (refine WO.xor rfl rfl ?_)
    | (refine WO.shl rfl rfl (by first | assumption | omega) (by simp [IntKind.bits]; rfl) ?_)
    | (refine WO.shr rfl rfl (by first | assumption | omega) (by simp [IntKind.bits]; rfl) ?_)
    | (refine WO.build (C := [_]) rfl ?_)
    | (refine WO.build (C := [_, _]) rfl ?_)
    | (refine WO.build (C := [_, _, _]) rfl ?_)
    | (refine WO.build (C := [_, _, _, _]) rfl ?_)
    | (refine WO.build (C := [_, _, _, _, _]) rfl ?_)
    | (refine WO.build (C := [_, _, _, _, _, _]) rfl ?_)
    | (refine WO.build (C := [_, _, _, _, _, _, _]) rfl ?_)
    | (refine WO.eqnil (by assumption) (fun hn1 hn2 => ?_) ?_)
    | (refine W.condT rfl ?_)
    | (refine W.condF rfl ?_)
    | (refine W.condDT rfl (by first | assumption | omega) ?_)
    | (refine W.condDF rfl (by first | assumption | omega) ?_)
    | (refine W.condD rfl (fun hc => ?_) (fun hc => ?_))
    | (refine WO.gS rfl (fun hc => ?_) (fun hc => ?_) <;> try (exfalso; omega))
    | (refine WO.pickS rfl (fun hc => ?_) (fun hc => ?_) <;> try (exfalso; omega))
    | (refine W.skip ?_)
    | (refine W.block ?_)
    | (refine W.drawA rfl ?_)
    | (refine W.sdrawA rfl ?_)
    | (refine And.intro rfl ?_)
    | (refine W.exit ?_)
    | (refine W.ret ?_)
    | (refine W.seq ?_)
    | (refine W.goto ?_)
    | (refine W.label ?_)
    | (refine SQ.nn ?_)
    | (refine SQ.x ?_)
    | (refine SQ.r ?_)
    | (refine SQ.g ?_)
    | (refine BQ.nn ?_)
    | (refine BQ.x ?_)
    | (refine BQ.r ?_)
    | (refine BQ.g ?_)
    | (refine BQ.y rfl ?_)
    | (refine LQ.x ?_)
    | (refine LQ.r ?_)
    | (refine LQ.g ?_)
    | (refine GQ.nn ?_)
    | (refine GQ.x ?_)
    | (refine GQ.r ?_))
  · by_cases hk2 : k < (i + j) / 2
    · have := mono k ((i + j) / 2) hk2 (by omega)
      have e : (((i + j) / 2 : Nat) : Int) = ((i : Int) + j) / 2 := by omega
      rw [e] at this; omega
    · have e : (k : Int) = ((i : Int) + j) / 2 := by omega
      rw [e]; exact hc
  · have e : (((i + j) / 2 : Nat) : Int) = ((i : Int) + j) / 2 := by omega
    by_cases hk3 : (i + j) / 2 < k
    · have := mono ((i + j) / 2) k hk3 hk2
      rw [e] at this; omega
    · have e : (k : Int) = ((i : Int) + j) / 2 := by omega
      rw [e]; omega
  · exact congrArg (fun b => AV.tp [.s (.int .i64 i), .s (.bool b)]) (decide_eq_true ((mem_low mono (by omega : i ≤ E.length) h1 (fun k hk1 hk2 => h2 k (by omega) hk2)).2 ⟨by omega, hc⟩)).symm
  · exact congrArg (fun b => AV.tp [.s (.int .i64 i), .s (.bool b)]) (decide_eq_false (fun hm => hc ((mem_low mono (by omega : i ≤ E.length) h1 (fun k hk1 hk2 => h2 k (by omega) hk2)).1 hm).2)).symm
  · have e := decide_eq_false (p := n ∈ E) (fun hm => by have := ((mem_low mono (by omega : i ≤ E.length) h1 (fun k hk1 hk2 => h2 k (by omega) hk2)).1 hm).1; omega)
    exact congrArg (fun b => AV.tp [.s (.int .i64 i), .s (.bool b)]) e.symm
end Go.Proofs.Ytpmoellbfgcefaa.AS
end
section
set_option autoImplicit false
set_option maxRecDepth 100000
set_option maxHeartbeats 4000000
set_option linter.unusedSimpArgs false
set_option linter.unusedVariables false
namespace Go.Proofs.Ytpmoellbfgcefaa.AS
open Go Go.Proofs Go.RowKit

/-- slices.Clone of numbers of 32 bits. -/
theorem clone_FR (h : Heap) (a : AV) (L : List Int) (r : Row (encI .u32) h a L) (hl : L.length ≤ 1099511627776) : FR Try.prog TT 46 [a] h fun x H => Out (encI .u32) 32 h H x L := by
  refine FR.of q46 (by kernel_rfl) ?_
  unfold c46
  repeat' (first
    | (refine WO.bsl (E := encI .u32) rfl ([] : List Int) rfl rfl rfl (fun a1 H1 g1 o1 nw1 => ?_))
    | (refine WO.appO ⟨g1, o1, nw1⟩ (r.grows g1) rfl (encI_ok _ _) (by simp; omega) (by simp; omega) (fun a2 H2 out2 ap2 => ?_))
    | (refine EQ.r rfl ?_)
    | (refine WO.mvs rfl ?_)
    | (refine WO.mvp rfl ?_)
    | (refine WO.mvt rfl ?_)
    | (refine WO.mv ?_)
    | (refine W.sreg ?_)
    | (refine W.sdraw ?_)
    | (refine W.reg ?_)
    | (refine W.draw ?_)
    | (refine WO.nil ?_)
    | (refine WO.gU rfl ?_)
    | (refine WO.gT rfl rfl ?_)
    | (refine WO.gF rfl rfl ?_)
    | (refine WO.ext rfl rfl ?_)
    | (refine WO.lenR (by assumption) ?_)
    | (refine WO.add rfl rfl (by first | exact wrOK (by simp only [loK, hiK]; omega) | rfl) ?_)
    | (refine WO.sub rfl rfl (by first | exact wrOK (by simp only [loK, hiK]; omega) | rfl) ?_)
    | (refine WO.lss rfl rfl ?_)
    | (refine WO.leq rfl rfl ?_)
    | (refine WO.gtr rfl rfl ?_)
    | (refine WO.geq rfl rfl ?_)
    | (refine WO.eql rfl rfl ?_)
    | (refine WO.neq rfl rfl ?_)
    | (refine WO.seql rfl rfl ?_)
    | (refine WO.sneq rfl rfl ?_)
    | (refine WO.beql rfl rfl (tb rfl) ?_)
    | (refine WO.bneq rfl rfl (tb rfl) ?_)
    | (refine WO.not rfl ?_)
    | (refine WO.not0 rfl ?_)
    | (refine WO.cvi rfl (kd rfl) (kd rfl) (by first | exact wrOK (by simp only [loK, hiK]; omega) | rfl) ?_)
    | (refine WO.cvs rfl (st rfl) (st rfl) ?_)
    | (refine WO.ix rfl rfl (st rfl) (by first | assumption | omega) (by first | assumption | omega) ?_)
    | (refine WO.slen rfl (st rfl) ?_)
    | (refine WO.iaddr (by assumption) rfl rfl (by first | assumption | omega) (by first | assumption | omega) (fun q hq => ?_))
    | (refine WO.load (by assumption) rfl rfl ?_)
    | (refine WO.loadO rfl (by assumption) rfl rfl ?_)
    | (refine WO.faddrP (by assumption) rfl (fun q hq => ?_))
    | (refine WO.nilckP (by assumption) ?_)
    | (refine WO.nilck rfl ?_)
    | (refine WO.faddr rfl ?_)
    | (refine WO.fld rfl rfl rfl ?_)
    | (refine WO.pickT rfl ?_)
    | (refine WO.pickF rfl ?_)
    | (refine WO.sll rfl rfl (st rfl) (by first | assumption | omega) (by first | assumption | omega) ?_)
    | (refine WO.slh rfl rfl (st rfl) (by first | assumption | omega) (by first | assumption | omega) ?_)
    | (refine WO.slb rfl rfl rfl (st rfl) (by first | assumption | omega) (by first | assumption | omega) (by first | assumption | omega) ?_)
    | (refine WO.mul rfl rfl (by first | exact wrOK (by simp only [loK, hiK]; omega) | rfl) ?_)
    | (refine WO.quo rfl rfl (by first | assumption | omega) (by first | exact wrOK (by simp only [loK, hiK]; omega) | rfl) ?_)
    | (refine WO.rem rfl rfl (by first | assumption | omega) ?_)
    | (refine WO.and rfl rfl ?_)
    | (refine WO.or rfl rfl ?_)
    | (refine WO.xor rfl rfl ?_)
    | (refine WO.shl rfl rfl (by first | assumption | omega) (by simp [IntKind.bits]; rfl) ?_)
    | (refine WO.shr rfl rfl (by first | assumption | omega) (by simp [IntKind.bits]; rfl) ?_)
    | (refine WO.build (C := [_]) rfl ?_)
    | (refine WO.build (C := [_, _]) rfl ?_)
    | (refine WO.build (C := [_, _, _]) rfl ?_)
    | (refine WO.build (C := [_, _, _, _]) rfl ?_)
    | (refine WO.build (C := [_, _, _, _, _]) rfl ?_)
    | (refine WO.build (C := [_, _, _, _, _, _]) rfl ?_)
    | (refine WO.build (C := [_, _, _, _, _, _, _]) rfl ?_)
    | (refine WO.eqnil (by assumption) (fun hn1 hn2 => ?_) ?_)
    | (refine W.condT rfl ?_)
    | (refine W.condF rfl ?_)
    | (refine W.condDT rfl (by first | assumption | omega) ?_)
    | (refine W.condDF rfl (by first | assumption | omega) ?_)
    | (refine W.condD rfl (fun hc => ?_) (fun hc => ?_))
    | (refine WO.gS rfl (fun hc => ?_) (fun hc => ?_) <;> try (exfalso; omega))
    | (refine WO.pickS rfl (fun hc => ?_) (fun hc => ?_) <;> try (exfalso; omega))
    | (refine W.skip ?_)
    | (refine W.block ?_)
    | (refine W.drawA rfl ?_)
    | (refine W.sdrawA rfl ?_)
    | (refine And.intro rfl ?_)
    | (refine W.exit ?_)
    | (refine W.ret ?_)
    | (refine W.seq ?_)
    | (refine W.goto ?_)
    | (refine W.label ?_)
    | (refine SQ.nn ?_)
    | (refine SQ.x ?_)
    | (refine SQ.r ?_)
    | (refine SQ.g ?_)
    | (refine BQ.nn ?_)
    | (refine BQ.x ?_)
    | (refine BQ.r ?_)
    | (refine BQ.g ?_)
    | (refine BQ.y rfl ?_)
    | (refine LQ.x ?_)
    | (refine LQ.r ?_)
    | (refine LQ.g ?_)
    | (refine GQ.nn ?_)
    | (refine GQ.x ?_)
    | (refine GQ.r ?_))
  · subst hn2; exact Out.nil (Grows.refl _)
  · exact out2
theorem take_snoc {α : Type} [Inhabited α] {L : List α} {i : Nat} (h : i < L.length) : L.take (i + 1) = L.take i ++ [nth L i] := by
  rw [List.take_add_one, List.getElem?_eq_getElem h, nth_eq (by simpa using h)]; simp
theorem filt_snoc {L : List Int} {i : Nat} (p : Int → Bool) (h : i < L.length) : (L.take (i + 1)).filter p = (L.take i).filter p ++ if p (nth L i) then [nth L i] else [] := by
  rw [take_snoc h, List.filter_append]; simp [List.filter_cons]
/-- What the first of two has and the other too. -/
def bothS (A B : List Int) : List Int := A.filter fun x => decide (x ∈ B)
theorem both_mem {A B : List Int} {i k m : Nat} (ha : A.Pairwise (· < ·)) (hi : i < A.length) (hm : ∀ x ∈ A.drop i, (x ∈ B ↔ x ∈ B.drop k)) (hm2 : ∀ j : Nat, j < m → nth (B.drop k) j < nth A i) : ∀ x ∈ A.drop (i + 1), (x ∈ B ↔ x ∈ B.drop (k + m)) := by
  intro x hx
  have h1 := List.Pairwise.sublist (List.drop_sublist i _) ha
  rw [drop_nth hi] at h1 hm
  have hlt := (List.pairwise_cons.1 h1).1 x hx
  rw [hm x (List.mem_cons_of_mem _ hx), ← List.drop_drop]
  generalize B.drop k = L at hm2
  constructor
  · intro h
    rw [← List.take_append_drop m L] at h
    rcases List.mem_append.1 h with h | h
    · obtain ⟨j, hj, rfl⟩ := List.mem_iff_getElem.1 h
      rw [List.length_take] at hj
      have := hm2 j (by omega)
      rw [nth_eq (by simp; omega)] at this
      simp only [Int.toNat_natCast, List.getElem_take] at this hlt
      omega
    · exact h
  · exact List.mem_of_mem_drop
theorem both_FR (h : Heap) (a b : AV) (A B : List Int) (ra : Row (encI .u32) h a A) (rb : Row (encI .u32) h b B) (ha : A.Pairwise (· < ·)) (hb : B.Pairwise (· < ·)) (hla : A.length ≤ 1099511627776) (hlb : B.length ≤ 1099511627776) :
    FR Try.prog TT 47 [a, b] h fun x H => Out (encI .u32) 32 h H x (if B.length < A.length then bothS B A else bothS A B) := by
  refine FR.of q47 (by kernel_rfl) ?_
  unfold c47
  repeat' (first
    | (refine W.loopI (σ := Nat × AV × AV) (fun s => [(17, b), (18, .s (.int .i64 B.length)), (19, .s (.int .i64 s.1)), (5, s.2.1), (1, s.2.2)]) (fun s h' => Out (encI .u32) 32 h h' s.2.1 ((B.take s.1).filter fun x => decide (x ∈ A)) ∧ s.1 ≤ B.length ∧ ∃ k, k ≤ A.length ∧ Row (encI .u32) h s.2.2 (A.drop k) ∧ ∀ x ∈ B.drop s.1, (x ∈ A ↔ x ∈ A.drop k)) (fun s => B.length - s.1) (0, .s (.slice none 0 0), a) ⟨rfl, rfl, rfl, rfl, rfl, trivial⟩ ⟨Out.nil (Grows.refl _), Nat.zero_le _, 0, Nat.zero_le _, ra, fun _ _ => Iff.rfl⟩ ?_; rintro ⟨i, out, cur⟩ G h' ⟨ho, hi, k, hk, hc1, hm⟩; dsimp only at hi ho hm hc1 ⊢; have hra := ho.old rb)
    | (refine W.loopI (σ := Nat × AV × AV) (fun s => [(17, a), (18, .s (.int .i64 A.length)), (19, .s (.int .i64 s.1)), (5, s.2.1), (1, s.2.2)]) (fun s h' => Out (encI .u32) 32 h h' s.2.1 ((A.take s.1).filter fun x => decide (x ∈ B)) ∧ s.1 ≤ A.length ∧ ∃ k, k ≤ B.length ∧ Row (encI .u32) h s.2.2 (B.drop k) ∧ ∀ x ∈ A.drop s.1, (x ∈ B ↔ x ∈ B.drop k)) (fun s => A.length - s.1) (0, .s (.slice none 0 0), b) ⟨rfl, rfl, rfl, rfl, rfl, trivial⟩ ⟨Out.nil (Grows.refl _), Nat.zero_le _, 0, Nat.zero_le _, rb, fun _ _ => Iff.rfl⟩ ?_; rintro ⟨i, out, cur⟩ G h' ⟨ho, hi, k, hk, hc1, hm⟩; dsimp only at hi ho hm hc1 ⊢; have hra := ho.old ra)
    | (refine WO.call rfl (bs_FR h' cur _ _ (ho.old hc1) (List.Pairwise.sublist (List.drop_sublist _ _) hb) (by rw [List.length_drop]; omega)) ?_; rintro _ _ ⟨rfl, m, rfl, hm1, hm2, hm3⟩; rw [List.length_drop] at hm1)
    | (refine WO.call rfl (bs_FR h' cur _ _ (ho.old hc1) (List.Pairwise.sublist (List.drop_sublist _ _) ha) (by rw [List.length_drop]; omega)) ?_; rintro _ _ ⟨rfl, m, rfl, hm1, hm2, hm3⟩; rw [List.length_drop] at hm1)
    | (refine WO.bslI rfl rfl (fun a1 H1 g1 o1 nw1 => ?_))
    | (refine WO.appO (ho.grows g1) o1.row rfl (encI_ok _ _) (by have := List.length_filter_le (fun x => decide (x ∈ B)) (A.take i); have := List.length_filter_le (fun x => decide (x ∈ A)) (B.take i); simp only [List.length_take, List.length_cons, List.length_nil] at *; omega) (by have := List.length_filter_le (fun x => decide (x ∈ B)) (A.take i); have := List.length_filter_le (fun x => decide (x ∈ A)) (B.take i); simp only [List.length_take, List.length_cons, List.length_nil] at *; omega) (fun a2 H2 out2 ap2 => ?_))
    | (refine WO.slc hc1 rfl rfl (by omega) (by rw [List.length_drop]; omega) (fun cu2 hcu2 _ => ?_))
    | (refine LQ.nn ⟨(i + 1, _, _), by dsimp only; omega, ⟨rfl, rfl, rfl, rfl, rfl, trivial⟩, ?_, by dsimp only; omega, k + m, by omega, (List.drop_drop ▸ hcu2), ?_⟩)
    | (refine EQ.r rfl ?_)
    | (refine WO.mvs rfl ?_)
    | (refine WO.mvp rfl ?_)
    | (refine WO.mvt rfl ?_)
    | (refine WO.mv ?_)
    | (refine W.sreg ?_)
    | (refine W.sdraw ?_)
    | (refine W.reg ?_)
    | (refine W.draw ?_)
    | (refine WO.nil ?_)
    | (refine WO.gU rfl ?_)
    | (refine WO.gT rfl rfl ?_)
    | (refine WO.gF rfl rfl ?_)
    | (refine WO.ext rfl rfl ?_)
    | (refine WO.lenR (by assumption) ?_)
    | (refine WO.add rfl rfl (by first | exact wrOK (by simp only [loK, hiK]; omega) | rfl) ?_)
    | (refine WO.sub rfl rfl (by first | exact wrOK (by simp only [loK, hiK]; omega) | rfl) ?_)
    | (refine WO.lss rfl rfl ?_)
    | (refine WO.leq rfl rfl ?_)
    | (refine WO.gtr rfl rfl ?_)
    | (refine WO.geq rfl rfl ?_)
    | (refine WO.eql rfl rfl ?_)
    | (refine WO.neq rfl rfl ?_)
    | (refine WO.seql rfl rfl ?_)
    | (refine WO.sneq rfl rfl ?_)
    | (refine WO.beql rfl rfl (tb rfl) ?_)
    | (refine WO.bneq rfl rfl (tb rfl) ?_)
    | (refine WO.not rfl ?_)
    | (refine WO.not0 rfl ?_)
    | (refine WO.cvi rfl (kd rfl) (kd rfl) (by first | exact wrOK (by simp only [loK, hiK]; omega) | rfl) ?_)
    | (refine WO.cvs rfl (st rfl) (st rfl) ?_)
    | (refine WO.ix rfl rfl (st rfl) (by first | assumption | omega) (by first | assumption | omega) ?_)
    | (refine WO.slen rfl (st rfl) ?_)
    | (refine WO.iaddr (by assumption) rfl rfl (by first | assumption | omega) (by first | assumption | omega) (fun q hq => ?_))
    | (refine WO.load (by assumption) rfl rfl ?_)
    | (refine WO.loadO rfl (by assumption) rfl rfl ?_)
    | (refine WO.faddrP (by assumption) rfl (fun q hq => ?_))
    | (refine WO.nilckP (by assumption) ?_)
    | (refine WO.nilck rfl ?_)
    | (refine WO.faddr rfl ?_)
    | (refine WO.fld rfl rfl rfl ?_)
    | (refine WO.pickT rfl ?_)
    | (refine WO.pickF rfl ?_)
    | (refine WO.sll rfl rfl (st rfl) (by first | assumption | omega) (by first | assumption | omega) ?_)
    | (refine WO.slh rfl rfl (st rfl) (by first | assumption | omega) (by first | assumption | omega) ?_)
    | (refine WO.slb rfl rfl rfl (st rfl) (by first | assumption | omega) (by first | assumption | omega) (by first | assumption | omega) ?_)
    | (refine WO.mul rfl rfl (by first | exact wrOK (by simp only [loK, hiK]; omega) | rfl) ?_)
    | (refine WO.quo rfl rfl (by first | assumption | omega) (by first | exact wrOK (by simp only [loK, hiK]; omega) | rfl) ?_)
    | (refine WO.rem rfl rfl (by first | assumption | omega) ?_)
    | (refine WO.and rfl rfl ?_)
    | (refine WO.or rfl rfl ?_)
    | (refine WO.xor rfl rfl ?_)
    | (refine WO.shl rfl rfl (by first | assumption | omega) (by simp [IntKind.bits]; rfl) ?_)
    | (refine WO.shr rfl rfl (by first | assumption | omega) (by simp [IntKind.bits]; rfl) ?_)
    | (refine WO.build (C := [_]) rfl ?_)
    | (refine WO.build (C := [_, _]) rfl ?_)
    | (refine WO.build (C := [_, _, _]) rfl ?_)
    | (refine WO.build (C := [_, _, _, _]) rfl ?_)
    | (refine WO.build (C := [_, _, _, _, _]) rfl ?_)
    | (refine WO.build (C := [_, _, _, _, _, _]) rfl ?_)
    | (refine WO.build (C := [_, _, _, _, _, _, _]) rfl ?_)
    | (refine WO.eqnil (by assumption) (fun hn1 hn2 => ?_) ?_)
    | (refine W.condT rfl ?_)
    | (refine W.condF rfl ?_)
    | (refine W.condDT rfl (by first | assumption | omega) ?_)
    | (refine W.condDF rfl (by first | assumption | omega) ?_)
    | (refine W.condD rfl (fun hc => ?_) (fun hc => ?_))
    | (refine WO.gS rfl (fun hc => ?_) (fun hc => ?_) <;> try (exfalso; omega))
    | (refine WO.pickS rfl (fun hc => ?_) (fun hc => ?_) <;> try (exfalso; omega))
    | (refine W.skip ?_)
    | (refine W.block ?_)
    | (refine W.drawA rfl ?_)
    | (refine W.sdrawA rfl ?_)
    | (refine And.intro rfl ?_)
    | (refine W.exit ?_)
    | (refine W.ret ?_)
    | (refine W.seq ?_)
    | (refine W.goto ?_)
    | (refine W.label ?_)
    | (refine SQ.nn ?_)
    | (refine SQ.x ?_)
    | (refine SQ.r ?_)
    | (refine SQ.g ?_)
    | (refine BQ.nn ?_)
    | (refine BQ.x ?_)
    | (refine BQ.r ?_)
    | (refine BQ.g ?_)
    | (refine BQ.y rfl ?_)
    | (refine LQ.x ?_)
    | (refine LQ.r ?_)
    | (refine LQ.g ?_)
    | (refine GQ.nn ?_)
    | (refine GQ.x ?_)
    | (refine GQ.r ?_))

  · rw [filt_snoc _ (by omega), if_pos (decide_eq_true ((hm _ (by rw [drop_nth (by omega)]; simp)).2 hc))]; exact out2
  · exact both_mem hb (by omega) hm hm2
  · rw [filt_snoc _ (by omega), if_neg (by simpa using fun h => hc ((hm _ (by rw [drop_nth (by omega)]; simp)).1 h)), List.append_nil]; exact ho
  · exact both_mem hb (by omega) hm hm2
  · rw [if_pos (by omega), bothS]
    have e : B.take i = B := List.take_of_length_le (by omega)
    rw [e] at ho; exact ho
  · rw [filt_snoc _ (by omega), if_pos (decide_eq_true ((hm _ (by rw [drop_nth (by omega)]; simp)).2 hc))]; exact out2
  · exact both_mem ha (by omega) hm hm2
  · rw [filt_snoc _ (by omega), if_neg (by simpa using fun h => hc ((hm _ (by rw [drop_nth (by omega)]; simp)).1 h)), List.append_nil]; exact ho
  · exact both_mem ha (by omega) hm hm2
  · rw [if_neg (by omega), bothS]
    have e : A.take i = A := List.take_of_length_le (by omega)
    rw [e] at ho; exact ho
end Go.Proofs.Ytpmoellbfgcefaa.AS
end
