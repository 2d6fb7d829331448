/- Of our own: an abstract machine beside the model, its soundness, and walks of the program in it. -/
import Derived.Test.YtffjdidakeinjaaDoorA17
import Derived.Test.YtffjdidakeinjaaDoorA15
import Derived.Test.YtffjdidakeinjaaDoorA16
set_option linter.unusedSimpArgs false
set_option linter.unusedVariables false
section
set_option autoImplicit false
set_option maxRecDepth 100000
set_option maxHeartbeats 4000000
set_option linter.unusedSimpArgs false
set_option linter.unusedVariables false
namespace Go.Proofs.YtffjdidakeinjaaDoor.AS
open Go Go.Proofs Go.RowKit Go.Proofs.YtffjdidakeinjaaDoor.AS.V

theorem fb_len : ∀ (L : List Int) (v : Int) (m : Nat), (fb L v m).1.length ≤ L.length
  | [], _, _ => by rw [fb]; exact Nat.le_refl _
  | c :: r, v, m => by
    rw [fb]
    split
    · exact Nat.zero_le _
    · split
      · have := fb_len r v m
        simp only [List.length_cons]; omega
      · split
        · have := fb_len r (v * 64 + findS c) 6
          simp only [List.length_cons]; omega
        · have := fb_len r ((v * 64 + findS c) % 2 ^ (m - 2)) (m - 2)
          simp only [List.length_cons]; omega
theorem fbS_len (s : ByteArray) : (strOfNums (fbS s).1).size ≤ s.size := by
  rw [strOfNums_size, ← bytesOf_length s]; exact fb_len _ _ _
/-- Just what is written. -/
def strS (s : ByteArray) : ByteArray × Int := if b64S (strOfNums (fbS s).1) ≠ s then (⟨#[]⟩, 7) else (strOfNums (fbS s).1, 0)
theorem strict11_FR (h : Heap) (s : ByteArray) (hs : s.size ≤ 35184372088832) : FR Tryd.prog TT 11 [.s (.string s)] h fun x H => x = .tp [.s (.string (strS s).1), .s (.int .i64 (strS s).2)] ∧ Grows h H := by
  have k1 := fun h => from9_FR h s (by omega)
  have hz := fbS_len s
  have k2 := fun h => base14_FR h (strOfNums (fbS s).1) (by omega)
  unfold strS
  generalize strOfNums (fbS s).1 = d at *
  generalize (fbS s).2 = n at *
  generalize b64S d = e at *
  refine FR.of q11 (by kernel_rfl) ?_
  unfold c11
  repeat' (first
    | (refine WO.call rfl (k1 _) ?_; rintro _ H1 ⟨rfl, g1⟩)
    | (refine WO.call rfl (k2 _) ?_; rintro _ H2 ⟨rfl, g2⟩)
    | (refine LQ.fin ?_)
    | (refine EQ.fin rfl ?_)
    | (refine WO.mvs rfl ?_)
    | (refine WO.mvp rfl ?_)
    | (refine WO.mvt rfl ?_)
    | (refine WO.mv ?_)
    | (refine W.sreg ?_)
    | (refine W.sdraw ?_)
    | (refine W.reg ?_)
    | (refine W.draw ?_)
    | (refine WO.nil ?_)
    | (refine WO.gU rfl ?_)
    | (refine WO.gT rfl rfl ?_)
    | (refine WO.gF rfl rfl ?_)
    | (refine WO.ext rfl rfl ?_)
    | (refine WO.lenR (by assumption) ?_)
    | (refine WO.add rfl rfl (by first | exact wrOK (by simp only [loK, hiK]; omega) | rfl) ?_)
    | (refine WO.sub rfl rfl (by first | exact wrOK (by simp only [loK, hiK]; omega) | rfl) ?_)
    | (refine WO.lss rfl rfl ?_)
    | (refine WO.leq rfl rfl ?_)
    | (refine WO.gtr rfl rfl ?_)
    | (refine WO.geq rfl rfl ?_)
    | (refine WO.eql rfl rfl ?_)
    | (refine WO.neq rfl rfl ?_)
    | (refine WO.seql rfl rfl ?_)
    | (refine WO.sneq rfl rfl ?_)
    | (refine WO.beql rfl rfl (tb rfl) ?_)
    | (refine WO.bneq rfl rfl (tb rfl) ?_)
    | (refine WO.not rfl ?_)
    | (refine WO.not0 rfl ?_)
    | (refine WO.cvi rfl (kd rfl) (kd rfl) (by first | exact wrOK (by simp only [loK, hiK]; omega) | rfl) ?_)
    | (refine WO.cvs rfl (st rfl) (st rfl) ?_)
    | (refine WO.ix rfl rfl (st rfl) (by first | assumption | omega) (by first | assumption | omega) ?_)
    | (refine WO.slen rfl (st rfl) ?_)
    | (refine WO.iaddr (by assumption) rfl rfl (by first | assumption | omega) (by first | assumption | omega) (fun q hq => ?_))
    | (refine WO.load (by assumption) rfl rfl ?_)
    | (refine WO.loadO rfl (by assumption) rfl rfl ?_)
    | (refine WO.faddrP (by assumption) rfl (fun q hq => ?_))
    | (refine WO.nilckP (by assumption) ?_)
    | (refine WO.nilck rfl ?_)
    | (refine WO.faddr rfl ?_)
    | (refine WO.fld rfl rfl rfl ?_)
    | (refine WO.pickT rfl ?_)
    | (refine WO.pickF rfl ?_)
    | (refine WO.sll rfl rfl (st rfl) (by first | assumption | omega) (by first | assumption | omega) ?_)
    | (refine WO.slh rfl rfl (st rfl) (by first | assumption | omega) (by first | assumption | omega) ?_)
    | (refine WO.slb rfl rfl rfl (st rfl) (by first | assumption | omega) (by first | assumption | omega) (by first | assumption | omega) ?_)
    | (refine WO.mul rfl rfl (by first | exact wrOK (by simp only [loK, hiK]; omega) | rfl) ?_)
    | (refine WO.quo rfl rfl (by first | assumption | omega) (by first | exact wrOK (by simp only [loK, hiK]; omega) | rfl) ?_)
    | (refine WO.rem rfl rfl (by first | assumption | omega) ?_)
    | (refine WO.and rfl rfl ?_)
    | (refine WO.or rfl rfl ?_)
    | (refine WO.xor rfl rfl ?_)
    | (refine WO.shl rfl rfl (by first | assumption | omega) (by simp [IntKind.bits]; rfl) ?_)
    | (refine WO.shr rfl rfl (by first | assumption | omega) (by simp [IntKind.bits]; rfl) ?_)
    | (refine WO.build (C := [_]) rfl ?_)
    | (refine WO.build (C := [_, _]) rfl ?_)
    | (refine WO.build (C := [_, _, _]) rfl ?_)
    | (refine WO.build (C := [_, _, _, _]) rfl ?_)
    | (refine WO.build (C := [_, _, _, _, _]) rfl ?_)
    | (refine WO.build (C := [_, _, _, _, _, _]) rfl ?_)
    | (refine WO.build (C := [_, _, _, _, _, _, _]) rfl ?_)
    | (refine WO.eqnil (by assumption) (fun hn1 hn2 => ?_) ?_)
    | (refine W.condT rfl ?_)
    | (refine W.condF rfl ?_)
    | (refine W.condDT rfl (by first | assumption | omega) ?_)
    | (refine W.condDF rfl (by first | assumption | omega) ?_)
    | (refine W.condD rfl (fun hc => ?_) (fun hc => ?_))
    | (refine WO.gS rfl (fun hc => ?_) (fun hc => ?_) <;> try (exfalso; omega))
    | (refine WO.pickS rfl (fun hc => ?_) (fun hc => ?_) <;> try (exfalso; omega))
    | (refine W.skip ?_)
    | (refine W.block ?_)
    | (refine W.drawA rfl ?_)
    | (refine W.sdrawA rfl ?_)
    | (refine And.intro rfl ?_)
    | (refine W.exit ?_)
    | (refine W.ret ?_)
    | (refine W.seq ?_)
    | (refine W.goto ?_)
    | (refine W.label ?_)
    | (refine SQ.nn ?_)
    | (refine SQ.x ?_)
    | (refine SQ.r ?_)
    | (refine SQ.g ?_)
    | (refine BQ.nn ?_)
    | (refine BQ.x ?_)
    | (refine BQ.r ?_)
    | (refine BQ.g ?_)
    | (refine BQ.y rfl ?_)
    | (refine LQ.x ?_)
    | (refine LQ.r ?_)
    | (refine LQ.g ?_)
    | (refine GQ.nn ?_)
    | (refine GQ.x ?_)
    | (refine GQ.r ?_))
  all_goals first
    | exact ⟨by rw [if_pos (by assumption)]; rfl, g1.trans g2⟩
    | exact ⟨by rw [if_neg (by assumption)]; rfl, g1.trans g2⟩
end Go.Proofs.YtffjdidakeinjaaDoor.AS
end
section
set_option autoImplicit false
set_option maxHeartbeats 1000000
set_option linter.unusedVariables false
namespace Go.Proofs.YtffjdidakeinjaaDoor.AS
open Go Go.Proofs Go.RowKit Go.Proofs.YtffjdidakeinjaaDoor.AS.V
theorem strS_b64S (s : ByteArray) : strS (b64S s) = (s, 0) := by
  unfold strS
  rw [fbS_b64S]
  simp only
  rw [strOf_bytesOf, if_neg (fun h => h rfl)]
theorem qpL_range (L : List Int) (h : ∀ c ∈ L, 0 ≤ c ∧ c ≤ 255) : ∀ x ∈ qpL L, 0 ≤ x ∧ x ≤ 255 := by
  intro x hx
  have := qpL_print L h x hx
  omega
theorem fqS_qpS (s : ByteArray) : fqS (qpS s) = (bytesOf s, 0) := by
  unfold fqS qpS
  rw [bytesOf_strOf (qpL_range _ (bytesOf_range s)), strOfNums_size]
  exact fq_qp _ _ (bytesOf_range s) (Nat.le_refl _)
end Go.Proofs.YtffjdidakeinjaaDoor.AS
end
section
set_option autoImplicit false
set_option maxRecDepth 100000
set_option maxHeartbeats 4000000
set_option linter.unusedSimpArgs false
set_option linter.unusedVariables false
namespace Go.Proofs.YtffjdidakeinjaaDoor.AS
open Go Go.Proofs Go.RowKit Go.Proofs.YtffjdidakeinjaaDoor.AS.V

theorem strOf_app2 (A B : List Int) : strOfNums A ++ strOfNums B = strOfNums (A ++ B) := (strOf_append A B).symm
theorem eq61b : (⟨#[61]⟩ : ByteArray) = strOfNums [61] := by decide
theorem ext1 {s : ByteArray} {x : Int} (h0 : 0 ≤ x) (h1 : x < s.size) : s.extract x.toNat (x + 1).toNat = strOfNums [bt s x] := by
  have hb := bt_range s x
  apply bytesOf_inj
  rw [bytesOf_extract s _ _ (by omega), bytesOf_strOf (by intro c hc; simp only [List.mem_singleton] at hc; subst hc; exact hb), show (x + 1).toNat = x.toNat + 1 by omega]
  rw [List.drop_take, show x.toNat + 1 - x.toNat = 1 by omega, bytesOf_drop_cons s x.toNat (by omega), show ((x.toNat : Nat) : Int) = x by omega]
  rfl
theorem rquot19_FR (h : Heap) (s : ByteArray) (hs : s.size ≤ 35184372088831) : FR Tryd.prog TT 19 [.s (.string s)] h fun x H => x = .s (.string (qpS s)) ∧ Grows h H := by
  have hhx := HX_size
  have hg := Grows.refl h
  refine FR.of q19 (by kernel_rfl) ?_
  unfold c19
  repeat' (first
    | (refine WO.quo rfl rfl (by decide) (r := bt s (i : Int) / 16) (by rw [Int.tdiv_eq_ediv_of_nonneg (by omega)]; exact wrOK (by simp only [loK, hiK]; omega)) ?_)
    | (refine WO.remB rfl rfl (by decide) (by omega) ?_)
    | (refine WO.slb (s := HX) rfl rfl rfl (st rfl) (by omega) (by omega) (by omega) ?_; rw [ext1 (by omega) (by omega)])
    | (refine WO.slb (s := s) rfl rfl rfl (st rfl) (by omega) (by omega) (by omega) ?_; rw [ext1 (by omega) (by omega)])
    | (refine LQ.fin ?_)
    | (refine EQ.fin rfl ?_)
    | (refine WO.mvs rfl ?_)
    | (refine WO.mvp rfl ?_)
    | (refine WO.mvt rfl ?_)
    | (refine WO.mv ?_)
    | (refine W.sreg ?_)
    | (refine W.sdraw ?_)
    | (refine W.reg ?_)
    | (refine W.draw ?_)
    | (refine WO.nil ?_)
    | (refine WO.gU rfl ?_)
    | (refine WO.gT rfl rfl ?_)
    | (refine WO.gF rfl rfl ?_)
    | (refine WO.ext rfl rfl ?_)
    | (refine WO.lenR (by assumption) ?_)
    | (refine WO.add rfl rfl (by first | exact wrOK (by simp only [loK, hiK]; omega) | rfl) ?_)
    | (refine WO.sub rfl rfl (by first | exact wrOK (by simp only [loK, hiK]; omega) | rfl) ?_)
    | (refine WO.lss rfl rfl ?_)
    | (refine WO.leq rfl rfl ?_)
    | (refine WO.gtr rfl rfl ?_)
    | (refine WO.geq rfl rfl ?_)
    | (refine WO.eql rfl rfl ?_)
    | (refine WO.neq rfl rfl ?_)
    | (refine WO.seql rfl rfl ?_)
    | (refine WO.sneq rfl rfl ?_)
    | (refine WO.beql rfl rfl (tb rfl) ?_)
    | (refine WO.bneq rfl rfl (tb rfl) ?_)
    | (refine WO.not rfl ?_)
    | (refine WO.not0 rfl ?_)
    | (refine WO.cvi rfl (kd rfl) (kd rfl) (by first | exact wrOK (by simp only [loK, hiK]; omega) | rfl) ?_)
    | (refine WO.cvs rfl (st rfl) (st rfl) ?_)
    | (refine WO.ix rfl rfl (st rfl) (by first | assumption | omega) (by first | assumption | omega) ?_)
    | (refine WO.slen rfl (st rfl) ?_)
    | (refine WO.iaddr (by assumption) rfl rfl (by first | assumption | omega) (by first | assumption | omega) (fun q hq => ?_))
    | (refine WO.load (by assumption) rfl rfl ?_)
    | (refine WO.loadO rfl (by assumption) rfl rfl ?_)
    | (refine WO.faddrP (by assumption) rfl (fun q hq => ?_))
    | (refine WO.nilckP (by assumption) ?_)
    | (refine WO.nilck rfl ?_)
    | (refine WO.faddr rfl ?_)
    | (refine WO.fld rfl rfl rfl ?_)
    | (refine WO.pickT rfl ?_)
    | (refine WO.pickF rfl ?_)
    | (refine WO.sll rfl rfl (st rfl) (by first | assumption | omega) (by first | assumption | omega) ?_)
    | (refine WO.slh rfl rfl (st rfl) (by first | assumption | omega) (by first | assumption | omega) ?_)
    | (refine WO.slb rfl rfl rfl (st rfl) (by first | assumption | omega) (by first | assumption | omega) (by first | assumption | omega) ?_)
    | (refine WO.mul rfl rfl (by first | exact wrOK (by simp only [loK, hiK]; omega) | rfl) ?_)
    | (refine WO.quo rfl rfl (by first | assumption | omega) (by first | exact wrOK (by simp only [loK, hiK]; omega) | rfl) ?_)
    | (refine WO.rem rfl rfl (by first | assumption | omega) ?_)
    | (refine WO.and rfl rfl ?_)
    | (refine WO.or rfl rfl ?_)
    | (refine WO.xor rfl rfl ?_)
    | (refine WO.shl rfl rfl (by first | assumption | omega) (by simp [IntKind.bits]; rfl) ?_)
    | (refine WO.shr rfl rfl (by first | assumption | omega) (by simp [IntKind.bits]; rfl) ?_)
    | (refine WO.build (C := [_]) rfl ?_)
    | (refine WO.build (C := [_, _]) rfl ?_)
    | (refine WO.build (C := [_, _, _]) rfl ?_)
    | (refine WO.build (C := [_, _, _, _]) rfl ?_)
    | (refine WO.build (C := [_, _, _, _, _]) rfl ?_)
    | (refine WO.build (C := [_, _, _, _, _, _]) rfl ?_)
    | (refine WO.build (C := [_, _, _, _, _, _, _]) rfl ?_)
    | (refine WO.eqnil (by assumption) (fun hn1 hn2 => ?_) ?_)
    | (refine W.condT rfl ?_)
    | (refine W.condF rfl ?_)
    | (refine W.condDT rfl (by first | assumption | omega) ?_)
    | (refine W.condDF rfl (by first | assumption | omega) ?_)
    | (refine W.condD rfl (fun hc => ?_) (fun hc => ?_))
    | (refine WO.gS rfl (fun hc => ?_) (fun hc => ?_) <;> try (exfalso; omega))
    | (refine WO.pickS rfl (fun hc => ?_) (fun hc => ?_) <;> try (exfalso; omega))
    | (refine W.skip ?_)
    | (refine W.block ?_)
    | (refine W.drawA rfl ?_)
    | (refine W.sdrawA rfl ?_)
    | (refine And.intro rfl ?_)
    | (refine W.exit ?_)
    | (refine W.ret ?_)
    | (refine W.seq ?_)
    | (refine W.goto ?_)
    | (refine W.label ?_)
    | (refine SQ.nn ?_)
    | (refine SQ.x ?_)
    | (refine SQ.r ?_)
    | (refine SQ.g ?_)
    | (refine BQ.nn ?_)
    | (refine BQ.x ?_)
    | (refine BQ.r ?_)
    | (refine BQ.g ?_)
    | (refine BQ.y rfl ?_)
    | (refine LQ.x ?_)
    | (refine LQ.r ?_)
    | (refine LQ.g ?_)
    | (refine GQ.nn ?_)
    | (refine GQ.x ?_)
    | (refine GQ.r ?_)
    | (refine WO.sadd (a := ⟨#[61]⟩) rfl rfl (by rw [eq61b]; simp only [strOfNums_size, List.length_append, List.length_singleton]; omega) ?_; rw [eq61b, strOf_app2])
    | (refine WO.sadd rfl rfl (by simp only [strOfNums_size, List.length_append, List.length_singleton, List.length_cons, List.length_nil]; omega) ?_; rw [strOf_app2])
    | (refine W.loopI (σ := Nat × List Int) (fun σ => [(0, .s (.string s)), (3, .s (.string (strOfNums σ.2))), (4, .s (.int .i64 σ.1))]) (fun σ h' => h' = h ∧ σ.1 ≤ s.size ∧ σ.2.length ≤ 3 * σ.1 ∧ QI (qpL (bytesOf s)) σ.2 ((bytesOf s).drop σ.1)) (fun σ => s.size - σ.1) (0, []) ⟨rfl, rfl, rfl, trivial⟩ ⟨rfl, Nat.zero_le _, Nat.zero_le _, QI.ini s⟩ ?_; rintro ⟨i, O⟩ G h' ⟨rfl, hi, hO, hF⟩; dsimp only at hi hO hF ⊢; have hr := bt_range s (i : Int); have hdr := bytesOf_drop_cons s i; have hds := bytesOf_length s; have hl1 : i + 1 = s.size → lastL ((bytesOf s).drop (i + 1)) = true := (fun e => by rw [List.drop_eq_nil_of_le (by omega)]; rfl); have hl2 : i + 1 < s.size → lastL ((bytesOf s).drop (i + 1)) = decide (bt s ((i : Int) + 1) = 10) := (fun e => by rw [bytesOf_drop_cons s (i + 1) e]; rfl); have hS : qpS s = strOfNums (qpL (bytesOf s)) := rfl; generalize qpL (bytesOf s) = R at *))
  all_goals first
    | (rw [List.drop_eq_nil_of_le (by omega)] at hF
       have e := hF.nil
       exact ⟨by rw [hS, e]; rfl, hg⟩)
    | (rw [hdr (by omega)] at hF
       have e := hF.step (x := [bt s (i : Int)]) (by
         unfold qc
         first
           | exact if_pos (.inl ⟨by omega, by omega, by omega⟩)
           | exact if_pos (.inr (.inr (by omega)))
           | exact if_pos (.inr (.inl ⟨by omega, (hl2 (by omega)).trans (decide_eq_false (by omega))⟩)))
       exact ⟨(i + 1, O ++ [bt s (i : Int)]), by dsimp only; omega, ⟨rfl, rfl, rfl, trivial⟩, rfl, by dsimp only; omega, by dsimp only; rw [List.length_append, List.length_singleton]; omega, e⟩)
    | (rw [hdr (by omega)] at hF
       have e := hF.step (x := [61, bt HX (bt s (i : Int) / 16), bt HX (bt s (i : Int) % 16)]) (by
         unfold qc
         first
           | exact if_neg (by omega)
           | exact if_neg (by rw [hl1 (by omega)]; simp; omega)
           | exact if_neg (by rw [hl2 (by omega), decide_eq_true (by omega)]; simp; omega))
       exact ⟨(i + 1, O ++ [61, bt HX (bt s (i : Int) / 16), bt HX (bt s (i : Int) % 16)]), by dsimp only; omega, ⟨rfl, rfl, rfl, trivial⟩, rfl, by dsimp only; omega, by dsimp only; rw [List.length_append]; simp only [List.length_cons, List.length_nil]; omega, e⟩)
end Go.Proofs.YtffjdidakeinjaaDoor.AS
end
section
set_option autoImplicit false
set_option maxRecDepth 100000
set_option maxHeartbeats 4000000
set_option linter.unusedSimpArgs false
set_option linter.unusedVariables false
namespace Go.Proofs.YtffjdidakeinjaaDoor.AS
open Go Go.Proofs Go.RowKit Go.Proofs.YtffjdidakeinjaaDoor.AS.V

theorem strOf_app (A B : List Int) : strOfNums A ++ strOfNums B = strOfNums (A ++ B) := (strOf_append A B).symm
theorem eq61 : (⟨#[61]⟩ : ByteArray) = strOfNums [61] := by decide
theorem LT_range (x : Int) : ∀ c ∈ [bt LT x], 0 ≤ c ∧ c ≤ 255 := by
  intro c hc
  simp only [List.mem_singleton] at hc
  subst hc; exact bt_range LT x
theorem LT_ext {x : Int} (h0 : 0 ≤ x) (h1 : x < 64) : LT.extract x.toNat (x + 1).toNat = strOfNums [bt LT x] := by
  apply bytesOf_inj
  have hz := LT_size
  rw [bytesOf_extract LT _ _ (by omega), bytesOf_strOf (LT_range x), show (x + 1).toNat = x.toNat + 1 by omega]
  rw [List.drop_take, show x.toNat + 1 - x.toNat = 1 by omega, bytesOf_drop_cons LT x.toNat (by omega), show ((x.toNat : Nat) : Int) = x by omega]
  rfl
def RI (R O D : List Int) : Prop := O ++ b64 D = R
theorem RI.ini (s : ByteArray) : RI (b64 (bytesOf s)) [] ((bytesOf s).drop 0) := by rw [List.drop_zero]; rfl
theorem RI.nil {R O : List Int} (h : RI R O []) : R = O := by unfold RI at h; rw [← h]; exact (List.append_nil O).symm ▸ rfl
theorem RI.one {R O X : List Int} {a : Int} (h : RI R O [a]) (hx : [bt LT (a / 4), bt LT (a % 4 * 16), 61, 61] = X) : RI R (O ++ X) [] := by subst hx; unfold RI at *; rw [← h, List.append_assoc]; rfl
theorem RI.two {R O X : List Int} {a b : Int} (h : RI R O [a, b]) (hx : [bt LT (a / 4), bt LT (a % 4 * 16 + b / 16), bt LT (b % 16 * 4), 61] = X) : RI R (O ++ X) [] := by subst hx; unfold RI at *; rw [← h, List.append_assoc]; rfl
theorem RI.three {R O X D : List Int} {a b c : Int} (h : RI R O (a :: b :: c :: D)) (hx : [bt LT (a / 4), bt LT (a % 4 * 16 + b / 16), bt LT (b % 16 * 4 + c / 64), bt LT (c % 64)] = X) : RI R (O ++ X) D := by subst hx; unfold RI at *; rw [← h, List.append_assoc]; rfl
theorem app4 {O : List Int} {a b c d : Int} : O ++ [a] ++ [b] ++ [c] ++ [d] = O ++ [a, b, c, d] := by simp
theorem list4 {a b c d a' b' c' d' : Int} (h1 : a = a') (h2 : b = b') (h3 : c = c') (h4 : d = d') : [bt LT a, bt LT b, bt LT c, bt LT d] = [bt LT a', bt LT b', bt LT c', bt LT d'] := by subst h1 h2 h3 h4; rfl
theorem list3 {a b c a' b' c' : Int} (h1 : a = a') (h2 : b = b') (h3 : c = c') : [bt LT a, bt LT b, bt LT c, 61] = [bt LT a', bt LT b', bt LT c', 61] := by subst h1 h2 h3; rfl
theorem list2 {a b a' b' : Int} (h1 : a = a') (h2 : b = b') : [bt LT a, bt LT b, 61, 61] = [bt LT a', bt LT b', 61, 61] := by subst h1 h2; rfl
theorem rbase15_FR (h : Heap) (s : ByteArray) (hs : s.size ≤ 35184372088832) : FR Tryd.prog TT 15 [.s (.string s)] h fun x H => x = .s (.string (b64S s)) ∧ Grows h H := by
  have hlt := LT_size
  have hg := Grows.refl h
  refine FR.of q15 (by kernel_rfl) ?_
  unfold c15
  repeat' (first
    | (refine WO.shr (r := _ / 2 ^ _) rfl rfl (by omega) rfl ?_; rw [show (2 : Int) ^ (min (18 - 6 * 0 : Int).toNat IntKind.i64.bits) = 262144 from rfl])
    | (refine WO.shr (r := _ / 2 ^ _) rfl rfl (by omega) rfl ?_; rw [show (2 : Int) ^ (min (18 - 6 * (0 + 1) : Int).toNat IntKind.i64.bits) = 4096 from rfl])
    | (refine WO.shr (r := _ / 2 ^ _) rfl rfl (by omega) rfl ?_; rw [show (2 : Int) ^ (min (18 - 6 * (0 + 1 + 1) : Int).toNat IntKind.i64.bits) = 64 from rfl])
    | (refine WO.shr (r := _ / 2 ^ _) rfl rfl (by omega) rfl ?_; rw [show (2 : Int) ^ (min (18 - 6 * (0 + 1 + 1 + 1) : Int).toNat IntKind.i64.bits) = 1 from rfl])
    | (refine WO.remP rfl rfl (by decide) (by omega) ?_)
    | (refine WO.slb (s := LT) rfl rfl rfl (st rfl) (by omega) (by omega) (by omega) ?_; rw [LT_ext (by omega) (by omega)])
    | (refine EQ.fin rfl ?_)
    | (refine WO.mvs rfl ?_)
    | (refine WO.mvp rfl ?_)
    | (refine WO.mvt rfl ?_)
    | (refine WO.mv ?_)
    | (refine W.sreg ?_)
    | (refine W.sdraw ?_)
    | (refine W.reg ?_)
    | (refine W.draw ?_)
    | (refine WO.nil ?_)
    | (refine WO.gU rfl ?_)
    | (refine WO.gT rfl rfl ?_)
    | (refine WO.gF rfl rfl ?_)
    | (refine WO.ext rfl rfl ?_)
    | (refine WO.lenR (by assumption) ?_)
    | (refine WO.add rfl rfl (by first | exact wrOK (by simp only [loK, hiK]; omega) | rfl) ?_)
    | (refine WO.sub rfl rfl (by first | exact wrOK (by simp only [loK, hiK]; omega) | rfl) ?_)
    | (refine WO.lss rfl rfl ?_)
    | (refine WO.leq rfl rfl ?_)
    | (refine WO.gtr rfl rfl ?_)
    | (refine WO.geq rfl rfl ?_)
    | (refine WO.eql rfl rfl ?_)
    | (refine WO.neq rfl rfl ?_)
    | (refine WO.seql rfl rfl ?_)
    | (refine WO.sneq rfl rfl ?_)
    | (refine WO.beql rfl rfl (tb rfl) ?_)
    | (refine WO.bneq rfl rfl (tb rfl) ?_)
    | (refine WO.not rfl ?_)
    | (refine WO.not0 rfl ?_)
    | (refine WO.cvi rfl (kd rfl) (kd rfl) (by first | exact wrOK (by simp only [loK, hiK]; omega) | rfl) ?_)
    | (refine WO.cvs rfl (st rfl) (st rfl) ?_)
    | (refine WO.ix rfl rfl (st rfl) (by first | assumption | omega) (by first | assumption | omega) ?_)
    | (refine WO.slen rfl (st rfl) ?_)
    | (refine WO.iaddr (by assumption) rfl rfl (by first | assumption | omega) (by first | assumption | omega) (fun q hq => ?_))
    | (refine WO.load (by assumption) rfl rfl ?_)
    | (refine WO.loadO rfl (by assumption) rfl rfl ?_)
    | (refine WO.faddrP (by assumption) rfl (fun q hq => ?_))
    | (refine WO.nilckP (by assumption) ?_)
    | (refine WO.nilck rfl ?_)
    | (refine WO.faddr rfl ?_)
    | (refine WO.fld rfl rfl rfl ?_)
    | (refine WO.pickT rfl ?_)
    | (refine WO.pickF rfl ?_)
    | (refine WO.sll rfl rfl (st rfl) (by first | assumption | omega) (by first | assumption | omega) ?_)
    | (refine WO.slh rfl rfl (st rfl) (by first | assumption | omega) (by first | assumption | omega) ?_)
    | (refine WO.slb rfl rfl rfl (st rfl) (by first | assumption | omega) (by first | assumption | omega) (by first | assumption | omega) ?_)
    | (refine WO.mul rfl rfl (by first | exact wrOK (by simp only [loK, hiK]; omega) | rfl) ?_)
    | (refine WO.quo rfl rfl (by first | assumption | omega) (by first | exact wrOK (by simp only [loK, hiK]; omega) | rfl) ?_)
    | (refine WO.rem rfl rfl (by first | assumption | omega) ?_)
    | (refine WO.and rfl rfl ?_)
    | (refine WO.or rfl rfl ?_)
    | (refine WO.xor rfl rfl ?_)
    | (refine WO.shl rfl rfl (by first | assumption | omega) (by simp [IntKind.bits]; rfl) ?_)
    | (refine WO.shr rfl rfl (by first | assumption | omega) (by simp [IntKind.bits]; rfl) ?_)
    | (refine WO.build (C := [_]) rfl ?_)
    | (refine WO.build (C := [_, _]) rfl ?_)
    | (refine WO.build (C := [_, _, _]) rfl ?_)
    | (refine WO.build (C := [_, _, _, _]) rfl ?_)
    | (refine WO.build (C := [_, _, _, _, _]) rfl ?_)
    | (refine WO.build (C := [_, _, _, _, _, _]) rfl ?_)
    | (refine WO.build (C := [_, _, _, _, _, _, _]) rfl ?_)
    | (refine WO.eqnil (by assumption) (fun hn1 hn2 => ?_) ?_)
    | (refine W.condT rfl ?_)
    | (refine W.condF rfl ?_)
    | (refine W.condDT rfl (by first | assumption | omega) ?_)
    | (refine W.condDF rfl (by first | assumption | omega) ?_)
    | (refine W.condD rfl (fun hc => ?_) (fun hc => ?_))
    | (refine WO.gS rfl (fun hc => ?_) (fun hc => ?_) <;> try (exfalso; omega))
    | (refine WO.pickS rfl (fun hc => ?_) (fun hc => ?_) <;> try (exfalso; omega))
    | (refine W.skip ?_)
    | (refine W.block ?_)
    | (refine W.drawA rfl ?_)
    | (refine W.sdrawA rfl ?_)
    | (refine And.intro rfl ?_)
    | (refine W.exit ?_)
    | (refine W.ret ?_)
    | (refine W.seq ?_)
    | (refine W.goto ?_)
    | (refine W.label ?_)
    | (refine SQ.nn ?_)
    | (refine SQ.x ?_)
    | (refine SQ.r ?_)
    | (refine SQ.g ?_)
    | (refine BQ.nn ?_)
    | (refine BQ.x ?_)
    | (refine BQ.r ?_)
    | (refine BQ.g ?_)
    | (refine BQ.y rfl ?_)
    | (refine LQ.x ?_)
    | (refine LQ.r ?_)
    | (refine LQ.g ?_)
    | (refine GQ.nn ?_)
    | (refine GQ.x ?_)
    | (refine GQ.r ?_)
    | (refine WO.sadd (b := ⟨#[61]⟩) rfl rfl (by rw [eq61]; simp only [strOfNums_size, List.length_append, List.length_singleton]; omega) ?_; rw [eq61, strOf_app])
    | (refine WO.sadd rfl rfl (by simp only [strOfNums_size, List.length_append, List.length_singleton]; omega) ?_; rw [strOf_app])
    | ((have tag := hF; refine W.loopU ?_))
    | (refine W.loopI (σ := Nat × List Int) (fun σ => [(0, .s (.string s)), (3, .s (.string (strOfNums σ.2))), (4, .s (.int .i64 σ.1))]) (fun σ h' => h' = h ∧ σ.1 ≤ s.size + 2 ∧ σ.2.length ≤ 2 * σ.1 ∧ RI (b64 (bytesOf s)) σ.2 ((bytesOf s).drop σ.1)) (fun σ => s.size - σ.1) (0, []) ⟨rfl, rfl, rfl, trivial⟩ ⟨rfl, Nat.zero_le _, Nat.zero_le _, RI.ini s⟩ ?_; rintro ⟨i, O⟩ G h' ⟨rfl, hi, hO, hF⟩; dsimp only at hi hO hF ⊢; have r0 := bt_range s ((i : Int) + 0); have r1 := bt_range s ((i : Int) + (0 + 1)); have r2 := bt_range s ((i : Int) + (0 + 1 + 1)); have hds := bytesOf_length s; have hS : b64S s = strOfNums (b64 (bytesOf s)) := rfl; generalize b64 (bytesOf s) = R at *)
    | (refine LQ.nn ?_))
  · rw [bytesOf_drop_cons s i (by omega), bytesOf_drop_cons s (i + 1) (by omega), bytesOf_drop_cons s (i + 1 + 1) (by omega)] at hF
    have a0 : bt s ((i : Int) + 0) = bt s (i : Int) := by rw [Int.add_zero]
    have a1 : bt s ((i : Int) + (0 + 1)) = bt s ((i + 1 : Nat) : Int) := by congr 1
    have a2 : bt s ((i : Int) + (0 + 1 + 1)) = bt s ((i + 1 + 1 : Nat) : Int) := by congr 1
    refine ⟨(i + 3, _), by dsimp only; omega, ⟨rfl, rfl, rfl, trivial⟩, rfl, by dsimp only; omega, by dsimp only; simp only [List.length_append, List.length_singleton]; omega, ?_⟩
    dsimp only
    rw [app4]
    exact hF.three (list4 (by omega) (by omega) (by omega) (by omega))
  · rw [bytesOf_drop_cons s i (by omega), bytesOf_drop_cons s (i + 1) (by omega), List.drop_eq_nil_of_le (by omega)] at hF
    have a0 : bt s ((i : Int) + 0) = bt s (i : Int) := by rw [Int.add_zero]
    have a1 : bt s ((i : Int) + (0 + 1)) = bt s ((i + 1 : Nat) : Int) := by congr 1
    have a2 : bt s ((i : Int) + (0 + 1 + 1)) = bt s ((i + 1 + 1 : Nat) : Int) := by congr 1
    refine ⟨(i + 3, _), by dsimp only; omega, ⟨rfl, rfl, rfl, trivial⟩, rfl, by dsimp only; omega, by dsimp only; simp only [List.length_append, List.length_singleton]; omega, ?_⟩
    dsimp only
    rw [app4]
    rw [List.drop_eq_nil_of_le (by omega)]
    exact hF.two (list3 (by omega) (by omega) (by omega))
  · rw [bytesOf_drop_cons s i (by omega), List.drop_eq_nil_of_le (by omega)] at hF
    have a0 : bt s ((i : Int) + 0) = bt s (i : Int) := by rw [Int.add_zero]
    have a1 : bt s ((i : Int) + (0 + 1)) = bt s ((i + 1 : Nat) : Int) := by congr 1
    have a2 : bt s ((i : Int) + (0 + 1 + 1)) = bt s ((i + 1 + 1 : Nat) : Int) := by congr 1
    refine ⟨(i + 3, _), by dsimp only; omega, ⟨rfl, rfl, rfl, trivial⟩, rfl, by dsimp only; omega, by dsimp only; simp only [List.length_append, List.length_singleton]; omega, ?_⟩
    dsimp only
    rw [app4]
    rw [List.drop_eq_nil_of_le (by omega)]
    exact hF.one (list2 (by omega) (by omega))
  · rw [List.drop_eq_nil_of_le (by omega)] at hF
    have e := hF.nil
    exact ⟨by rw [hS, e]; rfl, hg⟩
end Go.Proofs.YtffjdidakeinjaaDoor.AS
end
section
set_option autoImplicit false
set_option maxRecDepth 100000
set_option maxHeartbeats 4000000
set_option linter.unusedSimpArgs false
set_option linter.unusedVariables false
namespace Go.Proofs.YtffjdidakeinjaaDoor.AS
open Go Go.Proofs Go.RowKit Go.Proofs.YtffjdidakeinjaaDoor.AS.V

theorem rstrict12_FR (h : Heap) (s : ByteArray) (hs : s.size ≤ 35184372088832) : FR Tryd.prog TT 12 [.s (.string s)] h fun x H => x = .tp [.s (.string (strS s).1), .s (.int .i64 (strS s).2)] ∧ Grows h H := by
  have k1 := fun h => rfrom10_FR h s (by omega)
  have hz := fbS_len s
  have k2 := fun h => rbase15_FR h (strOfNums (fbS s).1) (by omega)
  unfold strS
  generalize strOfNums (fbS s).1 = d at *
  generalize (fbS s).2 = n at *
  generalize b64S d = e at *
  refine FR.of q12 (by kernel_rfl) ?_
  unfold c12
  repeat' (first
    | (refine WO.call rfl (k1 _) ?_; rintro _ H1 ⟨rfl, g1⟩)
    | (refine WO.call rfl (k2 _) ?_; rintro _ H2 ⟨rfl, g2⟩)
    | (refine LQ.fin ?_)
    | (refine EQ.fin rfl ?_)
    | (refine WO.mvs rfl ?_)
    | (refine WO.mvp rfl ?_)
    | (refine WO.mvt rfl ?_)
    | (refine WO.mv ?_)
    | (refine W.sreg ?_)
    | (refine W.sdraw ?_)
    | (refine W.reg ?_)
    | (refine W.draw ?_)
    | (refine WO.nil ?_)
    | (refine WO.gU rfl ?_)
    | (refine WO.gT rfl rfl ?_)
    | (refine WO.gF rfl rfl ?_)
    | (refine WO.ext rfl rfl ?_)
    | (refine WO.lenR (by assumption) ?_)
    | (refine WO.add rfl rfl (by first | exact wrOK (by simp only [loK, hiK]; omega) | rfl) ?_)
    | (refine WO.sub rfl rfl (by first | exact wrOK (by simp only [loK, hiK]; omega) | rfl) ?_)
    | (refine WO.lss rfl rfl ?_)
    | (refine WO.leq rfl rfl ?_)
    | (refine WO.gtr rfl rfl ?_)
    | (refine WO.geq rfl rfl ?_)
    | (refine WO.eql rfl rfl ?_)
    | (refine WO.neq rfl rfl ?_)
    | (refine WO.seql rfl rfl ?_)
    | (refine WO.sneq rfl rfl ?_)
    | (refine WO.beql rfl rfl (tb rfl) ?_)
    | (refine WO.bneq rfl rfl (tb rfl) ?_)
    | (refine WO.not rfl ?_)
    | (refine WO.not0 rfl ?_)
    | (refine WO.cvi rfl (kd rfl) (kd rfl) (by first | exact wrOK (by simp only [loK, hiK]; omega) | rfl) ?_)
    | (refine WO.cvs rfl (st rfl) (st rfl) ?_)
    | (refine WO.ix rfl rfl (st rfl) (by first | assumption | omega) (by first | assumption | omega) ?_)
    | (refine WO.slen rfl (st rfl) ?_)
    | (refine WO.iaddr (by assumption) rfl rfl (by first | assumption | omega) (by first | assumption | omega) (fun q hq => ?_))
    | (refine WO.load (by assumption) rfl rfl ?_)
    | (refine WO.loadO rfl (by assumption) rfl rfl ?_)
    | (refine WO.faddrP (by assumption) rfl (fun q hq => ?_))
    | (refine WO.nilckP (by assumption) ?_)
    | (refine WO.nilck rfl ?_)
    | (refine WO.faddr rfl ?_)
    | (refine WO.fld rfl rfl rfl ?_)
    | (refine WO.pickT rfl ?_)
    | (refine WO.pickF rfl ?_)
    | (refine WO.sll rfl rfl (st rfl) (by first | assumption | omega) (by first | assumption | omega) ?_)
    | (refine WO.slh rfl rfl (st rfl) (by first | assumption | omega) (by first | assumption | omega) ?_)
    | (refine WO.slb rfl rfl rfl (st rfl) (by first | assumption | omega) (by first | assumption | omega) (by first | assumption | omega) ?_)
    | (refine WO.mul rfl rfl (by first | exact wrOK (by simp only [loK, hiK]; omega) | rfl) ?_)
    | (refine WO.quo rfl rfl (by first | assumption | omega) (by first | exact wrOK (by simp only [loK, hiK]; omega) | rfl) ?_)
    | (refine WO.rem rfl rfl (by first | assumption | omega) ?_)
    | (refine WO.and rfl rfl ?_)
    | (refine WO.or rfl rfl ?_)
    | (refine WO.xor rfl rfl ?_)
    | (refine WO.shl rfl rfl (by first | assumption | omega) (by simp [IntKind.bits]; rfl) ?_)
    | (refine WO.shr rfl rfl (by first | assumption | omega) (by simp [IntKind.bits]; rfl) ?_)
    | (refine WO.build (C := [_]) rfl ?_)
    | (refine WO.build (C := [_, _]) rfl ?_)
    | (refine WO.build (C := [_, _, _]) rfl ?_)
    | (refine WO.build (C := [_, _, _, _]) rfl ?_)
    | (refine WO.build (C := [_, _, _, _, _]) rfl ?_)
    | (refine WO.build (C := [_, _, _, _, _, _]) rfl ?_)
    | (refine WO.build (C := [_, _, _, _, _, _, _]) rfl ?_)
    | (refine WO.eqnil (by assumption) (fun hn1 hn2 => ?_) ?_)
    | (refine W.condT rfl ?_)
    | (refine W.condF rfl ?_)
    | (refine W.condDT rfl (by first | assumption | omega) ?_)
    | (refine W.condDF rfl (by first | assumption | omega) ?_)
    | (refine W.condD rfl (fun hc => ?_) (fun hc => ?_))
    | (refine WO.gS rfl (fun hc => ?_) (fun hc => ?_) <;> try (exfalso; omega))
    | (refine WO.pickS rfl (fun hc => ?_) (fun hc => ?_) <;> try (exfalso; omega))
    | (refine W.skip ?_)
    | (refine W.block ?_)
    | (refine W.drawA rfl ?_)
    | (refine W.sdrawA rfl ?_)
    | (refine And.intro rfl ?_)
    | (refine W.exit ?_)
    | (refine W.ret ?_)
    | (refine W.seq ?_)
    | (refine W.goto ?_)
    | (refine W.label ?_)
    | (refine SQ.nn ?_)
    | (refine SQ.x ?_)
    | (refine SQ.r ?_)
    | (refine SQ.g ?_)
    | (refine BQ.nn ?_)
    | (refine BQ.x ?_)
    | (refine BQ.r ?_)
    | (refine BQ.g ?_)
    | (refine BQ.y rfl ?_)
    | (refine LQ.x ?_)
    | (refine LQ.r ?_)
    | (refine LQ.g ?_)
    | (refine GQ.nn ?_)
    | (refine GQ.x ?_)
    | (refine GQ.r ?_))
  all_goals first
    | exact ⟨by rw [if_pos (by assumption)]; rfl, g1.trans g2⟩
    | exact ⟨by rw [if_neg (by assumption)]; rfl, g1.trans g2⟩
end Go.Proofs.YtffjdidakeinjaaDoor.AS
end
section
set_option autoImplicit false
set_option maxRecDepth 100000
set_option maxHeartbeats 4000000
set_option linter.unusedSimpArgs false
set_option linter.unusedVariables false
namespace Go.Proofs.YtffjdidakeinjaaDoor.AS
open Go Go.Proofs Go.RowKit Go.Proofs.YtffjdidakeinjaaDoor.AS.V

theorem v9 : strOfNums (fbS ⟨#[84, 32, 87, 33, 69, 61, 65]⟩).1 = ⟨#[77, 97]⟩ ∧ (fbS ⟨#[84, 32, 87, 33, 69, 61, 65]⟩).2 = 1 := by decide +kernel
theorem v16 : strOfNums (fqS ⟨#[97, 61, 51, 68, 98, 32, 10, 61, 122, 61, 10, 120]⟩).1 = ⟨#[97, 61, 98, 10, 61, 122, 120]⟩ ∧ (fqS ⟨#[97, 61, 51, 68, 98, 32, 10, 61, 122, 61, 10, 120]⟩).2 = 1 := by decide +kernel
theorem v11 : (strS ⟨#[84, 87, 69, 61]⟩).1 = ⟨#[77, 97]⟩ ∧ (strS ⟨#[84, 87, 69, 61]⟩).2 = 0 := by decide +kernel
theorem v11b : (strS ⟨#[84, 87, 70, 61]⟩).2 = 7 := by decide +kernel
theorem v14 : b64S ⟨#[77, 97]⟩ = ⟨#[84, 87, 69, 61]⟩ := by decide +kernel
theorem v18 : qpS ⟨#[97, 61, 98, 32]⟩ = ⟨#[97, 61, 51, 68, 98, 61, 50, 48]⟩ := by decide +kernel
theorem lives_FR (h : Heap) : FR Tryd.prog TT 13 [] h fun x H => x = .s (.bool true) ∧ Grows h H := by
  have l9 : ∀ h, FR Tryd.prog TT 9 [.s (.string ⟨#[84, 32, 87, 33, 69, 61, 65]⟩)] h fun x H => x = .tp [.s (.string ⟨#[77, 97]⟩), .s (.int .i64 1)] ∧ Grows h H := by
    intro h
    have k := from9_FR h ⟨#[84, 32, 87, 33, 69, 61, 65]⟩ (by decide)
    rwa [v9.1, v9.2] at k
  have l16 : ∀ h, FR Tryd.prog TT 16 [.s (.string ⟨#[97, 61, 51, 68, 98, 32, 10, 61, 122, 61, 10, 120]⟩)] h fun x H => x = .tp [.s (.string ⟨#[97, 61, 98, 10, 61, 122, 120]⟩), .s (.int .i64 1)] ∧ Grows h H := by
    intro h
    have k := fquot16_FR h ⟨#[97, 61, 51, 68, 98, 32, 10, 61, 122, 61, 10, 120]⟩ (by decide)
    rwa [v16.1, v16.2] at k
  have l11 : ∀ h, FR Tryd.prog TT 11 [.s (.string ⟨#[84, 87, 69, 61]⟩)] h fun x H => x = .tp [.s (.string ⟨#[77, 97]⟩), .s (.int .i64 0)] ∧ Grows h H := by
    intro h
    have k := strict11_FR h ⟨#[84, 87, 69, 61]⟩ (by decide)
    rwa [v11.1, v11.2] at k
  have l11b : ∀ h, FR Tryd.prog TT 11 [.s (.string ⟨#[84, 87, 70, 61]⟩)] h fun x H => (∃ u, x = .tp [.s (.string u), .s (.int .i64 7)]) ∧ Grows h H := by
    intro h
    have k := strict11_FR h ⟨#[84, 87, 70, 61]⟩ (by decide)
    rw [v11b] at k
    exact k.mono fun x H o => ⟨⟨_, o.1⟩, o.2⟩
  have l14 : ∀ h, FR Tryd.prog TT 14 [.s (.string ⟨#[77, 97]⟩)] h fun x H => x = .s (.string ⟨#[84, 87, 69, 61]⟩) ∧ Grows h H := by
    intro h
    have k := base14_FR h ⟨#[77, 97]⟩ (by decide)
    rwa [v14] at k
  have l18 : ∀ h, FR Tryd.prog TT 18 [.s (.string ⟨#[97, 61, 98, 32]⟩)] h fun x H => x = .s (.string ⟨#[97, 61, 51, 68, 98, 61, 50, 48]⟩) ∧ Grows h H := by
    intro h
    have k := quot18_FR h ⟨#[97, 61, 98, 32]⟩ (by decide)
    rwa [v18] at k
  refine FR.of q13 (by kernel_rfl) ?_
  unfold c13
  repeat' (first
    | (refine WO.call rfl (l9 _) ?_; rintro _ H1 ⟨rfl, g1⟩)
    | (refine WO.call rfl (l16 _) ?_; rintro _ H2 ⟨rfl, g2⟩)
    | (refine WO.call rfl (l11 _) ?_; rintro _ H3 ⟨rfl, g3⟩)
    | (refine WO.call rfl (l11b _) ?_; rintro _ H4 ⟨⟨u, rfl⟩, g4⟩)
    | (refine WO.call rfl (l14 _) ?_; rintro _ H5 ⟨rfl, g5⟩)
    | (refine WO.call rfl (l18 _) ?_; rintro _ H6 ⟨rfl, g6⟩)
    | (refine WO.seql rfl rfl ?_; rw [decide_eq_true rfl])
    | (refine WO.eql rfl rfl ?_; rw [decide_eq_true rfl])
    | (refine LQ.fin ?_)
    | (refine EQ.fin rfl ?_)
    | (refine WO.mvs rfl ?_)
    | (refine WO.mvp rfl ?_)
    | (refine WO.mvt rfl ?_)
    | (refine WO.mv ?_)
    | (refine W.sreg ?_)
    | (refine W.sdraw ?_)
    | (refine W.reg ?_)
    | (refine W.draw ?_)
    | (refine WO.nil ?_)
    | (refine WO.gU rfl ?_)
    | (refine WO.gT rfl rfl ?_)
    | (refine WO.gF rfl rfl ?_)
    | (refine WO.ext rfl rfl ?_)
    | (refine WO.lenR (by assumption) ?_)
    | (refine WO.add rfl rfl (by first | exact wrOK (by simp only [loK, hiK]; omega) | rfl) ?_)
    | (refine WO.sub rfl rfl (by first | exact wrOK (by simp only [loK, hiK]; omega) | rfl) ?_)
    | (refine WO.lss rfl rfl ?_)
    | (refine WO.leq rfl rfl ?_)
    | (refine WO.gtr rfl rfl ?_)
    | (refine WO.geq rfl rfl ?_)
    | (refine WO.eql rfl rfl ?_)
    | (refine WO.neq rfl rfl ?_)
    | (refine WO.seql rfl rfl ?_)
    | (refine WO.sneq rfl rfl ?_)
    | (refine WO.beql rfl rfl (tb rfl) ?_)
    | (refine WO.bneq rfl rfl (tb rfl) ?_)
    | (refine WO.not rfl ?_)
    | (refine WO.not0 rfl ?_)
    | (refine WO.cvi rfl (kd rfl) (kd rfl) (by first | exact wrOK (by simp only [loK, hiK]; omega) | rfl) ?_)
    | (refine WO.cvs rfl (st rfl) (st rfl) ?_)
    | (refine WO.ix rfl rfl (st rfl) (by first | assumption | omega) (by first | assumption | omega) ?_)
    | (refine WO.slen rfl (st rfl) ?_)
    | (refine WO.iaddr (by assumption) rfl rfl (by first | assumption | omega) (by first | assumption | omega) (fun q hq => ?_))
    | (refine WO.load (by assumption) rfl rfl ?_)
    | (refine WO.loadO rfl (by assumption) rfl rfl ?_)
    | (refine WO.faddrP (by assumption) rfl (fun q hq => ?_))
    | (refine WO.nilckP (by assumption) ?_)
    | (refine WO.nilck rfl ?_)
    | (refine WO.faddr rfl ?_)
    | (refine WO.fld rfl rfl rfl ?_)
    | (refine WO.pickT rfl ?_)
    | (refine WO.pickF rfl ?_)
    | (refine WO.sll rfl rfl (st rfl) (by first | assumption | omega) (by first | assumption | omega) ?_)
    | (refine WO.slh rfl rfl (st rfl) (by first | assumption | omega) (by first | assumption | omega) ?_)
    | (refine WO.slb rfl rfl rfl (st rfl) (by first | assumption | omega) (by first | assumption | omega) (by first | assumption | omega) ?_)
    | (refine WO.mul rfl rfl (by first | exact wrOK (by simp only [loK, hiK]; omega) | rfl) ?_)
    | (refine WO.quo rfl rfl (by first | assumption | omega) (by first | exact wrOK (by simp only [loK, hiK]; omega) | rfl) ?_)
    | (refine WO.rem rfl rfl (by first | assumption | omega) ?_)
    | (refine WO.and rfl rfl ?_)
    | (refine WO.or rfl rfl ?_)
    | (refine WO.xor rfl rfl ?_)
    | (refine WO.shl rfl rfl (by first | assumption | omega) (by simp [IntKind.bits]; rfl) ?_)
    | (refine WO.shr rfl rfl (by first | assumption | omega) (by simp [IntKind.bits]; rfl) ?_)
    | (refine WO.build (C := [_]) rfl ?_)
    | (refine WO.build (C := [_, _]) rfl ?_)
    | (refine WO.build (C := [_, _, _]) rfl ?_)
    | (refine WO.build (C := [_, _, _, _]) rfl ?_)
    | (refine WO.build (C := [_, _, _, _, _]) rfl ?_)
    | (refine WO.build (C := [_, _, _, _, _, _]) rfl ?_)
    | (refine WO.build (C := [_, _, _, _, _, _, _]) rfl ?_)
    | (refine WO.eqnil (by assumption) (fun hn1 hn2 => ?_) ?_)
    | (refine W.condT rfl ?_)
    | (refine W.condF rfl ?_)
    | (refine W.condDT rfl (by first | assumption | omega) ?_)
    | (refine W.condDF rfl (by first | assumption | omega) ?_)
    | (refine W.condD rfl (fun hc => ?_) (fun hc => ?_))
    | (refine WO.gS rfl (fun hc => ?_) (fun hc => ?_) <;> try (exfalso; omega))
    | (refine WO.pickS rfl (fun hc => ?_) (fun hc => ?_) <;> try (exfalso; omega))
    | (refine W.skip ?_)
    | (refine W.block ?_)
    | (refine W.drawA rfl ?_)
    | (refine W.sdrawA rfl ?_)
    | (refine And.intro rfl ?_)
    | (refine W.exit ?_)
    | (refine W.ret ?_)
    | (refine W.seq ?_)
    | (refine W.goto ?_)
    | (refine W.label ?_)
    | (refine SQ.nn ?_)
    | (refine SQ.x ?_)
    | (refine SQ.r ?_)
    | (refine SQ.g ?_)
    | (refine BQ.nn ?_)
    | (refine BQ.x ?_)
    | (refine BQ.r ?_)
    | (refine BQ.g ?_)
    | (refine BQ.y rfl ?_)
    | (refine LQ.x ?_)
    | (refine LQ.r ?_)
    | (refine LQ.g ?_)
    | (refine GQ.nn ?_)
    | (refine GQ.x ?_)
    | (refine GQ.r ?_))
  all_goals first
    | exact ⟨rfl, g1.trans (g2.trans (g3.trans (g4.trans (g5.trans g6))))⟩
/-- Law 3: base64. -/
theorem law3_FR (h : Heap) (s t : ByteArray) (hs : s.size ≤ 1048576) (ht : t.size ≤ 1048576) : FR Tryd.prog TT 3 [.s (.string s), .s (.string t)] h fun x H => x = .s (.bool true) ∧ Grows h H := by
  have k9 := fun h => from9_FR h t (by omega)
  have k10 := fun h => rfrom10_FR h t (by omega)
  have k11 := fun h => strict11_FR h t (by omega)
  have k12 := fun h => rstrict12_FR h t (by omega)
  have k14 := fun h => base14_FR h s (by omega)
  have k15 := fun h => rbase15_FR h s (by omega)
  generalize strOfNums (fbS t).1 = a at *
  generalize (fbS t).2 = n at *
  generalize (strS t).1 = c at *
  generalize (strS t).2 = w at *
  generalize b64S s = bs at *
  refine FR.of q3 (by kernel_rfl) ?_
  unfold c3
  repeat' (first
    | (refine WO.call rfl (k9 _) ?_; rintro _ H1 ⟨rfl, g1⟩)
    | (refine WO.call rfl (k10 _) ?_; rintro _ H2 ⟨rfl, g2⟩)
    | (refine WO.call rfl (k11 _) ?_; rintro _ H3 ⟨rfl, g3⟩)
    | (refine WO.call rfl (k12 _) ?_; rintro _ H4 ⟨rfl, g4⟩)
    | (refine WO.call rfl (lives_FR _) ?_; rintro _ H5 ⟨rfl, g5⟩)
    | (refine WO.call rfl (k14 _) ?_; rintro _ H6 ⟨rfl, g6⟩)
    | (refine WO.call rfl (k15 _) ?_; rintro _ H7 ⟨rfl, g7⟩)
    | (refine WO.seql rfl rfl ?_; rw [decide_eq_true rfl])
    | (refine WO.eql rfl rfl ?_; rw [decide_eq_true rfl])
    | (refine LQ.fin ?_)
    | (refine EQ.fin rfl ?_)
    | (refine WO.mvs rfl ?_)
    | (refine WO.mvp rfl ?_)
    | (refine WO.mvt rfl ?_)
    | (refine WO.mv ?_)
    | (refine W.sreg ?_)
    | (refine W.sdraw ?_)
    | (refine W.reg ?_)
    | (refine W.draw ?_)
    | (refine WO.nil ?_)
    | (refine WO.gU rfl ?_)
    | (refine WO.gT rfl rfl ?_)
    | (refine WO.gF rfl rfl ?_)
    | (refine WO.ext rfl rfl ?_)
    | (refine WO.lenR (by assumption) ?_)
    | (refine WO.add rfl rfl (by first | exact wrOK (by simp only [loK, hiK]; omega) | rfl) ?_)
    | (refine WO.sub rfl rfl (by first | exact wrOK (by simp only [loK, hiK]; omega) | rfl) ?_)
    | (refine WO.lss rfl rfl ?_)
    | (refine WO.leq rfl rfl ?_)
    | (refine WO.gtr rfl rfl ?_)
    | (refine WO.geq rfl rfl ?_)
    | (refine WO.eql rfl rfl ?_)
    | (refine WO.neq rfl rfl ?_)
    | (refine WO.seql rfl rfl ?_)
    | (refine WO.sneq rfl rfl ?_)
    | (refine WO.beql rfl rfl (tb rfl) ?_)
    | (refine WO.bneq rfl rfl (tb rfl) ?_)
    | (refine WO.not rfl ?_)
    | (refine WO.not0 rfl ?_)
    | (refine WO.cvi rfl (kd rfl) (kd rfl) (by first | exact wrOK (by simp only [loK, hiK]; omega) | rfl) ?_)
    | (refine WO.cvs rfl (st rfl) (st rfl) ?_)
    | (refine WO.ix rfl rfl (st rfl) (by first | assumption | omega) (by first | assumption | omega) ?_)
    | (refine WO.slen rfl (st rfl) ?_)
    | (refine WO.iaddr (by assumption) rfl rfl (by first | assumption | omega) (by first | assumption | omega) (fun q hq => ?_))
    | (refine WO.load (by assumption) rfl rfl ?_)
    | (refine WO.loadO rfl (by assumption) rfl rfl ?_)
    | (refine WO.faddrP (by assumption) rfl (fun q hq => ?_))
    | (refine WO.nilckP (by assumption) ?_)
    | (refine WO.nilck rfl ?_)
    | (refine WO.faddr rfl ?_)
    | (refine WO.fld rfl rfl rfl ?_)
    | (refine WO.pickT rfl ?_)
    | (refine WO.pickF rfl ?_)
    | (refine WO.sll rfl rfl (st rfl) (by first | assumption | omega) (by first | assumption | omega) ?_)
    | (refine WO.slh rfl rfl (st rfl) (by first | assumption | omega) (by first | assumption | omega) ?_)
    | (refine WO.slb rfl rfl rfl (st rfl) (by first | assumption | omega) (by first | assumption | omega) (by first | assumption | omega) ?_)
    | (refine WO.mul rfl rfl (by first | exact wrOK (by simp only [loK, hiK]; omega) | rfl) ?_)
    | (refine WO.quo rfl rfl (by first | assumption | omega) (by first | exact wrOK (by simp only [loK, hiK]; omega) | rfl) ?_)
    | (refine WO.rem rfl rfl (by first | assumption | omega) ?_)
    | (refine WO.and rfl rfl ?_)
    | (refine WO.or rfl rfl ?_)
    | (refine WO.xor rfl rfl ?_)
    | (refine WO.shl rfl rfl (by first | assumption | omega) (by simp [IntKind.bits]; rfl) ?_)
    | (refine WO.shr rfl rfl (by first | assumption | omega) (by simp [IntKind.bits]; rfl) ?_)
    | (refine WO.build (C := [_]) rfl ?_)
    | (refine WO.build (C := [_, _]) rfl ?_)
    | (refine WO.build (C := [_, _, _]) rfl ?_)
    | (refine WO.build (C := [_, _, _, _]) rfl ?_)
    | (refine WO.build (C := [_, _, _, _, _]) rfl ?_)
    | (refine WO.build (C := [_, _, _, _, _, _]) rfl ?_)
    | (refine WO.build (C := [_, _, _, _, _, _, _]) rfl ?_)
    | (refine WO.eqnil (by assumption) (fun hn1 hn2 => ?_) ?_)
    | (refine W.condT rfl ?_)
    | (refine W.condF rfl ?_)
    | (refine W.condDT rfl (by first | assumption | omega) ?_)
    | (refine W.condDF rfl (by first | assumption | omega) ?_)
    | (refine W.condD rfl (fun hc => ?_) (fun hc => ?_))
    | (refine WO.gS rfl (fun hc => ?_) (fun hc => ?_) <;> try (exfalso; omega))
    | (refine WO.pickS rfl (fun hc => ?_) (fun hc => ?_) <;> try (exfalso; omega))
    | (refine W.skip ?_)
    | (refine W.block ?_)
    | (refine W.drawA rfl ?_)
    | (refine W.sdrawA rfl ?_)
    | (refine And.intro rfl ?_)
    | (refine W.exit ?_)
    | (refine W.ret ?_)
    | (refine W.seq ?_)
    | (refine W.goto ?_)
    | (refine W.label ?_)
    | (refine SQ.nn ?_)
    | (refine SQ.x ?_)
    | (refine SQ.r ?_)
    | (refine SQ.g ?_)
    | (refine BQ.nn ?_)
    | (refine BQ.x ?_)
    | (refine BQ.r ?_)
    | (refine BQ.g ?_)
    | (refine BQ.y rfl ?_)
    | (refine LQ.x ?_)
    | (refine LQ.r ?_)
    | (refine LQ.g ?_)
    | (refine GQ.nn ?_)
    | (refine GQ.x ?_)
    | (refine GQ.r ?_))
  all_goals first
    | exact ⟨rfl, g1.trans (g2.trans (g3.trans (g4.trans (g5.trans (g6.trans g7)))))⟩
/-- Law 4: quoted-printable. -/
theorem law4_FR (h : Heap) (s t : ByteArray) (hs : s.size ≤ 1048576) (ht : t.size ≤ 1048576) : FR Tryd.prog TT 4 [.s (.string s), .s (.string t)] h fun x H => x = .s (.bool true) ∧ Grows h H := by
  have k9 := fun h => fquot16_FR h t (by omega)
  have k10 := fun h => rfquot17_FR h t (by omega)
  have k14 := fun h => quot18_FR h s (by omega)
  have k15 := fun h => rquot19_FR h s (by omega)
  generalize strOfNums (fqS t).1 = a at *
  generalize (fqS t).2 = n at *
  generalize qpS s = bs at *
  refine FR.of q4 (by kernel_rfl) ?_
  unfold c4
  repeat' (first
    | (refine WO.call rfl (k9 _) ?_; rintro _ H1 ⟨rfl, g1⟩)
    | (refine WO.call rfl (k10 _) ?_; rintro _ H2 ⟨rfl, g2⟩)
    | (refine WO.call rfl (lives_FR _) ?_; rintro _ H5 ⟨rfl, g5⟩)
    | (refine WO.call rfl (k14 _) ?_; rintro _ H6 ⟨rfl, g6⟩)
    | (refine WO.call rfl (k15 _) ?_; rintro _ H7 ⟨rfl, g7⟩)
    | (refine WO.seql rfl rfl ?_; rw [decide_eq_true rfl])
    | (refine WO.eql rfl rfl ?_; rw [decide_eq_true rfl])
    | (refine LQ.fin ?_)
    | (refine EQ.fin rfl ?_)
    | (refine WO.mvs rfl ?_)
    | (refine WO.mvp rfl ?_)
    | (refine WO.mvt rfl ?_)
    | (refine WO.mv ?_)
    | (refine W.sreg ?_)
    | (refine W.sdraw ?_)
    | (refine W.reg ?_)
    | (refine W.draw ?_)
    | (refine WO.nil ?_)
    | (refine WO.gU rfl ?_)
    | (refine WO.gT rfl rfl ?_)
    | (refine WO.gF rfl rfl ?_)
    | (refine WO.ext rfl rfl ?_)
    | (refine WO.lenR (by assumption) ?_)
    | (refine WO.add rfl rfl (by first | exact wrOK (by simp only [loK, hiK]; omega) | rfl) ?_)
    | (refine WO.sub rfl rfl (by first | exact wrOK (by simp only [loK, hiK]; omega) | rfl) ?_)
    | (refine WO.lss rfl rfl ?_)
    | (refine WO.leq rfl rfl ?_)
    | (refine WO.gtr rfl rfl ?_)
    | (refine WO.geq rfl rfl ?_)
    | (refine WO.eql rfl rfl ?_)
    | (refine WO.neq rfl rfl ?_)
    | (refine WO.seql rfl rfl ?_)
    | (refine WO.sneq rfl rfl ?_)
    | (refine WO.beql rfl rfl (tb rfl) ?_)
    | (refine WO.bneq rfl rfl (tb rfl) ?_)
    | (refine WO.not rfl ?_)
    | (refine WO.not0 rfl ?_)
    | (refine WO.cvi rfl (kd rfl) (kd rfl) (by first | exact wrOK (by simp only [loK, hiK]; omega) | rfl) ?_)
    | (refine WO.cvs rfl (st rfl) (st rfl) ?_)
    | (refine WO.ix rfl rfl (st rfl) (by first | assumption | omega) (by first | assumption | omega) ?_)
    | (refine WO.slen rfl (st rfl) ?_)
    | (refine WO.iaddr (by assumption) rfl rfl (by first | assumption | omega) (by first | assumption | omega) (fun q hq => ?_))
    | (refine WO.load (by assumption) rfl rfl ?_)
    | (refine WO.loadO rfl (by assumption) rfl rfl ?_)
    | (refine WO.faddrP (by assumption) rfl (fun q hq => ?_))
    | (refine WO.nilckP (by assumption) ?_)
    | (refine WO.nilck rfl ?_)
    | (refine WO.faddr rfl ?_)
    | (refine WO.fld rfl rfl rfl ?_)
    | (refine WO.pickT rfl ?_)
    | (refine WO.pickF rfl ?_)
    | (refine WO.sll rfl rfl (st rfl) (by first | assumption | omega) (by first | assumption | omega) ?_)
    | (refine WO.slh rfl rfl (st rfl) (by first | assumption | omega) (by first | assumption | omega) ?_)
    | (refine WO.slb rfl rfl rfl (st rfl) (by first | assumption | omega) (by first | assumption | omega) (by first | assumption | omega) ?_)
    | (refine WO.mul rfl rfl (by first | exact wrOK (by simp only [loK, hiK]; omega) | rfl) ?_)
    | (refine WO.quo rfl rfl (by first | assumption | omega) (by first | exact wrOK (by simp only [loK, hiK]; omega) | rfl) ?_)
    | (refine WO.rem rfl rfl (by first | assumption | omega) ?_)
    | (refine WO.and rfl rfl ?_)
    | (refine WO.or rfl rfl ?_)
    | (refine WO.xor rfl rfl ?_)
    | (refine WO.shl rfl rfl (by first | assumption | omega) (by simp [IntKind.bits]; rfl) ?_)
    | (refine WO.shr rfl rfl (by first | assumption | omega) (by simp [IntKind.bits]; rfl) ?_)
    | (refine WO.build (C := [_]) rfl ?_)
    | (refine WO.build (C := [_, _]) rfl ?_)
    | (refine WO.build (C := [_, _, _]) rfl ?_)
    | (refine WO.build (C := [_, _, _, _]) rfl ?_)
    | (refine WO.build (C := [_, _, _, _, _]) rfl ?_)
    | (refine WO.build (C := [_, _, _, _, _, _]) rfl ?_)
    | (refine WO.build (C := [_, _, _, _, _, _, _]) rfl ?_)
    | (refine WO.eqnil (by assumption) (fun hn1 hn2 => ?_) ?_)
    | (refine W.condT rfl ?_)
    | (refine W.condF rfl ?_)
    | (refine W.condDT rfl (by first | assumption | omega) ?_)
    | (refine W.condDF rfl (by first | assumption | omega) ?_)
    | (refine W.condD rfl (fun hc => ?_) (fun hc => ?_))
    | (refine WO.gS rfl (fun hc => ?_) (fun hc => ?_) <;> try (exfalso; omega))
    | (refine WO.pickS rfl (fun hc => ?_) (fun hc => ?_) <;> try (exfalso; omega))
    | (refine W.skip ?_)
    | (refine W.block ?_)
    | (refine W.drawA rfl ?_)
    | (refine W.sdrawA rfl ?_)
    | (refine And.intro rfl ?_)
    | (refine W.exit ?_)
    | (refine W.ret ?_)
    | (refine W.seq ?_)
    | (refine W.goto ?_)
    | (refine W.label ?_)
    | (refine SQ.nn ?_)
    | (refine SQ.x ?_)
    | (refine SQ.r ?_)
    | (refine SQ.g ?_)
    | (refine BQ.nn ?_)
    | (refine BQ.x ?_)
    | (refine BQ.r ?_)
    | (refine BQ.g ?_)
    | (refine BQ.y rfl ?_)
    | (refine LQ.x ?_)
    | (refine LQ.r ?_)
    | (refine LQ.g ?_)
    | (refine GQ.nn ?_)
    | (refine GQ.x ?_)
    | (refine GQ.r ?_))
  all_goals first
    | exact ⟨rfl, g1.trans (g2.trans (g5.trans (g6.trans g7)))⟩
theorem b64S_size (s : ByteArray) : (b64S s).size = (s.size + 2) / 3 * 4 := by
  unfold b64S; rw [strOfNums_size, b64_len, bytesOf_length]
theorem qpS_size (s : ByteArray) : s.size ≤ (qpS s).size ∧ (qpS s).size ≤ 3 * s.size := by
  unfold qpS; have := qpL_len (bytesOf s); rw [strOfNums_size]; rw [bytesOf_length] at this; exact this
/-- Law 5: what was written is read as it was. -/
theorem law5_FR (h : Heap) (s : ByteArray) (hs : s.size ≤ 1048576) : FR Tryd.prog TT 5 [.s (.string s)] h fun x H => x = .s (.bool true) ∧ Grows h H := by
  have z1 := b64S_size s
  have z2 := qpS_size s
  have k14 := fun h => base14_FR h s (by omega)
  have k18 := fun h => quot18_FR h s (by omega)
  have k9 := fun h => from9_FR h (b64S s) (by omega)
  have k16 := fun h => fquot16_FR h (qpS s) (by omega)
  have k11 := fun h => strict11_FR h (b64S s) (by omega)
  rw [fbS_b64S, show strOfNums (bytesOf s, (0 : Int)).1 = s from strOf_bytesOf s] at k9
  rw [fqS_qpS, show strOfNums (bytesOf s, (0 : Int)).1 = s from strOf_bytesOf s] at k16
  rw [strS_b64S] at k11
  generalize b64S s = bs at *
  generalize qpS s = qs at *
  refine FR.of q5 (by kernel_rfl) ?_
  unfold c5
  repeat' (first
    | (refine WO.call rfl (lives_FR _) ?_; rintro _ H1 ⟨rfl, g1⟩)
    | (refine WO.call rfl (k14 _) ?_; rintro _ H2 ⟨rfl, g2⟩)
    | (refine WO.call rfl (k9 _) ?_; rintro _ H3 ⟨rfl, g3⟩)
    | (refine WO.call rfl (k18 _) ?_; rintro _ H4 ⟨rfl, g4⟩)
    | (refine WO.call rfl (k16 _) ?_; rintro _ H5 ⟨rfl, g5⟩)
    | (refine WO.call rfl (k11 _) ?_; rintro _ H7 ⟨rfl, g7⟩)
    | (refine WO.seql rfl rfl ?_; rw [decide_eq_true rfl])
    | (refine WO.eql rfl rfl ?_; rw [decide_eq_true rfl])
    | (refine LQ.fin ?_)
    | (refine EQ.fin rfl ?_)
    | (refine WO.mvs rfl ?_)
    | (refine WO.mvp rfl ?_)
    | (refine WO.mvt rfl ?_)
    | (refine WO.mv ?_)
    | (refine W.sreg ?_)
    | (refine W.sdraw ?_)
    | (refine W.reg ?_)
    | (refine W.draw ?_)
    | (refine WO.nil ?_)
    | (refine WO.gU rfl ?_)
    | (refine WO.gT rfl rfl ?_)
    | (refine WO.gF rfl rfl ?_)
    | (refine WO.ext rfl rfl ?_)
    | (refine WO.lenR (by assumption) ?_)
    | (refine WO.add rfl rfl (by first | exact wrOK (by simp only [loK, hiK]; omega) | rfl) ?_)
    | (refine WO.sub rfl rfl (by first | exact wrOK (by simp only [loK, hiK]; omega) | rfl) ?_)
    | (refine WO.lss rfl rfl ?_)
    | (refine WO.leq rfl rfl ?_)
    | (refine WO.gtr rfl rfl ?_)
    | (refine WO.geq rfl rfl ?_)
    | (refine WO.eql rfl rfl ?_)
    | (refine WO.neq rfl rfl ?_)
    | (refine WO.seql rfl rfl ?_)
    | (refine WO.sneq rfl rfl ?_)
    | (refine WO.beql rfl rfl (tb rfl) ?_)
    | (refine WO.bneq rfl rfl (tb rfl) ?_)
    | (refine WO.not rfl ?_)
    | (refine WO.not0 rfl ?_)
    | (refine WO.cvi rfl (kd rfl) (kd rfl) (by first | exact wrOK (by simp only [loK, hiK]; omega) | rfl) ?_)
    | (refine WO.cvs rfl (st rfl) (st rfl) ?_)
    | (refine WO.ix rfl rfl (st rfl) (by first | assumption | omega) (by first | assumption | omega) ?_)
    | (refine WO.slen rfl (st rfl) ?_)
    | (refine WO.iaddr (by assumption) rfl rfl (by first | assumption | omega) (by first | assumption | omega) (fun q hq => ?_))
    | (refine WO.load (by assumption) rfl rfl ?_)
    | (refine WO.loadO rfl (by assumption) rfl rfl ?_)
    | (refine WO.faddrP (by assumption) rfl (fun q hq => ?_))
    | (refine WO.nilckP (by assumption) ?_)
    | (refine WO.nilck rfl ?_)
    | (refine WO.faddr rfl ?_)
    | (refine WO.fld rfl rfl rfl ?_)
    | (refine WO.pickT rfl ?_)
    | (refine WO.pickF rfl ?_)
    | (refine WO.sll rfl rfl (st rfl) (by first | assumption | omega) (by first | assumption | omega) ?_)
    | (refine WO.slh rfl rfl (st rfl) (by first | assumption | omega) (by first | assumption | omega) ?_)
    | (refine WO.slb rfl rfl rfl (st rfl) (by first | assumption | omega) (by first | assumption | omega) (by first | assumption | omega) ?_)
    | (refine WO.mul rfl rfl (by first | exact wrOK (by simp only [loK, hiK]; omega) | rfl) ?_)
    | (refine WO.quo rfl rfl (by first | assumption | omega) (by first | exact wrOK (by simp only [loK, hiK]; omega) | rfl) ?_)
    | (refine WO.rem rfl rfl (by first | assumption | omega) ?_)
    | (refine WO.and rfl rfl ?_)
    | (refine WO.or rfl rfl ?_)
    | (refine WO.xor rfl rfl ?_)
    | (refine WO.shl rfl rfl (by first | assumption | omega) (by simp [IntKind.bits]; rfl) ?_)
    | (refine WO.shr rfl rfl (by first | assumption | omega) (by simp [IntKind.bits]; rfl) ?_)
    | (refine WO.build (C := [_]) rfl ?_)
    | (refine WO.build (C := [_, _]) rfl ?_)
    | (refine WO.build (C := [_, _, _]) rfl ?_)
    | (refine WO.build (C := [_, _, _, _]) rfl ?_)
    | (refine WO.build (C := [_, _, _, _, _]) rfl ?_)
    | (refine WO.build (C := [_, _, _, _, _, _]) rfl ?_)
    | (refine WO.build (C := [_, _, _, _, _, _, _]) rfl ?_)
    | (refine WO.eqnil (by assumption) (fun hn1 hn2 => ?_) ?_)
    | (refine W.condT rfl ?_)
    | (refine W.condF rfl ?_)
    | (refine W.condDT rfl (by first | assumption | omega) ?_)
    | (refine W.condDF rfl (by first | assumption | omega) ?_)
    | (refine W.condD rfl (fun hc => ?_) (fun hc => ?_))
    | (refine WO.gS rfl (fun hc => ?_) (fun hc => ?_) <;> try (exfalso; omega))
    | (refine WO.pickS rfl (fun hc => ?_) (fun hc => ?_) <;> try (exfalso; omega))
    | (refine W.skip ?_)
    | (refine W.block ?_)
    | (refine W.drawA rfl ?_)
    | (refine W.sdrawA rfl ?_)
    | (refine And.intro rfl ?_)
    | (refine W.exit ?_)
    | (refine W.ret ?_)
    | (refine W.seq ?_)
    | (refine W.goto ?_)
    | (refine W.label ?_)
    | (refine SQ.nn ?_)
    | (refine SQ.x ?_)
    | (refine SQ.r ?_)
    | (refine SQ.g ?_)
    | (refine BQ.nn ?_)
    | (refine BQ.x ?_)
    | (refine BQ.r ?_)
    | (refine BQ.g ?_)
    | (refine BQ.y rfl ?_)
    | (refine LQ.x ?_)
    | (refine LQ.r ?_)
    | (refine LQ.g ?_)
    | (refine GQ.nn ?_)
    | (refine GQ.x ?_)
    | (refine GQ.r ?_))
  all_goals first
    | exact ⟨rfl, g1.trans (Grows.trans ‹_› (g3.trans (g4.trans (g5.trans (g2.trans g7)))))⟩
end Go.Proofs.YtffjdidakeinjaaDoor.AS
end
