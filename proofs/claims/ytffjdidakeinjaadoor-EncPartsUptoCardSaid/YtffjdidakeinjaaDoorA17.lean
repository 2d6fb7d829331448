/- Of our own: an abstract machine beside the model, its soundness, and walks of the program in it. -/
import Derived.Test.YtffjdidakeinjaaDoorA13
import Derived.Test.YtffjdidakeinjaaDoorA16
import Derived.Test.YtffjdidakeinjaaDoorA15
set_option linter.unusedSimpArgs false
set_option linter.unusedVariables false
section
set_option autoImplicit false
set_option linter.unusedSimpArgs false
namespace Go.Proofs.YtffjdidakeinjaaDoor.AS
open Go Go.RowKit Go.Proofs.YtffjdidakeinjaaDoor.AS.V
section
variable {P : Program} {T : Nat → CallF} {n : Nat} {F : Fr} {h : Heap} {Q : Ex → Fr → Heap → Prop} {b : ACode}
theorem W.unskip {c : ACode} (H : W P T n (.seq .skip c) F h Q) : W P T n c F h Q := .of fun ho => by
  obtain ⟨e, F', h', ⟨K, r⟩, q⟩ := H.go (by simp only [okC, Bool.true_and]; exact ho)
  refine ⟨e, F', h', ⟨K + 1, fun k j hk hj => ?_⟩, q⟩
  have := r (k + 1) j (by omega) (by omega)
  rw [evC_seq] at this
  obtain ⟨k, rfl⟩ : ∃ k', k = k' + 1 := ⟨k - 1, by omega⟩
  exact this
theorem W.lab {c : ACode} {fg : List Nat} {i : Nat} (H : W P T n (.seq .skip c) (FG fg F) h Q) : W P T n (.seq (.label fg i) c) F h Q :=
  W.seq (W.label ⟨H.unskip⟩)
/-- Labels, the code of each walked once: what comes from above goes in as what jumps. -/
theorem W.scopeK {fg : List Nat} {cur : ACode} {σ : Type} (fs : σ → List (Nat × AV)) (lb : σ → Nat) (I : σ → Heap → Prop) (μ : σ → Nat) (m0 : Nat)
    (H : ∀ s G h, I s h → ∃ r, findA b (lb s) = some r ∧ W P T n r (UL (fs s) G) h (GQ (fun i F' h' => ∃ s', μ s' < μ s ∧ i = lb s' ∧ AG (fs s') (FG fg F') ∧ I s' h') Q))
    (H0 : ∀ R : Nat → Fr → Heap → Prop, (∀ s F h Y fg' i, μ s ≤ m0 → AG (fs s) (FG fg' F) → I s h → findA b (lb s) = some (.seq .skip Y) → W P T n (.seq (.label fg' i) Y) F h (GQ R Q)) → W P T n cur F h (GQ R Q)) : W P T n (.scope fg b cur) F h Q := by
  refine W.scopeI fs lb I μ m0 (H0 _ ?_) H
  intro s F h Y fg' i hm ha hI hf
  obtain ⟨r, hf', hw⟩ := H s (FG fg' F) h hI
  rw [hf] at hf'
  cases hf'
  rw [ha.eq] at hw
  refine W.lab (hw.mono fun e F' h' q => ?_)
  replace q := q.go
  refine ⟨?_⟩
  cases e with
  | goto i => obtain ⟨s', h1, h2, h3, h4⟩ := q; exact ⟨s', by omega, h2, h3, h4⟩
  | _ => exact q
end
section
variable {P : Program} {T : Nat → CallF} {n : Nat} {F : Fr} {h : Heap} {K : Fr → Heap → Prop} {l : List AOper} {d : Option Nat} {x y : Operand} {e : TypeId} {α : Type}
theorem GQ.fin {F : Fr} {h : Heap} {R : Nat → Fr → Heap → Prop} {Q : Ex → Fr → Heap → Prop} {i : Nat} (H : FinW (R i F h)) : GQ R Q (.goto i) F h := GQ.g H.go
/-- A row of nothing, its room told. -/
theorem WO.make0 (E : Enc α) {sz bytes : Nat} {z : List Value} {j i : IntKind} {c : Int} (hx : evF F x = .s (.int j 0)) (hy : evF F y = .s (.int i c)) (hs : E.sz = sz) (h0 : 0 ≤ c) (h2 : c * bytes ≤ 140737488355328) (h3 : c ≤ 9223372036854775807)
    (k : ∀ a H, Out E e h H a [] → WO P T n l (putF d a F) H K) : WO P T n (⟨d, none, .e (.make e sz bytes z x y)⟩ :: l) F h K := by
  subst hs
  refine WO.op (fun ho => ⟨0, fun j _ => ?_⟩) (k (.sl h.length 0 0 0 E.sz) (h ++ [⟨0, e, E.sz, true, (List.replicate c.toNat (z.map AV.s)).flatten⟩]) ⟨Grows.app _ _, .inr ⟨_, 0, 0, _, rfl, bk_new, rfl, ?_, ?_, rfl, rfl, rfl⟩, ?_⟩)
  · simp only [opds, opdsE, List.all_cons, List.all_nil, Bool.and_true, Bool.and_eq_true] at ho
    simp only [opV_e, eV, evO_fr ho.1, evO_fr ho.2, hx, hy, Option.bind_some, asI]
    rw [if_pos ⟨Int.le_refl _, h0, h2, h3⟩]
    rfl
  · simp
  · simp
  · intro b hb
    simp [bo] at hb
    omega
end
end Go.Proofs.YtffjdidakeinjaaDoor.AS
end
section
set_option autoImplicit false
set_option maxRecDepth 100000
set_option maxHeartbeats 4000000
set_option linter.unusedSimpArgs false
set_option linter.unusedVariables false
namespace Go.Proofs.YtffjdidakeinjaaDoor.AS
open Go Go.Proofs Go.RowKit Go.Proofs.YtffjdidakeinjaaDoor.AS.V

theorem WO.sfx {P : Program} {T : Nat → CallF} {n : Nat} {F : Fr} {h : Heap} {K : Fr → Heap → Prop} {l : List AOper} {d : Option Nat} {x y : Operand} {t ty : TypeId} {s : ByteArray} {k : Nat} {j : IntKind} {a : Int} (m : Nat) (hx : evF F x = .s (.string (sfx s k))) (hy : evF F y = .s (.int j a)) (ht : P.underlying t = some .string) (h0 : 0 ≤ a) (h1 : a ≤ (sfx s k).size) (hm : k + a = m) (kk : WO P T n l (putF d (.s (.string (sfx s m))) F) h K) : WO P T n (⟨d, none, .p (.sc (.slice t x (some y) none none) ty)⟩ :: l) F h K :=
  WO.sll hx hy ht h0 h1 (by rw [sfx_sfx, show k + a.toNat = m by omega]; exact kk)
theorem drop_end {α : Type} (L : List α) (k : Nat) (n : Int) (h : 0 ≤ n) (m : Nat) (hm : (k : Int) + (1 + n) = m) : (L.drop (k + 1)).drop n.toNat = L.drop m := by
  rw [List.drop_drop]
  congr 1
  omega
theorem trm_pos {s : ByteArray} {k : Nat} (h : Trm s k) : k = 0 → 0 < s.size → ¬ (bt s 0 = 32 ∨ bt s 0 = 9) := by
  rintro rfl h1
  exact of_decide_eq_false (h.2.2 h1)
theorem fquot16_FR (h : Heap) (s : ByteArray) (hs : s.size ≤ 140737488355328) : FR Tryd.prog TT 16 [.s (.string s)] h fun x H => x = .tp [.s (.string (strOfNums (fqS s).1)), .s (.int .i64 (fqS s).2)] ∧ Grows h H := by
  refine FR.of q16 (by kernel_rfl) ?_
  unfold c16
  repeat' (first
    | (refine WO.mvE out rfl ?_)
    | (refine WO.mvE a0 rfl ?_)
    | (refine WO.mvE a2 rfl ?_)
    | (refine WO.sfx (k + 1) rfl rfl (st rfl) (by omega) (by omega) (by omega) ?_)
    | (refine WO.sfx (k + 3) rfl rfl (st rfl) (by omega) (by omega) (by omega) ?_)
    | (refine WO.sfx (k + (1 + en).toNat) rfl rfl (st rfl) (by omega) (by omega) (by omega) ?_)
    | (refine LQ.fin ?_)
    | (refine EQ.fin rfl ?_)
    | (refine GQ.fin ?_)
    | (refine WO.mvs rfl ?_)
    | (refine WO.mvp rfl ?_)
    | (refine WO.mvt rfl ?_)
    | (refine WO.mv ?_)
    | (refine W.sreg ?_)
    | (refine W.sdraw ?_)
    | (refine W.reg ?_)
    | (refine W.draw ?_)
    | (refine WO.nil ?_)
    | (refine WO.gU rfl ?_)
    | (refine WO.gT rfl rfl ?_)
    | (refine WO.gF rfl rfl ?_)
    | (refine WO.ext rfl rfl ?_)
    | (refine WO.lenR (by assumption) ?_)
    | (refine WO.add rfl rfl (by first | exact wrOK (by simp only [loK, hiK]; omega) | rfl) ?_)
    | (refine WO.sub rfl rfl (by first | exact wrOK (by simp only [loK, hiK]; omega) | rfl) ?_)
    | (refine WO.lss rfl rfl ?_)
    | (refine WO.leq rfl rfl ?_)
    | (refine WO.gtr rfl rfl ?_)
    | (refine WO.geq rfl rfl ?_)
    | (refine WO.eql rfl rfl ?_)
    | (refine WO.neq rfl rfl ?_)
    | (refine WO.seql rfl rfl ?_)
    | (refine WO.sneq rfl rfl ?_)
    | (refine WO.beql rfl rfl (tb rfl) ?_)
    | (refine WO.bneq rfl rfl (tb rfl) ?_)
    | (refine WO.not rfl ?_)
    | (refine WO.not0 rfl ?_)
    | (refine WO.cvi rfl (kd rfl) (kd rfl) (by first | exact wrOK (by simp only [loK, hiK]; omega) | rfl) ?_)
    | (refine WO.cvs rfl (st rfl) (st rfl) ?_)
    | (refine WO.ix rfl rfl (st rfl) (by first | assumption | omega) (by first | assumption | omega) ?_)
    | (refine WO.slen rfl (st rfl) ?_)
    | (refine WO.iaddr (by assumption) rfl rfl (by first | assumption | omega) (by first | assumption | omega) (fun q hq => ?_))
    | (refine WO.load (by assumption) rfl rfl ?_)
    | (refine WO.loadO rfl (by assumption) rfl rfl ?_)
    | (refine WO.faddrP (by assumption) rfl (fun q hq => ?_))
    | (refine WO.nilckP (by assumption) ?_)
    | (refine WO.nilck rfl ?_)
    | (refine WO.faddr rfl ?_)
    | (refine WO.fld rfl rfl rfl ?_)
    | (refine WO.pickT rfl ?_)
    | (refine WO.pickF rfl ?_)
    | (refine WO.sll rfl rfl (st rfl) (by first | assumption | omega) (by first | assumption | omega) ?_)
    | (refine WO.slh rfl rfl (st rfl) (by first | assumption | omega) (by first | assumption | omega) ?_)
    | (refine WO.slb rfl rfl rfl (st rfl) (by first | assumption | omega) (by first | assumption | omega) (by first | assumption | omega) ?_)
    | (refine WO.mul rfl rfl (by first | exact wrOK (by simp only [loK, hiK]; omega) | rfl) ?_)
    | (refine WO.quo rfl rfl (by first | assumption | omega) (by first | exact wrOK (by simp only [loK, hiK]; omega) | rfl) ?_)
    | (refine WO.rem rfl rfl (by first | assumption | omega) ?_)
    | (refine WO.and rfl rfl ?_)
    | (refine WO.or rfl rfl ?_)
    | (refine WO.xor rfl rfl ?_)
    | (refine WO.shl rfl rfl (by first | assumption | omega) (by simp [IntKind.bits]; rfl) ?_)
    | (refine WO.shr rfl rfl (by first | assumption | omega) (by simp [IntKind.bits]; rfl) ?_)
    | (refine WO.build (C := [_]) rfl ?_)
    | (refine WO.build (C := [_, _]) rfl ?_)
    | (refine WO.build (C := [_, _, _]) rfl ?_)
    | (refine WO.build (C := [_, _, _, _]) rfl ?_)
    | (refine WO.build (C := [_, _, _, _, _]) rfl ?_)
    | (refine WO.build (C := [_, _, _, _, _, _]) rfl ?_)
    | (refine WO.build (C := [_, _, _, _, _, _, _]) rfl ?_)
    | (refine WO.eqnil (by assumption) (fun hn1 hn2 => ?_) ?_)
    | (refine W.condT rfl ?_)
    | (refine W.condF rfl ?_)
    | (refine W.condDT rfl (by first | assumption | omega) ?_)
    | (refine W.condDF rfl (by first | assumption | omega) ?_)
    | (refine W.condD rfl (fun hc => ?_) (fun hc => ?_))
    | (refine WO.gS rfl (fun hc => ?_) (fun hc => ?_) <;> try (exfalso; omega))
    | (refine WO.pickS rfl (fun hc => ?_) (fun hc => ?_) <;> try (exfalso; omega))
    | (refine W.skip ?_)
    | (refine W.block ?_)
    | (refine W.drawA rfl ?_)
    | (refine W.sdrawA rfl ?_)
    | (refine And.intro rfl ?_)
    | (refine W.exit ?_)
    | (refine W.ret ?_)
    | (refine hk (0, 0, a0, []) _ _ _ _ _ (by dsimp only; omega) ⟨congrArg (fun x => AV.s (.string x)) (sfx_0 s).symm, rfl, rfl, trivial⟩ ⟨out0, Nat.zero_le _, Nat.zero_le _, ⟨Int.le_refl _, Int.le_refl _⟩, FqI.ini s⟩ rfl)
    | (refine W.seq ?_)
    | (refine W.goto ?_)
    | (refine W.label ?_)
    | (refine SQ.nn ?_)
    | (refine SQ.x ?_)
    | (refine SQ.r ?_)
    | (refine SQ.g ?_)
    | (refine BQ.nn ?_)
    | (refine BQ.x ?_)
    | (refine BQ.r ?_)
    | (refine BQ.g ?_)
    | (refine BQ.y rfl ?_)
    | (refine LQ.x ?_)
    | (refine LQ.r ?_)
    | (refine LQ.g ?_)
    | (refine GQ.nn ?_)
    | (refine GQ.x ?_)
    | (refine GQ.r ?_)
    | (refine WO.call rfl (hcode _) ?_; rintro _ H ⟨cv, rfl, hcv, hH⟩; obtain rfl := hH.symm; generalize hcbe : codS (sfx s (k + 1)) = cb at hcv hcz hx; rw [hcbe] at hcode; cases cb <;> (try have hcz := hcz rfl))
    | (refine WO.call rfl (hend _) ?_; rintro _ H ⟨rfl, hH⟩; obtain rfl := hH.symm; cases eb)
    | (refine WO.call rfl (trim32_FR _ (sfx s k) (by omega)) ?_; rintro _ H ⟨m, hxx, htr, hg⟩; have htd := trm_drop htr; have htm := htr.1; have htp := trm_pos htr; have ho2 := ho.grows hg; rw [show sfx (sfx s k) m = sfx s (k + m) from sfx_sfx s k m] at hxx htd; subst hxx; have hsz2 := sfx_size s (k + m); have hend2 := fun hp => end31_FR hp (sfx s (k + m)) (by omega); have heL2 := endP_L (sfx s (k + m)); generalize endP (sfx s (k + m)) = ep2 at hend2 heL2; obtain ⟨en2, eb2⟩ := ep2)
    | (refine WO.call rfl (hend2 _) ?_; rintro _ H ⟨rfl, hH⟩; obtain rfl := hH.symm; cases eb2)
    | (refine WO.b2s ho.row ?_)
    | (refine WO.bslI rfl rfl (fun a1 H3 g3 o3 nw3 => ?_))
    | (refine WO.appO (ho.grows g3) o3.row rfl (encI_ok _ _) (by simp only [List.length_cons, List.length_nil]; omega) (by simp only [List.length_cons, List.length_nil]; omega) (fun a2 H4 out4 ap => ?_))
    | (refine WO.appO ((ho.grows hg).grows g3) o3.row rfl (encI_ok _ _) (by simp only [List.length_cons, List.length_nil]; omega) (by simp only [List.length_cons, List.length_nil]; omega) (fun a2 H4 out4 ap => ?_))
    | (refine WO.make0 (encI .u8) rfl rfl rfl (by omega) (by omega) (by omega) (fun a0 H1 out0 => ?_))
    | (refine W.scopeK (σ := Nat × Int × AV × List Int) (fun σ => [(0, .s (.string (sfx s σ.1))), (4, σ.2.2.1), (5, .s (.int .i64 σ.2.1))]) (fun _ => 0) (fun σ h' => Out (encI .u8) 5 h h' σ.2.2.1 σ.2.2.2 ∧ σ.1 ≤ s.size ∧ σ.2.2.2.length ≤ σ.1 ∧ (0 ≤ σ.2.1 ∧ σ.2.1 ≤ σ.1) ∧ FqI (fqS s) σ.2.2.2 σ.2.1 ((bytesOf s).drop σ.1)) (fun σ => s.size - σ.1) s.size (fun σ G h' hI => ?_) (fun R hk => ?_); obtain ⟨k, bad, out, O⟩ := σ; obtain ⟨ho, hi, hO, hbad, hF⟩ := hI; dsimp only at ho hi hO hbad hF ⊢; refine ⟨_, rfl, ?_⟩; have hsz := sfx_size s k; have hr := bt_range (sfx s k) 0; have hcode := fun hp => code_FR hp (sfx s (k + 1)) (by rw [sfx_size]; omega); have hend := fun hp => end31_FR hp (sfx s (k + 1)) (by rw [sfx_size]; omega); have hel := endP_le (sfx s (k + 1)); have heL := endP_L (sfx s (k + 1)); have hx := codS_hex (sfx s (k + 1)); have hcz : codS (sfx s (k + 1)) = true → k + 3 ≤ s.size := (fun e => by have := (of_decide_eq_true e).1; rw [sfx_size] at this; omega); rw [sfx_bytes] at heL hx; rw [sfx_size] at hel; generalize hR : fqS s = R at *; generalize endP (sfx s (k + 1)) = ep at hend hel heL; obtain ⟨en, eb⟩ := ep; by_cases hz : k < s.size; have hne : ¬ sfx s k = ⟨#[]⟩ := (fun e => by rw [e, size_nil] at hsz; omega); have hdr : (bytesOf s).drop k = bt (sfx s k) 0 :: (bytesOf s).drop (k + 1) := (by rw [bytesOf_drop_cons s k (by omega)]; have := sfx_bt s k 0; simp only [Nat.add_zero] at this; rw [show ((0 : Nat) : Int) = 0 from rfl] at this; rw [this])))
  all_goals first
    | (rw [List.drop_eq_nil_of_le (by rw [bytesOf_length]; omega)] at hF
       have e := hF.nil
       exact ⟨by rw [e]; rfl, ho.g⟩)
    | (exfalso; exact hc (ByteArray.ext (Array.size_eq_zero_iff.1 (by show (sfx s k).size = 0; omega))))
    | (rw [hdr] at hF
       have e := hF.code hc hx.symm (v := cv) (by rw [hcv rfl, ← val2_eq hcbe, sfx_bytes])
       rw [List.drop_drop] at e
       exact ⟨(k + 3, bad, a2, O ++ [cv]), by dsimp only; omega, rfl, ⟨rfl, rfl, rfl, trivial⟩, out4, by dsimp only; omega, by dsimp only; rw [List.length_append, List.length_singleton]; omega, ⟨by dsimp only; omega, by dsimp only; omega⟩, e⟩)
    | (rw [hdr] at hF
       have e := hF.en hc hx.symm (heL.1.1 rfl)
       rw [← heL.2 rfl, drop_end _ k en (by omega) (k + (1 + en).toNat) (by omega)] at e
       exact ⟨(k + (1 + en).toNat, bad, out, O), by dsimp only; omega, rfl, ⟨rfl, rfl, rfl, trivial⟩, ho, by dsimp only; omega, by dsimp only; omega, ⟨by dsimp only; omega, by dsimp only; omega⟩, e⟩)
    | (rw [hdr] at hF
       have e := hF.wrong hc hx.symm (fun e => by have := heL.1.2 e; cases this)
       exact ⟨(k + 1, bad + 1, a2, _), by dsimp only; omega, rfl, ⟨rfl, rfl, rfl, trivial⟩, out4, by dsimp only; omega, by dsimp only; rw [List.length_append, List.length_singleton]; omega, ⟨by dsimp only; omega, by dsimp only; omega⟩, e⟩)
    | (have hb : bt (sfx s k) 0 = 32 ∨ bt (sfx s k) 0 = 9 := by omega
       rw [sfx_bytes s k, hdr, dropB_cons hb] at htd
       have hmp : m ≠ 0 := fun e => htp e (by omega) hb
       rw [hdr] at hF
       have e := hF.bl hb (by rw [← htd]; exact heL2.1.1 rfl)
       rw [← htd, sfx_bytes] at e
       exact ⟨(k + m, bad, out, O), by dsimp only; omega, rfl, ⟨rfl, rfl, rfl, trivial⟩, ho2, by dsimp only; omega, by dsimp only; omega, ⟨by dsimp only; omega, by dsimp only; omega⟩, e⟩)
    | (have hb : bt (sfx s k) 0 = 32 ∨ bt (sfx s k) 0 = 9 := by omega
       rw [sfx_bytes s k, hdr, dropB_cons hb] at htd
       rw [hdr] at hF
       have e := hF.one (by omega) (fun e => by have := heL2.1.2 (by rw [htd]; exact e.2); cases this)
       exact ⟨(k + 1, bad, a2, _), by dsimp only; omega, rfl, ⟨rfl, rfl, rfl, trivial⟩, out4, by dsimp only; omega, by dsimp only; rw [List.length_append, List.length_singleton]; omega, ⟨by dsimp only; omega, by dsimp only; omega⟩, e⟩)
    | (rw [hdr] at hF
       have e := hF.one (by omega) (fun e => by have := e.1; omega)
       exact ⟨(k + 1, bad, a2, _), by dsimp only; omega, rfl, ⟨rfl, rfl, rfl, trivial⟩, out4, by dsimp only; omega, by dsimp only; rw [List.length_append, List.length_singleton]; omega, ⟨by dsimp only; omega, by dsimp only; omega⟩, e⟩)
end Go.Proofs.YtffjdidakeinjaaDoor.AS
end
section
set_option autoImplicit false
set_option maxRecDepth 100000
set_option maxHeartbeats 4000000
set_option linter.unusedSimpArgs false
set_option linter.unusedVariables false
namespace Go.Proofs.YtffjdidakeinjaaDoor.AS
open Go Go.Proofs Go.RowKit Go.Proofs.YtffjdidakeinjaaDoor.AS.V

theorem hex2_at (s : ByteArray) (i : Nat) : hex2 ((bytesOf s).drop (i + 1)) = decide (i + 2 < s.size ∧ 0 ≤ digS (bt s ((i : Int) + 1)) ∧ 0 ≤ digS (bt s ((i : Int) + 2))) := by
  by_cases h : i + 2 < s.size
  · rw [bytesOf_drop_cons s (i + 1) (by omega), bytesOf_drop_cons s (i + 2) h, hex2]
    simp [h]
  · by_cases h1 : i + 1 < s.size
    · rw [bytesOf_drop_cons s (i + 1) h1, List.drop_eq_nil_of_le (by rw [bytesOf_length]; omega)]
      exact (decide_eq_false (fun e => h e.1)).symm
    · rw [List.drop_eq_nil_of_le (by rw [bytesOf_length]; omega)]
      exact (decide_eq_false (fun e => h e.1)).symm
theorem val2_at (s : ByteArray) (i : Nat) (h : i + 2 < s.size) : val2 ((bytesOf s).drop (i + 1)) = 16 * digS (bt s ((i : Int) + 1)) + digS (bt s ((i : Int) + 2)) := by
  rw [bytesOf_drop_cons s (i + 1) (by omega), bytesOf_drop_cons s (i + 2) h, val2]
  rfl
theorem endA_le (s : ByteArray) (i : Int) (h : i ≤ s.size) : endA s i = -1 ∨ (0 ≤ endA s i ∧ i + endA s i ≤ s.size) := by
  unfold endA
  by_cases h1 : (s.size : Int) ≤ i
  · rw [if_pos h1]; omega
  · rw [if_neg h1]
    by_cases h2 : bt s i = 10
    · rw [if_pos h2]; omega
    · rw [if_neg h2]
      split <;> omega
theorem rfquot17_FR (h : Heap) (s : ByteArray) (hs : s.size ≤ 35184372088831) : FR Tryd.prog TT 17 [.s (.string s)] h fun x H => x = .tp [.s (.string (strOfNums (fqS s).1)), .s (.int .i64 (fqS s).2)] ∧ Grows h H := by
  refine FR.of q17 (by kernel_rfl) ?_
  unfold c17
  repeat' (first
    | (refine WO.mvE out rfl ?_)
    | (refine WO.mvE a2 rfl ?_)
    | (refine LQ.fin ?_)
    | (refine EQ.fin rfl ?_)
    | (refine GQ.fin ?_)
    | (refine WO.mvs rfl ?_)
    | (refine WO.mvp rfl ?_)
    | (refine WO.mvt rfl ?_)
    | (refine WO.mv ?_)
    | (refine W.sreg ?_)
    | (refine W.sdraw ?_)
    | (refine W.reg ?_)
    | (refine W.draw ?_)
    | (refine WO.nil ?_)
    | (refine WO.gU rfl ?_)
    | (refine WO.gT rfl rfl ?_)
    | (refine WO.gF rfl rfl ?_)
    | (refine WO.ext rfl rfl ?_)
    | (refine WO.lenR (by assumption) ?_)
    | (refine WO.add rfl rfl (by first | exact wrOK (by simp only [loK, hiK]; omega) | rfl) ?_)
    | (refine WO.sub rfl rfl (by first | exact wrOK (by simp only [loK, hiK]; omega) | rfl) ?_)
    | (refine WO.lss rfl rfl ?_)
    | (refine WO.leq rfl rfl ?_)
    | (refine WO.gtr rfl rfl ?_)
    | (refine WO.geq rfl rfl ?_)
    | (refine WO.eql rfl rfl ?_)
    | (refine WO.neq rfl rfl ?_)
    | (refine WO.seql rfl rfl ?_)
    | (refine WO.sneq rfl rfl ?_)
    | (refine WO.beql rfl rfl (tb rfl) ?_)
    | (refine WO.bneq rfl rfl (tb rfl) ?_)
    | (refine WO.not rfl ?_)
    | (refine WO.not0 rfl ?_)
    | (refine WO.cvi rfl (kd rfl) (kd rfl) (by first | exact wrOK (by simp only [loK, hiK]; omega) | rfl) ?_)
    | (refine WO.cvs rfl (st rfl) (st rfl) ?_)
    | (refine WO.ix rfl rfl (st rfl) (by first | assumption | omega) (by first | assumption | omega) ?_)
    | (refine WO.slen rfl (st rfl) ?_)
    | (refine WO.iaddr (by assumption) rfl rfl (by first | assumption | omega) (by first | assumption | omega) (fun q hq => ?_))
    | (refine WO.load (by assumption) rfl rfl ?_)
    | (refine WO.loadO rfl (by assumption) rfl rfl ?_)
    | (refine WO.faddrP (by assumption) rfl (fun q hq => ?_))
    | (refine WO.nilckP (by assumption) ?_)
    | (refine WO.nilck rfl ?_)
    | (refine WO.faddr rfl ?_)
    | (refine WO.fld rfl rfl rfl ?_)
    | (refine WO.pickT rfl ?_)
    | (refine WO.pickF rfl ?_)
    | (refine WO.sll rfl rfl (st rfl) (by first | assumption | omega) (by first | assumption | omega) ?_)
    | (refine WO.slh rfl rfl (st rfl) (by first | assumption | omega) (by first | assumption | omega) ?_)
    | (refine WO.slb rfl rfl rfl (st rfl) (by first | assumption | omega) (by first | assumption | omega) (by first | assumption | omega) ?_)
    | (refine WO.mul rfl rfl (by first | exact wrOK (by simp only [loK, hiK]; omega) | rfl) ?_)
    | (refine WO.quo rfl rfl (by first | assumption | omega) (by first | exact wrOK (by simp only [loK, hiK]; omega) | rfl) ?_)
    | (refine WO.rem rfl rfl (by first | assumption | omega) ?_)
    | (refine WO.and rfl rfl ?_)
    | (refine WO.or rfl rfl ?_)
    | (refine WO.xor rfl rfl ?_)
    | (refine WO.shl rfl rfl (by first | assumption | omega) (by simp [IntKind.bits]; rfl) ?_)
    | (refine WO.shr rfl rfl (by first | assumption | omega) (by simp [IntKind.bits]; rfl) ?_)
    | (refine WO.build (C := [_]) rfl ?_)
    | (refine WO.build (C := [_, _]) rfl ?_)
    | (refine WO.build (C := [_, _, _]) rfl ?_)
    | (refine WO.build (C := [_, _, _, _]) rfl ?_)
    | (refine WO.build (C := [_, _, _, _, _]) rfl ?_)
    | (refine WO.build (C := [_, _, _, _, _, _]) rfl ?_)
    | (refine WO.build (C := [_, _, _, _, _, _, _]) rfl ?_)
    | (refine WO.eqnil (by assumption) (fun hn1 hn2 => ?_) ?_)
    | (refine W.condT rfl ?_)
    | (refine W.condF rfl ?_)
    | (refine W.condDT rfl (by first | assumption | omega) ?_)
    | (refine W.condDF rfl (by first | assumption | omega) ?_)
    | (refine W.condD rfl (fun hc => ?_) (fun hc => ?_))
    | (refine WO.gS rfl (fun hc => ?_) (fun hc => ?_) <;> try (exfalso; omega))
    | (refine WO.pickS rfl (fun hc => ?_) (fun hc => ?_) <;> try (exfalso; omega))
    | (refine W.skip ?_)
    | (refine W.block ?_)
    | (refine W.drawA rfl ?_)
    | (refine W.sdrawA rfl ?_)
    | (refine And.intro rfl ?_)
    | (refine W.exit ?_)
    | (refine W.ret ?_)
    | (refine W.seq ?_)
    | (refine W.goto ?_)
    | (refine W.label ?_)
    | (refine SQ.nn ?_)
    | (refine SQ.x ?_)
    | (refine SQ.r ?_)
    | (refine SQ.g ?_)
    | (refine BQ.nn ?_)
    | (refine BQ.x ?_)
    | (refine BQ.r ?_)
    | (refine BQ.g ?_)
    | (refine BQ.y rfl ?_)
    | (refine LQ.x ?_)
    | (refine LQ.r ?_)
    | (refine LQ.g ?_)
    | (refine GQ.nn ?_)
    | (refine GQ.x ?_)
    | (refine GQ.r ?_)
    | (refine WO.call rfl (hd1 _) ?_; rintro _ H ⟨rfl, hH⟩; obtain rfl := hH.symm)
    | (refine WO.call rfl (hd2 _) ?_; rintro _ H ⟨rfl, hH⟩; obtain rfl := hH.symm)
    | (refine WO.call rfl (hend _ (by omega)) ?_; rintro _ H ⟨rfl, hH⟩; obtain rfl := hH.symm; try have hel := hel (by omega))
    | (refine WO.call rfl (blk35_FR _ s (i : Int) (by omega) (by omega) (by omega)) ?_; rintro _ H ⟨m, rfl, hb, hH⟩; obtain rfl := hH.symm; have hbd := blnk_drop (by omega) hb; have hm1 := hb.1; have hm2 := hb.2.1; have hm3 := hb.2.2.2; have heL2 := fun _ : Unit => endA_L s (i := m) (by omega); have hbd := fun _ : Unit => hbd; have hend2 := fun hp => end34_FR hp s m (by omega) (by omega) (by omega); generalize endA s m = e2 at *)
    | (refine WO.call rfl (hend2 _) ?_; rintro _ H ⟨rfl, hH⟩; obtain rfl := hH.symm)
    | (refine WO.b2s ho.row ?_)
    | (refine WO.bslI rfl rfl (fun a1 H3 g3 o3 nw3 => ?_))
    | (refine WO.appO (ho.grows g3) o3.row rfl (encI_ok _ _) (by simp only [List.length_cons, List.length_nil]; omega) (by simp only [List.length_cons, List.length_nil]; omega) (fun a2 H4 out4 ap => ?_))
    | (refine W.loopI (σ := Nat × Int × AV × List Int) (fun σ => [(0, .s (.string s)), (4, σ.2.2.1), (5, .s (.int .i64 σ.2.1)), (6, .s (.int .i64 σ.1))]) (fun σ h' => Out (encI .u8) 5 h h' σ.2.2.1 σ.2.2.2 ∧ σ.1 ≤ s.size ∧ σ.2.2.2.length ≤ σ.1 ∧ (0 ≤ σ.2.1 ∧ σ.2.1 ≤ σ.1) ∧ FqI (fqS s) σ.2.2.2 σ.2.1 ((bytesOf s).drop σ.1)) (fun σ => s.size - σ.1) (0, 0, .s (.slice none 0 0), []) ⟨rfl, rfl, rfl, rfl, trivial⟩ ⟨Out.nil (Grows.refl _), Nat.zero_le _, Nat.zero_le _, ⟨Int.le_refl _, Int.le_refl _⟩, FqI.ini s⟩ ?_; rintro ⟨i, bad, out, O⟩ G h' ⟨ho, hi, hO, hbad, hF⟩; dsimp only at ho hi hO hbad hF ⊢; have hr := bt_range s (i : Int); have hr1 := bt_range s ((i : Int) + 1); have hr2 := bt_range s ((i : Int) + 2); have hd1 := fun hp => dig33_FR hp (bt s ((i : Int) + 1)) hr1.1 hr1.2; have hd2 := fun hp => dig33_FR hp (bt s ((i : Int) + 2)) hr2.1 hr2.2; have hg1 := digS_range (bt s ((i : Int) + 1)); have hg2 := digS_range (bt s ((i : Int) + 2)); have hx := fun _ : Unit => hex2_at s i; have hv := fun _ : Unit => val2_at s i; have heL := fun _ : Unit => fun e => endA_L s (i := (i : Int) + 1) e; rw [show ((i : Int) + 1).toNat = i + 1 by omega] at heL; have hdr := bytesOf_drop_cons s i; generalize digS (bt s ((i : Int) + 1)) = d1 at *; generalize digS (bt s ((i : Int) + 2)) = d2 at *; have hel := endA_le s ((i : Int) + 1); have hend := fun hp a => end34_FR hp s ((i : Int) + 1) (by omega) (by omega) a; generalize endA s ((i : Int) + 1) = e1 at *; generalize fqS s = R at *))
  all_goals first
    | (rw [List.drop_eq_nil_of_le (by rw [bytesOf_length]; omega)] at hF
       have e := hF.nil
       exact ⟨by rw [e]; rfl, ho.g⟩)
    | (rw [hdr (by omega)] at hF
       have e := hF.code (by assumption) (by rw [hx ()]; exact decide_eq_true ⟨by omega, by omega, by omega⟩) (v := 16 * d1 + d2) (hv () (by omega)).symm
       rw [List.drop_drop] at e
       exact ⟨(i + 3, bad, a2, _), by dsimp only; omega, ⟨rfl, rfl, rfl, rfl, trivial⟩, out4, by dsimp only; omega, by dsimp only; rw [List.length_append, List.length_singleton]; omega, ⟨by dsimp only; omega, by dsimp only; omega⟩, e⟩)
    | (rw [hdr (by omega)] at hF
       have heq := heL () (by omega)
       have e := hF.en (by assumption) (by rw [hx ()]; exact decide_eq_false (by omega)) (by omega)
       rw [← heq, List.drop_drop] at e
       exact ⟨(i + 1 + e1.toNat, bad, out, O), by dsimp only; omega, ⟨rfl, rfl, rfl, congrArg (fun x => AV.s (.int .i64 x)) (by omega), trivial⟩, ho, by dsimp only; omega, by dsimp only; omega, ⟨by dsimp only; omega, by dsimp only; omega⟩, e⟩)
    | (rw [hdr (by omega)] at hF
       have heq := heL () (by omega)
       have e := hF.wrong (by assumption) (by rw [hx ()]; exact decide_eq_false (by omega)) (by omega)
       exact ⟨(i + 1, bad + 1, a2, _), by dsimp only; omega, ⟨rfl, rfl, rfl, rfl, trivial⟩, out4, by dsimp only; omega, by dsimp only; rw [List.length_append, List.length_singleton]; omega, ⟨by dsimp only; omega, by dsimp only; omega⟩, e⟩)
    | (have hb' : bt s (i : Int) = 32 ∨ bt s (i : Int) = 9 := by omega
       have hne : m ≠ i := fun e => by subst e; exact hm3 (by omega) hb'
       have hbd := hbd (); rw [show ((i : Int)).toNat = i by omega, hdr (by omega), dropB_cons hb'] at hbd; have heL2 := heL2 ()
       rw [hdr (by omega)] at hF
       have e := hF.bl hb' (by rw [← hbd]; omega)
       rw [← hbd] at e
       exact ⟨(m.toNat, bad, out, O), by dsimp only; omega, ⟨rfl, rfl, rfl, congrArg (fun x => AV.s (.int .i64 x)) (by omega), trivial⟩, ho, by dsimp only; omega, by dsimp only; omega, ⟨by dsimp only; omega, by dsimp only; omega⟩, e⟩)
    | (have hb' : bt s (i : Int) = 32 ∨ bt s (i : Int) = 9 := by omega
       have hbd := hbd (); rw [show ((i : Int)).toNat = i by omega, hdr (by omega), dropB_cons hb'] at hbd; have heL2 := heL2 ()
       rw [hdr (by omega)] at hF
       have e := hF.one (by omega) (fun e => by have e := e.2; rw [← hbd] at e; omega)
       exact ⟨(i + 1, bad, a2, _), by dsimp only; omega, ⟨rfl, rfl, rfl, rfl, trivial⟩, out4, by dsimp only; omega, by dsimp only; rw [List.length_append, List.length_singleton]; omega, ⟨by dsimp only; omega, by dsimp only; omega⟩, e⟩)
    | (rw [hdr (by omega)] at hF
       have e := hF.one (by omega) (fun e => by have := e.1; omega)
       exact ⟨(i + 1, bad, a2, _), by dsimp only; omega, ⟨rfl, rfl, rfl, rfl, trivial⟩, out4, by dsimp only; omega, by dsimp only; rw [List.length_append, List.length_singleton]; omega, ⟨by dsimp only; omega, by dsimp only; omega⟩, e⟩)
end Go.Proofs.YtffjdidakeinjaaDoor.AS
end
section
set_option autoImplicit false
set_option maxHeartbeats 1000000
set_option linter.unusedSimpArgs false
set_option linter.unusedVariables false
namespace Go.Proofs.YtffjdidakeinjaaDoor.AS
open Go Go.Proofs Go.RowKit Go.Proofs.YtffjdidakeinjaaDoor.AS.V
theorem HX_print : ∀ i : Fin 16, 48 ≤ bt HX (i.val : Int) ∧ bt HX (i.val : Int) ≤ 70 := by decide +kernel
theorem HX_print' {x : Int} (h0 : 0 ≤ x) (h1 : x < 16) : 48 ≤ bt HX x ∧ bt HX x ≤ 70 := by
  have := HX_print ⟨x.toNat, by omega⟩
  rwa [show ((x.toNat : Nat) : Int) = x by omega] at this
theorem qc_print {c : Int} (h : 0 ≤ c ∧ c ≤ 255) (l : Bool) : ∀ x ∈ qc c l, (32 ≤ x ∧ x ≤ 126) ∨ x = 10 := by
  intro x hx
  have h1 := HX_print' (x := c / 16) (by omega) (by omega)
  have h2 := HX_print' (x := c % 16) (by omega) (by omega)
  unfold qc at hx
  split at hx
  · simp only [List.mem_singleton] at hx
    subst hx
    omega
  · simp only [List.mem_cons, List.not_mem_nil, or_false] at hx
    omega
/-- What is written quoted-printable is printable. -/
theorem qpL_print : ∀ L : List Int, (∀ c ∈ L, 0 ≤ c ∧ c ≤ 255) → ∀ x ∈ qpL L, (32 ≤ x ∧ x ≤ 126) ∨ x = 10
  | [], _, x, hx => by rw [qpL] at hx; cases hx
  | c :: r, h, x, hx => by
    rw [qpL] at hx
    rcases List.mem_append.1 hx with hx | hx
    · exact qc_print (h c (by simp)) _ x hx
    · exact qpL_print r (fun d hd => h d (by simp [hd])) x hx
theorem qc_len1 (c : Int) (l : Bool) : 1 ≤ (qc c l).length := by unfold qc; split <;> simp
theorem qpL_len : ∀ L : List Int, L.length ≤ (qpL L).length ∧ (qpL L).length ≤ 3 * L.length
  | [] => by rw [qpL]; simp
  | c :: r => by
    have ih := qpL_len r
    have h1 := qc_len1 c (lastL r)
    have h2 := qc_len c (lastL r)
    rw [qpL, List.length_append, List.length_cons]; omega
end Go.Proofs.YtffjdidakeinjaaDoor.AS
end
section
set_option autoImplicit false
set_option maxHeartbeats 1000000
set_option linter.unusedSimpArgs false
set_option linter.unusedVariables false
namespace Go.Proofs.YtffjdidakeinjaaDoor.AS
open Go Go.Proofs Go.RowKit Go.Proofs.YtffjdidakeinjaaDoor.AS.V
theorem HX_dig : ∀ i : Fin 16, digS (bt HX (i.val : Int)) = (i.val : Int) := by decide +kernel
theorem HX_dig' {x : Int} (h0 : 0 ≤ x) (h1 : x < 16) : digS (bt HX x) = x := by
  have := HX_dig ⟨x.toNat, by omega⟩
  rwa [show ((x.toNat : Nat) : Int) = x by omega] at this
theorem dropB_no {c : Int} {r : List Int} (h : ¬ (c = 32 ∨ c = 9)) : dropB (c :: r) = c :: r := by
  unfold dropB
  rw [List.dropWhile_cons, if_neg (by rw [decide_eq_false h]; decide)]
theorem dropB_32 {r : List Int} : dropB (32 :: r) = dropB r := by
  unfold dropB
  rw [List.dropWhile_cons, if_pos (by decide)]
theorem endL_no {c : Int} {r : List Int} (h1 : c ≠ 10) (h2 : c ≠ 13) : endL (c :: r) = -1 := by
  rw [endL, if_neg h1, if_neg (fun e => h2 e.1)]
/-- Behind a blank that does not end its line no line ends. -/
theorem qp_no : ∀ r : List Int, (∀ c ∈ r, 0 ≤ c ∧ c ≤ 255) → lastL r = false → endL (dropB (qpL r)) = -1
  | [], _, h => by cases h
  | d :: r, hr, h => by
    have hd : d ≠ 10 := of_decide_eq_false h
    rw [qpL]
    by_cases hp : (33 ≤ d ∧ d ≤ 126 ∧ d ≠ 61) ∨ (d = 32 ∧ lastL r = false) ∨ d = 10
    · rw [qc, if_pos hp]
      rcases hp with hp | hp | hp
      · rw [List.cons_append, dropB_no (by omega), endL_no hd (by omega)]
      · obtain ⟨rfl, hl⟩ := hp
        rw [List.cons_append, dropB_32]
        exact qp_no r (fun c hc => hr c (by simp [hc])) hl
      · exact absurd hp hd
    · rw [qc, if_neg hp, List.cons_append, dropB_no (by omega), endL_no (by omega) (by omega)]
/-- What was written is read as it was, and nothing is wrong. -/
theorem fq_qp : ∀ (L : List Int) (k : Nat), (∀ c ∈ L, 0 ≤ c ∧ c ≤ 255) → (qpL L).length ≤ k → fq k (qpL L) = (L, 0)
  | [], k, _, _ => by
    rw [qpL]; cases k <;> rfl
  | c :: r, k, h, hk => by
    have hc := h c (by simp)
    have hr : ∀ d ∈ r, 0 ≤ d ∧ d ≤ 255 := fun d hd => h d (by simp [hd])
    have h1 := qc_len1 c (lastL r)
    rw [qpL, List.length_append] at hk
    obtain ⟨k, rfl⟩ : ∃ k2, k = k2 + 1 := ⟨k - 1, by omega⟩
    have ih := fq_qp r k hr (by omega)
    rw [qpL]
    by_cases hp : (33 ≤ c ∧ c ≤ 126 ∧ c ≠ 61) ∨ (c = 32 ∧ lastL r = false) ∨ c = 10
    · have hn : ¬ ((c = 32 ∨ c = 9) ∧ 0 ≤ endL (dropB (qpL r))) := by
        rintro ⟨e1, e2⟩
        rcases hp with hp | hp | hp
        · omega
        · rw [qp_no r hr hp.2] at e2; omega
        · omega
      rw [qc, if_pos hp, List.cons_append, List.nil_append, fq, if_neg (fun e => by have := e.1; omega), if_neg (fun e => by have := e.1; omega), if_neg hn, ih, if_neg (by omega)]
      rfl
    · have d1 := HX_dig' (x := c / 16) (by omega) (by omega)
      have d2 := HX_dig' (x := c % 16) (by omega) (by omega)
      rw [qc, if_neg hp, List.cons_append, List.cons_append, List.cons_append, List.nil_append, fq, if_pos ⟨rfl, by rw [hex2, d1, d2]; exact decide_eq_true (by omega)⟩]
      rw [show (bt HX (c / 16) :: bt HX (c % 16) :: qpL r).drop 2 = qpL r from rfl, ih]
      rw [val2, d1, d2]
      rw [show 16 * (c / 16) + c % 16 = c by omega]
end Go.Proofs.YtffjdidakeinjaaDoor.AS
end
section
set_option autoImplicit false
set_option maxRecDepth 100000
set_option maxHeartbeats 1000000
set_option linter.unusedSimpArgs false
set_option linter.unusedVariables false
namespace Go.Proofs.YtffjdidakeinjaaDoor.AS
open Go Go.Proofs Go.RowKit Go.Proofs.YtffjdidakeinjaaDoor.AS.V
theorem LT_not61 : ∀ i : Fin 64, bt LT (i.val : Int) ≠ 61 := by decide +kernel
theorem LT_no {x : Int} (h0 : 0 ≤ x) (h1 : x < 64) : ¬ bt LT x = 61 := by
  have := LT_not61 ⟨x.toNat, by omega⟩
  rwa [show ((x.toNat : Nat) : Int) = x by omega] at this
theorem LT_find {x : Int} (h0 : 0 ≤ x) (h1 : x < 64) : findS (bt LT x) = x := by
  have := find1 ⟨x.toNat, by omega⟩
  rwa [show ((x.toNat : Nat) : Int) = x by omega] at this
theorem fb_lt0 {x v w : Int} {r : List Int} (h0 : 0 ≤ x) (h1 : x < 64) (hw : v * 64 + x = w) : fb (bt LT x :: r) v 0 = fb r w 6 := by
  rw [fb_0 (LT_no h0 h1) (by rw [LT_find h0 h1]; omega), LT_find h0 h1, hw]
theorem fb_ltm {x v w y : Int} {r : List Int} {m m' : Nat} (h0 : 0 ≤ x) (h1 : x < 64) (hm : m ≠ 0) (hm' : m - 2 = m') (hy : (v * 64 + x) / 2 ^ m' = y) (hw : (v * 64 + x) % 2 ^ m' = w) : fb (bt LT x :: r) v m = (y :: (fb r w m').1, (fb r w m').2) := by
  rw [fb_m (LT_no h0 h1) (by rw [LT_find h0 h1]; omega) hm, LT_find h0 h1, hm', hy, hw]
/-- What was written in base64 is read as it was, nothing counted. -/
theorem fb_b64 : ∀ L : List Int, (∀ c ∈ L, 0 ≤ c ∧ c ≤ 255) → fb (b64 L) 0 0 = (L, 0)
  | [], _ => rfl
  | [a], h => by
    have ha := h a (by simp)
    rw [b64, fb_lt0 (w := a / 4) (by omega) (by omega) (by omega), fb_ltm (m' := 4) (y := a) (w := 0) (by omega) (by omega) (by decide) rfl (by omega) (by omega), fb_end rfl]
  | [a, b], h => by
    have ha := h a (by simp)
    have hb := h b (by simp)
    rw [b64, fb_lt0 (w := a / 4) (by omega) (by omega) (by omega), fb_ltm (m' := 4) (y := a) (w := b / 16) (by omega) (by omega) (by decide) rfl (by omega) (by omega),
      fb_ltm (m' := 2) (y := b) (w := 0) (by omega) (by omega) (by decide) rfl (by omega) (by omega), fb_end rfl]
  | a :: b :: c :: r, h => by
    have ha := h a (by simp)
    have hb := h b (by simp)
    have hc := h c (by simp)
    have ih := fb_b64 r (fun x hx => h x (by simp [hx]))
    rw [b64, fb_lt0 (w := a / 4) (by omega) (by omega) (by omega), fb_ltm (m' := 4) (y := a) (w := b / 16) (by omega) (by omega) (by decide) rfl (by omega) (by omega),
      fb_ltm (m' := 2) (y := b) (w := c / 64) (by omega) (by omega) (by decide) rfl (by omega) (by omega), fb_ltm (m' := 0) (y := c) (w := 0) (by omega) (by omega) (by decide) rfl (by omega) (by omega), ih]
theorem b64_range : ∀ L : List Int, ∀ c ∈ b64 L, 0 ≤ c ∧ c ≤ 255
  | [], c, h => by rw [b64] at h; cases h
  | [a], c, h => by
    rw [b64] at h
    simp only [List.mem_cons, List.not_mem_nil, or_false] at h
    rcases h with rfl | rfl | rfl | rfl <;> first | exact bt_range _ _ | decide
  | [a, b], c, h => by
    rw [b64] at h
    simp only [List.mem_cons, List.not_mem_nil, or_false] at h
    rcases h with rfl | rfl | rfl | rfl <;> first | exact bt_range _ _ | decide
  | a :: b :: d :: r, c, h => by
    rw [b64] at h
    simp only [List.mem_cons] at h
    rcases h with rfl | rfl | rfl | rfl | h
    · exact bt_range _ _
    · exact bt_range _ _
    · exact bt_range _ _
    · exact bt_range _ _
    · exact b64_range r c h
/-- The same of texts. -/
theorem fbS_b64S (s : ByteArray) : fbS (b64S s) = (bytesOf s, 0) := by
  unfold fbS b64S
  rw [bytesOf_strOf (b64_range _)]
  exact fb_b64 _ (bytesOf_range s)
theorem b64_len : ∀ L : List Int, (b64 L).length = (L.length + 2) / 3 * 4
  | [] => rfl
  | [a] => by rw [b64]; simp
  | [a, b] => by rw [b64]; simp
  | a :: b :: c :: r => by
    rw [b64]
    simp only [List.length_cons, b64_len r]; omega
/-- Where three divides the first part's length the parts stand one behind the other. -/
theorem b64_parts : ∀ (k : Nat) (L M : List Int), L.length = 3 * k → b64 (L ++ M) = b64 L ++ b64 M
  | 0, L, M, h => by
    obtain rfl : L = [] := List.length_eq_zero_iff.1 (by omega)
    rfl
  | k + 1, a :: b :: c :: L, M, h => by
    have ih := b64_parts k L M (by simp only [List.length_cons] at h; omega)
    rw [List.cons_append, List.cons_append, List.cons_append, b64, b64, ih]; rfl
  | k + 1, [], M, h => by simp at h
  | k + 1, [a], M, h => by simp at h; omega
  | k + 1, [a, b], M, h => by simp at h; omega
end Go.Proofs.YtffjdidakeinjaaDoor.AS
end
section
set_option autoImplicit false
set_option maxRecDepth 100000
set_option maxHeartbeats 4000000
set_option linter.unusedSimpArgs false
set_option linter.unusedVariables false
namespace Go.Proofs.YtffjdidakeinjaaDoor.AS
open Go Go.Proofs Go.RowKit Go.Proofs.YtffjdidakeinjaaDoor.AS.V

theorem lenN_FR {h0 h : Heap} {b e : Nat} {xs : List AV} {L : List Int} (B : Bld h0 h b e xs L) (q : Int) (hq : (L.length : Int) = q) :
    FR Tryd.prog TT 28 [.pt b 0 0] h fun x H => x = .s (.int .i64 q) ∧ H = h := by
  subst hq; exact len_FR B
theorem base14_FR (h : Heap) (s : ByteArray) (hs : s.size ≤ 35184372088832) : FR Tryd.prog TT 14 [.s (.string s)] h fun x H => x = .s (.string (b64S s)) ∧ Grows h H := by
  have hlt := LT_size
  refine FR.of q14 (by kernel_rfl) ?_
  unfold c14
  repeat' (first
    | (refine WO.shl (r := (bits * 256) % 4294967296) rfl rfl (by omega) (by rw [show (2 : Int) ^ (min (8 : Int).toNat IntKind.u32.bits) = 256 from rfl]; exact wrapU _) ?_)
    | (refine WO.shl (r := (bits * 16) % 4294967296) rfl rfl (by omega) (by rw [show (2 : Int) ^ (min (6 - ((2 : Nat) : Int)).toNat IntKind.u32.bits) = 16 from rfl]; exact wrapU _) ?_)
    | (refine WO.shl (r := (bits * 4) % 4294967296) rfl rfl (by omega) (by rw [show (2 : Int) ^ (min (6 - ((4 : Nat) : Int)).toNat IntKind.u32.bits) = 4 from rfl]; exact wrapU _) ?_)
    | (refine WO.orU 8 rfl rfl (by omega) (by omega) (by omega) (by omega) (by omega) (by omega) ?_)
    | (refine WO.shr (r := _ / 2 ^ _) rfl rfl (by omega) rfl ?_; rw [show (2 : Int) ^ (min (((0 : Nat) : Int) + 8 - 6).toNat IntKind.u32.bits) = 4 from rfl])
    | (refine WO.shr (r := _ / 2 ^ _) rfl rfl (by omega) rfl ?_; rw [show (2 : Int) ^ (min (((2 : Nat) : Int) + 8 - 6).toNat IntKind.u32.bits) = 16 from rfl])
    | (refine WO.shr (r := _ / 2 ^ _) rfl rfl (by omega) rfl ?_; rw [show (2 : Int) ^ (min (((4 : Nat) : Int) + 8 - 6).toNat IntKind.u32.bits) = 64 from rfl])
    | (refine WO.shr (r := _ / 2 ^ _) rfl rfl (by omega) rfl ?_; rw [show (2 : Int) ^ (min (((4 : Nat) : Int) + 8 - 6 - 6).toNat IntKind.u32.bits) = 1 from rfl])
    | (refine WO.andU 6 rfl rfl (by decide) (by decide) (by omega) (by omega) ?_)
    | (refine WO.ix (s := LT) rfl rfl (st rfl) (by omega) (by omega) ?_)
    | (refine WO.remP rfl rfl (by decide) (by omega) ?_)
    | (refine EQ.fin rfl ?_)
    | (refine WO.mvs rfl ?_)
    | (refine WO.mvp rfl ?_)
    | (refine WO.mvt rfl ?_)
    | (refine WO.mv ?_)
    | (refine W.sreg ?_)
    | (refine W.sdraw ?_)
    | (refine W.reg ?_)
    | (refine W.draw ?_)
    | (refine WO.nil ?_)
    | (refine WO.gU rfl ?_)
    | (refine WO.gT rfl rfl ?_)
    | (refine WO.gF rfl rfl ?_)
    | (refine WO.ext rfl rfl ?_)
    | (refine WO.lenR (by assumption) ?_)
    | (refine WO.add rfl rfl (by first | exact wrOK (by simp only [loK, hiK]; omega) | rfl) ?_)
    | (refine WO.sub rfl rfl (by first | exact wrOK (by simp only [loK, hiK]; omega) | rfl) ?_)
    | (refine WO.lss rfl rfl ?_)
    | (refine WO.leq rfl rfl ?_)
    | (refine WO.gtr rfl rfl ?_)
    | (refine WO.geq rfl rfl ?_)
    | (refine WO.eql rfl rfl ?_)
    | (refine WO.neq rfl rfl ?_)
    | (refine WO.seql rfl rfl ?_)
    | (refine WO.sneq rfl rfl ?_)
    | (refine WO.beql rfl rfl (tb rfl) ?_)
    | (refine WO.bneq rfl rfl (tb rfl) ?_)
    | (refine WO.not rfl ?_)
    | (refine WO.not0 rfl ?_)
    | (refine WO.cvi rfl (kd rfl) (kd rfl) (by first | exact wrOK (by simp only [loK, hiK]; omega) | rfl) ?_)
    | (refine WO.cvs rfl (st rfl) (st rfl) ?_)
    | (refine WO.ix rfl rfl (st rfl) (by first | assumption | omega) (by first | assumption | omega) ?_)
    | (refine WO.slen rfl (st rfl) ?_)
    | (refine WO.iaddr (by assumption) rfl rfl (by first | assumption | omega) (by first | assumption | omega) (fun q hq => ?_))
    | (refine WO.load (by assumption) rfl rfl ?_)
    | (refine WO.loadO rfl (by assumption) rfl rfl ?_)
    | (refine WO.faddrP (by assumption) rfl (fun q hq => ?_))
    | (refine WO.nilckP (by assumption) ?_)
    | (refine WO.nilck rfl ?_)
    | (refine WO.faddr rfl ?_)
    | (refine WO.fld rfl rfl rfl ?_)
    | (refine WO.pickT rfl ?_)
    | (refine WO.pickF rfl ?_)
    | (refine WO.sll rfl rfl (st rfl) (by first | assumption | omega) (by first | assumption | omega) ?_)
    | (refine WO.slh rfl rfl (st rfl) (by first | assumption | omega) (by first | assumption | omega) ?_)
    | (refine WO.slb rfl rfl rfl (st rfl) (by first | assumption | omega) (by first | assumption | omega) (by first | assumption | omega) ?_)
    | (refine WO.mul rfl rfl (by first | exact wrOK (by simp only [loK, hiK]; omega) | rfl) ?_)
    | (refine WO.quo rfl rfl (by first | assumption | omega) (by first | exact wrOK (by simp only [loK, hiK]; omega) | rfl) ?_)
    | (refine WO.rem rfl rfl (by first | assumption | omega) ?_)
    | (refine WO.and rfl rfl ?_)
    | (refine WO.or rfl rfl ?_)
    | (refine WO.xor rfl rfl ?_)
    | (refine WO.shl rfl rfl (by first | assumption | omega) (by simp [IntKind.bits]; rfl) ?_)
    | (refine WO.shr rfl rfl (by first | assumption | omega) (by simp [IntKind.bits]; rfl) ?_)
    | (refine WO.build (C := [_]) rfl ?_)
    | (refine WO.build (C := [_, _]) rfl ?_)
    | (refine WO.build (C := [_, _, _]) rfl ?_)
    | (refine WO.build (C := [_, _, _, _]) rfl ?_)
    | (refine WO.build (C := [_, _, _, _, _]) rfl ?_)
    | (refine WO.build (C := [_, _, _, _, _, _]) rfl ?_)
    | (refine WO.build (C := [_, _, _, _, _, _, _]) rfl ?_)
    | (refine WO.eqnil (by assumption) (fun hn1 hn2 => ?_) ?_)
    | (refine W.condT rfl ?_)
    | (refine W.condF rfl ?_)
    | (refine W.condDT rfl (by first | assumption | omega) ?_)
    | (refine W.condDF rfl (by first | assumption | omega) ?_)
    | (refine W.condD rfl (fun hc => ?_) (fun hc => ?_))
    | (refine WO.gS rfl (fun hc => ?_) (fun hc => ?_) <;> try (exfalso; omega))
    | (refine WO.pickS rfl (fun hc => ?_) (fun hc => ?_) <;> try (exfalso; omega))
    | (refine W.skip ?_)
    | (refine W.block ?_)
    | (refine W.drawA rfl ?_)
    | (refine W.sdrawA rfl ?_)
    | (refine And.intro rfl ?_)
    | (refine W.exit ?_)
    | (refine W.ret ?_)
    | (refine W.seq ?_)
    | (refine W.goto ?_)
    | (refine W.label ?_)
    | (refine SQ.nn ?_)
    | (refine SQ.x ?_)
    | (refine SQ.r ?_)
    | (refine SQ.g ?_)
    | (refine BQ.nn ?_)
    | (refine BQ.x ?_)
    | (refine BQ.r ?_)
    | (refine BQ.g ?_)
    | (refine BQ.y rfl ?_)
    | (refine LQ.x ?_)
    | (refine LQ.r ?_)
    | (refine LQ.g ?_)
    | (refine GQ.nn ?_)
    | (refine GQ.x ?_)
    | (refine GQ.r ?_)
    | (refine WO.newT (fun bb H1 hb gb obt => ?_))
    | (refine WO.call rfl (wb_FR _ B (by omega)) ?_; rintro _ H ⟨rfl, B1⟩)
    | (refine WO.call rfl (wb_FR _ B1 (by simp only [List.length_append, List.length_singleton]; omega)) ?_; rintro _ H ⟨rfl, B2⟩)
    | (refine WO.call rfl (wb_FR _ B2 (by simp only [List.length_append, List.length_singleton]; omega)) ?_; rintro _ H ⟨rfl, B3⟩)
    | (refine WO.call rfl (lenN_FR B O.length rfl) ?_; rintro _ H ⟨rfl, hH⟩; obtain rfl := hH.symm)
    | (refine WO.call rfl (lenN_FR B1 (O.length + 1) (by simp only [List.length_append, List.length_singleton]; omega)) ?_; rintro _ H ⟨rfl, hH⟩; obtain rfl := hH.symm)
    | (refine WO.call rfl (lenN_FR B2 (O.length + 2) (by simp only [List.length_append, List.length_singleton]; omega)) ?_; rintro _ H ⟨rfl, hH⟩; obtain rfl := hH.symm)
    | (refine WO.call rfl (lenN_FR B3 (O.length + 3) (by simp only [List.length_append, List.length_singleton]; omega)) ?_; rintro _ H ⟨rfl, hH⟩; obtain rfl := hH.symm)
    | (refine WO.call rfl (str_FR B (by omega)) ?_; rintro _ H ⟨rfl, g9⟩)
    | (refine WO.call rfl (str_FR B2 (by simp only [List.length_append, List.length_singleton]; omega)) ?_; rintro _ H ⟨rfl, g9⟩)
    | (refine WO.call rfl (str_FR B3 (by simp only [List.length_append, List.length_singleton]; omega)) ?_; rintro _ H ⟨rfl, g9⟩)
    | ((have tag := hdr; refine W.loopU ?_))
    | (refine W.loopI (σ := Nat × Int × Nat × List Int) (fun σ => [(0, .s (.string s)), (3, .pt bb 0 0), (4, .s (.int .u32 σ.2.1)), (5, .s (.int .i64 σ.2.2.1)), (8, .s (.int .i64 s.size)), (9, .s (.int .i64 σ.1))]) (fun σ h' => Bld h h' bb 48 [] σ.2.2.2 ∧ σ.1 ≤ s.size ∧ (0 ≤ σ.2.1 ∧ σ.2.1 < 4294967296) ∧ ((σ.2.2.1 = 0 ∧ σ.2.2.2.length % 4 = 0) ∨ (σ.2.2.1 = 2 ∧ σ.2.2.2.length % 4 = 1) ∨ (σ.2.2.1 = 4 ∧ σ.2.2.2.length % 4 = 2)) ∧ σ.2.2.2.length ≤ 2 * σ.1 ∧ BI (b64 (bytesOf s)) σ.2.2.2 σ.2.2.1 (σ.2.1 % 2 ^ σ.2.2.1) ((bytesOf s).drop σ.1)) (fun σ => s.size - σ.1) (0, 0, 0, []) ⟨rfl, rfl, rfl, rfl, rfl, rfl, trivial⟩ ⟨⟨⟨_, _, obt, .inl rfl, Out.nil gb, (by simp [bo]), fun _ => rfl⟩, hb, .inl ⟨rfl, rfl⟩⟩, Nat.zero_le _, ⟨by decide, by decide⟩, .inl ⟨rfl, rfl⟩, Nat.zero_le _, BI.ini s⟩ ?_; rintro ⟨i, bits, m, O⟩ G h' ⟨B, hi, hbt, hm, hO, hF⟩; dsimp only at B hi hbt hm hO hF ⊢; have hr := bt_range s (i : Int); have hdr := bytesOf_drop_cons s i; have hds := bytesOf_length s; have hS : b64S s = strOfNums (b64 (bytesOf s)) := rfl; generalize b64 (bytesOf s) = R at *; rcases hm with ⟨rfl, hm⟩ | ⟨rfl, hm⟩ | ⟨rfl, hm⟩)
    | (refine LQ.nn ?_))
  · rw [hdr (by omega)] at hF
    have e := hF.s0 (x := bt LT ((bits * 256 % 4294967296 + bt s i) / 4 % 2 ^ 6)) (w := (bits * 256 % 4294967296 + bt s i) % 2 ^ 2) (congrArg (bt LT) (by omega)) (by omega)
    exact ⟨(i + 1, bits * 256 % 4294967296 + bt s i, 2, _), by dsimp only; omega, ⟨rfl, rfl, rfl, rfl, rfl, rfl, trivial⟩, B1, by dsimp only; omega, ⟨by dsimp only; omega, by dsimp only; omega⟩, .inr (.inl ⟨rfl, by dsimp only; simp only [List.length_append, List.length_singleton]; omega⟩), by dsimp only; simp only [List.length_append, List.length_singleton]; omega, e⟩
  · rw [List.drop_eq_nil_of_le (by omega)] at hF
    have e := hF.e0 
    exact ⟨by rw [hS, e]; rfl, g9⟩
  · rw [hdr (by omega)] at hF
    have e := hF.s2 (x := bt LT ((bits * 256 % 4294967296 + bt s i) / 16 % 2 ^ 6)) (w := (bits * 256 % 4294967296 + bt s i) % 2 ^ 4) (congrArg (bt LT) (by omega)) (by omega)
    exact ⟨(i + 1, bits * 256 % 4294967296 + bt s i, 4, _), by dsimp only; omega, ⟨rfl, rfl, rfl, rfl, rfl, rfl, trivial⟩, B1, by dsimp only; omega, ⟨by dsimp only; omega, by dsimp only; omega⟩, .inr (.inr ⟨rfl, by dsimp only; simp only [List.length_append, List.length_singleton]; omega⟩), by dsimp only; simp only [List.length_append, List.length_singleton]; omega, e⟩
  · rw [List.drop_eq_nil_of_le (by omega)] at hF
    have e := hF.e2 (x := bt LT (bits * 16 % 4294967296 % 2 ^ 6)) (congrArg (bt LT) (by omega))
    exact ⟨by rw [hS, e]; rfl, g9⟩
  · rw [hdr (by omega)] at hF
    have e := hF.s4 (w := (bits * 256 % 4294967296 + bt s i) % 2 ^ 0) (x := bt LT ((bits * 256 % 4294967296 + bt s i) / 64 % 2 ^ 6)) (y := bt LT ((bits * 256 % 4294967296 + bt s i) / 1 % 2 ^ 6)) (congrArg (bt LT) (by omega)) (congrArg (bt LT) (by omega))
    exact ⟨(i + 1, bits * 256 % 4294967296 + bt s i, 0, _), by dsimp only; omega, ⟨rfl, rfl, rfl, rfl, rfl, rfl, trivial⟩, B2, by dsimp only; omega, ⟨by dsimp only; omega, by dsimp only; omega⟩, .inl ⟨rfl, by dsimp only; simp only [List.length_append, List.length_singleton]; omega⟩, by dsimp only; simp only [List.length_append, List.length_singleton]; omega, e⟩
  · rw [List.drop_eq_nil_of_le (by omega)] at hF
    have e := hF.e4 (x := bt LT (bits * 4 % 4294967296 % 2 ^ 6)) (congrArg (bt LT) (by omega))
    exact ⟨by rw [hS, e]; rfl, g9⟩
end Go.Proofs.YtffjdidakeinjaaDoor.AS
end
section
set_option autoImplicit false
set_option maxRecDepth 100000
set_option maxHeartbeats 4000000
set_option linter.unusedSimpArgs false
set_option linter.unusedVariables false
namespace Go.Proofs.YtffjdidakeinjaaDoor.AS
open Go Go.Proofs Go.RowKit Go.Proofs.YtffjdidakeinjaaDoor.AS.V

theorem rfrom10_FR (h : Heap) (s : ByteArray) (hs : s.size ≤ 140737488355328) : FR Tryd.prog TT 10 [.s (.string s)] h fun x H => x = .tp [.s (.string (strOfNums (fbS s).1)), .s (.int .i64 (fbS s).2)] ∧ Grows h H := by
  refine FR.of q10 (by kernel_rfl) ?_
  unfold c10
  repeat' (first
    | (refine WO.mvE out rfl ?_)
    | (refine WO.remP rfl rfl (by decide) (by omega) ?_)
    | (refine WO.shr (r := _ / 2 ^ _) rfl rfl (by omega) rfl ?_)
    | (refine WO.cvi rfl (kd rfl) (kd rfl) (wrap8 _) ?_)
    | (refine LQ.fin ?_)
    | (refine EQ.fin rfl ?_)
    | (refine WO.mvs rfl ?_)
    | (refine WO.mvp rfl ?_)
    | (refine WO.mvt rfl ?_)
    | (refine WO.mv ?_)
    | (refine W.sreg ?_)
    | (refine W.sdraw ?_)
    | (refine W.reg ?_)
    | (refine W.draw ?_)
    | (refine WO.nil ?_)
    | (refine WO.gU rfl ?_)
    | (refine WO.gT rfl rfl ?_)
    | (refine WO.gF rfl rfl ?_)
    | (refine WO.ext rfl rfl ?_)
    | (refine WO.lenR (by assumption) ?_)
    | (refine WO.add rfl rfl (by first | exact wrOK (by simp only [loK, hiK]; omega) | rfl) ?_)
    | (refine WO.sub rfl rfl (by first | exact wrOK (by simp only [loK, hiK]; omega) | rfl) ?_)
    | (refine WO.lss rfl rfl ?_)
    | (refine WO.leq rfl rfl ?_)
    | (refine WO.gtr rfl rfl ?_)
    | (refine WO.geq rfl rfl ?_)
    | (refine WO.eql rfl rfl ?_)
    | (refine WO.neq rfl rfl ?_)
    | (refine WO.seql rfl rfl ?_)
    | (refine WO.sneq rfl rfl ?_)
    | (refine WO.beql rfl rfl (tb rfl) ?_)
    | (refine WO.bneq rfl rfl (tb rfl) ?_)
    | (refine WO.not rfl ?_)
    | (refine WO.not0 rfl ?_)
    | (refine WO.cvi rfl (kd rfl) (kd rfl) (by first | exact wrOK (by simp only [loK, hiK]; omega) | rfl) ?_)
    | (refine WO.cvs rfl (st rfl) (st rfl) ?_)
    | (refine WO.ix rfl rfl (st rfl) (by first | assumption | omega) (by first | assumption | omega) ?_)
    | (refine WO.slen rfl (st rfl) ?_)
    | (refine WO.iaddr (by assumption) rfl rfl (by first | assumption | omega) (by first | assumption | omega) (fun q hq => ?_))
    | (refine WO.load (by assumption) rfl rfl ?_)
    | (refine WO.loadO rfl (by assumption) rfl rfl ?_)
    | (refine WO.faddrP (by assumption) rfl (fun q hq => ?_))
    | (refine WO.nilckP (by assumption) ?_)
    | (refine WO.nilck rfl ?_)
    | (refine WO.faddr rfl ?_)
    | (refine WO.fld rfl rfl rfl ?_)
    | (refine WO.pickT rfl ?_)
    | (refine WO.pickF rfl ?_)
    | (refine WO.sll rfl rfl (st rfl) (by first | assumption | omega) (by first | assumption | omega) ?_)
    | (refine WO.slh rfl rfl (st rfl) (by first | assumption | omega) (by first | assumption | omega) ?_)
    | (refine WO.slb rfl rfl rfl (st rfl) (by first | assumption | omega) (by first | assumption | omega) (by first | assumption | omega) ?_)
    | (refine WO.mul rfl rfl (by first | exact wrOK (by simp only [loK, hiK]; omega) | rfl) ?_)
    | (refine WO.quo rfl rfl (by first | assumption | omega) (by first | exact wrOK (by simp only [loK, hiK]; omega) | rfl) ?_)
    | (refine WO.rem rfl rfl (by first | assumption | omega) ?_)
    | (refine WO.and rfl rfl ?_)
    | (refine WO.or rfl rfl ?_)
    | (refine WO.xor rfl rfl ?_)
    | (refine WO.shl rfl rfl (by first | assumption | omega) (by simp [IntKind.bits]; rfl) ?_)
    | (refine WO.shr rfl rfl (by first | assumption | omega) (by simp [IntKind.bits]; rfl) ?_)
    | (refine WO.build (C := [_]) rfl ?_)
    | (refine WO.build (C := [_, _]) rfl ?_)
    | (refine WO.build (C := [_, _, _]) rfl ?_)
    | (refine WO.build (C := [_, _, _, _]) rfl ?_)
    | (refine WO.build (C := [_, _, _, _, _]) rfl ?_)
    | (refine WO.build (C := [_, _, _, _, _, _]) rfl ?_)
    | (refine WO.build (C := [_, _, _, _, _, _, _]) rfl ?_)
    | (refine WO.eqnil (by assumption) (fun hn1 hn2 => ?_) ?_)
    | (refine W.condT rfl ?_)
    | (refine W.condF rfl ?_)
    | (refine W.condDT rfl (by first | assumption | omega) ?_)
    | (refine W.condDF rfl (by first | assumption | omega) ?_)
    | (refine W.condD rfl (fun hc => ?_) (fun hc => ?_))
    | (refine WO.gS rfl (fun hc => ?_) (fun hc => ?_) <;> try (exfalso; omega))
    | (refine WO.pickS rfl (fun hc => ?_) (fun hc => ?_) <;> try (exfalso; omega))
    | (refine W.skip ?_)
    | (refine W.block ?_)
    | (refine W.drawA rfl ?_)
    | (refine W.sdrawA rfl ?_)
    | (refine And.intro rfl ?_)
    | (refine W.exit ?_)
    | (refine W.ret ?_)
    | (refine W.seq ?_)
    | (refine W.goto ?_)
    | (refine W.label ?_)
    | (refine SQ.nn ?_)
    | (refine SQ.x ?_)
    | (refine SQ.r ?_)
    | (refine SQ.g ?_)
    | (refine BQ.nn ?_)
    | (refine BQ.x ?_)
    | (refine BQ.r ?_)
    | (refine BQ.g ?_)
    | (refine BQ.y rfl ?_)
    | (refine LQ.x ?_)
    | (refine LQ.r ?_)
    | (refine LQ.g ?_)
    | (refine GQ.nn ?_)
    | (refine GQ.x ?_)
    | (refine GQ.r ?_)
    | (refine WO.call rfl (hfc _) ?_; rintro _ H ⟨rfl, hH⟩; obtain rfl := hH.symm)
    | (refine WO.b2s ho.row ?_)
    | (refine WO.bslI rfl rfl (fun a1 H3 g3 o3 nw3 => ?_))
    | (refine WO.appO (ho.grows g3) o3.row rfl (encI_ok _ _) (by simp only [List.length_cons, List.length_nil]; omega) (by simp only [List.length_cons, List.length_nil]; omega) (fun a2 H4 out4 ap => ?_))
    | (refine W.loopI (σ := Nat × Int × Nat × Int × AV × List Int) (fun σ => [(0, .s (.string s)), (4, σ.2.2.2.2.1), (5, .s (.int .i64 σ.2.1)), (6, .s (.int .i64 σ.2.2.1)), (7, .s (.int .i64 σ.2.2.2.1)), (8, .s (.int .i64 σ.1))]) (fun σ h' => Out (encI .u8) 5 h h' σ.2.2.2.2.1 σ.2.2.2.2.2 ∧ σ.1 ≤ s.size ∧ (0 ≤ σ.2.1 ∧ σ.2.1 < 16384) ∧ (σ.2.2.1 = 0 ∨ σ.2.2.1 = 2 ∨ σ.2.2.1 = 4 ∨ σ.2.2.1 = 6) ∧ σ.2.2.2.2.2.length ≤ σ.1 ∧ (0 ≤ σ.2.2.2.1 ∧ σ.2.2.2.1 ≤ σ.1) ∧ FbI (fbS s) σ.2.2.2.2.2 σ.2.2.2.1 ((bytesOf s).drop σ.1) (σ.2.1 % 2 ^ σ.2.2.1) σ.2.2.1) (fun σ => s.size - σ.1) (0, 0, 0, 0, .s (.slice none 0 0), []) ⟨rfl, rfl, rfl, rfl, rfl, rfl, trivial⟩ ⟨Out.nil (Grows.refl _), Nat.zero_le _, ⟨by decide, by decide⟩, .inl rfl, Nat.zero_le _, ⟨Int.le_refl _, Int.le_refl _⟩, FbI.ini s⟩ ?_; rintro ⟨i, bits, m, bad, out, O⟩ G h' ⟨ho, hi, hbt, hm, hO, hbad, hF⟩; dsimp only at ho hi hbt hm hO hbad hF ⊢; have hr := bt_range s (i : Int); obtain ⟨fv, hfv⟩ : ∃ fv, findS (bt s (i : Int)) = fv := ⟨_, rfl⟩; have hfr := find2' hr.1 hr.2; have hfc := fun hp => find_FR hp (bt s (i : Int)) hr.1 hr.2; rw [hfv] at hfc; replace hfr : fv = -1 ∨ (0 ≤ fv ∧ fv < 64) := (by rw [hfv] at hfr; omega); have hdr := bytesOf_drop_cons s i; generalize fbS s = R at *))
  · rw [hdr (by omega)] at hF
    have hb : blkS (bt s (i : Int)) = false := decide_eq_false (by omega)
    have e := hF.skip (k := 1) (by omega) (by omega) (by rw [hb]; rfl)
    skip
    exact ⟨(i + 1, bits, m, bad + 1, out, O), by dsimp only; omega, ⟨rfl, rfl, rfl, rfl, rfl, rfl, trivial⟩, ho, by dsimp only; omega, hbt, hm, by dsimp only; omega, by dsimp only; omega, e⟩
  · rw [hdr (by omega)] at hF
    have hb : blkS (bt s (i : Int)) = true := decide_eq_true (by omega)
    have e := hF.skip (k := 0) (by omega) (by omega) (by rw [hb]; rfl)
    rw [Int.add_zero] at e
    exact ⟨(i + 1, bits, m, bad, out, O), by dsimp only; omega, ⟨rfl, rfl, rfl, rfl, rfl, rfl, trivial⟩, ho, by dsimp only; omega, hbt, hm, by dsimp only; omega, by dsimp only; omega, e⟩
  · rw [hdr (by omega)] at hF
    have hb : blkS (bt s (i : Int)) = true := decide_eq_true (by omega)
    have e := hF.skip (k := 0) (by omega) (by omega) (by rw [hb]; rfl)
    rw [Int.add_zero] at e
    exact ⟨(i + 1, bits, m, bad, out, O), by dsimp only; omega, ⟨rfl, rfl, rfl, rfl, rfl, rfl, trivial⟩, ho, by dsimp only; omega, hbt, hm, by dsimp only; omega, by dsimp only; omega, e⟩
  · rw [hdr (by omega)] at hF
    have hb : blkS (bt s (i : Int)) = true := decide_eq_true (by omega)
    have e := hF.skip (k := 0) (by omega) (by omega) (by rw [hb]; rfl)
    rw [Int.add_zero] at e
    exact ⟨(i + 1, bits, m, bad, out, O), by dsimp only; omega, ⟨rfl, rfl, rfl, rfl, rfl, rfl, trivial⟩, ho, by dsimp only; omega, hbt, hm, by dsimp only; omega, by dsimp only; omega, e⟩
  · rw [hdr (by omega)] at hF
    have hb : blkS (bt s (i : Int)) = true := decide_eq_true (by omega)
    have e := hF.skip (k := 0) (by omega) (by omega) (by rw [hb]; rfl)
    rw [Int.add_zero] at e
    exact ⟨(i + 1, bits, m, bad, out, O), by dsimp only; omega, ⟨rfl, rfl, rfl, rfl, rfl, rfl, trivial⟩, ho, by dsimp only; omega, hbt, hm, by dsimp only; omega, by dsimp only; omega, e⟩
  · rw [hdr (by omega)] at hF
    rcases hm with rfl | rfl | rfl | rfl
    · exfalso; omega
    · have hp : (2 : Int) ^ (min (((2 : Nat) : Int) + 6 - 8).toNat IntKind.i64.bits) = 1 := rfl
      rw [hp] at out4
      have e := hF.more (m' := 0) (w := (bits % 256 * 64 + fv) % 2 ^ 0) (x := (bits % 256 * 64 + fv) / 1 % 256) (by omega) (by omega) (by decide) rfl (by rw [hfv]; omega) (by rw [hfv]; omega)
      exact ⟨(i + 1, bits % 256 * 64 + fv, 0, bad, a2, _), by dsimp only; omega, ⟨rfl, rfl, rfl, rfl, rfl, rfl, trivial⟩, out4, by dsimp only; omega, ⟨by dsimp only; omega, by dsimp only; omega⟩, by dsimp only; omega, by dsimp only; rw [List.length_append, List.length_singleton]; omega, by dsimp only; omega, e⟩
    · have hp : (2 : Int) ^ (min (((4 : Nat) : Int) + 6 - 8).toNat IntKind.i64.bits) = 4 := rfl
      rw [hp] at out4
      have e := hF.more (m' := 2) (w := (bits % 256 * 64 + fv) % 2 ^ 2) (x := (bits % 256 * 64 + fv) / 4 % 256) (by omega) (by omega) (by decide) rfl (by rw [hfv]; omega) (by rw [hfv]; omega)
      exact ⟨(i + 1, bits % 256 * 64 + fv, 2, bad, a2, _), by dsimp only; omega, ⟨rfl, rfl, rfl, rfl, rfl, rfl, trivial⟩, out4, by dsimp only; omega, ⟨by dsimp only; omega, by dsimp only; omega⟩, by dsimp only; omega, by dsimp only; rw [List.length_append, List.length_singleton]; omega, by dsimp only; omega, e⟩
    · have hp : (2 : Int) ^ (min (((6 : Nat) : Int) + 6 - 8).toNat IntKind.i64.bits) = 16 := rfl
      rw [hp] at out4
      have e := hF.more (m' := 4) (w := (bits % 256 * 64 + fv) % 2 ^ 4) (x := (bits % 256 * 64 + fv) / 16 % 256) (by omega) (by omega) (by decide) rfl (by rw [hfv]; omega) (by rw [hfv]; omega)
      exact ⟨(i + 1, bits % 256 * 64 + fv, 4, bad, a2, _), by dsimp only; omega, ⟨rfl, rfl, rfl, rfl, rfl, rfl, trivial⟩, out4, by dsimp only; omega, ⟨by dsimp only; omega, by dsimp only; omega⟩, by dsimp only; omega, by dsimp only; rw [List.length_append, List.length_singleton]; omega, by dsimp only; omega, e⟩
  · rw [hdr (by omega)] at hF
    obtain rfl : m = 0 := by omega
    have e := hF.z (w := (bits % 256 * 64 + fv) % 2 ^ 6) (by omega) (by omega) (by rw [hfv]; omega)
    exact ⟨(i + 1, bits % 256 * 64 + fv, 6, bad, out, O), by dsimp only; omega, ⟨rfl, rfl, rfl, rfl, rfl, rfl, trivial⟩, ho, by dsimp only; omega, ⟨by dsimp only; omega, by dsimp only; omega⟩, by dsimp only; omega, by dsimp only; omega, by dsimp only; omega, e⟩
  · rw [hdr (by omega)] at hF
    have e := hF.fin (by omega)
    exact ⟨by rw [e]; rfl, ho.g⟩
  · rw [List.drop_eq_nil_of_le (by rw [bytesOf_length]; omega)] at hF
    have e := hF.nil
    exact ⟨by rw [e]; rfl, ho.g⟩
end Go.Proofs.YtffjdidakeinjaaDoor.AS
end
