/- Of our own: an abstract machine beside the model, its soundness, and walks of the program in it. -/
import Derived.Test.YtffjdidakeinjaaDoorA14
import Derived.Test.YtffjdidakeinjaaDoorA16
import Derived.Test.YtffjdidakeinjaaDoorA13
set_option linter.unusedSimpArgs false
set_option linter.unusedVariables false
section
set_option autoImplicit false
set_option linter.unusedSimpArgs false
namespace Go.Proofs.YtffjdidakeinjaaDoor.AS
open Go Go.RowKit Go.Proofs.YtffjdidakeinjaaDoor.AS.V
section
variable {P : Program} {T : Nat → CallF} {n : Nat} {F : Fr} {h : Heap} {Q : Ex → Fr → Heap → Prop} {b : ACode}
theorem W.unskip {c : ACode} (H : W P T n (.seq .skip c) F h Q) : W P T n c F h Q := .of fun ho => by
  obtain ⟨e, F', h', ⟨K, r⟩, q⟩ := H.go (by simp only [okC, Bool.true_and]; exact ho)
  refine ⟨e, F', h', ⟨K + 1, fun k j hk hj => ?_⟩, q⟩
  have := r (k + 1) j (by omega) (by omega)
  rw [evC_seq] at this
  obtain ⟨k, rfl⟩ : ∃ k', k = k' + 1 := ⟨k - 1, by omega⟩
  exact this
theorem W.lab {c : ACode} {fg : List Nat} {i : Nat} (H : W P T n (.seq .skip c) (FG fg F) h Q) : W P T n (.seq (.label fg i) c) F h Q :=
  W.seq (W.label ⟨H.unskip⟩)
/-- Labels, the code of each walked once: what comes from above goes in as what jumps. -/
theorem W.scopeK {fg : List Nat} {cur : ACode} {σ : Type} (fs : σ → List (Nat × AV)) (lb : σ → Nat) (I : σ → Heap → Prop) (μ : σ → Nat) (m0 : Nat)
    (H : ∀ s G h, I s h → ∃ r, findA b (lb s) = some r ∧ W P T n r (UL (fs s) G) h (GQ (fun i F' h' => ∃ s', μ s' < μ s ∧ i = lb s' ∧ AG (fs s') (FG fg F') ∧ I s' h') Q))
    (H0 : ∀ R : Nat → Fr → Heap → Prop, (∀ s F h Y fg' i, μ s ≤ m0 → AG (fs s) (FG fg' F) → I s h → findA b (lb s) = some (.seq .skip Y) → W P T n (.seq (.label fg' i) Y) F h (GQ R Q)) → W P T n cur F h (GQ R Q)) : W P T n (.scope fg b cur) F h Q := by
  refine W.scopeI fs lb I μ m0 (H0 _ ?_) H
  intro s F h Y fg' i hm ha hI hf
  obtain ⟨r, hf', hw⟩ := H s (FG fg' F) h hI
  rw [hf] at hf'
  cases hf'
  rw [ha.eq] at hw
  refine W.lab (hw.mono fun e F' h' q => ?_)
  replace q := q.go
  refine ⟨?_⟩
  cases e with
  | goto i => obtain ⟨s', h1, h2, h3, h4⟩ := q; exact ⟨s', by omega, h2, h3, h4⟩
  | _ => exact q
end
section
variable {P : Program} {T : Nat → CallF} {n : Nat} {F : Fr} {h : Heap} {K : Fr → Heap → Prop} {l : List AOper} {d : Option Nat} {x y : Operand} {e : TypeId} {α : Type}
theorem GQ.fin {F : Fr} {h : Heap} {R : Nat → Fr → Heap → Prop} {Q : Ex → Fr → Heap → Prop} {i : Nat} (H : FinW (R i F h)) : GQ R Q (.goto i) F h := GQ.g H.go
/-- A row of nothing, its room told. -/
theorem WO.make0 (E : Enc α) {sz bytes : Nat} {z : List Value} {j i : IntKind} {c : Int} (hx : evF F x = .s (.int j 0)) (hy : evF F y = .s (.int i c)) (hs : E.sz = sz) (h0 : 0 ≤ c) (h2 : c * bytes ≤ 140737488355328) (h3 : c ≤ 9223372036854775807)
    (k : ∀ a H, Out E e h H a [] → WO P T n l (putF d a F) H K) : WO P T n (⟨d, none, .e (.make e sz bytes z x y)⟩ :: l) F h K := by
  subst hs
  refine WO.op (fun ho => ⟨0, fun j _ => ?_⟩) (k (.sl h.length 0 0 0 E.sz) (h ++ [⟨0, e, E.sz, true, (List.replicate c.toNat (z.map AV.s)).flatten⟩]) ⟨Grows.app _ _, .inr ⟨_, 0, 0, _, rfl, bk_new, rfl, ?_, ?_, rfl, rfl, rfl⟩, ?_⟩)
  · simp only [opds, opdsE, List.all_cons, List.all_nil, Bool.and_true, Bool.and_eq_true] at ho
    simp only [opV_e, eV, evO_fr ho.1, evO_fr ho.2, hx, hy, Option.bind_some, asI]
    rw [if_pos ⟨Int.le_refl _, h0, h2, h3⟩]
    rfl
  · simp
  · simp
  · intro b hb
    simp [bo] at hb
    omega
end
end Go.Proofs.YtffjdidakeinjaaDoor.AS
end
section
set_option autoImplicit false
set_option maxRecDepth 100000
set_option maxHeartbeats 4000000
set_option linter.unusedSimpArgs false
set_option linter.unusedVariables false
namespace Go.Proofs.YtffjdidakeinjaaDoor.AS
open Go Go.Proofs Go.RowKit Go.Proofs.YtffjdidakeinjaaDoor.AS.V

theorem WO.sfx {P : Program} {T : Nat → CallF} {n : Nat} {F : Fr} {h : Heap} {K : Fr → Heap → Prop} {l : List AOper} {d : Option Nat} {x y : Operand} {t ty : TypeId} {s : ByteArray} {k : Nat} {j : IntKind} {a : Int} (m : Nat) (hx : evF F x = .s (.string (sfx s k))) (hy : evF F y = .s (.int j a)) (ht : P.underlying t = some .string) (h0 : 0 ≤ a) (h1 : a ≤ (sfx s k).size) (hm : k + a = m) (kk : WO P T n l (putF d (.s (.string (sfx s m))) F) h K) : WO P T n (⟨d, none, .p (.sc (.slice t x (some y) none none) ty)⟩ :: l) F h K :=
  WO.sll hx hy ht h0 h1 (by rw [sfx_sfx, show k + a.toNat = m by omega]; exact kk)
theorem drop_end {α : Type} (L : List α) (k : Nat) (n : Int) (h : 0 ≤ n) (m : Nat) (hm : (k : Int) + (1 + n) = m) : (L.drop (k + 1)).drop n.toNat = L.drop m := by
  rw [List.drop_drop]
  congr 1
  omega
theorem trm_pos {s : ByteArray} {k : Nat} (h : Trm s k) : k = 0 → 0 < s.size → ¬ (bt s 0 = 32 ∨ bt s 0 = 9) := by
  rintro rfl h1
  exact of_decide_eq_false (h.2.2 h1)
theorem fquot16_FR (h : Heap) (s : ByteArray) (hs : s.size ≤ 140737488355328) : FR Tryd.prog TT 16 [.s (.string s)] h fun x H => x = .tp [.s (.string (strOfNums (fqS s).1)), .s (.int .i64 (fqS s).2)] ∧ Grows h H := by
  refine FR.of q16 (by kernel_rfl) ?_
  unfold c16
  repeat' (first
    | (refine WO.mvE out rfl ?_)
    | (refine WO.mvE a0 rfl ?_)
    | (refine WO.mvE a2 rfl ?_)
    | (refine WO.sfx (k + 1) rfl rfl (st rfl) (by omega) (by omega) (by omega) ?_)
    | (refine WO.sfx (k + 3) rfl rfl (st rfl) (by omega) (by omega) (by omega) ?_)
    | (refine WO.sfx (k + (1 + en).toNat) rfl rfl (st rfl) (by omega) (by omega) (by omega) ?_)
    | (refine LQ.fin ?_)
    | (refine EQ.fin rfl ?_)
    | (refine GQ.fin ?_)
    | (refine WO.mvs rfl ?_)
    | (refine WO.mvp rfl ?_)
    | (refine WO.mvt rfl ?_)
    | (refine WO.mv ?_)
    | (refine W.sreg ?_)
    | (refine W.sdraw ?_)
    | (refine W.reg ?_)
    | (refine W.draw ?_)
    | (refine WO.nil ?_)
    | (refine WO.gU rfl ?_)
    | (refine WO.gT rfl rfl ?_)
    | (refine WO.gF rfl rfl ?_)
    | (refine WO.ext rfl rfl ?_)
    | (refine WO.lenR (by assumption) ?_)
    | (refine WO.add rfl rfl (by first | exact wrOK (by simp only [loK, hiK]; omega) | rfl) ?_)
    | (refine WO.sub rfl rfl (by first | exact wrOK (by simp only [loK, hiK]; omega) | rfl) ?_)
    | (refine WO.lss rfl rfl ?_)
    | (refine WO.leq rfl rfl ?_)
    | (refine WO.gtr rfl rfl ?_)
    | (refine WO.geq rfl rfl ?_)
    | (refine WO.eql rfl rfl ?_)
    | (refine WO.neq rfl rfl ?_)
    | (refine WO.seql rfl rfl ?_)
    | (refine WO.sneq rfl rfl ?_)
    | (refine WO.beql rfl rfl (tb rfl) ?_)
    | (refine WO.bneq rfl rfl (tb rfl) ?_)
    | (refine WO.not rfl ?_)
    | (refine WO.not0 rfl ?_)
    | (refine WO.cvi rfl (kd rfl) (kd rfl) (by first | exact wrOK (by simp only [loK, hiK]; omega) | rfl) ?_)
    | (refine WO.cvs rfl (st rfl) (st rfl) ?_)
    | (refine WO.ix rfl rfl (st rfl) (by first | assumption | omega) (by first | assumption | omega) ?_)
    | (refine WO.slen rfl (st rfl) ?_)
    | (refine WO.iaddr (by assumption) rfl rfl (by first | assumption | omega) (by first | assumption | omega) (fun q hq => ?_))
    | (refine WO.load (by assumption) rfl rfl ?_)
    | (refine WO.loadO rfl (by assumption) rfl rfl ?_)
    | (refine WO.faddrP (by assumption) rfl (fun q hq => ?_))
    | (refine WO.nilckP (by assumption) ?_)
    | (refine WO.nilck rfl ?_)
    | (refine WO.faddr rfl ?_)
    | (refine WO.fld rfl rfl rfl ?_)
    | (refine WO.pickT rfl ?_)
    | (refine WO.pickF rfl ?_)
    | (refine WO.sll rfl rfl (st rfl) (by first | assumption | omega) (by first | assumption | omega) ?_)
    | (refine WO.slh rfl rfl (st rfl) (by first | assumption | omega) (by first | assumption | omega) ?_)
    | (refine WO.slb rfl rfl rfl (st rfl) (by first | assumption | omega) (by first | assumption | omega) (by first | assumption | omega) ?_)
    | (refine WO.mul rfl rfl (by first | exact wrOK (by simp only [loK, hiK]; omega) | rfl) ?_)
    | (refine WO.quo rfl rfl (by first | assumption | omega) (by first | exact wrOK (by simp only [loK, hiK]; omega) | rfl) ?_)
    | (refine WO.rem rfl rfl (by first | assumption | omega) ?_)
    | (refine WO.and rfl rfl ?_)
    | (refine WO.or rfl rfl ?_)
    | (refine WO.xor rfl rfl ?_)
    | (refine WO.shl rfl rfl (by first | assumption | omega) (by simp [IntKind.bits]; rfl) ?_)
    | (refine WO.shr rfl rfl (by first | assumption | omega) (by simp [IntKind.bits]; rfl) ?_)
    | (refine WO.build (C := [_]) rfl ?_)
    | (refine WO.build (C := [_, _]) rfl ?_)
    | (refine WO.build (C := [_, _, _]) rfl ?_)
    | (refine WO.build (C := [_, _, _, _]) rfl ?_)
    | (refine WO.build (C := [_, _, _, _, _]) rfl ?_)
    | (refine WO.build (C := [_, _, _, _, _, _]) rfl ?_)
    | (refine WO.build (C := [_, _, _, _, _, _, _]) rfl ?_)
    | (refine WO.eqnil (by assumption) (fun hn1 hn2 => ?_) ?_)
    | (refine W.condT rfl ?_)
    | (refine W.condF rfl ?_)
    | (refine W.condDT rfl (by first | assumption | omega) ?_)
    | (refine W.condDF rfl (by first | assumption | omega) ?_)
    | (refine W.condD rfl (fun hc => ?_) (fun hc => ?_))
    | (refine WO.gS rfl (fun hc => ?_) (fun hc => ?_) <;> try (exfalso; omega))
    | (refine WO.pickS rfl (fun hc => ?_) (fun hc => ?_) <;> try (exfalso; omega))
    | (refine W.skip ?_)
    | (refine W.block ?_)
    | (refine W.drawA rfl ?_)
    | (refine W.sdrawA rfl ?_)
    | (refine And.intro rfl ?_)
    | (refine W.exit ?_)
    | (refine W.ret ?_)
    | (refine hk (0, 0, a0, []) _ _ _ _ _ (by dsimp only; omega) ⟨congrArg (fun x => AV.s (.string x)) (sfx_0 s).symm, rfl, rfl, trivial⟩ ⟨out0, Nat.zero_le _, Nat.zero_le _, ⟨Int.le_refl _, Int.le_refl _⟩, FqI.ini s⟩ rfl)
    | (refine W.seq ?_)
    | (refine W.goto ?_)
    | (refine W.label ?_)
    | (refine SQ.nn ?_)
    | (refine SQ.x ?_)
    | (refine SQ.r ?_)
    | (refine SQ.g ?_)
    | (refine BQ.nn ?_)
    | (refine BQ.x ?_)
    | (refine BQ.r ?_)
    | (refine BQ.g ?_)
    | (refine BQ.y rfl ?_)
    | (refine LQ.x ?_)
    | (refine LQ.r ?_)
    | (refine LQ.g ?_)
    | (refine GQ.nn ?_)
    | (refine GQ.x ?_)
    | (refine GQ.r ?_)
    | (refine WO.call rfl (hcode _) ?_; rintro _ H ⟨cv, rfl, hcv, hH⟩; obtain rfl := hH.symm; generalize hcbe : codS (sfx s (k + 1)) = cb at hcv hcz hx; rw [hcbe] at hcode; cases cb <;> (try have hcz := hcz rfl))
    | (refine WO.call rfl (hend _) ?_; rintro _ H ⟨rfl, hH⟩; obtain rfl := hH.symm; cases eb)
    | (refine WO.call rfl (trim32_FR _ (sfx s k) (by omega)) ?_; rintro _ H ⟨m, hxx, htr, hg⟩; have htd := trm_drop htr; have htm := htr.1; have htp := trm_pos htr; have ho2 := ho.grows hg; rw [show sfx (sfx s k) m = sfx s (k + m) from sfx_sfx s k m] at hxx htd; subst hxx; have hsz2 := sfx_size s (k + m); have hend2 := fun hp => end31_FR hp (sfx s (k + m)) (by omega); have heL2 := endP_L (sfx s (k + m)); generalize endP (sfx s (k + m)) = ep2 at hend2 heL2; obtain ⟨en2, eb2⟩ := ep2)
    | (refine WO.call rfl (hend2 _) ?_; rintro _ H ⟨rfl, hH⟩; obtain rfl := hH.symm; cases eb2)
    | (refine WO.b2s ho.row ?_)
    | (refine WO.bslI rfl rfl (fun a1 H3 g3 o3 nw3 => ?_))
    | (refine WO.appO (ho.grows g3) o3.row rfl (encI_ok _ _) (by simp only [List.length_cons, List.length_nil]; omega) (by simp only [List.length_cons, List.length_nil]; omega) (fun a2 H4 out4 ap => ?_))
    | (refine WO.appO ((ho.grows hg).grows g3) o3.row rfl (encI_ok _ _) (by simp only [List.length_cons, List.length_nil]; omega) (by simp only [List.length_cons, List.length_nil]; omega) (fun a2 H4 out4 ap => ?_))
    | (refine WO.make0 (encI .u8) rfl rfl rfl (by omega) (by omega) (by omega) (fun a0 H1 out0 => ?_))
    | (refine W.scopeK (σ := Nat × Int × AV × List Int) (fun σ => [(0, .s (.string (sfx s σ.1))), (4, σ.2.2.1), (5, .s (.int .i64 σ.2.1))]) (fun _ => 0) (fun σ h' => Out (encI .u8) 5 h h' σ.2.2.1 σ.2.2.2 ∧ σ.1 ≤ s.size ∧ σ.2.2.2.length ≤ σ.1 ∧ (0 ≤ σ.2.1 ∧ σ.2.1 ≤ σ.1) ∧ FqI (fqS s) σ.2.2.2 σ.2.1 ((bytesOf s).drop σ.1)) (fun σ => s.size - σ.1) s.size (fun σ G h' hI => ?_) (fun R hk => ?_); obtain ⟨k, bad, out, O⟩ := σ; obtain ⟨ho, hi, hO, hbad, hF⟩ := hI; dsimp only at ho hi hO hbad hF ⊢; refine ⟨_, rfl, ?_⟩; have hsz := sfx_size s k; have hr := bt_range (sfx s k) 0; have hcode := fun hp => code_FR hp (sfx s (k + 1)) (by rw [sfx_size]; omega); have hend := fun hp => end31_FR hp (sfx s (k + 1)) (by rw [sfx_size]; omega); have hel := endP_le (sfx s (k + 1)); have heL := endP_L (sfx s (k + 1)); have hx := codS_hex (sfx s (k + 1)); have hcz : codS (sfx s (k + 1)) = true → k + 3 ≤ s.size := (fun e => by have := (of_decide_eq_true e).1; rw [sfx_size] at this; omega); rw [sfx_bytes] at heL hx; rw [sfx_size] at hel; generalize hR : fqS s = R at *; generalize endP (sfx s (k + 1)) = ep at hend hel heL; obtain ⟨en, eb⟩ := ep; by_cases hz : k < s.size; have hne : ¬ sfx s k = ⟨#[]⟩ := (fun e => by rw [e, size_nil] at hsz; omega); have hdr : (bytesOf s).drop k = bt (sfx s k) 0 :: (bytesOf s).drop (k + 1) := (by rw [bytesOf_drop_cons s k (by omega)]; have := sfx_bt s k 0; simp only [Nat.add_zero] at this; rw [show ((0 : Nat) : Int) = 0 from rfl] at this; rw [this])))
  all_goals first
    | (rw [List.drop_eq_nil_of_le (by rw [bytesOf_length]; omega)] at hF
       have e := hF.nil
       exact ⟨by rw [e]; rfl, ho.g⟩)
    | (exfalso; exact hc (ByteArray.ext (Array.size_eq_zero_iff.1 (by show (sfx s k).size = 0; omega))))
    | (rw [hdr] at hF
       have e := hF.code hc hx.symm (v := cv) (by rw [hcv rfl, ← val2_eq hcbe, sfx_bytes])
       rw [List.drop_drop] at e
       exact ⟨(k + 3, bad, a2, O ++ [cv]), by dsimp only; omega, rfl, ⟨rfl, rfl, rfl, trivial⟩, out4, by dsimp only; omega, by dsimp only; rw [List.length_append, List.length_singleton]; omega, ⟨by dsimp only; omega, by dsimp only; omega⟩, e⟩)
    | (rw [hdr] at hF
       have e := hF.en hc hx.symm (heL.1.1 rfl)
       rw [← heL.2 rfl, drop_end _ k en (by omega) (k + (1 + en).toNat) (by omega)] at e
       exact ⟨(k + (1 + en).toNat, bad, out, O), by dsimp only; omega, rfl, ⟨rfl, rfl, rfl, trivial⟩, ho, by dsimp only; omega, by dsimp only; omega, ⟨by dsimp only; omega, by dsimp only; omega⟩, e⟩)
    | (rw [hdr] at hF
       have e := hF.wrong hc hx.symm (fun e => by have := heL.1.2 e; cases this)
       exact ⟨(k + 1, bad + 1, a2, _), by dsimp only; omega, rfl, ⟨rfl, rfl, rfl, trivial⟩, out4, by dsimp only; omega, by dsimp only; rw [List.length_append, List.length_singleton]; omega, ⟨by dsimp only; omega, by dsimp only; omega⟩, e⟩)
    | (have hb : bt (sfx s k) 0 = 32 ∨ bt (sfx s k) 0 = 9 := by omega
       rw [sfx_bytes s k, hdr, dropB_cons hb] at htd
       have hmp : m ≠ 0 := fun e => htp e (by omega) hb
       rw [hdr] at hF
       have e := hF.bl hb (by rw [← htd]; exact heL2.1.1 rfl)
       rw [← htd, sfx_bytes] at e
       exact ⟨(k + m, bad, out, O), by dsimp only; omega, rfl, ⟨rfl, rfl, rfl, trivial⟩, ho2, by dsimp only; omega, by dsimp only; omega, ⟨by dsimp only; omega, by dsimp only; omega⟩, e⟩)
    | (have hb : bt (sfx s k) 0 = 32 ∨ bt (sfx s k) 0 = 9 := by omega
       rw [sfx_bytes s k, hdr, dropB_cons hb] at htd
       rw [hdr] at hF
       have e := hF.one (by omega) (fun e => by have := heL2.1.2 (by rw [htd]; exact e.2); cases this)
       exact ⟨(k + 1, bad, a2, _), by dsimp only; omega, rfl, ⟨rfl, rfl, rfl, trivial⟩, out4, by dsimp only; omega, by dsimp only; rw [List.length_append, List.length_singleton]; omega, ⟨by dsimp only; omega, by dsimp only; omega⟩, e⟩)
    | (rw [hdr] at hF
       have e := hF.one (by omega) (fun e => by have := e.1; omega)
       exact ⟨(k + 1, bad, a2, _), by dsimp only; omega, rfl, ⟨rfl, rfl, rfl, trivial⟩, out4, by dsimp only; omega, by dsimp only; rw [List.length_append, List.length_singleton]; omega, ⟨by dsimp only; omega, by dsimp only; omega⟩, e⟩)
end Go.Proofs.YtffjdidakeinjaaDoor.AS
end
section
set_option autoImplicit false
set_option maxRecDepth 100000
set_option maxHeartbeats 4000000
set_option linter.unusedSimpArgs false
set_option linter.unusedVariables false
namespace Go.Proofs.YtffjdidakeinjaaDoor.AS
open Go Go.Proofs Go.RowKit Go.Proofs.YtffjdidakeinjaaDoor.AS.V

/-- A charset's names. -/
def nmS (c : Int) : ByteArray × ByteArray := if c = 1 then (⟨#[85, 83, 45, 65, 83, 67, 73, 73]⟩, ⟨#[65, 83, 67, 73, 73]⟩) else if c = 2 then (⟨#[85, 84, 70, 45, 56]⟩, ⟨#[85, 84, 70, 56]⟩) else if c = 3 then (⟨#[73, 83, 79, 45, 56, 56, 53, 57, 45, 49]⟩, ⟨#[76, 65, 84, 73, 78, 49]⟩) else if c = 4 then (⟨#[73, 83, 79, 45, 56, 56, 53, 57, 45, 49, 53]⟩, ⟨#[76, 65, 84, 73, 78, 57]⟩) else if c = 5 then (⟨#[87, 73, 78, 68, 79, 87, 83, 45, 49, 50, 53, 50]⟩, ⟨#[67, 80, 49, 50, 53, 50]⟩) else (⟨#[]⟩, ⟨#[]⟩)
theorem names_FR (h : Heap) (c : Int) : FR Tryd.prog TT 52 [.s (.int .u8 c)] h fun x H => x = .tp [.s (.string (nmS c).1), .s (.string (nmS c).2)] ∧ H = h := by
  unfold nmS
  refine FR.of q52 (by kernel_rfl) ?_
  unfold c52
  repeat' (first
    | (refine LQ.fin ?_)
    | (refine EQ.fin rfl ?_)
    | (refine WO.mvs rfl ?_)
    | (refine WO.mvp rfl ?_)
    | (refine WO.mvt rfl ?_)
    | (refine WO.mv ?_)
    | (refine W.sreg ?_)
    | (refine W.sdraw ?_)
    | (refine W.reg ?_)
    | (refine W.draw ?_)
    | (refine WO.nil ?_)
    | (refine WO.gU rfl ?_)
    | (refine WO.gT rfl rfl ?_)
    | (refine WO.gF rfl rfl ?_)
    | (refine WO.ext rfl rfl ?_)
    | (refine WO.lenR (by assumption) ?_)
    | (refine WO.add rfl rfl (by first | exact wrOK (by simp only [loK, hiK]; omega) | rfl) ?_)
    | (refine WO.sub rfl rfl (by first | exact wrOK (by simp only [loK, hiK]; omega) | rfl) ?_)
    | (refine WO.lss rfl rfl ?_)
    | (refine WO.leq rfl rfl ?_)
    | (refine WO.gtr rfl rfl ?_)
    | (refine WO.geq rfl rfl ?_)
    | (refine WO.eql rfl rfl ?_)
    | (refine WO.neq rfl rfl ?_)
    | (refine WO.seql rfl rfl ?_)
    | (refine WO.sneq rfl rfl ?_)
    | (refine WO.beql rfl rfl (tb rfl) ?_)
    | (refine WO.bneq rfl rfl (tb rfl) ?_)
    | (refine WO.not rfl ?_)
    | (refine WO.not0 rfl ?_)
    | (refine WO.cvi rfl (kd rfl) (kd rfl) (by first | exact wrOK (by simp only [loK, hiK]; omega) | rfl) ?_)
    | (refine WO.cvs rfl (st rfl) (st rfl) ?_)
    | (refine WO.ix rfl rfl (st rfl) (by first | assumption | omega) (by first | assumption | omega) ?_)
    | (refine WO.slen rfl (st rfl) ?_)
    | (refine WO.iaddr (by assumption) rfl rfl (by first | assumption | omega) (by first | assumption | omega) (fun q hq => ?_))
    | (refine WO.load (by assumption) rfl rfl ?_)
    | (refine WO.loadO rfl (by assumption) rfl rfl ?_)
    | (refine WO.faddrP (by assumption) rfl (fun q hq => ?_))
    | (refine WO.nilckP (by assumption) ?_)
    | (refine WO.nilck rfl ?_)
    | (refine WO.faddr rfl ?_)
    | (refine WO.fld rfl rfl rfl ?_)
    | (refine WO.pickT rfl ?_)
    | (refine WO.pickF rfl ?_)
    | (refine WO.sll rfl rfl (st rfl) (by first | assumption | omega) (by first | assumption | omega) ?_)
    | (refine WO.slh rfl rfl (st rfl) (by first | assumption | omega) (by first | assumption | omega) ?_)
    | (refine WO.slb rfl rfl rfl (st rfl) (by first | assumption | omega) (by first | assumption | omega) (by first | assumption | omega) ?_)
    | (refine WO.mul rfl rfl (by first | exact wrOK (by simp only [loK, hiK]; omega) | rfl) ?_)
    | (refine WO.quo rfl rfl (by first | assumption | omega) (by first | exact wrOK (by simp only [loK, hiK]; omega) | rfl) ?_)
    | (refine WO.rem rfl rfl (by first | assumption | omega) ?_)
    | (refine WO.and rfl rfl ?_)
    | (refine WO.or rfl rfl ?_)
    | (refine WO.xor rfl rfl ?_)
    | (refine WO.shl rfl rfl (by first | assumption | omega) (by simp [IntKind.bits]; rfl) ?_)
    | (refine WO.shr rfl rfl (by first | assumption | omega) (by simp [IntKind.bits]; rfl) ?_)
    | (refine WO.build (C := [_]) rfl ?_)
    | (refine WO.build (C := [_, _]) rfl ?_)
    | (refine WO.build (C := [_, _, _]) rfl ?_)
    | (refine WO.build (C := [_, _, _, _]) rfl ?_)
    | (refine WO.build (C := [_, _, _, _, _]) rfl ?_)
    | (refine WO.build (C := [_, _, _, _, _, _]) rfl ?_)
    | (refine WO.build (C := [_, _, _, _, _, _, _]) rfl ?_)
    | (refine WO.eqnil (by assumption) (fun hn1 hn2 => ?_) ?_)
    | (refine W.condT rfl ?_)
    | (refine W.condF rfl ?_)
    | (refine W.condDT rfl (by first | assumption | omega) ?_)
    | (refine W.condDF rfl (by first | assumption | omega) ?_)
    | (refine W.condD rfl (fun hc => ?_) (fun hc => ?_))
    | (refine WO.gS rfl (fun hc => ?_) (fun hc => ?_) <;> try (exfalso; omega))
    | (refine WO.pickS rfl (fun hc => ?_) (fun hc => ?_) <;> try (exfalso; omega))
    | (refine W.skip ?_)
    | (refine W.block ?_)
    | (refine W.drawA rfl ?_)
    | (refine W.sdrawA rfl ?_)
    | (refine And.intro rfl ?_)
    | (refine W.exit ?_)
    | (refine W.ret ?_)
    | (refine W.seq ?_)
    | (refine W.goto ?_)
    | (refine W.label ?_)
    | (refine SQ.nn ?_)
    | (refine SQ.x ?_)
    | (refine SQ.r ?_)
    | (refine SQ.g ?_)
    | (refine BQ.nn ?_)
    | (refine BQ.x ?_)
    | (refine BQ.r ?_)
    | (refine BQ.g ?_)
    | (refine BQ.y rfl ?_)
    | (refine LQ.x ?_)
    | (refine LQ.r ?_)
    | (refine LQ.g ?_)
    | (refine GQ.nn ?_)
    | (refine GQ.x ?_)
    | (refine GQ.r ?_))
  all_goals (refine ⟨?_, rfl⟩; (repeat' split) <;> first | rfl | (exfalso; omega))
def nameS (c : Int) : ByteArray × Int := if (nmS c).1 = ⟨#[]⟩ then (⟨#[]⟩, 14) else ((nmS c).1, 0)
theorem name_FR (h : Heap) (c : Int) : FR Tryd.prog TT 38 [.s (.int .u8 c)] h fun x H => x = .tp [.s (.string (nameS c).1), .s (.int .i64 (nameS c).2)] ∧ H = h := by
  have hk := names_FR h c
  unfold nameS
  generalize nmS c = nm at *
  refine FR.of q38 (by kernel_rfl) ?_
  unfold c38
  repeat' (first
    | (refine WO.call rfl hk ?_; rintro _ H ⟨rfl, hH⟩; obtain rfl := hH.symm)
    | (refine LQ.fin ?_)
    | (refine EQ.fin rfl ?_)
    | (refine WO.mvs rfl ?_)
    | (refine WO.mvp rfl ?_)
    | (refine WO.mvt rfl ?_)
    | (refine WO.mv ?_)
    | (refine W.sreg ?_)
    | (refine W.sdraw ?_)
    | (refine W.reg ?_)
    | (refine W.draw ?_)
    | (refine WO.nil ?_)
    | (refine WO.gU rfl ?_)
    | (refine WO.gT rfl rfl ?_)
    | (refine WO.gF rfl rfl ?_)
    | (refine WO.ext rfl rfl ?_)
    | (refine WO.lenR (by assumption) ?_)
    | (refine WO.add rfl rfl (by first | exact wrOK (by simp only [loK, hiK]; omega) | rfl) ?_)
    | (refine WO.sub rfl rfl (by first | exact wrOK (by simp only [loK, hiK]; omega) | rfl) ?_)
    | (refine WO.lss rfl rfl ?_)
    | (refine WO.leq rfl rfl ?_)
    | (refine WO.gtr rfl rfl ?_)
    | (refine WO.geq rfl rfl ?_)
    | (refine WO.eql rfl rfl ?_)
    | (refine WO.neq rfl rfl ?_)
    | (refine WO.seql rfl rfl ?_)
    | (refine WO.sneq rfl rfl ?_)
    | (refine WO.beql rfl rfl (tb rfl) ?_)
    | (refine WO.bneq rfl rfl (tb rfl) ?_)
    | (refine WO.not rfl ?_)
    | (refine WO.not0 rfl ?_)
    | (refine WO.cvi rfl (kd rfl) (kd rfl) (by first | exact wrOK (by simp only [loK, hiK]; omega) | rfl) ?_)
    | (refine WO.cvs rfl (st rfl) (st rfl) ?_)
    | (refine WO.ix rfl rfl (st rfl) (by first | assumption | omega) (by first | assumption | omega) ?_)
    | (refine WO.slen rfl (st rfl) ?_)
    | (refine WO.iaddr (by assumption) rfl rfl (by first | assumption | omega) (by first | assumption | omega) (fun q hq => ?_))
    | (refine WO.load (by assumption) rfl rfl ?_)
    | (refine WO.loadO rfl (by assumption) rfl rfl ?_)
    | (refine WO.faddrP (by assumption) rfl (fun q hq => ?_))
    | (refine WO.nilckP (by assumption) ?_)
    | (refine WO.nilck rfl ?_)
    | (refine WO.faddr rfl ?_)
    | (refine WO.fld rfl rfl rfl ?_)
    | (refine WO.pickT rfl ?_)
    | (refine WO.pickF rfl ?_)
    | (refine WO.sll rfl rfl (st rfl) (by first | assumption | omega) (by first | assumption | omega) ?_)
    | (refine WO.slh rfl rfl (st rfl) (by first | assumption | omega) (by first | assumption | omega) ?_)
    | (refine WO.slb rfl rfl rfl (st rfl) (by first | assumption | omega) (by first | assumption | omega) (by first | assumption | omega) ?_)
    | (refine WO.mul rfl rfl (by first | exact wrOK (by simp only [loK, hiK]; omega) | rfl) ?_)
    | (refine WO.quo rfl rfl (by first | assumption | omega) (by first | exact wrOK (by simp only [loK, hiK]; omega) | rfl) ?_)
    | (refine WO.rem rfl rfl (by first | assumption | omega) ?_)
    | (refine WO.and rfl rfl ?_)
    | (refine WO.or rfl rfl ?_)
    | (refine WO.xor rfl rfl ?_)
    | (refine WO.shl rfl rfl (by first | assumption | omega) (by simp [IntKind.bits]; rfl) ?_)
    | (refine WO.shr rfl rfl (by first | assumption | omega) (by simp [IntKind.bits]; rfl) ?_)
    | (refine WO.build (C := [_]) rfl ?_)
    | (refine WO.build (C := [_, _]) rfl ?_)
    | (refine WO.build (C := [_, _, _]) rfl ?_)
    | (refine WO.build (C := [_, _, _, _]) rfl ?_)
    | (refine WO.build (C := [_, _, _, _, _]) rfl ?_)
    | (refine WO.build (C := [_, _, _, _, _, _]) rfl ?_)
    | (refine WO.build (C := [_, _, _, _, _, _, _]) rfl ?_)
    | (refine WO.eqnil (by assumption) (fun hn1 hn2 => ?_) ?_)
    | (refine W.condT rfl ?_)
    | (refine W.condF rfl ?_)
    | (refine W.condDT rfl (by first | assumption | omega) ?_)
    | (refine W.condDF rfl (by first | assumption | omega) ?_)
    | (refine W.condD rfl (fun hc => ?_) (fun hc => ?_))
    | (refine WO.gS rfl (fun hc => ?_) (fun hc => ?_) <;> try (exfalso; omega))
    | (refine WO.pickS rfl (fun hc => ?_) (fun hc => ?_) <;> try (exfalso; omega))
    | (refine W.skip ?_)
    | (refine W.block ?_)
    | (refine W.drawA rfl ?_)
    | (refine W.sdrawA rfl ?_)
    | (refine And.intro rfl ?_)
    | (refine W.exit ?_)
    | (refine W.ret ?_)
    | (refine W.seq ?_)
    | (refine W.goto ?_)
    | (refine W.label ?_)
    | (refine SQ.nn ?_)
    | (refine SQ.x ?_)
    | (refine SQ.r ?_)
    | (refine SQ.g ?_)
    | (refine BQ.nn ?_)
    | (refine BQ.x ?_)
    | (refine BQ.r ?_)
    | (refine BQ.g ?_)
    | (refine BQ.y rfl ?_)
    | (refine LQ.x ?_)
    | (refine LQ.r ?_)
    | (refine LQ.g ?_)
    | (refine GQ.nn ?_)
    | (refine GQ.x ?_)
    | (refine GQ.r ?_))
  all_goals (refine ⟨?_, rfl⟩; first | (rw [if_pos (by assumption)]; rfl) | (rw [if_neg (by assumption)]; rfl))
theorem nameS_eq (c : Int) : nameS c = if c = 1 then (⟨#[85, 83, 45, 65, 83, 67, 73, 73]⟩, 0) else if c = 2 then (⟨#[85, 84, 70, 45, 56]⟩, 0) else if c = 3 then (⟨#[73, 83, 79, 45, 56, 56, 53, 57, 45, 49]⟩, 0) else if c = 4 then (⟨#[73, 83, 79, 45, 56, 56, 53, 57, 45, 49, 53]⟩, 0) else if c = 5 then (⟨#[87, 73, 78, 68, 79, 87, 83, 45, 49, 50, 53, 50]⟩, 0) else (⟨#[]⟩, 14) := by
  unfold nameS nmS
  (repeat' split) <;> first | rfl | (exfalso; omega) | simp_all
/-- A letter's byte. -/
def byS (c n : Int) : Int × Bool := match (List.range 256).find? (fun b : Nat => decide (letS c (b : Int) = n)) with
  | some b => ((b : Int), decide (n ≠ 65533))
  | none => (0, false)
theorem byteOf_FR (h : Heap) (c n : Int) : FR Tryd.prog TT 39 [.s (.int .u8 c), .s (.int .i32 n)] h fun x H => x = .tp [.s (.int .u8 (byS c n).1), .s (.bool (byS c n).2)] ∧ H = h := by
  refine FR.of q39 (by kernel_rfl) ?_
  unfold c39
  repeat' (first
    | (refine W.loopI (σ := Nat) (fun i => [(0, .s (.int .u8 c)), (1, .s (.int .i32 n)), (7, .s (.int .i64 i))]) (fun i h' => h' = h ∧ i ≤ 256 ∧ ∀ j : Nat, j < i → letS c j ≠ n) (fun i => 256 - i) 0 ⟨rfl, rfl, rfl, trivial⟩ ⟨rfl, by omega, fun j hj => absurd hj (by omega)⟩ ?_; rintro i G h' ⟨rfl, hi, hm⟩)
    | (refine WO.call rfl (let_FR _ c i (by omega) (by omega)) ?_; rintro _ H ⟨rfl, hH⟩; obtain rfl := hH.symm)
    | (refine LQ.fin ?_)
    | (refine EQ.fin rfl ?_)
    | (refine WO.mvs rfl ?_)
    | (refine WO.mvp rfl ?_)
    | (refine WO.mvt rfl ?_)
    | (refine WO.mv ?_)
    | (refine W.sreg ?_)
    | (refine W.sdraw ?_)
    | (refine W.reg ?_)
    | (refine W.draw ?_)
    | (refine WO.nil ?_)
    | (refine WO.gU rfl ?_)
    | (refine WO.gT rfl rfl ?_)
    | (refine WO.gF rfl rfl ?_)
    | (refine WO.ext rfl rfl ?_)
    | (refine WO.lenR (by assumption) ?_)
    | (refine WO.add rfl rfl (by first | exact wrOK (by simp only [loK, hiK]; omega) | rfl) ?_)
    | (refine WO.sub rfl rfl (by first | exact wrOK (by simp only [loK, hiK]; omega) | rfl) ?_)
    | (refine WO.lss rfl rfl ?_)
    | (refine WO.leq rfl rfl ?_)
    | (refine WO.gtr rfl rfl ?_)
    | (refine WO.geq rfl rfl ?_)
    | (refine WO.eql rfl rfl ?_)
    | (refine WO.neq rfl rfl ?_)
    | (refine WO.seql rfl rfl ?_)
    | (refine WO.sneq rfl rfl ?_)
    | (refine WO.beql rfl rfl (tb rfl) ?_)
    | (refine WO.bneq rfl rfl (tb rfl) ?_)
    | (refine WO.not rfl ?_)
    | (refine WO.not0 rfl ?_)
    | (refine WO.cvi rfl (kd rfl) (kd rfl) (by first | exact wrOK (by simp only [loK, hiK]; omega) | rfl) ?_)
    | (refine WO.cvs rfl (st rfl) (st rfl) ?_)
    | (refine WO.ix rfl rfl (st rfl) (by first | assumption | omega) (by first | assumption | omega) ?_)
    | (refine WO.slen rfl (st rfl) ?_)
    | (refine WO.iaddr (by assumption) rfl rfl (by first | assumption | omega) (by first | assumption | omega) (fun q hq => ?_))
    | (refine WO.load (by assumption) rfl rfl ?_)
    | (refine WO.loadO rfl (by assumption) rfl rfl ?_)
    | (refine WO.faddrP (by assumption) rfl (fun q hq => ?_))
    | (refine WO.nilckP (by assumption) ?_)
    | (refine WO.nilck rfl ?_)
    | (refine WO.faddr rfl ?_)
    | (refine WO.fld rfl rfl rfl ?_)
    | (refine WO.pickT rfl ?_)
    | (refine WO.pickF rfl ?_)
    | (refine WO.sll rfl rfl (st rfl) (by first | assumption | omega) (by first | assumption | omega) ?_)
    | (refine WO.slh rfl rfl (st rfl) (by first | assumption | omega) (by first | assumption | omega) ?_)
    | (refine WO.slb rfl rfl rfl (st rfl) (by first | assumption | omega) (by first | assumption | omega) (by first | assumption | omega) ?_)
    | (refine WO.mul rfl rfl (by first | exact wrOK (by simp only [loK, hiK]; omega) | rfl) ?_)
    | (refine WO.quo rfl rfl (by first | assumption | omega) (by first | exact wrOK (by simp only [loK, hiK]; omega) | rfl) ?_)
    | (refine WO.rem rfl rfl (by first | assumption | omega) ?_)
    | (refine WO.and rfl rfl ?_)
    | (refine WO.or rfl rfl ?_)
    | (refine WO.xor rfl rfl ?_)
    | (refine WO.shl rfl rfl (by first | assumption | omega) (by simp [IntKind.bits]; rfl) ?_)
    | (refine WO.shr rfl rfl (by first | assumption | omega) (by simp [IntKind.bits]; rfl) ?_)
    | (refine WO.build (C := [_]) rfl ?_)
    | (refine WO.build (C := [_, _]) rfl ?_)
    | (refine WO.build (C := [_, _, _]) rfl ?_)
    | (refine WO.build (C := [_, _, _, _]) rfl ?_)
    | (refine WO.build (C := [_, _, _, _, _]) rfl ?_)
    | (refine WO.build (C := [_, _, _, _, _, _]) rfl ?_)
    | (refine WO.build (C := [_, _, _, _, _, _, _]) rfl ?_)
    | (refine WO.eqnil (by assumption) (fun hn1 hn2 => ?_) ?_)
    | (refine W.condT rfl ?_)
    | (refine W.condF rfl ?_)
    | (refine W.condDT rfl (by first | assumption | omega) ?_)
    | (refine W.condDF rfl (by first | assumption | omega) ?_)
    | (refine W.condD rfl (fun hc => ?_) (fun hc => ?_))
    | (refine WO.gS rfl (fun hc => ?_) (fun hc => ?_) <;> try (exfalso; omega))
    | (refine WO.pickS rfl (fun hc => ?_) (fun hc => ?_) <;> try (exfalso; omega))
    | (refine W.skip ?_)
    | (refine W.block ?_)
    | (refine W.drawA rfl ?_)
    | (refine W.sdrawA rfl ?_)
    | (refine And.intro rfl ?_)
    | (refine W.exit ?_)
    | (refine W.ret ?_)
    | (refine W.seq ?_)
    | (refine W.goto ?_)
    | (refine W.label ?_)
    | (refine SQ.nn ?_)
    | (refine SQ.x ?_)
    | (refine SQ.r ?_)
    | (refine SQ.g ?_)
    | (refine BQ.nn ?_)
    | (refine BQ.x ?_)
    | (refine BQ.r ?_)
    | (refine BQ.g ?_)
    | (refine BQ.y rfl ?_)
    | (refine LQ.x ?_)
    | (refine LQ.r ?_)
    | (refine LQ.g ?_)
    | (refine GQ.nn ?_)
    | (refine GQ.x ?_)
    | (refine GQ.r ?_))
  · have e : (List.range 256).find? (fun b : Nat => decide (letS c (b : Int) = n)) = some i := by
      rw [List.find?_range_eq_some]
      exact ⟨by simpa using hc, by simp; omega, fun j hj => by simpa using hm j hj⟩
    refine ⟨?_, rfl⟩
    unfold byS; rw [e]; rfl
  · exact ⟨i + 1, by omega, ⟨rfl, rfl, rfl, trivial⟩, rfl, by omega, fun j hj => by
      rcases Nat.lt_succ_iff_lt_or_eq.1 hj with h | rfl
      · exact hm j h
      · exact hc⟩
  · have e : (List.range 256).find? (fun b : Nat => decide (letS c (b : Int) = n)) = none := by
      rw [List.find?_eq_none]
      intro j hj
      have hj2 : j < 256 := List.mem_range.1 hj
      simpa using hm j (by omega)
    refine ⟨?_, rfl⟩
    unfold byS; rw [e]; rfl
theorem take_snoc {α : Type} [Inhabited α] {L : List α} {i : Nat} (h : i < L.length) : L.take (i + 1) = L.take i ++ [nth L i] := by
  rw [List.take_add_one, List.getElem?_eq_getElem h, nth_eq (by simpa using h)]; simp
theorem same_FR (h : Heap) (a b : AV) (A B : List Int) (ra : Row (encI .i32) h a A) (rb : Row (encI .i32) h b B) (hla : A.length ≤ 4611686018427387903) (hlb : B.length ≤ 4611686018427387903) :
    FR Tryd.prog TT 23 [a, b] h fun x H => x = .s (.bool (decide (A = B))) ∧ H = h := by
  refine FR.of q23 (by kernel_rfl) ?_
  unfold c23
  repeat' (first
    | (refine W.loopI (σ := Nat) (fun i => [(0, a), (1, b), (12, .s (.int .i64 A.length)), (13, .s (.int .i64 i))]) (fun i h' => h' = h ∧ i ≤ A.length ∧ A.length = B.length ∧ A.take i = B.take i) (fun i => A.length - i) 0 ⟨rfl, rfl, rfl, rfl, trivial⟩ ⟨rfl, Nat.zero_le _, by omega, rfl⟩ ?_; rintro i G h' ⟨rfl, hi, hab, hm⟩)
    | (refine LQ.fin ?_)
    | (refine EQ.fin rfl ?_)
    | (refine WO.mvs rfl ?_)
    | (refine WO.mvp rfl ?_)
    | (refine WO.mvt rfl ?_)
    | (refine WO.mv ?_)
    | (refine W.sreg ?_)
    | (refine W.sdraw ?_)
    | (refine W.reg ?_)
    | (refine W.draw ?_)
    | (refine WO.nil ?_)
    | (refine WO.gU rfl ?_)
    | (refine WO.gT rfl rfl ?_)
    | (refine WO.gF rfl rfl ?_)
    | (refine WO.ext rfl rfl ?_)
    | (refine WO.lenR (by assumption) ?_)
    | (refine WO.add rfl rfl (by first | exact wrOK (by simp only [loK, hiK]; omega) | rfl) ?_)
    | (refine WO.sub rfl rfl (by first | exact wrOK (by simp only [loK, hiK]; omega) | rfl) ?_)
    | (refine WO.lss rfl rfl ?_)
    | (refine WO.leq rfl rfl ?_)
    | (refine WO.gtr rfl rfl ?_)
    | (refine WO.geq rfl rfl ?_)
    | (refine WO.eql rfl rfl ?_)
    | (refine WO.neq rfl rfl ?_)
    | (refine WO.seql rfl rfl ?_)
    | (refine WO.sneq rfl rfl ?_)
    | (refine WO.beql rfl rfl (tb rfl) ?_)
    | (refine WO.bneq rfl rfl (tb rfl) ?_)
    | (refine WO.not rfl ?_)
    | (refine WO.not0 rfl ?_)
    | (refine WO.cvi rfl (kd rfl) (kd rfl) (by first | exact wrOK (by simp only [loK, hiK]; omega) | rfl) ?_)
    | (refine WO.cvs rfl (st rfl) (st rfl) ?_)
    | (refine WO.ix rfl rfl (st rfl) (by first | assumption | omega) (by first | assumption | omega) ?_)
    | (refine WO.slen rfl (st rfl) ?_)
    | (refine WO.iaddr (by assumption) rfl rfl (by first | assumption | omega) (by first | assumption | omega) (fun q hq => ?_))
    | (refine WO.load (by assumption) rfl rfl ?_)
    | (refine WO.loadO rfl (by assumption) rfl rfl ?_)
    | (refine WO.faddrP (by assumption) rfl (fun q hq => ?_))
    | (refine WO.nilckP (by assumption) ?_)
    | (refine WO.nilck rfl ?_)
    | (refine WO.faddr rfl ?_)
    | (refine WO.fld rfl rfl rfl ?_)
    | (refine WO.pickT rfl ?_)
    | (refine WO.pickF rfl ?_)
    | (refine WO.sll rfl rfl (st rfl) (by first | assumption | omega) (by first | assumption | omega) ?_)
    | (refine WO.slh rfl rfl (st rfl) (by first | assumption | omega) (by first | assumption | omega) ?_)
    | (refine WO.slb rfl rfl rfl (st rfl) (by first | assumption | omega) (by first | assumption | omega) (by first | assumption | omega) ?_)
    | (refine WO.mul rfl rfl (by first | exact wrOK (by simp only [loK, hiK]; omega) | rfl) ?_)
    | (refine WO.quo rfl rfl (by first | assumption | omega) (by first | exact wrOK (by simp only [loK, hiK]; omega) | rfl) ?_)
    | (refine WO.rem rfl rfl (by first | assumption | omega) ?_)
    | (refine WO.and rfl rfl ?_)
    | (refine WO.or rfl rfl ?_)
    | (refine WO.xor rfl rfl ?_)
    | (refine WO.shl rfl rfl (by first | assumption | omega) (by simp [IntKind.bits]; rfl) ?_)
    | (refine WO.shr rfl rfl (by first | assumption | omega) (by simp [IntKind.bits]; rfl) ?_)
    | (refine WO.build (C := [_]) rfl ?_)
    | (refine WO.build (C := [_, _]) rfl ?_)
    | (refine WO.build (C := [_, _, _]) rfl ?_)
    | (refine WO.build (C := [_, _, _, _]) rfl ?_)
    | (refine WO.build (C := [_, _, _, _, _]) rfl ?_)
    | (refine WO.build (C := [_, _, _, _, _, _]) rfl ?_)
    | (refine WO.build (C := [_, _, _, _, _, _, _]) rfl ?_)
    | (refine WO.eqnil (by assumption) (fun hn1 hn2 => ?_) ?_)
    | (refine W.condT rfl ?_)
    | (refine W.condF rfl ?_)
    | (refine W.condDT rfl (by first | assumption | omega) ?_)
    | (refine W.condDF rfl (by first | assumption | omega) ?_)
    | (refine W.condD rfl (fun hc => ?_) (fun hc => ?_))
    | (refine WO.gS rfl (fun hc => ?_) (fun hc => ?_) <;> try (exfalso; omega))
    | (refine WO.pickS rfl (fun hc => ?_) (fun hc => ?_) <;> try (exfalso; omega))
    | (refine W.skip ?_)
    | (refine W.block ?_)
    | (refine W.drawA rfl ?_)
    | (refine W.sdrawA rfl ?_)
    | (refine And.intro rfl ?_)
    | (refine W.exit ?_)
    | (refine W.ret ?_)
    | (refine W.seq ?_)
    | (refine W.goto ?_)
    | (refine W.label ?_)
    | (refine SQ.nn ?_)
    | (refine SQ.x ?_)
    | (refine SQ.r ?_)
    | (refine SQ.g ?_)
    | (refine BQ.nn ?_)
    | (refine BQ.x ?_)
    | (refine BQ.r ?_)
    | (refine BQ.g ?_)
    | (refine BQ.y rfl ?_)
    | (refine LQ.x ?_)
    | (refine LQ.r ?_)
    | (refine LQ.g ?_)
    | (refine GQ.nn ?_)
    | (refine GQ.x ?_)
    | (refine GQ.r ?_))
  · exact ⟨congrArg (fun b => AV.s (.bool b)) (decide_eq_false (fun e => hc (by rw [e]))).symm, rfl⟩
  · refine ⟨congrArg (fun b => AV.s (.bool b)) (decide_eq_false (fun e => hc (by rw [e]))).symm, rfl⟩
  · exact ⟨i + 1, by omega, ⟨rfl, rfl, rfl, rfl, trivial⟩, rfl, by omega, hab, by rw [take_snoc (by omega), take_snoc (by omega), hm, Classical.not_not.1 hc]⟩
  · rw [List.take_of_length_le (by omega), List.take_of_length_le (by omega)] at hm
    exact ⟨congrArg (fun b => AV.s (.bool b)) (decide_eq_true hm).symm, rfl⟩
theorem nth_bytes {s : ByteArray} {i : Nat} (h : i < s.size) : nth (bytesOf s) (i : Int) = bt s i := by
  rw [nth_eq (by rw [bytesOf_length]; simpa using h)]
  exact bytesOf_get s i h
end Go.Proofs.YtffjdidakeinjaaDoor.AS
end
