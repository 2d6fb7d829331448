/- Of our own: an abstract machine beside the model, its soundness, and walks of the program in it. -/
import Derived.Test.YtdgnddidibpilaaDoorA19
import Derived.Test.YtdgnddidibpilaaDoorA13
set_option linter.unusedSimpArgs false
set_option linter.unusedVariables false
section
set_option autoImplicit false
set_option maxRecDepth 100000
set_option maxHeartbeats 4000000
set_option linter.unusedSimpArgs false
set_option linter.unusedVariables false
namespace Go.Proofs.YtdgnddidibpilaaDoor.AS
open Go Go.Proofs Go.RowKit Go.Proofs.YtdgnddidibpilaaDoor.AS.V

theorem ln_list (O : List Int) (f : ByteArray × ByteArray) (hz : f.2.size ≠ 0) : O ++ bytesOf f.1 ++ [58] ++ [32] ++ bytesOf f.2 ++ [10] = O ++ lnF f := by
  unfold lnF
  rw [if_neg hz]
  simp [List.append_assoc]
theorem ln_list0 (O : List Int) (f : ByteArray × ByteArray) (hz : f.2.size = 0) : O ++ bytesOf f.1 ++ [58] ++ [10] = O ++ lnF f := by
  unfold lnF
  rw [if_pos hz]
  simp [List.append_assoc]
theorem no_cr {fn v : ByteArray} (h : trimS crB v ≠ v) : okF (fn, v) = false := by
  by_cases h1 : hasB v 10 = true
  · exact okF_no (.inr (.inr (.inr (.inl h1))))
  · by_cases h2 : hasB v 13 = true
    · exact okF_no (.inr (.inr (.inr (.inr h2))))
    · exact absurd (trim_cr (Bool.eq_false_iff.2 h1) (Bool.eq_false_iff.2 h2)) h
theorem no_nm {fn v : ByteArray} (h : namN (fn ++ colon) = 0 ∨ namN (fn ++ colon) ≠ fn.size) : okF (fn, v) = false := by
  by_cases h1 : fn.size = 0
  · exact okF_no (.inl h1)
  · exact okF_no (.inr (.inl (fun e => h.elim (fun h => h1 (by rw [← e]; exact h)) (fun h => h e))))
theorem con10_FR (h : Heap) (s : ByteArray) : FR Tryd.prog TT 39 [.s (.string s), .s (.string ⟨#[10]⟩)] h fun x H => x = .s (.bool (hasB s 10)) ∧ H = h := con39_FR h s 10
theorem con13_FR (h : Heap) (s : ByteArray) : FR Tryd.prog TT 39 [.s (.string s), .s (.string ⟨#[13]⟩)] h fun x H => x = .s (.bool (hasB s 13)) ∧ H = h := con39_FR h s 13
theorem write11_FR (h : Heap) (l : AV) (L : List (ByteArray × ByteArray)) (r : Row encF h l L) (hL : L.length ≤ 1048576) (hT : (L.flatMap lnF).length ≤ 8388608) : FR Tryd.prog TT 11 [l] h fun x H => x = .tp [.s (.string (writeS L).1), .s (.int .i64 (writeS L).2)] ∧ Grows h H := by
  have h10 := sz10
  refine FR.of q11 (by kernel_rfl) ?_
  unfold c11
  repeat' (first
    | (refine WO.mvE l rfl ?_)
    | (refine WO.lenR r ?_)
    | (refine WO.iaddr hr rfl rfl (by omega) (by omega) (fun q hq => ?_); rw [hf] at hq)
    | (refine LQ.fin ?_)
    | (refine EQ.fin rfl ?_)
    | (refine EQ.finN rfl ?_)
    | (refine WO.mvs rfl ?_)
    | (refine WO.mvp rfl ?_)
    | (refine WO.mvt rfl ?_)
    | (refine WO.mv ?_)
    | (refine W.sreg ?_)
    | (refine W.sdraw ?_)
    | (refine W.reg ?_)
    | (refine W.draw ?_)
    | (refine WO.nil ?_)
    | (refine WO.gU rfl ?_)
    | (refine WO.gT rfl rfl ?_)
    | (refine WO.gF rfl rfl ?_)
    | (refine WO.ext rfl rfl ?_)
    | (refine WO.lenR (by assumption) ?_)
    | (refine WO.add rfl rfl (by first | exact wrOK (by simp only [loK, hiK]; omega) | rfl) ?_)
    | (refine WO.sub rfl rfl (by first | exact wrOK (by simp only [loK, hiK]; omega) | rfl) ?_)
    | (refine WO.lss rfl rfl ?_)
    | (refine WO.leq rfl rfl ?_)
    | (refine WO.gtr rfl rfl ?_)
    | (refine WO.geq rfl rfl ?_)
    | (refine WO.eql rfl rfl ?_)
    | (refine WO.neq rfl rfl ?_)
    | (refine WO.seql rfl rfl ?_)
    | (refine WO.sneq rfl rfl ?_)
    | (refine WO.beql rfl rfl (tb rfl) ?_)
    | (refine WO.bneq rfl rfl (tb rfl) ?_)
    | (refine WO.not rfl ?_)
    | (refine WO.not0 rfl ?_)
    | (refine WO.cvi rfl (kd rfl) (kd rfl) (by first | exact wrOK (by simp only [loK, hiK]; omega) | rfl) ?_)
    | (refine WO.cvs rfl (st rfl) (st rfl) ?_)
    | (refine WO.ix rfl rfl (st rfl) (by first | assumption | omega) (by first | assumption | omega) ?_)
    | (refine WO.slen rfl (st rfl) ?_)
    | (refine WO.iaddr (by assumption) rfl rfl (by first | assumption | omega) (by first | assumption | omega) (fun q hq => ?_))
    | (refine WO.load (by assumption) rfl rfl ?_)
    | (refine WO.loadO rfl (by assumption) rfl rfl ?_)
    | (refine WO.faddrP (by assumption) rfl (fun q hq => ?_))
    | (refine WO.nilckP (by assumption) ?_)
    | (refine WO.nilck rfl ?_)
    | (refine WO.faddr rfl ?_)
    | (refine WO.fld rfl rfl rfl ?_)
    | (refine WO.pickT rfl ?_)
    | (refine WO.pickF rfl ?_)
    | (refine WO.sll rfl rfl (st rfl) (by first | assumption | omega) (by first | assumption | omega) ?_)
    | (refine WO.slh rfl rfl (st rfl) (by first | assumption | omega) (by first | assumption | omega) ?_)
    | (refine WO.slb rfl rfl rfl (st rfl) (by first | assumption | omega) (by first | assumption | omega) (by first | assumption | omega) ?_)
    | (refine WO.mul rfl rfl (by first | exact wrOK (by simp only [loK, hiK]; omega) | rfl) ?_)
    | (refine WO.quo rfl rfl (by first | assumption | omega) (by first | exact wrOK (by simp only [loK, hiK]; omega) | rfl) ?_)
    | (refine WO.rem rfl rfl (by first | assumption | omega) ?_)
    | (refine WO.and rfl rfl ?_)
    | (refine WO.or rfl rfl ?_)
    | (refine WO.xor rfl rfl ?_)
    | (refine WO.shl rfl rfl (by first | assumption | omega) (by simp [IntKind.bits]; rfl) ?_)
    | (refine WO.shr rfl rfl (by first | assumption | omega) (by simp [IntKind.bits]; rfl) ?_)
    | (refine WO.build (C := [_]) rfl ?_)
    | (refine WO.build (C := [_, _]) rfl ?_)
    | (refine WO.build (C := [_, _, _]) rfl ?_)
    | (refine WO.build (C := [_, _, _, _]) rfl ?_)
    | (refine WO.build (C := [_, _, _, _, _]) rfl ?_)
    | (refine WO.build (C := [_, _, _, _, _, _]) rfl ?_)
    | (refine WO.build (C := [_, _, _, _, _, _, _]) rfl ?_)
    | (refine WO.eqnil (by assumption) (fun hn1 hn2 => ?_) ?_)
    | (refine W.condT rfl ?_)
    | (refine W.condF rfl ?_)
    | (refine W.condDT rfl (by first | assumption | omega) ?_)
    | (refine W.condDF rfl (by first | assumption | omega) ?_)
    | (refine W.condD rfl (fun hc => ?_) (fun hc => ?_))
    | (refine WO.gS rfl (fun hc => ?_) (fun hc => ?_) <;> try (exfalso; omega))
    | (refine WO.pickS rfl (fun hc => ?_) (fun hc => ?_) <;> try (exfalso; omega))
    | (refine W.skip ?_)
    | (refine W.block ?_)
    | (refine W.drawA rfl ?_)
    | (refine W.sdrawA rfl ?_)
    | (refine And.intro rfl ?_)
    | (refine W.exit ?_)
    | (refine W.ret ?_)
    | (refine W.seq ?_)
    | (refine W.goto ?_)
    | (refine W.label ?_)
    | (refine SQ.nn ?_)
    | (refine SQ.x ?_)
    | (refine SQ.r ?_)
    | (refine SQ.g ?_)
    | (refine BQ.nn ?_)
    | (refine BQ.x ?_)
    | (refine BQ.r ?_)
    | (refine BQ.g ?_)
    | (refine BQ.y rfl ?_)
    | (refine LQ.x ?_)
    | (refine LQ.r ?_)
    | (refine LQ.g ?_)
    | (refine GQ.nn ?_)
    | (refine GQ.x ?_)
    | (refine GQ.r ?_)
    | ((fail_if_success (have hos' := hbb)); refine WO.newT (fun bb Hb hbb gb obt => ?_))
    | (refine WO.new (fun b H1 hb g1 ob => ?_))
    | (refine WO.storeO (C' := [_, _]) rfl ob rfl rfl rfl rfl rfl (fun H2 ob2 u2 => ?_); have g2 := u2.grows g1 hb; have gA := ho.trans g2; have B2 := (B.add g1 hb ob.lt).upd u2 (by simp) (by have := ho.len; omega))
    | (refine W.drawU [b] (k := 2) rfl ?_)
    | (refine WS.zero ?_)
    | (refine WS.ee rfl ?_)
    | (refine WS.nn rfl ?_)
    | (refine ⟨fun _ _ => rfl, ?_⟩)
    | (refine ⟨fun c hc => g3.bk (by rw [List.mem_singleton.1 hc]; exact ob2.lt), ?_⟩)
    | (refine ⟨fun c hc => g4.bk (by rw [List.mem_singleton.1 hc]; exact ob3.lt), ?_⟩)
    | (refine And.intro (allQ_p rfl (by simp) (allQ_p rfl (by simp) trivial)) ?_)
    | (refine And.intro (allQ_p rfl (by simp) (allQ_s rfl trivial)) ?_)
    | (refine And.intro (allQ_s rfl (allQ_s rfl trivial)) ?_)
    | (refine And.intro (allG_b rfl (allG_b rfl trivial)) ?_)
    | (refine And.intro (allG_s (d := 32) (s := fv) rfl (allG_b rfl trivial)) ?_)
    | (refine And.intro (allG_s (d := 32) (s := fv) rfl (allG_s (d := 40) (s := fv) rfl trivial)) ?_)
    | (refine WO.call rfl (kN _ (by omega)) ?_; rintro _ H ⟨rfl, hH⟩; obtain rfl := hH.symm)
    | (refine WO.call rfl (kB _ (by omega)) ?_; rintro _ H3 ⟨rfl, g3⟩; have ob3 := ob2.grows g3; have B3 := B2.grows g3)
    | (refine WO.call rfl (kC _ (by omega)) ?_; rintro _ H4 ⟨rfl, g4⟩; have ob4 := ob3.grows g4; have B4 := B3.grows g4)
    | (refine WO.call rfl (k10 _) ?_; rintro _ H ⟨rfl, hH⟩; obtain rfl := hH.symm)
    | (refine WO.call rfl (k13 _) ?_; rintro _ H ⟨rfl, hH⟩; obtain rfl := hH.symm)
    | (refine WO.call rfl (wsW_FR fn B4 (by (try simp only [List.length_append, bytesOf_length, List.length_cons, List.length_nil]); omega)) ?_; rintro _ H5 ⟨rfl, B5, k5⟩; have ob5 := ob4.at (k5 _ (by simp)))
    | (refine WO.call rfl (wbW_FR _ B5 (by (try simp only [List.length_append, bytesOf_length, List.length_cons, List.length_nil]); omega)) ?_; rintro _ H6 ⟨rfl, B6, k6⟩; have ob6 := ob5.at (k6 _ (by simp)))
    | (refine WO.call rfl (wbW_FR _ B6 (by (try simp only [List.length_append, bytesOf_length, List.length_cons, List.length_nil]); omega)) ?_; rintro _ H7 ⟨rfl, B7, k7⟩; have ob7 := ob6.at (k7 _ (by simp)))
    | (refine WO.call rfl (wsW_FR fv B7 (by (try simp only [List.length_append, bytesOf_length, List.length_cons, List.length_nil]); omega)) ?_; rintro _ H8 ⟨rfl, B8, k8⟩; have ob8 := ob7.at (k8 _ (by simp)))
    | (refine WO.call rfl (wbW_FR _ B8 (by (try simp only [List.length_append, bytesOf_length, List.length_cons, List.length_nil]); omega)) ?_; rintro _ H9 ⟨rfl, B9, k9⟩)
    | (refine WO.call rfl (strW_FR B (by omega)) ?_; rintro _ Hs ⟨rfl, bx, _⟩)
    | (refine WO.sadd rfl rfl (by simp only [ByteArray.size_append, strOfNums_size, sz10, sz58, sz32]; omega) ?_)
    | ((fail_if_success (have hos' := hft)); refine W.loopI (σ := Nat × List Int) (fun σ => [(0, l), (4, .pt bb 0 0), (8, l), (9, .s (.int .i64 L.length)), (10, .s (.int .i64 σ.1))]) (fun σ h' => BW h h' bb [] σ.2 ∧ σ.1 ≤ L.length ∧ σ.2 = (L.take σ.1).flatMap lnF ∧ (L.take σ.1).all okF = true) (fun σ => L.length - σ.1) (0, []) ⟨rfl, rfl, rfl, rfl, rfl, trivial⟩ ⟨BW.ini (ad := .s (.slice none 0 0)) (buf := .s (.slice none 0 0)) obt hbb gb, Nat.zero_le _, rfl, rfl⟩ ?_; rintro ⟨i, O⟩ G h' ⟨B, hi, hO, hok⟩; dsimp only at B hi hO hok ⊢; have ho := B.g; have hr := r.grows ho; have hfs := fun (_ : Unit) => flat_snoc (L := L) (i := i); have hfp := flat_pre (L := L) (i := i); have has := fun (_ : Unit) => all_snoc (L := L) (i := i); have hft := flat_tot L i; rw [← hO] at hft; have hno := fun (_ : Unit) => all_no (L := L) (i := i); have hok := (fun _ : Unit => hok); obtain ⟨fn, fv, hf⟩ : ∃ fn fv, nth L (i : Int) = (fn, fv) := ⟨_, _, rfl⟩; rw [hf] at hfs hfp has hno; have hll := ln_len (fn, fv); dsimp only at hll; rw [← hO] at hfs hfp; have hcs : (fn ++ colon).size = fn.size + 1 := ByteArray.size_append; generalize (lnF (fn, fv)).length = ll at hfp hll; obtain ⟨tv, htv⟩ : ∃ t, trimS blB fv = t := ⟨_, rfl⟩; have kB := fun (hp : Heap) (hz : fv.size ≤ 140737488355328) => trim28B_FR hp fv hz; simp only [htv] at kB; have htv := fun _ : Unit => htv; obtain ⟨tc, htc⟩ : ∃ t, trimS crB fv = t := ⟨_, rfl⟩; have kC := fun (hp : Heap) (hz : fv.size ≤ 140737488355328) => trim28C_FR hp fv hz; simp only [htc] at kC; have htc := fun _ : Unit => htc; obtain ⟨nm, hnm⟩ : ∃ t, namN (fn ++ colon) = t := ⟨_, rfl⟩; have kN := fun (hp : Heap) (hz : (fn ++ colon).size ≤ 140737488355328) => nam32_FR hp (fn ++ colon) hz; simp only [hnm] at kN; have hnm := fun _ : Unit => hnm; obtain ⟨zl, hc10⟩ : ∃ t, hasB fv 10 = t := ⟨_, rfl⟩; have k10 := fun (hp : Heap) => con10_FR hp fv; simp only [hc10] at k10; have hc10 := fun _ : Unit => hc10; obtain ⟨zc, hc13⟩ : ∃ t, hasB fv 13 = t := ⟨_, rfl⟩; have k13 := fun (hp : Heap) => con13_FR hp fv; simp only [hc13] at k13; have hc13 := fun _ : Unit => hc13)
    | (cases zl)
    | (cases zc))
  all_goals try have hG := gA
  all_goals try have hG := gA.trans g3
  all_goals try have hG := (gA.trans g3).trans g4
  all_goals first
    | exact ⟨by rw [hno () (by omega) (no_nm (.inl ((hnm ()).trans (by omega))))]; rfl, hG⟩
    | exact ⟨by rw [hno () (by omega) (no_nm (.inr (fun e => by have := hnm (); have hc' : (nm : Int) ≠ (fn.size : Int) := hc; omega)))]; rfl, hG⟩
    | exact ⟨by rw [hno () (by omega) (okF_no (.inr (.inr (.inl (fun e => hc ((htv ()).symm.trans e))))))]; rfl, hG⟩
    | exact ⟨by rw [hno () (by omega) (no_cr (fun e => hc ((htc ()).symm.trans e)))]; rfl, hG⟩
    | exact ⟨by rw [hno () (by omega) (okF_no (.inr (.inr (.inr (.inl (hc10 ()))))))]; rfl, hG⟩
    | exact ⟨by rw [hno () (by omega) (okF_no (.inr (.inr (.inr (.inr (hc13 ()))))))]; rfl, hG⟩
    | (have hz : fv.size ≠ 0 := fun e => hc (bytesOf_inj (List.length_eq_zero_iff.1 ((bytesOf_length fv).trans e)))
       have e1 := hfs () (by omega)
       have B := B9.sub (S' := []) (fun c hc => by cases hc)
       rw [ln_list O (fn, fv) hz] at B
       refine ⟨(i + 1, O ++ lnF (fn, fv)), by omega, ⟨rfl, rfl, rfl, rfl, rfl, trivial⟩, B, by omega, e1.symm, has () (by omega) (hok ()) (okF_yes (fun e => by have := hnm (); have h5 : ¬ (nm : Int) ≠ (fn.size : Int) := (by assumption); omega) ((hnm ()).trans (by have h5 : ¬ (nm : Int) ≠ (fn.size : Int) := (by assumption); omega)) ((htv ()).trans (Classical.not_not.1 (by assumption))) (hc10 ()) (hc13 ()))⟩)
    | (have hz : fv.size = 0 := congrArg ByteArray.size (Classical.not_not.1 hc)
       have e1 := hfs () (by omega)
       have B := B7.sub (S' := []) (fun c hc => by cases hc)
       rw [ln_list0 O (fn, fv) hz] at B
       refine ⟨(i + 1, O ++ lnF (fn, fv)), by omega, ⟨rfl, rfl, rfl, rfl, rfl, trivial⟩, B, by omega, e1.symm, has () (by omega) (hok ()) (okF_yes (fun e => by have := hnm (); have h5 : ¬ (nm : Int) ≠ (fn.size : Int) := (by assumption); omega) ((hnm ()).trans (by have h5 : ¬ (nm : Int) ≠ (fn.size : Int) := (by assumption); omega)) ((htv ()).trans (Classical.not_not.1 (by assumption))) (hc10 ()) (hc13 ()))⟩)
    | (have e1 := hok ()
       rw [List.take_of_length_le (by omega)] at e1
       refine ⟨?_, ho⟩
       unfold writeS
       rw [if_pos e1, if_pos (by omega)]; rfl)
    | (have e1 := hok ()
       rw [List.take_of_length_le (by omega)] at e1 hO
       refine ⟨?_, bx.g⟩
       unfold writeS
       rw [if_pos e1, if_neg (by omega), ← hO, strOf_append]
       rfl)
end Go.Proofs.YtdgnddidibpilaaDoor.AS
end
section
set_option autoImplicit false
set_option maxHeartbeats 1000000
set_option linter.unusedSimpArgs false
set_option linter.unusedVariables false
namespace Go.Proofs.YtdgnddidibpilaaDoor.AS
open Go Go.Proofs Go.RowKit Go.Proofs.YtdgnddidibpilaaDoor.AS.V
abbrev Fd := ByteArray × ByteArray
/-- A field, its value trimmed. -/
def tfF (f : Fd) : Fd := (f.1, trimS blB f.2)
/-- A line that goes on. -/
def addL (R : List Fd) (line : ByteArray) : List Fd := R.set (R.length - 1) ((nth R ((R.length - 1 : Nat) : Int)).1, (nth R ((R.length - 1 : Nat) : Int)).2 ++ line)
/-- Fields as they are read, and where the body begins. -/
def prs (s : ByteArray) : Nat → Nat → List Fd → List Fd × Nat
  | 0, k, R => (R, k)
  | f + 1, k, R =>
    if s.size ≤ k then (R, k)
    else if (lineT (sfx s k)).size = 0 then (R, k + nxtN (sfx s k))
    else if blB (bt (lineT (sfx s k)) 0) = true ∧ 0 < R.length then prs s f (k + nxtN (sfx s k)) (addL R (lineT (sfx s k)))
    else if 0 < namN (lineT (sfx s k)) then prs s f (k + nxtN (sfx s k)) (R ++ [(pfx (lineT (sfx s k)) (namN (lineT (sfx s k))), sfx (lineT (sfx s k)) (namN (lineT (sfx s k)) + 1))])
    else (R, k)
def parseS (s : ByteArray) : List Fd × Int := (((prs s (s.size + 1) 0 []).1.take 1024).map tfF, ((prs s (s.size + 1) 0 []).2 : Int))
def PrI (s : ByteArray) (res : List Fd × Nat) (k : Nat) (R : List Fd) : Prop := ∃ f, s.size < f + k ∧ prs s f k R = res
theorem PrI.ini (s : ByteArray) : PrI s (prs s (s.size + 1) 0 []) 0 [] := ⟨s.size + 1, by omega, rfl⟩
theorem nxtN_le (s : ByteArray) : nxtN s ≤ s.size := by
  have := nlP_le s
  unfold nxtN
  split <;> omega
theorem nxtN_pos {s : ByteArray} (h : 0 < s.size) : 0 < nxtN s := by
  unfold nxtN
  split <;> omega
section
variable {s : ByteArray} {res : List Fd × Nat} {k : Nat} {R : List Fd}
theorem PrI.nx (h : k < s.size) : k < k + nxtN (sfx s k) ∧ k + nxtN (sfx s k) ≤ s.size := by
  have h1 := nxtN_le (sfx s k)
  have h2 := nxtN_pos (s := sfx s k) (by rw [sfx_size]; omega)
  rw [sfx_size] at h1
  omega
theorem PrI.e1 (H : PrI s res k R) (h : s.size ≤ k) : res = (R, k) := by
  obtain ⟨f, h1, rfl⟩ := H
  cases f with
  | zero => rfl
  | succ f => rw [prs, if_pos h]
theorem PrI.e2 (H : PrI s res k R) (h : k < s.size) (hl : (lineT (sfx s k)).size = 0) : res = (R, k + nxtN (sfx s k)) := by
  obtain ⟨f, h1, rfl⟩ := H
  cases f with
  | zero => omega
  | succ f => rw [prs, if_neg (by omega), if_pos hl]
theorem PrI.bl (H : PrI s res k R) (h : k < s.size) (hl : (lineT (sfx s k)).size ≠ 0) (hb : blB (bt (lineT (sfx s k)) 0) = true) (hR : 0 < R.length) : PrI s res (k + nxtN (sfx s k)) (addL R (lineT (sfx s k))) := by
  obtain ⟨f, h1, rfl⟩ := H
  cases f with
  | zero => omega
  | succ f =>
    rw [prs, if_neg (by omega), if_neg hl, if_pos ⟨hb, hR⟩]
    exact ⟨f, by have := PrI.nx h; omega, rfl⟩
theorem PrI.nm (H : PrI s res k R) (h : k < s.size) (hl : (lineT (sfx s k)).size ≠ 0) (hb : ¬ (blB (bt (lineT (sfx s k)) 0) = true ∧ 0 < R.length)) (hn : 0 < namN (lineT (sfx s k))) : PrI s res (k + nxtN (sfx s k)) (R ++ [(pfx (lineT (sfx s k)) (namN (lineT (sfx s k))), sfx (lineT (sfx s k)) (namN (lineT (sfx s k)) + 1))]) := by
  obtain ⟨f, h1, rfl⟩ := H
  cases f with
  | zero => omega
  | succ f =>
    rw [prs, if_neg (by omega), if_neg hl, if_neg hb, if_pos hn]
    exact ⟨f, by have := PrI.nx h; omega, rfl⟩
theorem PrI.e3 (H : PrI s res k R) (h : k < s.size) (hl : (lineT (sfx s k)).size ≠ 0) (hb : ¬ (blB (bt (lineT (sfx s k)) 0) = true ∧ 0 < R.length)) (hn : ¬ 0 < namN (lineT (sfx s k))) : res = (R, k) := by
  obtain ⟨f, h1, rfl⟩ := H
  cases f with
  | zero => omega
  | succ f => rw [prs, if_neg (by omega), if_neg hl, if_neg hb, if_neg hn]
end
theorem addL_len (R : List Fd) (line : ByteArray) : (addL R line).length = R.length := by unfold addL; exact List.length_set
/-- What the program has of the fields while it reads. -/
def loP (R : List Fd) : List Fd := if R.length ≤ 1024 then (R.map tfF).set (R.length - 1) ((nth R ((R.length - 1 : Nat) : Int)).1, ⟨#[]⟩) else (R.take 1024).map tfF
def vP (R : List Fd) : List Int := if R.length = 0 then [] else bytesOf (nth R ((R.length - 1 : Nat) : Int)).2
/-- What closing a field does. -/
def clS (n : Nat) (V : List Int) (Lo : List Fd) : List Fd := if 1 ≤ n ∧ n ≤ 1024 then Lo.set (n - 1) ((nth Lo ((n - 1 : Nat) : Int)).1, trimS blB (strOfNums V)) else Lo
theorem loP_len (R : List Fd) : (loP R).length = min R.length 1024 := by
  unfold loP
  split
  · rw [List.length_set, List.length_map]; omega
  · rw [List.length_map, List.length_take]; omega
theorem nth_set_self {α : Type} [Inhabited α] {L : List α} {i : Nat} {x : α} (h : i < L.length) : nth (L.set i x) (i : Int) = x := by
  rw [nth_eq (by simpa using h)]; simp
theorem set_last {α β : Type} [Inhabited α] {f : α → β} {L : List α} {i : Nat} {x : β} (h : i < L.length) (hx : x = f (nth L (i : Int))) : (L.map f).set i x = L.map f := by
  apply List.ext_getElem (by simp)
  intro j h1 h2
  rw [List.getElem_set]
  split
  · rename_i e
    subst e
    rw [hx, nth_eq (by simpa using h)]
    simp
  · rfl
theorem cl_lo (R : List Fd) : clS R.length (vP R) (loP R) = (R.take 1024).map tfF := by
  unfold clS loP
  by_cases h0 : R.length = 0
  · obtain rfl := List.length_eq_zero_iff.1 h0
    rfl
  by_cases h1 : R.length ≤ 1024
  · rw [if_pos ⟨by omega, h1⟩, if_pos h1, List.set_set, nth_set_self (by simp; omega), List.take_of_length_le h1]
    refine set_last (by omega) ?_
    unfold vP tfF
    rw [if_neg h0, strOf_bytesOf]
  · rw [if_neg (by omega), if_neg h1]
theorem lo_add {R : List Fd} (line : ByteArray) (h : 0 < R.length) : loP (addL R line) = loP R := by
  unfold loP
  rw [addL_len]
  by_cases h1 : R.length ≤ 1024
  · rw [if_pos h1, if_pos h1]
    unfold addL
    rw [nth_set_self (by omega), List.map_set, List.set_set]
  · rw [if_neg h1, if_neg h1]
    unfold addL
    rw [List.take_set, List.set_eq_of_length_le (by rw [List.length_take]; omega)]
theorem v_add {R : List Fd} (line : ByteArray) (h : 0 < R.length) : vP (addL R line) = vP R ++ bytesOf line := by
  unfold vP
  rw [addL_len, if_neg (by omega), if_neg (by omega)]
  unfold addL
  rw [nth_set_self (by omega), bytesOf_append]
theorem nth_snoc {α : Type} [Inhabited α] (L : List α) (x : α) : nth (L ++ [x]) ((L.length : Nat) : Int) = x := by
  rw [nth_eq (by simp)]; simp
theorem v_open (R : List Fd) (x : Fd) : vP (R ++ [x]) = bytesOf x.2 := by
  unfold vP
  rw [List.length_append, List.length_singleton, if_neg (by omega), Nat.add_sub_cancel, nth_snoc]
theorem lo_open (R : List Fd) (x : Fd) (h : R.length + 1 ≤ 1024) : loP (R ++ [x]) = (R.take 1024).map tfF ++ [(x.1, ⟨#[]⟩)] := by
  unfold loP
  rw [List.length_append, List.length_singleton, if_pos h, Nat.add_sub_cancel, nth_snoc, List.take_of_length_le (by omega), List.map_append, List.map_cons, List.map_nil]
  rw [List.set_append_right _ _ (by simp)]
  simp
theorem lo_open' (R : List Fd) (x : Fd) (h : ¬ R.length + 1 ≤ 1024) : loP (R ++ [x]) = (R.take 1024).map tfF := by
  unfold loP
  rw [List.length_append, List.length_singleton, if_neg h, List.take_append_of_le_length (by omega)]
end Go.Proofs.YtdgnddidibpilaaDoor.AS
end
section
set_option autoImplicit false
set_option maxRecDepth 100000
set_option maxHeartbeats 4000000
set_option linter.unusedSimpArgs false
set_option linter.unusedVariables false
namespace Go.Proofs.YtdgnddidibpilaaDoor.AS
open Go Go.Proofs Go.RowKit Go.Proofs.YtdgnddidibpilaaDoor.AS.V

/-- What the program has while it reads: its fields, how many there are, a value in the making. -/
structure PSt (h0 h : Heap) (b4 b5 b6 : Nat) (out : AV) (n : Nat) (V : List Int) (Lo : List Fd) : Prop where
  o4 : Obj h b4 [out]
  o6 : Obj h b6 [.s (.int .i64 n)]
  own : Own encF 41 h out Lo
  w : BW h0 h b5 ((bo out).toList ++ [b4, b6]) V
  n4 : h0.length ≤ b4
  n6 : h0.length ≤ b6
  d : b4 ≠ b6
  no : ∀ c, bo out = some c → h0.length ≤ c ∧ c ≠ b4 ∧ c ≠ b6
theorem mem_S {out : AV} {b4 b6 c : Nat} : c ∈ (bo out).toList ++ [b4, b6] ↔ bo out = some c ∨ c = b4 ∨ c = b6 := by
  cases bo out <;> simp [eq_comm]
theorem close27_FR {h0 h : Heap} {b4 b5 b6 n : Nat} {out : AV} {V : List Int} {Lo : List Fd} (P : PSt h0 h b4 b5 b6 out n V Lo) (hn : n ≤ 1024 → Lo.length = n) (hn2 : n ≤ 8388608) (hV : V.length ≤ 8388608) : FR Tryd.prog TT 27 [.pt b6 0 0, .pt b5 0 0, .pt b4 0 0] h fun x H => x = .tp [] ∧ PSt h0 H b4 b5 b6 out n [] (clS n V Lo) := by
  obtain ⟨o4, o6, own, w, n4, n6, hd, no⟩ := P
  obtain ⟨sv, hsv⟩ : ∃ s, strOfNums V = s := ⟨_, rfl⟩
  have kS := strW_FR w (by omega)
  have hsz : sv.size = V.length := hsv ▸ strOfNums_size V
  rw [hsv] at kS
  obtain ⟨tv, htv⟩ : ∃ t, trimS blB sv = t := ⟨_, rfl⟩
  have kB := fun (hp : Heap) (hz : sv.size ≤ 140737488355328) => trim28B_FR hp sv hz
  simp only [htv] at kB
  have hcl : clS n V Lo = if 1 ≤ n ∧ n ≤ 1024 then Lo.set (n - 1) ((nth Lo ((n - 1 : Nat) : Int)).1, tv) else Lo := by unfold clS; rw [hsv, htv]
  have hav := own.row.avEq
  generalize clS n V Lo = Lc at hcl
  have hcl := fun _ : Unit => hcl
  have htv := fun _ : Unit => htv
  have hsv := fun _ : Unit => hsv
  rcases own.w with ⟨rfl, rfl⟩ | ⟨b, v, o, rfl, rw⟩
  · simp only [List.length_nil] at hn
    refine FR.of q27 (by kernel_rfl) ?_
    unfold c27
    repeat' (first
      | (refine WO.mvE (.s (.slice none 0 0)) rfl ?_)
      | (refine LQ.fin ?_)
      | (refine EQ.fin rfl ?_)
      | (refine EQ.finN rfl ?_)
      | (refine WO.mvs rfl ?_)
      | (refine WO.mvp rfl ?_)
      | (refine WO.mvt rfl ?_)
      | (refine WO.mv ?_)
      | (refine W.sreg ?_)
      | (refine W.sdraw ?_)
      | (refine W.reg ?_)
      | (refine W.draw ?_)
      | (refine WO.nil ?_)
      | (refine WO.gU rfl ?_)
      | (refine WO.gT rfl rfl ?_)
      | (refine WO.gF rfl rfl ?_)
      | (refine WO.ext rfl rfl ?_)
      | (refine WO.lenR (by assumption) ?_)
      | (refine WO.add rfl rfl (by first | exact wrOK (by simp only [loK, hiK]; omega) | rfl) ?_)
      | (refine WO.sub rfl rfl (by first | exact wrOK (by simp only [loK, hiK]; omega) | rfl) ?_)
      | (refine WO.lss rfl rfl ?_)
      | (refine WO.leq rfl rfl ?_)
      | (refine WO.gtr rfl rfl ?_)
      | (refine WO.geq rfl rfl ?_)
      | (refine WO.eql rfl rfl ?_)
      | (refine WO.neq rfl rfl ?_)
      | (refine WO.seql rfl rfl ?_)
      | (refine WO.sneq rfl rfl ?_)
      | (refine WO.beql rfl rfl (tb rfl) ?_)
      | (refine WO.bneq rfl rfl (tb rfl) ?_)
      | (refine WO.not rfl ?_)
      | (refine WO.not0 rfl ?_)
      | (refine WO.cvi rfl (kd rfl) (kd rfl) (by first | exact wrOK (by simp only [loK, hiK]; omega) | rfl) ?_)
      | (refine WO.cvs rfl (st rfl) (st rfl) ?_)
      | (refine WO.ix rfl rfl (st rfl) (by first | assumption | omega) (by first | assumption | omega) ?_)
      | (refine WO.slen rfl (st rfl) ?_)
      | (refine WO.iaddr (by assumption) rfl rfl (by first | assumption | omega) (by first | assumption | omega) (fun q hq => ?_))
      | (refine WO.load (by assumption) rfl rfl ?_)
      | (refine WO.loadO rfl (by assumption) rfl rfl ?_)
      | (refine WO.faddrP (by assumption) rfl (fun q hq => ?_))
      | (refine WO.nilckP (by assumption) ?_)
      | (refine WO.nilck rfl ?_)
      | (refine WO.faddr rfl ?_)
      | (refine WO.fld rfl rfl rfl ?_)
      | (refine WO.pickT rfl ?_)
      | (refine WO.pickF rfl ?_)
      | (refine WO.sll rfl rfl (st rfl) (by first | assumption | omega) (by first | assumption | omega) ?_)
      | (refine WO.slh rfl rfl (st rfl) (by first | assumption | omega) (by first | assumption | omega) ?_)
      | (refine WO.slb rfl rfl rfl (st rfl) (by first | assumption | omega) (by first | assumption | omega) (by first | assumption | omega) ?_)
      | (refine WO.mul rfl rfl (by first | exact wrOK (by simp only [loK, hiK]; omega) | rfl) ?_)
      | (refine WO.quo rfl rfl (by first | assumption | omega) (by first | exact wrOK (by simp only [loK, hiK]; omega) | rfl) ?_)
      | (refine WO.rem rfl rfl (by first | assumption | omega) ?_)
      | (refine WO.and rfl rfl ?_)
      | (refine WO.or rfl rfl ?_)
      | (refine WO.xor rfl rfl ?_)
      | (refine WO.shl rfl rfl (by first | assumption | omega) (by simp [IntKind.bits]; rfl) ?_)
      | (refine WO.shr rfl rfl (by first | assumption | omega) (by simp [IntKind.bits]; rfl) ?_)
      | (refine WO.build (C := [_]) rfl ?_)
      | (refine WO.build (C := [_, _]) rfl ?_)
      | (refine WO.build (C := [_, _, _]) rfl ?_)
      | (refine WO.build (C := [_, _, _, _]) rfl ?_)
      | (refine WO.build (C := [_, _, _, _, _]) rfl ?_)
      | (refine WO.build (C := [_, _, _, _, _, _]) rfl ?_)
      | (refine WO.build (C := [_, _, _, _, _, _, _]) rfl ?_)
      | (refine WO.eqnil (by assumption) (fun hn1 hn2 => ?_) ?_)
      | (refine W.condT rfl ?_)
      | (refine W.condF rfl ?_)
      | (refine W.condDT rfl (by first | assumption | omega) ?_)
      | (refine W.condDF rfl (by first | assumption | omega) ?_)
      | (refine W.condD rfl (fun hc => ?_) (fun hc => ?_))
      | (refine WO.gS rfl (fun hc => ?_) (fun hc => ?_) <;> try (exfalso; omega))
      | (refine WO.pickS rfl (fun hc => ?_) (fun hc => ?_) <;> try (exfalso; omega))
      | (refine W.skip ?_)
      | (refine W.block ?_)
      | (refine W.drawA rfl ?_)
      | (refine W.sdrawA rfl ?_)
      | (refine And.intro rfl ?_)
      | (refine W.exit ?_)
      | (refine W.ret ?_)
      | (refine W.seq ?_)
      | (refine W.goto ?_)
      | (refine W.label ?_)
      | (refine SQ.nn ?_)
      | (refine SQ.x ?_)
      | (refine SQ.r ?_)
      | (refine SQ.g ?_)
      | (refine BQ.nn ?_)
      | (refine BQ.x ?_)
      | (refine BQ.r ?_)
      | (refine BQ.g ?_)
      | (refine BQ.y rfl ?_)
      | (refine LQ.x ?_)
      | (refine LQ.r ?_)
      | (refine LQ.g ?_)
      | (refine GQ.nn ?_)
      | (refine GQ.x ?_)
      | (refine GQ.r ?_)
      | (refine WO.call rfl (resW_FR w.bx) ?_; rintro _ H4 ⟨rfl, w4, kr⟩))
    all_goals first
      | (have e := hcl ()
         rw [if_neg (by omega)] at e
         subst e
         exact ⟨rfl, o4.at (kr _ (by simp)), o6.at (kr _ (by simp)), Own.nil, w4, n4, n6, hd, no⟩)
  · have hbb := no b rfl
    have hSb : b ∈ (bo (.sl b v o Lo.length encF.sz)).toList ++ [b4, b6] := mem_S.2 (.inl rfl)
    have hS4 : b4 ∈ (bo (.sl b v o Lo.length encF.sz)).toList ++ [b4, b6] := mem_S.2 (.inr (.inl rfl))
    have hS6 : b6 ∈ (bo (.sl b v o Lo.length encF.sz)).toList ++ [b4, b6] := mem_S.2 (.inr (.inr rfl))
    refine FR.of q27 (by kernel_rfl) ?_
    unfold c27
    repeat' (first
      | (refine WO.mvE (.sl b v o Lo.length encF.sz) rfl ?_)
      | (refine LQ.fin ?_)
      | (refine EQ.fin rfl ?_)
      | (refine EQ.finN rfl ?_)
      | (refine WO.mvs rfl ?_)
      | (refine WO.mvp rfl ?_)
      | (refine WO.mvt rfl ?_)
      | (refine WO.mv ?_)
      | (refine W.sreg ?_)
      | (refine W.sdraw ?_)
      | (refine W.reg ?_)
      | (refine W.draw ?_)
      | (refine WO.nil ?_)
      | (refine WO.gU rfl ?_)
      | (refine WO.gT rfl rfl ?_)
      | (refine WO.gF rfl rfl ?_)
      | (refine WO.ext rfl rfl ?_)
      | (refine WO.lenR (by assumption) ?_)
      | (refine WO.add rfl rfl (by first | exact wrOK (by simp only [loK, hiK]; omega) | rfl) ?_)
      | (refine WO.sub rfl rfl (by first | exact wrOK (by simp only [loK, hiK]; omega) | rfl) ?_)
      | (refine WO.lss rfl rfl ?_)
      | (refine WO.leq rfl rfl ?_)
      | (refine WO.gtr rfl rfl ?_)
      | (refine WO.geq rfl rfl ?_)
      | (refine WO.eql rfl rfl ?_)
      | (refine WO.neq rfl rfl ?_)
      | (refine WO.seql rfl rfl ?_)
      | (refine WO.sneq rfl rfl ?_)
      | (refine WO.beql rfl rfl (tb rfl) ?_)
      | (refine WO.bneq rfl rfl (tb rfl) ?_)
      | (refine WO.not rfl ?_)
      | (refine WO.not0 rfl ?_)
      | (refine WO.cvi rfl (kd rfl) (kd rfl) (by first | exact wrOK (by simp only [loK, hiK]; omega) | rfl) ?_)
      | (refine WO.cvs rfl (st rfl) (st rfl) ?_)
      | (refine WO.ix rfl rfl (st rfl) (by first | assumption | omega) (by first | assumption | omega) ?_)
      | (refine WO.slen rfl (st rfl) ?_)
      | (refine WO.iaddr (by assumption) rfl rfl (by first | assumption | omega) (by first | assumption | omega) (fun q hq => ?_))
      | (refine WO.load (by assumption) rfl rfl ?_)
      | (refine WO.loadO rfl (by assumption) rfl rfl ?_)
      | (refine WO.faddrP (by assumption) rfl (fun q hq => ?_))
      | (refine WO.nilckP (by assumption) ?_)
      | (refine WO.nilck rfl ?_)
      | (refine WO.faddr rfl ?_)
      | (refine WO.fld rfl rfl rfl ?_)
      | (refine WO.pickT rfl ?_)
      | (refine WO.pickF rfl ?_)
      | (refine WO.sll rfl rfl (st rfl) (by first | assumption | omega) (by first | assumption | omega) ?_)
      | (refine WO.slh rfl rfl (st rfl) (by first | assumption | omega) (by first | assumption | omega) ?_)
      | (refine WO.slb rfl rfl rfl (st rfl) (by first | assumption | omega) (by first | assumption | omega) (by first | assumption | omega) ?_)
      | (refine WO.mul rfl rfl (by first | exact wrOK (by simp only [loK, hiK]; omega) | rfl) ?_)
      | (refine WO.quo rfl rfl (by first | assumption | omega) (by first | exact wrOK (by simp only [loK, hiK]; omega) | rfl) ?_)
      | (refine WO.rem rfl rfl (by first | assumption | omega) ?_)
      | (refine WO.and rfl rfl ?_)
      | (refine WO.or rfl rfl ?_)
      | (refine WO.xor rfl rfl ?_)
      | (refine WO.shl rfl rfl (by first | assumption | omega) (by simp [IntKind.bits]; rfl) ?_)
      | (refine WO.shr rfl rfl (by first | assumption | omega) (by simp [IntKind.bits]; rfl) ?_)
      | (refine WO.build (C := [_]) rfl ?_)
      | (refine WO.build (C := [_, _]) rfl ?_)
      | (refine WO.build (C := [_, _, _]) rfl ?_)
      | (refine WO.build (C := [_, _, _, _]) rfl ?_)
      | (refine WO.build (C := [_, _, _, _, _]) rfl ?_)
      | (refine WO.build (C := [_, _, _, _, _, _]) rfl ?_)
      | (refine WO.build (C := [_, _, _, _, _, _, _]) rfl ?_)
      | (refine WO.eqnil (by assumption) (fun hn1 hn2 => ?_) ?_)
      | (refine W.condT rfl ?_)
      | (refine W.condF rfl ?_)
      | (refine W.condDT rfl (by first | assumption | omega) ?_)
      | (refine W.condDF rfl (by first | assumption | omega) ?_)
      | (refine W.condD rfl (fun hc => ?_) (fun hc => ?_))
      | (refine WO.gS rfl (fun hc => ?_) (fun hc => ?_) <;> try (exfalso; omega))
      | (refine WO.pickS rfl (fun hc => ?_) (fun hc => ?_) <;> try (exfalso; omega))
      | (refine W.skip ?_)
      | (refine W.block ?_)
      | (refine W.drawA rfl ?_)
      | (refine W.sdrawA rfl ?_)
      | (refine And.intro rfl ?_)
      | (refine W.exit ?_)
      | (refine W.ret ?_)
      | (refine W.seq ?_)
      | (refine W.goto ?_)
      | (refine W.label ?_)
      | (refine SQ.nn ?_)
      | (refine SQ.x ?_)
      | (refine SQ.r ?_)
      | (refine SQ.g ?_)
      | (refine BQ.nn ?_)
      | (refine BQ.x ?_)
      | (refine BQ.r ?_)
      | (refine BQ.g ?_)
      | (refine BQ.y rfl ?_)
      | (refine LQ.x ?_)
      | (refine LQ.r ?_)
      | (refine LQ.g ?_)
      | (refine GQ.nn ?_)
      | (refine GQ.x ?_)
      | (refine GQ.r ?_)
      | (refine W.drawU [b4, b6] (k := 2) rfl ?_)
      | (refine WS.zero ?_)
      | (refine WS.ee rfl ?_)
      | (refine WS.nn rfl ?_)
      | (refine ⟨fun c hc => ks c (List.mem_append_right _ hc), ?_⟩)
      | (refine ⟨fun c hc => g2.bk (bx.s c (List.mem_append_right _ hc)).1, ?_⟩)
      | (refine And.intro (allQ_p rfl (by simp) (allQ_p rfl (by simp) trivial)) ?_)
      | (refine And.intro ⟨.inl hav, allG_i rfl trivial⟩ ?_)
      | (refine WO.call rfl kS ?_; rintro _ H1 ⟨rfl, bx, ks⟩)
      | (refine WO.call rfl (kB _ (by omega)) ?_; rintro _ H2 ⟨rfl, g2⟩; have bx2 := bx.grows g2; have rw2 := rw.at ((g2.bk (bx.s _ hSb).1).trans (ks _ hSb)); have o42 := o4.at ((g2.bk (bx.s _ hS4).1).trans (ks _ hS4)); have o62 := o6.at ((g2.bk (bx.s _ hS6).1).trans (ks _ hS6)))
      | (refine WO.iaddrO rfl rfl (by omega) (by omega) ?_)
      | (refine WO.storeW (i := n - 1) (off := 1) ((nth Lo ((n - 1 : Nat) : Int)).1, tv) rfl rw2 (by omega) (by show _ = o + (n - 1) * 2 + 1; omega) rfl rfl rfl (by decide) rfl (fun H3 rw3 u3 => ?_); have bx3 := bx2.upd u3 hSb hbb.1; have o43 := o42.at (u3.keep b4 (by omega)); have o63 := o62.at (u3.keep b6 (by omega)))
      | (refine WO.call rfl (resW_FR bx3) ?_; rintro _ H4 ⟨rfl, w4, kr⟩)
      | (refine WO.call rfl (resW_FR w.bx) ?_; rintro _ H4 ⟨rfl, w4, kr⟩))
    all_goals first
      | (have e := hcl ()
         rw [if_neg (by omega)] at e
         subst e
         exact ⟨rfl, o4.at (kr _ hS4), o6.at (kr _ hS6), (rw.at (kr _ hSb)).own, w4, n4, n6, hd, no⟩)
      | (have e := hcl ()
         rw [if_pos ⟨by omega, by omega⟩] at e
         subst e
         have rw4 := (rw3.at (kr _ hSb)).own
         rw [List.length_set] at rw4
         exact ⟨rfl, o43.at (kr _ hS4), o63.at (kr _ hS6), rw4, w4, n4, n6, hd, no⟩)
end Go.Proofs.YtdgnddidibpilaaDoor.AS
end
section
set_option autoImplicit false
set_option maxHeartbeats 1000000
set_option linter.unusedSimpArgs false
set_option linter.unusedVariables false
namespace Go.Proofs.YtdgnddidibpilaaDoor.AS
open Go Go.Proofs Go.RowKit Go.Proofs.YtdgnddidibpilaaDoor.AS.V
section
variable {h0 h H H1 H2 H3 : Heap} {b4 b5 b6 n : Nat} {out a : AV} {V V' : List Int} {Lo : List Fd}
theorem PSt.ini (o4 : Obj h b4 [.s (.slice none 0 0)]) (o5 : ObjT h b5 49 [.s (.pointer none), .s (.slice none 0 0)]) (o6 : Obj h b6 [.s (.int .i64 0)]) (n4 : h0.length ≤ b4) (n5 : h0.length ≤ b5) (n6 : h0.length ≤ b6) (g : Grows h0 h) (d : b4 ≠ b6) (d4 : b4 ≠ b5) (d6 : b6 ≠ b5) : PSt h0 h b4 b5 b6 (.s (.slice none 0 0)) 0 [] [] := by
  refine ⟨o4, o6, Own.nil, ⟨⟨.s (.slice none 0 0), ⟨⟨_, o5, .inl rfl⟩, Own.nil, by simp [bo], fun _ => rfl, .inl ⟨rfl, rfl⟩⟩, fun c hc => by simp [bo] at hc⟩, n5, g, fun c hc => ?_⟩, n4, n6, d, fun c hc => by simp [bo] at hc⟩
  rcases mem_S.1 hc with h1 | rfl | rfl
  · simp [bo] at h1
  · exact ⟨o4.lt, d4⟩
  · exact ⟨o6.lt, d6⟩
theorem PSt.wr (P : PSt h0 h b4 b5 b6 out n V Lo) (w : BW h0 H b5 ((bo out).toList ++ [b4, b6]) V') (k : ∀ c ∈ (bo out).toList ++ [b4, b6], bk H c = bk h c) : PSt h0 H b4 b5 b6 out n V' Lo :=
  ⟨P.o4.at (k _ (mem_S.2 (.inr (.inl rfl)))), P.o6.at (k _ (mem_S.2 (.inr (.inr rfl)))), P.own.at (fun c hc => k c (mem_S.2 (.inl hc))), w, P.n4, P.n6, P.d, P.no⟩
theorem PSt.inc {m : Nat} (P : PSt h0 h b4 b5 b6 out n V Lo) (o : Obj H b6 [.s (.int .i64 m)]) (u : Upd h H b6) : PSt h0 H b4 b5 b6 out m V Lo :=
  ⟨P.o4.upd u P.d, o, P.own.upd u (fun e => (P.no b6 e).2.2 rfl), P.w.upd u (mem_S.2 (.inr (.inr rfl))) P.n6, P.n4, P.n6, P.d, P.no⟩
theorem PSt.put {L' : List Fd} (P : PSt h0 h b4 b5 b6 out n V Lo) (g : Grows h H1) (own3 : Own encF 41 H2 a L') (ap : ApF H1 H2 out a) (o4' : Obj H3 b4 [a]) (u : Upd H2 H3 b4) : PSt h0 H3 b4 b5 b6 a n V L' := by
  have l4 := P.o4.lt
  have l6 := P.o6.lt
  have l5 := P.w.lt
  have gl := g.len
  have hne : ∀ c, bo a = some c → h0.length ≤ c ∧ c ≠ b4 ∧ c ≠ b6 := fun c hc => by
    rcases ap.place c hc with h1 | h1
    · have := P.w.g.len; exact ⟨by omega, by omega, by omega⟩
    · exact P.no c h1
  have W1 := P.w.grows g
  have W2 := W1.ap ap (fun c hc => ⟨mem_S.2 (.inl hc), (P.no c hc).1⟩)
  obtain ⟨⟨buf, B1, B2⟩, n5, g0, s5⟩ := W1
  have W3 : BW h0 H2 b5 ((bo a).toList ++ [b4, b6]) V := by
    refine ⟨⟨buf, B1.at (ap.keep b5 (by omega) (fun e => (s5 b5 (mem_S.2 (.inl e))).2 rfl)) (fun d hd => ap.keep d (B1.o.row.lt hd) (fun e => (B2 d hd).2 (mem_S.2 (.inl e)))), fun c hc => ⟨(B2 c hc).1, fun hm => ?_⟩⟩, n5, W2.g, fun c hc => ?_⟩
    · have hl := B1.o.row.lt hc
      rcases mem_S.1 hm with h1 | h1
      · rcases ap.place c h1 with h2 | h2
        · omega
        · exact (B2 c hc).2 (mem_S.2 (.inl h2))
      · exact (B2 c hc).2 (mem_S.2 (.inr h1))
    · rcases mem_S.1 hc with h1 | h1
      · refine ⟨own3.row.lt h1, ?_⟩
        rcases ap.place c h1 with h2 | h2
        · omega
        · exact (s5 c (mem_S.2 (.inl h2))).2
      · exact W2.s c (mem_S.2 (.inr h1))
  refine ⟨o4', ((P.o6.grows g).ap ap (fun e => (P.no b6 e).2.2 rfl)).upd u (fun e => P.d e.symm), own3.upd u (fun e => (hne b4 e).2.1 rfl), W3.upd u (mem_S.2 (.inr (.inl rfl))) P.n4, P.n4, P.n6, P.d, hne⟩
end
theorem blank_idx (c : Int) (h0 : 0 ≤ c) (h1 : c ≤ 255) : 0 ≤ idxS BT c ↔ blB c = true := by
  rw [idx_cnt h0 h1]
  unfold blB
  rw [decide_eq_true_iff]
  have e : bytesOf BT = [32, 9] := by decide
  have hs : BT.size = 2 := rfl
  rw [e, hs]
  unfold cntU isB
  by_cases h2 : (32 : Int) = c
  · simp [h2]
  · by_cases h3 : (9 : Int) = c
    · simp [cntU, h3, h2]
      try (split <;> omega)
    · simp [cntU, h3, h2]
      omega
end Go.Proofs.YtdgnddidibpilaaDoor.AS
end
section
set_option autoImplicit false
set_option maxRecDepth 100000
set_option maxHeartbeats 4000000
set_option linter.unusedSimpArgs false
set_option linter.unusedVariables false
namespace Go.Proofs.YtdgnddidibpilaaDoor.AS
open Go Go.Proofs Go.RowKit Go.Proofs.YtdgnddidibpilaaDoor.AS.V

theorem vP_len {R : List Fd} {line : ByteArray} (h : 0 < R.length) : (vP (addL R line)).length = (vP R).length + line.size := by rw [v_add line h, List.length_append, bytesOf_length]
theorem eolN_le (s : ByteArray) : eolN s ≤ nxtN s ∧ eolN s ≤ s.size := by
  have := nlP_le s
  unfold eolN nxtN
  split <;> split <;> omega
theorem namN_lt {s : ByteArray} (h : 0 < namN s) : namN s < s.size := by
  unfold namN at *
  split at h
  · rename_i e; rw [if_pos e]; exact e.1
  · omega
theorem parse9_FR (h : Heap) (s : ByteArray) (hs : s.size ≤ 8388608) : FR Tryd.prog TT 9 [.s (.string s)] h fun x H => ∃ out, x = .tp [out, .s (.int .i64 (parseS s).2)] ∧ Out encF 41 h H out (parseS s).1 := by
  have hP : parseS s = (((prs s (s.size + 1) 0 []).1.take 1024).map tfF, ((prs s (s.size + 1) 0 []).2 : Int)) := rfl
  have hini := PrI.ini s
  generalize parseS s = pS at hP
  generalize prs s (s.size + 1) 0 [] = R0 at hP hini
  subst hP
  refine FR.of q9 (by kernel_rfl) ?_
  unfold c9
  repeat' (first
    | (refine WO.mvE out rfl ?_)
    | (refine LQ.fin ?_)
    | (refine EQ.fin rfl ?_)
    | (refine EQ.finN rfl ?_)
    | (refine GQ.fin ?_)
    | (refine WO.mvs rfl ?_)
    | (refine WO.mvp rfl ?_)
    | (refine WO.mvt rfl ?_)
    | (refine WO.mv ?_)
    | (refine W.sreg ?_)
    | (refine W.sdraw ?_)
    | (refine W.reg ?_)
    | (refine W.draw ?_)
    | (refine WO.nil ?_)
    | (refine WO.gU rfl ?_)
    | (refine WO.gT rfl rfl ?_)
    | (refine WO.gF rfl rfl ?_)
    | (refine WO.ext rfl rfl ?_)
    | (refine WO.lenR (by assumption) ?_)
    | (refine WO.add rfl rfl (by first | exact wrOK (by simp only [loK, hiK]; omega) | rfl) ?_)
    | (refine WO.sub rfl rfl (by first | exact wrOK (by simp only [loK, hiK]; omega) | rfl) ?_)
    | (refine WO.lss rfl rfl ?_)
    | (refine WO.leq rfl rfl ?_)
    | (refine WO.gtr rfl rfl ?_)
    | (refine WO.geq rfl rfl ?_)
    | (refine WO.eql rfl rfl ?_)
    | (refine WO.neq rfl rfl ?_)
    | (refine WO.seql rfl rfl ?_)
    | (refine WO.sneq rfl rfl ?_)
    | (refine WO.beql rfl rfl (tb rfl) ?_)
    | (refine WO.bneq rfl rfl (tb rfl) ?_)
    | (refine WO.not rfl ?_)
    | (refine WO.not0 rfl ?_)
    | (refine WO.cvi rfl (kd rfl) (kd rfl) (by first | exact wrOK (by simp only [loK, hiK]; omega) | rfl) ?_)
    | (refine WO.cvs rfl (st rfl) (st rfl) ?_)
    | (refine WO.ix rfl rfl (st rfl) (by first | assumption | omega) (by first | assumption | omega) ?_)
    | (refine WO.slen rfl (st rfl) ?_)
    | (refine WO.iaddr (by assumption) rfl rfl (by first | assumption | omega) (by first | assumption | omega) (fun q hq => ?_))
    | (refine WO.load (by assumption) rfl rfl ?_)
    | (refine WO.loadO rfl (by assumption) rfl rfl ?_)
    | (refine WO.faddrP (by assumption) rfl (fun q hq => ?_))
    | (refine WO.nilckP (by assumption) ?_)
    | (refine WO.nilck rfl ?_)
    | (refine WO.faddr rfl ?_)
    | (refine WO.fld rfl rfl rfl ?_)
    | (refine WO.pickT rfl ?_)
    | (refine WO.pickF rfl ?_)
    | (refine WO.sll rfl rfl (st rfl) (by first | assumption | omega) (by first | assumption | omega) ?_)
    | (refine WO.slh rfl rfl (st rfl) (by first | assumption | omega) (by first | assumption | omega) ?_)
    | (refine WO.slb rfl rfl rfl (st rfl) (by first | assumption | omega) (by first | assumption | omega) (by first | assumption | omega) ?_)
    | (refine WO.mul rfl rfl (by first | exact wrOK (by simp only [loK, hiK]; omega) | rfl) ?_)
    | (refine WO.quo rfl rfl (by first | assumption | omega) (by first | exact wrOK (by simp only [loK, hiK]; omega) | rfl) ?_)
    | (refine WO.rem rfl rfl (by first | assumption | omega) ?_)
    | (refine WO.and rfl rfl ?_)
    | (refine WO.or rfl rfl ?_)
    | (refine WO.xor rfl rfl ?_)
    | (refine WO.shl rfl rfl (by first | assumption | omega) (by simp [IntKind.bits]; rfl) ?_)
    | (refine WO.shr rfl rfl (by first | assumption | omega) (by simp [IntKind.bits]; rfl) ?_)
    | (refine WO.build (C := [_]) rfl ?_)
    | (refine WO.build (C := [_, _]) rfl ?_)
    | (refine WO.build (C := [_, _, _]) rfl ?_)
    | (refine WO.build (C := [_, _, _, _]) rfl ?_)
    | (refine WO.build (C := [_, _, _, _, _]) rfl ?_)
    | (refine WO.build (C := [_, _, _, _, _, _]) rfl ?_)
    | (refine WO.build (C := [_, _, _, _, _, _, _]) rfl ?_)
    | (refine WO.eqnil (by assumption) (fun hn1 hn2 => ?_) ?_)
    | (refine W.condT rfl ?_)
    | (refine W.condF rfl ?_)
    | (refine W.condDT rfl (by first | assumption | omega) ?_)
    | (refine W.condDF rfl (by first | assumption | omega) ?_)
    | (refine W.condD rfl (fun hc => ?_) (fun hc => ?_))
    | (refine WO.gS rfl (fun hc => ?_) (fun hc => ?_) <;> try (exfalso; omega))
    | (refine WO.pickS rfl (fun hc => ?_) (fun hc => ?_) <;> try (exfalso; omega))
    | (refine W.skip ?_)
    | (refine W.block ?_)
    | (refine W.drawA rfl ?_)
    | (refine W.sdrawA rfl ?_)
    | (refine And.intro rfl ?_)
    | (refine W.exit ?_)
    | (refine W.ret ?_)
    | (refine hk (0, .s (.slice none 0 0), [], b4, b5, b6) _ _ _ _ _ (by dsimp only; omega) ⟨rfl, rfl, rfl, rfl, congrArg (fun x => AV.s (.string x)) (sfx_0 s).symm, rfl, trivial⟩ ⟨P0, Nat.zero_le _, Nat.zero_le _, Nat.zero_le _, hini⟩ rfl)
    | (refine W.seq ?_)
    | (refine W.goto ?_)
    | (refine W.label ?_)
    | (refine SQ.nn ?_)
    | (refine SQ.x ?_)
    | (refine SQ.r ?_)
    | (refine SQ.g ?_)
    | (refine BQ.nn ?_)
    | (refine BQ.x ?_)
    | (refine BQ.r ?_)
    | (refine BQ.g ?_)
    | (refine BQ.y rfl ?_)
    | (refine LQ.x ?_)
    | (refine LQ.r ?_)
    | (refine LQ.g ?_)
    | (refine GQ.nn ?_)
    | (refine GQ.x ?_)
    | (refine GQ.r ?_)
    | ((fail_if_success (have hh := n4)); refine WO.new (fun b4 H1 n4 g1 o4 => ?_))
    | ((fail_if_success (have hh := n5)); refine WO.newT (fun b5 H2 n5 g2 o5 => ?_))
    | ((fail_if_success (have hh := n6)); refine WO.new (fun b6 H3 n6 g3 o6 => ?_))
    | ((fail_if_success (have hh := u4)); refine WO.storeO (C' := [_]) rfl o6 rfl rfl rfl rfl rfl (fun H4 o6' u4 => ?_); have l4 := o4.lt; have l5 := o5.lt; have l6 := g1.len; have l7 := g2.len; have l8 := g3.len; have P0 : PSt h H4 b4 b5 b6 (.s (.slice none 0 0)) 0 [] [] := PSt.ini ((o4.grows (g2.trans g3)).upd u4 (by omega)) ((o5.grows g3).upd u4 (by omega)) o6' (by omega) (by omega) (by omega) (u4.grows (g1.trans (g2.trans g3)) (by omega)) (by omega) (by omega) (by omega))
    | (refine WO.mkfn rfl rfl ?_)
    | (refine WO.call rfl (kL _) ?_; rintro _ H ⟨rfl, hH⟩; obtain rfl := hH.symm)
    | (refine WO.call rfl (kN _) ?_; rintro _ H ⟨rfl, hH⟩; obtain rfl := hH.symm)
    | (refine WO.call rfl (kI _) ?_; rintro _ H ⟨rfl, hH⟩; obtain rfl := hH.symm)
    | (refine WO.call rfl (wsW_FR ln P.w (by omega)) ?_; rintro _ H1 ⟨rfl, w1, k1⟩; have P1 := P.wr w1 k1)
    | (refine WO.callF rfl rfl rfl kcl ?_; rintro _ H1 ⟨rfl, P1⟩; have o41 := P1.o4; have o61 := P1.o6; have hav1 := P1.own.row.avEq)
    | (refine WO.storeO (C' := [.s (.int .i64 ((R.length + 1 : Nat) : Int))]) rfl o61 rfl rfl rfl rfl rfl (fun H2 o62 u2 => ?_); have P2 := P1.inc o62 u2; have o42 := P2.o4; have own2 := P2.own)
    | (refine W.drawU [b4] (k := 1) rfl ?_)
    | (refine WS.zero ?_)
    | (refine WS.ee rfl ?_)
    | (refine WS.nn rfl ?_)
    | (refine ⟨fun c hc => g3.bk (by rw [List.mem_singleton.1 hc]; exact o42.lt), ?_⟩)
    | (refine And.intro (allQ_p rfl (by simp) trivial) ?_)
    | (refine And.intro ⟨.inl hav1, trivial⟩ ?_)
    | (refine And.intro ⟨hav1, trivial⟩ ?_)
    | (refine WO.slP nm rfl rfl (st rfl) rfl (by omega) ?_)
    | (refine WO.bsl (E := encF) (C := [_, _]) rfl [(pfx ln nm, ⟨#[]⟩)] rfl rfl rfl (fun a1 H3 g3 o3 nw3 => ?_))
    | (refine WO.app (own2.grows g3) o3.row rfl rfl (by simp only [List.length_cons, List.length_nil]; omega) (by simp only [List.length_cons, List.length_nil]; omega) (fun a2 H4 own4 ap => ?_))
    | (refine WO.storeO (C' := [a2]) rfl ((o42.grows g3).ap ap (fun e => (P2.no b4 e).2.1 rfl)) own4.row.cellsOf rfl own4.row.isC rfl rfl (fun H5 o45 u5 => ?_); have P5 := P2.put g3 own4 ap o45 u5)
    | (refine WO.slS (nm + 1) rfl rfl (st rfl) rfl (by omega) ?_)
    | (refine WO.call rfl (wsW_FR (sfx ln (nm + 1)) P5.w (by simp only [List.length_nil, sfx_size]; omega)) ?_; rintro _ H6 ⟨rfl, w6, k6⟩; have P6 := P5.wr w6 k6)
    | (refine WO.call rfl (wsW_FR (sfx ln (nm + 1)) P2.w (by simp only [List.length_nil, sfx_size]; omega)) ?_; rintro _ H6 ⟨rfl, w6, k6⟩; have P6 := P2.wr w6 k6)
    | (refine W.scopeK (σ := Nat × AV × List Fd × Nat × Nat × Nat) (fun σ => [(0, .s (.string s)), (4, .pt σ.2.2.2.1 0 0), (5, .pt σ.2.2.2.2.1 0 0), (6, .pt σ.2.2.2.2.2 0 0), (7, .s (.string (sfx s σ.1))), (8, .fn (.func 27) [] [.pt σ.2.2.2.2.2 0 0, .pt σ.2.2.2.2.1 0 0, .pt σ.2.2.2.1 0 0])]) (fun _ => 0) (fun σ h' => PSt h h' σ.2.2.2.1 σ.2.2.2.2.1 σ.2.2.2.2.2 σ.2.1 σ.2.2.1.length (vP σ.2.2.1) (loP σ.2.2.1) ∧ σ.1 ≤ s.size ∧ σ.2.2.1.length ≤ σ.1 ∧ (vP σ.2.2.1).length ≤ σ.1 ∧ PrI s R0 σ.1 σ.2.2.1) (fun σ => s.size - σ.1) s.size (fun σ G h' hI => ?_) (fun R hk => ?_))
    | (obtain ⟨k, out, R, b4, b5, b6⟩ := σ; obtain ⟨P, hi, hRk, hVk, hF⟩ := hI; dsimp only at P hi hRk hVk hF ⊢; refine ⟨_, rfl, ?_⟩; have o4 := P.o4; have o6 := P.o6; have kcl := close27_FR P (fun e => by rw [loP_len]; omega) (by omega) (by omega); rw [cl_lo] at kcl; have hF := fun _ : Unit => hF; have hsz := sfx_size s k; have heo := eolN_le (sfx s k); have hnx := fun e : k < s.size => PrI.nx (s := s) (k := k) e; have kL := fun hp => line31_FR hp (sfx s k) (by omega); have hln : (lineT (sfx s k)).size = eolN (sfx s k) := pfx_size _ _ heo.2; rw [show moreT (sfx s k) = sfx s (k + nxtN (sfx s k)) from sfx_sfx s k _] at kL; have f1 := fun (_ : Unit) (e : s.size ≤ k) => (hF ()).e1 e; have f2 := fun (_ : Unit) (e : k < s.size) => (hF ()).e2 e; have f3 := fun (_ : Unit) (e : k < s.size) => (hF ()).bl e; have f4 := fun (_ : Unit) (e : k < s.size) => (hF ()).nm e; have f5 := fun (_ : Unit) (e : k < s.size) => (hF ()).e3 e; generalize lineT (sfx s k) = ln at kL hln f1 f2 f3 f4 f5; have kN := fun hp => nam32_FR hp ln (by omega); have hnl := namN_lt (s := ln); generalize namN ln = nm at kN hnl f1 f2 f3 f4 f5; have hnm : nm ≤ ln.size := (by omega); generalize nxtN (sfx s k) = nx at hnx heo kL f1 f2 f3 f4 f5; generalize eolN (sfx s k) = el at hln heo; have hb0 := bt_range ln 0; have hbi := blank_idx (bt ln 0) hb0.1 hb0.2; have kI := fun hp => idx33_FR hp BT (bt ln 0); generalize idxS BT (bt ln 0) = ix at hbi kI; have ha := fun (_ : Unit) => lo_add (R := R) ln; have hva := fun (_ : Unit) => v_add (R := R) ln; have hvl := fun (_ : Unit) => vP_len (R := R) (line := ln); have hal := addL_len R ln; generalize addL R ln = Ra at ha hva hvl hal f3; have hlo := fun (_ : Unit) => lo_open R; have hlo' := fun (_ : Unit) => lo_open' R; have hvo := fun (_ : Unit) => v_open R; have htk : ((R.take 1024).map tfF).length ≤ 8388608 := (by rw [List.length_map, List.length_take]; omega); generalize hRt : (R.take 1024).map tfF = Rt at kcl hlo hlo' htk; have hRt := fun _ : Unit => hRt; have hsz2 := sfx_size s (k + nx); have hne : ¬ k < s.size → sfx s k = ⟨#[]⟩ := (fun e => sfx_all (by omega)); have hne1 : sfx s k = ⟨#[]⟩ → ¬ k < s.size := (fun e => by rw [e] at hsz; have : (⟨#[]⟩ : ByteArray).size = 0 := rfl; omega); have hl0 : ¬ ln = ⟨#[]⟩ → 0 < ln.size := (fun e => by rcases Nat.eq_zero_or_pos ln.size with h0 | h0; exact absurd (bytesOf_inj (List.length_eq_zero_iff.1 ((bytesOf_length ln).trans h0))) e; exact h0); have hl0' : ln = ⟨#[]⟩ → ln.size = 0 := (fun e => by rw [e]; rfl); generalize hsk : sfx s k = sk at kL hne hne1 hsz; by_cases hz : k < s.size; by_cases hlz : 0 < ln.size))
  all_goals try have hnx' := hnx (by assumption)
  all_goals first
    | (exfalso; exact hne1 (by assumption) (by assumption))
    | (exfalso; have h1 := hl0' (by assumption); omega)
    | (exfalso; have h1 := hl0 (by assumption); omega)
    | (exfalso; have h1 := hne (by assumption); contradiction)
    | (have e := f1 () (by omega)
       have hx : R0 = _ := e
       subst hx
       refine ⟨out, congrArg (fun z : Int => AV.tp [out, .s (.int .i64 z)]) (by dsimp only; omega), ?_⟩
       dsimp only
       rw [hRt ()]
       exact ⟨P1.w.g, P1.own, fun c hc => (P1.no c hc).1⟩)
    | (have e := f2 () (by assumption) (by omega)
       have hx : R0 = _ := e
       subst hx
       refine ⟨out, congrArg (fun z : Int => AV.tp [out, .s (.int .i64 z)]) (by dsimp only; omega), ?_⟩
       dsimp only
       rw [hRt ()]
       exact ⟨P1.w.g, P1.own, fun c hc => (P1.no c hc).1⟩)
    | (have e := f5 () (by assumption) (by omega) (fun e => by have h1 := hbi.2 e.1; have h2 := e.2; omega) (by omega)
       have hx : R0 = _ := e
       subst hx
       refine ⟨out, congrArg (fun z : Int => AV.tp [out, .s (.int .i64 z)]) (by dsimp only; omega), ?_⟩
       dsimp only
       rw [hRt ()]
       exact ⟨P1.w.g, P1.own, fun c hc => (P1.no c hc).1⟩)
    | (have h1 := hvl () (by omega)
       have h2 := f3 () (by assumption) (by omega) (hbi.1 (by assumption)) (by omega)
       refine ⟨(k + nx, out, Ra, b4, b5, b6), by dsimp only; omega, rfl, ⟨rfl, rfl, rfl, rfl, rfl, rfl, trivial⟩, ?_, by dsimp only; omega, by dsimp only; omega, by dsimp only; omega, h2⟩
       dsimp only
       rw [hal, hva () (by omega), ha () (by omega)]
       exact P1)
    | (have h2 := f4 () (by assumption) (by omega) (fun e => by have h1 := hbi.2 e.1; have h2 := e.2; omega) (by omega)
       refine ⟨(k + nx, a2, R ++ [(pfx ln nm, sfx ln (nm + 1))], b4, b5, b6), by dsimp only; omega, rfl, ⟨rfl, rfl, rfl, rfl, rfl, rfl, trivial⟩, ?_, by dsimp only; omega, by dsimp only; rw [List.length_append, List.length_singleton]; omega, by dsimp only; rw [hvo (), bytesOf_length, sfx_size]; omega, h2⟩
       dsimp only
       rw [List.length_append, List.length_singleton, hvo (), hlo () _ (by omega)]
       exact P6)
    | (have h2 := f4 () (by assumption) (by omega) (fun e => by have h1 := hbi.2 e.1; have h2 := e.2; omega) (by omega)
       refine ⟨(k + nx, out, R ++ [(pfx ln nm, sfx ln (nm + 1))], b4, b5, b6), by dsimp only; omega, rfl, ⟨rfl, rfl, rfl, rfl, rfl, rfl, trivial⟩, ?_, by dsimp only; omega, by dsimp only; rw [List.length_append, List.length_singleton]; omega, by dsimp only; rw [hvo (), bytesOf_length, sfx_size]; omega, h2⟩
       dsimp only
       rw [List.length_append, List.length_singleton, hvo (), hlo' () _ (by omega)]
       exact P6)
end Go.Proofs.YtdgnddidibpilaaDoor.AS
end
