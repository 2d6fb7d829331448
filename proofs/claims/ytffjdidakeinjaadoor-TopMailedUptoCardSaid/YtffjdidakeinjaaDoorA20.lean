/- Of our own: an abstract machine beside the model, its soundness, and walks of the program in it. -/
import Derived.Test.YtffjdidakeinjaaDoorA16
import Derived.Test.YtffjdidakeinjaaDoorA19
import Derived.Test.YtffjdidakeinjaaDoorA17
import Derived.Test.YtffjdidakeinjaaDoorA8
import Derived.Deep.DeepHandedRow
import Derived.Lib.LaidTab
import Derived.Test.YtffjdidakeinjaaDoorA13
import Derived.Test.YtffjdidakeinjaaDoorA14
import Derived.Test.YtffjdidakeinjaaDoorRows
import Derived.ChangeArms
import Derived.ChangeSame
import Derived.DataReads
import Derived.WideShapes
set_option linter.unusedSimpArgs false
set_option linter.unusedVariables false
section
set_option autoImplicit false
set_option maxHeartbeats 1000000
set_option linter.unusedSimpArgs false
set_option linter.unusedVariables false
namespace Go.Proofs.YtffjdidakeinjaaDoor.AS
open Go Go.Proofs Go.RowKit Go.Proofs.YtffjdidakeinjaaDoor.AS.V
theorem HX_dig : ∀ i : Fin 16, digS (bt HX (i.val : Int)) = (i.val : Int) := by decide +kernel
theorem HX_dig' {x : Int} (h0 : 0 ≤ x) (h1 : x < 16) : digS (bt HX x) = x := by
  have := HX_dig ⟨x.toNat, by omega⟩
  rwa [show ((x.toNat : Nat) : Int) = x by omega] at this
theorem dropB_no {c : Int} {r : List Int} (h : ¬ (c = 32 ∨ c = 9)) : dropB (c :: r) = c :: r := by
  unfold dropB
  rw [List.dropWhile_cons, if_neg (by rw [decide_eq_false h]; decide)]
theorem dropB_32 {r : List Int} : dropB (32 :: r) = dropB r := by
  unfold dropB
  rw [List.dropWhile_cons, if_pos (by decide)]
theorem endL_no {c : Int} {r : List Int} (h1 : c ≠ 10) (h2 : c ≠ 13) : endL (c :: r) = -1 := by
  rw [endL, if_neg h1, if_neg (fun e => h2 e.1)]
/-- Behind a blank that does not end its line no line ends. -/
theorem qp_no : ∀ r : List Int, (∀ c ∈ r, 0 ≤ c ∧ c ≤ 255) → lastL r = false → endL (dropB (qpL r)) = -1
  | [], _, h => by cases h
  | d :: r, hr, h => by
    have hd : d ≠ 10 := of_decide_eq_false h
    rw [qpL]
    by_cases hp : (33 ≤ d ∧ d ≤ 126 ∧ d ≠ 61) ∨ (d = 32 ∧ lastL r = false) ∨ d = 10
    · rw [qc, if_pos hp]
      rcases hp with hp | hp | hp
      · rw [List.cons_append, dropB_no (by omega), endL_no hd (by omega)]
      · obtain ⟨rfl, hl⟩ := hp
        rw [List.cons_append, dropB_32]
        exact qp_no r (fun c hc => hr c (by simp [hc])) hl
      · exact absurd hp hd
    · rw [qc, if_neg hp, List.cons_append, dropB_no (by omega), endL_no (by omega) (by omega)]
/-- What was written is read as it was, and nothing is wrong. -/
theorem fq_qp : ∀ (L : List Int) (k : Nat), (∀ c ∈ L, 0 ≤ c ∧ c ≤ 255) → (qpL L).length ≤ k → fq k (qpL L) = (L, 0)
  | [], k, _, _ => by
    rw [qpL]; cases k <;> rfl
  | c :: r, k, h, hk => by
    have hc := h c (by simp)
    have hr : ∀ d ∈ r, 0 ≤ d ∧ d ≤ 255 := fun d hd => h d (by simp [hd])
    have h1 := qc_len1 c (lastL r)
    rw [qpL, List.length_append] at hk
    obtain ⟨k, rfl⟩ : ∃ k2, k = k2 + 1 := ⟨k - 1, by omega⟩
    have ih := fq_qp r k hr (by omega)
    rw [qpL]
    by_cases hp : (33 ≤ c ∧ c ≤ 126 ∧ c ≠ 61) ∨ (c = 32 ∧ lastL r = false) ∨ c = 10
    · have hn : ¬ ((c = 32 ∨ c = 9) ∧ 0 ≤ endL (dropB (qpL r))) := by
        rintro ⟨e1, e2⟩
        rcases hp with hp | hp | hp
        · omega
        · rw [qp_no r hr hp.2] at e2; omega
        · omega
      rw [qc, if_pos hp, List.cons_append, List.nil_append, fq, if_neg (fun e => by have := e.1; omega), if_neg (fun e => by have := e.1; omega), if_neg hn, ih, if_neg (by omega)]
      rfl
    · have d1 := HX_dig' (x := c / 16) (by omega) (by omega)
      have d2 := HX_dig' (x := c % 16) (by omega) (by omega)
      rw [qc, if_neg hp, List.cons_append, List.cons_append, List.cons_append, List.nil_append, fq, if_pos ⟨rfl, by rw [hex2, d1, d2]; exact decide_eq_true (by omega)⟩]
      rw [show (bt HX (c / 16) :: bt HX (c % 16) :: qpL r).drop 2 = qpL r from rfl, ih]
      rw [val2, d1, d2]
      rw [show 16 * (c / 16) + c % 16 = c by omega]
end Go.Proofs.YtffjdidakeinjaaDoor.AS
end
section
set_option autoImplicit false
set_option maxRecDepth 100000
set_option maxHeartbeats 1000000
set_option linter.unusedSimpArgs false
set_option linter.unusedVariables false
namespace Go.Proofs.YtffjdidakeinjaaDoor.AS
open Go Go.Proofs Go.RowKit Go.Proofs.YtffjdidakeinjaaDoor.AS.V
theorem LT_not61 : ∀ i : Fin 64, bt LT (i.val : Int) ≠ 61 := by decide +kernel
theorem LT_no {x : Int} (h0 : 0 ≤ x) (h1 : x < 64) : ¬ bt LT x = 61 := by
  have := LT_not61 ⟨x.toNat, by omega⟩
  rwa [show ((x.toNat : Nat) : Int) = x by omega] at this
theorem LT_find {x : Int} (h0 : 0 ≤ x) (h1 : x < 64) : findS (bt LT x) = x := by
  have := find1 ⟨x.toNat, by omega⟩
  rwa [show ((x.toNat : Nat) : Int) = x by omega] at this
theorem fb_lt0 {x v w : Int} {r : List Int} (h0 : 0 ≤ x) (h1 : x < 64) (hw : v * 64 + x = w) : fb (bt LT x :: r) v 0 = fb r w 6 := by
  rw [fb_0 (LT_no h0 h1) (by rw [LT_find h0 h1]; omega), LT_find h0 h1, hw]
theorem fb_ltm {x v w y : Int} {r : List Int} {m m' : Nat} (h0 : 0 ≤ x) (h1 : x < 64) (hm : m ≠ 0) (hm' : m - 2 = m') (hy : (v * 64 + x) / 2 ^ m' = y) (hw : (v * 64 + x) % 2 ^ m' = w) : fb (bt LT x :: r) v m = (y :: (fb r w m').1, (fb r w m').2) := by
  rw [fb_m (LT_no h0 h1) (by rw [LT_find h0 h1]; omega) hm, LT_find h0 h1, hm', hy, hw]
/-- What was written in base64 is read as it was, nothing counted. -/
theorem fb_b64 : ∀ L : List Int, (∀ c ∈ L, 0 ≤ c ∧ c ≤ 255) → fb (b64 L) 0 0 = (L, 0)
  | [], _ => rfl
  | [a], h => by
    have ha := h a (by simp)
    rw [b64, fb_lt0 (w := a / 4) (by omega) (by omega) (by omega), fb_ltm (m' := 4) (y := a) (w := 0) (by omega) (by omega) (by decide) rfl (by omega) (by omega), fb_end rfl]
  | [a, b], h => by
    have ha := h a (by simp)
    have hb := h b (by simp)
    rw [b64, fb_lt0 (w := a / 4) (by omega) (by omega) (by omega), fb_ltm (m' := 4) (y := a) (w := b / 16) (by omega) (by omega) (by decide) rfl (by omega) (by omega),
      fb_ltm (m' := 2) (y := b) (w := 0) (by omega) (by omega) (by decide) rfl (by omega) (by omega), fb_end rfl]
  | a :: b :: c :: r, h => by
    have ha := h a (by simp)
    have hb := h b (by simp)
    have hc := h c (by simp)
    have ih := fb_b64 r (fun x hx => h x (by simp [hx]))
    rw [b64, fb_lt0 (w := a / 4) (by omega) (by omega) (by omega), fb_ltm (m' := 4) (y := a) (w := b / 16) (by omega) (by omega) (by decide) rfl (by omega) (by omega),
      fb_ltm (m' := 2) (y := b) (w := c / 64) (by omega) (by omega) (by decide) rfl (by omega) (by omega), fb_ltm (m' := 0) (y := c) (w := 0) (by omega) (by omega) (by decide) rfl (by omega) (by omega), ih]
theorem b64_range : ∀ L : List Int, ∀ c ∈ b64 L, 0 ≤ c ∧ c ≤ 255
  | [], c, h => by rw [b64] at h; cases h
  | [a], c, h => by
    rw [b64] at h
    simp only [List.mem_cons, List.not_mem_nil, or_false] at h
    rcases h with rfl | rfl | rfl | rfl <;> first | exact bt_range _ _ | decide
  | [a, b], c, h => by
    rw [b64] at h
    simp only [List.mem_cons, List.not_mem_nil, or_false] at h
    rcases h with rfl | rfl | rfl | rfl <;> first | exact bt_range _ _ | decide
  | a :: b :: d :: r, c, h => by
    rw [b64] at h
    simp only [List.mem_cons] at h
    rcases h with rfl | rfl | rfl | rfl | h
    · exact bt_range _ _
    · exact bt_range _ _
    · exact bt_range _ _
    · exact bt_range _ _
    · exact b64_range r c h
/-- The same of texts. -/
theorem fbS_b64S (s : ByteArray) : fbS (b64S s) = (bytesOf s, 0) := by
  unfold fbS b64S
  rw [bytesOf_strOf (b64_range _)]
  exact fb_b64 _ (bytesOf_range s)
theorem b64_len : ∀ L : List Int, (b64 L).length = (L.length + 2) / 3 * 4
  | [] => rfl
  | [a] => by rw [b64]; simp
  | [a, b] => by rw [b64]; simp
  | a :: b :: c :: r => by
    rw [b64]
    simp only [List.length_cons, b64_len r]; omega
/-- Where three divides the first part's length the parts stand one behind the other. -/
theorem b64_parts : ∀ (k : Nat) (L M : List Int), L.length = 3 * k → b64 (L ++ M) = b64 L ++ b64 M
  | 0, L, M, h => by
    obtain rfl : L = [] := List.length_eq_zero_iff.1 (by omega)
    rfl
  | k + 1, a :: b :: c :: L, M, h => by
    have ih := b64_parts k L M (by simp only [List.length_cons] at h; omega)
    rw [List.cons_append, List.cons_append, List.cons_append, b64, b64, ih]; rfl
  | k + 1, [], M, h => by simp at h
  | k + 1, [a], M, h => by simp at h; omega
  | k + 1, [a, b], M, h => by simp at h; omega
end Go.Proofs.YtffjdidakeinjaaDoor.AS
end
section
set_option autoImplicit false
set_option maxHeartbeats 1000000
set_option linter.unusedVariables false
namespace Go.Proofs.YtffjdidakeinjaaDoor.AS
open Go Go.Proofs Go.RowKit Go.Proofs.YtffjdidakeinjaaDoor.AS.V
theorem qpL_range (L : List Int) (h : ∀ c ∈ L, 0 ≤ c ∧ c ≤ 255) : ∀ x ∈ qpL L, 0 ≤ x ∧ x ≤ 255 := by
  intro x hx
  have := qpL_print L h x hx
  omega
theorem fqS_qpS (s : ByteArray) : fqS (qpS s) = (bytesOf s, 0) := by
  unfold fqS qpS
  rw [bytesOf_strOf (qpL_range _ (bytesOf_range s)), strOfNums_size]
  exact fq_qp _ _ (bytesOf_range s) (Nat.le_refl _)
end Go.Proofs.YtffjdidakeinjaaDoor.AS
end
section
set_option autoImplicit false
set_option maxRecDepth 100000
set_option maxHeartbeats 4000000
set_option linter.unusedSimpArgs false
set_option linter.unusedVariables false
namespace Go.Proofs.YtffjdidakeinjaaDoor.AS
open Go Go.Proofs Go.RowKit Go.Proofs.YtffjdidakeinjaaDoor.AS.V

theorem lenN_FR {h0 h : Heap} {b e : Nat} {xs : List AV} {L : List Int} (B : Bld h0 h b e xs L) (q : Int) (hq : (L.length : Int) = q) :
    FR Tryd.prog TT 28 [.pt b 0 0] h fun x H => x = .s (.int .i64 q) ∧ H = h := by
  subst hq; exact len_FR B
theorem base14_FR (h : Heap) (s : ByteArray) (hs : s.size ≤ 35184372088832) : FR Tryd.prog TT 14 [.s (.string s)] h fun x H => x = .s (.string (b64S s)) ∧ Grows h H := by
  have hlt := LT_size
  refine FR.of q14 (by kernel_rfl) ?_
  unfold c14
  repeat' (first
    | (refine WO.shl (r := (bits * 256) % 4294967296) rfl rfl (by omega) (by rw [show (2 : Int) ^ (min (8 : Int).toNat IntKind.u32.bits) = 256 from rfl]; exact wrapU _) ?_)
    | (refine WO.shl (r := (bits * 16) % 4294967296) rfl rfl (by omega) (by rw [show (2 : Int) ^ (min (6 - ((2 : Nat) : Int)).toNat IntKind.u32.bits) = 16 from rfl]; exact wrapU _) ?_)
    | (refine WO.shl (r := (bits * 4) % 4294967296) rfl rfl (by omega) (by rw [show (2 : Int) ^ (min (6 - ((4 : Nat) : Int)).toNat IntKind.u32.bits) = 4 from rfl]; exact wrapU _) ?_)
    | (refine WO.orU 8 rfl rfl (by omega) (by omega) (by omega) (by omega) (by omega) (by omega) ?_)
    | (refine WO.shr (r := _ / 2 ^ _) rfl rfl (by omega) rfl ?_; rw [show (2 : Int) ^ (min (((0 : Nat) : Int) + 8 - 6).toNat IntKind.u32.bits) = 4 from rfl])
    | (refine WO.shr (r := _ / 2 ^ _) rfl rfl (by omega) rfl ?_; rw [show (2 : Int) ^ (min (((2 : Nat) : Int) + 8 - 6).toNat IntKind.u32.bits) = 16 from rfl])
    | (refine WO.shr (r := _ / 2 ^ _) rfl rfl (by omega) rfl ?_; rw [show (2 : Int) ^ (min (((4 : Nat) : Int) + 8 - 6).toNat IntKind.u32.bits) = 64 from rfl])
    | (refine WO.shr (r := _ / 2 ^ _) rfl rfl (by omega) rfl ?_; rw [show (2 : Int) ^ (min (((4 : Nat) : Int) + 8 - 6 - 6).toNat IntKind.u32.bits) = 1 from rfl])
    | (refine WO.andU 6 rfl rfl (by decide) (by decide) (by omega) (by omega) ?_)
    | (refine WO.ix (s := LT) rfl rfl (st rfl) (by omega) (by omega) ?_)
    | (refine WO.remP rfl rfl (by decide) (by omega) ?_)
    | (refine EQ.fin rfl ?_)
    | (refine WO.mvs rfl ?_)
    | (refine WO.mvp rfl ?_)
    | (refine WO.mvt rfl ?_)
    | (refine WO.mv ?_)
    | (refine W.sreg ?_)
    | (refine W.sdraw ?_)
    | (refine W.reg ?_)
    | (refine W.draw ?_)
    | (refine WO.nil ?_)
    | (refine WO.gU rfl ?_)
    | (refine WO.gT rfl rfl ?_)
    | (refine WO.gF rfl rfl ?_)
    | (refine WO.ext rfl rfl ?_)
    | (refine WO.lenR (by assumption) ?_)
    | (refine WO.add rfl rfl (by first | exact wrOK (by simp only [loK, hiK]; omega) | rfl) ?_)
    | (refine WO.sub rfl rfl (by first | exact wrOK (by simp only [loK, hiK]; omega) | rfl) ?_)
    | (refine WO.lss rfl rfl ?_)
    | (refine WO.leq rfl rfl ?_)
    | (refine WO.gtr rfl rfl ?_)
    | (refine WO.geq rfl rfl ?_)
    | (refine WO.eql rfl rfl ?_)
    | (refine WO.neq rfl rfl ?_)
    | (refine WO.seql rfl rfl ?_)
    | (refine WO.sneq rfl rfl ?_)
    | (refine WO.beql rfl rfl (tb rfl) ?_)
    | (refine WO.bneq rfl rfl (tb rfl) ?_)
    | (refine WO.not rfl ?_)
    | (refine WO.not0 rfl ?_)
    | (refine WO.cvi rfl (kd rfl) (kd rfl) (by first | exact wrOK (by simp only [loK, hiK]; omega) | rfl) ?_)
    | (refine WO.cvs rfl (st rfl) (st rfl) ?_)
    | (refine WO.ix rfl rfl (st rfl) (by first | assumption | omega) (by first | assumption | omega) ?_)
    | (refine WO.slen rfl (st rfl) ?_)
    | (refine WO.iaddr (by assumption) rfl rfl (by first | assumption | omega) (by first | assumption | omega) (fun q hq => ?_))
    | (refine WO.load (by assumption) rfl rfl ?_)
    | (refine WO.loadO rfl (by assumption) rfl rfl ?_)
    | (refine WO.faddrP (by assumption) rfl (fun q hq => ?_))
    | (refine WO.nilckP (by assumption) ?_)
    | (refine WO.nilck rfl ?_)
    | (refine WO.faddr rfl ?_)
    | (refine WO.fld rfl rfl rfl ?_)
    | (refine WO.pickT rfl ?_)
    | (refine WO.pickF rfl ?_)
    | (refine WO.sll rfl rfl (st rfl) (by first | assumption | omega) (by first | assumption | omega) ?_)
    | (refine WO.slh rfl rfl (st rfl) (by first | assumption | omega) (by first | assumption | omega) ?_)
    | (refine WO.slb rfl rfl rfl (st rfl) (by first | assumption | omega) (by first | assumption | omega) (by first | assumption | omega) ?_)
    | (refine WO.mul rfl rfl (by first | exact wrOK (by simp only [loK, hiK]; omega) | rfl) ?_)
    | (refine WO.quo rfl rfl (by first | assumption | omega) (by first | exact wrOK (by simp only [loK, hiK]; omega) | rfl) ?_)
    | (refine WO.rem rfl rfl (by first | assumption | omega) ?_)
    | (refine WO.and rfl rfl ?_)
    | (refine WO.or rfl rfl ?_)
    | (refine WO.xor rfl rfl ?_)
    | (refine WO.shl rfl rfl (by first | assumption | omega) (by simp [IntKind.bits]; rfl) ?_)
    | (refine WO.shr rfl rfl (by first | assumption | omega) (by simp [IntKind.bits]; rfl) ?_)
    | (refine WO.build (C := [_]) rfl ?_)
    | (refine WO.build (C := [_, _]) rfl ?_)
    | (refine WO.build (C := [_, _, _]) rfl ?_)
    | (refine WO.build (C := [_, _, _, _]) rfl ?_)
    | (refine WO.build (C := [_, _, _, _, _]) rfl ?_)
    | (refine WO.build (C := [_, _, _, _, _, _]) rfl ?_)
    | (refine WO.build (C := [_, _, _, _, _, _, _]) rfl ?_)
    | (refine WO.eqnil (by assumption) (fun hn1 hn2 => ?_) ?_)
    | (refine W.condT rfl ?_)
    | (refine W.condF rfl ?_)
    | (refine W.condDT rfl (by first | assumption | omega) ?_)
    | (refine W.condDF rfl (by first | assumption | omega) ?_)
    | (refine W.condD rfl (fun hc => ?_) (fun hc => ?_))
    | (refine WO.gS rfl (fun hc => ?_) (fun hc => ?_) <;> try (exfalso; omega))
    | (refine WO.pickS rfl (fun hc => ?_) (fun hc => ?_) <;> try (exfalso; omega))
    | (refine W.skip ?_)
    | (refine W.block ?_)
    | (refine W.drawA rfl ?_)
    | (refine W.sdrawA rfl ?_)
    | (refine And.intro rfl ?_)
    | (refine W.exit ?_)
    | (refine W.ret ?_)
    | (refine W.seq ?_)
    | (refine W.goto ?_)
    | (refine W.label ?_)
    | (refine SQ.nn ?_)
    | (refine SQ.x ?_)
    | (refine SQ.r ?_)
    | (refine SQ.g ?_)
    | (refine BQ.nn ?_)
    | (refine BQ.x ?_)
    | (refine BQ.r ?_)
    | (refine BQ.g ?_)
    | (refine BQ.y rfl ?_)
    | (refine LQ.x ?_)
    | (refine LQ.r ?_)
    | (refine LQ.g ?_)
    | (refine GQ.nn ?_)
    | (refine GQ.x ?_)
    | (refine GQ.r ?_)
    | (refine WO.newT (fun bb H1 hb gb obt => ?_))
    | (refine WO.call rfl (wb_FR _ B (by omega)) ?_; rintro _ H ⟨rfl, B1⟩)
    | (refine WO.call rfl (wb_FR _ B1 (by simp only [List.length_append, List.length_singleton]; omega)) ?_; rintro _ H ⟨rfl, B2⟩)
    | (refine WO.call rfl (wb_FR _ B2 (by simp only [List.length_append, List.length_singleton]; omega)) ?_; rintro _ H ⟨rfl, B3⟩)
    | (refine WO.call rfl (lenN_FR B O.length rfl) ?_; rintro _ H ⟨rfl, hH⟩; obtain rfl := hH.symm)
    | (refine WO.call rfl (lenN_FR B1 (O.length + 1) (by simp only [List.length_append, List.length_singleton]; omega)) ?_; rintro _ H ⟨rfl, hH⟩; obtain rfl := hH.symm)
    | (refine WO.call rfl (lenN_FR B2 (O.length + 2) (by simp only [List.length_append, List.length_singleton]; omega)) ?_; rintro _ H ⟨rfl, hH⟩; obtain rfl := hH.symm)
    | (refine WO.call rfl (lenN_FR B3 (O.length + 3) (by simp only [List.length_append, List.length_singleton]; omega)) ?_; rintro _ H ⟨rfl, hH⟩; obtain rfl := hH.symm)
    | (refine WO.call rfl (str_FR B (by omega)) ?_; rintro _ H ⟨rfl, g9⟩)
    | (refine WO.call rfl (str_FR B2 (by simp only [List.length_append, List.length_singleton]; omega)) ?_; rintro _ H ⟨rfl, g9⟩)
    | (refine WO.call rfl (str_FR B3 (by simp only [List.length_append, List.length_singleton]; omega)) ?_; rintro _ H ⟨rfl, g9⟩)
    | ((have tag := hdr; refine W.loopU ?_))
    | (refine W.loopI (σ := Nat × Int × Nat × List Int) (fun σ => [(0, .s (.string s)), (3, .pt bb 0 0), (4, .s (.int .u32 σ.2.1)), (5, .s (.int .i64 σ.2.2.1)), (8, .s (.int .i64 s.size)), (9, .s (.int .i64 σ.1))]) (fun σ h' => Bld h h' bb 48 [] σ.2.2.2 ∧ σ.1 ≤ s.size ∧ (0 ≤ σ.2.1 ∧ σ.2.1 < 4294967296) ∧ ((σ.2.2.1 = 0 ∧ σ.2.2.2.length % 4 = 0) ∨ (σ.2.2.1 = 2 ∧ σ.2.2.2.length % 4 = 1) ∨ (σ.2.2.1 = 4 ∧ σ.2.2.2.length % 4 = 2)) ∧ σ.2.2.2.length ≤ 2 * σ.1 ∧ BI (b64 (bytesOf s)) σ.2.2.2 σ.2.2.1 (σ.2.1 % 2 ^ σ.2.2.1) ((bytesOf s).drop σ.1)) (fun σ => s.size - σ.1) (0, 0, 0, []) ⟨rfl, rfl, rfl, rfl, rfl, rfl, trivial⟩ ⟨⟨⟨_, _, obt, .inl rfl, Out.nil gb, (by simp [bo]), fun _ => rfl⟩, hb, .inl ⟨rfl, rfl⟩⟩, Nat.zero_le _, ⟨by decide, by decide⟩, .inl ⟨rfl, rfl⟩, Nat.zero_le _, BI.ini s⟩ ?_; rintro ⟨i, bits, m, O⟩ G h' ⟨B, hi, hbt, hm, hO, hF⟩; dsimp only at B hi hbt hm hO hF ⊢; have hr := bt_range s (i : Int); have hdr := bytesOf_drop_cons s i; have hds := bytesOf_length s; have hS : b64S s = strOfNums (b64 (bytesOf s)) := rfl; generalize b64 (bytesOf s) = R at *; rcases hm with ⟨rfl, hm⟩ | ⟨rfl, hm⟩ | ⟨rfl, hm⟩)
    | (refine LQ.nn ?_))
  · rw [hdr (by omega)] at hF
    have e := hF.s0 (x := bt LT ((bits * 256 % 4294967296 + bt s i) / 4 % 2 ^ 6)) (w := (bits * 256 % 4294967296 + bt s i) % 2 ^ 2) (congrArg (bt LT) (by omega)) (by omega)
    exact ⟨(i + 1, bits * 256 % 4294967296 + bt s i, 2, _), by dsimp only; omega, ⟨rfl, rfl, rfl, rfl, rfl, rfl, trivial⟩, B1, by dsimp only; omega, ⟨by dsimp only; omega, by dsimp only; omega⟩, .inr (.inl ⟨rfl, by dsimp only; simp only [List.length_append, List.length_singleton]; omega⟩), by dsimp only; simp only [List.length_append, List.length_singleton]; omega, e⟩
  · rw [List.drop_eq_nil_of_le (by omega)] at hF
    have e := hF.e0 
    exact ⟨by rw [hS, e]; rfl, g9⟩
  · rw [hdr (by omega)] at hF
    have e := hF.s2 (x := bt LT ((bits * 256 % 4294967296 + bt s i) / 16 % 2 ^ 6)) (w := (bits * 256 % 4294967296 + bt s i) % 2 ^ 4) (congrArg (bt LT) (by omega)) (by omega)
    exact ⟨(i + 1, bits * 256 % 4294967296 + bt s i, 4, _), by dsimp only; omega, ⟨rfl, rfl, rfl, rfl, rfl, rfl, trivial⟩, B1, by dsimp only; omega, ⟨by dsimp only; omega, by dsimp only; omega⟩, .inr (.inr ⟨rfl, by dsimp only; simp only [List.length_append, List.length_singleton]; omega⟩), by dsimp only; simp only [List.length_append, List.length_singleton]; omega, e⟩
  · rw [List.drop_eq_nil_of_le (by omega)] at hF
    have e := hF.e2 (x := bt LT (bits * 16 % 4294967296 % 2 ^ 6)) (congrArg (bt LT) (by omega))
    exact ⟨by rw [hS, e]; rfl, g9⟩
  · rw [hdr (by omega)] at hF
    have e := hF.s4 (w := (bits * 256 % 4294967296 + bt s i) % 2 ^ 0) (x := bt LT ((bits * 256 % 4294967296 + bt s i) / 64 % 2 ^ 6)) (y := bt LT ((bits * 256 % 4294967296 + bt s i) / 1 % 2 ^ 6)) (congrArg (bt LT) (by omega)) (congrArg (bt LT) (by omega))
    exact ⟨(i + 1, bits * 256 % 4294967296 + bt s i, 0, _), by dsimp only; omega, ⟨rfl, rfl, rfl, rfl, rfl, rfl, trivial⟩, B2, by dsimp only; omega, ⟨by dsimp only; omega, by dsimp only; omega⟩, .inl ⟨rfl, by dsimp only; simp only [List.length_append, List.length_singleton]; omega⟩, by dsimp only; simp only [List.length_append, List.length_singleton]; omega, e⟩
  · rw [List.drop_eq_nil_of_le (by omega)] at hF
    have e := hF.e4 (x := bt LT (bits * 4 % 4294967296 % 2 ^ 6)) (congrArg (bt LT) (by omega))
    exact ⟨by rw [hS, e]; rfl, g9⟩
end Go.Proofs.YtffjdidakeinjaaDoor.AS
end
section
set_option autoImplicit false
set_option maxRecDepth 100000
set_option maxHeartbeats 4000000
set_option linter.unusedSimpArgs false
set_option linter.unusedVariables false
namespace Go.Proofs.YtffjdidakeinjaaDoor.AS
open Go Go.Proofs Go.RowKit Go.Proofs.YtffjdidakeinjaaDoor.AS.V

theorem begins_FR (h : Heap) : FR Tryd.prog TT 20 [] h fun x H => x = .s (.bool true) ∧ H = h := FR.run (FRun.hook T4_20 rfl) ⟨rfl, rfl⟩
theorem b64S_size (s : ByteArray) : (b64S s).size = (s.size + 2) / 3 * 4 := by
  unfold b64S; rw [strOfNums_size, b64_len, bytesOf_length]
theorem qpS_size (s : ByteArray) : s.size ≤ (qpS s).size ∧ (qpS s).size ≤ 3 * s.size := by
  unfold qpS; have := qpL_len (bytesOf s); rw [strOfNums_size]; rw [bytesOf_length] at this; exact this
theorem encoS_no {c : Int} {L : List Int} (h : (encoS c L).2 ≠ 0) : (encoS c L).1 = ⟨#[]⟩ := by
  unfold encoS at h ⊢
  split
  · rfl
  · rename_i h1
    rw [if_neg h1] at h
    split
    · rename_i h2; rw [if_pos h2] at h; exact absurd rfl h
    · rfl
/-- Letters behind a charset, and behind base64 or quoted-printable. -/
theorem law8_FR (h : Heap) (c : Int) (a : AV) (L : List Int) (q : Bool) (r : Row (encI .i32) h a L) (hl : L.length ≤ 1048576) : FR Tryd.prog TT 8 [.s (.int .u8 c), a, .s (.bool q)] h fun x H => x = .s (.bool true) ∧ Grows h H := by
  have ka := fun h r => encode_FR h c a L r (by omega)
  have hno : (encoS c L).2 ≠ 0 → (encoS c L).1 = ⟨#[]⟩ := encoS_no
  have key : (encoS c L).2 = 0 → ∀ h, FR Tryd.prog TT 14 [.s (.string (encoS c L).1)] h (fun x H => x = .s (.string (b64S (encoS c L).1)) ∧ Grows h H) ∧ FR Tryd.prog TT 9 [.s (.string (b64S (encoS c L).1))] h (fun x H => x = .tp [.s (.string (encoS c L).1), .s (.int .i64 0)] ∧ Grows h H) ∧ FR Tryd.prog TT 18 [.s (.string (encoS c L).1)] h (fun x H => x = .s (.string (qpS (encoS c L).1)) ∧ Grows h H) ∧ FR Tryd.prog TT 16 [.s (.string (qpS (encoS c L).1))] h (fun x H => x = .tp [.s (.string (encoS c L).1), .s (.int .i64 0)] ∧ Grows h H) ∧ FR Tryd.prog TT 22 [.s (.int .u8 c), .s (.string (encoS c L).1)] h (fun y H => ∃ m, y = .tp [m, .s (.int .i64 0)] ∧ Grows h H ∧ Row (encI .i32) H m L) := by
    intro he h
    obtain ⟨e1, e2, e3, e4⟩ := dec_enc he
    have z1 := b64S_size (encoS c L).1
    have z2 := qpS_size (encoS c L).1
    have k9 := from9_FR h (b64S (encoS c L).1) (by omega)
    have k16 := fquot16_FR h (qpS (encoS c L).1) (by omega)
    have k22 := dcd_FR h c (encoS c L).1 (by omega)
    rw [fbS_b64S, show strOfNums (bytesOf (encoS c L).1, (0 : Int)).1 = (encoS c L).1 from strOf_bytesOf _] at k9
    rw [fqS_qpS, show strOfNums (bytesOf (encoS c L).1, (0 : Int)).1 = (encoS c L).1 from strOf_bytesOf _] at k16
    rw [e1] at k22
    exact ⟨base14_FR h _ (by omega), k9, quot18_FR h _ (by omega), k16, k22⟩
  have ks : ∀ (h : Heap) (m : AV) (rm : Row (encI .i32) h m L) (ra : Row (encI .i32) h a L), FR Tryd.prog TT 23 [m, a] h fun x H => x = .s (.bool true) ∧ H = h := by
    intro h m rm ra
    have k := same_FR h m a L L rm ra (by omega) (by omega)
    rwa [decide_eq_true rfl] at k
  generalize (encoS c L).2 = w at *
  generalize (encoS c L).1 = s at *
  generalize b64S s = bs at *
  generalize qpS s = qs at *
  refine FR.of q8 (by kernel_rfl) ?_
  unfold c8
  repeat' (first
    | (refine WO.mvE a rfl ?_)
    | (refine WO.mvE m rfl ?_)
    | (refine LQ.fin ?_)
    | (refine EQ.fin rfl ?_)
    | (refine WO.mvs rfl ?_)
    | (refine WO.mvp rfl ?_)
    | (refine WO.mvt rfl ?_)
    | (refine WO.mv ?_)
    | (refine W.sreg ?_)
    | (refine W.sdraw ?_)
    | (refine W.reg ?_)
    | (refine W.draw ?_)
    | (refine WO.nil ?_)
    | (refine WO.gU rfl ?_)
    | (refine WO.gT rfl rfl ?_)
    | (refine WO.gF rfl rfl ?_)
    | (refine WO.ext rfl rfl ?_)
    | (refine WO.lenR (by assumption) ?_)
    | (refine WO.add rfl rfl (by first | exact wrOK (by simp only [loK, hiK]; omega) | rfl) ?_)
    | (refine WO.sub rfl rfl (by first | exact wrOK (by simp only [loK, hiK]; omega) | rfl) ?_)
    | (refine WO.lss rfl rfl ?_)
    | (refine WO.leq rfl rfl ?_)
    | (refine WO.gtr rfl rfl ?_)
    | (refine WO.geq rfl rfl ?_)
    | (refine WO.eql rfl rfl ?_)
    | (refine WO.neq rfl rfl ?_)
    | (refine WO.seql rfl rfl ?_)
    | (refine WO.sneq rfl rfl ?_)
    | (refine WO.beql rfl rfl (tb rfl) ?_)
    | (refine WO.bneq rfl rfl (tb rfl) ?_)
    | (refine WO.not rfl ?_)
    | (refine WO.not0 rfl ?_)
    | (refine WO.cvi rfl (kd rfl) (kd rfl) (by first | exact wrOK (by simp only [loK, hiK]; omega) | rfl) ?_)
    | (refine WO.cvs rfl (st rfl) (st rfl) ?_)
    | (refine WO.ix rfl rfl (st rfl) (by first | assumption | omega) (by first | assumption | omega) ?_)
    | (refine WO.slen rfl (st rfl) ?_)
    | (refine WO.iaddr (by assumption) rfl rfl (by first | assumption | omega) (by first | assumption | omega) (fun q hq => ?_))
    | (refine WO.load (by assumption) rfl rfl ?_)
    | (refine WO.loadO rfl (by assumption) rfl rfl ?_)
    | (refine WO.faddrP (by assumption) rfl (fun q hq => ?_))
    | (refine WO.nilckP (by assumption) ?_)
    | (refine WO.nilck rfl ?_)
    | (refine WO.faddr rfl ?_)
    | (refine WO.fld rfl rfl rfl ?_)
    | (refine WO.pickT rfl ?_)
    | (refine WO.pickF rfl ?_)
    | (refine WO.sll rfl rfl (st rfl) (by first | assumption | omega) (by first | assumption | omega) ?_)
    | (refine WO.slh rfl rfl (st rfl) (by first | assumption | omega) (by first | assumption | omega) ?_)
    | (refine WO.slb rfl rfl rfl (st rfl) (by first | assumption | omega) (by first | assumption | omega) (by first | assumption | omega) ?_)
    | (refine WO.mul rfl rfl (by first | exact wrOK (by simp only [loK, hiK]; omega) | rfl) ?_)
    | (refine WO.quo rfl rfl (by first | assumption | omega) (by first | exact wrOK (by simp only [loK, hiK]; omega) | rfl) ?_)
    | (refine WO.rem rfl rfl (by first | assumption | omega) ?_)
    | (refine WO.and rfl rfl ?_)
    | (refine WO.or rfl rfl ?_)
    | (refine WO.xor rfl rfl ?_)
    | (refine WO.shl rfl rfl (by first | assumption | omega) (by simp [IntKind.bits]; rfl) ?_)
    | (refine WO.shr rfl rfl (by first | assumption | omega) (by simp [IntKind.bits]; rfl) ?_)
    | (refine WO.build (C := [_]) rfl ?_)
    | (refine WO.build (C := [_, _]) rfl ?_)
    | (refine WO.build (C := [_, _, _]) rfl ?_)
    | (refine WO.build (C := [_, _, _, _]) rfl ?_)
    | (refine WO.build (C := [_, _, _, _, _]) rfl ?_)
    | (refine WO.build (C := [_, _, _, _, _, _]) rfl ?_)
    | (refine WO.build (C := [_, _, _, _, _, _, _]) rfl ?_)
    | (refine WO.eqnil (by assumption) (fun hn1 hn2 => ?_) ?_)
    | (refine W.condT rfl ?_)
    | (refine W.condF rfl ?_)
    | (refine W.condDT rfl (by first | assumption | omega) ?_)
    | (refine W.condDF rfl (by first | assumption | omega) ?_)
    | (refine W.condD rfl (fun hc => ?_) (fun hc => ?_))
    | (refine WO.gS rfl (fun hc => ?_) (fun hc => ?_) <;> try (exfalso; omega))
    | (refine WO.pickS rfl (fun hc => ?_) (fun hc => ?_) <;> try (exfalso; omega))
    | (refine W.skip ?_)
    | (refine W.block ?_)
    | (refine W.drawA rfl ?_)
    | (refine W.sdrawA rfl ?_)
    | (refine And.intro rfl ?_)
    | (refine W.exit ?_)
    | (refine W.ret ?_)
    | (refine W.seq ?_)
    | (refine W.goto ?_)
    | (refine W.label ?_)
    | (refine SQ.nn ?_)
    | (refine SQ.x ?_)
    | (refine SQ.r ?_)
    | (refine SQ.g ?_)
    | (refine BQ.nn ?_)
    | (refine BQ.x ?_)
    | (refine BQ.r ?_)
    | (refine BQ.g ?_)
    | (refine BQ.y rfl ?_)
    | (refine LQ.x ?_)
    | (refine LQ.r ?_)
    | (refine LQ.g ?_)
    | (refine GQ.nn ?_)
    | (refine GQ.x ?_)
    | (refine GQ.r ?_)
    | (refine WO.call rfl (begins_FR _) ?_; rintro _ _ ⟨rfl, rfl⟩)
    | (refine WO.call rfl (ka _ r) ?_; rintro _ H1 ⟨rfl, g1⟩)
    | (refine WO.call rfl (key (by omega) _).1 ?_; rintro _ H2 ⟨rfl, g2⟩)
    | (refine WO.call rfl (key (by omega) _).2.1 ?_; rintro _ H3 ⟨rfl, g3⟩; have g5 := Grows.refl H3)
    | (refine WO.call rfl (key (by omega) _).2.2.1 ?_; rintro _ H4 ⟨rfl, g4⟩)
    | (refine WO.call rfl (key (by omega) _).2.2.2.1 ?_; rintro _ H5 ⟨rfl, g5⟩; replace g5 := g4.trans g5)
    | (refine WO.call rfl (key (by omega) _).2.2.2.2 ?_; rintro _ H6 ⟨m, rfl, g6, rm⟩; have gg := g1.trans (g2.trans (g3.trans (g5.trans g6))))
    | (refine WO.call rfl (ks _ m rm (r.grows gg)) ?_; rintro _ H ⟨rfl, hH⟩; obtain rfl := hH.symm)
    | (cases q)
    | (refine WO.seql rfl rfl ?_; rw [decide_eq_true rfl]))
  all_goals first
    | exact ⟨rfl, gg⟩
    | exact absurd rfl hc
    | exact ⟨congrArg (fun b : Bool => AV.s (.bool b)) (decide_eq_true (hno (by omega))), g1⟩
end Go.Proofs.YtffjdidakeinjaaDoor.AS
end
section
set_option autoImplicit false
set_option linter.unusedVariables false
namespace Go.Proofs.YtffjdidakeinjaaDoor.AS
open Go Go.RowKit
/-! What a row's list of variables gives: their cells. -/
mutual
def flatD {H : Type} : DataW H → List Value
  | .lit (.int k z) => [.int k z]
  | .lit (.bool b) => [.bool b]
  | .lit (.string l) => [.string ⟨l.toArray⟩]
  | .agg ds => flatDs ds
  | _ => []
def flatDs {H : Type} : List (DataW H) → List Value
  | [] => []
  | d :: ds => flatD d ++ flatDs ds
end
/-- Pieces that stand one behind the other. -/
def Contig {ι : Type} (off len : ι → Nat) : List ι → Nat → Nat → Prop
  | [], o, n => o = n
  | i :: l, o, n => off i = o ∧ Contig off len l (o + len i) n
theorem Contig.le {ι : Type} {off len : ι → Nat} : ∀ {l : List ι} {o n : Nat}, Contig off len l o n → o ≤ n
  | [], _, _, h => Nat.le_of_eq h
  | _ :: _, _, _, h => Nat.le_trans (Nat.le_add_right _ _) (Contig.le h.2)
theorem contig_range (c : Nat) : ∀ (m s : Nat), Contig (fun i => i * c) (fun _ => c) (List.range' s m) (s * c) ((s + m) * c)
  | 0, s => by show s * c = (s + 0) * c; simp
  | m + 1, s => by
    rw [List.range'_succ]
    refine ⟨rfl, ?_⟩
    have := contig_range c m (s + 1)
    rw [show (s + 1) * c = s * c + c from by rw [Nat.add_mul, Nat.one_mul], show s + 1 + m = s + (m + 1) by omega] at this
    exact this
theorem pieces {ι H α : Type} {off len : ι → Nat} {f : ι → Option (DataW H × α)} {cs : List Value} :
    ∀ (l : List ι) (o n : Nat) (xs : List (DataW H × α)), Contig off len l o n → l.mapM f = some xs → (∀ i ∈ l, ∀ b, f i = some b → (cs.drop (off i)).take (len i) = flatD b.1) →
      (cs.drop o).take (n - o) = flatDs (xs.map (·.1))
  | [], o, n, xs, hc, hm, _ => by
    simp only [List.mapM_nil] at hm
    obtain rfl : xs = [] := by cases hm; rfl
    have : o = n := hc
    subst this
    simp [flatDs]
  | i :: l, o, n, xs, hc, hm, hf => by
    simp only [List.mapM_cons, Option.bind_eq_bind, Option.bind_eq_some_iff, Option.pure_def, Option.some.injEq] at hm
    obtain ⟨b, hb, r', hr', rfl⟩ := hm
    obtain ⟨ho, hc2⟩ := hc
    have ih := pieces l _ n r' hc2 hr' (fun j hj => hf j (List.mem_cons_of_mem _ hj))
    have hle := hc2.le
    have hi := hf i List.mem_cons_self b hb
    rw [ho] at hi
    rw [List.map_cons, flatDs, ← hi, ← ih, show n - o = len i + (n - (o + len i)) by omega, List.take_add, List.drop_drop]
def offs (P : Program) : List Field → Nat → Nat → Bool
  | [], o, n => o == n
  | f :: fs, o, n => f.offset == o && offs P fs (o + P.cellsOf f.type) n
theorem offs_contig {P : Program} : ∀ {fs : List Field} {o n : Nat}, offs P fs o n = true → Contig (fun f : Field => f.offset) (fun f => P.cellsOf f.type) fs o n
  | [], o, n, h => by
    have h : (o == n) = true := h
    have h : o = n := by simpa using h
    exact h
  | f :: fs, o, n, h => by
    simp only [offs, Bool.and_eq_true, beq_iff_eq] at h
    exact ⟨h.1, offs_contig h.2⟩
/-- Types of numbers, bools and texts alone. -/
def plainT (P : Program) : Nat → TypeId → Bool
  | 0, _ => false
  | k + 1, t => match P.underlying t with
    | some (.int _) => true
    | some .string => true
    | some .bool => true
    | some (.array n e) => plainT P k e && P.cellsOf t == n * P.cellsOf e
    | some (.struct fs) => fs.toList.all (fun f => plainT P k f.type) && offs P fs.toList 0 (P.cellsOf t)
    | _ => false
theorem flat_of {H : Type} {enc : TypeId × Value → H} {P : Program} {w : World} {base : Nat} {sp : Nat → Bool} {held : Bool} :
    ∀ (k fuel : Nat) (t : TypeId) (cs : List Value) (d : DataW H) (p : List MemPlace), plainT P k t = true → DataW.trod enc P w base sp held fuel t cs = some (d, p) → cs = flatD d
  | 0, _, _, _, _, _, h, _ => by cases h
  | k + 1, 0, _, _, _, _, _, h => by simp [DataW.trod] at h
  | k + 1, fuel + 1, t, cs, d, p, hp, h => by
    unfold plainT at hp
    split at hp
    · rename_i kk ht
      obtain ⟨z, hc, he, _⟩ := DataW.trod_int ht h
      cases he
      rw [hc]; rfl
    · rename_i ht
      simp only [DataW.trod, ht] at h
      split at h
      all_goals (try (rename_i hu; cases hu))
      all_goals (try (split at h))
      all_goals (try cases h)
      all_goals (try rfl)
      all_goals (try (rename_i hu _ _; cases hu))
    · rename_i ht
      simp only [DataW.trod, ht] at h
      split at h
      all_goals (try (rename_i hu; cases hu))
      all_goals (try cases h)
      all_goals (try rfl)
    · rename_i n e ht
      simp only [Bool.and_eq_true, beq_iff_eq] at hp
      simp only [DataW.trod, ht] at h
      split at h
      · rename_i hl
        obtain ⟨xs, hm, hx⟩ := Option.map_eq_some_iff.1 h
        cases hx
        rw [List.range_eq_range'] at hm
        have c := contig_range (P.cellsOf e) n 0
        rw [Nat.zero_mul, Nat.zero_add] at c
        have := pieces _ _ _ xs c hm (fun i _ b hb => flat_of k fuel e _ b.1 b.2 hp.1 hb)
        rw [List.drop_zero, Nat.sub_zero, List.take_of_length_le (by rw [hl, hp.2]; exact Nat.le_refl _)] at this
        exact this
      · cases h
    · rename_i fs ht
      simp only [Bool.and_eq_true] at hp
      simp only [DataW.trod, ht] at h
      split at h
      · rename_i hl
        obtain ⟨xs, hm, hx⟩ := Option.map_eq_some_iff.1 h
        cases hx
        have := pieces _ _ _ xs (offs_contig hp.2) hm (fun f hf b hb => flat_of k fuel f.type _ b.1 b.2 (List.all_eq_true.1 hp.1 f hf) hb)
        rw [List.drop_zero, Nat.sub_zero, List.take_of_length_le (by rw [hl]; exact Nat.le_refl _)] at this
        exact this
      · cases h
    · cases hp
theorem laid_cells {P : Program} {W : World} : ∀ {laid : List (String × DataW Unit)} {ps : List MemPlace}, DataW.LaidVars P W laid ps → ∀ n d, (n, d) ∈ laid → ∀ g t, P.globalNamed n = some g → (P.globals[g]?).map (·.type) = some t → plainT P 8 t = true →
      ∀ j v, (flatD d)[j]? = some v → W.cell? ⟨g, j, none⟩ = some v
  | [], _, _, n, d, hm, _, _, _, _, _, _, _, _ => by cases hm
  | (n', d') :: r, ps, h, n, d, hm, g, t, hg, ht, hp, j, v, hj => by
    obtain ⟨g', t', cs, fuel, p, q, hg', ht', hvar, hd, hr, _⟩ := h
    rcases List.mem_cons.1 hm with hm | hm
    · cases hm
      obtain rfl := Option.some.inj (hg.symm.trans hg')
      obtain rfl := Option.some.inj (ht.symm.trans ht')
      rw [World.var?_cell hg hvar, ← hj, ← flat_of _ _ _ _ _ _ hp hd, Array.getElem?_toList]
    · exact laid_cells hr n d hm g t hg ht hp j v hj
theorem cell_lt {W : World} {g j : Nat} {v : Value} (h : W.cell? ⟨g, j, none⟩ = some v) : g < W.heap.size := by
  rcases Nat.lt_or_ge g W.heap.size with h1 | h1
  · exact h1
  · simp [World.cell?, Array.getElem?_eq_none h1] at h
end Go.Proofs.YtffjdidakeinjaaDoor.AS
end
section
set_option maxRecDepth 100000
set_option linter.unusedVariables false
namespace Go.Proofs.YtffjdidakeinjaaDoor.AS
open Go Go.Proofs Go.RowKit Go.Proofs.YtffjdidakeinjaaDoor
theorem gn0 : Tryd.prog.globalNamed "missive/runes.windows" = some 0 := by kernel_rfl
theorem gn1 : Tryd.prog.globalNamed "unicode/utf8.first" = some 1 := by kernel_rfl
theorem gn2 : Tryd.prog.globalNamed "unicode/utf8.acceptRanges" = some 2 := by kernel_rfl
noncomputable def gt (g : Nat) : Nat := ((Tryd.prog.globals[g]?).map (·.type)).getD 0
theorem gt0 : (Tryd.prog.globals[0]?).map (·.type) = some (gt 0) := by kernel_rfl
theorem gt1 : (Tryd.prog.globals[1]?).map (·.type) = some (gt 1) := by kernel_rfl
theorem gt2 : (Tryd.prog.globals[2]?).map (·.type) = some (gt 2) := by kernel_rfl
theorem pl0 : plainT Tryd.prog 8 (gt 0) = true := by kernel_rfl
theorem pl1 : plainT Tryd.prog 8 (gt 1) = true := by kernel_rfl
theorem pl2 : plainT Tryd.prog 8 (gt 2) = true := by kernel_rfl
theorem fl0 : flatD (Rows.laid_missive_runes_windows (H := Unit)) = tabWin.map (.int .i32) := by kernel_rfl
theorem fl1 : flatD Rows.laid_unicode_utf8_first = tabFirst.map (.int .u8) := by kernel_rfl
theorem fl2 : flatD (Rows.laid_unicode_utf8_acceptRanges (H := Unit)) = tabAcc.map (.int .u8) := by kernel_rfl
theorem gsz : Tryd.prog.globals.size = 4 := by kernel_rfl
theorem gM : globC Tryd.prog 3 = none := by kernel_rfl
/-- What the row's list gives. -/
theorem laid6 {W : World} (h : laidMetH Tryd.prog [("unicode/utf8.acceptRanges", Rows.laid_unicode_utf8_acceptRanges), ("missive/runes.windows", Rows.laid_missive_runes_windows), ("unicode/utf8.first", Rows.laid_unicode_utf8_first)] W) : Laid Tryd.prog W.heap.size W := by
  have h : laidMet Tryd.prog [("unicode/utf8.acceptRanges", Rows.laid_unicode_utf8_acceptRanges), ("missive/runes.windows", Rows.laid_missive_runes_windows), ("unicode/utf8.first", Rows.laid_unicode_utf8_first)] W := h
  obtain ⟨ps, hv, _⟩ := h
  have a0 := laid_cells hv "missive/runes.windows" _ (.tail _ (.head _)) 0 _ gn0 gt0 pl0
  have a1 := laid_cells hv "unicode/utf8.first" _ (.tail _ (.tail _ (.head _))) 1 _ gn1 gt1 pl1
  have a2 := laid_cells hv "unicode/utf8.acceptRanges" _ (.head _) 2 _ gn2 gt2 pl2
  rw [fl0] at a0
  rw [fl1] at a1
  rw [fl2] at a2
  intro g C hC
  have hg : g = 0 ∨ g = 1 ∨ g = 2 ∨ g = 3 ∨ 4 ≤ g := by omega
  rcases hg with rfl | rfl | rfl | rfl | hg
  · obtain rfl := Option.some.inj (gW.symm.trans hC)
    exact ⟨cell_lt (a0 0 _ rfl), a0⟩
  · obtain rfl := Option.some.inj (gF.symm.trans hC)
    exact ⟨cell_lt (a1 0 _ rfl), a1⟩
  · obtain rfl := Option.some.inj (gA.symm.trans hC)
    exact ⟨cell_lt (a2 0 _ rfl), a2⟩
  · rw [gM] at hC; cases hC
  · unfold globC at hC
    rw [Array.getElem?_eq_none (by rw [gsz]; exact hg)] at hC
    cases hC
end Go.Proofs.YtffjdidakeinjaaDoor.AS
end
section
set_option autoImplicit false
namespace Go.Proofs.YtffjdidakeinjaaDoor.AS
open Go Go.RowKit Go.ChangeShapes Go.WideShapes

/-- An argument's memory as a block of the abstract heap, to be read alone. -/
theorem HR.arg {P : Program} {W : World} {ρ : PM} {h : Heap} (H : HR P W.heap.size W ρ h W) (B off : Nat) (e : TypeId) (sz : Nat) (l : List AV) (hB : B < W.heap.size)
    (hl : ∀ (j : Nat) (x : AV), l[j]? = some x → ∃ v, W.cell? ⟨B, off + j, none⟩ = some v ∧ RV ρ W x v) :
    HR P W.heap.size W (upd ρ h.length 0 ⟨B, off, e, sz, false⟩) (h ++ [⟨0, e, sz, false, l⟩]) W ∧ Ext ρ (upd ρ h.length 0 ⟨B, off, e, sz, false⟩) := by
  have hx : Ext ρ (upd ρ h.length 0 ⟨B, off, e, sz, false⟩) := upd_ext _ (H.fresh _ _ (Nat.le_refl _))
  refine ⟨⟨H.below, H.hbase, ?_, ?_, ?_, H.gl⟩, hx⟩
  · intro b ver hlen
    simp only [List.length_append, List.length_cons, List.length_nil] at hlen
    unfold upd
    rw [if_neg (by omega)]
    exact H.fresh _ _ (by omega)
  · intro b k hbk
    rcases Nat.lt_or_ge b h.length with hlt | hge
    · rw [List.getElem?_append_left hlt] at hbk
      obtain ⟨p, h1, h2, h3, h4, h5, h6, h7, h8⟩ := H.blk b k hbk
      refine ⟨p, hx _ _ _ h1, ?_, h3, h4, h5, h6, fun j x hj => ?_, h8⟩
      · intro v hv
        unfold upd
        rw [if_neg (by omega)]
        exact h2 v hv
      · obtain ⟨v, hv, hr⟩ := h7 j x hj
        exact ⟨v, hv, RV_mono hx (Keep.refl _) _ _ hr⟩
    · have hbe : b = h.length := by
        have := (List.getElem?_eq_some_iff.1 hbk).1
        simp at this
        omega
      subst hbe
      simp at hbk
      subst hbk
      refine ⟨⟨B, off, e, sz, false⟩, upd_same _ _ _ _, ?_, rfl, rfl, rfl, hB, ?_, fun h => by cases h⟩
      · intro v hv
        unfold upd
        rw [if_neg (by simp at hv; omega)]
        exact H.fresh _ _ (Nat.le_refl _)
      · intro j x hj
        obtain ⟨v, hv, hr⟩ := hl j x hj
        exact ⟨v, hv, RV_mono hx (Keep.refl _) _ _ hr⟩
  · intro b b' k k' p p' hbk hbk' hp hp' hrw heq
    have lt_old : ∀ b k p, h[b]? = some k → ρ b k.ver = some p → k.rw = true → W.heap.size ≤ p.blk := by
      intro b k p hb hp hr
      obtain ⟨q, h1, _, _, _, _, _, _, h8⟩ := H.blk b k hb
      rw [hp] at h1; cases h1; exact (h8 hr).1
    rcases Nat.lt_or_ge b h.length with hlt | hge
    · rw [List.getElem?_append_left hlt] at hbk
      unfold upd at hp
      rw [if_neg (by omega)] at hp
      rcases Nat.lt_or_ge b' h.length with hlt' | hge'
      · rw [List.getElem?_append_left hlt'] at hbk'
        unfold upd at hp'
        rw [if_neg (by omega)] at hp'
        exact H.inj b b' k k' p p' hbk hbk' hp hp' hrw heq
      · have hbe : b' = h.length := by
          have := (List.getElem?_eq_some_iff.1 hbk').1
          simp at this
          omega
        subst hbe
        simp at hbk'
        subst hbk'
        rw [upd_same] at hp'
        cases hp'
        have := lt_old b k p hbk hp hrw
        simp only at heq
        omega
    · have hbe : b = h.length := by
        have := (List.getElem?_eq_some_iff.1 hbk).1
        simp at this
        omega
      subst hbe
      simp at hbk
      subst hbk
      cases hrw

/-- Values of a type without memory behind them: their cells, and what is known of them. -/
structure Flat (P : Program) (t : TypeId) (α : Type) (bulk : (H : Type) → DataW H → Nat) where
  cells : α → List Value
  sz : Nat
  size : α → Nat
  wf : α → Prop
  len : ∀ a, (cells a).length = sz
  cellsOf : P.cellsOf t = sz
  opens : ∀ (H : Type) (enc : TypeId × Value → H) (W : World) (fuel : Nat) (cs : List Value) (x : DataW H × List MemPlace), DataW.trod enc P W 0 (fun _ => true) true fuel t cs = some x → ∃ a, cs = cells a ∧ size a ≤ bulk H x.1 ∧ wf a
def sizes {α : Type} (size : α → Nat) : List α → Nat
  | [] => 0
  | a :: l => size a + sizes size l
theorem sizes_append {α : Type} (size : α → Nat) (l r : List α) : sizes size (l ++ r) = sizes size l + sizes size r := by
  induction l with
  | nil => simp [sizes]
  | cons a l ih => simp only [List.cons_append, sizes, ih]; omega
theorem flat_len {α : Type} {cells : α → List Value} {sz : Nat} (h : ∀ a, (cells a).length = sz) : ∀ l : List α, (l.flatMap cells).length = l.length * sz
  | [] => by simp
  | a :: l => by rw [List.flatMap_cons, List.length_append, h, flat_len h l, List.length_cons, Nat.succ_mul]; omega
/-- A slice of such values. -/
theorem open_flat {P : Program} {bulk : (H : Type) → DataW H → Nat} {bulks : (H : Type) → List (DataW H) → Nat} (hb0 : ∀ H, bulks H [] = 0) (hb1 : ∀ H d l, bulks H (d :: l) = bulk H d + bulks H l) (hb2 : ∀ H e s, bulks H e + 1 ≤ bulk H (.slice e s))
    {t e : TypeId} {α : Type} (F : Flat P e α bulk) (hu : P.underlying t = some (.slice e)) {H : Type} {enc : TypeId × Value → H} {W : World} {a : Option Addr} {len cap : Nat} {D : DataW H} {ps : List MemPlace}
    (hD : DataW.Trod enc P W 0 (fun _ => true) true t (.slice a len cap) D ps) :
    ∃ l : List α, len = l.length ∧ len ≤ cap ∧ cap ≤ maxLen ∧ (a = none → len = 0 ∧ cap = 0) ∧ (∀ x, a = some x → ∀ j v, (l.flatMap F.cells)[j]? = some v → W.cell? (x.add j) = some v) ∧ sizes F.size l ≤ bulk H D ∧ ∀ y ∈ l, F.wf y := by
  obtain ⟨fuel, hf⟩ := hD
  rcases DataW.trod_slice hu hf with ⟨hcs, hx⟩ | ⟨x, len', cap', elems, rest, n, rfl, hcs, hx, hb, hl, hm, hlen, hel, hsp, hns⟩
  · simp [Value.cells] at hcs
    obtain ⟨rfl, rfl, rfl⟩ := hcs
    exact ⟨[], rfl, Nat.le_refl _, by simp [maxLen], fun _ => ⟨rfl, rfl⟩, fun x hx => (by cases hx), by simp [sizes], by simp⟩
  · simp [Value.cells] at hcs
    obtain ⟨rfl, rfl, rfl⟩ := hcs
    cases hx
    have key : ∀ m, m ≤ len → ∃ l : List α, l.length = m ∧ (∀ j v, (l.flatMap F.cells)[j]? = some v → W.cell? (x.add j) = some v) ∧ sizes F.size l ≤ bulks H ((elems.take m).map (·.1)) ∧ ∀ y ∈ l, F.wf y := by
      intro m
      induction m with
      | zero => intro _; exact ⟨[], rfl, by simp, by simp [sizes], by simp⟩
      | succ m ih =>
        intro hm'
        obtain ⟨l, hl1, hl2, hl3, hl4⟩ := ih (by omega)
        have hlt : m < elems.length := by omega
        have he := hel m (by omega)
        rw [List.getElem?_eq_getElem hlt, Option.bind_eq_some_iff] at he
        obtain ⟨c, hcs, htr⟩ := he
        obtain ⟨p, hK, hbk, hwf⟩ := F.opens H enc W n c _ htr
        refine ⟨l ++ [p], by simp [hl1], ?_, ?_, ?_⟩
        · intro j v hj
          have hfl := flat_len F.len l
          rw [List.flatMap_append] at hj
          rcases Nat.lt_or_ge j (l.flatMap F.cells).length with hjl | hjl
          · rw [List.getElem?_append_left hjl] at hj
            exact hl2 j v hj
          · rw [List.getElem?_append_right hjl] at hj
            obtain ⟨_, hcl, hce⟩ := World.cells?_some hcs
            simp only [List.flatMap_cons, List.flatMap_nil, List.append_nil] at hj
            rw [← hK] at hj
            have hlt2 : j - (l.flatMap F.cells).length < P.cellsOf e := by rw [← hcl]; exact (List.getElem?_eq_some_iff.1 hj).1
            have := hce _ hlt2
            rw [hj, Addr.add_add, F.cellsOf, hfl, hl1] at this
            rw [hfl, hl1] at hjl
            rw [show m * F.sz + (j - m * F.sz) = j by omega] at this
            exact this
        · rw [List.take_succ_eq_append_getElem hlt, List.map_append, sizes_append]
          have happ : ∀ a b : List (DataW H), bulks H (a ++ b) = bulks H a + bulks H b := by
            intro a b
            induction a with
            | nil => simp [hb0]
            | cons d a ih => simp only [List.cons_append, hb1, ih]; omega
          rw [happ]
          simp only [sizes, List.map_cons, List.map_nil, hb1, hb0]
          omega
        · intro y hy
          rcases List.mem_append.1 hy with h | h
          · exact hl4 y h
          · simp at h; subst h; exact hwf
    obtain ⟨l, hl1, hl2, hl3, hl4⟩ := key len (Nat.le_refl _)
    refine ⟨l, hl1.symm, hl, hm, fun h => (by cases h), fun y hy => ?_, ?_, hl4⟩
    · cases hy; exact hl2
    · rw [List.take_of_length_le (by omega)] at hl3
      exact Nat.le_trans hl3 (Nat.le_trans (Nat.le_succ _) (hb2 H _ _))
/-- A slice's place. -/
theorem okWide_place {P : Program} {t e : TypeId} {W : World} {r : Reach} {base : Nat} {x : Addr} {len cap : Nat} (hu : P.underlying t = some (.slice e)) (h : Value.okWide P W r base t (.slice (some x) len cap)) : ∃ B off, x = ⟨B, off, none⟩ ∧ B < W.heap.size := by
  simp only [Value.okWide, hu, Cell.okWide, Cell.ok, World.has] at h
  obtain ⟨_, _, _, hs, row, cells, hsh, _⟩ := h
  obtain ⟨B, off, spot⟩ := x
  simp only at hs hsh
  subst hs
  refine ⟨B, off, rfl, ?_⟩
  rcases Nat.lt_or_ge B W.heap.size with h | h
  · exact h
  · simp [World.shape?, Array.getElem?_eq_none h] at hsh
/-- An argument that is a slice, in the abstract heap. -/
theorem slice_arg {P : Program} {W : World} {ρ : PM} {h : Heap} (H : HR P W.heap.size W ρ h W) {t e : TypeId} {sz : Nat} {l : List Value} {a : Option Addr} {len cap : Nat} {r : Reach} {base : Nat} (hu : P.underlying t = some (.slice e)) (hok : Value.okWide P W r base t (.slice a len cap))
    (hl : len ≤ cap) (h0 : a = none → len = 0 ∧ cap = 0) (hc : ∀ x, a = some x → ∀ j v, l[j]? = some v → W.cell? (x.add j) = some v) :
    ∃ ρ' x bs, HR P W.heap.size W ρ' (h ++ bs) W ∧ Ext ρ ρ' ∧ RV ρ' W x (.slice a len cap) ∧ ((x = .s (.slice none 0 0) ∧ bs = [] ∧ len = 0) ∨ (x = .sl h.length 0 0 len sz ∧ bs = [⟨0, e, sz, false, l.map .s⟩])) := by
  cases a with
  | none =>
    obtain ⟨rfl, rfl⟩ := h0 rfl
    exact ⟨ρ, .s (.slice none 0 0), [], by simpa using H, Ext.refl _, rfl, Or.inl ⟨rfl, rfl, rfl⟩⟩
  | some x =>
    obtain ⟨B, off, rfl, hB⟩ := okWide_place hu hok
    obtain ⟨H', hx⟩ := H.arg B off e sz (l.map .s) hB (by
      intro j x hj
      rw [List.getElem?_map, Option.map_eq_some_iff] at hj
      obtain ⟨v, hv, rfl⟩ := hj
      refine ⟨v, ?_, rfl⟩
      have := hc _ rfl j v hv
      unfold Addr.add at this
      split at this
      · rename_i h0; subst h0; exact this
      · exact this)
    refine ⟨_, .sl h.length 0 0 len sz, _, H', hx, ⟨_, cap, _, ⟨upd_same _ _ _ _, rfl⟩, rfl, hl, Or.inr rfl, fun h => by cases h⟩, Or.inr ⟨rfl, rfl⟩⟩
/-- A slice's reading has as many elements. -/
theorem slice_len {P : Program} {t e : TypeId} (hu : P.underlying t = some (.slice e)) {H : Type} {enc : TypeId × Value → H} {W : World} {a : Option Addr} {len cap : Nat} {D : DataW H} {ps : List MemPlace}
    (hD : DataW.Trod enc P W 0 (fun _ => true) true t (.slice a len cap) D ps) : len = 0 ∨ ∃ el sp, D = .slice el sp ∧ el.length = len := by
  obtain ⟨fuel, hf⟩ := hD
  rcases DataW.trod_slice hu hf with ⟨hcs, hx⟩ | ⟨x, len', cap', elems, rest, n, rfl, hcs, hx, hb, hl, hm, hlen, hel, hsp, hns⟩
  · simp [Value.cells] at hcs
    exact .inl hcs.2.1
  · simp [Value.cells] at hcs
    obtain ⟨rfl, rfl, rfl⟩ := hcs
    cases hx
    exact .inr ⟨_, _, rfl, by simp [hlen]⟩
end Go.Proofs.YtffjdidakeinjaaDoor.AS
end
section

end
