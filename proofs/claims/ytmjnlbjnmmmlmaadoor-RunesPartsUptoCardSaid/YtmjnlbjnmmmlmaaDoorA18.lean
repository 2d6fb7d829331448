/- Of our own: an abstract machine beside the model, its soundness, and walks of the program in it. -/
import Derived.Test.YtmjnlbjnmmmlmaaDoorA17
import Derived.Test.YtmjnlbjnmmmlmaaDoorA15
import Derived.Test.YtmjnlbjnmmmlmaaDoorA16
set_option linter.unusedSimpArgs false
set_option linter.unusedVariables false
section
set_option autoImplicit false
set_option maxRecDepth 100000
set_option maxHeartbeats 4000000
set_option linter.unusedSimpArgs false
set_option linter.unusedVariables false
namespace Go.Proofs.YtmjnlbjnmmmlmaaDoor.AS
open Go Go.Proofs Go.RowKit Go.Proofs.YtmjnlbjnmmmlmaaDoor.AS.V

/-- A number and the bytes behind it. -/
def ctS (s : ByteArray) (n : Int) : Nat → Int
  | 0 => n
  | k + 1 => 64 * ctS s n k + bt s ((k + 1 : Nat) : Int) % 64
theorem ctS_le {s : ByteArray} {n : Int} (h0 : 0 ≤ n) (h1 : n ≤ 255) : ∀ k : Nat, 0 ≤ ctS s n k ∧ (k ≤ 1 → ctS s n k ≤ 16383) ∧ (k ≤ 2 → ctS s n k ≤ 1048575) ∧ (k ≤ 3 → ctS s n k ≤ 67108863)
  | 0 => by unfold ctS; omega
  | k + 1 => by
    have ih := ctS_le (s := s) h0 h1 k
    have hb := bt_range s ((k + 1 : Nat) : Int)
    unfold ctS
    refine ⟨by omega, fun h => ?_, fun h => by omega, fun h => by omega⟩
    obtain rfl : k = 0 := by omega
    unfold ctS
    omega
def nextF (s : ByteArray) (n : Int) (m : Nat) : Int × Int :=
  if s.size < m then (65533, 1) else if isR (ctS s n (m - 1)) = true ∧ strOfNums (encR (ctS s n (m - 1))) = s.extract 0 m then (ctS s n (m - 1), m) else (65533, 1)
/-- The letter that a text begins with, by definition. -/
def rnextS (s : ByteArray) : Int × Int :=
  if 192 ≤ bt s 0 ∧ bt s 0 < 224 then nextF s (bt s 0 - 192) 2 else if 224 ≤ bt s 0 ∧ bt s 0 < 240 then nextF s (bt s 0 - 224) 3 else if 240 ≤ bt s 0 ∧ bt s 0 < 248 then nextF s (bt s 0 - 240) 4 else nextF s (bt s 0) 1
theorem nextF_short {s : ByteArray} {n : Int} {m : Nat} (h : s.size < m) : nextF s n m = (65533, 1) := if_pos h
theorem nextF_no {s : ByteArray} {n : Int} {m : Nat} (h : ¬ s.size < m) (hn : isR (ctS s n (m - 1)) = false) : nextF s n m = (65533, 1) := by
  unfold nextF; rw [if_neg h, if_neg (by rw [hn]; simp)]
theorem nextF_ne {s : ByteArray} {n : Int} {m : Nat} (h : ¬ s.size < m) (hn : strOfNums (encR (ctS s n (m - 1))) ≠ s.extract 0 m) : nextF s n m = (65533, 1) := by
  unfold nextF; rw [if_neg h, if_neg (fun e => hn e.2)]
theorem nextF_ok {s : ByteArray} {n : Int} {m : Nat} (h : ¬ s.size < m) (h1 : isR (ctS s n (m - 1)) = true) (hn : ¬ strOfNums (encR (ctS s n (m - 1))) ≠ s.extract 0 m) : nextF s n m = (ctS s n (m - 1), (m : Int)) := by
  unfold nextF; rw [if_neg h, if_pos ⟨h1, Classical.not_not.1 hn⟩]
theorem leaf_no {s : ByteArray} {n : Int} {m i : Nat} (he : rnextS s = nextF s n m) (hz : ¬ s.size < m) (hv : isR (ctS s n i) = false) (hi : i = m - 1) : rnextS s = (65533, 1) := by
  subst hi; exact he.trans (nextF_no hz hv)
theorem leaf_ne {s : ByteArray} {n : Int} {m i : Nat} (he : rnextS s = nextF s n m) (hz : ¬ s.size < m) (hn : strOfNums (encR (ctS s n i)) ≠ s.extract 0 m) (hi : i = m - 1) : rnextS s = (65533, 1) := by
  subst hi; exact he.trans (nextF_ne hz hn)
theorem leaf_ok {s : ByteArray} {n : Int} {m i : Nat} (he : rnextS s = nextF s n m) (hz : ¬ s.size < m) (hv : isR (ctS s n i) = true) (hn : ¬ strOfNums (encR (ctS s n i)) ≠ s.extract 0 m) (hi : i = m - 1) : rnextS s = (ctS s n i, (m : Int)) := by
  subst hi; exact he.trans (nextF_ok hz hv hn)
theorem rnext_FR (h : Heap) (s : ByteArray) (hs : s.size ≤ 140737488355328) (h1 : 1 ≤ s.size) :
    FR Tryd.prog TT 30 [.s (.string s)] h fun y H => y = .tp [.s (.int .i32 (rnextS s).1), .s (.int .i64 (rnextS s).2)] ∧ Grows h H := by
  have hb := bt_range s 0
  have hg := Grows.refl h
  refine FR.of q30 (by kernel_rfl) ?_
  unfold c30
  repeat' (first
    | ((have hn0 : 192 ≤ bt s 0 ∧ bt s 0 < 224 := by omega); have he : rnextS s = nextF s (bt s 0 - 192) 2 := (by unfold rnextS; (repeat' split) <;> first | rfl | (exfalso; omega)); have hz : ¬ s.size < 2 := (by omega); refine W.loopI (σ := Nat) (fun i => [(0, .s (.string s)), (4, .s (.int .i32 (ctS s (bt s 0 - 192) i))), (5, .s (.int .i64 2)), (6, .s (.int .i64 ((i + 1 : Nat) : Int)))]) (fun i h' => h' = h ∧ i + 1 ≤ 2) (fun i => 2 - i) 0 ⟨rfl, rfl, rfl, rfl, trivial⟩ ⟨rfl, by omega⟩ ?_; rintro i G h' ⟨rfl, hi⟩; have hc := ctS_le (s := s) (n := bt s 0 - 192) (by omega) (by omega) i; have hb2 := bt_range s ((i + 1 : Nat) : Int); obtain ⟨vb, hvb⟩ : ∃ vb, isR (ctS s (bt s 0 - 192) i) = vb := ⟨_, rfl⟩; have hv := fun hp => is_FR hp (ctS s (bt s 0 - 192) i); rw [hvb] at hv; have ho := fun hp (e : vb = true) => one_FR hp (ctS s (bt s 0 - 192) i) (hvb.trans e))
    | ((have hn0 : 224 ≤ bt s 0 ∧ bt s 0 < 240 := by omega); have he : rnextS s = nextF s (bt s 0 - 224) 3 := (by unfold rnextS; (repeat' split) <;> first | rfl | (exfalso; omega)); have hz : ¬ s.size < 3 := (by omega); refine W.loopI (σ := Nat) (fun i => [(0, .s (.string s)), (4, .s (.int .i32 (ctS s (bt s 0 - 224) i))), (5, .s (.int .i64 3)), (6, .s (.int .i64 ((i + 1 : Nat) : Int)))]) (fun i h' => h' = h ∧ i + 1 ≤ 3) (fun i => 3 - i) 0 ⟨rfl, rfl, rfl, rfl, trivial⟩ ⟨rfl, by omega⟩ ?_; rintro i G h' ⟨rfl, hi⟩; have hc := ctS_le (s := s) (n := bt s 0 - 224) (by omega) (by omega) i; have hb2 := bt_range s ((i + 1 : Nat) : Int); obtain ⟨vb, hvb⟩ : ∃ vb, isR (ctS s (bt s 0 - 224) i) = vb := ⟨_, rfl⟩; have hv := fun hp => is_FR hp (ctS s (bt s 0 - 224) i); rw [hvb] at hv; have ho := fun hp (e : vb = true) => one_FR hp (ctS s (bt s 0 - 224) i) (hvb.trans e))
    | ((have hn0 : 240 ≤ bt s 0 ∧ bt s 0 < 248 := by omega); have he : rnextS s = nextF s (bt s 0 - 240) 4 := (by unfold rnextS; (repeat' split) <;> first | rfl | (exfalso; omega)); have hz : ¬ s.size < 4 := (by omega); refine W.loopI (σ := Nat) (fun i => [(0, .s (.string s)), (4, .s (.int .i32 (ctS s (bt s 0 - 240) i))), (5, .s (.int .i64 4)), (6, .s (.int .i64 ((i + 1 : Nat) : Int)))]) (fun i h' => h' = h ∧ i + 1 ≤ 4) (fun i => 4 - i) 0 ⟨rfl, rfl, rfl, rfl, trivial⟩ ⟨rfl, by omega⟩ ?_; rintro i G h' ⟨rfl, hi⟩; have hc := ctS_le (s := s) (n := bt s 0 - 240) (by omega) (by omega) i; have hb2 := bt_range s ((i + 1 : Nat) : Int); obtain ⟨vb, hvb⟩ : ∃ vb, isR (ctS s (bt s 0 - 240) i) = vb := ⟨_, rfl⟩; have hv := fun hp => is_FR hp (ctS s (bt s 0 - 240) i); rw [hvb] at hv; have ho := fun hp (e : vb = true) => one_FR hp (ctS s (bt s 0 - 240) i) (hvb.trans e))
    | ((have hn0 : bt s 0 < 192 ∨ 248 ≤ bt s 0 := by omega); have he : rnextS s = nextF s (bt s 0) 1 := (by unfold rnextS; (repeat' split) <;> first | rfl | (exfalso; omega)); have hz : ¬ s.size < 1 := (by omega); refine W.loopI (σ := Nat) (fun i => [(0, .s (.string s)), (4, .s (.int .i32 (ctS s (bt s 0) i))), (5, .s (.int .i64 1)), (6, .s (.int .i64 ((i + 1 : Nat) : Int)))]) (fun i h' => h' = h ∧ i + 1 ≤ 1) (fun i => 1 - i) 0 ⟨rfl, rfl, rfl, rfl, trivial⟩ ⟨rfl, by omega⟩ ?_; rintro i G h' ⟨rfl, hi⟩; have hc := ctS_le (s := s) (n := bt s 0) (by omega) (by omega) i; have hb2 := bt_range s ((i + 1 : Nat) : Int); obtain ⟨vb, hvb⟩ : ∃ vb, isR (ctS s (bt s 0) i) = vb := ⟨_, rfl⟩; have hv := fun hp => is_FR hp (ctS s (bt s 0) i); rw [hvb] at hv; have ho := fun hp (e : vb = true) => one_FR hp (ctS s (bt s 0) i) (hvb.trans e))
    | (refine WO.remP rfl rfl (by omega) (by omega) ?_)
    | (refine WO.call rfl (hv _) ?_; rintro _ H ⟨rfl, hH⟩; obtain rfl := hH.symm)
    | (refine WO.call rfl (ho _ rfl) ?_; rintro _ H2 ⟨rfl, g2⟩)
    | (refine LQ.fin ?_)
    | (refine EQ.fin rfl ?_)
    | (refine WO.mvs rfl ?_)
    | (refine WO.mvp rfl ?_)
    | (refine WO.mvt rfl ?_)
    | (refine WO.mv ?_)
    | (refine W.sreg ?_)
    | (refine W.sdraw ?_)
    | (refine W.reg ?_)
    | (refine W.draw ?_)
    | (refine WO.nil ?_)
    | (refine WO.gU rfl ?_)
    | (refine WO.gT rfl rfl ?_)
    | (refine WO.gF rfl rfl ?_)
    | (refine WO.ext rfl rfl ?_)
    | (refine WO.lenR (by assumption) ?_)
    | (refine WO.add rfl rfl (by first | exact wrOK (by simp only [loK, hiK]; omega) | rfl) ?_)
    | (refine WO.sub rfl rfl (by first | exact wrOK (by simp only [loK, hiK]; omega) | rfl) ?_)
    | (refine WO.lss rfl rfl ?_)
    | (refine WO.leq rfl rfl ?_)
    | (refine WO.gtr rfl rfl ?_)
    | (refine WO.geq rfl rfl ?_)
    | (refine WO.eql rfl rfl ?_)
    | (refine WO.neq rfl rfl ?_)
    | (refine WO.seql rfl rfl ?_)
    | (refine WO.sneq rfl rfl ?_)
    | (refine WO.beql rfl rfl (tb rfl) ?_)
    | (refine WO.bneq rfl rfl (tb rfl) ?_)
    | (refine WO.not rfl ?_)
    | (refine WO.not0 rfl ?_)
    | (refine WO.cvi rfl (kd rfl) (kd rfl) (by first | exact wrOK (by simp only [loK, hiK]; omega) | rfl) ?_)
    | (refine WO.cvs rfl (st rfl) (st rfl) ?_)
    | (refine WO.ix rfl rfl (st rfl) (by first | assumption | omega) (by first | assumption | omega) ?_)
    | (refine WO.slen rfl (st rfl) ?_)
    | (refine WO.iaddr (by assumption) rfl rfl (by first | assumption | omega) (by first | assumption | omega) (fun q hq => ?_))
    | (refine WO.load (by assumption) rfl rfl ?_)
    | (refine WO.loadO rfl (by assumption) rfl rfl ?_)
    | (refine WO.faddrP (by assumption) rfl (fun q hq => ?_))
    | (refine WO.nilckP (by assumption) ?_)
    | (refine WO.nilck rfl ?_)
    | (refine WO.faddr rfl ?_)
    | (refine WO.fld rfl rfl rfl ?_)
    | (refine WO.pickT rfl ?_)
    | (refine WO.pickF rfl ?_)
    | (refine WO.sll rfl rfl (st rfl) (by first | assumption | omega) (by first | assumption | omega) ?_)
    | (refine WO.slh rfl rfl (st rfl) (by first | assumption | omega) (by first | assumption | omega) ?_)
    | (refine WO.slb rfl rfl rfl (st rfl) (by first | assumption | omega) (by first | assumption | omega) (by first | assumption | omega) ?_)
    | (refine WO.mul rfl rfl (by first | exact wrOK (by simp only [loK, hiK]; omega) | rfl) ?_)
    | (refine WO.quo rfl rfl (by first | assumption | omega) (by first | exact wrOK (by simp only [loK, hiK]; omega) | rfl) ?_)
    | (refine WO.rem rfl rfl (by first | assumption | omega) ?_)
    | (refine WO.and rfl rfl ?_)
    | (refine WO.or rfl rfl ?_)
    | (refine WO.xor rfl rfl ?_)
    | (refine WO.shl rfl rfl (by first | assumption | omega) (by simp [IntKind.bits]; rfl) ?_)
    | (refine WO.shr rfl rfl (by first | assumption | omega) (by simp [IntKind.bits]; rfl) ?_)
    | (refine WO.build (C := [_]) rfl ?_)
    | (refine WO.build (C := [_, _]) rfl ?_)
    | (refine WO.build (C := [_, _, _]) rfl ?_)
    | (refine WO.build (C := [_, _, _, _]) rfl ?_)
    | (refine WO.build (C := [_, _, _, _, _]) rfl ?_)
    | (refine WO.build (C := [_, _, _, _, _, _]) rfl ?_)
    | (refine WO.build (C := [_, _, _, _, _, _, _]) rfl ?_)
    | (refine WO.eqnil (by assumption) (fun hn1 hn2 => ?_) ?_)
    | (refine W.condT rfl ?_)
    | (refine W.condF rfl ?_)
    | (refine W.condDT rfl (by first | assumption | omega) ?_)
    | (refine W.condDF rfl (by first | assumption | omega) ?_)
    | (refine W.condD rfl (fun hc => ?_) (fun hc => ?_))
    | (refine WO.gS rfl (fun hc => ?_) (fun hc => ?_) <;> try (exfalso; omega))
    | (refine WO.pickS rfl (fun hc => ?_) (fun hc => ?_) <;> try (exfalso; omega))
    | (refine W.skip ?_)
    | (refine W.block ?_)
    | (refine W.drawA rfl ?_)
    | (refine W.sdrawA rfl ?_)
    | (refine And.intro rfl ?_)
    | (refine W.exit ?_)
    | (refine W.ret ?_)
    | (refine W.seq ?_)
    | (refine W.goto ?_)
    | (refine W.label ?_)
    | (refine SQ.nn ?_)
    | (refine SQ.x ?_)
    | (refine SQ.r ?_)
    | (refine SQ.g ?_)
    | (refine BQ.nn ?_)
    | (refine BQ.x ?_)
    | (refine BQ.r ?_)
    | (refine BQ.g ?_)
    | (refine BQ.y rfl ?_)
    | (refine LQ.x ?_)
    | (refine LQ.r ?_)
    | (refine LQ.g ?_)
    | (refine GQ.nn ?_)
    | (refine GQ.x ?_)
    | (refine GQ.r ?_)
    | (cases vb))
  all_goals first
    | exact ⟨i + 1, by omega, ⟨rfl, rfl, rfl, rfl, trivial⟩, rfl, by omega⟩
    | (refine ⟨?_, hg⟩; rw [leaf_no he hz hvb (by omega)]; rfl)
    | (refine ⟨?_, g2⟩; rw [leaf_ne he hz hc (by omega)]; rfl)
    | (refine ⟨?_, g2⟩; rw [leaf_ok he hz hvb hc (by omega)]; rfl)
    | (have e : rnextS s = (65533, 1) := (by
        unfold rnextS
        (repeat' split) <;> first | (exfalso; omega) | (exact nextF_short (by omega)))
       rw [e]; exact ⟨rfl, hg⟩)
end Go.Proofs.YtmjnlbjnmmmlmaaDoor.AS
end
section
set_option autoImplicit false
set_option maxRecDepth 100000
set_option maxHeartbeats 4000000
set_option linter.unusedSimpArgs false
set_option linter.unusedVariables false
namespace Go.Proofs.YtmjnlbjnmmmlmaaDoor.AS
open Go Go.Proofs Go.RowKit Go.Proofs.YtmjnlbjnmmmlmaaDoor.AS.V
theorem encR_range {n : Int} (h : isR n = true) : ∀ c ∈ encR n, 0 ≤ c ∧ c ≤ 255 := by
  have h := of_decide_eq_true h
  unfold encR
  intro c hc
  (repeat' split at hc) <;> simp only [List.mem_cons, List.not_mem_nil, or_false] at hc <;> omega
theorem bytes1 {s : ByteArray} (h : 1 ≤ s.size) : bytesOf s = bt s 0 :: (bytesOf s).drop 1 := by have := bytesOf_drop_cons s 0 h; rwa [List.drop_zero] at this
theorem bytes2 {s : ByteArray} (h : 2 ≤ s.size) : bytesOf s = bt s 0 :: bt s 1 :: (bytesOf s).drop 2 := (bytes1 (by omega)).trans (congrArg (fun l => bt s 0 :: l) (bytesOf_drop_cons s 1 h))
theorem ct1 {s : ByteArray} {n : Int} : ctS s n (1 - 1) = n := rfl
theorem ct2 {s : ByteArray} {n : Int} : ctS s n (2 - 1) = 64 * n + bt s 1 % 64 := rfl
theorem ct3 {s : ByteArray} {n : Int} : ctS s n (3 - 1) = 64 * (64 * n + bt s 1 % 64) + bt s 2 % 64 := rfl
theorem ct4 {s : ByteArray} {n : Int} : ctS s n (4 - 1) = 64 * (64 * (64 * n + bt s 1 % 64) + bt s 2 % 64) + bt s 3 % 64 := rfl
theorem bytes3 {s : ByteArray} (h : 3 ≤ s.size) : bytesOf s = bt s 0 :: bt s 1 :: bt s 2 :: (bytesOf s).drop 3 := (bytes2 (by omega)).trans (congrArg (fun l => bt s 0 :: bt s 1 :: l) (bytesOf_drop_cons s 2 h))
theorem bytes4 {s : ByteArray} (h : 4 ≤ s.size) : bytesOf s = bt s 0 :: bt s 1 :: bt s 2 :: bt s 3 :: (bytesOf s).drop 4 := (bytes3 (by omega)).trans (congrArg (fun l => bt s 0 :: bt s 1 :: bt s 2 :: l) (bytesOf_drop_cons s 3 h))
theorem cond_eq {s : ByteArray} {n : Int} {m : Nat} (h : m ≤ s.size) : (isR n = true ∧ strOfNums (encR n) = s.extract 0 m) ↔ (isR n = true ∧ encR n = (bytesOf s).take m) := by
  refine and_congr_right fun hn => ?_
  have e := bytesOf_extract s 0 m h
  rw [List.drop_zero] at e
  constructor
  · intro hh
    rw [← e, ← hh, bytesOf_strOf (encR_range hn)]
  · intro hh
    apply bytesOf_inj
    rw [e, bytesOf_strOf (encR_range hn), hh]
theorem two_ok {b0 b1 : Int} (h0 : 192 ≤ b0 ∧ b0 < 224) (h1 : 0 ≤ b1 ∧ b1 ≤ 255) : (isR (64 * (b0 - 192) + b1 % 64) = true ∧ encR (64 * (b0 - 192) + b1 % 64) = [b0, b1]) ↔ (194 ≤ b0 ∧ 128 ≤ b1 ∧ b1 ≤ 191) := by
  constructor
  · rintro ⟨-, h2⟩
    unfold encR at h2
    (repeat' split at h2) <;> simp only [List.cons.injEq, reduceCtorEq, and_false, and_true] at h2 <;> omega
  · intro h2
    refine ⟨decide_eq_true (by omega), ?_⟩
    unfold encR
    rw [if_neg (by omega), if_pos (by omega)]
    simp only [List.cons.injEq, and_true]; omega
theorem three_ok {b0 b1 b2 : Int} (h0 : 224 ≤ b0 ∧ b0 < 240) (h1 : 0 ≤ b1 ∧ b1 ≤ 255) (h2 : 0 ≤ b2 ∧ b2 ≤ 255) : (isR (64 * (64 * (b0 - 224) + b1 % 64) + b2 % 64) = true ∧ encR (64 * (64 * (b0 - 224) + b1 % 64) + b2 % 64) = [b0, b1, b2]) ↔ (128 ≤ b1 ∧ b1 ≤ 191 ∧ 128 ≤ b2 ∧ b2 ≤ 191 ∧ (b0 = 224 → 160 ≤ b1) ∧ (b0 = 237 → b1 ≤ 159)) := by
  constructor
  · rintro ⟨h, h2⟩
    have h := of_decide_eq_true h
    unfold encR at h2
    (repeat' split at h2) <;> simp only [List.cons.injEq, reduceCtorEq, and_false, and_true] at h2 <;> omega
  · intro h2
    refine ⟨decide_eq_true (by omega), ?_⟩
    unfold encR
    rw [if_neg (by omega), if_neg (by omega), if_pos (by omega)]
    simp only [List.cons.injEq, and_true]; omega
theorem four_ok {b0 b1 b2 b3 : Int} (h0 : 240 ≤ b0 ∧ b0 < 248) (h1 : 0 ≤ b1 ∧ b1 ≤ 255) (h2 : 0 ≤ b2 ∧ b2 ≤ 255) (h3 : 0 ≤ b3 ∧ b3 ≤ 255) : (isR (64 * (64 * (64 * (b0 - 240) + b1 % 64) + b2 % 64) + b3 % 64) = true ∧ encR (64 * (64 * (64 * (b0 - 240) + b1 % 64) + b2 % 64) + b3 % 64) = [b0, b1, b2, b3]) ↔ (128 ≤ b1 ∧ b1 ≤ 191 ∧ 128 ≤ b2 ∧ b2 ≤ 191 ∧ 128 ≤ b3 ∧ b3 ≤ 191 ∧ (b0 = 240 → 144 ≤ b1) ∧ (b0 = 244 → b1 ≤ 143) ∧ b0 ≤ 244) := by
  constructor
  · rintro ⟨h, h2⟩
    have h := of_decide_eq_true h
    unfold encR at h2
    (repeat' split at h2) <;> simp only [List.cons.injEq, reduceCtorEq, and_false, and_true] at h2 <;> omega
  · intro h2
    refine ⟨decide_eq_true (by omega), ?_⟩
    unfold encR
    rw [if_neg (by omega), if_neg (by omega), if_neg (by omega)]
    simp only [List.cons.injEq, and_true]; omega
theorem ifc {α : Type} {p q : Prop} [Decidable p] [Decidable q] {a b : α} (h : p ↔ q) : (if p then a else b) = if q then a else b := by
  by_cases hp : p
  · rw [if_pos hp, if_pos (h.1 hp)]
  · rw [if_neg hp, if_neg (fun e => hp (h.2 e))]
theorem pair_eq {a b c d : Int} (h1 : a = c) (h2 : b = d) : (a, b) = (c, d) := by rw [h1, h2]
/-- The letter that a text begins with is the document's. -/
theorem rnext_eq {s : ByteArray} (h1 : 1 ≤ s.size) : rnextS s = decS s := by
  have hne : s ≠ ⟨#[]⟩ := by rintro rfl; simp [ByteArray.size] at h1
  have r0 := bt_range s 0
  have r1 := bt_range s 1
  have r2 := bt_range s 2
  have r3 := bt_range s 3
  unfold rnextS decS
  rw [if_neg hne]
  obtain ⟨sz, hsz, ez⟩ : ∃ z : Int, (if bt s 0 < 224 then (2 : Int) else if bt s 0 < 240 then 3 else 4) = z ∧ ((bt s 0 < 224 ∧ z = 2) ∨ (224 ≤ bt s 0 ∧ bt s 0 < 240 ∧ z = 3) ∨ (240 ≤ bt s 0 ∧ z = 4)) := ⟨_, rfl, by (repeat' split) <;> omega⟩
  obtain ⟨lo, hlo, el⟩ : ∃ z : Int, (if bt s 0 = 224 then (160 : Int) else if bt s 0 = 240 then 144 else 128) = z ∧ ((bt s 0 = 224 ∧ z = 160) ∨ (bt s 0 = 240 ∧ z = 144) ∨ (bt s 0 ≠ 224 ∧ bt s 0 ≠ 240 ∧ z = 128)) := ⟨_, rfl, by (repeat' split) <;> omega⟩
  obtain ⟨hi, hhi, eh⟩ : ∃ z : Int, (if bt s 0 = 237 then (159 : Int) else if bt s 0 = 244 then 143 else 191) = z ∧ ((bt s 0 = 237 ∧ z = 159) ∨ (bt s 0 = 244 ∧ z = 143) ∨ (bt s 0 ≠ 237 ∧ bt s 0 ≠ 244 ∧ z = 191)) := ⟨_, rfl, by (repeat' split) <;> omega⟩
  rw [hsz, hlo, hhi]
  by_cases c2 : 192 ≤ bt s 0 ∧ bt s 0 < 224
  · rw [if_pos c2, if_neg (show ¬ bt s 0 < 128 by omega)]
    unfold nextF slowS
    by_cases hz : s.size < 2
    · rw [if_pos hz]
      by_cases q : bt s 0 < 194 ∨ 244 < bt s 0
      · rw [if_pos q]
      · rw [if_neg q, if_pos (by omega)]
    · rw [if_neg hz, ct2]
      have e := cond_eq (s := s) (n := 64 * (bt s 0 - 192) + bt s 1 % 64) (m := 2) (by omega)
      rw [bytes2 (by omega)] at e
      have e' := e.trans (two_ok c2 r1)
      rw [ifc e']
      by_cases p : 194 ≤ bt s 0 ∧ 128 ≤ bt s 1 ∧ bt s 1 ≤ 191
      · rw [if_pos p, if_neg (show ¬ (bt s 0 < 194 ∨ 244 < bt s 0) by omega), if_neg (by omega), if_neg (by omega), if_pos (by omega)]
        apply pair_eq <;> omega
      · rw [if_neg p]
        by_cases q : bt s 0 < 194 ∨ 244 < bt s 0
        · rw [if_pos q]
        · rw [if_neg q, if_neg (by omega), if_pos (by omega)]
  · rw [if_neg c2]
    by_cases c3 : 224 ≤ bt s 0 ∧ bt s 0 < 240
    · rw [if_pos c3, if_neg (show ¬ bt s 0 < 128 by omega), if_neg (show ¬ (bt s 0 < 194 ∨ 244 < bt s 0) by omega)]
      unfold nextF slowS
      by_cases hz : s.size < 3
      · rw [if_pos hz, if_pos (by omega)]
      · rw [if_neg hz, ct3]
        have e := cond_eq (s := s) (n := 64 * (64 * (bt s 0 - 224) + bt s 1 % 64) + bt s 2 % 64) (m := 3) (by omega)
        rw [bytes3 (by omega)] at e
        have e' := e.trans (three_ok c3 r1 r2)
        rw [ifc e', if_neg (show ¬ (s.size : Int) < sz by omega)]
        by_cases p : 128 ≤ bt s 1 ∧ bt s 1 ≤ 191 ∧ 128 ≤ bt s 2 ∧ bt s 2 ≤ 191 ∧ (bt s 0 = 224 → 160 ≤ bt s 1) ∧ (bt s 0 = 237 → bt s 1 ≤ 159)
        · rw [if_pos p, if_neg (by omega), if_neg (by omega), if_neg (by omega), if_pos (by omega)]
          apply pair_eq <;> omega
        · rw [if_neg p]
          by_cases q : bt s 1 < lo ∨ hi < bt s 1
          · rw [if_pos q]
          · rw [if_neg q, if_neg (by omega), if_pos (by omega)]
    · rw [if_neg c3]
      by_cases c4 : 240 ≤ bt s 0 ∧ bt s 0 < 248
      · rw [if_pos c4, if_neg (show ¬ bt s 0 < 128 by omega)]
        unfold nextF slowS
        by_cases hz : s.size < 4
        · rw [if_pos hz]
          by_cases q : bt s 0 < 194 ∨ 244 < bt s 0
          · rw [if_pos q]
          · rw [if_neg q, if_pos (by omega)]
        · rw [if_neg hz, ct4]
          have e := cond_eq (s := s) (n := 64 * (64 * (64 * (bt s 0 - 240) + bt s 1 % 64) + bt s 2 % 64) + bt s 3 % 64) (m := 4) (by omega)
          rw [bytes4 (by omega)] at e
          have e' := e.trans (four_ok c4 r1 r2 r3)
          rw [ifc e', if_neg (show ¬ (s.size : Int) < sz by omega)]
          by_cases p : 128 ≤ bt s 1 ∧ bt s 1 ≤ 191 ∧ 128 ≤ bt s 2 ∧ bt s 2 ≤ 191 ∧ 128 ≤ bt s 3 ∧ bt s 3 ≤ 191 ∧ (bt s 0 = 240 → 144 ≤ bt s 1) ∧ (bt s 0 = 244 → bt s 1 ≤ 143) ∧ bt s 0 ≤ 244
          · rw [if_pos p, if_neg (show ¬ (bt s 0 < 194 ∨ 244 < bt s 0) by omega), if_neg (by omega), if_neg (by omega), if_neg (by omega), if_neg (by omega), if_neg (by omega)]
            apply pair_eq <;> omega
          · rw [if_neg p]
            by_cases q0 : bt s 0 < 194 ∨ 244 < bt s 0
            · rw [if_pos q0]
            · rw [if_neg q0]
              by_cases q : bt s 1 < lo ∨ hi < bt s 1
              · rw [if_pos q]
              · rw [if_neg q, if_neg (by omega)]
                by_cases q2 : bt s 2 < 128 ∨ 191 < bt s 2
                · rw [if_pos q2]
                · rw [if_neg q2, if_neg (by omega), if_pos (by omega)]
      · rw [if_neg c4]
        unfold nextF
        rw [if_neg (by omega)]
        have e := cond_eq (s := s) (n := bt s 0) (m := 1) (by omega)
        rw [ct1]
        rw [bytes1 (by omega)] at e
        have e' : (isR (bt s 0) = true ∧ encR (bt s 0) = [bt s 0]) ↔ bt s 0 < 128 := by
          constructor
          · rintro ⟨-, h2⟩
            unfold encR at h2
            (repeat' split at h2) <;> simp only [List.cons.injEq, reduceCtorEq, and_false, and_true] at h2 <;> omega
          · intro h2
            exact ⟨decide_eq_true (by omega), by unfold encR; rw [if_pos h2]⟩
        have e'' := e.trans e'
        rw [ifc e'']
        by_cases h : bt s 0 < 128
        · rw [if_pos h, if_pos h]; rfl
        · rw [if_neg h, if_neg h]
          by_cases h2 : bt s 0 < 194 ∨ 244 < bt s 0
          · rw [if_pos h2]
          · exfalso; omega
end Go.Proofs.YtmjnlbjnmmmlmaaDoor.AS
end
section
set_option autoImplicit false
set_option maxRecDepth 100000
set_option maxHeartbeats 4000000
set_option linter.unusedSimpArgs false
set_option linter.unusedVariables false
namespace Go.Proofs.YtmjnlbjnmmmlmaaDoor.AS
open Go Go.Proofs Go.RowKit Go.Proofs.YtmjnlbjnmmmlmaaDoor.AS.V

theorem rletters_FR (h : Heap) (s : ByteArray) (hs : s.size ≤ 35184372088831) :
    FR Tryd.prog TT 18 [.s (.string s)] h fun y H => Out (encI .i32) 21 h H y (lettersS s) := by
  refine FR.of q18 (by kernel_rfl) ?_
  unfold c18
  repeat' (first
    | (refine WO.mvE out rfl ?_)
    | (refine W.loopI (σ := Nat × ByteArray × AV × List Int) (fun σ => [(0, .s (.string σ.2.1)), (3, σ.2.2.1)]) (fun σ h' => Out (encI .i32) 21 h h' σ.2.2.1 σ.2.2.2 ∧ σ.2.2.2 ++ lettersF σ.1 σ.2.1 = lettersS s ∧ σ.2.1.size ≤ σ.1 ∧ σ.2.2.2.length + σ.2.1.size ≤ s.size) (fun σ => σ.1) (s.size, s, .s (.slice none 0 0), []) ⟨rfl, rfl, trivial⟩ ⟨Out.nil (Grows.refl h), rfl, Nat.le_refl _, by simp⟩ ?_; rintro ⟨k, s', out, O⟩ G h' ⟨ho, hl, hk, hz⟩; dsimp only at ho hl hk hz ⊢)
    | (have hne : s' ≠ ⟨#[]⟩ := (by assumption); have hp := size_pos hne; have hw := decS_w hne; have hk2 := rnext_FR h' s' (by omega) hp; rw [rnext_eq hp] at hk2; refine WO.call rfl hk2 ?_; rintro _ H2 ⟨rfl, g2⟩; have out2 := ho.grows g2)
    | (refine WO.bslI rfl rfl (fun a1 H3 g3 o3 nw3 => ?_))
    | (refine WO.appO (out2.grows g3) o3.row rfl (encI_ok _ _) (by simp only [List.length_cons, List.length_nil]; omega) (by simp only [List.length_cons, List.length_nil]; omega) (fun a2 H4 out4 ap => ?_))
    | (refine LQ.fin ?_)
    | (refine EQ.fin rfl ?_)
    | (refine WO.mvs rfl ?_)
    | (refine WO.mvp rfl ?_)
    | (refine WO.mvt rfl ?_)
    | (refine WO.mv ?_)
    | (refine W.sreg ?_)
    | (refine W.sdraw ?_)
    | (refine W.reg ?_)
    | (refine W.draw ?_)
    | (refine WO.nil ?_)
    | (refine WO.gU rfl ?_)
    | (refine WO.gT rfl rfl ?_)
    | (refine WO.gF rfl rfl ?_)
    | (refine WO.ext rfl rfl ?_)
    | (refine WO.lenR (by assumption) ?_)
    | (refine WO.add rfl rfl (by first | exact wrOK (by simp only [loK, hiK]; omega) | rfl) ?_)
    | (refine WO.sub rfl rfl (by first | exact wrOK (by simp only [loK, hiK]; omega) | rfl) ?_)
    | (refine WO.lss rfl rfl ?_)
    | (refine WO.leq rfl rfl ?_)
    | (refine WO.gtr rfl rfl ?_)
    | (refine WO.geq rfl rfl ?_)
    | (refine WO.eql rfl rfl ?_)
    | (refine WO.neq rfl rfl ?_)
    | (refine WO.seql rfl rfl ?_)
    | (refine WO.sneq rfl rfl ?_)
    | (refine WO.beql rfl rfl (tb rfl) ?_)
    | (refine WO.bneq rfl rfl (tb rfl) ?_)
    | (refine WO.not rfl ?_)
    | (refine WO.not0 rfl ?_)
    | (refine WO.cvi rfl (kd rfl) (kd rfl) (by first | exact wrOK (by simp only [loK, hiK]; omega) | rfl) ?_)
    | (refine WO.cvs rfl (st rfl) (st rfl) ?_)
    | (refine WO.ix rfl rfl (st rfl) (by first | assumption | omega) (by first | assumption | omega) ?_)
    | (refine WO.slen rfl (st rfl) ?_)
    | (refine WO.iaddr (by assumption) rfl rfl (by first | assumption | omega) (by first | assumption | omega) (fun q hq => ?_))
    | (refine WO.load (by assumption) rfl rfl ?_)
    | (refine WO.loadO rfl (by assumption) rfl rfl ?_)
    | (refine WO.faddrP (by assumption) rfl (fun q hq => ?_))
    | (refine WO.nilckP (by assumption) ?_)
    | (refine WO.nilck rfl ?_)
    | (refine WO.faddr rfl ?_)
    | (refine WO.fld rfl rfl rfl ?_)
    | (refine WO.pickT rfl ?_)
    | (refine WO.pickF rfl ?_)
    | (refine WO.sll rfl rfl (st rfl) (by first | assumption | omega) (by first | assumption | omega) ?_)
    | (refine WO.slh rfl rfl (st rfl) (by first | assumption | omega) (by first | assumption | omega) ?_)
    | (refine WO.slb rfl rfl rfl (st rfl) (by first | assumption | omega) (by first | assumption | omega) (by first | assumption | omega) ?_)
    | (refine WO.mul rfl rfl (by first | exact wrOK (by simp only [loK, hiK]; omega) | rfl) ?_)
    | (refine WO.quo rfl rfl (by first | assumption | omega) (by first | exact wrOK (by simp only [loK, hiK]; omega) | rfl) ?_)
    | (refine WO.rem rfl rfl (by first | assumption | omega) ?_)
    | (refine WO.and rfl rfl ?_)
    | (refine WO.or rfl rfl ?_)
    | (refine WO.xor rfl rfl ?_)
    | (refine WO.shl rfl rfl (by first | assumption | omega) (by simp [IntKind.bits]; rfl) ?_)
    | (refine WO.shr rfl rfl (by first | assumption | omega) (by simp [IntKind.bits]; rfl) ?_)
    | (refine WO.build (C := [_]) rfl ?_)
    | (refine WO.build (C := [_, _]) rfl ?_)
    | (refine WO.build (C := [_, _, _]) rfl ?_)
    | (refine WO.build (C := [_, _, _, _]) rfl ?_)
    | (refine WO.build (C := [_, _, _, _, _]) rfl ?_)
    | (refine WO.build (C := [_, _, _, _, _, _]) rfl ?_)
    | (refine WO.build (C := [_, _, _, _, _, _, _]) rfl ?_)
    | (refine WO.eqnil (by assumption) (fun hn1 hn2 => ?_) ?_)
    | (refine W.condT rfl ?_)
    | (refine W.condF rfl ?_)
    | (refine W.condDT rfl (by first | assumption | omega) ?_)
    | (refine W.condDF rfl (by first | assumption | omega) ?_)
    | (refine W.condD rfl (fun hc => ?_) (fun hc => ?_))
    | (refine WO.gS rfl (fun hc => ?_) (fun hc => ?_) <;> try (exfalso; omega))
    | (refine WO.pickS rfl (fun hc => ?_) (fun hc => ?_) <;> try (exfalso; omega))
    | (refine W.skip ?_)
    | (refine W.block ?_)
    | (refine W.drawA rfl ?_)
    | (refine W.sdrawA rfl ?_)
    | (refine And.intro rfl ?_)
    | (refine W.exit ?_)
    | (refine W.ret ?_)
    | (refine W.seq ?_)
    | (refine W.goto ?_)
    | (refine W.label ?_)
    | (refine SQ.nn ?_)
    | (refine SQ.x ?_)
    | (refine SQ.r ?_)
    | (refine SQ.g ?_)
    | (refine BQ.nn ?_)
    | (refine BQ.x ?_)
    | (refine BQ.r ?_)
    | (refine BQ.g ?_)
    | (refine BQ.y rfl ?_)
    | (refine LQ.x ?_)
    | (refine LQ.r ?_)
    | (refine LQ.g ?_)
    | (refine GQ.nn ?_)
    | (refine GQ.x ?_)
    | (refine GQ.r ?_))
  · obtain ⟨k, rfl⟩ : ∃ k2, k = k2 + 1 := ⟨k - 1, by omega⟩
    rw [lettersF, if_neg hne] at hl
    have hsz : (s'.extract (decS s').2.toNat s'.size).size = s'.size - (decS s').2.toNat := by rw [ByteArray.size_extract]; omega
    refine ⟨(k, _, a2, O ++ [(decS s').1]), by dsimp only; omega, ⟨rfl, rfl, trivial⟩, out4, ?_, ?_, ?_⟩
    · dsimp only; rw [List.append_assoc]; exact hl
    · show (s'.extract (decS s').2.toNat s'.size).size ≤ k
      rw [hsz]; omega
    · show (O ++ [(decS s').1]).length + (s'.extract (decS s').2.toNat s'.size).size ≤ s.size
      rw [hsz, List.length_append, List.length_singleton]; omega
  · rw [lettersF_nil k (Classical.not_not.1 (by assumption)), List.append_nil] at hl
    subst hl
    exact ⟨ho⟩
theorem rdcd_FR (h : Heap) (c : Int) (s : ByteArray) (hs : s.size ≤ 35184372088831) :
    FR Tryd.prog TT 15 [.s (.int .u8 c), .s (.string s)] h fun y H => ∃ a, y = .tp [a, .s (.int .i64 (decodeS c s).2)] ∧ Grows h H ∧ Row (encI .i32) H a (decodeS c s).1 := by
  have hlen := bytesOf_length s
  have hk := rname_FR h c
  unfold decodeS
  generalize nameS c = nm at *
  have hg := Grows.refl h
  have hbt := bt_range s
  refine FR.of q15 (by kernel_rfl) ?_
  unfold c15
  repeat' (first
    | (refine WO.mvE out rfl ?_)
    | (refine WO.call rfl hk ?_; rintro _ H ⟨rfl, hH⟩; obtain rfl := hH.symm)
    | (refine WO.call rfl (rletters_FR _ s hs) ?_; rintro a H out)
    | (refine WO.mvE a rfl ?_)
    | (refine W.loopI (σ := Nat × AV) (fun σ => [(0, .s (.int .u8 c)), (1, .s (.string s)), (8, σ.2), (9, .s (.int .i64 σ.1))]) (fun σ h' => Out (encI .i32) 21 h h' σ.2 (((bytesOf s).take σ.1).map (letS c)) ∧ σ.1 ≤ s.size) (fun σ => s.size - σ.1) (0, .s (.slice none 0 0)) ⟨rfl, rfl, rfl, rfl, trivial⟩ ⟨Out.nil (Grows.refl h), Nat.zero_le _⟩ ?_; rintro ⟨i, out⟩ G h' ⟨ho, hi⟩; dsimp only at ho hi ⊢; have hb1 := (hbt (i : Int)).1; have hb2 := (hbt (i : Int)).2; have hll : (((bytesOf s).take i).map (letS c)).length = i := (by rw [List.length_map, List.length_take]; omega))
    | (refine WO.call rfl (of_FR _ c (bt s (i : Int)) hb1 hb2) ?_; rintro _ H2 ⟨rfl, g2⟩; have out2 := ho.grows g2)
    | (refine WO.bslI rfl rfl (fun a1 H3 g3 o3 nw3 => ?_))
    | (refine WO.appO (out2.grows g3) o3.row rfl (encI_ok _ _) (by simp only [List.length_cons, List.length_nil]; omega) (by simp only [List.length_cons, List.length_nil]; omega) (fun a2 H4 out4 ap => ?_))
    | (refine LQ.fin ?_)
    | (refine EQ.fin rfl ?_)
    | (refine WO.mvs rfl ?_)
    | (refine WO.mvp rfl ?_)
    | (refine WO.mvt rfl ?_)
    | (refine WO.mv ?_)
    | (refine W.sreg ?_)
    | (refine W.sdraw ?_)
    | (refine W.reg ?_)
    | (refine W.draw ?_)
    | (refine WO.nil ?_)
    | (refine WO.gU rfl ?_)
    | (refine WO.gT rfl rfl ?_)
    | (refine WO.gF rfl rfl ?_)
    | (refine WO.ext rfl rfl ?_)
    | (refine WO.lenR (by assumption) ?_)
    | (refine WO.add rfl rfl (by first | exact wrOK (by simp only [loK, hiK]; omega) | rfl) ?_)
    | (refine WO.sub rfl rfl (by first | exact wrOK (by simp only [loK, hiK]; omega) | rfl) ?_)
    | (refine WO.lss rfl rfl ?_)
    | (refine WO.leq rfl rfl ?_)
    | (refine WO.gtr rfl rfl ?_)
    | (refine WO.geq rfl rfl ?_)
    | (refine WO.eql rfl rfl ?_)
    | (refine WO.neq rfl rfl ?_)
    | (refine WO.seql rfl rfl ?_)
    | (refine WO.sneq rfl rfl ?_)
    | (refine WO.beql rfl rfl (tb rfl) ?_)
    | (refine WO.bneq rfl rfl (tb rfl) ?_)
    | (refine WO.not rfl ?_)
    | (refine WO.not0 rfl ?_)
    | (refine WO.cvi rfl (kd rfl) (kd rfl) (by first | exact wrOK (by simp only [loK, hiK]; omega) | rfl) ?_)
    | (refine WO.cvs rfl (st rfl) (st rfl) ?_)
    | (refine WO.ix rfl rfl (st rfl) (by first | assumption | omega) (by first | assumption | omega) ?_)
    | (refine WO.slen rfl (st rfl) ?_)
    | (refine WO.iaddr (by assumption) rfl rfl (by first | assumption | omega) (by first | assumption | omega) (fun q hq => ?_))
    | (refine WO.load (by assumption) rfl rfl ?_)
    | (refine WO.loadO rfl (by assumption) rfl rfl ?_)
    | (refine WO.faddrP (by assumption) rfl (fun q hq => ?_))
    | (refine WO.nilckP (by assumption) ?_)
    | (refine WO.nilck rfl ?_)
    | (refine WO.faddr rfl ?_)
    | (refine WO.fld rfl rfl rfl ?_)
    | (refine WO.pickT rfl ?_)
    | (refine WO.pickF rfl ?_)
    | (refine WO.sll rfl rfl (st rfl) (by first | assumption | omega) (by first | assumption | omega) ?_)
    | (refine WO.slh rfl rfl (st rfl) (by first | assumption | omega) (by first | assumption | omega) ?_)
    | (refine WO.slb rfl rfl rfl (st rfl) (by first | assumption | omega) (by first | assumption | omega) (by first | assumption | omega) ?_)
    | (refine WO.mul rfl rfl (by first | exact wrOK (by simp only [loK, hiK]; omega) | rfl) ?_)
    | (refine WO.quo rfl rfl (by first | assumption | omega) (by first | exact wrOK (by simp only [loK, hiK]; omega) | rfl) ?_)
    | (refine WO.rem rfl rfl (by first | assumption | omega) ?_)
    | (refine WO.and rfl rfl ?_)
    | (refine WO.or rfl rfl ?_)
    | (refine WO.xor rfl rfl ?_)
    | (refine WO.shl rfl rfl (by first | assumption | omega) (by simp [IntKind.bits]; rfl) ?_)
    | (refine WO.shr rfl rfl (by first | assumption | omega) (by simp [IntKind.bits]; rfl) ?_)
    | (refine WO.build (C := [_]) rfl ?_)
    | (refine WO.build (C := [_, _]) rfl ?_)
    | (refine WO.build (C := [_, _, _]) rfl ?_)
    | (refine WO.build (C := [_, _, _, _]) rfl ?_)
    | (refine WO.build (C := [_, _, _, _, _]) rfl ?_)
    | (refine WO.build (C := [_, _, _, _, _, _]) rfl ?_)
    | (refine WO.build (C := [_, _, _, _, _, _, _]) rfl ?_)
    | (refine WO.eqnil (by assumption) (fun hn1 hn2 => ?_) ?_)
    | (refine W.condT rfl ?_)
    | (refine W.condF rfl ?_)
    | (refine W.condDT rfl (by first | assumption | omega) ?_)
    | (refine W.condDF rfl (by first | assumption | omega) ?_)
    | (refine W.condD rfl (fun hc => ?_) (fun hc => ?_))
    | (refine WO.gS rfl (fun hc => ?_) (fun hc => ?_) <;> try (exfalso; omega))
    | (refine WO.pickS rfl (fun hc => ?_) (fun hc => ?_) <;> try (exfalso; omega))
    | (refine W.skip ?_)
    | (refine W.block ?_)
    | (refine W.drawA rfl ?_)
    | (refine W.sdrawA rfl ?_)
    | (refine And.intro rfl ?_)
    | (refine W.exit ?_)
    | (refine W.ret ?_)
    | (refine W.seq ?_)
    | (refine W.goto ?_)
    | (refine W.label ?_)
    | (refine SQ.nn ?_)
    | (refine SQ.x ?_)
    | (refine SQ.r ?_)
    | (refine SQ.g ?_)
    | (refine BQ.nn ?_)
    | (refine BQ.x ?_)
    | (refine BQ.r ?_)
    | (refine BQ.g ?_)
    | (refine BQ.y rfl ?_)
    | (refine LQ.x ?_)
    | (refine LQ.r ?_)
    | (refine LQ.g ?_)
    | (refine GQ.nn ?_)
    | (refine GQ.x ?_)
    | (refine GQ.r ?_))
  · exact ⟨.s (.slice none 0 0), by rw [if_pos hc]; rfl, hg, by rw [if_pos hc]; exact Row.nil⟩
  · have hz : ¬ nm.2 ≠ 0 := by assumption
    exact ⟨a, by rw [if_neg hz, if_pos hc]; rfl, out.g, by rw [if_neg hz, if_pos hc]; exact out.row⟩
  · exact ⟨(i + 1, a2), by dsimp only; omega, ⟨rfl, rfl, rfl, rfl, trivial⟩, by dsimp only; rw [take_snoc (by omega), List.map_append, List.map_cons, List.map_nil, nth_bytes (by omega)]; exact out4, by dsimp only; omega⟩
  · have hz : ¬ nm.2 ≠ 0 := by assumption
    have h2 : ¬ c = 2 := by assumption
    obtain rfl : i = s.size := by omega
    rw [← hlen, List.take_length] at ho
    exact ⟨out, by rw [if_neg hz, if_neg h2]; rfl, ho.g, by rw [if_neg hz, if_neg h2]; exact ho.row⟩
end Go.Proofs.YtmjnlbjnmmmlmaaDoor.AS
end
section
set_option autoImplicit false
set_option maxRecDepth 100000
set_option maxHeartbeats 4000000
set_option linter.unusedSimpArgs false
set_option linter.unusedVariables false
namespace Go.Proofs.YtmjnlbjnmmmlmaaDoor.AS
open Go Go.Proofs Go.RowKit Go.Proofs.YtmjnlbjnmmmlmaaDoor.AS.V
theorem tab_inj : ∀ i j : Fin 32, nth tabWin (i.val : Int) = nth tabWin (j.val : Int) → nth tabWin (i.val : Int) = 65533 ∨ i.val = j.val := by decide +kernel
theorem tab_big : ∀ i : Fin 32, 256 ≤ nth tabWin (i.val : Int) := by decide +kernel
theorem let1 (b : Int) : letS 1 b = if b < 128 then b else 65533 := by unfold letS; (repeat' split) <;> omega
theorem let4 (b : Int) : letS 4 b = if b < 128 then b else lat9 b := by
  unfold letS
  by_cases h : b < 128
  · rw [if_pos h, if_pos h]
  · rw [if_neg h, if_neg h, if_neg (by omega), if_neg (by omega), if_pos rfl]
theorem let5 (b : Int) : letS 5 b = if b < 128 then b else if b < 160 then nth tabWin (b - 128) else b := by
  unfold letS
  by_cases h : b < 128
  · rw [if_pos h, if_pos h]
  · rw [if_neg h, if_neg h, if_neg (by omega)]
    by_cases h2 : b < 160
    · rw [if_pos ⟨rfl, h2⟩, if_pos h2]
    · rw [if_neg (by omega), if_neg h2, if_neg (by omega)]
theorem letO (c b : Int) (h1 : c ≠ 1) (h4 : c ≠ 4) (h5 : c ≠ 5) : letS c b = b := by unfold letS; (repeat' split) <;> omega
theorem lat9_inj {a b : Int} (ha : 128 ≤ a ∧ a ≤ 255) (hb : 128 ≤ b ∧ b ≤ 255) (h : lat9 a = lat9 b) : a = b := by
  have key : ∀ x : Int, 128 ≤ x ∧ x ≤ 255 → ((x = 164 ∧ lat9 x = 8364) ∨ (x = 166 ∧ lat9 x = 352) ∨ (x = 168 ∧ lat9 x = 353) ∨ (x = 180 ∧ lat9 x = 381) ∨ (x = 184 ∧ lat9 x = 382) ∨ (x = 188 ∧ lat9 x = 338) ∨ (x = 189 ∧ lat9 x = 339) ∨ (x = 190 ∧ lat9 x = 376) ∨ lat9 x = x) := by
    intro x hx
    unfold lat9
    (repeat' split) <;> omega
  have ka := key a ha
  have kb := key b hb
  omega
theorem lat9_ge {a : Int} (ha : 128 ≤ a) : 128 ≤ lat9 a := by
  unfold lat9
  (repeat' split) <;> omega
theorem win_ge {a : Int} (ha : 128 ≤ a ∧ a < 160) : 256 ≤ nth tabWin (a - 128) := by
  have := tab_big ⟨(a - 128).toNat, by omega⟩
  rwa [show (((a - 128).toNat : Nat) : Int) = a - 128 by omega] at this
theorem win_inj {a b : Int} (ha : 128 ≤ a ∧ a < 160) (hb : 128 ≤ b ∧ b < 160) (h : nth tabWin (a - 128) = nth tabWin (b - 128)) : nth tabWin (a - 128) = 65533 ∨ a = b := by
  have := tab_inj ⟨(a - 128).toNat, by omega⟩ ⟨(b - 128).toNat, by omega⟩
  simp only at this
  rw [show (((a - 128).toNat : Nat) : Int) = a - 128 by omega, show (((b - 128).toNat : Nat) : Int) = b - 128 by omega] at this
  rcases this h with h | h
  · exact .inl h
  · right; omega
theorem letS_inj {c a b : Int} (ha : 0 ≤ a ∧ a ≤ 255) (hb : 0 ≤ b ∧ b ≤ 255) (h : letS c a = letS c b) (hn : letS c a ≠ 65533) : a = b := by
  by_cases h1 : c = 1
  · subst h1
    rw [let1] at h hn
    rw [let1] at h
    (repeat' split at h) <;> (try rw [if_neg (by assumption)] at hn) <;> omega
  · by_cases h4 : c = 4
    · subst h4
      rw [let4, let4] at h
      by_cases ha1 : a < 128
      · rw [if_pos ha1] at h
        by_cases hb1 : b < 128
        · rwa [if_pos hb1] at h
        · rw [if_neg hb1] at h
          have := lat9_ge (a := b) (by omega)
          omega
      · rw [if_neg ha1] at h
        by_cases hb1 : b < 128
        · rw [if_pos hb1] at h
          have := lat9_ge (a := a) (by omega)
          omega
        · rw [if_neg hb1] at h
          exact lat9_inj (by omega) (by omega) h
    · by_cases h5 : c = 5
      · subst h5
        rw [let5] at hn
        rw [let5, let5] at h
        have wa := win_ge (a := a)
        have wb := win_ge (a := b)
        have wi := win_inj (a := a) (b := b)
        by_cases ha1 : a < 128
        · rw [if_pos ha1] at h
          by_cases hb1 : b < 128
          · rwa [if_pos hb1] at h
          · rw [if_neg hb1] at h
            by_cases hb2 : b < 160
            · rw [if_pos hb2] at h
              have := wb (by omega)
              omega
            · rw [if_neg hb2] at h; exact h
        · rw [if_neg ha1] at h hn
          by_cases ha2 : a < 160
          · rw [if_pos ha2] at h hn
            have := wa (by omega)
            by_cases hb1 : b < 128
            · rw [if_pos hb1] at h; omega
            · rw [if_neg hb1] at h
              by_cases hb2 : b < 160
              · rw [if_pos hb2] at h
                rcases wi (by omega) (by omega) h with h | h
                · exact absurd h hn
                · exact h
              · rw [if_neg hb2] at h; omega
          · rw [if_neg ha2] at h
            by_cases hb1 : b < 128
            · rw [if_pos hb1] at h; omega
            · rw [if_neg hb1] at h
              by_cases hb2 : b < 160
              · rw [if_pos hb2] at h
                have := wb (by omega)
                omega
              · rw [if_neg hb2] at h; exact h
      · rwa [letO c a h1 h4 h5, letO c b h1 h4 h5] at h
/-- The last byte that is a letter's, of some. -/
def atF (c n : Int) : Nat → Int
  | 0 => -1
  | k + 1 => if letS c (k : Int) = n ∧ n ≠ 65533 then (k : Int) else atF c n k
theorem atF_bad (c : Int) : ∀ k : Nat, atF c 65533 k = -1
  | 0 => rfl
  | k + 1 => by rw [atF, if_neg (by omega), atF_bad c k]
theorem atF_no (c n : Int) : ∀ k : Nat, (∀ j : Nat, j < k → letS c (j : Int) ≠ n) → atF c n k = -1
  | 0, _ => rfl
  | k + 1, h => by rw [atF, if_neg (fun e => h k (by omega) e.1), atF_no c n k (fun j hj => h j (by omega))]
theorem atF_is (c n : Int) (hn : n ≠ 65533) (b : Nat) (hb : letS c (b : Int) = n) (hb2 : b < 256) : ∀ k : Nat, k ≤ 256 → b < k → atF c n k = (b : Int)
  | 0, _, h => absurd h (by omega)
  | k + 1, hk, h => by
    rw [atF]
    by_cases e : letS c (k : Int) = n
    · rw [if_pos ⟨e, hn⟩]
      exact letS_inj (c := c) (by omega) (by omega) (e.trans hb.symm) (by rw [e]; exact hn)
    · rw [if_neg (fun x => e x.1)]
      have : b ≠ k := by rintro rfl; exact e hb
      exact atF_is c n hn b hb hb2 k (by omega) (by omega)
/-- The first one and the last one are one. -/
theorem at_eq {c n b1 : Int} {k1 : Bool} (h : byS c n = (b1, k1)) : (atF c n 256 = -1 ∧ k1 = false) ∨ (atF c n 256 = b1 ∧ 0 ≤ b1 ∧ b1 ≤ 255 ∧ letS c b1 = n ∧ k1 = true) := by
  unfold byS at h
  cases hf : (List.range 256).find? (fun b : Nat => decide (letS c (b : Int) = n)) with
  | none =>
    rw [hf] at h
    simp only [Prod.mk.injEq] at h
    rw [List.find?_eq_none] at hf
    refine .inl ⟨atF_no c n 256 fun j hj e => hf j (List.mem_range.2 hj) (decide_eq_true e), h.2.symm⟩
  | some b =>
    rw [hf] at h
    simp only [Prod.mk.injEq] at h
    have hb := List.find?_some hf
    have hm := List.mem_range.1 (List.mem_of_find?_eq_some hf)
    have hb := of_decide_eq_true hb
    by_cases hn : n = 65533
    · subst hn
      exact .inl ⟨atF_bad c 256, by rw [← h.2]; rfl⟩
    · refine .inr ⟨(atF_is c n hn b hb hm 256 (by omega) hm).trans h.1, by omega, by omega, by rw [← h.1]; exact hb, by rw [← h.2]; exact decide_eq_true hn⟩
end Go.Proofs.YtmjnlbjnmmmlmaaDoor.AS
end
section
set_option autoImplicit false
set_option maxRecDepth 100000
set_option maxHeartbeats 4000000
set_option linter.unusedSimpArgs false
set_option linter.unusedVariables false
namespace Go.Proofs.YtmjnlbjnmmmlmaaDoor.AS
open Go Go.Proofs Go.RowKit Go.Proofs.YtmjnlbjnmmmlmaaDoor.AS.V

theorem strOf_app (A B : List Int) : strOfNums A ++ strOfNums B = strOfNums (A ++ B) := by
  apply bytesOf_inj
  rw [bytesOf_append]
  simp [bytesOf, strOfNums]
theorem rutf8_FR (h : Heap) (a : AV) (L : List Int) (r : Row (encI .i32) h a L) (hl : L.length ≤ 35184372088831) : FR Tryd.prog TT 22 [a] h fun x H => x = .s (.string (utf8S L)) ∧ Grows h H := by
  refine FR.of q22 (by kernel_rfl) ?_
  unfold c22
  repeat' (first
    | (refine WO.mvE a rfl ?_)
    | (refine W.loopI (σ := Nat) (fun i => [(3, .s (.string (strOfNums ((L.take i).flatMap putR)))), (6, a), (7, .s (.int .i64 L.length)), (8, .s (.int .i64 i))]) (fun i h' => Grows h h' ∧ i ≤ L.length) (fun i => L.length - i) 0 ⟨rfl, rfl, rfl, rfl, trivial⟩ ⟨Grows.refl h, Nat.zero_le _⟩ ?_; rintro i G h' ⟨g, hi⟩; have hlt := flat_le putR_le (L.take i); rw [List.length_take] at hlt; have ra := r.grows g; obtain ⟨vb, hvb⟩ : ∃ vb, isR (nth L (i : Int)) = vb := ⟨_, rfl⟩; have hv := fun hp => is_FR hp (nth L (i : Int)); rw [hvb] at hv; have hp4 := encR_len (nth L (i : Int)); have hp5 := encR_len 65533)
    | (refine WO.call rfl (hv _) ?_; rintro _ H ⟨rfl, hH⟩; obtain rfl := hH.symm)
    | (refine WO.call rfl (one_FR _ _ hvb) ?_; rintro _ H ⟨rfl, g2⟩)
    | (refine WO.call rfl (one_FR _ 65533 rfl) ?_; rintro _ H ⟨rfl, g2⟩)
    | (refine WO.sadd rfl rfl (by simp only [strOfNums_size]; omega) ?_; rw [strOf_app])
    | (refine LQ.fin ?_)
    | (refine EQ.fin rfl ?_)
    | (refine WO.mvs rfl ?_)
    | (refine WO.mvp rfl ?_)
    | (refine WO.mvt rfl ?_)
    | (refine WO.mv ?_)
    | (refine W.sreg ?_)
    | (refine W.sdraw ?_)
    | (refine W.reg ?_)
    | (refine W.draw ?_)
    | (refine WO.nil ?_)
    | (refine WO.gU rfl ?_)
    | (refine WO.gT rfl rfl ?_)
    | (refine WO.gF rfl rfl ?_)
    | (refine WO.ext rfl rfl ?_)
    | (refine WO.lenR (by assumption) ?_)
    | (refine WO.add rfl rfl (by first | exact wrOK (by simp only [loK, hiK]; omega) | rfl) ?_)
    | (refine WO.sub rfl rfl (by first | exact wrOK (by simp only [loK, hiK]; omega) | rfl) ?_)
    | (refine WO.lss rfl rfl ?_)
    | (refine WO.leq rfl rfl ?_)
    | (refine WO.gtr rfl rfl ?_)
    | (refine WO.geq rfl rfl ?_)
    | (refine WO.eql rfl rfl ?_)
    | (refine WO.neq rfl rfl ?_)
    | (refine WO.seql rfl rfl ?_)
    | (refine WO.sneq rfl rfl ?_)
    | (refine WO.beql rfl rfl (tb rfl) ?_)
    | (refine WO.bneq rfl rfl (tb rfl) ?_)
    | (refine WO.not rfl ?_)
    | (refine WO.not0 rfl ?_)
    | (refine WO.cvi rfl (kd rfl) (kd rfl) (by first | exact wrOK (by simp only [loK, hiK]; omega) | rfl) ?_)
    | (refine WO.cvs rfl (st rfl) (st rfl) ?_)
    | (refine WO.ix rfl rfl (st rfl) (by first | assumption | omega) (by first | assumption | omega) ?_)
    | (refine WO.slen rfl (st rfl) ?_)
    | (refine WO.iaddr (by assumption) rfl rfl (by first | assumption | omega) (by first | assumption | omega) (fun q hq => ?_))
    | (refine WO.load (by assumption) rfl rfl ?_)
    | (refine WO.loadO rfl (by assumption) rfl rfl ?_)
    | (refine WO.faddrP (by assumption) rfl (fun q hq => ?_))
    | (refine WO.nilckP (by assumption) ?_)
    | (refine WO.nilck rfl ?_)
    | (refine WO.faddr rfl ?_)
    | (refine WO.fld rfl rfl rfl ?_)
    | (refine WO.pickT rfl ?_)
    | (refine WO.pickF rfl ?_)
    | (refine WO.sll rfl rfl (st rfl) (by first | assumption | omega) (by first | assumption | omega) ?_)
    | (refine WO.slh rfl rfl (st rfl) (by first | assumption | omega) (by first | assumption | omega) ?_)
    | (refine WO.slb rfl rfl rfl (st rfl) (by first | assumption | omega) (by first | assumption | omega) (by first | assumption | omega) ?_)
    | (refine WO.mul rfl rfl (by first | exact wrOK (by simp only [loK, hiK]; omega) | rfl) ?_)
    | (refine WO.quo rfl rfl (by first | assumption | omega) (by first | exact wrOK (by simp only [loK, hiK]; omega) | rfl) ?_)
    | (refine WO.rem rfl rfl (by first | assumption | omega) ?_)
    | (refine WO.and rfl rfl ?_)
    | (refine WO.or rfl rfl ?_)
    | (refine WO.xor rfl rfl ?_)
    | (refine WO.shl rfl rfl (by first | assumption | omega) (by simp [IntKind.bits]; rfl) ?_)
    | (refine WO.shr rfl rfl (by first | assumption | omega) (by simp [IntKind.bits]; rfl) ?_)
    | (refine WO.build (C := [_]) rfl ?_)
    | (refine WO.build (C := [_, _]) rfl ?_)
    | (refine WO.build (C := [_, _, _]) rfl ?_)
    | (refine WO.build (C := [_, _, _, _]) rfl ?_)
    | (refine WO.build (C := [_, _, _, _, _]) rfl ?_)
    | (refine WO.build (C := [_, _, _, _, _, _]) rfl ?_)
    | (refine WO.build (C := [_, _, _, _, _, _, _]) rfl ?_)
    | (refine WO.eqnil (by assumption) (fun hn1 hn2 => ?_) ?_)
    | (refine W.condT rfl ?_)
    | (refine W.condF rfl ?_)
    | (refine W.condDT rfl (by first | assumption | omega) ?_)
    | (refine W.condDF rfl (by first | assumption | omega) ?_)
    | (refine W.condD rfl (fun hc => ?_) (fun hc => ?_))
    | (refine WO.gS rfl (fun hc => ?_) (fun hc => ?_) <;> try (exfalso; omega))
    | (refine WO.pickS rfl (fun hc => ?_) (fun hc => ?_) <;> try (exfalso; omega))
    | (refine W.skip ?_)
    | (refine W.block ?_)
    | (refine W.drawA rfl ?_)
    | (refine W.sdrawA rfl ?_)
    | (refine And.intro rfl ?_)
    | (refine W.exit ?_)
    | (refine W.ret ?_)
    | (refine W.seq ?_)
    | (refine W.goto ?_)
    | (refine W.label ?_)
    | (refine SQ.nn ?_)
    | (refine SQ.x ?_)
    | (refine SQ.r ?_)
    | (refine SQ.g ?_)
    | (refine BQ.nn ?_)
    | (refine BQ.x ?_)
    | (refine BQ.r ?_)
    | (refine BQ.g ?_)
    | (refine BQ.y rfl ?_)
    | (refine LQ.x ?_)
    | (refine LQ.r ?_)
    | (refine LQ.g ?_)
    | (refine GQ.nn ?_)
    | (refine GQ.x ?_)
    | (refine GQ.r ?_)
    | (cases vb))
  all_goals first
    | (have e : putR (nth L (i : Int)) = encR (nth L (i : Int)) := (by unfold putR okR; rw [hvb]; rfl)
       exact ⟨i + 1, by omega, ⟨by rw [flat_snoc (by omega), e]; rfl, rfl, rfl, rfl, trivial⟩, g.trans g2, by omega⟩)
    | (have e : putR (nth L (i : Int)) = encR 65533 := (by unfold putR okR; rw [hvb]; rfl)
       exact ⟨i + 1, by omega, ⟨by rw [flat_snoc (by omega), e]; rfl, rfl, rfl, rfl, trivial⟩, g.trans g2, by omega⟩)
    | (refine ⟨?_, g⟩; rw [List.take_of_length_le (by omega)]; rfl)
end Go.Proofs.YtmjnlbjnmmmlmaaDoor.AS
end
section
set_option autoImplicit false
set_option maxRecDepth 100000
set_option maxHeartbeats 4000000
set_option linter.unusedSimpArgs false
set_option linter.unusedVariables false
namespace Go.Proofs.YtmjnlbjnmmmlmaaDoor.AS
open Go Go.Proofs Go.RowKit Go.Proofs.YtmjnlbjnmmmlmaaDoor.AS.V

theorem rencode_FR (h : Heap) (c : Int) (a : AV) (L : List Int) (r : Row (encI .i32) h a L) (hl : L.length ≤ 35184372088831) : FR Tryd.prog TT 20 [.s (.int .u8 c), a] h fun x H => x = .tp [.s (.string (encoS c L).1), .s (.int .i64 (encoS c L).2)] ∧ Grows h H := by
  have hk := rname_FR h c
  unfold encoS
  generalize nameS c = nm at *
  have hg := Grows.refl h
  refine FR.of q20 (by kernel_rfl) ?_
  unfold c20
  repeat' (first
    | (refine WO.mvE a rfl ?_)
    | (refine WO.call rfl hk ?_; rintro _ H ⟨rfl, hH⟩; obtain rfl := hH.symm)
    | (have hz : nm.2 = 0 := (by omega); refine W.loopI (σ := Nat) (fun i => [(0, .s (.int .u8 c)), (8, .s (.string (strOfNums ((L.take i).flatMap (bytE c))))), (21, a), (22, .s (.int .i64 L.length)), (23, .s (.int .i64 i))]) (fun i h' => Grows h h' ∧ i ≤ L.length ∧ (L.take i).all (okE c) = true) (fun i => L.length - i) 0 ⟨rfl, rfl, rfl, rfl, rfl, trivial⟩ ⟨hg, Nat.zero_le _, rfl⟩ ?_; rintro i G h' ⟨gB, hi, hal⟩; have hlt := flat_le (bytE_le c) (L.take i); rw [List.length_take] at hlt; have ra := r.grows gB; obtain ⟨nv, hnv⟩ : ∃ nv, nth L (i : Int) = nv := ⟨_, rfl⟩; obtain ⟨vb, hvb⟩ : ∃ vb, isR (nth L (i : Int)) = vb := ⟨_, rfl⟩; obtain ⟨b1, k1, hb1⟩ : ∃ b1 k1, byS c (nth L (i : Int)) = (b1, k1) := ⟨_, _, rfl⟩; have hv := fun hp => is_FR hp (nth L (i : Int)); rw [hvb] at hv; have ho := fun hp (e : vb = true) => one_FR hp (nth L (i : Int)) (hvb.trans e); have hok : okE c (nth L (i : Int)) = (vb && (decide (c = 2) || k1)) := (by unfold okE; rw [hvb, hb1]); have hat := at_eq hb1; have hp4 := encR_len (nth L (i : Int)))
    | (refine W.loopI (σ := Nat) (fun k => [(0, .s (.int .u8 c)), (8, .s (.string (strOfNums ((L.take i).flatMap (bytE c))))), (10, .s (.int .i32 (nth L (i : Int)))), (11, .s (.int .i64 (atF c (nth L (i : Int)) k))), (12, .s (.int .i64 k)), (21, a), (22, .s (.int .i64 L.length)), (23, .s (.int .i64 i))]) (fun k h2 => Grows h h2 ∧ k ≤ 256) (fun k => 256 - k) 0 ⟨rfl, rfl, rfl, rfl, rfl, rfl, rfl, rfl, trivial⟩ ⟨gB, Nat.zero_le _⟩ ?_; rintro k G2 h2 ⟨gC, hk2⟩; (have hat2 : k = 256 → (atF c (nth L (i : Int)) k = -1 ∨ (0 ≤ atF c (nth L (i : Int)) k ∧ atF c (nth L (i : Int)) k ≤ 255)) := (by rintro rfl; rcases hat with h | h <;> omega)))
    | (refine WO.call rfl (hv _) ?_; rintro _ H ⟨rfl, hH⟩; obtain rfl := hH.symm)
    | (refine WO.call rfl (ho _ rfl) ?_; rintro _ H ⟨rfl, g2⟩)
    | (refine WO.call rfl (of_FR _ c k (by omega) (by omega)) ?_; rintro _ H2 ⟨rfl, g3⟩)
    | (refine WO.bsl (E := encI .u8) (C := [_]) rfl [_] rfl rfl rfl (fun a1 H3 g4 o1 nw1 => ?_))
    | (refine WO.b2s o1.row ?_)
    | (refine WO.sadd rfl rfl (by simp only [strOfNums_size, List.length_cons, List.length_nil]; omega) ?_; rw [strOf_app])
    | (refine LQ.fin ?_)
    | (refine EQ.fin rfl ?_)
    | (refine WO.mvs rfl ?_)
    | (refine WO.mvp rfl ?_)
    | (refine WO.mvt rfl ?_)
    | (refine WO.mv ?_)
    | (refine W.sreg ?_)
    | (refine W.sdraw ?_)
    | (refine W.reg ?_)
    | (refine W.draw ?_)
    | (refine WO.nil ?_)
    | (refine WO.gU rfl ?_)
    | (refine WO.gT rfl rfl ?_)
    | (refine WO.gF rfl rfl ?_)
    | (refine WO.ext rfl rfl ?_)
    | (refine WO.lenR (by assumption) ?_)
    | (refine WO.add rfl rfl (by first | exact wrOK (by simp only [loK, hiK]; omega) | rfl) ?_)
    | (refine WO.sub rfl rfl (by first | exact wrOK (by simp only [loK, hiK]; omega) | rfl) ?_)
    | (refine WO.lss rfl rfl ?_)
    | (refine WO.leq rfl rfl ?_)
    | (refine WO.gtr rfl rfl ?_)
    | (refine WO.geq rfl rfl ?_)
    | (refine WO.eql rfl rfl ?_)
    | (refine WO.neq rfl rfl ?_)
    | (refine WO.seql rfl rfl ?_)
    | (refine WO.sneq rfl rfl ?_)
    | (refine WO.beql rfl rfl (tb rfl) ?_)
    | (refine WO.bneq rfl rfl (tb rfl) ?_)
    | (refine WO.not rfl ?_)
    | (refine WO.not0 rfl ?_)
    | (refine WO.cvi rfl (kd rfl) (kd rfl) (by first | exact wrOK (by simp only [loK, hiK]; omega) | rfl) ?_)
    | (refine WO.cvs rfl (st rfl) (st rfl) ?_)
    | (refine WO.ix rfl rfl (st rfl) (by first | assumption | omega) (by first | assumption | omega) ?_)
    | (refine WO.slen rfl (st rfl) ?_)
    | (refine WO.iaddr (by assumption) rfl rfl (by first | assumption | omega) (by first | assumption | omega) (fun q hq => ?_))
    | (refine WO.load (by assumption) rfl rfl ?_)
    | (refine WO.loadO rfl (by assumption) rfl rfl ?_)
    | (refine WO.faddrP (by assumption) rfl (fun q hq => ?_))
    | (refine WO.nilckP (by assumption) ?_)
    | (refine WO.nilck rfl ?_)
    | (refine WO.faddr rfl ?_)
    | (refine WO.fld rfl rfl rfl ?_)
    | (refine WO.pickT rfl ?_)
    | (refine WO.pickF rfl ?_)
    | (refine WO.sll rfl rfl (st rfl) (by first | assumption | omega) (by first | assumption | omega) ?_)
    | (refine WO.slh rfl rfl (st rfl) (by first | assumption | omega) (by first | assumption | omega) ?_)
    | (refine WO.slb rfl rfl rfl (st rfl) (by first | assumption | omega) (by first | assumption | omega) (by first | assumption | omega) ?_)
    | (refine WO.mul rfl rfl (by first | exact wrOK (by simp only [loK, hiK]; omega) | rfl) ?_)
    | (refine WO.quo rfl rfl (by first | assumption | omega) (by first | exact wrOK (by simp only [loK, hiK]; omega) | rfl) ?_)
    | (refine WO.rem rfl rfl (by first | assumption | omega) ?_)
    | (refine WO.and rfl rfl ?_)
    | (refine WO.or rfl rfl ?_)
    | (refine WO.xor rfl rfl ?_)
    | (refine WO.shl rfl rfl (by first | assumption | omega) (by simp [IntKind.bits]; rfl) ?_)
    | (refine WO.shr rfl rfl (by first | assumption | omega) (by simp [IntKind.bits]; rfl) ?_)
    | (refine WO.build (C := [_]) rfl ?_)
    | (refine WO.build (C := [_, _]) rfl ?_)
    | (refine WO.build (C := [_, _, _]) rfl ?_)
    | (refine WO.build (C := [_, _, _, _]) rfl ?_)
    | (refine WO.build (C := [_, _, _, _, _]) rfl ?_)
    | (refine WO.build (C := [_, _, _, _, _, _]) rfl ?_)
    | (refine WO.build (C := [_, _, _, _, _, _, _]) rfl ?_)
    | (refine WO.eqnil (by assumption) (fun hn1 hn2 => ?_) ?_)
    | (refine W.condT rfl ?_)
    | (refine W.condF rfl ?_)
    | (refine W.condDT rfl (by first | assumption | omega) ?_)
    | (refine W.condDF rfl (by first | assumption | omega) ?_)
    | (refine W.condD rfl (fun hc => ?_) (fun hc => ?_))
    | (refine WO.gS rfl (fun hc => ?_) (fun hc => ?_) <;> try (exfalso; omega))
    | (refine WO.pickS rfl (fun hc => ?_) (fun hc => ?_) <;> try (exfalso; omega))
    | (refine W.skip ?_)
    | (refine W.block ?_)
    | (refine W.drawA rfl ?_)
    | (refine W.sdrawA rfl ?_)
    | (refine And.intro rfl ?_)
    | (refine W.exit ?_)
    | (refine W.ret ?_)
    | (refine W.seq ?_)
    | (refine W.goto ?_)
    | (refine W.label ?_)
    | (refine SQ.nn ?_)
    | (refine SQ.x ?_)
    | (refine SQ.r ?_)
    | (refine SQ.g ?_)
    | (refine BQ.nn ?_)
    | (refine BQ.x ?_)
    | (refine BQ.r ?_)
    | (refine BQ.g ?_)
    | (refine BQ.y rfl ?_)
    | (refine LQ.x ?_)
    | (refine LQ.r ?_)
    | (refine LQ.g ?_)
    | (refine GQ.nn ?_)
    | (refine GQ.x ?_)
    | (refine GQ.r ?_)
    | (cases vb))
  · exact ⟨by rw [if_pos hc]; rfl, hg⟩
  · have hf : okE c (nth L (i : Int)) = false := by rw [hok]; rfl
    refine ⟨?_, gB⟩
    rw [if_neg (by omega), if_neg (fun h => by have := List.all_eq_true.1 h _ (nth_mem (L := L) (i := (i : Int)) (by omega) (by omega)); rw [hf] at this; cases this)]; rfl
  · exact ⟨i + 1, by omega, ⟨rfl, by rw [flat_snoc (by omega), bytE, if_pos hc]; rfl, rfl, rfl, rfl, trivial⟩, gB.trans g2, by omega, by rw [take_snoc (by omega), List.all_append, hal]; simp only [List.all_cons, List.all_nil, Bool.true_and, Bool.and_true]; rw [hok]; simp [hc]⟩
  · exact ⟨k + 1, by omega, ⟨rfl, rfl, rfl, by rw [atF, if_pos ⟨by assumption, hc⟩]; rfl, rfl, rfl, rfl, rfl, trivial⟩, gC.trans g3, by omega⟩
  · exact ⟨k + 1, by omega, ⟨rfl, rfl, rfl, by rw [atF, if_neg (fun e => hc e.2)]; rfl, rfl, rfl, rfl, rfl, trivial⟩, gC.trans g3, by omega⟩
  · exact ⟨k + 1, by omega, ⟨rfl, rfl, rfl, by rw [atF, if_neg (fun e => hc e.1)]; rfl, rfl, rfl, rfl, rfl, trivial⟩, gC.trans g3, by omega⟩
  · have h2 : ¬ c = 2 := by assumption
    obtain rfl : k = 256 := by omega
    rcases hat with ⟨e1, e2⟩ | ⟨e1, e2, e3, e4, e5⟩
    · have hf : okE c (nth L (i : Int)) = false := by rw [hok, e2]; simp [h2]
      refine ⟨?_, gC⟩
      rw [if_neg (by omega), if_neg (fun h => by have := List.all_eq_true.1 h _ (nth_mem (L := L) (i := (i : Int)) (by omega) (by omega)); rw [hf] at this; cases this)]; rfl
    · exfalso; omega
  · have h2 : ¬ c = 2 := by assumption
    obtain rfl : k = 256 := by omega
    rcases hat with ⟨e1, e2⟩ | ⟨e1, e2, e3, e4, e5⟩
    · exfalso; omega
    · exact ⟨i + 1, by omega, ⟨rfl, by rw [flat_snoc (by omega), bytE, if_neg h2, hb1, e1]; rfl, rfl, rfl, rfl, trivial⟩, gC.trans g4, by omega, by rw [take_snoc (by omega), List.all_append, hal]; simp only [List.all_cons, List.all_nil, Bool.true_and, Bool.and_true]; rw [hok]; simp [e5]⟩
  all_goals (refine ⟨?_, gB⟩; rw [List.take_of_length_le (by omega)] at hal; rw [if_neg (by omega), if_pos hal, List.take_of_length_le (by omega)]; rfl)
end Go.Proofs.YtmjnlbjnmmmlmaaDoor.AS
end
