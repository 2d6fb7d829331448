/- Of our own: an abstract machine beside the model, its soundness, and walks of the program in it. -/
import Derived.Test.YtmjnlbjnmmmlmaaDoorA19
import Derived.Test.YtmjnlbjnmmmlmaaDoorA18
import Derived.Test.YtmjnlbjnmmmlmaaDoorA8
import Derived.ChangeArms
import Derived.ChangeSame
import Derived.DataReads
import Derived.WideShapes
set_option linter.unusedSimpArgs false
set_option linter.unusedVariables false
section
set_option autoImplicit false
set_option maxRecDepth 100000
set_option maxHeartbeats 4000000
set_option linter.unusedSimpArgs false
set_option linter.unusedVariables false
namespace Go.Proofs.YtmjnlbjnmmmlmaaDoor.AS
open Go Go.Proofs Go.RowKit Go.Proofs.YtmjnlbjnmmmlmaaDoor.AS.V
theorem bt_of {s : ByteArray} {l : List Int} (h : bytesOf s = l) {i : Nat} (hi : i < l.length) : bt s (i : Int) = l[i] := by
  subst h
  exact (bytesOf_get s i (by rwa [bytesOf_length] at hi)).symm
theorem size_of {s : ByteArray} {l : List Int} (h : bytesOf s = l) : s.size = l.length := by rw [← h, bytesOf_length]
/-- A letter's bytes, whatever stands behind them, begin with it. -/
theorem decS_enc {s : ByteArray} {n : Int} {R : List Int} (hn : isR n = true) (h : bytesOf s = encR n ++ R) : decS s = (n, ((encR n).length : Int)) := by
  have hr := of_decide_eq_true hn
  have hl := encR_len n
  have hsz := size_of h
  rw [List.length_append] at hsz
  have hex : strOfNums (encR n) = s.extract 0 (encR n).length := by
    apply bytesOf_inj
    rw [bytesOf_strOf (encR_range hn), bytesOf_extract s 0 _ (by omega), List.drop_zero, h, List.take_append_of_le_length (Nat.le_refl _), List.take_length]
  have key : ∀ (b : Int) (m : Nat), (encR n).length = m → ctS s b (m - 1) = n → nextF s b m = (n, (m : Int)) := by
    intro b m hm hc
    subst hm
    rw [nextF_ok (by omega) (by rw [hc]; exact hn) (by rw [hc]; exact fun e => e hex), hc]
  rw [← rnext_eq (by omega)]
  unfold rnextS
  by_cases h1 : n < 128
  · have e : encR n = [n] := by unfold encR; rw [if_pos h1]
    rw [e] at h key ⊢
    have b0 : bt s 0 = n := bt_of h (i := 0) (by simp)
    rw [if_neg (by omega), if_neg (by omega), if_neg (by omega), b0]
    exact key n 1 rfl rfl
  · by_cases h2 : n < 2048
    · have e : encR n = [192 + n / 64, 128 + n % 64] := by unfold encR; rw [if_neg h1, if_pos h2]
      rw [e] at h key ⊢
      have b0 : bt s 0 = 192 + n / 64 := bt_of h (i := 0) (by simp)
      have b1 : bt s 1 = 128 + n % 64 := bt_of h (i := 1) (by simp)
      rw [if_pos (by omega)]
      exact key _ 2 rfl (by rw [ct2, b0, b1]; omega)
    · by_cases h3 : n < 65536
      · have e : encR n = [224 + n / 4096, 128 + n / 64 % 64, 128 + n % 64] := by unfold encR; rw [if_neg h1, if_neg h2, if_pos h3]
        rw [e] at h key ⊢
        have b0 : bt s 0 = 224 + n / 4096 := bt_of h (i := 0) (by simp)
        have b1 : bt s 1 = 128 + n / 64 % 64 := bt_of h (i := 1) (by simp)
        have b2 : bt s 2 = 128 + n % 64 := bt_of h (i := 2) (by simp)
        rw [if_neg (by omega), if_pos (by omega)]
        exact key _ 3 rfl (by rw [ct3, b0, b1, b2]; omega)
      · have e : encR n = [240 + n / 262144, 128 + n / 4096 % 64, 128 + n / 64 % 64, 128 + n % 64] := by unfold encR; rw [if_neg h1, if_neg h2, if_neg h3]
        rw [e] at h key ⊢
        have b0 : bt s 0 = 240 + n / 262144 := bt_of h (i := 0) (by simp)
        have b1 : bt s 1 = 128 + n / 4096 % 64 := bt_of h (i := 1) (by simp)
        have b2 : bt s 2 = 128 + n / 64 % 64 := bt_of h (i := 2) (by simp)
        have b3 : bt s 3 = 128 + n % 64 := bt_of h (i := 3) (by simp)
        rw [if_neg (by omega), if_neg (by omega), if_pos (by omega)]
        exact key _ 4 rfl (by rw [ct4, b0, b1, b2, b3]; omega)
theorem encs_range : ∀ {L : List Int}, L.all isR = true → ∀ c ∈ L.flatMap encR, 0 ≤ c ∧ c ≤ 255
  | [], _ => by simp
  | x :: L, h => by
    simp only [List.all_cons, Bool.and_eq_true] at h
    intro c hc
    rw [List.flatMap_cons, List.mem_append] at hc
    rcases hc with hc | hc
    · exact encR_range h.1 c hc
    · exact encs_range h.2 c hc
theorem lettersF_enc : ∀ (L : List Int) (k : Nat) (s : ByteArray), L.all isR = true → bytesOf s = L.flatMap encR → s.size ≤ k → lettersF k s = L
  | [], k, s, _, h, _ => lettersF_nil k (bytesOf_inj (by rw [h]; rfl))
  | x :: L, k, s, hL, h, hk => by
    simp only [List.all_cons, Bool.and_eq_true] at hL
    rw [List.flatMap_cons] at h
    have hl := encR_len x
    have hsz := size_of h
    rw [List.length_append] at hsz
    have hne : s ≠ ⟨#[]⟩ := by rintro rfl; simp [ByteArray.size] at hsz; omega
    have hd := decS_enc hL.1 h
    obtain ⟨k, rfl⟩ : ∃ k2, k = k2 + 1 := ⟨k - 1, by omega⟩
    rw [lettersF, if_neg hne, hd]
    congr 1
    refine lettersF_enc L k _ hL.2 ?_ ?_
    · simp only
      rw [bytesOf_extract s _ s.size (Nat.le_refl _), List.take_of_length_le (by rw [bytesOf_length]; exact Nat.le_refl _), h]
      exact List.drop_left' (by omega)
    · rw [ByteArray.size_extract]; simp only; omega
/-- Letters' bytes have the letters. -/
theorem lettersS_enc {L : List Int} (h : L.all isR = true) : lettersS (strOfNums (L.flatMap encR)) = L :=
  lettersF_enc L _ _ h (bytesOf_strOf (encs_range h)) (Nat.le_refl _)
theorem putR_map : ∀ L : List Int, L.flatMap putR = (L.map okR).flatMap encR
  | [] => rfl
  | x :: L => by rw [List.flatMap_cons, putR_map L, List.map_cons, List.flatMap_cons]; rfl
theorem okR_all (L : List Int) : (L.map okR).all isR = true := by
  rw [List.all_eq_true]
  intro x hx
  obtain ⟨y, _, rfl⟩ := List.mem_map.1 hx
  exact okR_ok y
theorem letters_utf8 (L : List Int) : lettersS (utf8S L) = L.map okR := by
  unfold utf8S
  rw [putR_map]
  exact lettersS_enc (okR_all L)
theorem strOf_size (L : List Int) : (strOfNums L).size = L.length := strOfNums_size L
theorem utf8S_size (L : List Int) : (utf8S L).size ≤ 4 * L.length := by
  unfold utf8S
  rw [strOf_size]
  exact flat_le putR_le L
theorem name_cases (c : Int) : (nameS c).2 = 0 ∨ (nameS c).2 = 14 := by
  unfold nameS; split
  · right; rfl
  · left; rfl
theorem enc1 {c : Int} (h2 : c ≠ 2) : ∀ {L : List Int}, L.all (okE c) = true → (L.flatMap (bytE c)).length = L.length ∧ (∀ x ∈ L.flatMap (bytE c), 0 ≤ x ∧ x ≤ 255) ∧ (L.flatMap (bytE c)).map (letS c) = L
  | [], _ => ⟨rfl, by simp, rfl⟩
  | x :: L, h => by
    simp only [List.all_cons, Bool.and_eq_true] at h
    obtain ⟨i1, i2, i3⟩ := enc1 h2 h.2
    obtain ⟨b1, k1, hb1⟩ : ∃ b1 k1, byS c x = (b1, k1) := ⟨_, _, rfl⟩
    have hk : k1 = true := by
      have := h.1
      unfold okE at this
      rw [hb1] at this
      simpa [h2] using (Bool.and_eq_true_iff.1 this).2
    rcases at_eq hb1 with ⟨_, e⟩ | ⟨_, e1, e2, e3, _⟩
    · rw [hk] at e; cases e
    · have hb : bytE c x = [b1] := by unfold bytE; rw [if_neg h2, hb1]
      rw [List.flatMap_cons, hb]
      refine ⟨by rw [List.length_append, i1, List.length_cons, List.length_nil, List.length_cons]; omega, ?_, ?_⟩
      · intro y hy
        rcases List.mem_append.1 hy with hy | hy
        · simp at hy; subst hy; exact ⟨e1, e2⟩
        · exact i2 y hy
      · rw [List.map_append, i3, List.map_cons, List.map_nil, e3]; rfl
theorem enc2 : ∀ {L : List Int}, L.all (okE 2) = true → L.all isR = true ∧ L.flatMap (bytE 2) = L.flatMap encR
  | [], _ => ⟨rfl, rfl⟩
  | x :: L, h => by
    simp only [List.all_cons, Bool.and_eq_true] at h
    obtain ⟨i1, i2⟩ := enc2 h.2
    have hx : isR x = true := by
      have := h.1
      unfold okE at this
      exact (Bool.and_eq_true_iff.1 this).1
    exact ⟨by simp only [List.all_cons, hx, i1, Bool.and_self], by rw [List.flatMap_cons, i2, List.flatMap_cons]; rfl⟩
/-- What is encoded is decoded. -/
theorem dec_enc {c : Int} {L : List Int} (h : (encoS c L).2 = 0) : decodeS c (encoS c L).1 = (L, 0) ∧ (c ≠ 2 → (encoS c L).1.size = L.length) ∧ (c = 2 → lettersS (encoS c L).1 = L) ∧ (encoS c L).1.size ≤ 4 * L.length := by
  unfold encoS at h ⊢
  by_cases hz : (nameS c).2 ≠ 0
  · rw [if_pos hz] at h; exact absurd h hz
  · rw [if_neg hz] at h ⊢
    by_cases ha : L.all (okE c) = true
    · rw [if_pos ha]
      simp only
      unfold decodeS
      rw [if_neg hz]
      by_cases h2 : c = 2
      · subst h2
        obtain ⟨e1, e2⟩ := enc2 ha
        rw [if_pos rfl, e2, lettersS_enc e1]
        exact ⟨rfl, fun e => absurd rfl e, fun _ => rfl, by rw [strOf_size]; exact flat_le (fun n => (encR_len n).2) L⟩
      · obtain ⟨i1, i2, i3⟩ := enc1 h2 ha
        rw [if_neg h2, bytesOf_strOf i2, i3]
        exact ⟨rfl, fun _ => by rw [strOf_size, i1], fun e => absurd e h2, by rw [strOf_size, i1]; omega⟩
    · rw [if_neg ha] at h; cases h
theorem nextF_ok2 (s : ByteArray) (n : Int) (m : Nat) : isR (nextF s n m).1 = true := by
  unfold nextF
  split
  · rfl
  · split
    · rename_i h; exact h.1
    · rfl
theorem decS_ok {s : ByteArray} (h : 1 ≤ s.size) : isR (decS s).1 = true := by
  rw [← rnext_eq h]
  unfold rnextS
  (repeat' split) <;> exact nextF_ok2 _ _ _
theorem lettersF_ok : ∀ (k : Nat) (s : ByteArray), (lettersF k s).all isR = true
  | 0, s => rfl
  | k + 1, s => by
    rw [lettersF]
    split
    · rfl
    · rename_i h
      simp only [List.all_cons, decS_ok (size_pos h), lettersF_ok k, Bool.and_self]
theorem lettersF_plain : ∀ (k : Nat) (s : ByteArray), s.size ≤ k → (∀ c ∈ bytesOf s, c < 128) → lettersF k s = bytesOf s
  | 0, s, h, _ => by
    have : s = ⟨#[]⟩ := by
      rcases Nat.eq_zero_or_pos s.size with h0 | h0
      · exact ByteArray.ext (Array.size_eq_zero_iff.1 h0)
      · omega
    subst this; rfl
  | k + 1, s, h, hb => by
    rw [lettersF]
    split
    · rename_i he; subst he; rfl
    · rename_i he
      have h1 := size_pos he
      have e1 := bytes1 h1
      have b0 : bt s 0 < 128 := hb _ (by rw [e1]; exact List.mem_cons_self)
      have hd : decS s = (bt s 0, 1) := by unfold decS; rw [if_neg he, if_pos b0]
      rw [hd]
      have e2 : bytesOf (s.extract 1 s.size) = (bytesOf s).drop 1 := by
        rw [bytesOf_extract s _ s.size (Nat.le_refl _), List.take_of_length_le (by rw [bytesOf_length]; exact Nat.le_refl _)]
      have ih := lettersF_plain k (s.extract 1 s.size) (by rw [ByteArray.size_extract]; omega) (by rw [e2]; exact fun c hc => hb c (List.mem_of_mem_drop hc))
      show bt s 0 :: lettersF k (s.extract (1 : Int).toNat s.size) = _
      rw [show (1 : Int).toNat = 1 from rfl, ih, e2, ← e1]
theorem lettersS_ne {s : ByteArray} (h : s ≠ ⟨#[]⟩) : 1 ≤ (lettersS s).length := by
  have h1 := size_pos h
  unfold lettersS
  obtain ⟨k, hk⟩ : ∃ k, s.size = k + 1 := ⟨s.size - 1, by omega⟩
  rw [hk, lettersF, if_neg h, List.length_cons]; omega
theorem tab_ok : ∀ i : Fin 32, isR (nth tabWin (i.val : Int)) = true := by decide +kernel
theorem letS_ok (c : Int) {b : Int} (hb : 0 ≤ b ∧ b ≤ 255) : isR (letS c b) = true := by
  have hw : 128 ≤ b → b < 160 → isR (nth tabWin (b - 128)) = true := by
    intro h1 h2
    have := tab_ok ⟨(b - 128).toNat, by omega⟩
    rwa [show (((b - 128).toNat : Nat) : Int) = b - 128 by omega] at this
  have hp : ∀ x : Int, 0 ≤ x ∧ x < 55296 → isR x = true := fun x hx => decide_eq_true (by omega)
  unfold letS
  split
  · exact hp _ (by omega)
  · split
    · rfl
    · split
      · rename_i h; exact hw (by omega) h.2
      · split
        · unfold lat9
          (repeat' split) <;> first | rfl | exact hp _ (by omega)
        · exact hp _ (by omega)
theorem letS_low (c : Int) {b : Int} (hb : b < 128) : letS c b = b := by unfold letS; rw [if_pos hb]
/-- What the law asks of a text's letters. -/
theorem always (c : Int) (s : ByteArray) : ((decodeS c s).2 ≠ 0 → (decodeS c s).1 = [] ∧ (decodeS c s).2 = 14) ∧
    ((decodeS c s).2 = 0 → (decodeS c s).1.all isR = true ∧ ((∀ x ∈ bytesOf s, x < 128) → (decodeS c s).1 = bytesOf s) ∧ (decodeS c s).1.length ≤ s.size ∧ (s = ⟨#[]⟩ ↔ (decodeS c s).1.length = 0)) := by
  have hn := name_cases c
  unfold decodeS
  by_cases hz : (nameS c).2 ≠ 0
  · rw [if_pos hz]
    exact ⟨fun _ => ⟨rfl, by simp only; omega⟩, fun h => absurd h hz⟩
  · rw [if_neg hz]
    by_cases h2 : c = 2
    · rw [if_pos h2]
      refine ⟨fun h => absurd rfl h, fun _ => ⟨lettersF_ok _ _, fun h => lettersF_plain _ _ (Nat.le_refl _) h, lettersS_len s, ?_⟩⟩
      constructor
      · rintro rfl; rfl
      · intro h
        apply Classical.byContradiction
        intro hne
        have := lettersS_ne hne
        simp only at h
        omega
    · rw [if_neg h2]
      refine ⟨fun h => absurd rfl h, fun _ => ⟨?_, fun h => ?_, ?_, ?_⟩⟩
      · rw [List.all_eq_true]
        intro x hx
        obtain ⟨y, hy, rfl⟩ := List.mem_map.1 hx
        exact letS_ok c (bytesOf_range s y hy)
      · conv => rhs; rw [← List.map_id (bytesOf s)]
        exact List.map_congr_left fun x hx => letS_low c (h x hx)
      · simp only [List.length_map, bytesOf_length]; exact Nat.le_refl _
      · simp only [List.length_map, bytesOf_length]
        constructor
        · rintro rfl; rfl
        · intro h
          exact ByteArray.ext (Array.size_eq_zero_iff.1 h)
theorem utf8S_append (A B : List Int) : utf8S (A ++ B) = utf8S A ++ utf8S B := by
  unfold utf8S
  rw [List.flatMap_append, strOf_append]
/-- In all charsets but one texts in two parts have the letters of both. -/
theorem decode_append {c : Int} (h2 : c ≠ 2) (s t : ByteArray) : (decodeS c s).2 = (nameS c).2 ∧ (decodeS c t).2 = (nameS c).2 ∧ (decodeS c (s ++ t)).2 = (nameS c).2 ∧ (decodeS c (s ++ t)).1 = (decodeS c s).1 ++ (decodeS c t).1 := by
  unfold decodeS
  by_cases hz : (nameS c).2 ≠ 0
  · simp only [if_pos hz, List.append_nil, and_self]
  · simp only [if_neg hz, if_neg h2]
    have hz : (nameS c).2 = 0 := Classical.not_not.1 hz
    exact ⟨hz.symm, hz.symm, hz.symm, by rw [bytesOf_append, List.map_append]⟩
end Go.Proofs.YtmjnlbjnmmmlmaaDoor.AS
end
section
set_option autoImplicit false
set_option maxRecDepth 100000
set_option maxHeartbeats 4000000
set_option linter.unusedSimpArgs false
set_option linter.unusedVariables false
namespace Go.Proofs.YtmjnlbjnmmmlmaaDoor.AS
open Go Go.Proofs Go.RowKit Go.Proofs.YtmjnlbjnmmmlmaaDoor.AS.V

theorem law6_FR (h : Heap) (c : Int) (a : AV) (L : List Int) (r : Row (encI .i32) h a L) (hl : L.length ≤ 35184372088831) : FR Tryd.prog TT 6 [.s (.int .u8 c), a] h fun x H => x = .s (.bool true) ∧ Grows h H := by
  have ka := fun h r => encode_FR h c a L r hl
  have kb : ∀ h, (encoS c L).2 = 0 → FR Tryd.prog TT 14 [.s (.int .u8 c), .s (.string (encoS c L).1)] h fun y H => ∃ m, y = .tp [m, .s (.int .i64 0)] ∧ Grows h H ∧ Row (encI .i32) H m L := by
    intro h he
    obtain ⟨e1, e2, e3, e4⟩ := dec_enc he
    have k := dcd2_FR h c (encoS c L).1 (by omega) (fun h2 => by rw [e2 h2]; exact hl) (fun h2 => by rw [e3 h2]; exact hl)
    rwa [e1] at k
  have kc := fun h r => utf8_FR h a L r hl
  have hus := utf8S_size L
  have kd : ∀ h, FR Tryd.prog TT 17 [.s (.string (utf8S L))] h fun y H => Out (encI .i32) 21 h H y (L.map okR) := by
    intro h
    have k := letters2_FR h (utf8S L) (by omega) (by rw [letters_utf8, List.length_map]; exact hl)
    rwa [letters_utf8] at k
  have hlm : (L.map okR).length = L.length := List.length_map _
  have hmv : ∀ i : Nat, i < L.length → nth (L.map okR) (i : Int) = okR (nth L (i : Int)) := by
    intro i hi
    rw [nth_eq (by simpa using hi), nth_eq (by simpa using hi)]
    simp
  generalize encoS c L = es at *
  generalize utf8S L = us at *
  generalize L.map okR = M at *
  refine FR.of q6 (by kernel_rfl) ?_
  unfold c6
  repeat' (first
    | (refine WO.call rfl (lives_FR _) ?_; rintro _ HL ⟨rfl, gL⟩)
    | (refine WO.mvE a rfl ?_)
    | (refine WO.mvE m rfl ?_)
    | (refine WO.mvE ma rfl ?_)
    | (refine WO.call rfl (ka _ (r.grows gL)) ?_; rintro _ H1 ⟨rfl, g1⟩)
    | (refine WO.call rfl (kb _ (by assumption)) ?_; rintro _ H2 ⟨m, rfl, g2, rm⟩)
    | (refine WO.call rfl (l16 _ m a L rm (r.grows (gL.trans (g1.trans g2))) (by omega)) ?_; rintro _ H ⟨rfl, hH⟩; obtain rfl := hH.symm)
    | (have gg := gL.trans (g1.trans g2); refine WO.call rfl (kc _ (r.grows gg)) ?_; rintro _ H3 ⟨rfl, g3⟩)
    | (have gg := gL.trans g1; refine WO.call rfl (kc _ (r.grows gg)) ?_; rintro _ H3 ⟨rfl, g3⟩)
    | (refine WO.call rfl (kd _) ?_; rintro ma HN o4; have rma := o4.row; have gN := gg.trans (g3.trans o4.g); have ra := r.grows gN)
    | (refine W.loopI (σ := Nat) (fun i => [(9, ma), (44, a), (45, .s (.int .i64 L.length)), (46, .s (.int .i64 i))]) (fun i h' => h' = HN ∧ i ≤ L.length) (fun i => L.length - i) 0 ⟨rfl, rfl, rfl, rfl, trivial⟩ ⟨rfl, Nat.zero_le _⟩ ?_; rintro i G h' ⟨rfl, hi⟩; have hm2 := hmv i; obtain ⟨vb, hvb⟩ : ∃ vb, isR (nth L (i : Int)) = vb := ⟨_, rfl⟩; have hv := fun hp => is_FR hp (nth L (i : Int)); rw [hvb] at hv; have hm3 : i < L.length → (vb = true ∧ nth M (i : Int) = nth L (i : Int)) ∨ (vb = false ∧ nth M (i : Int) = 65533) := (fun hx => by rw [hm2 hx]; unfold okR; rw [hvb]; cases vb <;> simp))
    | (refine WO.call rfl (hv _) ?_; rintro _ H ⟨rfl, hH⟩; obtain rfl := hH.symm)
    | (refine LQ.fin ?_)
    | (refine EQ.fin rfl ?_)
    | (refine WO.mvs rfl ?_)
    | (refine WO.mvp rfl ?_)
    | (refine WO.mvt rfl ?_)
    | (refine WO.mv ?_)
    | (refine W.sreg ?_)
    | (refine W.sdraw ?_)
    | (refine W.reg ?_)
    | (refine W.draw ?_)
    | (refine WO.nil ?_)
    | (refine WO.gU rfl ?_)
    | (refine WO.gT rfl rfl ?_)
    | (refine WO.gF rfl rfl ?_)
    | (refine WO.ext rfl rfl ?_)
    | (refine WO.lenR (by assumption) ?_)
    | (refine WO.add rfl rfl (by first | exact wrOK (by simp only [loK, hiK]; omega) | rfl) ?_)
    | (refine WO.sub rfl rfl (by first | exact wrOK (by simp only [loK, hiK]; omega) | rfl) ?_)
    | (refine WO.lss rfl rfl ?_)
    | (refine WO.leq rfl rfl ?_)
    | (refine WO.gtr rfl rfl ?_)
    | (refine WO.geq rfl rfl ?_)
    | (refine WO.eql rfl rfl ?_)
    | (refine WO.neq rfl rfl ?_)
    | (refine WO.seql rfl rfl ?_)
    | (refine WO.sneq rfl rfl ?_)
    | (refine WO.beql rfl rfl (tb rfl) ?_)
    | (refine WO.bneq rfl rfl (tb rfl) ?_)
    | (refine WO.not rfl ?_)
    | (refine WO.not0 rfl ?_)
    | (refine WO.cvi rfl (kd rfl) (kd rfl) (by first | exact wrOK (by simp only [loK, hiK]; omega) | rfl) ?_)
    | (refine WO.cvs rfl (st rfl) (st rfl) ?_)
    | (refine WO.ix rfl rfl (st rfl) (by first | assumption | omega) (by first | assumption | omega) ?_)
    | (refine WO.slen rfl (st rfl) ?_)
    | (refine WO.iaddr (by assumption) rfl rfl (by first | assumption | omega) (by first | assumption | omega) (fun q hq => ?_))
    | (refine WO.load (by assumption) rfl rfl ?_)
    | (refine WO.loadO rfl (by assumption) rfl rfl ?_)
    | (refine WO.faddrP (by assumption) rfl (fun q hq => ?_))
    | (refine WO.nilckP (by assumption) ?_)
    | (refine WO.nilck rfl ?_)
    | (refine WO.faddr rfl ?_)
    | (refine WO.fld rfl rfl rfl ?_)
    | (refine WO.pickT rfl ?_)
    | (refine WO.pickF rfl ?_)
    | (refine WO.sll rfl rfl (st rfl) (by first | assumption | omega) (by first | assumption | omega) ?_)
    | (refine WO.slh rfl rfl (st rfl) (by first | assumption | omega) (by first | assumption | omega) ?_)
    | (refine WO.slb rfl rfl rfl (st rfl) (by first | assumption | omega) (by first | assumption | omega) (by first | assumption | omega) ?_)
    | (refine WO.mul rfl rfl (by first | exact wrOK (by simp only [loK, hiK]; omega) | rfl) ?_)
    | (refine WO.quo rfl rfl (by first | assumption | omega) (by first | exact wrOK (by simp only [loK, hiK]; omega) | rfl) ?_)
    | (refine WO.rem rfl rfl (by first | assumption | omega) ?_)
    | (refine WO.and rfl rfl ?_)
    | (refine WO.or rfl rfl ?_)
    | (refine WO.xor rfl rfl ?_)
    | (refine WO.shl rfl rfl (by first | assumption | omega) (by simp [IntKind.bits]; rfl) ?_)
    | (refine WO.shr rfl rfl (by first | assumption | omega) (by simp [IntKind.bits]; rfl) ?_)
    | (refine WO.build (C := [_]) rfl ?_)
    | (refine WO.build (C := [_, _]) rfl ?_)
    | (refine WO.build (C := [_, _, _]) rfl ?_)
    | (refine WO.build (C := [_, _, _, _]) rfl ?_)
    | (refine WO.build (C := [_, _, _, _, _]) rfl ?_)
    | (refine WO.build (C := [_, _, _, _, _, _]) rfl ?_)
    | (refine WO.build (C := [_, _, _, _, _, _, _]) rfl ?_)
    | (refine WO.eqnil (by assumption) (fun hn1 hn2 => ?_) ?_)
    | (refine W.condT rfl ?_)
    | (refine W.condF rfl ?_)
    | (refine W.condDT rfl (by first | assumption | omega) ?_)
    | (refine W.condDF rfl (by first | assumption | omega) ?_)
    | (refine W.condD rfl (fun hc => ?_) (fun hc => ?_))
    | (refine WO.gS rfl (fun hc => ?_) (fun hc => ?_) <;> try (exfalso; omega))
    | (refine WO.pickS rfl (fun hc => ?_) (fun hc => ?_) <;> try (exfalso; omega))
    | (refine W.skip ?_)
    | (refine W.block ?_)
    | (refine W.drawA rfl ?_)
    | (refine W.sdrawA rfl ?_)
    | (refine And.intro rfl ?_)
    | (refine W.exit ?_)
    | (refine W.ret ?_)
    | (refine W.seq ?_)
    | (refine W.goto ?_)
    | (refine W.label ?_)
    | (refine SQ.nn ?_)
    | (refine SQ.x ?_)
    | (refine SQ.r ?_)
    | (refine SQ.g ?_)
    | (refine BQ.nn ?_)
    | (refine BQ.x ?_)
    | (refine BQ.r ?_)
    | (refine BQ.g ?_)
    | (refine BQ.y rfl ?_)
    | (refine LQ.x ?_)
    | (refine LQ.r ?_)
    | (refine LQ.g ?_)
    | (refine GQ.nn ?_)
    | (refine GQ.x ?_)
    | (refine GQ.r ?_)
    | (cases vb))
  all_goals first
    | exact ⟨i + 1, by omega, ⟨rfl, rfl, rfl, rfl, trivial⟩, rfl, by omega⟩
    | exact ⟨rfl, gN⟩
    | (exfalso; rcases hm3 (by omega) with ⟨e1, e2⟩ | ⟨e1, e2⟩ <;> first | omega | cases e1)
end Go.Proofs.YtmjnlbjnmmmlmaaDoor.AS
end
section
set_option autoImplicit false
set_option maxRecDepth 100000
set_option maxHeartbeats 4000000
set_option linter.unusedSimpArgs false
set_option linter.unusedVariables false
namespace Go.Proofs.YtmjnlbjnmmmlmaaDoor.AS
open Go Go.Proofs Go.RowKit Go.Proofs.YtmjnlbjnmmmlmaaDoor.AS.V

theorem law7_FR (h : Heap) (c : Int) (s : ByteArray) (hs : s.size ≤ 35184372088831) : FR Tryd.prog TT 7 [.s (.int .u8 c), .s (.string s)] h fun x H => x = .s (.bool true) ∧ Grows h H := by
  have ka := fun h => dcd_FR h c s hs
  obtain ⟨al1, al2⟩ := always c s
  have hlen := bytesOf_length s
  have hpl : (decodeS c s).2 = 0 → (∀ j : Nat, j < s.size → bt s (j : Int) < 128) → (decodeS c s).1.length = s.size ∧ ∀ i : Nat, i < s.size → nth (decodeS c s).1 (i : Int) = bt s (i : Int) := by
    intro h0 hp
    have e := (al2 h0).2.1 (by
      intro x hx
      obtain ⟨j, hj, rfl⟩ := List.mem_iff_getElem.1 hx
      rw [bytesOf_get s j (by omega)]
      exact hp j (by omega))
    rw [e, hlen]
    exact ⟨rfl, fun i hi => nth_bytes hi⟩
  have hIs : (decodeS c s).2 = 0 → ∀ i : Nat, i < (decodeS c s).1.length → isR (nth (decodeS c s).1 (i : Int)) = true := by
    intro h0 i hi
    exact List.all_eq_true.1 (al2 h0).1 _ (nth_mem (by omega) (by omega))
  have hle : (decodeS c s).2 = 0 → (decodeS c s).1.length ≤ s.size := fun h0 => (al2 h0).2.2.1
  have hem : (decodeS c s).2 = 0 → (s = ⟨#[]⟩ ↔ (decodeS c s).1.length = 0) := fun h0 => (al2 h0).2.2.2
  have hno : (decodeS c s).2 ≠ 0 → (decodeS c s).1.length = 0 ∧ (decodeS c s).2 = 14 := fun h0 => ⟨by rw [(al1 h0).1]; rfl, (al1 h0).2⟩
  clear al1 al2
  generalize decodeS c s = ds at *
  obtain ⟨D, w⟩ := ds
  dsimp only at *
  refine FR.of q7 (by kernel_rfl) ?_
  unfold c7
  repeat' (first
    | (refine WO.call rfl (lives_FR _) ?_; rintro _ HL ⟨rfl, gL⟩)
    | (refine WO.mvE m rfl ?_)
    | (refine WO.call rfl (ka _) ?_; rintro _ HN ⟨m, rfl, g1, rm⟩)
    | (have hw0 : w = 0 := (by omega); have hD1 := hle hw0; have hpl1 := hpl hw0; have hIs1 := hIs hw0; have hem1 := hem hw0; refine W.loopI (σ := Nat × Bool) (fun σ => [(1, .s (.string s)), (5, m), (6, .s (.int .i64 w)), (7, .s (.bool σ.2)), (8, .s (.int .i64 σ.1))]) (fun σ h' => h' = HN ∧ σ.1 ≤ s.size ∧ (σ.2 = true → ∀ j : Nat, j < σ.1 → bt s (j : Int) < 128)) (fun σ => s.size - σ.1) (0, true) ⟨rfl, rfl, rfl, rfl, rfl, trivial⟩ ⟨rfl, Nat.zero_le _, fun _ j hj => absurd hj (by omega)⟩ ?_; rintro ⟨i, pl⟩ G h' ⟨rfl, hi, hq⟩; dsimp only at hi hq ⊢)
    | (have hpl2 : pl = true → D.length = s.size ∧ ∀ i : Nat, i < s.size → nth D (i : Int) = bt s (i : Int) := (fun hp => hpl1 (fun j hj => hq hp j (by omega))); refine W.loopI (σ := Nat) (fun k => [(1, .s (.string s)), (5, m), (7, .s (.bool pl)), (41, m), (42, .s (.int .i64 D.length)), (43, .s (.int .i64 k))]) (fun k h2 => h2 = h' ∧ k ≤ D.length) (fun k => D.length - k) 0 ⟨rfl, rfl, rfl, rfl, rfl, rfl, trivial⟩ ⟨rfl, Nat.zero_le _⟩ ?_; rintro k G2 h2 ⟨rfl, hk⟩; have hbk := bt_range s (k : Int); have hI := hIs1 k; have hv := fun hp (hx : k < D.length) => is_FR hp (nth D (k : Int)); have hv2 : ∀ hp, k < D.length → FR Tryd.prog TT 23 [.s (.int .i32 (nth D (k : Int)))] hp (fun x H => x = .s (.bool true) ∧ H = hp) := (fun hp hx => by have k9 := is_FR hp (nth D (k : Int)); rwa [hI hx] at k9); have hp3 : pl = true → D.length = s.size ∧ (k < s.size → nth D (k : Int) = bt s (k : Int)) := (fun hp => ⟨(hpl2 hp).1, (hpl2 hp).2 k⟩))
    | (refine WO.call rfl (hv2 _ (by omega)) ?_; rintro _ H ⟨rfl, hH⟩; obtain rfl := hH.symm)
    | (refine LQ.fin ?_)
    | (refine EQ.fin rfl ?_)
    | (refine WO.mvs rfl ?_)
    | (refine WO.mvp rfl ?_)
    | (refine WO.mvt rfl ?_)
    | (refine WO.mv ?_)
    | (refine W.sreg ?_)
    | (refine W.sdraw ?_)
    | (refine W.reg ?_)
    | (refine W.draw ?_)
    | (refine WO.nil ?_)
    | (refine WO.gU rfl ?_)
    | (refine WO.gT rfl rfl ?_)
    | (refine WO.gF rfl rfl ?_)
    | (refine WO.ext rfl rfl ?_)
    | (refine WO.lenR (by assumption) ?_)
    | (refine WO.add rfl rfl (by first | exact wrOK (by simp only [loK, hiK]; omega) | rfl) ?_)
    | (refine WO.sub rfl rfl (by first | exact wrOK (by simp only [loK, hiK]; omega) | rfl) ?_)
    | (refine WO.lss rfl rfl ?_)
    | (refine WO.leq rfl rfl ?_)
    | (refine WO.gtr rfl rfl ?_)
    | (refine WO.geq rfl rfl ?_)
    | (refine WO.eql rfl rfl ?_)
    | (refine WO.neq rfl rfl ?_)
    | (refine WO.seql rfl rfl ?_)
    | (refine WO.sneq rfl rfl ?_)
    | (refine WO.beql rfl rfl (tb rfl) ?_)
    | (refine WO.bneq rfl rfl (tb rfl) ?_)
    | (refine WO.not rfl ?_)
    | (refine WO.not0 rfl ?_)
    | (refine WO.cvi rfl (kd rfl) (kd rfl) (by first | exact wrOK (by simp only [loK, hiK]; omega) | rfl) ?_)
    | (refine WO.cvs rfl (st rfl) (st rfl) ?_)
    | (refine WO.ix rfl rfl (st rfl) (by first | assumption | omega) (by first | assumption | omega) ?_)
    | (refine WO.slen rfl (st rfl) ?_)
    | (refine WO.iaddr (by assumption) rfl rfl (by first | assumption | omega) (by first | assumption | omega) (fun q hq => ?_))
    | (refine WO.load (by assumption) rfl rfl ?_)
    | (refine WO.loadO rfl (by assumption) rfl rfl ?_)
    | (refine WO.faddrP (by assumption) rfl (fun q hq => ?_))
    | (refine WO.nilckP (by assumption) ?_)
    | (refine WO.nilck rfl ?_)
    | (refine WO.faddr rfl ?_)
    | (refine WO.fld rfl rfl rfl ?_)
    | (refine WO.pickT rfl ?_)
    | (refine WO.pickF rfl ?_)
    | (refine WO.sll rfl rfl (st rfl) (by first | assumption | omega) (by first | assumption | omega) ?_)
    | (refine WO.slh rfl rfl (st rfl) (by first | assumption | omega) (by first | assumption | omega) ?_)
    | (refine WO.slb rfl rfl rfl (st rfl) (by first | assumption | omega) (by first | assumption | omega) (by first | assumption | omega) ?_)
    | (refine WO.mul rfl rfl (by first | exact wrOK (by simp only [loK, hiK]; omega) | rfl) ?_)
    | (refine WO.quo rfl rfl (by first | assumption | omega) (by first | exact wrOK (by simp only [loK, hiK]; omega) | rfl) ?_)
    | (refine WO.rem rfl rfl (by first | assumption | omega) ?_)
    | (refine WO.and rfl rfl ?_)
    | (refine WO.or rfl rfl ?_)
    | (refine WO.xor rfl rfl ?_)
    | (refine WO.shl rfl rfl (by first | assumption | omega) (by simp [IntKind.bits]; rfl) ?_)
    | (refine WO.shr rfl rfl (by first | assumption | omega) (by simp [IntKind.bits]; rfl) ?_)
    | (refine WO.build (C := [_]) rfl ?_)
    | (refine WO.build (C := [_, _]) rfl ?_)
    | (refine WO.build (C := [_, _, _]) rfl ?_)
    | (refine WO.build (C := [_, _, _, _]) rfl ?_)
    | (refine WO.build (C := [_, _, _, _, _]) rfl ?_)
    | (refine WO.build (C := [_, _, _, _, _, _]) rfl ?_)
    | (refine WO.build (C := [_, _, _, _, _, _, _]) rfl ?_)
    | (refine WO.eqnil (by assumption) (fun hn1 hn2 => ?_) ?_)
    | (refine W.condT rfl ?_)
    | (refine W.condF rfl ?_)
    | (refine W.condDT rfl (by first | assumption | omega) ?_)
    | (refine W.condDF rfl (by first | assumption | omega) ?_)
    | (refine W.condD rfl (fun hc => ?_) (fun hc => ?_))
    | (refine WO.gS rfl (fun hc => ?_) (fun hc => ?_) <;> try (exfalso; omega))
    | (refine WO.pickS rfl (fun hc => ?_) (fun hc => ?_) <;> try (exfalso; omega))
    | (refine W.skip ?_)
    | (refine W.block ?_)
    | (refine W.drawA rfl ?_)
    | (refine W.sdrawA rfl ?_)
    | (refine And.intro rfl ?_)
    | (refine W.exit ?_)
    | (refine W.ret ?_)
    | (refine W.seq ?_)
    | (refine W.goto ?_)
    | (refine W.label ?_)
    | (refine SQ.nn ?_)
    | (refine SQ.x ?_)
    | (refine SQ.r ?_)
    | (refine SQ.g ?_)
    | (refine BQ.nn ?_)
    | (refine BQ.x ?_)
    | (refine BQ.r ?_)
    | (refine BQ.g ?_)
    | (refine BQ.y rfl ?_)
    | (refine LQ.x ?_)
    | (refine LQ.r ?_)
    | (refine LQ.g ?_)
    | (refine GQ.nn ?_)
    | (refine GQ.x ?_)
    | (refine GQ.r ?_)
    | (cases pl))
  · exact ⟨congrArg (fun b => AV.s (.bool b)) (decide_eq_true (hno (by assumption)).2), gL.trans g1⟩
  · exact ⟨(i + 1, false), by dsimp only; omega, ⟨rfl, rfl, rfl, rfl, rfl, trivial⟩, rfl, by dsimp only; omega, fun e => by cases e⟩
  · refine ⟨(i + 1, decide (bt s (i : Int) < 128)), by dsimp only; omega, ⟨rfl, rfl, rfl, rfl, rfl, trivial⟩, rfl, by dsimp only; omega, fun e j hj => ?_⟩
    dsimp only at e hj
    rcases Nat.lt_or_ge j i with h1 | h1
    · exact hq rfl j h1
    · obtain rfl : j = i := by omega
      exact of_decide_eq_true e
  · exact ⟨k + 1, by omega, ⟨rfl, rfl, rfl, rfl, rfl, rfl, trivial⟩, rfl, by omega⟩
  · exfalso
    obtain ⟨e1, e2⟩ := hp3 rfl
    have := e2 (by omega)
    omega
  · exact ⟨k + 1, by omega, ⟨rfl, rfl, rfl, rfl, rfl, rfl, trivial⟩, rfl, by omega⟩
  · exact ⟨rfl, gL.trans g1⟩
  · exact ⟨congrArg (fun b => AV.s (.bool b)) (decide_eq_true (by have := (hp3 rfl).1; omega)), gL.trans g1⟩
  all_goals exact absurd (decide_eq_decide.2 ⟨fun e => by have := hem1.1 e; omega, fun e => hem1.2 (by omega)⟩) hc
end Go.Proofs.YtmjnlbjnmmmlmaaDoor.AS
end
section
set_option autoImplicit false
set_option maxRecDepth 100000
set_option maxHeartbeats 4000000
set_option linter.unusedSimpArgs false
set_option linter.unusedVariables false
namespace Go.Proofs.YtmjnlbjnmmmlmaaDoor.AS
open Go Go.Proofs Go.RowKit Go.Proofs.YtmjnlbjnmmmlmaaDoor.AS.V

theorem law8_FR (h : Heap) (c : Int) (a b : AV) (A B : List Int) (s t : ByteArray) (ra : Row (encI .i32) h a A) (rb : Row (encI .i32) h b B) (hA : A.length ≤ 1048576) (hB : B.length ≤ 1048576) (hs : s.size ≤ 1048576) (ht : t.size ≤ 1048576) :
    FR Tryd.prog TT 8 [.s (.int .u8 c), a, b, .s (.string s), .s (.string t)] h fun x H => x = .s (.bool true) ∧ Grows h H := by
  have hst : (s ++ t).size = s.size + t.size := ByteArray.size_append
  have kA := fun h r => utf8_FR h a A r (by omega)
  have kB := fun h r => utf8_FR h b B r (by omega)
  have kC := fun h m r => utf8_FR h m (A ++ B) r (by rw [List.length_append]; omega)
  have zA := utf8S_size A
  have zB := utf8S_size B
  rw [utf8S_append] at kC
  have dS := fun h => dcd_FR h c s (by omega)
  have dT := fun h => dcd_FR h c t (by omega)
  have dST := fun h => dcd_FR h c (s ++ t) (by omega)
  have hd := fun h2 : c ≠ 2 => decode_append h2 s t
  have lS : (decodeS c s).1.length ≤ 1048576 := by
    have := bytesOf_length s
    have := lettersS_len s
    unfold decodeS
    (repeat' split) <;> simp only [List.length_nil, List.length_map] <;> omega
  have lT : (decodeS c t).1.length ≤ 1048576 := by
    have := bytesOf_length t
    have := lettersS_len t
    unfold decodeS
    (repeat' split) <;> simp only [List.length_nil, List.length_map] <;> omega
  generalize utf8S A = uA at *
  generalize utf8S B = uB at *
  generalize decodeS c s = eS at *
  generalize decodeS c t = eT at *
  generalize decodeS c (s ++ t) = eST at *
  obtain ⟨X, w1⟩ := eS
  obtain ⟨Y, w2⟩ := eT
  obtain ⟨Z, w3⟩ := eST
  generalize (nameS c).2 = w at *
  dsimp only at *
  refine FR.of q8 (by kernel_rfl) ?_
  unfold c8
  repeat' (first
    | (refine WO.call rfl (lives_FR _) ?_; rintro _ HL ⟨rfl, gL⟩)
    | (refine WO.mvE a rfl ?_)
    | (refine WO.mvE b rfl ?_)
    | (refine WO.mvE n1 rfl ?_)
    | (refine WO.mvE n2 rfl ?_)
    | (refine WO.mvE n3 rfl ?_)
    | (refine WO.mvE x rfl ?_)
    | (refine WO.mvE y rfl ?_)
    | (refine WO.mvE z rfl ?_)
    | (refine WO.mvE p1 rfl ?_)
    | (refine WO.mvE p2 rfl ?_)
    | (refine WO.mvE p3 rfl ?_)
    | (refine WO.bsl (E := encI .i32) (C := []) rfl [] rfl rfl rfl (fun n1 H1 g1 o1 nw1 => ?_); have on1 : Out (encI .i32) 21 HL H1 n1 [] := ⟨g1, o1, nw1⟩; have ra1 := (ra.grows gL).grows g1)
    | (refine WO.appO on1 ra1 rfl (encI_ok _ _) (by simp only [List.length_append, List.length_nil]; omega) (by simp only [List.length_append, List.length_nil]; omega) (fun n2 H2 on2 ap2 => ?_); have rb2 := on2.old (rb.grows gL))
    | (refine WO.appO on2 rb2 rfl (encI_ok _ _) (by simp only [List.length_append, List.length_nil]; omega) (by simp only [List.length_append, List.length_nil]; omega) (fun n3 H3 on3 ap3 => ?_); have rn3 : Row (encI .i32) H3 n3 (A ++ B) := on3.row)
    | (refine WO.call rfl (kC _ n3 rn3) ?_; rintro _ H4 ⟨rfl, g4⟩; have ra4 := (ra.grows gL).grows (on3.g.trans g4))
    | (refine WO.call rfl (kA _ ra4) ?_; rintro _ H5 ⟨rfl, g5⟩; have rb5 := (rb.grows gL).grows (on3.g.trans (g4.trans g5)))
    | (refine WO.call rfl (kB _ rb5) ?_; rintro _ H6 ⟨rfl, g6⟩; have gA := gL.trans (on3.g.trans (g4.trans (g5.trans g6))))
    | (refine WO.sadd rfl rfl (by omega) ?_)
    | (have hh := hd (by assumption); refine WO.call rfl (dS _) ?_; rintro _ H7 ⟨x, rfl, g7, rx⟩; obtain ⟨e1, e2, e3, e4⟩ := hh)
    | (refine WO.call rfl (dT _) ?_; rintro _ H8 ⟨y, rfl, g8, ry⟩)
    | (refine WO.call rfl (dST _) ?_; rintro _ H9 ⟨z, rfl, g9, rz⟩)
    | (refine WO.bsl (E := encI .i32) (C := []) rfl [] rfl rfl rfl (fun p1 H10 g10 o10 nw10 => ?_); have op1 : Out (encI .i32) 21 H9 H10 p1 [] := ⟨g10, o10, nw10⟩; have rx1 := rx.grows (g8.trans (g9.trans g10)))
    | (refine WO.appO op1 rx1 rfl (encI_ok _ _) (by simp only [List.length_append, List.length_nil]; omega) (by simp only [List.length_append, List.length_nil]; omega) (fun p2 H11 op2 ap11 => ?_); have ry2 := op2.old (ry.grows g9))
    | (refine WO.appO op2 ry2 rfl (encI_ok _ _) (by simp only [List.length_append, List.length_nil]; omega) (by simp only [List.length_append, List.length_nil]; omega) (fun p3 H12 op3 ap12 => ?_); have rp3 : Row (encI .i32) H12 p3 Z := (by rw [e4]; exact op3.row))
    | (refine WO.call rfl (l16 _ z p3 Z (op3.old rz) rp3 (by rw [e4, List.length_append]; omega)) ?_; rintro _ H ⟨rfl, hH⟩; obtain rfl := hH.symm)
    | (refine LQ.fin ?_)
    | (refine EQ.fin rfl ?_)
    | (refine WO.mvs rfl ?_)
    | (refine WO.mvp rfl ?_)
    | (refine WO.mvt rfl ?_)
    | (refine WO.mv ?_)
    | (refine W.sreg ?_)
    | (refine W.sdraw ?_)
    | (refine W.reg ?_)
    | (refine W.draw ?_)
    | (refine WO.nil ?_)
    | (refine WO.gU rfl ?_)
    | (refine WO.gT rfl rfl ?_)
    | (refine WO.gF rfl rfl ?_)
    | (refine WO.ext rfl rfl ?_)
    | (refine WO.lenR (by assumption) ?_)
    | (refine WO.add rfl rfl (by first | exact wrOK (by simp only [loK, hiK]; omega) | rfl) ?_)
    | (refine WO.sub rfl rfl (by first | exact wrOK (by simp only [loK, hiK]; omega) | rfl) ?_)
    | (refine WO.lss rfl rfl ?_)
    | (refine WO.leq rfl rfl ?_)
    | (refine WO.gtr rfl rfl ?_)
    | (refine WO.geq rfl rfl ?_)
    | (refine WO.eql rfl rfl ?_)
    | (refine WO.neq rfl rfl ?_)
    | (refine WO.seql rfl rfl ?_)
    | (refine WO.sneq rfl rfl ?_)
    | (refine WO.beql rfl rfl (tb rfl) ?_)
    | (refine WO.bneq rfl rfl (tb rfl) ?_)
    | (refine WO.not rfl ?_)
    | (refine WO.not0 rfl ?_)
    | (refine WO.cvi rfl (kd rfl) (kd rfl) (by first | exact wrOK (by simp only [loK, hiK]; omega) | rfl) ?_)
    | (refine WO.cvs rfl (st rfl) (st rfl) ?_)
    | (refine WO.ix rfl rfl (st rfl) (by first | assumption | omega) (by first | assumption | omega) ?_)
    | (refine WO.slen rfl (st rfl) ?_)
    | (refine WO.iaddr (by assumption) rfl rfl (by first | assumption | omega) (by first | assumption | omega) (fun q hq => ?_))
    | (refine WO.load (by assumption) rfl rfl ?_)
    | (refine WO.loadO rfl (by assumption) rfl rfl ?_)
    | (refine WO.faddrP (by assumption) rfl (fun q hq => ?_))
    | (refine WO.nilckP (by assumption) ?_)
    | (refine WO.nilck rfl ?_)
    | (refine WO.faddr rfl ?_)
    | (refine WO.fld rfl rfl rfl ?_)
    | (refine WO.pickT rfl ?_)
    | (refine WO.pickF rfl ?_)
    | (refine WO.sll rfl rfl (st rfl) (by first | assumption | omega) (by first | assumption | omega) ?_)
    | (refine WO.slh rfl rfl (st rfl) (by first | assumption | omega) (by first | assumption | omega) ?_)
    | (refine WO.slb rfl rfl rfl (st rfl) (by first | assumption | omega) (by first | assumption | omega) (by first | assumption | omega) ?_)
    | (refine WO.mul rfl rfl (by first | exact wrOK (by simp only [loK, hiK]; omega) | rfl) ?_)
    | (refine WO.quo rfl rfl (by first | assumption | omega) (by first | exact wrOK (by simp only [loK, hiK]; omega) | rfl) ?_)
    | (refine WO.rem rfl rfl (by first | assumption | omega) ?_)
    | (refine WO.and rfl rfl ?_)
    | (refine WO.or rfl rfl ?_)
    | (refine WO.xor rfl rfl ?_)
    | (refine WO.shl rfl rfl (by first | assumption | omega) (by simp [IntKind.bits]; rfl) ?_)
    | (refine WO.shr rfl rfl (by first | assumption | omega) (by simp [IntKind.bits]; rfl) ?_)
    | (refine WO.build (C := [_]) rfl ?_)
    | (refine WO.build (C := [_, _]) rfl ?_)
    | (refine WO.build (C := [_, _, _]) rfl ?_)
    | (refine WO.build (C := [_, _, _, _]) rfl ?_)
    | (refine WO.build (C := [_, _, _, _, _]) rfl ?_)
    | (refine WO.build (C := [_, _, _, _, _, _]) rfl ?_)
    | (refine WO.build (C := [_, _, _, _, _, _, _]) rfl ?_)
    | (refine WO.eqnil (by assumption) (fun hn1 hn2 => ?_) ?_)
    | (refine W.condT rfl ?_)
    | (refine W.condF rfl ?_)
    | (refine W.condDT rfl (by first | assumption | omega) ?_)
    | (refine W.condDF rfl (by first | assumption | omega) ?_)
    | (refine W.condD rfl (fun hc => ?_) (fun hc => ?_))
    | (refine WO.gS rfl (fun hc => ?_) (fun hc => ?_) <;> try (exfalso; omega))
    | (refine WO.pickS rfl (fun hc => ?_) (fun hc => ?_) <;> try (exfalso; omega))
    | (refine W.skip ?_)
    | (refine W.block ?_)
    | (refine W.drawA rfl ?_)
    | (refine W.sdrawA rfl ?_)
    | (refine And.intro rfl ?_)
    | (refine W.exit ?_)
    | (refine W.ret ?_)
    | (refine W.seq ?_)
    | (refine W.goto ?_)
    | (refine W.label ?_)
    | (refine SQ.nn ?_)
    | (refine SQ.x ?_)
    | (refine SQ.r ?_)
    | (refine SQ.g ?_)
    | (refine BQ.nn ?_)
    | (refine BQ.x ?_)
    | (refine BQ.r ?_)
    | (refine BQ.g ?_)
    | (refine BQ.y rfl ?_)
    | (refine LQ.x ?_)
    | (refine LQ.r ?_)
    | (refine LQ.g ?_)
    | (refine GQ.nn ?_)
    | (refine GQ.x ?_)
    | (refine GQ.r ?_))
  all_goals first
    | exact absurd rfl (by assumption)
    | exact ⟨rfl, gA.trans (g7.trans (g8.trans (g9.trans op3.g)))⟩
    | exact ⟨rfl, gA⟩
end Go.Proofs.YtmjnlbjnmmmlmaaDoor.AS
end
section
set_option autoImplicit false
namespace Go.Proofs.YtmjnlbjnmmmlmaaDoor.AS
open Go Go.RowKit Go.ChangeShapes Go.WideShapes

/-- An argument's memory as a block of the abstract heap, to be read alone. -/
theorem HR.arg {P : Program} {W : World} {ρ : PM} {h : Heap} (H : HR P W.heap.size W ρ h W) (B off : Nat) (e : TypeId) (sz : Nat) (l : List AV) (hB : B < W.heap.size)
    (hl : ∀ (j : Nat) (x : AV), l[j]? = some x → ∃ v, W.cell? ⟨B, off + j, none⟩ = some v ∧ RV ρ W x v) :
    HR P W.heap.size W (upd ρ h.length 0 ⟨B, off, e, sz, false⟩) (h ++ [⟨0, e, sz, false, l⟩]) W ∧ Ext ρ (upd ρ h.length 0 ⟨B, off, e, sz, false⟩) := by
  have hx : Ext ρ (upd ρ h.length 0 ⟨B, off, e, sz, false⟩) := upd_ext _ (H.fresh _ _ (Nat.le_refl _))
  refine ⟨⟨H.below, H.hbase, ?_, ?_, ?_, H.gl⟩, hx⟩
  · intro b ver hlen
    simp only [List.length_append, List.length_cons, List.length_nil] at hlen
    unfold upd
    rw [if_neg (by omega)]
    exact H.fresh _ _ (by omega)
  · intro b k hbk
    rcases Nat.lt_or_ge b h.length with hlt | hge
    · rw [List.getElem?_append_left hlt] at hbk
      obtain ⟨p, h1, h2, h3, h4, h5, h6, h7, h8⟩ := H.blk b k hbk
      refine ⟨p, hx _ _ _ h1, ?_, h3, h4, h5, h6, fun j x hj => ?_, h8⟩
      · intro v hv
        unfold upd
        rw [if_neg (by omega)]
        exact h2 v hv
      · obtain ⟨v, hv, hr⟩ := h7 j x hj
        exact ⟨v, hv, RV_mono hx (Keep.refl _) _ _ hr⟩
    · have hbe : b = h.length := by
        have := (List.getElem?_eq_some_iff.1 hbk).1
        simp at this
        omega
      subst hbe
      simp at hbk
      subst hbk
      refine ⟨⟨B, off, e, sz, false⟩, upd_same _ _ _ _, ?_, rfl, rfl, rfl, hB, ?_, fun h => by cases h⟩
      · intro v hv
        unfold upd
        rw [if_neg (by simp at hv; omega)]
        exact H.fresh _ _ (Nat.le_refl _)
      · intro j x hj
        obtain ⟨v, hv, hr⟩ := hl j x hj
        exact ⟨v, hv, RV_mono hx (Keep.refl _) _ _ hr⟩
  · intro b b' k k' p p' hbk hbk' hp hp' hrw heq
    have lt_old : ∀ b k p, h[b]? = some k → ρ b k.ver = some p → k.rw = true → W.heap.size ≤ p.blk := by
      intro b k p hb hp hr
      obtain ⟨q, h1, _, _, _, _, _, _, h8⟩ := H.blk b k hb
      rw [hp] at h1; cases h1; exact (h8 hr).1
    rcases Nat.lt_or_ge b h.length with hlt | hge
    · rw [List.getElem?_append_left hlt] at hbk
      unfold upd at hp
      rw [if_neg (by omega)] at hp
      rcases Nat.lt_or_ge b' h.length with hlt' | hge'
      · rw [List.getElem?_append_left hlt'] at hbk'
        unfold upd at hp'
        rw [if_neg (by omega)] at hp'
        exact H.inj b b' k k' p p' hbk hbk' hp hp' hrw heq
      · have hbe : b' = h.length := by
          have := (List.getElem?_eq_some_iff.1 hbk').1
          simp at this
          omega
        subst hbe
        simp at hbk'
        subst hbk'
        rw [upd_same] at hp'
        cases hp'
        have := lt_old b k p hbk hp hrw
        simp only at heq
        omega
    · have hbe : b = h.length := by
        have := (List.getElem?_eq_some_iff.1 hbk).1
        simp at this
        omega
      subst hbe
      simp at hbk
      subst hbk
      cases hrw

/-- Values of a type without memory behind them: their cells, and what is known of them. -/
structure Flat (P : Program) (t : TypeId) (α : Type) (bulk : (H : Type) → DataW H → Nat) where
  cells : α → List Value
  sz : Nat
  size : α → Nat
  wf : α → Prop
  len : ∀ a, (cells a).length = sz
  cellsOf : P.cellsOf t = sz
  opens : ∀ (H : Type) (enc : TypeId × Value → H) (W : World) (fuel : Nat) (cs : List Value) (x : DataW H × List MemPlace), DataW.trod enc P W 0 (fun _ => true) true fuel t cs = some x → ∃ a, cs = cells a ∧ size a ≤ bulk H x.1 ∧ wf a
def sizes {α : Type} (size : α → Nat) : List α → Nat
  | [] => 0
  | a :: l => size a + sizes size l
theorem sizes_append {α : Type} (size : α → Nat) (l r : List α) : sizes size (l ++ r) = sizes size l + sizes size r := by
  induction l with
  | nil => simp [sizes]
  | cons a l ih => simp only [List.cons_append, sizes, ih]; omega
theorem flat_len {α : Type} {cells : α → List Value} {sz : Nat} (h : ∀ a, (cells a).length = sz) : ∀ l : List α, (l.flatMap cells).length = l.length * sz
  | [] => by simp
  | a :: l => by rw [List.flatMap_cons, List.length_append, h, flat_len h l, List.length_cons, Nat.succ_mul]; omega
/-- A slice of such values. -/
theorem open_flat {P : Program} {bulk : (H : Type) → DataW H → Nat} {bulks : (H : Type) → List (DataW H) → Nat} (hb0 : ∀ H, bulks H [] = 0) (hb1 : ∀ H d l, bulks H (d :: l) = bulk H d + bulks H l) (hb2 : ∀ H e s, bulks H e + 1 ≤ bulk H (.slice e s))
    {t e : TypeId} {α : Type} (F : Flat P e α bulk) (hu : P.underlying t = some (.slice e)) {H : Type} {enc : TypeId × Value → H} {W : World} {a : Option Addr} {len cap : Nat} {D : DataW H} {ps : List MemPlace}
    (hD : DataW.Trod enc P W 0 (fun _ => true) true t (.slice a len cap) D ps) :
    ∃ l : List α, len = l.length ∧ len ≤ cap ∧ cap ≤ maxLen ∧ (a = none → len = 0 ∧ cap = 0) ∧ (∀ x, a = some x → ∀ j v, (l.flatMap F.cells)[j]? = some v → W.cell? (x.add j) = some v) ∧ sizes F.size l ≤ bulk H D ∧ ∀ y ∈ l, F.wf y := by
  obtain ⟨fuel, hf⟩ := hD
  rcases DataW.trod_slice hu hf with ⟨hcs, hx⟩ | ⟨x, len', cap', elems, rest, n, rfl, hcs, hx, hb, hl, hm, hlen, hel, hsp, hns⟩
  · simp [Value.cells] at hcs
    obtain ⟨rfl, rfl, rfl⟩ := hcs
    exact ⟨[], rfl, Nat.le_refl _, by simp [maxLen], fun _ => ⟨rfl, rfl⟩, fun x hx => (by cases hx), by simp [sizes], by simp⟩
  · simp [Value.cells] at hcs
    obtain ⟨rfl, rfl, rfl⟩ := hcs
    cases hx
    have key : ∀ m, m ≤ len → ∃ l : List α, l.length = m ∧ (∀ j v, (l.flatMap F.cells)[j]? = some v → W.cell? (x.add j) = some v) ∧ sizes F.size l ≤ bulks H ((elems.take m).map (·.1)) ∧ ∀ y ∈ l, F.wf y := by
      intro m
      induction m with
      | zero => intro _; exact ⟨[], rfl, by simp, by simp [sizes], by simp⟩
      | succ m ih =>
        intro hm'
        obtain ⟨l, hl1, hl2, hl3, hl4⟩ := ih (by omega)
        have hlt : m < elems.length := by omega
        have he := hel m (by omega)
        rw [List.getElem?_eq_getElem hlt, Option.bind_eq_some_iff] at he
        obtain ⟨c, hcs, htr⟩ := he
        obtain ⟨p, hK, hbk, hwf⟩ := F.opens H enc W n c _ htr
        refine ⟨l ++ [p], by simp [hl1], ?_, ?_, ?_⟩
        · intro j v hj
          have hfl := flat_len F.len l
          rw [List.flatMap_append] at hj
          rcases Nat.lt_or_ge j (l.flatMap F.cells).length with hjl | hjl
          · rw [List.getElem?_append_left hjl] at hj
            exact hl2 j v hj
          · rw [List.getElem?_append_right hjl] at hj
            obtain ⟨_, hcl, hce⟩ := World.cells?_some hcs
            simp only [List.flatMap_cons, List.flatMap_nil, List.append_nil] at hj
            rw [← hK] at hj
            have hlt2 : j - (l.flatMap F.cells).length < P.cellsOf e := by rw [← hcl]; exact (List.getElem?_eq_some_iff.1 hj).1
            have := hce _ hlt2
            rw [hj, Addr.add_add, F.cellsOf, hfl, hl1] at this
            rw [hfl, hl1] at hjl
            rw [show m * F.sz + (j - m * F.sz) = j by omega] at this
            exact this
        · rw [List.take_succ_eq_append_getElem hlt, List.map_append, sizes_append]
          have happ : ∀ a b : List (DataW H), bulks H (a ++ b) = bulks H a + bulks H b := by
            intro a b
            induction a with
            | nil => simp [hb0]
            | cons d a ih => simp only [List.cons_append, hb1, ih]; omega
          rw [happ]
          simp only [sizes, List.map_cons, List.map_nil, hb1, hb0]
          omega
        · intro y hy
          rcases List.mem_append.1 hy with h | h
          · exact hl4 y h
          · simp at h; subst h; exact hwf
    obtain ⟨l, hl1, hl2, hl3, hl4⟩ := key len (Nat.le_refl _)
    refine ⟨l, hl1.symm, hl, hm, fun h => (by cases h), fun y hy => ?_, ?_, hl4⟩
    · cases hy; exact hl2
    · rw [List.take_of_length_le (by omega)] at hl3
      exact Nat.le_trans hl3 (Nat.le_trans (Nat.le_succ _) (hb2 H _ _))
/-- A slice's place. -/
theorem okWide_place {P : Program} {t e : TypeId} {W : World} {r : Reach} {base : Nat} {x : Addr} {len cap : Nat} (hu : P.underlying t = some (.slice e)) (h : Value.okWide P W r base t (.slice (some x) len cap)) : ∃ B off, x = ⟨B, off, none⟩ ∧ B < W.heap.size := by
  simp only [Value.okWide, hu, Cell.okWide, Cell.ok, World.has] at h
  obtain ⟨_, _, _, hs, row, cells, hsh, _⟩ := h
  obtain ⟨B, off, spot⟩ := x
  simp only at hs hsh
  subst hs
  refine ⟨B, off, rfl, ?_⟩
  rcases Nat.lt_or_ge B W.heap.size with h | h
  · exact h
  · simp [World.shape?, Array.getElem?_eq_none h] at hsh
/-- An argument that is a slice, in the abstract heap. -/
theorem slice_arg {P : Program} {W : World} {ρ : PM} {h : Heap} (H : HR P W.heap.size W ρ h W) {t e : TypeId} {sz : Nat} {l : List Value} {a : Option Addr} {len cap : Nat} {r : Reach} {base : Nat} (hu : P.underlying t = some (.slice e)) (hok : Value.okWide P W r base t (.slice a len cap))
    (hl : len ≤ cap) (h0 : a = none → len = 0 ∧ cap = 0) (hc : ∀ x, a = some x → ∀ j v, l[j]? = some v → W.cell? (x.add j) = some v) :
    ∃ ρ' x bs, HR P W.heap.size W ρ' (h ++ bs) W ∧ Ext ρ ρ' ∧ RV ρ' W x (.slice a len cap) ∧ ((x = .s (.slice none 0 0) ∧ bs = [] ∧ len = 0) ∨ (x = .sl h.length 0 0 len sz ∧ bs = [⟨0, e, sz, false, l.map .s⟩])) := by
  cases a with
  | none =>
    obtain ⟨rfl, rfl⟩ := h0 rfl
    exact ⟨ρ, .s (.slice none 0 0), [], by simpa using H, Ext.refl _, rfl, Or.inl ⟨rfl, rfl, rfl⟩⟩
  | some x =>
    obtain ⟨B, off, rfl, hB⟩ := okWide_place hu hok
    obtain ⟨H', hx⟩ := H.arg B off e sz (l.map .s) hB (by
      intro j x hj
      rw [List.getElem?_map, Option.map_eq_some_iff] at hj
      obtain ⟨v, hv, rfl⟩ := hj
      refine ⟨v, ?_, rfl⟩
      have := hc _ rfl j v hv
      unfold Addr.add at this
      split at this
      · rename_i h0; subst h0; exact this
      · exact this)
    refine ⟨_, .sl h.length 0 0 len sz, _, H', hx, ⟨_, cap, _, ⟨upd_same _ _ _ _, rfl⟩, rfl, hl, Or.inr rfl, fun h => by cases h⟩, Or.inr ⟨rfl, rfl⟩⟩
/-- A slice's reading has as many elements. -/
theorem slice_len {P : Program} {t e : TypeId} (hu : P.underlying t = some (.slice e)) {H : Type} {enc : TypeId × Value → H} {W : World} {a : Option Addr} {len cap : Nat} {D : DataW H} {ps : List MemPlace}
    (hD : DataW.Trod enc P W 0 (fun _ => true) true t (.slice a len cap) D ps) : len = 0 ∨ ∃ el sp, D = .slice el sp ∧ el.length = len := by
  obtain ⟨fuel, hf⟩ := hD
  rcases DataW.trod_slice hu hf with ⟨hcs, hx⟩ | ⟨x, len', cap', elems, rest, n, rfl, hcs, hx, hb, hl, hm, hlen, hel, hsp, hns⟩
  · simp [Value.cells] at hcs
    exact .inl hcs.2.1
  · simp [Value.cells] at hcs
    obtain ⟨rfl, rfl, rfl⟩ := hcs
    cases hx
    exact .inr ⟨_, _, rfl, by simp [hlen]⟩
end Go.Proofs.YtmjnlbjnmmmlmaaDoor.AS
end
section

end
