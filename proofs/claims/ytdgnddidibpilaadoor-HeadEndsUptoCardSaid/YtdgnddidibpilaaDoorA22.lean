/- Of our own: an abstract machine beside the model, its soundness, and walks of the program in it. -/
import Derived.Test.YtdgnddidibpilaaDoorA20
import Derived.Test.YtdgnddidibpilaaDoorA21
set_option linter.unusedSimpArgs false
set_option linter.unusedVariables false
section
set_option autoImplicit false
set_option maxHeartbeats 1000000
set_option linter.unusedSimpArgs false
set_option linter.unusedVariables false
namespace Go.Proofs.YtdgnddidibpilaaDoor.AS
open Go Go.Proofs Go.RowKit Go.Proofs.YtdgnddidibpilaaDoor.AS.V
theorem cntU_app {p : Int → Bool} {B : List Int} : ∀ {A : List Int}, (∀ c ∈ A, p c = false) → cntU p (A ++ B) = A.length + cntU p B
  | [], _ => by simp
  | a :: A, h => by
    have e := cntU_app (p := p) (B := B) (A := A) (fun c hc => h c (.tail _ hc))
    rw [List.cons_append, cntU, if_neg (by rw [h a (.head _)]; decide), e, List.length_cons]
    omega
theorem cntU_mem {p : Int → Bool} : ∀ {A B : List Int}, A.length ≤ cntU p (A ++ B) → ∀ c ∈ A, p c = false
  | a :: A, B, h, c, hc => by
    rw [List.cons_append, cntU] at h
    by_cases ha : p a = true
    · rw [if_pos ha] at h; simp at h
    · rw [if_neg ha, List.length_cons] at h
      rcases List.mem_cons.1 hc with rfl | hc
      · exact Bool.eq_false_iff.2 ha
      · exact cntU_mem (B := B) (by omega) c hc
theorem has_mem {v : ByteArray} {c : Int} (h : hasB v c = false) : ∀ d ∈ bytesOf v, d ≠ c := by
  have hle := cntU_le (isB c) (bytesOf v)
  have hl := bytesOf_length v
  have h1 : ¬ cntU (isB c) (bytesOf v) < v.size := of_decide_eq_false h
  intro d hd e
  have := cntU_mem (p := isB c) (A := bytesOf v) (B := []) (by rw [List.append_nil]; omega) d hd
  rw [isB, decide_eq_false_iff_not] at this
  exact this e
/-- A line that ends so. -/
theorem line_body {t : ByteArray} {body E rest : List Int} (hE : E = [10] ∨ E = [13, 10]) (hb : bytesOf t = body ++ (E ++ rest)) (h10 : ∀ c ∈ body, c ≠ 10) (h13 : ∀ c ∈ body, c ≠ 13) : bytesOf (lineT t) = body ∧ nxtN t = body.length + E.length := by
  have hl := bytesOf_length t
  rw [hb] at hl
  have hnb : ∀ c ∈ body, isB 10 c = false := fun c hc => decide_eq_false (h10 c hc)
  have key : ∀ n, eolN t = n → n = body.length → bytesOf (lineT t) = body := fun n h1 h2 => by
    unfold lineT
    rw [pfx_bytes t _ (by rw [h1, h2]; simp only [List.length_append] at hl; omega), h1, h2, hb, List.take_left]
  rcases hE with rfl | rfl
  · have hn : nlP t = body.length := by
      unfold nlP
      rw [hb, cntU_app hnb, List.singleton_append, cntU, if_pos (by decide)]; rfl
    simp only [List.length_append, List.length_cons, List.length_nil] at hl
    have he : eolN t = body.length := by
      unfold eolN
      rw [hn]
      refine if_neg (fun e => ?_)
      obtain ⟨_, h1, h2⟩ := e
      rw [show (body.length : Int) - 1 = ((body.length - 1 : Nat) : Int) by omega, bt_get (by omega), nth_eq (by rw [bytesOf_length]; simp; omega)] at h2
      simp only [hb, Int.toNat_natCast] at h2
      rw [List.getElem_append_left (by omega)] at h2
      exact h13 _ (List.getElem_mem _) h2
    refine ⟨key _ he rfl, ?_⟩
    unfold nxtN
    rw [hn, if_pos (by omega)]; rfl
  · have hn : nlP t = body.length + 1 := by
      unfold nlP
      rw [hb, cntU_app hnb, List.cons_append, cntU, if_neg (by decide), List.singleton_append, cntU, if_pos (by decide)]
    simp only [List.length_append, List.length_cons, List.length_nil] at hl
    have he : eolN t = body.length := by
      unfold eolN
      rw [hn, if_pos]
      · omega
      · refine ⟨by omega, by omega, ?_⟩
        rw [show ((body.length + 1 : Nat) : Int) - 1 = ((body.length : Nat) : Int) by omega, bt_get (by omega), nth_eq (by rw [bytesOf_length]; simp; omega)]
        simp only [hb, Int.toNat_natCast]
        rw [List.getElem_append_right (Nat.le_refl _)]
        simp
    refine ⟨key _ he rfl, ?_⟩
    unfold nxtN
    rw [hn, if_pos (by omega)]; rfl
/-- A field's line, its end told. -/
def bdF (f : Fd) : List Int := bytesOf f.1 ++ ([58] ++ (if f.2.size = 0 then [] else 32 :: bytesOf f.2))
def lnE (E : List Int) (f : Fd) : List Int := bdF f ++ E
def rawF (f : Fd) : Fd := (f.1, strOfNums (if f.2.size = 0 then [] else 32 :: bytesOf f.2))
theorem lnF_E (f : Fd) : lnF f = lnE [10] f := by
  unfold lnF lnE bdF
  simp [List.append_assoc]
structure OkF (f : Fd) : Prop where
  ne : 0 < f.1.size
  let' : ∀ c ∈ bytesOf f.1, letB c = true
  tr : trimS blB f.2 = f.2
  n10 : ∀ c ∈ bytesOf f.2, c ≠ 10
  n13 : ∀ c ∈ bytesOf f.2, c ≠ 13
theorem okF_at {f : Fd} (h : okF f = true) : OkF f := by
  unfold okF at h
  simp only [Bool.and_eq_true, decide_eq_true_eq, Bool.not_eq_true'] at h
  obtain ⟨⟨⟨⟨h1, h2⟩, h3⟩, h4⟩, h5⟩ := h
  refine ⟨by omega, fun c hc => ?_, h3, has_mem h4, has_mem h5⟩
  have h6 : f.1.size ≤ letN (f.1 ++ colon) := by
    unfold namN at h2
    split at h2
    · omega
    · omega
  unfold letN at h6
  rw [bytesOf_append] at h6
  have := cntU_mem (p := fun c => !letB c) (A := bytesOf f.1) (B := bytesOf colon) (by rw [bytesOf_length]; exact h6) c hc
  simpa using this
theorem let_rng {c : Int} (h : letB c = true) : 32 < c ∧ c < 127 ∧ c ≠ 58 := of_decide_eq_true h
theorem bd_no {f : Fd} (k : OkF f) : (∀ c ∈ bdF f, c ≠ 10) ∧ ∀ c ∈ bdF f, c ≠ 13 := by
  have key : ∀ c ∈ bdF f, c ≠ 10 ∧ c ≠ 13 := by
    intro c hc
    unfold bdF at hc
    rcases List.mem_append.1 hc with h | h
    · have := let_rng (k.let' c h); exact ⟨by omega, by omega⟩
    · rcases List.mem_append.1 h with h | h
      · rw [List.mem_singleton.1 h]; decide
      · split at h
        · cases h
        · rcases List.mem_cons.1 h with rfl | h
          · decide
          · exact ⟨k.n10 c h, k.n13 c h⟩
  exact ⟨fun c hc => (key c hc).1, fun c hc => (key c hc).2⟩
/-- What a field's line reads as. -/
theorem bd_read {f : Fd} (k : OkF f) {ln : ByteArray} (hb : bytesOf ln = bdF f) : namN ln = f.1.size ∧ blB (bt ln 0) = false ∧ pfx ln f.1.size = f.1 ∧ sfx ln (f.1.size + 1) = (rawF f).2 ∧ ln.size ≠ 0 := by
  have hl := bytesOf_length ln
  have hn := k.ne
  have hl1 := bytesOf_length f.1
  rw [hb] at hl
  unfold bdF at hb hl
  rw [List.length_append, List.length_append, List.length_singleton] at hl
  have hlet : letN ln = f.1.size := by
    unfold letN
    rw [hb, cntU_app (fun c hc => by rw [k.let' c hc]; rfl), List.singleton_append, cntU, if_pos (by decide), hl1]; rfl
  have h58 : bt ln (f.1.size : Int) = 58 := by
    rw [bt_get (by omega), nth_eq (by rw [bytesOf_length]; simp; omega)]
    simp only [hb, Int.toNat_natCast]
    rw [List.getElem_append_right (by omega)]
    simp [hl1]
  refine ⟨?_, ?_, ?_, ?_, by omega⟩
  · unfold namN
    rw [hlet, if_pos ⟨by omega, h58⟩]
  · have h0 : bt ln ((0 : Nat) : Int) ∈ bytesOf f.1 := by
      rw [bt_get (by omega), nth_eq (by rw [bytesOf_length]; simp; omega)]
      simp only [hb, Int.toNat_natCast]
      rw [List.getElem_append_left (by omega)]
      exact List.getElem_mem _
    have := let_rng (k.let' _ h0)
    exact decide_eq_false (fun e => by
      have e' : bt ln ((0 : Nat) : Int) = 32 ∨ bt ln ((0 : Nat) : Int) = 9 := e
      omega)
  · apply bytesOf_inj
    rw [pfx_bytes _ _ (by omega), hb, List.take_left' hl1]
  · apply bytesOf_inj
    rw [sfx_bytes, hb, ← List.append_assoc, List.drop_left' (by simp; omega)]
    unfold rawF
    simp only
    rw [bytesOf_strOf]
    intro c hc
    split at hc
    · cases hc
    · rcases List.mem_cons.1 hc with rfl | hc
      · decide
      · exact bytesOf_range _ c hc
/-- A raw value, trimmed. -/
theorem raw_trim {f : Fd} (k : OkF f) : tfF (rawF f) = f := by
  unfold tfF rawF
  simp only
  by_cases hz : f.2.size = 0
  · rw [if_pos hz]
    have e : f.2 = strOfNums [] := bytesOf_inj (by rw [List.length_eq_zero_iff.1 ((bytesOf_length f.2).trans hz)]; rfl)
    have h2 := k.tr
    rw [← e, h2]
  · rw [if_neg hz]
    obtain ⟨w, hw⟩ : ∃ w, strOfNums (32 :: bytesOf f.2) = w := ⟨_, rfl⟩
    have hr : ∀ c ∈ (32 :: bytesOf f.2), 0 ≤ c ∧ c ≤ 255 := fun c hc => by
      rcases List.mem_cons.1 hc with rfl | hc
      · decide
      · exact bytesOf_range _ c hc
    have hbw : bytesOf w = 32 :: bytesOf f.2 := by rw [← hw, bytesOf_strOf hr]
    have hwz : w.size = f.2.size + 1 := by rw [← bytesOf_length w, hbw, List.length_cons, bytesOf_length]
    rw [hw]
    -- the value's own ends are no blanks
    have htr := k.tr
    have hRL := trR_le blB f.2
    have hsz1 : (trimS blB f.2).size = f.2.size := by rw [htr]
    have hpz := pfx_size f.2 _ hRL
    have hLL := trL_le blB (pfx f.2 (trR blB f.2))
    unfold trimS at hsz1
    rw [sfx_size, hpz] at hsz1
    rw [hpz] at hLL
    have hR : trR blB f.2 = f.2.size := by omega
    have hL0 : trL blB (pfx f.2 (trR blB f.2)) = 0 := by omega
    rw [hR, pfx_all] at hL0
    have b1 := (trR_at blB f.2).2 (by omega)
    rw [hR] at b1
    have b0 := (trL_at blB f.2).2 (by omega)
    rw [hL0] at b0
    have hbt : ∀ j : Nat, j < f.2.size → bt w ((j + 1 : Nat) : Int) = bt f.2 (j : Int) := fun j hj => by
      rw [bt_get (by omega), bt_get hj, nth_eq (by rw [bytesOf_length]; simp; omega), nth_eq (by rw [bytesOf_length]; simp; omega)]
      simp only [hbw, Int.toNat_natCast, List.getElem_cons_succ]
    have hw0 : bt w ((0 : Nat) : Int) = 32 := by
      rw [bt_get (by omega), nth_eq (by rw [bytesOf_length]; simp; omega)]
      simp only [hbw, Int.toNat_natCast, List.getElem_cons_zero]
    have e1 : trR blB w = w.size := trR_eq (Nat.le_refl _) (fun j h1 h2 => absurd h2 (by omega)) (fun h => by
      rw [show (w.size : Int) - 1 = ((f.2.size - 1 + 1 : Nat) : Int) by omega, hbt _ (by omega), show ((f.2.size - 1 : Nat) : Int) = (f.2.size : Int) - 1 by omega]
      exact b1)
    have e2 : trL blB w = 1 := trL_eq (by omega) (fun j hj => by
      obtain rfl : j = 0 := by omega
      rw [hw0]; rfl) (fun h => by
      rw [hbt 0 (by omega)]; exact b0)
    have : trimS blB w = f.2 := by
      unfold trimS
      rw [e1, pfx_all, e2]
      apply bytesOf_inj
      rw [sfx_bytes, hbw, List.drop_one, List.tail_cons]
    rw [this]
theorem parse_text {E : List Int} {L : List Fd} {s : ByteArray} {B : List Int} (hE : E = [10] ∨ E = [13, 10]) (hok : ∀ f ∈ L, OkF f) (hlen : L.length ≤ 1024) (hs : bytesOf s = L.flatMap (lnE E) ++ (E ++ B)) : parseS s = (L, ((L.flatMap (lnE E) ++ E).length : Int)) := by
  have hE0 : 0 < E.length := by rcases hE with rfl | rfl <;> decide
  have hsz := bytesOf_length s
  rw [hs, List.length_append, List.length_append] at hsz
  have key : ∀ n i : Nat, i + n = L.length → ∀ res, PrI s res ((L.take i).flatMap (lnE E)).length ((L.take i).map rawF) → res = (L.map rawF, (L.flatMap (lnE E) ++ E).length) := by
    intro n
    induction n with
    | zero =>
      intro i hi res H
      rw [List.take_of_length_le (by omega)] at H
      have hb : bytesOf (sfx s (L.flatMap (lnE E)).length) = [] ++ (E ++ B) := by rw [sfx_bytes, hs, List.drop_left]; rfl
      obtain ⟨h1, h2⟩ := line_body hE hb (fun c hc => by cases hc) (fun c hc => by cases hc)
      have h3 := bytesOf_length (lineT (sfx s (L.flatMap (lnE E)).length))
      rw [h1] at h3
      rw [H.e2 (by omega) h3.symm, h2, List.length_append]
      simp
    | succ n ih =>
      intro i hi res H
      have hlt : i < L.length := by omega
      have hL : L.flatMap (lnE E) = (L.take i).flatMap (lnE E) ++ (lnE E L[i] ++ (L.drop (i + 1)).flatMap (lnE E)) := by
        have e : L = L.take i ++ (L[i] :: L.drop (i + 1)) := by rw [← List.drop_eq_getElem_cons hlt, List.take_append_drop]
        have := congrArg (fun X => X.flatMap (lnE E)) e
        simpa only [List.flatMap_append, List.flatMap_cons] using this
      have k := hok _ (List.getElem_mem hlt)
      have hT : (L.take (i + 1)).flatMap (lnE E) = (L.take i).flatMap (lnE E) ++ lnE E L[i] := by
        rw [List.take_succ_eq_append_getElem hlt, List.flatMap_append]; simp
      have hT2 : (L.take (i + 1)).map rawF = (L.take i).map rawF ++ [rawF L[i]] := by
        rw [List.take_succ_eq_append_getElem hlt, List.map_append]; rfl
      generalize L[i] = f at *
      have hlen2 := congrArg List.length hL
      generalize (L.take i).flatMap (lnE E) = A at *
      have hb : bytesOf (sfx s A.length) = bdF f ++ (E ++ ((L.drop (i + 1)).flatMap (lnE E) ++ (E ++ B))) := by
        rw [sfx_bytes, hs, hL]
        unfold lnE
        simp only [List.append_assoc]
        rw [List.drop_left]
      obtain ⟨n10, n13⟩ := bd_no k
      obtain ⟨h1, h2⟩ := line_body hE hb n10 n13
      obtain ⟨r1, r2, r3, r4, r5⟩ := bd_read k h1
      have hll : (lnE E f).length = (bdF f).length + E.length := by unfold lnE; rw [List.length_append]
      rw [List.length_append, List.length_append] at hlen2
      have H2 := H.nm (by omega) r5 (fun e => by rw [r2] at e; cases e.1) (by rw [r1]; exact k.ne)
      rw [r1, r3, r4, h2] at H2
      refine ih (i + 1) (by omega) res ?_
      rw [hT, hT2, List.length_append, hll]
      exact H2
  have := key L.length 0 (by omega) _ (PrI.ini s)
  unfold parseS
  rw [this]
  simp only
  rw [List.take_of_length_le (by rw [List.length_map]; exact hlen), List.map_map]
  congr 1
  calc L.map (tfF ∘ rawF) = L.map id := List.map_congr_left (fun f hf => raw_trim (hok f hf))
    _ = L := List.map_id L
end Go.Proofs.YtdgnddidibpilaaDoor.AS
end
section
set_option autoImplicit false
set_option maxHeartbeats 1000000
set_option linter.unusedSimpArgs false
set_option linter.unusedVariables false
namespace Go.Proofs.YtdgnddidibpilaaDoor.AS
open Go Go.Proofs Go.RowKit Go.Proofs.YtdgnddidibpilaaDoor.AS.V
/-- As many as a field's line has bytes, or more. -/
def gfF (f : Fd) : List AV := List.replicate (f.1.size + f.2.size + 3) AV.any
def tot (R : List Fd) : Nat := (R.flatMap gfF).length
theorem tot_snoc (R : List Fd) (x : Fd) : tot (R ++ [x]) = tot R + (x.1.size + x.2.size + 3) := by
  unfold tot gfF
  simp [List.flatMap_append]
theorem tot_add {R : List Fd} (line : ByteArray) (h : 0 < R.length) : tot (addL R line) = tot R + line.size := by
  have h1 := set_flat (f := gfF) R (R.length - 1) ((nth R ((R.length - 1 : Nat) : Int)).1, (nth R ((R.length - 1 : Nat) : Int)).2 ++ line) (by omega)
  have h2 := get_flat (f := gfF) R (R.length - 1) (by omega)
  unfold tot addL
  rw [h1, h2]
  generalize nth R ((R.length - 1 : Nat) : Int) = f
  unfold gfF
  simp only [List.length_append, List.length_replicate, ByteArray.size_append]
  omega
theorem trim_le (s : ByteArray) : (trimS blB s).size ≤ s.size := by
  unfold trimS
  rw [sfx_size]
  have := trR_le blB s
  have := pfx_size s _ this
  omega
theorem tot_cons (f : Fd) (R : List Fd) : tot (f :: R) = (f.1.size + f.2.size + 3) + tot R := by
  unfold tot
  rw [List.flatMap_cons, List.length_append]
  unfold gfF
  rw [List.length_replicate]
theorem tot_lines (R : List Fd) : ∀ n : Nat, (((R.take n).map tfF).flatMap lnF).length ≤ tot R := by
  induction R with
  | nil => intro n; rw [List.take_nil]; exact Nat.le_refl _
  | cons f R ih =>
    intro n
    cases n with
    | zero => rw [List.take_zero]; exact Nat.zero_le _
    | succ n =>
      have ih := ih n
      have h1 := ln_len (tfF f)
      have h2 : (tfF f).1.size = f.1.size := by simp only [tfF]
      have h3 : (tfF f).2.size ≤ f.2.size := by simp only [tfF]; exact trim_le f.2
      have h4 := tot_cons f R
      rw [List.take_succ_cons, List.map_cons, List.flatMap_cons, List.length_append, h4]
      generalize (lnF (tfF f)).length = a at *
      generalize (((R.take n).map tfF).flatMap lnF).length = b at *
      omega
theorem eolN_le' (s : ByteArray) : eolN s ≤ nxtN s ∧ eolN s ≤ s.size := by
  have := nlP_le s
  unfold eolN nxtN
  split <;> split <;> omega
theorem namN_lt' {s : ByteArray} (h : 0 < namN s) : namN s < s.size := by
  unfold namN at *
  split at h
  · rename_i e; rw [if_pos e]; exact e.1
  · omega
theorem prs_tot (s : ByteArray) : ∀ (f k : Nat) (R : List Fd), k ≤ s.size → tot R ≤ 2 * k → (prs s f k R).2 ≤ s.size ∧ tot (prs s f k R).1 ≤ 2 * s.size
  | 0, k, R, hk, hR => ⟨hk, by show tot R ≤ _; omega⟩
  | f + 1, k, R, hk, hR => by
    rw [prs]
    by_cases h1 : s.size ≤ k
    · rw [if_pos h1]; exact ⟨hk, by simp only; omega⟩
    rw [if_neg h1]
    have hnx := PrI.nx (s := s) (k := k) (by omega)
    have he := eolN_le' (sfx s k)
    have hl : (lineT (sfx s k)).size = eolN (sfx s k) := pfx_size _ _ he.2
    by_cases h2 : (lineT (sfx s k)).size = 0
    · rw [if_pos h2]; exact ⟨hnx.2, by simp only; omega⟩
    rw [if_neg h2]
    split
    · rename_i h3
      exact prs_tot s f _ _ hnx.2 (by rw [tot_add _ h3.2]; omega)
    · split
      · rename_i h4
        have hn := namN_lt' h4
        refine prs_tot s f _ _ hnx.2 ?_
        rw [tot_snoc]
        simp only
        rw [pfx_size _ _ (by omega), sfx_size]
        omega
      · exact ⟨hk, by simp only; omega⟩
theorem parse_bd (s : ByteArray) : 0 ≤ (parseS s).2 ∧ (parseS s).2 ≤ (s.size : Int) ∧ (parseS s).1.length ≤ 1024 ∧ ((parseS s).1.flatMap lnF).length ≤ 2 * s.size := by
  obtain ⟨h1, h2⟩ := prs_tot s (s.size + 1) 0 [] (Nat.zero_le _) (by simp [tot])
  unfold parseS
  refine ⟨by simp only; omega, by simp only; omega, ?_, ?_⟩
  · simp only [List.length_map, List.length_take]; omega
  · exact Nat.le_trans (tot_lines _ _) h2
theorem lnE_range (E : List Int) (hE : ∀ c ∈ E, 0 ≤ c ∧ c ≤ 255) (f : Fd) : ∀ c ∈ lnE E f, 0 ≤ c ∧ c ≤ 255 := by
  intro c hc
  unfold lnE bdF at hc
  rcases List.mem_append.1 hc with h | h
  · rcases List.mem_append.1 h with h | h
    · exact bytesOf_range _ c h
    · rcases List.mem_append.1 h with h | h
      · rw [List.mem_singleton.1 h]; decide
      · split at h
        · cases h
        · rcases List.mem_cons.1 h with rfl | h
          · decide
          · exact bytesOf_range _ c h
  · exact hE c h
theorem flat_E (L : List Fd) : L.flatMap lnF = L.flatMap (lnE [10]) := by
  rw [show lnF = lnE [10] from funext lnF_E]
theorem text_bytes (L : List Fd) (E : List Int) (hE : ∀ c ∈ E, 0 ≤ c ∧ c ≤ 255) : bytesOf (strOfNums (L.flatMap (lnE E) ++ E)) = L.flatMap (lnE E) ++ E := bytesOf_strOf fun c hc => by
  rcases List.mem_append.1 hc with h | h
  · obtain ⟨f, _, h⟩ := List.mem_flatMap.1 h
    exact lnE_range E hE f c h
  · exact hE c h
theorem write_ok {L : List Fd} (h : (writeS L).2 = 0) : (∀ f ∈ L, OkF f) ∧ L.length ≤ 1024 ∧ (writeS L).1 = strOfNums (L.flatMap (lnE [10]) ++ [10]) := by
  unfold writeS at *
  by_cases h1 : L.all okF = true
  · rw [if_pos h1] at h ⊢
    by_cases h2 : 1024 < L.length
    · rw [if_pos h2] at h; exact absurd h (by decide)
    · rw [if_neg h2] at h ⊢
      exact ⟨fun f hf => okF_at (List.all_eq_true.1 h1 f hf), by omega, by rw [flat_E]⟩
  · rw [if_neg h1] at h; exact absurd h (by decide)
/-- What is written is parsed, whatever stands behind it. -/
theorem back_text {L : List Fd} {w b : ByteArray} (h : (writeS L).2 = 0) (hw : (writeS L).1 = w) : parseS (w ++ b) = (L, (w.size : Int)) := by
  obtain ⟨h1, h2, h3⟩ := write_ok h
  rw [hw] at h3
  have hb := text_bytes L [10] (by decide)
  rw [← h3] at hb
  have := parse_text (E := [10]) (L := L) (s := w ++ b) (B := bytesOf b) (.inl rfl) h1 h2 (by rw [bytesOf_append, hb, List.append_assoc])
  rw [this, ← hb, bytesOf_length]
theorem write_len (L : List Fd) : (writeS L).1.size ≤ (L.flatMap lnF).length + 1 := by
  unfold writeS
  split
  · split
    · exact Nat.zero_le _
    · rw [strOfNums_size, List.length_append]; exact Nat.le_refl _
  · exact Nat.zero_le _
theorem write_ne {L : List Fd} (h : (writeS L).2 ≠ 0) : (writeS L).1 = ⟨#[]⟩ := by
  unfold writeS at *
  split
  · rename_i h1
    rw [if_pos h1] at h
    split
    · rfl
    · rename_i h2
      rw [if_neg h2] at h
      exact absurd rfl h
  · rfl
/-- Carriage returns ahead of line feeds. -/
def crl (B : List Int) : List Int := B.flatMap fun c => if c = 10 then [13, 10] else [c]
theorem crl_no {B : List Int} (h : ∀ c ∈ B, c ≠ 10) : crl B = B := by
  unfold crl
  induction B with
  | nil => rfl
  | cons b B ih =>
    rw [List.flatMap_cons, if_neg (h b (.head _)), ih (fun c hc => h c (.tail _ hc))]; rfl
theorem crl_text {L : List Fd} (h : ∀ f ∈ L, OkF f) : crl (L.flatMap (lnE [10]) ++ [10]) = L.flatMap (lnE [13, 10]) ++ [13, 10] := by
  have happ : ∀ A B, crl (A ++ B) = crl A ++ crl B := fun A B => List.flatMap_append
  rw [happ]
  congr 1
  induction L with
  | nil => rfl
  | cons f L ih =>
    rw [List.flatMap_cons, List.flatMap_cons, happ, ih (fun g hg => h g (.tail _ hg))]
    congr 1
    unfold lnE
    rw [happ, crl_no (bd_no (h f (.head _))).1]
    rfl
theorem ends_text {L : List Fd} {w b : ByteArray} (h : (writeS L).2 = 0) (hw : (writeS L).1 = w) : parseS (strOfNums (crl (bytesOf w)) ++ b) = (L, ((crl (bytesOf w)).length : Int)) := by
  obtain ⟨h1, h2, h3⟩ := write_ok h
  rw [hw] at h3
  have hb := text_bytes L [10] (by decide)
  rw [← h3] at hb
  rw [hb, crl_text h1]
  exact parse_text (E := [13, 10]) (L := L) (B := bytesOf b) (.inr rfl) h1 h2 (by rw [bytesOf_append, text_bytes L [13, 10] (by decide), List.append_assoc])
end Go.Proofs.YtdgnddidibpilaaDoor.AS
end
section
set_option autoImplicit false
set_option maxRecDepth 100000
set_option maxHeartbeats 4000000
set_option linter.unusedSimpArgs false
set_option linter.unusedVariables false
namespace Go.Proofs.YtdgnddidibpilaaDoor.AS
open Go Go.Proofs Go.RowKit Go.Proofs.YtdgnddidibpilaaDoor.AS.V

theorem law5_FR (h : Heap) (l : AV) (L : List Fd) (body : ByteArray) (r : Row encF h l L) (hL : L.length ≤ 1048576) (hT : (L.flatMap lnF).length ≤ 4194304) (hb : body.size ≤ 1048576) : FR Tryd.prog TT 5 [l, .s (.string body)] h fun x H => x = .s (.bool true) ∧ Grows h H := by
  have kW := fun hp (rp : Row encF hp l L) => write11_FR hp l L rp hL (by omega)
  have hwl := write_len L
  obtain ⟨wt, ww, hws⟩ : ∃ a b, writeS L = (a, b) := ⟨_, _, rfl⟩
  have hbk := fun (e : ww = 0) => back_text (L := L) (w := wt) (b := body) (by rw [hws]; exact e) (by rw [hws])
  simp only [hws] at kW hwl
  have hsz : (wt ++ body).size = wt.size + body.size := ByteArray.size_append
  have kP := fun (e : ww = 0) hp => parse9_FR hp (wt ++ body) (by omega)
  have kP : ww = 0 → ∀ hp, FR Tryd.prog TT 9 [.s (.string (wt ++ body))] hp fun x H => ∃ out, x = .tp [out, .s (.int .i64 wt.size)] ∧ Out encF 41 hp H out L := fun e hp => by
    have := kP e hp
    rwa [hbk e] at this
  clear hbk
  have kB := fun hp => parse9_FR hp body (by omega)
  obtain ⟨b1, b2, b3, b4⟩ := parse_bd body
  obtain ⟨M, pat, hps⟩ : ∃ a b, parseS body = (a, b) := ⟨_, _, rfl⟩
  simp only [hps] at kB b1 b2 b3 b4
  have kM := fun hp a (rp : Row encF hp a M) => write11_FR hp a M rp (by omega) (by omega)
  have hml := write_len M
  obtain ⟨mt, mw, hms⟩ : ∃ a b, writeS M = (a, b) := ⟨_, _, rfl⟩
  have hbm := fun (e : mw = 0) => back_text (L := M) (w := mt) (b := ⟨#[]⟩) (by rw [hms]; exact e) (by rw [hms])
  simp only [hms] at kM hml
  have kA := fun (e : mw = 0) hp => parse9_FR hp mt (by omega)
  have kA : mw = 0 → ∀ hp, FR Tryd.prog TT 9 [.s (.string mt)] hp fun x H => ∃ out, x = .tp [out, .s (.int .i64 mt.size)] ∧ Out encF 41 hp H out M := fun e hp => by
    have k1 := kA e hp
    have k2 := hbm e
    rw [app_nil] at k2
    rwa [k2] at k1
  clear hbm hws hps hms
  refine FR.of q5 (by kernel_rfl) ?_
  unfold c5
  repeat' (first
    | (refine WO.mvE l rfl ?_)
    | (refine WO.mvE o1 rfl ?_)
    | (refine WO.mvE o2 rfl ?_)
    | (refine WO.mvE o3 rfl ?_)
    | (refine LQ.fin ?_)
    | (refine EQ.fin rfl ?_)
    | (refine EQ.finN rfl ?_)
    | (refine WO.mvs rfl ?_)
    | (refine WO.mvp rfl ?_)
    | (refine WO.mvt rfl ?_)
    | (refine WO.mv ?_)
    | (refine W.sreg ?_)
    | (refine W.sdraw ?_)
    | (refine W.reg ?_)
    | (refine W.draw ?_)
    | (refine WO.nil ?_)
    | (refine WO.gU rfl ?_)
    | (refine WO.gT rfl rfl ?_)
    | (refine WO.gF rfl rfl ?_)
    | (refine WO.ext rfl rfl ?_)
    | (refine WO.lenR (by assumption) ?_)
    | (refine WO.add rfl rfl (by first | exact wrOK (by simp only [loK, hiK]; omega) | rfl) ?_)
    | (refine WO.sub rfl rfl (by first | exact wrOK (by simp only [loK, hiK]; omega) | rfl) ?_)
    | (refine WO.lss rfl rfl ?_)
    | (refine WO.leq rfl rfl ?_)
    | (refine WO.gtr rfl rfl ?_)
    | (refine WO.geq rfl rfl ?_)
    | (refine WO.eql rfl rfl ?_)
    | (refine WO.neq rfl rfl ?_)
    | (refine WO.seql rfl rfl ?_)
    | (refine WO.sneq rfl rfl ?_)
    | (refine WO.beql rfl rfl (tb rfl) ?_)
    | (refine WO.bneq rfl rfl (tb rfl) ?_)
    | (refine WO.not rfl ?_)
    | (refine WO.not0 rfl ?_)
    | (refine WO.cvi rfl (kd rfl) (kd rfl) (by first | exact wrOK (by simp only [loK, hiK]; omega) | rfl) ?_)
    | (refine WO.cvs rfl (st rfl) (st rfl) ?_)
    | (refine WO.ix rfl rfl (st rfl) (by first | assumption | omega) (by first | assumption | omega) ?_)
    | (refine WO.slen rfl (st rfl) ?_)
    | (refine WO.iaddr (by assumption) rfl rfl (by first | assumption | omega) (by first | assumption | omega) (fun q hq => ?_))
    | (refine WO.load (by assumption) rfl rfl ?_)
    | (refine WO.loadO rfl (by assumption) rfl rfl ?_)
    | (refine WO.faddrP (by assumption) rfl (fun q hq => ?_))
    | (refine WO.nilckP (by assumption) ?_)
    | (refine WO.nilck rfl ?_)
    | (refine WO.faddr rfl ?_)
    | (refine WO.fld rfl rfl rfl ?_)
    | (refine WO.pickT rfl ?_)
    | (refine WO.pickF rfl ?_)
    | (refine WO.sll rfl rfl (st rfl) (by first | assumption | omega) (by first | assumption | omega) ?_)
    | (refine WO.slh rfl rfl (st rfl) (by first | assumption | omega) (by first | assumption | omega) ?_)
    | (refine WO.slb rfl rfl rfl (st rfl) (by first | assumption | omega) (by first | assumption | omega) (by first | assumption | omega) ?_)
    | (refine WO.mul rfl rfl (by first | exact wrOK (by simp only [loK, hiK]; omega) | rfl) ?_)
    | (refine WO.quo rfl rfl (by first | assumption | omega) (by first | exact wrOK (by simp only [loK, hiK]; omega) | rfl) ?_)
    | (refine WO.rem rfl rfl (by first | assumption | omega) ?_)
    | (refine WO.and rfl rfl ?_)
    | (refine WO.or rfl rfl ?_)
    | (refine WO.xor rfl rfl ?_)
    | (refine WO.shl rfl rfl (by first | assumption | omega) (by simp [IntKind.bits]; rfl) ?_)
    | (refine WO.shr rfl rfl (by first | assumption | omega) (by simp [IntKind.bits]; rfl) ?_)
    | (refine WO.build (C := [_]) rfl ?_)
    | (refine WO.build (C := [_, _]) rfl ?_)
    | (refine WO.build (C := [_, _, _]) rfl ?_)
    | (refine WO.build (C := [_, _, _, _]) rfl ?_)
    | (refine WO.build (C := [_, _, _, _, _]) rfl ?_)
    | (refine WO.build (C := [_, _, _, _, _, _]) rfl ?_)
    | (refine WO.build (C := [_, _, _, _, _, _, _]) rfl ?_)
    | (refine WO.eqnil (by assumption) (fun hn1 hn2 => ?_) ?_)
    | (refine W.condT rfl ?_)
    | (refine W.condF rfl ?_)
    | (refine W.condDT rfl (by first | assumption | omega) ?_)
    | (refine W.condDF rfl (by first | assumption | omega) ?_)
    | (refine W.condD rfl (fun hc => ?_) (fun hc => ?_))
    | (refine WO.gS rfl (fun hc => ?_) (fun hc => ?_) <;> try (exfalso; omega))
    | (refine WO.pickS rfl (fun hc => ?_) (fun hc => ?_) <;> try (exfalso; omega))
    | (refine W.skip ?_)
    | (refine W.block ?_)
    | (refine W.drawA rfl ?_)
    | (refine W.sdrawA rfl ?_)
    | (refine And.intro rfl ?_)
    | (refine W.exit ?_)
    | (refine W.ret ?_)
    | (refine W.seq ?_)
    | (refine W.goto ?_)
    | (refine W.label ?_)
    | (refine SQ.nn ?_)
    | (refine SQ.x ?_)
    | (refine SQ.r ?_)
    | (refine SQ.g ?_)
    | (refine BQ.nn ?_)
    | (refine BQ.x ?_)
    | (refine BQ.r ?_)
    | (refine BQ.g ?_)
    | (refine BQ.y rfl ?_)
    | (refine LQ.x ?_)
    | (refine LQ.r ?_)
    | (refine LQ.g ?_)
    | (refine GQ.nn ?_)
    | (refine GQ.x ?_)
    | (refine GQ.r ?_)
    | (refine WO.call rfl (lives_FR _) ?_; rintro _ H1 ⟨rfl, g1⟩; have r1 := r.grows g1)
    | (refine WO.call rfl (kW _ r1) ?_; rintro _ H2 ⟨rfl, g2⟩; have r2 := r1.grows g2; have gA := g1.trans g2)
    | (refine WO.sadd rfl rfl (by first | omega | (rw [hsz]; omega) | (simp only [hsz, hcz]; omega)) ?_)
    | (refine WO.call rfl (kP (by assumption) _) ?_; rintro _ H3 ⟨o1, rfl, q1⟩; have r3 := r2.grows q1.g; have gA := gA.trans q1.g)
    | (refine WO.call rfl (l14 _ o1 l _ q1.row r3 (by omega)) ?_; rintro _ H ⟨rfl, hH⟩; obtain rfl := hH.symm)
    | (refine WO.call rfl (kB _) ?_; rintro _ H4 ⟨o2, rfl, q2⟩; have gA := gA.trans q2.g)
    | (refine WO.call rfl (kM _ o2 q2.row) ?_; rintro _ H5 ⟨rfl, g5⟩; have q5 := q2.row.grows g5; have gA := gA.trans g5)
    | (refine WO.call rfl (kA (by assumption) _) ?_; rintro _ H6 ⟨o3, rfl, q6⟩; have q7 := q5.grows q6.g; have gA := gA.trans q6.g)
    | (refine WO.call rfl (kA (by omega) _) ?_; rintro _ H6 ⟨o3, rfl, q6⟩; have q7 := q5.grows q6.g; have gA := gA.trans q6.g)
    | (refine WO.call rfl (l14 _ o3 o2 _ q6.row q7 (by omega)) ?_; rintro _ H ⟨rfl, hH⟩; obtain rfl := hH.symm))
  all_goals first
    | (exfalso; exact hc rfl)
    | (exfalso; omega)
    | exact ⟨congrArg (fun b : Bool => AV.s (.bool b)) (decide_eq_true rfl), gA⟩
    | exact ⟨congrArg (fun b : Bool => AV.s (.bool b)) (decide_eq_true (by omega)), gA⟩
    | exact ⟨rfl, gA⟩
theorem law6_FR (h : Heap) (l : AV) (L : List Fd) (body : ByteArray) (r : Row encF h l L) (hL : L.length ≤ 1048576) (hT : (L.flatMap lnF).length ≤ 3145728) (hb : body.size ≤ 1048576) : FR Tryd.prog TT 6 [l, .s (.string body)] h fun x H => x = .s (.bool true) ∧ Grows h H := by
  have kW := fun hp (rp : Row encF hp l L) => write11_FR hp l L rp hL (by omega)
  have hwl := write_len L
  have hwn := write_ne (L := L)
  obtain ⟨wt, ww, hws⟩ : ∃ a b, writeS L = (a, b) := ⟨_, _, rfl⟩
  have hbk := fun (e : ww = 0) => ends_text (L := L) (w := wt) (b := body) (by rw [hws]; exact e) (by rw [hws])
  simp only [hws] at kW hwl hwn
  have hcl : (crl (bytesOf wt)).length ≤ 2 * wt.size := by
    rw [← bytesOf_length wt]
    generalize bytesOf wt = B
    induction B with
    | nil => exact Nat.le_refl _
    | cons b B ih =>
      unfold crl at *
      rw [List.flatMap_cons, List.length_append, List.length_cons]
      split <;> simp only [List.length_cons, List.length_nil] <;> omega
  have hcz : (strOfNums (crl (bytesOf wt))).size = (crl (bytesOf wt)).length := strOfNums_size _
  have hlen := bytesOf_length wt
  have htk := fun (i : Nat) (hi : i < wt.size) => (show crl ((bytesOf wt).take (i + 1)) = crl ((bytesOf wt).take i) ++ (if bt wt (i : Int) = 10 then [13, 10] else [bt wt (i : Int)]) from by
    rw [take_snoc (by omega), ← bt_get hi]
    unfold crl
    rw [List.flatMap_append]
    simp)
  have hpl := fun (i : Nat) => (show (crl ((bytesOf wt).take i)).length ≤ 2 * wt.size from by
    refine Nat.le_trans ?_ hcl
    have e : crl (bytesOf wt) = crl ((bytesOf wt).take i) ++ crl ((bytesOf wt).drop i) := by
      unfold crl
      rw [← List.flatMap_append, List.take_append_drop]
    rw [e, List.length_append]; omega)
  have hall : crl ((bytesOf wt).take wt.size) = crl (bytesOf wt) := by rw [List.take_of_length_le (by omega)]
  generalize crl (bytesOf wt) = CR at hbk hcl hcz hall
  obtain ⟨cs, hcs⟩ : ∃ s, strOfNums CR = s := ⟨_, rfl⟩
  rw [hcs] at hbk hcz
  have hsz : (cs ++ body).size = cs.size + body.size := ByteArray.size_append
  have kP : ww = 0 → ∀ hp, FR Tryd.prog TT 9 [.s (.string (cs ++ body))] hp fun x H => ∃ out, x = .tp [out, .s (.int .i64 CR.length)] ∧ Out encF 41 hp H out L := fun e hp => by
    have := parse9_FR hp (cs ++ body) (by omega)
    rwa [hbk e] at this
  clear hbk hws
  have hcs := fun _ : Unit => hcs
  have htk := fun _ : Unit => htk
  have hall := fun _ : Unit => hall
  have hwn := fun _ : Unit => hwn
  refine FR.of q6 (by kernel_rfl) ?_
  unfold c6
  repeat' (first
    | (refine WO.mvE l rfl ?_)
    | (refine WO.mvE o1 rfl ?_)
    | (refine WO.mvE b rfl ?_)
    | (refine WO.mvE a2 rfl ?_)
    | (refine WO.mvE a4 rfl ?_)
    | (refine LQ.fin ?_)
    | (refine EQ.fin rfl ?_)
    | (refine EQ.finN rfl ?_)
    | (refine WO.mvs rfl ?_)
    | (refine WO.mvp rfl ?_)
    | (refine WO.mvt rfl ?_)
    | (refine WO.mv ?_)
    | (refine W.sreg ?_)
    | (refine W.sdraw ?_)
    | (refine W.reg ?_)
    | (refine W.draw ?_)
    | (refine WO.nil ?_)
    | (refine WO.gU rfl ?_)
    | (refine WO.gT rfl rfl ?_)
    | (refine WO.gF rfl rfl ?_)
    | (refine WO.ext rfl rfl ?_)
    | (refine WO.lenR (by assumption) ?_)
    | (refine WO.add rfl rfl (by first | exact wrOK (by simp only [loK, hiK]; omega) | rfl) ?_)
    | (refine WO.sub rfl rfl (by first | exact wrOK (by simp only [loK, hiK]; omega) | rfl) ?_)
    | (refine WO.lss rfl rfl ?_)
    | (refine WO.leq rfl rfl ?_)
    | (refine WO.gtr rfl rfl ?_)
    | (refine WO.geq rfl rfl ?_)
    | (refine WO.eql rfl rfl ?_)
    | (refine WO.neq rfl rfl ?_)
    | (refine WO.seql rfl rfl ?_)
    | (refine WO.sneq rfl rfl ?_)
    | (refine WO.beql rfl rfl (tb rfl) ?_)
    | (refine WO.bneq rfl rfl (tb rfl) ?_)
    | (refine WO.not rfl ?_)
    | (refine WO.not0 rfl ?_)
    | (refine WO.cvi rfl (kd rfl) (kd rfl) (by first | exact wrOK (by simp only [loK, hiK]; omega) | rfl) ?_)
    | (refine WO.cvs rfl (st rfl) (st rfl) ?_)
    | (refine WO.ix rfl rfl (st rfl) (by first | assumption | omega) (by first | assumption | omega) ?_)
    | (refine WO.slen rfl (st rfl) ?_)
    | (refine WO.iaddr (by assumption) rfl rfl (by first | assumption | omega) (by first | assumption | omega) (fun q hq => ?_))
    | (refine WO.load (by assumption) rfl rfl ?_)
    | (refine WO.loadO rfl (by assumption) rfl rfl ?_)
    | (refine WO.faddrP (by assumption) rfl (fun q hq => ?_))
    | (refine WO.nilckP (by assumption) ?_)
    | (refine WO.nilck rfl ?_)
    | (refine WO.faddr rfl ?_)
    | (refine WO.fld rfl rfl rfl ?_)
    | (refine WO.pickT rfl ?_)
    | (refine WO.pickF rfl ?_)
    | (refine WO.sll rfl rfl (st rfl) (by first | assumption | omega) (by first | assumption | omega) ?_)
    | (refine WO.slh rfl rfl (st rfl) (by first | assumption | omega) (by first | assumption | omega) ?_)
    | (refine WO.slb rfl rfl rfl (st rfl) (by first | assumption | omega) (by first | assumption | omega) (by first | assumption | omega) ?_)
    | (refine WO.mul rfl rfl (by first | exact wrOK (by simp only [loK, hiK]; omega) | rfl) ?_)
    | (refine WO.quo rfl rfl (by first | assumption | omega) (by first | exact wrOK (by simp only [loK, hiK]; omega) | rfl) ?_)
    | (refine WO.rem rfl rfl (by first | assumption | omega) ?_)
    | (refine WO.and rfl rfl ?_)
    | (refine WO.or rfl rfl ?_)
    | (refine WO.xor rfl rfl ?_)
    | (refine WO.shl rfl rfl (by first | assumption | omega) (by simp [IntKind.bits]; rfl) ?_)
    | (refine WO.shr rfl rfl (by first | assumption | omega) (by simp [IntKind.bits]; rfl) ?_)
    | (refine WO.build (C := [_]) rfl ?_)
    | (refine WO.build (C := [_, _]) rfl ?_)
    | (refine WO.build (C := [_, _, _]) rfl ?_)
    | (refine WO.build (C := [_, _, _, _]) rfl ?_)
    | (refine WO.build (C := [_, _, _, _, _]) rfl ?_)
    | (refine WO.build (C := [_, _, _, _, _, _]) rfl ?_)
    | (refine WO.build (C := [_, _, _, _, _, _, _]) rfl ?_)
    | (refine WO.eqnil (by assumption) (fun hn1 hn2 => ?_) ?_)
    | (refine W.condT rfl ?_)
    | (refine W.condF rfl ?_)
    | (refine W.condDT rfl (by first | assumption | omega) ?_)
    | (refine W.condDF rfl (by first | assumption | omega) ?_)
    | (refine W.condD rfl (fun hc => ?_) (fun hc => ?_))
    | (refine WO.gS rfl (fun hc => ?_) (fun hc => ?_) <;> try (exfalso; omega))
    | (refine WO.pickS rfl (fun hc => ?_) (fun hc => ?_) <;> try (exfalso; omega))
    | (refine W.skip ?_)
    | (refine W.block ?_)
    | (refine W.drawA rfl ?_)
    | (refine W.sdrawA rfl ?_)
    | (refine And.intro rfl ?_)
    | (refine W.exit ?_)
    | (refine W.ret ?_)
    | (refine W.seq ?_)
    | (refine W.goto ?_)
    | (refine W.label ?_)
    | (refine SQ.nn ?_)
    | (refine SQ.x ?_)
    | (refine SQ.r ?_)
    | (refine SQ.g ?_)
    | (refine BQ.nn ?_)
    | (refine BQ.x ?_)
    | (refine BQ.r ?_)
    | (refine BQ.g ?_)
    | (refine BQ.y rfl ?_)
    | (refine LQ.x ?_)
    | (refine LQ.r ?_)
    | (refine LQ.g ?_)
    | (refine GQ.nn ?_)
    | (refine GQ.x ?_)
    | (refine GQ.r ?_)
    | (refine WO.call rfl (lives_FR _) ?_; rintro _ H1 ⟨rfl, g1⟩; have r1 := r.grows g1)
    | (refine WO.call rfl (kW _ r1) ?_; rintro _ H2 ⟨rfl, g2⟩; have r2 := r1.grows g2; have gA := g1.trans g2)
    | ((fail_if_success (have hh := o1)); refine WO.bslI rfl rfl (fun a1 H3 g3 o1 nw3 => ?_))
    | ((fail_if_success (have hh := ap2)); refine WO.appO (ho.grows g3) o1.row rfl (encI_ok _ _) (by simp only [List.length_append, List.length_cons, List.length_nil]; omega) (by simp only [List.length_append, List.length_cons, List.length_nil]; omega) (fun a2 H4 ou2 ap2 => ?_))
    | (refine WO.bslI rfl rfl (fun a3 H5 g5 o3 nw5 => ?_))
    | (refine WO.appO (ou2.grows g5) o3.row rfl (encI_ok _ _) (by simp only [List.length_append, List.length_cons, List.length_nil]; omega) (by simp only [List.length_append, List.length_cons, List.length_nil]; omega) (fun a4 H6 ou4 ap4 => ?_))
    | (refine WO.b2s ho.row ?_; rw [show strOfNums O = cs from by rw [hO (), show i = wt.size by omega, hall ()]; exact hcs ()])
    | (refine WO.sadd rfl rfl (by first | omega | (rw [hsz]; omega) | (simp only [hsz, hcz]; omega)) ?_)
    | (refine WO.lenR ho.row ?_)
    | (refine WO.call rfl (kP (by assumption) _) ?_; rintro _ H7 ⟨o7, rfl, q7⟩; have r7 := r9.grows q7.g; have gB := ho.g.trans q7.g)
    | (refine WO.call rfl (kP (by omega) _) ?_; rintro _ H7 ⟨o7, rfl, q7⟩; have r7 := r9.grows q7.g; have gB := ho.g.trans q7.g)
    | (refine WO.call rfl (l14 _ o7 l _ q7.row r7 (by omega)) ?_; rintro _ H ⟨rfl, hH⟩; obtain rfl := hH.symm)
    | (refine W.loopI (σ := Nat × AV × List Int) (fun σ => [(0, l), (1, .s (.string body)), (5, .s (.string wt)), (7, σ.2.1), (8, .s (.int .i64 σ.1))]) (fun σ h' => Out (encI .u8) 5 h h' σ.2.1 σ.2.2 ∧ σ.1 ≤ wt.size ∧ σ.2.2 = crl ((bytesOf wt).take σ.1)) (fun σ => wt.size - σ.1) (0, .s (.slice none 0 0), []) ⟨rfl, rfl, rfl, rfl, rfl, trivial⟩ ⟨Out.nil gA, Nat.zero_le _, rfl⟩ ?_; rintro ⟨i, b, O⟩ G h' ⟨ho, hi, hO⟩; dsimp only at ho hi hO ⊢; have hpi := hpl i; rw [← hO] at hpi; have hO := fun _ : Unit => hO; have hbr := bt_range wt (i : Int); have r9 := r.grows ho.g))
  all_goals first
    | (exfalso; exact hc rfl)
    | (exfalso; omega)
    | (have e := hwn () (by assumption)
       exact ⟨congrArg (fun b : Bool => AV.s (.bool b)) (decide_eq_true e), gA⟩)
    | (have e := htk () i (by omega)
       rw [if_pos (by omega), ← hO ()] at e
       refine ⟨(i + 1, a4, O ++ [13] ++ [bt wt (i : Int)]), by dsimp only; omega, ⟨rfl, rfl, rfl, rfl, rfl, trivial⟩, ou4, by dsimp only; omega, ?_⟩
       dsimp only
       rw [e, List.append_assoc, show bt wt (i : Int) = 10 by omega]
       rfl)
    | (have e := htk () i (by omega)
       rw [if_neg (by omega), ← hO ()] at e
       exact ⟨(i + 1, a2, O ++ [bt wt (i : Int)]), by dsimp only; omega, ⟨rfl, rfl, rfl, rfl, rfl, trivial⟩, ou2, by dsimp only; omega, e.symm⟩)
    | (have e : O.length = CR.length := by rw [hO (), show i = wt.size by omega, hall ()]
       exact ⟨congrArg (fun b : Bool => AV.s (.bool b)) (decide_eq_true (by rw [e])), gB⟩)
end Go.Proofs.YtdgnddidibpilaaDoor.AS
end
section

end
