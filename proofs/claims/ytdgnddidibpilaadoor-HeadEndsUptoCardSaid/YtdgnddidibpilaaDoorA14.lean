/- Of our own: an abstract machine beside the model, its soundness, and walks of the program in it. -/
import Derived.Test.YtdgnddidibpilaaDoorA11
import Derived.Test.YtdgnddidibpilaaDoorA12
import Derived.Test.YtdgnddidibpilaaDoorA13
import Derived.Test.YtdgnddidibpilaaDoorProg
set_option linter.unusedSimpArgs false
set_option linter.unusedVariables false
section
set_option maxRecDepth 100000
namespace Go.Proofs.YtdgnddidibpilaaDoor.AS
open Go Go.Proofs Go.RowKit
def tyTab : List Nat := [0,0,4,4,10,5,5,0,0,9,9,9,8,0,0,0,0,0,0,0,0,3,0,0,0,4,0,0,0,0,0,0,0,0,0,0,0,0,0,0,0,0,0,0,0,0,0,0,0,0,0,0,0,0,0,0,0,0,0,0,0,0,0,0,8,0,0,0,0,0,0,0,0,0,0,0,0,0,0,0,0,0,0,0,0,0,0,0,0,0,8,0,0,0,0,0,0,0,7,0,0,0,0,0,0,0,0,5,5,0,3,3,0,0,0,0,0,0,0,0,0,0,0,0,0,0,0,0,0,0]
theorem tyTab_ok : undTab Tryd.prog 130 = tyTab := by kernel_rfl
theorem kd {t : Nat} {k : IntKind} (h : kdN (nthN tyTab t) = some k) : Tryd.prog.underlying t = some (.int k) := kd_of tyTab_ok h
theorem st {t : Nat} (h : Nat.beq (nthN tyTab t) 9 = true) : Tryd.prog.underlying t = some .string := str_of tyTab_ok h
theorem tb {t : Nat} (h : Nat.beq (nthN tyTab t) 10 = true) : Tryd.prog.underlying t = some .bool := bl_of tyTab_ok h
theorem hm : Tryd.prog.follows .mixedOrders = true := by kernel_rfl
noncomputable def T6 : FuncId → Option AFunc := over (over (prepFn Tryd.prog) 59 hkCopy) 58 hkIdx
theorem TT_ok : TabOK Tryd.prog T6 := over_ok (over_ok (tab0 _) hkCopy_ok) hkIdx_ok
theorem T6_59 : T6 59 = some (.hook hkCopy) := (show T6 59 = over (prepFn Tryd.prog) 59 hkCopy 59 from rfl).trans (over_same _ _ _)
theorem T6_58 : T6 58 = some (.hook hkIdx) := over_same _ _ _
theorem q3 : T6 3 = some (.code 54 [(.tmp 4)] c3) := (show T6 3 = prepFn Tryd.prog 3 from rfl).trans p3
theorem q4 : T6 4 = some (.code 52 [(.tmp 6)] c4) := (show T6 4 = prepFn Tryd.prog 4 from rfl).trans p4
theorem q5 : T6 5 = some (.code 85 [(.tmp 4)] c5) := (show T6 5 = prepFn Tryd.prog 5 from rfl).trans p5
theorem q6 : T6 6 = some (.code 58 [(.tmp 4)] c6) := (show T6 6 = prepFn Tryd.prog 6 from rfl).trans p6
theorem q7 : T6 7 = some (.code 42 [(.tmp 6)] c7) := (show T6 7 = prepFn Tryd.prog 7 from rfl).trans p7
theorem q8 : T6 8 = some (.code 147 [(.tmp 8)] c8) := (show T6 8 = prepFn Tryd.prog 8 from rfl).trans p8
theorem q9 : T6 9 = some (.code 70 [(.tmp 2), (.tmp 3)] c9) := (show T6 9 = prepFn Tryd.prog 9 from rfl).trans p9
theorem q10 : T6 10 = some (.code 82 [(.tmp 2), (.tmp 3)] c10) := (show T6 10 = prepFn Tryd.prog 10 from rfl).trans p10
theorem q11 : T6 11 = some (.code 71 [(.tmp 2), (.tmp 3)] c11) := (show T6 11 = prepFn Tryd.prog 11 from rfl).trans p11
theorem q12 : T6 12 = some (.code 74 [(.tmp 2), (.tmp 3)] c12) := (show T6 12 = prepFn Tryd.prog 12 from rfl).trans p12
theorem q13 : T6 13 = some (.code 84 [(.tmp 0)] c13) := (show T6 13 = prepFn Tryd.prog 13 from rfl).trans p13
theorem q14 : T6 14 = some (.code 26 [(.tmp 4)] c14) := (show T6 14 = prepFn Tryd.prog 14 from rfl).trans p14
theorem q15 : T6 15 = some (.code 21 [(.tmp 4), (.tmp 5)] c15) := (show T6 15 = prepFn Tryd.prog 15 from rfl).trans p15
theorem q16 : T6 16 = some (.code 16 [(.tmp 4), (.tmp 5)] c16) := (show T6 16 = prepFn Tryd.prog 16 from rfl).trans p16
theorem q17 : T6 17 = some (.code 26 [(.tmp 4)] c17) := (show T6 17 = prepFn Tryd.prog 17 from rfl).trans p17
theorem q18 : T6 18 = some (.code 25 [(.tmp 4)] c18) := (show T6 18 = prepFn Tryd.prog 18 from rfl).trans p18
theorem q19 : T6 19 = some (.code 25 [(.tmp 4)] c19) := (show T6 19 = prepFn Tryd.prog 19 from rfl).trans p19
theorem q20 : T6 20 = some (.code 26 [(.tmp 4)] c20) := (show T6 20 = prepFn Tryd.prog 20 from rfl).trans p20
theorem q21 : T6 21 = some (.code 10 [(.tmp 4)] c21) := (show T6 21 = prepFn Tryd.prog 21 from rfl).trans p21
theorem q22 : T6 22 = some (.code 21 [(.tmp 0)] c22) := (show T6 22 = prepFn Tryd.prog 22 from rfl).trans p22
theorem q23 : T6 23 = some (.code 19 [(.tmp 2)] c23) := (show T6 23 = prepFn Tryd.prog 23 from rfl).trans p23
theorem q24 : T6 24 = some (.code 18 [(.tmp 4)] c24) := (show T6 24 = prepFn Tryd.prog 24 from rfl).trans p24
theorem q25 : T6 25 = some (.code 23 [(.tmp 2)] c25) := (show T6 25 = prepFn Tryd.prog 25 from rfl).trans p25
theorem q26 : T6 26 = some (.code 6 [(.tmp 2)] c26) := (show T6 26 = prepFn Tryd.prog 26 from rfl).trans p26
theorem q27 : T6 27 = some (.code 17 [] c27) := (show T6 27 = prepFn Tryd.prog 27 from rfl).trans p27
theorem q28 : T6 28 = some (.code 43 [(.tmp 4)] c28) := (show T6 28 = prepFn Tryd.prog 28 from rfl).trans p28
theorem q29 : T6 29 = some (.code 14 [(.tmp 2)] c29) := (show T6 29 = prepFn Tryd.prog 29 from rfl).trans p29
theorem q30 : T6 30 = some (.code 8 [] c30) := (show T6 30 = prepFn Tryd.prog 30 from rfl).trans p30
theorem q31 : T6 31 = some (.code 18 [(.tmp 2), (.tmp 3)] c31) := (show T6 31 = prepFn Tryd.prog 31 from rfl).trans p31
theorem q32 : T6 32 = some (.code 27 [(.tmp 2)] c32) := (show T6 32 = prepFn Tryd.prog 32 from rfl).trans p32
theorem q33 : T6 33 = some (.code 8 [(.tmp 4)] c33) := (show T6 33 = prepFn Tryd.prog 33 from rfl).trans p33
theorem q34 : T6 34 = some (.code 19 [(.tmp 4), (.tmp 5)] c34) := (show T6 34 = prepFn Tryd.prog 34 from rfl).trans p34
theorem q35 : T6 35 = some (.code 36 [(.tmp 2), (.tmp 3)] c35) := (show T6 35 = prepFn Tryd.prog 35 from rfl).trans p35
theorem q36 : T6 36 = some (.code 27 [(.tmp 2)] c36) := (show T6 36 = prepFn Tryd.prog 36 from rfl).trans p36
theorem q37 : T6 37 = some (.code 9 [(.tmp 2)] c37) := (show T6 37 = prepFn Tryd.prog 37 from rfl).trans p37
theorem q38 : T6 38 = some (.code 28 [(.tmp 2)] c38) := (show T6 38 = prepFn Tryd.prog 38 from rfl).trans p38
theorem q39 : T6 39 = some (.code 9 [(.tmp 4)] c39) := (show T6 39 = prepFn Tryd.prog 39 from rfl).trans p39
theorem q40 : T6 40 = some (.code 17 [(.tmp 4)] c40) := (show T6 40 = prepFn Tryd.prog 40 from rfl).trans p40
theorem q41 : T6 41 = some (.code 12 [(.tmp 2)] c41) := (show T6 41 = prepFn Tryd.prog 41 from rfl).trans p41
theorem q42 : T6 42 = some (.code 29 [(.tmp 2)] c42) := (show T6 42 = prepFn Tryd.prog 42 from rfl).trans p42
theorem q43 : T6 43 = some (.code 43 [(.tmp 2), (.tmp 3), (.tmp 4)] c43) := (show T6 43 = prepFn Tryd.prog 43 from rfl).trans p43
theorem q44 : T6 44 = some (.code 6 [(.tmp 2)] c44) := (show T6 44 = prepFn Tryd.prog 44 from rfl).trans p44
theorem q45 : T6 45 = some (.code 23 [(.tmp 2)] c45) := (show T6 45 = prepFn Tryd.prog 45 from rfl).trans p45
theorem q46 : T6 46 = some (.code 18 [(.tmp 4)] c46) := (show T6 46 = prepFn Tryd.prog 46 from rfl).trans p46
theorem q47 : T6 47 = some (.code 57 [(.tmp 2)] c47) := (show T6 47 = prepFn Tryd.prog 47 from rfl).trans p47
theorem q48 : T6 48 = some (.code 17 [(.tmp 4)] c48) := (show T6 48 = prepFn Tryd.prog 48 from rfl).trans p48
theorem q49 : T6 49 = some (.code 23 [(.tmp 4)] c49) := (show T6 49 = prepFn Tryd.prog 49 from rfl).trans p49
theorem q50 : T6 50 = some (.code 21 [(.cell true 256 2), (.tmp 3)] c50) := (show T6 50 = prepFn Tryd.prog 50 from rfl).trans p50
theorem q51 : T6 51 = some (.code 16 [(.tmp 4)] c51) := (show T6 51 = prepFn Tryd.prog 51 from rfl).trans p51
theorem q52 : T6 52 = some (.code 22 [(.tmp 4)] c52) := (show T6 52 = prepFn Tryd.prog 52 from rfl).trans p52
theorem q53 : T6 53 = some (.code 23 [(.tmp 4)] c53) := (show T6 53 = prepFn Tryd.prog 53 from rfl).trans p53
theorem q54 : T6 54 = some (.code 34 [(.tmp 4)] c54) := (show T6 54 = prepFn Tryd.prog 54 from rfl).trans p54
theorem q55 : T6 55 = some (.code 13 [(.tmp 4), (.tmp 5), (.tmp 6)] c55) := (show T6 55 = prepFn Tryd.prog 55 from rfl).trans p55
theorem q56 : T6 56 = some (.code 8 [(.tmp 4)] c56) := (show T6 56 = prepFn Tryd.prog 56 from rfl).trans p56
theorem q57 : T6 57 = some (.code 13 [(.tmp 2)] c57) := (show T6 57 = prepFn Tryd.prog 57 from rfl).trans p57
theorem q60 : T6 60 = some (.code 8 [(.tmp 4)] c60) := (show T6 60 = prepFn Tryd.prog 60 from rfl).trans p60
theorem q61 : T6 61 = some (.code 20 [(.tmp 4)] c61) := (show T6 61 = prepFn Tryd.prog 61 from rfl).trans p61
theorem q62 : T6 62 = some (.code 19 [(.tmp 2), (.tmp 3)] c62) := (show T6 62 = prepFn Tryd.prog 62 from rfl).trans p62
theorem q63 : T6 63 = some (.code 26 [(.tmp 4)] c63) := (show T6 63 = prepFn Tryd.prog 63 from rfl).trans p63
theorem q64 : T6 64 = some (.code 35 [(.tmp 2)] c64) := (show T6 64 = prepFn Tryd.prog 64 from rfl).trans p64
theorem q65 : T6 65 = some (.code 21 [(.tmp 2)] c65) := (show T6 65 = prepFn Tryd.prog 65 from rfl).trans p65
theorem q66 : T6 66 = some (.code 10 [(.tmp 4)] c66) := (show T6 66 = prepFn Tryd.prog 66 from rfl).trans p66
theorem q67 : T6 67 = some (.code 9 [(.tmp 4)] c67) := (show T6 67 = prepFn Tryd.prog 67 from rfl).trans p67
theorem q68 : T6 68 = some (.code 51 [(.tmp 2), (.tmp 3)] c68) := (show T6 68 = prepFn Tryd.prog 68 from rfl).trans p68
theorem q69 : T6 69 = some (.code 23 [(.tmp 4), (.tmp 5), (.tmp 6)] c69) := (show T6 69 = prepFn Tryd.prog 69 from rfl).trans p69
theorem q70 : T6 70 = some (.code 16 [(.tmp 4)] c70) := (show T6 70 = prepFn Tryd.prog 70 from rfl).trans p70
theorem q73 : T6 73 = some (.code 143 [(.tmp 4)] c73) := (show T6 73 = prepFn Tryd.prog 73 from rfl).trans p73
theorem q74 : T6 74 = some (.code 117 [(.tmp 2), (.tmp 3)] c74) := (show T6 74 = prepFn Tryd.prog 74 from rfl).trans p74
theorem q75 : T6 75 = some (.code 187 [(.tmp 4)] c75) := (show T6 75 = prepFn Tryd.prog 75 from rfl).trans p75
theorem q76 : T6 76 = some (.code 6 [(.tmp 2)] c76) := (show T6 76 = prepFn Tryd.prog 76 from rfl).trans p76
theorem q77 : T6 77 = some (.code 21 [(.tmp 4)] c77) := (show T6 77 = prepFn Tryd.prog 77 from rfl).trans p77
theorem q81 : T6 81 = some (.code 17 [(.tmp 2)] c81) := (show T6 81 = prepFn Tryd.prog 81 from rfl).trans p81
noncomputable abbrev TT : Nat → CallF := evFn Tryd.prog T6
end Go.Proofs.YtdgnddidibpilaaDoor.AS
end
section
set_option autoImplicit false
set_option maxRecDepth 100000
set_option maxHeartbeats 4000000
set_option linter.unusedSimpArgs false
set_option linter.unusedVariables false
namespace Go.Proofs.YtdgnddidibpilaaDoor.AS
open Go Go.Proofs Go.RowKit Go.Proofs.YtdgnddidibpilaaDoor.AS.V

section
variable {P : Program} {T : Nat → CallF} {n : Nat} {F : Fr} {h : Heap} {K : Fr → Heap → Prop} {l : List AOper} {d : Option Nat} {x y z : Operand} {α : Type} {E : Enc α} {e : TypeId} {L M : List α}
/-- What is put behind, its cells told. -/
theorem WO.appSrc {sz bytes : Nat} (r : Own E e h (evF F x) L) (hsrc : srcW E.sz h (some (evF F y)) = some (M.length, M.flatMap E.cells)) (hs : E.sz = sz) (hok : M.all E.ok = true) (h1 : (L.length + M.length) * bytes ≤ 140737488355328) (h2 : L.length + M.length ≤ 9223372036854775807)
    (k : ∀ a H, Own E e H a (L ++ M) → ApF h H (evF F x) a → (evF F x = .s (.slice none 0 0) → M = [] → a = .s (.slice none 0 0)) → WO P T n l (putF d a F) H K) : WO P T n (⟨d, none, .e (.app e sz bytes x y)⟩ :: l) F h K := by
  subst hs
  rcases r with ⟨r1, rfl⟩ | ⟨b, v, o, ⟨v', e', s', rw', c'⟩, r1, r2, r3, r4, r5, r6, r7, r8⟩
  · by_cases hM : M.length = 0
    · obtain rfl := List.length_eq_zero_iff.1 hM
      refine WO.op (fun ho => ⟨0, fun j _ => ?_⟩) (k (.s (.slice none 0 0)) h (.inl ⟨rfl, rfl⟩) ⟨fun _ _ _ => rfl, Nat.le_refl _, fun c hc => by simp [bo] at hc⟩ (fun _ _ => rfl))
      simp only [opds, opdsE, List.all_cons, List.all_nil, Bool.and_true, Bool.and_eq_true] at ho
      rw [opV_e, eV_app, evO_fr ho.1, evO_fr ho.2, r1, hsrc]; rfl
    · simp only [List.length_nil, Nat.zero_add] at h1 h2
      refine WO.op (fun ho => ⟨0, fun j _ => ?_⟩) (k (.sl h.length 0 0 M.length E.sz) (h ++ [⟨0, e, E.sz, true, M.flatMap E.cells⟩]) (.inr ⟨_, 0, 0, _, by simp, bk_new, rfl, ?_, ?_, rfl, rfl, rfl⟩) ⟨fun c hc _ => bk_app hc, by simp, fun c hc => by simp [bo] at hc; exact .inl (by omega)⟩ (fun _ h => absurd (congrArg List.length h) hM))
      · simp only [opds, opdsE, List.all_cons, List.all_nil, Bool.and_true, Bool.and_eq_true] at ho
        rw [opV_e, eV_app, evO_fr ho.1, evO_fr ho.2, r1, hsrc, apV_nil e E.sz bytes M.length _ hM (E.flat_ok hok) h1 h2]
      · simp only [List.nil_append, E.flat_len]; omega
      · simp only [List.nil_append, List.drop_zero]; rw [List.take_of_length_le (by rw [E.flat_len]; omega)]
  · simp only at r3 r4 r5 r6 r7 r8
    subst r3 r6 r7 r8
    have hlt := bk_lt r2
    refine WO.op (fun ho => ⟨0, fun j _ => ?_⟩) (k (.sl b (v' + 1) 0 (L.length + M.length) E.sz) (h.set b ⟨v' + 1, e', E.sz, true, (c'.drop o).take (L.length * E.sz) ++ M.flatMap E.cells⟩) (.inr ⟨b, v' + 1, 0, _, by simp, bk_set_same hlt, rfl, ?_, ?_, rfl, rfl, rfl⟩) ⟨fun c hc hn => bk_set_ne (fun e => hn (by rw [r1, e]; rfl)), by simp, fun c hc => .inr (by rw [r1]; exact hc)⟩ (fun h _ => by rw [r1] at h; cases h))
    · simp only [opds, opdsE, List.all_cons, List.all_nil, Bool.and_true, Bool.and_eq_true] at ho
      rw [opV_e, eV_app, evO_fr ho.1, evO_fr ho.2, r1, hsrc, apV_sl, r2, apK_s _ _ _ _ _ _ _ _ _ _ _ _ _ _ ⟨rfl, rfl, rfl, rfl, r4, E.flat_ok hok, h1, h2⟩]
    · simp only [r5, List.length_append, E.flat_len, Nat.add_mul]; omega
    · simp only [r5, List.drop_zero, ← List.flatMap_append]
      rw [List.take_of_length_le (by rw [E.flat_len]; omega)]
/-- A text put behind bytes. -/
theorem WO.appStr {bytes : Nat} {L : List Int} {s : ByteArray} (r : Own (encI .u8) e h (evF F x) L) (hy : evF F y = .s (.string s)) (h1 : (L.length + s.size) * bytes ≤ 140737488355328) (h2 : L.length + s.size ≤ 9223372036854775807)
    (k : ∀ a H, Own (encI .u8) e H a (L ++ bytesOf s) → ApF h H (evF F x) a → (evF F x = .s (.slice none 0 0) → bytesOf s = [] → a = .s (.slice none 0 0)) → WO P T n l (putF d a F) H K) : WO P T n (⟨d, none, .e (.app e 1 bytes x y)⟩ :: l) F h K := by
  have hcells : (s.data.toList.map fun b => AV.s (.int .u8 b.toNat)) = (bytesOf s).flatMap (encI .u8).cells := by
    unfold bytesOf
    generalize s.data.toList = L
    induction L with
    | nil => rfl
    | cons b L ih => rw [List.map_cons, ih]; rfl
  refine WO.appSrc r ?_ rfl (encI_ok _ _) (by rw [bytesOf_length]; exact h1) (by rw [bytesOf_length]; exact h2) k
  rw [hy, bytesOf_length, ← hcells]
  rfl
end
theorem EQ.finN {F : Fr} {h : Heap} {res : List ARes} {R : AV → Heap → Prop} {l : List AV} (hl : resFs F h res = some l) (H : FinW (R (tupA l) h)) : EQ res R .normal F h := EQ.nn hl H.go
/-- A strings.Builder at the head of an object: its bytes are in a row of their own. -/
structure Bld (h : Heap) (b e : Nat) (xs : List AV) (buf : AV) (L : List Int) : Prop where
  x : ∃ ad, ObjT h b e (ad :: buf :: xs) ∧ (ad = .s (.pointer none) ∨ ad = .pt b 0 0)
  o : Own (encI .u8) 5 h buf L
  ne : bo buf ≠ some b
  nl : L = [] → buf = .s (.slice none 0 0)
  e : e = 49 ∧ xs.length = 0 ∨ e = 70 ∧ xs.length = 1
/-- What a change of a Builder leaves. -/
structure Frm (h H : Heap) (b : Nat) (buf buf' : AV) : Prop where
  keep : ∀ c, c < h.length → c ≠ b → bo buf ≠ some c → bk H c = bk h c
  len : h.length ≤ H.length
  nw : ∀ c, bo buf' = some c → bo buf = some c ∨ h.length ≤ c
theorem Bld.lies {h : Heap} {b e : Nat} {xs : List AV} {buf : AV} {L : List Int} (B : Bld h b e xs buf L) (n : Nat) (hn : n = xs.length + 2) : lies49 e n 0 = true := by
  rcases B.e with ⟨rfl, h⟩ | ⟨rfl, h⟩
  · rw [hn, h]; kernel_rfl
  · rw [hn, h]; kernel_rfl
theorem Bld.lt {h : Heap} {b e : Nat} {xs : List AV} {buf : AV} {L : List Int} (B : Bld h b e xs buf L) : b < h.length := by obtain ⟨ad, o, _⟩ := B.x; exact o.lt
/-- A Builder stands where its blocks do. -/
theorem Bld.at {h H : Heap} {b e : Nat} {xs : List AV} {buf : AV} {L : List Int} (B : Bld h b e xs buf L) (h1 : bk H b = bk h b) (h2 : ∀ c, bo buf = some c → bk H c = bk h c) : Bld H b e xs buf L := by
  obtain ⟨ad, ⟨k, hk, r⟩, ha⟩ := B.x
  exact ⟨⟨ad, ⟨⟨k, h1.trans hk, r⟩⟩, ha⟩, B.o.at h2, B.ne, B.nl, B.e⟩
theorem copy_FR {h : Heap} {b e : Nat} {ad : AV} {C : List AV} (o : ObjT h b e (ad :: C)) (hl : lies49 e (C.length + 1) 0 = true) (ha : ad = .s (.pointer none) ∨ ad = .pt b 0 0) :
    FR Tryd.prog TT 59 [.pt b 0 0] h fun x H => x = .tp [] ∧ ObjT H b e (.pt b 0 0 :: C) ∧ Upd h H b := by
  obtain ⟨k, h1, h2, h3, h4, h5⟩ := o.x
  obtain ⟨v', e', s', rw', c'⟩ := k
  simp only at h2 h3 h4 h5
  subst h2 h3 h4 h5
  have hb : h[b]? = some ⟨0, e', s', true, ad :: C⟩ := by rw [← h1]; rfl
  have hlt := bk_lt h1
  rcases ha with rfl | rfl
  · refine FR.run (a := .tp []) (H := h.set b ⟨0, e', s', true, .pt b 0 0 :: C⟩) (FRun.hook T6_59 ?_) ⟨rfl, ⟨⟨_, bk_set_same hlt, rfl, rfl, rfl, rfl⟩⟩, ⟨fun c hc => bk_set_ne (fun e => hc e.symm), by simp⟩⟩
    simp only [hkCopy, hb, List.getElem?_cons_zero, List.length_cons]
    rw [if_pos ⟨trivial, trivial, hl⟩]
    simp [wrn, hb]
  · refine FR.run (a := .tp []) (H := h) (FRun.hook T6_59 ?_) ⟨rfl, o, ⟨fun c _ => rfl, rfl⟩⟩
    simp only [hkCopy, hb, List.getElem?_cons_zero]
    rw [if_pos ⟨trivial, trivial, trivial⟩]
theorem wb_FR {h : Heap} {b e : Nat} {xs : List AV} {buf : AV} {L : List Int} (c : Int) (B : Bld h b e xs buf L) (hl : L.length ≤ 140737488355327) :
    FR Tryd.prog TT 40 [.pt b 0 0, .s (.int .u8 c)] h fun x H => x = .s .nilIface ∧ ∃ buf', Bld H b e xs buf' (L ++ [c]) ∧ Frm h H b buf buf' := by
  obtain ⟨ad, ot, ha⟩ := B.x
  have own := B.o
  have hbo := B.ne
  have hlt := ot.lt
  have hc := copy_FR ot (B.lies _ (by simp)) ha
  refine FR.of q40 (by kernel_rfl) ?_
  unfold c40
  repeat' (first
    | (refine WO.mvE buf rfl ?_)
    | (refine WO.call rfl hc ?_; rintro _ H1 ⟨rfl, ot1, u1⟩; have ob1 := ot1.o; have own1 : Own (encI .u8) 5 H1 buf L := own.upd u1 hbo; have hln := u1.len)
    | (refine WO.bslI rfl rfl (fun a1 H2 g1 o1 nw1 => ?_))
    | (refine WO.app (own1.grows g1) o1.row rfl (encI_ok _ _) (by simp; omega) (by simp; omega) (fun a2 H3 own3 ap => ?_))
    | (refine WO.storeT rfl ((ot1.grows g1).ap ap hbo) own3.row.cellsOf rfl own3.row.isC rfl rfl (fun H4 ot4 u4 => ?_))
    | (refine LQ.fin ?_)
    | (refine EQ.fin rfl ?_)
    | (refine EQ.finN rfl ?_)
    | (refine WO.mvs rfl ?_)
    | (refine WO.mvp rfl ?_)
    | (refine WO.mvt rfl ?_)
    | (refine WO.mv ?_)
    | (refine W.sreg ?_)
    | (refine W.sdraw ?_)
    | (refine W.reg ?_)
    | (refine W.draw ?_)
    | (refine WO.nil ?_)
    | (refine WO.gU rfl ?_)
    | (refine WO.gT rfl rfl ?_)
    | (refine WO.gF rfl rfl ?_)
    | (refine WO.ext rfl rfl ?_)
    | (refine WO.lenR (by assumption) ?_)
    | (refine WO.add rfl rfl (by first | exact wrOK (by simp only [loK, hiK]; omega) | rfl) ?_)
    | (refine WO.sub rfl rfl (by first | exact wrOK (by simp only [loK, hiK]; omega) | rfl) ?_)
    | (refine WO.lss rfl rfl ?_)
    | (refine WO.leq rfl rfl ?_)
    | (refine WO.gtr rfl rfl ?_)
    | (refine WO.geq rfl rfl ?_)
    | (refine WO.eql rfl rfl ?_)
    | (refine WO.neq rfl rfl ?_)
    | (refine WO.seql rfl rfl ?_)
    | (refine WO.sneq rfl rfl ?_)
    | (refine WO.beql rfl rfl (tb rfl) ?_)
    | (refine WO.bneq rfl rfl (tb rfl) ?_)
    | (refine WO.not rfl ?_)
    | (refine WO.not0 rfl ?_)
    | (refine WO.cvi rfl (kd rfl) (kd rfl) (by first | exact wrOK (by simp only [loK, hiK]; omega) | rfl) ?_)
    | (refine WO.cvs rfl (st rfl) (st rfl) ?_)
    | (refine WO.ix rfl rfl (st rfl) (by first | assumption | omega) (by first | assumption | omega) ?_)
    | (refine WO.slen rfl (st rfl) ?_)
    | (refine WO.iaddr (by assumption) rfl rfl (by first | assumption | omega) (by first | assumption | omega) (fun q hq => ?_))
    | (refine WO.load (by assumption) rfl rfl ?_)
    | (refine WO.loadO rfl (by assumption) rfl rfl ?_)
    | (refine WO.faddrP (by assumption) rfl (fun q hq => ?_))
    | (refine WO.nilckP (by assumption) ?_)
    | (refine WO.nilck rfl ?_)
    | (refine WO.faddr rfl ?_)
    | (refine WO.fld rfl rfl rfl ?_)
    | (refine WO.pickT rfl ?_)
    | (refine WO.pickF rfl ?_)
    | (refine WO.sll rfl rfl (st rfl) (by first | assumption | omega) (by first | assumption | omega) ?_)
    | (refine WO.slh rfl rfl (st rfl) (by first | assumption | omega) (by first | assumption | omega) ?_)
    | (refine WO.slb rfl rfl rfl (st rfl) (by first | assumption | omega) (by first | assumption | omega) (by first | assumption | omega) ?_)
    | (refine WO.mul rfl rfl (by first | exact wrOK (by simp only [loK, hiK]; omega) | rfl) ?_)
    | (refine WO.quo rfl rfl (by first | assumption | omega) (by first | exact wrOK (by simp only [loK, hiK]; omega) | rfl) ?_)
    | (refine WO.rem rfl rfl (by first | assumption | omega) ?_)
    | (refine WO.and rfl rfl ?_)
    | (refine WO.or rfl rfl ?_)
    | (refine WO.xor rfl rfl ?_)
    | (refine WO.shl rfl rfl (by first | assumption | omega) (by simp [IntKind.bits]; rfl) ?_)
    | (refine WO.shr rfl rfl (by first | assumption | omega) (by simp [IntKind.bits]; rfl) ?_)
    | (refine WO.build (C := [_]) rfl ?_)
    | (refine WO.build (C := [_, _]) rfl ?_)
    | (refine WO.build (C := [_, _, _]) rfl ?_)
    | (refine WO.build (C := [_, _, _, _]) rfl ?_)
    | (refine WO.build (C := [_, _, _, _, _]) rfl ?_)
    | (refine WO.build (C := [_, _, _, _, _, _]) rfl ?_)
    | (refine WO.build (C := [_, _, _, _, _, _, _]) rfl ?_)
    | (refine WO.eqnil (by assumption) (fun hn1 hn2 => ?_) ?_)
    | (refine W.condT rfl ?_)
    | (refine W.condF rfl ?_)
    | (refine W.condDT rfl (by first | assumption | omega) ?_)
    | (refine W.condDF rfl (by first | assumption | omega) ?_)
    | (refine W.condD rfl (fun hc => ?_) (fun hc => ?_))
    | (refine WO.gS rfl (fun hc => ?_) (fun hc => ?_) <;> try (exfalso; omega))
    | (refine WO.pickS rfl (fun hc => ?_) (fun hc => ?_) <;> try (exfalso; omega))
    | (refine W.skip ?_)
    | (refine W.block ?_)
    | (refine W.drawA rfl ?_)
    | (refine W.sdrawA rfl ?_)
    | (refine And.intro rfl ?_)
    | (refine W.exit ?_)
    | (refine W.ret ?_)
    | (refine W.seq ?_)
    | (refine W.goto ?_)
    | (refine W.label ?_)
    | (refine SQ.nn ?_)
    | (refine SQ.x ?_)
    | (refine SQ.r ?_)
    | (refine SQ.g ?_)
    | (refine BQ.nn ?_)
    | (refine BQ.x ?_)
    | (refine BQ.r ?_)
    | (refine BQ.g ?_)
    | (refine BQ.y rfl ?_)
    | (refine LQ.x ?_)
    | (refine LQ.r ?_)
    | (refine LQ.g ?_)
    | (refine GQ.nn ?_)
    | (refine GQ.x ?_)
    | (refine GQ.r ?_))
  all_goals first
    | (have gl := g1.len
       have hb2 : b < H2.length := by omega
       have hnb : bo a2 ≠ some b := ap.ne hb2 hbo
       refine ⟨rfl, a2, ⟨⟨_, ot4, .inr rfl⟩, own3.upd u4 hnb, hnb, fun h => absurd h (by simp), B.e⟩, ⟨fun c hc h1 h2 => ?_, ?_, fun c hc => ?_⟩⟩
       · exact (u4.keep c h1).trans ((ap.keep c (by omega) h2).trans ((g1.bk (by omega)).trans (u1.keep c h1)))
       · have := ap.len; have := u4.len; omega
       · exact (ap.place c hc).elim (fun h => .inr (by omega)) .inl)
theorem ws_FR {h : Heap} {b e : Nat} {xs : List AV} {buf : AV} {L : List Int} (s : ByteArray) (B : Bld h b e xs buf L) (hl : L.length + s.size ≤ 140737488355328) :
    FR Tryd.prog TT 34 [.pt b 0 0, .s (.string s)] h fun x H => x = .tp [.s (.int .i64 s.size), .s .nilIface] ∧ ∃ buf', Bld H b e xs buf' (L ++ bytesOf s) ∧ Frm h H b buf buf' := by
  obtain ⟨ad, ot, ha⟩ := B.x
  have own := B.o
  have hbo := B.ne
  have hlt := ot.lt
  have hc := copy_FR ot (B.lies _ (by simp)) ha
  have hnl := B.nl
  refine FR.of q34 (by kernel_rfl) ?_
  unfold c34
  repeat' (first
    | (refine WO.mvE buf rfl ?_)
    | (refine WO.call rfl hc ?_; rintro _ H1 ⟨rfl, ot1, u1⟩; have ob1 := ot1.o; have own1 : Own (encI .u8) 5 H1 buf L := own.upd u1 hbo; have hln := u1.len)
    | (refine WO.appStr own1 rfl (by omega) (by omega) (fun a2 H3 own3 ap hnil => ?_))
    | (refine WO.storeT rfl (ot1.ap ap hbo) own3.row.cellsOf rfl own3.row.isC rfl rfl (fun H4 ot4 u4 => ?_))
    | (refine LQ.fin ?_)
    | (refine EQ.fin rfl ?_)
    | (refine EQ.finN rfl ?_)
    | (refine WO.mvs rfl ?_)
    | (refine WO.mvp rfl ?_)
    | (refine WO.mvt rfl ?_)
    | (refine WO.mv ?_)
    | (refine W.sreg ?_)
    | (refine W.sdraw ?_)
    | (refine W.reg ?_)
    | (refine W.draw ?_)
    | (refine WO.nil ?_)
    | (refine WO.gU rfl ?_)
    | (refine WO.gT rfl rfl ?_)
    | (refine WO.gF rfl rfl ?_)
    | (refine WO.ext rfl rfl ?_)
    | (refine WO.lenR (by assumption) ?_)
    | (refine WO.add rfl rfl (by first | exact wrOK (by simp only [loK, hiK]; omega) | rfl) ?_)
    | (refine WO.sub rfl rfl (by first | exact wrOK (by simp only [loK, hiK]; omega) | rfl) ?_)
    | (refine WO.lss rfl rfl ?_)
    | (refine WO.leq rfl rfl ?_)
    | (refine WO.gtr rfl rfl ?_)
    | (refine WO.geq rfl rfl ?_)
    | (refine WO.eql rfl rfl ?_)
    | (refine WO.neq rfl rfl ?_)
    | (refine WO.seql rfl rfl ?_)
    | (refine WO.sneq rfl rfl ?_)
    | (refine WO.beql rfl rfl (tb rfl) ?_)
    | (refine WO.bneq rfl rfl (tb rfl) ?_)
    | (refine WO.not rfl ?_)
    | (refine WO.not0 rfl ?_)
    | (refine WO.cvi rfl (kd rfl) (kd rfl) (by first | exact wrOK (by simp only [loK, hiK]; omega) | rfl) ?_)
    | (refine WO.cvs rfl (st rfl) (st rfl) ?_)
    | (refine WO.ix rfl rfl (st rfl) (by first | assumption | omega) (by first | assumption | omega) ?_)
    | (refine WO.slen rfl (st rfl) ?_)
    | (refine WO.iaddr (by assumption) rfl rfl (by first | assumption | omega) (by first | assumption | omega) (fun q hq => ?_))
    | (refine WO.load (by assumption) rfl rfl ?_)
    | (refine WO.loadO rfl (by assumption) rfl rfl ?_)
    | (refine WO.faddrP (by assumption) rfl (fun q hq => ?_))
    | (refine WO.nilckP (by assumption) ?_)
    | (refine WO.nilck rfl ?_)
    | (refine WO.faddr rfl ?_)
    | (refine WO.fld rfl rfl rfl ?_)
    | (refine WO.pickT rfl ?_)
    | (refine WO.pickF rfl ?_)
    | (refine WO.sll rfl rfl (st rfl) (by first | assumption | omega) (by first | assumption | omega) ?_)
    | (refine WO.slh rfl rfl (st rfl) (by first | assumption | omega) (by first | assumption | omega) ?_)
    | (refine WO.slb rfl rfl rfl (st rfl) (by first | assumption | omega) (by first | assumption | omega) (by first | assumption | omega) ?_)
    | (refine WO.mul rfl rfl (by first | exact wrOK (by simp only [loK, hiK]; omega) | rfl) ?_)
    | (refine WO.quo rfl rfl (by first | assumption | omega) (by first | exact wrOK (by simp only [loK, hiK]; omega) | rfl) ?_)
    | (refine WO.rem rfl rfl (by first | assumption | omega) ?_)
    | (refine WO.and rfl rfl ?_)
    | (refine WO.or rfl rfl ?_)
    | (refine WO.xor rfl rfl ?_)
    | (refine WO.shl rfl rfl (by first | assumption | omega) (by simp [IntKind.bits]; rfl) ?_)
    | (refine WO.shr rfl rfl (by first | assumption | omega) (by simp [IntKind.bits]; rfl) ?_)
    | (refine WO.build (C := [_]) rfl ?_)
    | (refine WO.build (C := [_, _]) rfl ?_)
    | (refine WO.build (C := [_, _, _]) rfl ?_)
    | (refine WO.build (C := [_, _, _, _]) rfl ?_)
    | (refine WO.build (C := [_, _, _, _, _]) rfl ?_)
    | (refine WO.build (C := [_, _, _, _, _, _]) rfl ?_)
    | (refine WO.build (C := [_, _, _, _, _, _, _]) rfl ?_)
    | (refine WO.eqnil (by assumption) (fun hn1 hn2 => ?_) ?_)
    | (refine W.condT rfl ?_)
    | (refine W.condF rfl ?_)
    | (refine W.condDT rfl (by first | assumption | omega) ?_)
    | (refine W.condDF rfl (by first | assumption | omega) ?_)
    | (refine W.condD rfl (fun hc => ?_) (fun hc => ?_))
    | (refine WO.gS rfl (fun hc => ?_) (fun hc => ?_) <;> try (exfalso; omega))
    | (refine WO.pickS rfl (fun hc => ?_) (fun hc => ?_) <;> try (exfalso; omega))
    | (refine W.skip ?_)
    | (refine W.block ?_)
    | (refine W.drawA rfl ?_)
    | (refine W.sdrawA rfl ?_)
    | (refine And.intro rfl ?_)
    | (refine W.exit ?_)
    | (refine W.ret ?_)
    | (refine W.seq ?_)
    | (refine W.goto ?_)
    | (refine W.label ?_)
    | (refine SQ.nn ?_)
    | (refine SQ.x ?_)
    | (refine SQ.r ?_)
    | (refine SQ.g ?_)
    | (refine BQ.nn ?_)
    | (refine BQ.x ?_)
    | (refine BQ.r ?_)
    | (refine BQ.g ?_)
    | (refine BQ.y rfl ?_)
    | (refine LQ.x ?_)
    | (refine LQ.r ?_)
    | (refine LQ.g ?_)
    | (refine GQ.nn ?_)
    | (refine GQ.x ?_)
    | (refine GQ.r ?_))
  all_goals first
    | (have hb2 : b < H1.length := by omega
       have hnb : bo a2 ≠ some b := ap.ne hb2 hbo
       refine ⟨rfl, a2, ⟨⟨_, ot4, .inr rfl⟩, own3.upd u4 hnb, hnb, fun h => ?_, B.e⟩, ⟨fun c hc h1 h2 => ?_, ?_, fun c hc => ?_⟩⟩
       · obtain ⟨h1, h2⟩ := List.append_eq_nil_iff.1 h
         exact hnil (hnl h1) h2
       · exact (u4.keep c h1).trans ((ap.keep c (by omega) h2).trans (u1.keep c h1))
       · have := ap.len; have := u4.len; omega
       · exact (ap.place c hc).elim (fun h => .inr (by omega)) .inl)
theorem str_FR {h : Heap} {b e : Nat} {xs : List AV} {buf : AV} {L : List Int} (B : Bld h b e xs buf L) (hl : L.length ≤ 140737488355328) :
    FR Tryd.prog TT 29 [.pt b 0 0] h fun x H => x = .s (.string (strOfNums L)) ∧ (∃ ad, ObjT H b e (ad :: buf :: xs)) ∧ (∀ c, bo buf ≠ some c → bk H c = bk h c) ∧ H.length = h.length := by
  obtain ⟨ad, ot, ha⟩ := B.x
  have own := B.o
  have hbo := B.ne
  have ob := ot.o
  have hne := B.nl
  refine FR.of q29 (by kernel_rfl) ?_
  unfold c29
  by_cases h1 : L = []
  · have h2 := hne h1
    subst h1 h2
    repeat' (first
      | (refine WO.mvE (.s (.slice none 0 0)) rfl ?_)
      | (refine WO.lenN rfl ?_)
      | (refine WO.sdN (z := 0) rfl ?_)
      | (refine WO.ustrN rfl rfl ?_)
      | (refine EQ.fin rfl ?_)
      | (refine WO.mvs rfl ?_)
      | (refine WO.mvp rfl ?_)
      | (refine WO.mvt rfl ?_)
      | (refine WO.mv ?_)
      | (refine W.sreg ?_)
      | (refine W.sdraw ?_)
      | (refine W.reg ?_)
      | (refine W.draw ?_)
      | (refine WO.nil ?_)
      | (refine WO.gU rfl ?_)
      | (refine WO.gT rfl rfl ?_)
      | (refine WO.gF rfl rfl ?_)
      | (refine WO.ext rfl rfl ?_)
      | (refine WO.lenR (by assumption) ?_)
      | (refine WO.add rfl rfl (by first | exact wrOK (by simp only [loK, hiK]; omega) | rfl) ?_)
      | (refine WO.sub rfl rfl (by first | exact wrOK (by simp only [loK, hiK]; omega) | rfl) ?_)
      | (refine WO.lss rfl rfl ?_)
      | (refine WO.leq rfl rfl ?_)
      | (refine WO.gtr rfl rfl ?_)
      | (refine WO.geq rfl rfl ?_)
      | (refine WO.eql rfl rfl ?_)
      | (refine WO.neq rfl rfl ?_)
      | (refine WO.seql rfl rfl ?_)
      | (refine WO.sneq rfl rfl ?_)
      | (refine WO.beql rfl rfl (tb rfl) ?_)
      | (refine WO.bneq rfl rfl (tb rfl) ?_)
      | (refine WO.not rfl ?_)
      | (refine WO.not0 rfl ?_)
      | (refine WO.cvi rfl (kd rfl) (kd rfl) (by first | exact wrOK (by simp only [loK, hiK]; omega) | rfl) ?_)
      | (refine WO.cvs rfl (st rfl) (st rfl) ?_)
      | (refine WO.ix rfl rfl (st rfl) (by first | assumption | omega) (by first | assumption | omega) ?_)
      | (refine WO.slen rfl (st rfl) ?_)
      | (refine WO.iaddr (by assumption) rfl rfl (by first | assumption | omega) (by first | assumption | omega) (fun q hq => ?_))
      | (refine WO.load (by assumption) rfl rfl ?_)
      | (refine WO.loadO rfl (by assumption) rfl rfl ?_)
      | (refine WO.faddrP (by assumption) rfl (fun q hq => ?_))
      | (refine WO.nilckP (by assumption) ?_)
      | (refine WO.nilck rfl ?_)
      | (refine WO.faddr rfl ?_)
      | (refine WO.fld rfl rfl rfl ?_)
      | (refine WO.pickT rfl ?_)
      | (refine WO.pickF rfl ?_)
      | (refine WO.sll rfl rfl (st rfl) (by first | assumption | omega) (by first | assumption | omega) ?_)
      | (refine WO.slh rfl rfl (st rfl) (by first | assumption | omega) (by first | assumption | omega) ?_)
      | (refine WO.slb rfl rfl rfl (st rfl) (by first | assumption | omega) (by first | assumption | omega) (by first | assumption | omega) ?_)
      | (refine WO.mul rfl rfl (by first | exact wrOK (by simp only [loK, hiK]; omega) | rfl) ?_)
      | (refine WO.quo rfl rfl (by first | assumption | omega) (by first | exact wrOK (by simp only [loK, hiK]; omega) | rfl) ?_)
      | (refine WO.rem rfl rfl (by first | assumption | omega) ?_)
      | (refine WO.and rfl rfl ?_)
      | (refine WO.or rfl rfl ?_)
      | (refine WO.xor rfl rfl ?_)
      | (refine WO.shl rfl rfl (by first | assumption | omega) (by simp [IntKind.bits]; rfl) ?_)
      | (refine WO.shr rfl rfl (by first | assumption | omega) (by simp [IntKind.bits]; rfl) ?_)
      | (refine WO.build (C := [_]) rfl ?_)
      | (refine WO.build (C := [_, _]) rfl ?_)
      | (refine WO.build (C := [_, _, _]) rfl ?_)
      | (refine WO.build (C := [_, _, _, _]) rfl ?_)
      | (refine WO.build (C := [_, _, _, _, _]) rfl ?_)
      | (refine WO.build (C := [_, _, _, _, _, _]) rfl ?_)
      | (refine WO.build (C := [_, _, _, _, _, _, _]) rfl ?_)
      | (refine WO.eqnil (by assumption) (fun hn1 hn2 => ?_) ?_)
      | (refine W.condT rfl ?_)
      | (refine W.condF rfl ?_)
      | (refine W.condDT rfl (by first | assumption | omega) ?_)
      | (refine W.condDF rfl (by first | assumption | omega) ?_)
      | (refine W.condD rfl (fun hc => ?_) (fun hc => ?_))
      | (refine WO.gS rfl (fun hc => ?_) (fun hc => ?_) <;> try (exfalso; omega))
      | (refine WO.pickS rfl (fun hc => ?_) (fun hc => ?_) <;> try (exfalso; omega))
      | (refine W.skip ?_)
      | (refine W.block ?_)
      | (refine W.drawA rfl ?_)
      | (refine W.sdrawA rfl ?_)
      | (refine And.intro rfl ?_)
      | (refine W.exit ?_)
      | (refine W.ret ?_)
      | (refine W.seq ?_)
      | (refine W.goto ?_)
      | (refine W.label ?_)
      | (refine SQ.nn ?_)
      | (refine SQ.x ?_)
      | (refine SQ.r ?_)
      | (refine SQ.g ?_)
      | (refine BQ.nn ?_)
      | (refine BQ.x ?_)
      | (refine BQ.r ?_)
      | (refine BQ.g ?_)
      | (refine BQ.y rfl ?_)
      | (refine LQ.x ?_)
      | (refine LQ.r ?_)
      | (refine LQ.g ?_)
      | (refine GQ.nn ?_)
      | (refine GQ.x ?_)
      | (refine GQ.r ?_))
    · exact ⟨rfl, ⟨_, ot⟩, fun c _ => rfl, rfl⟩
  · have own' := own
    obtain ⟨bb, v, o, rfl⟩ : ∃ bb v o, buf = .sl bb v o L.length 1 := by
      rcases own' with ⟨_, h2⟩ | ⟨bb, v, o, k, h2, _⟩
      · exact absurd h2 h1
      · exact ⟨bb, v, o, h2⟩
    have hp : 0 < L.length := List.length_pos_iff.2 h1
    repeat' (first
      | (refine WO.mvE (.sl bb v o L.length 1) rfl ?_)
      | (refine WO.lenR own.row ?_)
      | (refine WO.sdS rfl hp ?_)
      | (refine WO.ustrS rfl rfl own' h1 (by omega) (fun H2 u2 => ?_))
      | (refine EQ.fin rfl ?_)
      | (refine WO.mvs rfl ?_)
      | (refine WO.mvp rfl ?_)
      | (refine WO.mvt rfl ?_)
      | (refine WO.mv ?_)
      | (refine W.sreg ?_)
      | (refine W.sdraw ?_)
      | (refine W.reg ?_)
      | (refine W.draw ?_)
      | (refine WO.nil ?_)
      | (refine WO.gU rfl ?_)
      | (refine WO.gT rfl rfl ?_)
      | (refine WO.gF rfl rfl ?_)
      | (refine WO.ext rfl rfl ?_)
      | (refine WO.lenR (by assumption) ?_)
      | (refine WO.add rfl rfl (by first | exact wrOK (by simp only [loK, hiK]; omega) | rfl) ?_)
      | (refine WO.sub rfl rfl (by first | exact wrOK (by simp only [loK, hiK]; omega) | rfl) ?_)
      | (refine WO.lss rfl rfl ?_)
      | (refine WO.leq rfl rfl ?_)
      | (refine WO.gtr rfl rfl ?_)
      | (refine WO.geq rfl rfl ?_)
      | (refine WO.eql rfl rfl ?_)
      | (refine WO.neq rfl rfl ?_)
      | (refine WO.seql rfl rfl ?_)
      | (refine WO.sneq rfl rfl ?_)
      | (refine WO.beql rfl rfl (tb rfl) ?_)
      | (refine WO.bneq rfl rfl (tb rfl) ?_)
      | (refine WO.not rfl ?_)
      | (refine WO.not0 rfl ?_)
      | (refine WO.cvi rfl (kd rfl) (kd rfl) (by first | exact wrOK (by simp only [loK, hiK]; omega) | rfl) ?_)
      | (refine WO.cvs rfl (st rfl) (st rfl) ?_)
      | (refine WO.ix rfl rfl (st rfl) (by first | assumption | omega) (by first | assumption | omega) ?_)
      | (refine WO.slen rfl (st rfl) ?_)
      | (refine WO.iaddr (by assumption) rfl rfl (by first | assumption | omega) (by first | assumption | omega) (fun q hq => ?_))
      | (refine WO.load (by assumption) rfl rfl ?_)
      | (refine WO.loadO rfl (by assumption) rfl rfl ?_)
      | (refine WO.faddrP (by assumption) rfl (fun q hq => ?_))
      | (refine WO.nilckP (by assumption) ?_)
      | (refine WO.nilck rfl ?_)
      | (refine WO.faddr rfl ?_)
      | (refine WO.fld rfl rfl rfl ?_)
      | (refine WO.pickT rfl ?_)
      | (refine WO.pickF rfl ?_)
      | (refine WO.sll rfl rfl (st rfl) (by first | assumption | omega) (by first | assumption | omega) ?_)
      | (refine WO.slh rfl rfl (st rfl) (by first | assumption | omega) (by first | assumption | omega) ?_)
      | (refine WO.slb rfl rfl rfl (st rfl) (by first | assumption | omega) (by first | assumption | omega) (by first | assumption | omega) ?_)
      | (refine WO.mul rfl rfl (by first | exact wrOK (by simp only [loK, hiK]; omega) | rfl) ?_)
      | (refine WO.quo rfl rfl (by first | assumption | omega) (by first | exact wrOK (by simp only [loK, hiK]; omega) | rfl) ?_)
      | (refine WO.rem rfl rfl (by first | assumption | omega) ?_)
      | (refine WO.and rfl rfl ?_)
      | (refine WO.or rfl rfl ?_)
      | (refine WO.xor rfl rfl ?_)
      | (refine WO.shl rfl rfl (by first | assumption | omega) (by simp [IntKind.bits]; rfl) ?_)
      | (refine WO.shr rfl rfl (by first | assumption | omega) (by simp [IntKind.bits]; rfl) ?_)
      | (refine WO.build (C := [_]) rfl ?_)
      | (refine WO.build (C := [_, _]) rfl ?_)
      | (refine WO.build (C := [_, _, _]) rfl ?_)
      | (refine WO.build (C := [_, _, _, _]) rfl ?_)
      | (refine WO.build (C := [_, _, _, _, _]) rfl ?_)
      | (refine WO.build (C := [_, _, _, _, _, _]) rfl ?_)
      | (refine WO.build (C := [_, _, _, _, _, _, _]) rfl ?_)
      | (refine WO.eqnil (by assumption) (fun hn1 hn2 => ?_) ?_)
      | (refine W.condT rfl ?_)
      | (refine W.condF rfl ?_)
      | (refine W.condDT rfl (by first | assumption | omega) ?_)
      | (refine W.condDF rfl (by first | assumption | omega) ?_)
      | (refine W.condD rfl (fun hc => ?_) (fun hc => ?_))
      | (refine WO.gS rfl (fun hc => ?_) (fun hc => ?_) <;> try (exfalso; omega))
      | (refine WO.pickS rfl (fun hc => ?_) (fun hc => ?_) <;> try (exfalso; omega))
      | (refine W.skip ?_)
      | (refine W.block ?_)
      | (refine W.drawA rfl ?_)
      | (refine W.sdrawA rfl ?_)
      | (refine And.intro rfl ?_)
      | (refine W.exit ?_)
      | (refine W.ret ?_)
      | (refine W.seq ?_)
      | (refine W.goto ?_)
      | (refine W.label ?_)
      | (refine SQ.nn ?_)
      | (refine SQ.x ?_)
      | (refine SQ.r ?_)
      | (refine SQ.g ?_)
      | (refine BQ.nn ?_)
      | (refine BQ.x ?_)
      | (refine BQ.r ?_)
      | (refine BQ.g ?_)
      | (refine BQ.y rfl ?_)
      | (refine LQ.x ?_)
      | (refine LQ.r ?_)
      | (refine LQ.g ?_)
      | (refine GQ.nn ?_)
      | (refine GQ.x ?_)
      | (refine GQ.r ?_))
    · exact ⟨rfl, ⟨_, ot.upd u2 (fun e => hbo (congrArg some e.symm))⟩, fun c hc => u2.keep c (fun e => hc (congrArg some e.symm)), u2.len⟩
theorem reset_FR {h : Heap} {b e : Nat} {xs : List AV} {ad buf : AV} (ot : ObjT h b e (ad :: buf :: xs)) (he : e = 49 ∧ xs.length = 0 ∨ e = 70 ∧ xs.length = 1) :
    FR Tryd.prog TT 30 [.pt b 0 0] h fun x H => x = .tp [] ∧ Bld H b e xs (.s (.slice none 0 0)) [] ∧ Upd h H b := by
  refine FR.of q30 (by kernel_rfl) ?_
  unfold c30
  repeat' (first
    | (refine WO.storeT rfl ot rfl rfl rfl rfl rfl (fun H1 ot1 u1 => ?_))
    | (refine WO.storeT rfl ot1 rfl rfl rfl rfl rfl (fun H2 ot2 u2 => ?_))
    | (refine LQ.fin ?_)
    | (refine EQ.fin rfl ?_)
    | (refine EQ.finN rfl ?_)
    | (refine WO.mvs rfl ?_)
    | (refine WO.mvp rfl ?_)
    | (refine WO.mvt rfl ?_)
    | (refine WO.mv ?_)
    | (refine W.sreg ?_)
    | (refine W.sdraw ?_)
    | (refine W.reg ?_)
    | (refine W.draw ?_)
    | (refine WO.nil ?_)
    | (refine WO.gU rfl ?_)
    | (refine WO.gT rfl rfl ?_)
    | (refine WO.gF rfl rfl ?_)
    | (refine WO.ext rfl rfl ?_)
    | (refine WO.lenR (by assumption) ?_)
    | (refine WO.add rfl rfl (by first | exact wrOK (by simp only [loK, hiK]; omega) | rfl) ?_)
    | (refine WO.sub rfl rfl (by first | exact wrOK (by simp only [loK, hiK]; omega) | rfl) ?_)
    | (refine WO.lss rfl rfl ?_)
    | (refine WO.leq rfl rfl ?_)
    | (refine WO.gtr rfl rfl ?_)
    | (refine WO.geq rfl rfl ?_)
    | (refine WO.eql rfl rfl ?_)
    | (refine WO.neq rfl rfl ?_)
    | (refine WO.seql rfl rfl ?_)
    | (refine WO.sneq rfl rfl ?_)
    | (refine WO.beql rfl rfl (tb rfl) ?_)
    | (refine WO.bneq rfl rfl (tb rfl) ?_)
    | (refine WO.not rfl ?_)
    | (refine WO.not0 rfl ?_)
    | (refine WO.cvi rfl (kd rfl) (kd rfl) (by first | exact wrOK (by simp only [loK, hiK]; omega) | rfl) ?_)
    | (refine WO.cvs rfl (st rfl) (st rfl) ?_)
    | (refine WO.ix rfl rfl (st rfl) (by first | assumption | omega) (by first | assumption | omega) ?_)
    | (refine WO.slen rfl (st rfl) ?_)
    | (refine WO.iaddr (by assumption) rfl rfl (by first | assumption | omega) (by first | assumption | omega) (fun q hq => ?_))
    | (refine WO.load (by assumption) rfl rfl ?_)
    | (refine WO.loadO rfl (by assumption) rfl rfl ?_)
    | (refine WO.faddrP (by assumption) rfl (fun q hq => ?_))
    | (refine WO.nilckP (by assumption) ?_)
    | (refine WO.nilck rfl ?_)
    | (refine WO.faddr rfl ?_)
    | (refine WO.fld rfl rfl rfl ?_)
    | (refine WO.pickT rfl ?_)
    | (refine WO.pickF rfl ?_)
    | (refine WO.sll rfl rfl (st rfl) (by first | assumption | omega) (by first | assumption | omega) ?_)
    | (refine WO.slh rfl rfl (st rfl) (by first | assumption | omega) (by first | assumption | omega) ?_)
    | (refine WO.slb rfl rfl rfl (st rfl) (by first | assumption | omega) (by first | assumption | omega) (by first | assumption | omega) ?_)
    | (refine WO.mul rfl rfl (by first | exact wrOK (by simp only [loK, hiK]; omega) | rfl) ?_)
    | (refine WO.quo rfl rfl (by first | assumption | omega) (by first | exact wrOK (by simp only [loK, hiK]; omega) | rfl) ?_)
    | (refine WO.rem rfl rfl (by first | assumption | omega) ?_)
    | (refine WO.and rfl rfl ?_)
    | (refine WO.or rfl rfl ?_)
    | (refine WO.xor rfl rfl ?_)
    | (refine WO.shl rfl rfl (by first | assumption | omega) (by simp [IntKind.bits]; rfl) ?_)
    | (refine WO.shr rfl rfl (by first | assumption | omega) (by simp [IntKind.bits]; rfl) ?_)
    | (refine WO.build (C := [_]) rfl ?_)
    | (refine WO.build (C := [_, _]) rfl ?_)
    | (refine WO.build (C := [_, _, _]) rfl ?_)
    | (refine WO.build (C := [_, _, _, _]) rfl ?_)
    | (refine WO.build (C := [_, _, _, _, _]) rfl ?_)
    | (refine WO.build (C := [_, _, _, _, _, _]) rfl ?_)
    | (refine WO.build (C := [_, _, _, _, _, _, _]) rfl ?_)
    | (refine WO.eqnil (by assumption) (fun hn1 hn2 => ?_) ?_)
    | (refine W.condT rfl ?_)
    | (refine W.condF rfl ?_)
    | (refine W.condDT rfl (by first | assumption | omega) ?_)
    | (refine W.condDF rfl (by first | assumption | omega) ?_)
    | (refine W.condD rfl (fun hc => ?_) (fun hc => ?_))
    | (refine WO.gS rfl (fun hc => ?_) (fun hc => ?_) <;> try (exfalso; omega))
    | (refine WO.pickS rfl (fun hc => ?_) (fun hc => ?_) <;> try (exfalso; omega))
    | (refine W.skip ?_)
    | (refine W.block ?_)
    | (refine W.drawA rfl ?_)
    | (refine W.sdrawA rfl ?_)
    | (refine And.intro rfl ?_)
    | (refine W.exit ?_)
    | (refine W.ret ?_)
    | (refine W.seq ?_)
    | (refine W.goto ?_)
    | (refine W.label ?_)
    | (refine SQ.nn ?_)
    | (refine SQ.x ?_)
    | (refine SQ.r ?_)
    | (refine SQ.g ?_)
    | (refine BQ.nn ?_)
    | (refine BQ.x ?_)
    | (refine BQ.r ?_)
    | (refine BQ.g ?_)
    | (refine BQ.y rfl ?_)
    | (refine LQ.x ?_)
    | (refine LQ.r ?_)
    | (refine LQ.g ?_)
    | (refine GQ.nn ?_)
    | (refine GQ.x ?_)
    | (refine GQ.r ?_))
  all_goals first
    | exact ⟨rfl, ⟨⟨_, ot2, .inl rfl⟩, Own.nil, by simp [bo], fun _ => rfl, he⟩, ⟨fun c hc => (u2.keep c hc).trans (u1.keep c hc), u2.len.trans u1.len⟩⟩
end Go.Proofs.YtdgnddidibpilaaDoor.AS
end
section
set_option autoImplicit false
set_option maxHeartbeats 1000000
set_option linter.unusedSimpArgs false
set_option linter.unusedVariables false
namespace Go.Proofs.YtdgnddidibpilaaDoor.AS
open Go Go.Proofs Go.RowKit Go.Proofs.YtdgnddidibpilaaDoor.AS.V
theorem bt_range (s : ByteArray) (i : Int) : 0 ≤ bt s i ∧ bt s i ≤ 255 := by
  unfold bt
  split
  · rename_i h
    have := (s[i.toNat]'h).toNat_lt
    omega
  · omega
/-- How many stand ahead of the first that is so. -/
def cntU (p : Int → Bool) : List Int → Nat
  | [] => 0
  | c :: r => if p c = true then 0 else cntU p r + 1
theorem cntU_le (p : Int → Bool) : ∀ L : List Int, cntU p L ≤ L.length
  | [] => Nat.le_refl _
  | c :: r => by
    rw [cntU]
    have := cntU_le p r
    split <;> simp only [List.length_cons] <;> omega
/-- What is ahead of it is not so, and it is so. -/
theorem cntU_eq {p : Int → Bool} {s : ByteArray} {i : Nat} (hi : i ≤ s.size) (h1 : ∀ j : Nat, j < i → p (bt s (j : Int)) = false) (h2 : i < s.size → p (bt s (i : Int)) = true) : cntU p (bytesOf s) = i := by
  have key : ∀ n k : Nat, k + n = i → cntU p ((bytesOf s).drop k) = n := by
    intro n
    induction n with
    | zero =>
      intro k hk
      rcases Nat.lt_or_ge k s.size with h | h
      · rw [bytesOf_drop_cons s k h, cntU, if_pos (by rw [show k = i by omega]; exact h2 (by omega))]
      · rw [List.drop_eq_nil_of_le (by rw [bytesOf_length]; exact h)]; rfl
    | succ n ih =>
      intro k hk
      rw [bytesOf_drop_cons s k (by omega), cntU, if_neg (by rw [h1 k (by omega)]; decide), ih (k + 1) (by omega)]
  have := key i 0 (by omega)
  rwa [List.drop_zero] at this
theorem cntU_at {p : Int → Bool} (s : ByteArray) : (∀ j : Nat, j < cntU p (bytesOf s) → p (bt s (j : Int)) = false) ∧ (cntU p (bytesOf s) < s.size → p (bt s ((cntU p (bytesOf s) : Nat) : Int)) = true) := by
  have key : ∀ n k : Nat, k + n = s.size → (∀ j : Nat, j < cntU p ((bytesOf s).drop k) → p (bt s ((k + j : Nat) : Int)) = false) ∧ (k + cntU p ((bytesOf s).drop k) < s.size → p (bt s ((k + cntU p ((bytesOf s).drop k) : Nat) : Int)) = true) := by
    intro n
    induction n with
    | zero =>
      intro k hk
      rw [List.drop_eq_nil_of_le (by rw [bytesOf_length]; omega)]
      exact ⟨fun j hj => absurd hj (Nat.not_lt_zero _), fun h => by simp [cntU] at h; omega⟩
    | succ n ih =>
      intro k hk
      obtain ⟨i1, i2⟩ := ih (k + 1) (by omega)
      rw [bytesOf_drop_cons s k (by omega), cntU]
      split
      · rename_i hp
        exact ⟨fun j hj => absurd hj (Nat.not_lt_zero _), fun _ => hp⟩
      · rename_i hp
        refine ⟨fun j hj => ?_, fun h => ?_⟩
        · rcases j with _ | j
          · exact Bool.eq_false_iff.2 hp
          · have := i1 j (by omega)
            rwa [show k + 1 + j = k + (j + 1) by omega] at this
        · have := i2 (by omega)
          rwa [show k + 1 + cntU p ((bytesOf s).drop (k + 1)) = k + (cntU p ((bytesOf s).drop (k + 1)) + 1) by omega] at this
  have := key s.size 0 (by omega)
  simpa using this
def isB (c : Int) (x : Int) : Bool := decide (x = c)
theorem idx_cnt {s : ByteArray} {c : Int} (h0 : 0 ≤ c) (h1 : c ≤ 255) : idxS s c = if cntU (isB c) (bytesOf s) < s.size then (cntU (isB c) (bytesOf s) : Int) else -1 := by
  have hl : s.size = s.data.toList.length := by rw [Array.length_toList]; rfl
  unfold idxS bytesOf
  rw [hl]
  generalize s.data.toList = L
  have hc : ∀ b : UInt8, (b == c.toNat.toUInt8) = isB c (b.toNat : Int) := by
    intro b
    unfold isB
    rw [Bool.eq_iff_iff, beq_iff_eq, decide_eq_true_iff]
    constructor
    · rintro rfl
      have : c.toNat.toUInt8.toNat = c.toNat % 256 := UInt8.toNat_ofNat'
      omega
    · intro h
      apply UInt8.toNat_inj.1
      have : c.toNat.toUInt8.toNat = c.toNat % 256 := UInt8.toNat_ofNat'
      omega
  induction L with
  | nil => rfl
  | cons b L ih =>
    rw [Lib.indexByte, hc, List.map_cons, cntU, ih, List.length_cons]
    cases isB c (b.toNat : Int) with
    | true => simp
    | false =>
      simp only [Bool.false_eq_true, if_false]
      by_cases h : cntU (isB c) (L.map fun b => (b.toNat : Int)) < L.length
      · simp only [if_pos h]
        rw [if_neg (by simp only [beq_iff_eq]; omega), if_pos (by omega)]
        omega
      · simp only [if_neg h]
        rw [if_pos (by simp), if_neg (by omega)]
/-- A text from a place on. -/
def sfx (s : ByteArray) (k : Nat) : ByteArray := s.extract k s.size
theorem sfx_size (s : ByteArray) (k : Nat) : (sfx s k).size = s.size - k := by unfold sfx; rw [ByteArray.size_extract]; omega
theorem sfx_bytes (s : ByteArray) (k : Nat) : bytesOf (sfx s k) = (bytesOf s).drop k := by
  unfold sfx
  rw [bytesOf_extract s k s.size (Nat.le_refl _), List.take_of_length_le (by rw [bytesOf_length]; exact Nat.le_refl _)]
/-- A text up to a place. -/
def pfx (s : ByteArray) (k : Nat) : ByteArray := s.extract 0 k
theorem pfx_size (s : ByteArray) (k : Nat) (h : k ≤ s.size) : (pfx s k).size = k := by unfold pfx; rw [ByteArray.size_extract]; omega
theorem pfx_bytes (s : ByteArray) (k : Nat) (h : k ≤ s.size) : bytesOf (pfx s k) = (bytesOf s).take k := by
  unfold pfx
  rw [bytesOf_extract s 0 k h, List.drop_zero]
theorem sfx_0 (s : ByteArray) : sfx s 0 = s := bytesOf_inj (by rw [sfx_bytes, List.drop_zero])
theorem sfx_all {s : ByteArray} {k : Nat} (h : s.size ≤ k) : sfx s k = ⟨#[]⟩ := bytesOf_inj (by rw [sfx_bytes, List.drop_eq_nil_of_le (by rw [bytesOf_length]; exact h)]; rfl)
theorem pfx_all {s : ByteArray} : pfx s s.size = s := bytesOf_inj (by rw [pfx_bytes s _ (Nat.le_refl _), List.take_of_length_le (by rw [bytesOf_length]; exact Nat.le_refl _)])
theorem sfx_sfx (s : ByteArray) (k j : Nat) : sfx (sfx s k) j = sfx s (k + j) := bytesOf_inj (by rw [sfx_bytes, sfx_bytes, sfx_bytes, List.drop_drop])
theorem pfx_pfx (s : ByteArray) {k j : Nat} (h : j ≤ k) (hk : k ≤ s.size) : pfx (pfx s k) j = pfx s j := bytesOf_inj (by rw [pfx_bytes _ _ (by rw [pfx_size s k hk]; exact h), pfx_bytes s k hk, pfx_bytes s j (by omega), List.take_take, Nat.min_eq_left h])
theorem bt_get {s : ByteArray} {i : Nat} (h : i < s.size) : bt s (i : Int) = nth (bytesOf s) (i : Int) := by
  rw [nth_eq (by rw [bytesOf_length]; exact h)]
  exact (bytesOf_get s i h).symm
theorem pfx_bt (s : ByteArray) {k i : Nat} (hk : k ≤ s.size) (h : i < k) : bt (pfx s k) (i : Int) = bt s (i : Int) := by
  have hz := pfx_size s k hk
  rw [bt_get (by omega), bt_get (by omega), nth_eq (by rw [bytesOf_length]; simp; omega), nth_eq (by rw [bytesOf_length]; simp; omega)]
  have := pfx_bytes s k hk
  simp only [Int.toNat_natCast, this, List.getElem_take]
theorem sfx_bt (s : ByteArray) {k i : Nat} (h : k + i < s.size) : bt (sfx s k) (i : Int) = bt s ((k + i : Nat) : Int) := by
  have hz := sfx_size s k
  rw [bt_get (by omega), bt_get (by omega), nth_eq (by rw [bytesOf_length]; simp; omega), nth_eq (by rw [bytesOf_length]; simp; omega)]
  have := sfx_bytes s k
  simp only [Int.toNat_natCast, this, List.getElem_drop]
/-- The end of a text's first line, and where the next one begins. -/
def nlP (s : ByteArray) : Nat := cntU (isB 10) (bytesOf s)
def eolN (s : ByteArray) : Nat := if nlP s < s.size ∧ 0 < nlP s ∧ bt s ((nlP s : Int) - 1) = 13 then nlP s - 1 else nlP s
def nxtN (s : ByteArray) : Nat := if nlP s < s.size then nlP s + 1 else nlP s
theorem nlP_le (s : ByteArray) : nlP s ≤ s.size := by have := cntU_le (isB 10) (bytesOf s); rw [bytesOf_length] at this; exact this
def lineT (s : ByteArray) : ByteArray := pfx s (eolN s)
def moreT (s : ByteArray) : ByteArray := sfx s (nxtN s)
/-- A name's letter. -/
def letB (c : Int) : Bool := decide (32 < c ∧ c < 127 ∧ c ≠ 58)
def letN (s : ByteArray) : Nat := cntU (fun c => !letB c) (bytesOf s)
def namN (s : ByteArray) : Nat := if letN s < s.size ∧ bt s (letN s : Int) = 58 then letN s else 0
/-- A small letter. -/
def smB (c : Int) : Int := if 65 ≤ c ∧ c ≤ 90 then c + 32 else c
def likeL (a b : List Int) : Bool := decide (a.map smB = b.map smB)
def likeS (a b : ByteArray) : Bool := likeL (bytesOf a) (bytesOf b)
end Go.Proofs.YtdgnddidibpilaaDoor.AS
end
