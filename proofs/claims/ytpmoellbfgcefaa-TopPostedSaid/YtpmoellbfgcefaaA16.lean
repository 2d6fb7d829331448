/- Of our own: an abstract machine beside the model, its soundness, and walks of the program in it. -/
import Derived.Test.YtpmoellbfgcefaaA15
set_option linter.unusedSimpArgs false
set_option linter.unusedVariables false
section
set_option autoImplicit false
set_option maxRecDepth 100000
set_option maxHeartbeats 2000000
set_option linter.unusedSimpArgs false
namespace Go.Proofs.Ytpmoellbfgcefaa.AS
open Go Go.Proofs Go.RowKit Go.Proofs.Ytpmoellbfgcefaa.AS.V

def key0 (x : Int × Int) : Int × ByteArray := (x.1, ⟨#[]⟩)
def szC (x : Int × Int) : AV := .s (.int .u64 x.2)
def outS (b : Nat) : List (Int × Int) → AV
  | [] => .s (.slice none 0 0)
  | _ :: L => .sl b L.length 0 (L.length + 1) 1
def outK (b : Nat) : List (Int × Int) → AV
  | [] => .s (.slice none 0 0)
  | _ :: L => .sl b L.length 0 (L.length + 1) 2
theorem outS_sl {b m : Nat} {L : List (Int × Int)} (h : L.length = m + 1) : outS b L = .sl b m 0 (m + 1) 1 := by
  cases L with
  | nil => simp at h
  | cons x L => simp at h; simp [outS, h]
theorem outK_sl {b m : Nat} {L : List (Int × Int)} (h : L.length = m + 1) : outK b L = .sl b m 0 (m + 1) 2 := by
  cases L with
  | nil => simp at h
  | cons x L => simp at h; simp [outK, h]
structure InvR (h0 h' : Heap) (bo bs : Nat) (L : List (Int × Int)) : Prop where
  old : ∀ b, b < h0.length → bk h' b = bk h0 b
  len : h0.length ≤ h'.length
  out : L ≠ [] → h0.length ≤ bo ∧ h0.length ≤ bs ∧ bo ≠ bs ∧ bk h' bo = some ⟨L.length - 1, 52, 2, true, (L.map key0).flatMap entC⟩ ∧ bk h' bs = some ⟨L.length - 1, 35, 1, true, L.map szC⟩
def fr56 (s0 : ByteArray) (many : Int) (rest : ByteArray) (out sizes : AV) (i : Int) (a1 a7 a11 a12 a13 a14 a15 a16 a17 a18 a19 a20 a21 a22 a23 a24 a25 a26 a27 a28 a29 a85 a86 a87 a88 a89 a90 a91 a92 a93 a94 a95 a96 a97 a98 a99 a100 a101 a102 a103 a104 a105 a106 a107 a108 a109 : AV) : List AV := [.s (.string s0), a1, .any, .any, .any, .s (.int .u64 many), .s (.string rest), a7, out, sizes, .s (.int .u64 i), a11, a12, a13, a14, a15, a16, a17, a18, a19, a20, a21, a22, a23, a24, a25, a26, a27, a28, a29] ++ List.replicate 55 .any ++ [a85, a86, a87, a88, a89, a90, a91, a92, a93, a94, a95, a96, a97, a98, a99, a100, a101, a102, a103, a104, a105, a106, a107, a108, a109]
noncomputable def tail56 : ACode := match c56 with
  | .seq _ (.seq _ (.seq _ (.seq _ t))) => t
  | _ => .skip
noncomputable def body56 : ACode := match tail56 with
  | .seq _ (.seq _ (.seq (.seq _ (.block _ (.loop _ b))) _)) => b
  | _ => .skip
noncomputable def fg56 : List Nat := match tail56 with
  | .seq _ (.seq _ (.seq (.seq _ (.block _ (.loop fg _))) _)) => fg
  | _ => []
def err3 (tm : List AV) (w : Int) : Prop := tm[2]? = some (.s (.slice none 0 0)) ∧ tm[3]? = some (.s (.string ⟨#[]⟩)) ∧ tm[4]? = some (.s (.int .i64 w))
theorem numS_z (s : ByteArray) : numS s 0 = gets s := if_pos rfl
theorem numS_e {w : Int} (s : ByteArray) (h : w ≠ 0) : numS s w = (0, s, w) := if_neg h
theorem gets_size {s : ByteArray} (hs : s.size ≤ 9223372036854775807) : (gets s).2.1.size ≤ 9223372036854775807 := Nat.le_trans (gets_shorter s) hs
theorem key0_len (L : List (Int × Int)) : ((L.map key0).flatMap entC).length = L.length * 2 := by rw [entC_len]; simp
def fx56 (s0 : ByteArray) (many : Int) (rest : ByteArray) (out sizes : AV) (i : Int) (a1 a7 a11 a12 a13 a14 a15 a16 a17 a18 a19 a20 a21 a22 a23 a24 a25 a26 a27 a28 a29 a85 a86 a87 a88 a89 a90 a91 a92 a93 a94 a95 a96 a97 a98 a99 a100 a101 a102 a103 a104 a105 a106 a107 a108 a109 : AV) : List AV := [.s (.string s0), a1, .any, .any, .any, .s (.int .u64 many), .s (.string rest), a7, out, sizes, .s (.int .u64 i), a11, a12, a13, a14, a15, a16, a17, a18, a19, a20, a21, a22, a23, a24, a25, a26, a27, a28, a29, .s (.int .u64 i), .s (.int .u64 many), .s (.bool false)] ++ List.replicate 52 .any ++ [a85, a86, a87, a88, a89, a90, a91, a92, a93, a94, a95, a96, a97, a98, a99, a100, a101, a102, a103, a104, a105, a106, a107, a108, a109]
theorem ref_end {T : FuncId → Option AFunc} (s0 : ByteArray) (h' : Heap) (many : Int) (rest : ByteArray) (out sizes : AV) (i : Int) (hi : ¬ i < many) (a1 a7 a11 a12 a13 a14 a15 a16 a17 a18 a19 a20 a21 a22 a23 a24 a25 a26 a27 a28 a29 a85 a86 a87 a88 a89 a90 a91 a92 a93 a94 a95 a96 a97 a98 a99 a100 a101 a102 a103 a104 a105 a106 a107 a108 a109 : AV) :
    Run Try.prog T body56 (fr56 s0 many rest out sizes i a1 a7 a11 a12 a13 a14 a15 a16 a17 a18 a19 a20 a21 a22 a23 a24 a25 a26 a27 a28 a29 a85 a86 a87 a88 a89 a90 a91 a92 a93 a94 a95 a96 a97 a98 a99 a100 a101 a102 a103 a104 a105 a106 a107 a108 a109) h' (.exit 0, fx56 s0 many rest out sizes i a1 a7 a11 a12 a13 a14 a15 a16 a17 a18 a19 a20 a21 a22 a23 a24 a25 a26 a27 a28 a29 a85 a86 a87 a88 a89 a90 a91 a92 a93 a94 a95 a96 a97 a98 a99 a100 a101 a102 a103 a104 a105 a106 a107 a108 a109, h') := by
  apply Run.step 40; intro k j
  simp [c56, tail56, body56, fr56, fx56, eq_false hi]

theorem ref0A {T : FuncId → Option AFunc} (hG : T 75 = some (.hook hkGet)) (s0 : ByteArray) (h0 h' : Heap) (bo bs : Nat) (many : Int) (s : ByteArray) (hs : s.size ≤ 9223372036854775807) (hm : 0 < many) (hI : InvR h0 h' bo bs []) (hw : (gets s).2.2 ≠ 0)
    (a1 a7 a11 a12 a13 a14 a15 a16 a17 a18 a19 a20 a21 a22 a23 a24 a25 a26 a27 a28 a29 a85 a86 a87 a88 a89 a90 a91 a92 a93 a94 a95 a96 a97 a98 a99 a100 a101 a102 a103 a104 a105 a106 a107 a108 a109 : AV) : ∃ tm' H, err3 tm' (gets s).2.2 ∧ (∀ b, b < h0.length → bk H b = bk h0 b) ∧ Run Try.prog T body56 (fr56 s0 many s (outK bo []) (outS bs []) 0 a1 a7 a11 a12 a13 a14 a15 a16 a17 a18 a19 a20 a21 a22 a23 a24 a25 a26 a27 a28 a29 a85 a86 a87 a88 a89 a90 a91 a92 a93 a94 a95 a96 a97 a98 a99 a100 a101 a102 a103 a104 a105 a106 a107 a108 a109) h' (.ret, tm', H) := by
  have hcall := fun k l h => evFn_hook (P := Try.prog) (T := T) (k := k) (f := 75) (args := l) (h := h) hG
  have hs1 := gets_size hs
  have hs2 := gets_size hs1
  have hle := hI.len
  refine ⟨?q1, ?q2, ?q3, ?q4, Run.step 60 fun k j => ?q5⟩
  case q5 =>
    simp [c56, tail56, body56, fr56, hcall, hkGet, hs, hs1, hs2, oneOr, cellsOf, isCell, fillA, hm, outK, outS, eq_false hw]
    (first | rfl | (constructor <;> rfl))
  case q3 => exact ⟨rfl, rfl, rfl⟩
  case q4 =>
    exact hI.old

theorem ref0B {T : FuncId → Option AFunc} (hG : T 75 = some (.hook hkGet)) (s0 : ByteArray) (h0 h' : Heap) (bo bs : Nat) (many : Int) (s : ByteArray) (hs : s.size ≤ 9223372036854775807) (hm : 0 < many) (hI : InvR h0 h' bo bs []) (hw : (gets s).2.2 = 0) (hz : (gets (gets s).2.1).2.2 ≠ 0)
    (a1 a7 a11 a12 a13 a14 a15 a16 a17 a18 a19 a20 a21 a22 a23 a24 a25 a26 a27 a28 a29 a85 a86 a87 a88 a89 a90 a91 a92 a93 a94 a95 a96 a97 a98 a99 a100 a101 a102 a103 a104 a105 a106 a107 a108 a109 : AV) : ∃ tm' H, err3 tm' (gets (gets s).2.1).2.2 ∧ (∀ b, b < h0.length → bk H b = bk h0 b) ∧ Run Try.prog T body56 (fr56 s0 many s (outK bo []) (outS bs []) 0 a1 a7 a11 a12 a13 a14 a15 a16 a17 a18 a19 a20 a21 a22 a23 a24 a25 a26 a27 a28 a29 a85 a86 a87 a88 a89 a90 a91 a92 a93 a94 a95 a96 a97 a98 a99 a100 a101 a102 a103 a104 a105 a106 a107 a108 a109) h' (.ret, tm', H) := by
  have hcall := fun k l h => evFn_hook (P := Try.prog) (T := T) (k := k) (f := 75) (args := l) (h := h) hG
  have hs1 := gets_size hs
  have hs2 := gets_size hs1
  have hle := hI.len
  refine ⟨?q1, ?q2, ?q3, ?q4, Run.step 60 fun k j => ?q5⟩
  case q5 =>
    simp [c56, tail56, body56, fr56, hcall, hkGet, hs, hs1, hs2, oneOr, cellsOf, isCell, fillA, hm, outK, outS, eq_true hw, eq_false hz]
    (first | rfl | (constructor <;> rfl))
  case q3 => exact ⟨rfl, rfl, rfl⟩
  case q4 =>
    exact hI.old

theorem ref0C {T : FuncId → Option AFunc} (hG : T 75 = some (.hook hkGet)) (s0 : ByteArray) (h0 h' : Heap) (bo bs : Nat) (many : Int) (s : ByteArray) (hs : s.size ≤ 9223372036854775807) (hm : 0 < many) (hI : InvR h0 h' bo bs []) (hw : (gets s).2.2 = 0) (hz : (gets (gets s).2.1).2.2 = 0)
    (a1 a7 a11 a12 a13 a14 a15 a16 a17 a18 a19 a20 a21 a22 a23 a24 a25 a26 a27 a28 a29 a85 a86 a87 a88 a89 a90 a91 a92 a93 a94 a95 a96 a97 a98 a99 a100 a101 a102 a103 a104 a105 a106 a107 a108 a109 : AV) : ∃ H a11' a12' a13' a14' a15' a16' tm', forget fg56 tm' = fr56 s0 many (slot1 [] s).2.1 (outK (h'.length + 1) ([] ++ [(slot1 [] s).1])) (outS (h'.length + 3) ([] ++ [(slot1 [] s).1])) 1 a1 a7 a11' a12' a13' a14' a15' a16' a17 a18 a19 a20 a21 a22 a23 a24 a25 a26 a27 a28 a29 a85 a86 a87 a88 a89 a90 a91 a92 a93 a94 a95 a96 a97 a98 a99 a100 a101 a102 a103 a104 a105 a106 a107 a108 a109 ∧ InvR h0 H (h'.length + 1) (h'.length + 3) ([] ++ [(slot1 [] s).1]) ∧ Run Try.prog T body56 (fr56 s0 many s (outK bo []) (outS bs []) 0 a1 a7 a11 a12 a13 a14 a15 a16 a17 a18 a19 a20 a21 a22 a23 a24 a25 a26 a27 a28 a29 a85 a86 a87 a88 a89 a90 a91 a92 a93 a94 a95 a96 a97 a98 a99 a100 a101 a102 a103 a104 a105 a106 a107 a108 a109) h' (.normal, tm', H) := by
  have hcall := fun k l h => evFn_hook (P := Try.prog) (T := T) (k := k) (f := 75) (args := l) (h := h) hG
  have hs1 := gets_size hs
  have hs2 := gets_size hs1
  have hle := hI.len
  have w1 : IntKind.u64.wrap 1 = 1 := wu64 (by omega) (by omega)
  have e1 : slot1 [] s = (((gets s).1, (gets (gets s).2.1).1), (gets (gets s).2.1).2.1, (gets (gets s).2.1).2.2) := by
    simp [slot1, numS_z, hw]
  rw [e1]
  refine ⟨?q1, ?r11, ?r12, ?r13, ?r14, ?r15, ?r16, ?q2, ?q3, ?q4, Run.step 60 fun k j => ?q5⟩
  case q5 =>
    simp [c56, tail56, body56, fr56, hcall, hkGet, hs, hs1, hs2, oneOr, cellsOf, isCell, fillA, hm, outK, outS, eq_true hw, eq_true hz, apV_nil, w1]
    (first | rfl | (constructor <;> rfl))
  case q3 =>
    simp [forget, fg56, tail56, c56, fr56, outK, outS]
    refine ⟨?_, ?_, ?_, ?_, ?_, ?_⟩ <;> rfl
  case q4 =>
    refine ⟨fun b h1 => ?_, ?_, fun _ => ⟨?_, ?_, ?_, ?_, ?_⟩⟩
    · have h3 : b < h'.length := by omega
      simp [h3, hI.old b h1]
    · simp; omega
    · omega
    · omega
    · omega
    · simp [key0, entC]
    · simp [szC]

theorem ref1A {T : FuncId → Option AFunc} (hG : T 75 = some (.hook hkGet)) (s0 : ByteArray) (h0 h' : Heap) (bo bs m : Nat) (many : Int) (s : ByteArray) (hs : s.size ≤ 9223372036854775807) (L : List (Int × Int)) (hL : L.length = m + 1) (hm : (m : Int) + 1 < many) (hmany : many ≤ 65536) (hI : InvR h0 h' bo bs L) (h0l : 0 ≤ (L.getLastD (0, 0)).1) (h1l : (L.getLastD (0, 0)).1 ≤ 18446744073709551615) (hw : (gets s).2.2 ≠ 0)
    (a1 a7 a11 a12 a13 a14 a15 a16 a17 a18 a19 a20 a21 a22 a23 a24 a25 a26 a27 a28 a29 a85 a86 a87 a88 a89 a90 a91 a92 a93 a94 a95 a96 a97 a98 a99 a100 a101 a102 a103 a104 a105 a106 a107 a108 a109 : AV) : ∃ tm' H, err3 tm' (gets s).2.2 ∧ (∀ b, b < h0.length → bk H b = bk h0 b) ∧ Run Try.prog T body56 (fr56 s0 many s (outK bo L) (outS bs L) ((m : Int) + 1) a1 a7 a11 a12 a13 a14 a15 a16 a17 a18 a19 a20 a21 a22 a23 a24 a25 a26 a27 a28 a29 a85 a86 a87 a88 a89 a90 a91 a92 a93 a94 a95 a96 a97 a98 a99 a100 a101 a102 a103 a104 a105 a106 a107 a108 a109) h' (.ret, tm', H) := by
  have hcall := fun k l h => evFn_hook (P := Try.prog) (T := T) (k := k) (f := 75) (args := l) (h := h) hG
  have hs1 := gets_size hs
  have hs2 := gets_size hs1
  have hle := hI.len
  have hne : L ≠ [] := by intro h; rw [h] at hL; simp at hL
  have ip : (0 : Int) < (m : Int) + 1 := by omega
  have im : (m : Int) < (m : Int) + 1 := by omega
  have wi : IntKind.u64.wrap ((m : Int) + 1 - 1) = m := by rw [wu64 (by omega) (by omega)]; omega
  have wi' : IntKind.u64.wrap (m : Int) = m := wu64 (by omega) (by omega)
  have wj : IntKind.u64.wrap ((m : Int) + 1 + 1) = (m : Int) + 2 := by rw [wu64 (by omega) (by omega)]; omega
  obtain ⟨o1, o2, o3, o4, o5⟩ := hI.out hne
  rw [hL, Nat.add_sub_cancel] at o4 o5
  have hlo := bk_lt o4
  have hls := bk_lt o5
  have eK := outK_sl (b := bo) hL
  have eS := outS_sl (b := bs) hL
  have hCg : ((L.map key0).flatMap entC)[m * 2]? = some (.s (.int .u64 (L.getLastD (0, 0)).1)) := by
    obtain ⟨M, x, rfl⟩ : ∃ M x, L = M ++ [x] := ⟨L.dropLast, L.getLast hne, (List.dropLast_concat_getLast hne).symm⟩
    simp at hL
    have : ((M.map key0).flatMap entC).length = m * 2 := by rw [key0_len, hL]
    rw [List.map_append, List.flatMap_append, List.getElem?_append_right (by omega), this]
    simp [entC, key0]
  have hCl := key0_len L
  rw [hL] at hCl
  have hSl : (L.map szC).length = m + 1 := by simp [hL]
  generalize hlast : (L.getLastD (0, 0)).1 = last at *
  generalize hC : (L.map key0).flatMap entC = C at *
  generalize hS : L.map szC = S at *
  have hCd : (C.drop (m * 2)).take 1 = [.s (.int .u64 last)] := by
    rw [List.take_one, List.head?_drop, hCg]; rfl
  have hle1 : m * 2 + 1 ≤ C.length := by omega
  have hle2 : (m + 1) * 2 ≤ C.length := by omega
  have hlt2 : m * 2 < C.length := by omega
  have hle3 : m + 1 ≤ S.length := by omega
  have hall : C.take ((m + 1) * 2) = C := List.take_of_length_le (by omega)
  have hall2 : S.take (m + 1) = S := List.take_of_length_le (by omega)
  have b1 : (m + 1 + 1) * 24 ≤ 140737488355328 := by omega
  have b2 : (m + 1 + 1) * 8 ≤ 140737488355328 := by omega
  have b3 : m + 1 + 1 ≤ 9223372036854775807 := by omega
  have o3' := Ne.symm o3
  have n1 : bo ≠ h'.length := by omega
  have n2 : bo ≠ h'.length + 1 := by omega
  have n3 : bs ≠ h'.length := by omega
  have n4 : bs ≠ h'.length + 1 := by omega
  refine ⟨?q1, ?q2, ?q3, ?q4, Run.step 60 fun k j => ?q5⟩
  case q5 =>
    simp [c56, tail56, body56, fr56, hcall, hkGet, hs, hs1, hs2, oneOr, cellsOf, isCell, fillA, hm, eK, eS, eq_true ip, im, wi, wi', wj, o4, o5, hlo, hls, hCd, hCg, hle1, hlt2, eq_false hw]
    (first | rfl | (constructor <;> rfl))
  case q3 => exact ⟨rfl, rfl, rfl⟩
  case q4 =>
    exact hI.old

theorem ref1B {T : FuncId → Option AFunc} (hG : T 75 = some (.hook hkGet)) (s0 : ByteArray) (h0 h' : Heap) (bo bs m : Nat) (many : Int) (s : ByteArray) (hs : s.size ≤ 9223372036854775807) (L : List (Int × Int)) (hL : L.length = m + 1) (hm : (m : Int) + 1 < many) (hmany : many ≤ 65536) (hI : InvR h0 h' bo bs L) (h0l : 0 ≤ (L.getLastD (0, 0)).1) (h1l : (L.getLastD (0, 0)).1 ≤ 18446744073709551615) (hw : (gets s).2.2 = 0) (hx : (L.getLastD (0, 0)).1 = 18446744073709551615)
    (a1 a7 a11 a12 a13 a14 a15 a16 a17 a18 a19 a20 a21 a22 a23 a24 a25 a26 a27 a28 a29 a85 a86 a87 a88 a89 a90 a91 a92 a93 a94 a95 a96 a97 a98 a99 a100 a101 a102 a103 a104 a105 a106 a107 a108 a109 : AV) : ∃ tm' H, err3 tm' 7 ∧ (∀ b, b < h0.length → bk H b = bk h0 b) ∧ Run Try.prog T body56 (fr56 s0 many s (outK bo L) (outS bs L) ((m : Int) + 1) a1 a7 a11 a12 a13 a14 a15 a16 a17 a18 a19 a20 a21 a22 a23 a24 a25 a26 a27 a28 a29 a85 a86 a87 a88 a89 a90 a91 a92 a93 a94 a95 a96 a97 a98 a99 a100 a101 a102 a103 a104 a105 a106 a107 a108 a109) h' (.ret, tm', H) := by
  have hcall := fun k l h => evFn_hook (P := Try.prog) (T := T) (k := k) (f := 75) (args := l) (h := h) hG
  have hs1 := gets_size hs
  have hs2 := gets_size hs1
  have hle := hI.len
  have hne : L ≠ [] := by intro h; rw [h] at hL; simp at hL
  have ip : (0 : Int) < (m : Int) + 1 := by omega
  have im : (m : Int) < (m : Int) + 1 := by omega
  have wi : IntKind.u64.wrap ((m : Int) + 1 - 1) = m := by rw [wu64 (by omega) (by omega)]; omega
  have wi' : IntKind.u64.wrap (m : Int) = m := wu64 (by omega) (by omega)
  have wj : IntKind.u64.wrap ((m : Int) + 1 + 1) = (m : Int) + 2 := by rw [wu64 (by omega) (by omega)]; omega
  obtain ⟨o1, o2, o3, o4, o5⟩ := hI.out hne
  rw [hL, Nat.add_sub_cancel] at o4 o5
  have hlo := bk_lt o4
  have hls := bk_lt o5
  have eK := outK_sl (b := bo) hL
  have eS := outS_sl (b := bs) hL
  have hCg : ((L.map key0).flatMap entC)[m * 2]? = some (.s (.int .u64 (L.getLastD (0, 0)).1)) := by
    obtain ⟨M, x, rfl⟩ : ∃ M x, L = M ++ [x] := ⟨L.dropLast, L.getLast hne, (List.dropLast_concat_getLast hne).symm⟩
    simp at hL
    have : ((M.map key0).flatMap entC).length = m * 2 := by rw [key0_len, hL]
    rw [List.map_append, List.flatMap_append, List.getElem?_append_right (by omega), this]
    simp [entC, key0]
  have hCl := key0_len L
  rw [hL] at hCl
  have hSl : (L.map szC).length = m + 1 := by simp [hL]
  generalize hlast : (L.getLastD (0, 0)).1 = last at *
  generalize hC : (L.map key0).flatMap entC = C at *
  generalize hS : L.map szC = S at *
  have hCd : (C.drop (m * 2)).take 1 = [.s (.int .u64 last)] := by
    rw [List.take_one, List.head?_drop, hCg]; rfl
  have hle1 : m * 2 + 1 ≤ C.length := by omega
  have hle2 : (m + 1) * 2 ≤ C.length := by omega
  have hlt2 : m * 2 < C.length := by omega
  have hle3 : m + 1 ≤ S.length := by omega
  have hall : C.take ((m + 1) * 2) = C := List.take_of_length_le (by omega)
  have hall2 : S.take (m + 1) = S := List.take_of_length_le (by omega)
  have b1 : (m + 1 + 1) * 24 ≤ 140737488355328 := by omega
  have b2 : (m + 1 + 1) * 8 ≤ 140737488355328 := by omega
  have b3 : m + 1 + 1 ≤ 9223372036854775807 := by omega
  have o3' := Ne.symm o3
  have n1 : bo ≠ h'.length := by omega
  have n2 : bo ≠ h'.length + 1 := by omega
  have n3 : bs ≠ h'.length := by omega
  have n4 : bs ≠ h'.length + 1 := by omega
  refine ⟨?q1, ?q2, ?q3, ?q4, Run.step 60 fun k j => ?q5⟩
  case q5 =>
    simp [c56, tail56, body56, fr56, hcall, hkGet, hs, hs1, hs2, oneOr, cellsOf, isCell, fillA, hm, eK, eS, eq_true ip, im, wi, wi', wj, o4, o5, hlo, hls, hCd, hCg, hle1, hlt2, eq_true hw, eq_true hx]
    (first | rfl | (constructor <;> rfl))
  case q3 => exact ⟨rfl, rfl, rfl⟩
  case q4 =>
    exact hI.old

theorem ref1C {T : FuncId → Option AFunc} (hG : T 75 = some (.hook hkGet)) (s0 : ByteArray) (h0 h' : Heap) (bo bs m : Nat) (many : Int) (s : ByteArray) (hs : s.size ≤ 9223372036854775807) (L : List (Int × Int)) (hL : L.length = m + 1) (hm : (m : Int) + 1 < many) (hmany : many ≤ 65536) (hI : InvR h0 h' bo bs L) (h0l : 0 ≤ (L.getLastD (0, 0)).1) (h1l : (L.getLastD (0, 0)).1 ≤ 18446744073709551615) (hw : (gets s).2.2 = 0) (hx : (L.getLastD (0, 0)).1 ≠ 18446744073709551615) (hy : (gets s).1 > 18446744073709551615 - (L.getLastD (0, 0)).1 - 1)
    (a1 a7 a11 a12 a13 a14 a15 a16 a17 a18 a19 a20 a21 a22 a23 a24 a25 a26 a27 a28 a29 a85 a86 a87 a88 a89 a90 a91 a92 a93 a94 a95 a96 a97 a98 a99 a100 a101 a102 a103 a104 a105 a106 a107 a108 a109 : AV) : ∃ tm' H, err3 tm' 7 ∧ (∀ b, b < h0.length → bk H b = bk h0 b) ∧ Run Try.prog T body56 (fr56 s0 many s (outK bo L) (outS bs L) ((m : Int) + 1) a1 a7 a11 a12 a13 a14 a15 a16 a17 a18 a19 a20 a21 a22 a23 a24 a25 a26 a27 a28 a29 a85 a86 a87 a88 a89 a90 a91 a92 a93 a94 a95 a96 a97 a98 a99 a100 a101 a102 a103 a104 a105 a106 a107 a108 a109) h' (.ret, tm', H) := by
  have hcall := fun k l h => evFn_hook (P := Try.prog) (T := T) (k := k) (f := 75) (args := l) (h := h) hG
  have hs1 := gets_size hs
  have hs2 := gets_size hs1
  have hle := hI.len
  have hne : L ≠ [] := by intro h; rw [h] at hL; simp at hL
  have ip : (0 : Int) < (m : Int) + 1 := by omega
  have im : (m : Int) < (m : Int) + 1 := by omega
  have wi : IntKind.u64.wrap ((m : Int) + 1 - 1) = m := by rw [wu64 (by omega) (by omega)]; omega
  have wi' : IntKind.u64.wrap (m : Int) = m := wu64 (by omega) (by omega)
  have wj : IntKind.u64.wrap ((m : Int) + 1 + 1) = (m : Int) + 2 := by rw [wu64 (by omega) (by omega)]; omega
  obtain ⟨o1, o2, o3, o4, o5⟩ := hI.out hne
  rw [hL, Nat.add_sub_cancel] at o4 o5
  have hlo := bk_lt o4
  have hls := bk_lt o5
  have eK := outK_sl (b := bo) hL
  have eS := outS_sl (b := bs) hL
  have hCg : ((L.map key0).flatMap entC)[m * 2]? = some (.s (.int .u64 (L.getLastD (0, 0)).1)) := by
    obtain ⟨M, x, rfl⟩ : ∃ M x, L = M ++ [x] := ⟨L.dropLast, L.getLast hne, (List.dropLast_concat_getLast hne).symm⟩
    simp at hL
    have : ((M.map key0).flatMap entC).length = m * 2 := by rw [key0_len, hL]
    rw [List.map_append, List.flatMap_append, List.getElem?_append_right (by omega), this]
    simp [entC, key0]
  have hCl := key0_len L
  rw [hL] at hCl
  have hSl : (L.map szC).length = m + 1 := by simp [hL]
  generalize hlast : (L.getLastD (0, 0)).1 = last at *
  generalize hC : (L.map key0).flatMap entC = C at *
  generalize hS : L.map szC = S at *
  have hCd : (C.drop (m * 2)).take 1 = [.s (.int .u64 last)] := by
    rw [List.take_one, List.head?_drop, hCg]; rfl
  have hle1 : m * 2 + 1 ≤ C.length := by omega
  have hle2 : (m + 1) * 2 ≤ C.length := by omega
  have hlt2 : m * 2 < C.length := by omega
  have hle3 : m + 1 ≤ S.length := by omega
  have hall : C.take ((m + 1) * 2) = C := List.take_of_length_le (by omega)
  have hall2 : S.take (m + 1) = S := List.take_of_length_le (by omega)
  have b1 : (m + 1 + 1) * 24 ≤ 140737488355328 := by omega
  have b2 : (m + 1 + 1) * 8 ≤ 140737488355328 := by omega
  have b3 : m + 1 + 1 ≤ 9223372036854775807 := by omega
  have o3' := Ne.symm o3
  have n1 : bo ≠ h'.length := by omega
  have n2 : bo ≠ h'.length + 1 := by omega
  have n3 : bs ≠ h'.length := by omega
  have n4 : bs ≠ h'.length + 1 := by omega
  have wa : IntKind.u64.wrap (18446744073709551615 - last) = 18446744073709551615 - last := wu64 (by omega) (by omega)
  have wb : IntKind.u64.wrap (18446744073709551615 - last - 1) = 18446744073709551615 - last - 1 := wu64 (by omega) (by omega)
  have hy' : 18446744073709551615 - last - 1 < (gets s).1 := hy
  refine ⟨?q1, ?q2, ?q3, ?q4, Run.step 60 fun k j => ?q5⟩
  case q5 =>
    simp [c56, tail56, body56, fr56, hcall, hkGet, hs, hs1, hs2, oneOr, cellsOf, isCell, fillA, hm, eK, eS, eq_true ip, im, wi, wi', wj, o4, o5, hlo, hls, hCd, hCg, hle1, hlt2, eq_true hw, eq_false hx, wa, wb, eq_true hy']
    (first | rfl | (constructor <;> rfl))
  case q3 => exact ⟨rfl, rfl, rfl⟩
  case q4 =>
    exact hI.old

theorem ref1D {T : FuncId → Option AFunc} (hG : T 75 = some (.hook hkGet)) (s0 : ByteArray) (h0 h' : Heap) (bo bs m : Nat) (many : Int) (s : ByteArray) (hs : s.size ≤ 9223372036854775807) (L : List (Int × Int)) (hL : L.length = m + 1) (hm : (m : Int) + 1 < many) (hmany : many ≤ 65536) (hI : InvR h0 h' bo bs L) (h0l : 0 ≤ (L.getLastD (0, 0)).1) (h1l : (L.getLastD (0, 0)).1 ≤ 18446744073709551615) (hw : (gets s).2.2 = 0) (hx : (L.getLastD (0, 0)).1 ≠ 18446744073709551615) (hy : ¬ (gets s).1 > 18446744073709551615 - (L.getLastD (0, 0)).1 - 1) (hz : (gets (gets s).2.1).2.2 ≠ 0)
    (a1 a7 a11 a12 a13 a14 a15 a16 a17 a18 a19 a20 a21 a22 a23 a24 a25 a26 a27 a28 a29 a85 a86 a87 a88 a89 a90 a91 a92 a93 a94 a95 a96 a97 a98 a99 a100 a101 a102 a103 a104 a105 a106 a107 a108 a109 : AV) : ∃ tm' H, err3 tm' (gets (gets s).2.1).2.2 ∧ (∀ b, b < h0.length → bk H b = bk h0 b) ∧ Run Try.prog T body56 (fr56 s0 many s (outK bo L) (outS bs L) ((m : Int) + 1) a1 a7 a11 a12 a13 a14 a15 a16 a17 a18 a19 a20 a21 a22 a23 a24 a25 a26 a27 a28 a29 a85 a86 a87 a88 a89 a90 a91 a92 a93 a94 a95 a96 a97 a98 a99 a100 a101 a102 a103 a104 a105 a106 a107 a108 a109) h' (.ret, tm', H) := by
  have hcall := fun k l h => evFn_hook (P := Try.prog) (T := T) (k := k) (f := 75) (args := l) (h := h) hG
  have hs1 := gets_size hs
  have hs2 := gets_size hs1
  have hle := hI.len
  have hne : L ≠ [] := by intro h; rw [h] at hL; simp at hL
  have ip : (0 : Int) < (m : Int) + 1 := by omega
  have im : (m : Int) < (m : Int) + 1 := by omega
  have wi : IntKind.u64.wrap ((m : Int) + 1 - 1) = m := by rw [wu64 (by omega) (by omega)]; omega
  have wi' : IntKind.u64.wrap (m : Int) = m := wu64 (by omega) (by omega)
  have wj : IntKind.u64.wrap ((m : Int) + 1 + 1) = (m : Int) + 2 := by rw [wu64 (by omega) (by omega)]; omega
  obtain ⟨o1, o2, o3, o4, o5⟩ := hI.out hne
  rw [hL, Nat.add_sub_cancel] at o4 o5
  have hlo := bk_lt o4
  have hls := bk_lt o5
  have eK := outK_sl (b := bo) hL
  have eS := outS_sl (b := bs) hL
  have hCg : ((L.map key0).flatMap entC)[m * 2]? = some (.s (.int .u64 (L.getLastD (0, 0)).1)) := by
    obtain ⟨M, x, rfl⟩ : ∃ M x, L = M ++ [x] := ⟨L.dropLast, L.getLast hne, (List.dropLast_concat_getLast hne).symm⟩
    simp at hL
    have : ((M.map key0).flatMap entC).length = m * 2 := by rw [key0_len, hL]
    rw [List.map_append, List.flatMap_append, List.getElem?_append_right (by omega), this]
    simp [entC, key0]
  have hCl := key0_len L
  rw [hL] at hCl
  have hSl : (L.map szC).length = m + 1 := by simp [hL]
  generalize hlast : (L.getLastD (0, 0)).1 = last at *
  generalize hC : (L.map key0).flatMap entC = C at *
  generalize hS : L.map szC = S at *
  have hCd : (C.drop (m * 2)).take 1 = [.s (.int .u64 last)] := by
    rw [List.take_one, List.head?_drop, hCg]; rfl
  have hle1 : m * 2 + 1 ≤ C.length := by omega
  have hle2 : (m + 1) * 2 ≤ C.length := by omega
  have hlt2 : m * 2 < C.length := by omega
  have hle3 : m + 1 ≤ S.length := by omega
  have hall : C.take ((m + 1) * 2) = C := List.take_of_length_le (by omega)
  have hall2 : S.take (m + 1) = S := List.take_of_length_le (by omega)
  have b1 : (m + 1 + 1) * 24 ≤ 140737488355328 := by omega
  have b2 : (m + 1 + 1) * 8 ≤ 140737488355328 := by omega
  have b3 : m + 1 + 1 ≤ 9223372036854775807 := by omega
  have o3' := Ne.symm o3
  have n1 : bo ≠ h'.length := by omega
  have n2 : bo ≠ h'.length + 1 := by omega
  have n3 : bs ≠ h'.length := by omega
  have n4 : bs ≠ h'.length + 1 := by omega
  have wa : IntKind.u64.wrap (18446744073709551615 - last) = 18446744073709551615 - last := wu64 (by omega) (by omega)
  have wb : IntKind.u64.wrap (18446744073709551615 - last - 1) = 18446744073709551615 - last - 1 := wu64 (by omega) (by omega)
  have hy' : ¬ 18446744073709551615 - last - 1 < (gets s).1 := hy
  refine ⟨?q1, ?q2, ?q3, ?q4, Run.step 60 fun k j => ?q5⟩
  case q5 =>
    simp [c56, tail56, body56, fr56, hcall, hkGet, hs, hs1, hs2, oneOr, cellsOf, isCell, fillA, hm, eK, eS, eq_true ip, im, wi, wi', wj, o4, o5, hlo, hls, hCd, hCg, hle1, hlt2, eq_true hw, eq_false hx, wa, wb, eq_false hy', eq_false hz]
    (first | rfl | (constructor <;> rfl))
  case q3 => exact ⟨rfl, rfl, rfl⟩
  case q4 =>
    exact hI.old

theorem ref1E {T : FuncId → Option AFunc} (hG : T 75 = some (.hook hkGet)) (s0 : ByteArray) (h0 h' : Heap) (bo bs m : Nat) (many : Int) (s : ByteArray) (hs : s.size ≤ 9223372036854775807) (L : List (Int × Int)) (hL : L.length = m + 1) (hm : (m : Int) + 1 < many) (hmany : many ≤ 65536) (hI : InvR h0 h' bo bs L) (h0l : 0 ≤ (L.getLastD (0, 0)).1) (h1l : (L.getLastD (0, 0)).1 ≤ 18446744073709551615) (hw : (gets s).2.2 = 0) (hx : (L.getLastD (0, 0)).1 ≠ 18446744073709551615) (hy : ¬ (gets s).1 > 18446744073709551615 - (L.getLastD (0, 0)).1 - 1) (hz : (gets (gets s).2.1).2.2 = 0)
    (a1 a7 a11 a12 a13 a14 a15 a16 a17 a18 a19 a20 a21 a22 a23 a24 a25 a26 a27 a28 a29 a85 a86 a87 a88 a89 a90 a91 a92 a93 a94 a95 a96 a97 a98 a99 a100 a101 a102 a103 a104 a105 a106 a107 a108 a109 : AV) : ∃ H a11' a12' a13' a14' a15' a16' tm', forget fg56 tm' = fr56 s0 many (slot1 L s).2.1 (outK bo (L ++ [(slot1 L s).1])) (outS bs (L ++ [(slot1 L s).1])) ((m : Int) + 2) a1 a7 a11' a12' a13' a14' a15' a16' a17 a18 a19 a20 a21 a22 a23 a24 a25 a26 a27 a28 a29 a85 a86 a87 a88 a89 a90 a91 a92 a93 a94 a95 a96 a97 a98 a99 a100 a101 a102 a103 a104 a105 a106 a107 a108 a109 ∧ InvR h0 H bo bs (L ++ [(slot1 L s).1]) ∧ Run Try.prog T body56 (fr56 s0 many s (outK bo L) (outS bs L) ((m : Int) + 1) a1 a7 a11 a12 a13 a14 a15 a16 a17 a18 a19 a20 a21 a22 a23 a24 a25 a26 a27 a28 a29 a85 a86 a87 a88 a89 a90 a91 a92 a93 a94 a95 a96 a97 a98 a99 a100 a101 a102 a103 a104 a105 a106 a107 a108 a109) h' (.normal, tm', H) := by
  have hcall := fun k l h => evFn_hook (P := Try.prog) (T := T) (k := k) (f := 75) (args := l) (h := h) hG
  have hs1 := gets_size hs
  have hs2 := gets_size hs1
  have hle := hI.len
  have hne : L ≠ [] := by intro h; rw [h] at hL; simp at hL
  have ip : (0 : Int) < (m : Int) + 1 := by omega
  have im : (m : Int) < (m : Int) + 1 := by omega
  have wi : IntKind.u64.wrap ((m : Int) + 1 - 1) = m := by rw [wu64 (by omega) (by omega)]; omega
  have wi' : IntKind.u64.wrap (m : Int) = m := wu64 (by omega) (by omega)
  have wj : IntKind.u64.wrap ((m : Int) + 1 + 1) = (m : Int) + 2 := by rw [wu64 (by omega) (by omega)]; omega
  obtain ⟨o1, o2, o3, o4, o5⟩ := hI.out hne
  rw [hL, Nat.add_sub_cancel] at o4 o5
  have hlo := bk_lt o4
  have hls := bk_lt o5
  have eK := outK_sl (b := bo) hL
  have eS := outS_sl (b := bs) hL
  have hCg : ((L.map key0).flatMap entC)[m * 2]? = some (.s (.int .u64 (L.getLastD (0, 0)).1)) := by
    obtain ⟨M, x, rfl⟩ : ∃ M x, L = M ++ [x] := ⟨L.dropLast, L.getLast hne, (List.dropLast_concat_getLast hne).symm⟩
    simp at hL
    have : ((M.map key0).flatMap entC).length = m * 2 := by rw [key0_len, hL]
    rw [List.map_append, List.flatMap_append, List.getElem?_append_right (by omega), this]
    simp [entC, key0]
  have hCl := key0_len L
  rw [hL] at hCl
  have hSl : (L.map szC).length = m + 1 := by simp [hL]
  generalize hlast : (L.getLastD (0, 0)).1 = last at *
  generalize hC : (L.map key0).flatMap entC = C at *
  generalize hS : L.map szC = S at *
  have hCd : (C.drop (m * 2)).take 1 = [.s (.int .u64 last)] := by
    rw [List.take_one, List.head?_drop, hCg]; rfl
  have hle1 : m * 2 + 1 ≤ C.length := by omega
  have hle2 : (m + 1) * 2 ≤ C.length := by omega
  have hlt2 : m * 2 < C.length := by omega
  have hle3 : m + 1 ≤ S.length := by omega
  have hall : C.take ((m + 1) * 2) = C := List.take_of_length_le (by omega)
  have hall2 : S.take (m + 1) = S := List.take_of_length_le (by omega)
  have b1 : (m + 1 + 1) * 24 ≤ 140737488355328 := by omega
  have b2 : (m + 1 + 1) * 8 ≤ 140737488355328 := by omega
  have b3 : m + 1 + 1 ≤ 9223372036854775807 := by omega
  have o3' := Ne.symm o3
  have n1 : bo ≠ h'.length := by omega
  have n2 : bo ≠ h'.length + 1 := by omega
  have n3 : bs ≠ h'.length := by omega
  have n4 : bs ≠ h'.length + 1 := by omega
  have wa : IntKind.u64.wrap (18446744073709551615 - last) = 18446744073709551615 - last := wu64 (by omega) (by omega)
  have wb : IntKind.u64.wrap (18446744073709551615 - last - 1) = 18446744073709551615 - last - 1 := wu64 (by omega) (by omega)
  have hy' : ¬ 18446744073709551615 - last - 1 < (gets s).1 := hy
  have e1 : slot1 L s = ((IntKind.u64.wrap (IntKind.u64.wrap (last + 1) + (gets s).1), (gets (gets s).2.1).1), (gets (gets s).2.1).2.1, (gets (gets s).2.1).2.2) := by
    have hlast' : (L.getLast?.getD (0, 0)).1 = last := by simpa using hlast
    simp [slot1, numS_z, hw, hne, hlast', eq_false hx, eq_false hy', Int.add_comm]
  rw [e1]
  have eK2 := outK_sl (b := bo) (m := m + 1) (L := L ++ [(IntKind.u64.wrap (IntKind.u64.wrap (last + 1) + (gets s).1), (gets (gets s).2.1).1)]) (by simp [hL])
  have eS2 := outS_sl (b := bs) (m := m + 1) (L := L ++ [(IntKind.u64.wrap (IntKind.u64.wrap (last + 1) + (gets s).1), (gets (gets s).2.1).1)]) (by simp [hL])
  refine ⟨?q1, ?r11, ?r12, ?r13, ?r14, ?r15, ?r16, ?q2, ?q3, ?q4, Run.step 60 fun k j => ?q5⟩
  case q5 =>
    simp [c56, tail56, body56, fr56, hcall, hkGet, hs, hs1, hs2, oneOr, cellsOf, isCell, fillA, hm, eK, eS, eq_true ip, im, wi, wi', wj, o4, o5, hlo, hls, hCd, hCg, hle1, hlt2, eq_true hw, eq_false hx, wa, wb, eq_false hy', eq_true hz, apK_s, hle2, hle3, hall, hall2, b1, b2, b3, o3, o3', n1, n2, n3, n4]
    (first | rfl | (constructor <;> rfl))
  case q3 =>
    rw [eK2, eS2]
    simp [forget, fg56, tail56, c56, fr56]
    refine ⟨?_, ?_, ?_, ?_, ?_, ?_⟩ <;> rfl
  case q4 =>
    refine ⟨fun b h1 => ?_, ?_, fun _ => ⟨?_, ?_, ?_, ?_, ?_⟩⟩
    · have h3 : b < h'.length := by omega
      have h4 : bo ≠ b := by omega
      have h5 : bs ≠ b := by omega
      simp [h3, h4, h5, hI.old b h1]
    · simp; omega
    · omega
    · omega
    · exact o3
    · simp [hlo, hls, o3, o3', hL, hC, key0, entC]
    · simp [hlo, hls, o3, o3', hL, hS, szC]
end Go.Proofs.Ytpmoellbfgcefaa.AS
end
section
set_option autoImplicit false
set_option maxRecDepth 100000
set_option maxHeartbeats 2000000
set_option linter.unusedSimpArgs false
namespace Go.Proofs.Ytpmoellbfgcefaa.AS
open Go Go.Proofs Go.RowKit Go.Proofs.Ytpmoellbfgcefaa.AS.V

theorem slotsF_err {w : Int} (n : Nat) (L : List (Int × Int)) (s : ByteArray) (h : w ≠ 0) : slotsF n L s w = (L, s, w) := by
  cases n with
  | zero => rfl
  | succ n => rw [slotsF, if_pos h]
theorem ref_loop {T : FuncId → Option AFunc} (hG : T 75 = some (.hook hkGet)) (s0 : ByteArray) (h0 : Heap) (many : Int) (hmany : many ≤ 65536) : ∀ (n : Nat) (h' : Heap) (bo bs : Nat) (L : List (Int × Int)) (s : ByteArray), s.size ≤ 9223372036854775807 → (L.length : Int) + n = many → InvR h0 h' bo bs L →
    (0 ≤ (L.getLastD (0, 0)).1 ∧ (L.getLastD (0, 0)).1 ≤ 18446744073709551615) → ∀ (a1 a7 a11 a12 a13 a14 a15 a16 a17 a18 a19 a20 a21 a22 a23 a24 a25 a26 a27 a28 a29 a85 a86 a87 a88 a89 a90 a91 a92 a93 a94 a95 a96 a97 a98 a99 a100 a101 a102 a103 a104 a105 a106 a107 a108 a109 : AV),
    ((slotsF n L s 0).2.2 = 0 → ∃ H bo' bs' a11' a12' a13' a14' a15' a16', InvR h0 H bo' bs' (slotsF n L s 0).1 ∧ Run Try.prog T (.loop fg56 body56) (fr56 s0 many s (outK bo L) (outS bs L) L.length a1 a7 a11 a12 a13 a14 a15 a16 a17 a18 a19 a20 a21 a22 a23 a24 a25 a26 a27 a28 a29 a85 a86 a87 a88 a89 a90 a91 a92 a93 a94 a95 a96 a97 a98 a99 a100 a101 a102 a103 a104 a105 a106 a107 a108 a109) h' (.exit 0, fx56 s0 many (slotsF n L s 0).2.1 (outK bo' (slotsF n L s 0).1) (outS bs' (slotsF n L s 0).1) many a1 a7 a11' a12' a13' a14' a15' a16' a17 a18 a19 a20 a21 a22 a23 a24 a25 a26 a27 a28 a29 a85 a86 a87 a88 a89 a90 a91 a92 a93 a94 a95 a96 a97 a98 a99 a100 a101 a102 a103 a104 a105 a106 a107 a108 a109, H)) ∧
    ((slotsF n L s 0).2.2 ≠ 0 → ∃ tm' H, err3 tm' (slotsF n L s 0).2.2 ∧ (∀ b, b < h0.length → bk H b = bk h0 b) ∧ Run Try.prog T (.loop fg56 body56) (fr56 s0 many s (outK bo L) (outS bs L) L.length a1 a7 a11 a12 a13 a14 a15 a16 a17 a18 a19 a20 a21 a22 a23 a24 a25 a26 a27 a28 a29 a85 a86 a87 a88 a89 a90 a91 a92 a93 a94 a95 a96 a97 a98 a99 a100 a101 a102 a103 a104 a105 a106 a107 a108 a109) h' (.ret, tm', H)) := by
  have hfg : ∀ (rest : ByteArray) (out sizes : AV) (i : Int) (a1 a7 a11 a12 a13 a14 a15 a16 a17 a18 a19 a20 a21 a22 a23 a24 a25 a26 a27 a28 a29 a85 a86 a87 a88 a89 a90 a91 a92 a93 a94 a95 a96 a97 a98 a99 a100 a101 a102 a103 a104 a105 a106 a107 a108 a109 : AV), forget fg56 (fr56 s0 many rest out sizes i a1 a7 a11 a12 a13 a14 a15 a16 a17 a18 a19 a20 a21 a22 a23 a24 a25 a26 a27 a28 a29 a85 a86 a87 a88 a89 a90 a91 a92 a93 a94 a95 a96 a97 a98 a99 a100 a101 a102 a103 a104 a105 a106 a107 a108 a109) = fr56 s0 many rest out sizes i a1 a7 a11 a12 a13 a14 a15 a16 a17 a18 a19 a20 a21 a22 a23 a24 a25 a26 a27 a28 a29 a85 a86 a87 a88 a89 a90 a91 a92 a93 a94 a95 a96 a97 a98 a99 a100 a101 a102 a103 a104 a105 a106 a107 a108 a109 := fun rest out sizes i a1 a7 a11 a12 a13 a14 a15 a16 a17 a18 a19 a20 a21 a22 a23 a24 a25 a26 a27 a28 a29 a85 a86 a87 a88 a89 a90 a91 a92 a93 a94 a95 a96 a97 a98 a99 a100 a101 a102 a103 a104 a105 a106 a107 a108 a109 => by
    simp [forget, fg56, tail56, c56, fr56]
  intro n
  induction n with
  | zero =>
    intro h' bo bs L s hs hn hI hk a1 a7 a11 a12 a13 a14 a15 a16 a17 a18 a19 a20 a21 a22 a23 a24 a25 a26 a27 a28 a29 a85 a86 a87 a88 a89 a90 a91 a92 a93 a94 a95 a96 a97 a98 a99 a100 a101 a102 a103 a104 a105 a106 a107 a108 a109
    refine ⟨fun _ => ?_, fun h => absurd rfl h⟩
    have e : (L.length : Int) = many := by omega
    have hr := ref_end (T := T) s0 h' many s (outK bo L) (outS bs L) many (by omega) a1 a7 a11 a12 a13 a14 a15 a16 a17 a18 a19 a20 a21 a22 a23 a24 a25 a26 a27 a28 a29 a85 a86 a87 a88 a89 a90 a91 a92 a93 a94 a95 a96 a97 a98 a99 a100 a101 a102 a103 a104 a105 a106 a107 a108 a109
    refine ⟨h', bo, bs, a11, a12, a13, a14, a15, a16, hI, ?_⟩
    rw [e]
    exact Run.loop_end_f (hfg _ _ _ _ a1 a7 a11 a12 a13 a14 a15 a16 a17 a18 a19 a20 a21 a22 a23 a24 a25 a26 a27 a28 a29 a85 a86 a87 a88 a89 a90 a91 a92 a93 a94 a95 a96 a97 a98 a99 a100 a101 a102 a103 a104 a105 a106 a107 a108 a109) (by simp) hr
  | succ n ih =>
    intro h' bo bs L s hs hn hI hk a1 a7 a11 a12 a13 a14 a15 a16 a17 a18 a19 a20 a21 a22 a23 a24 a25 a26 a27 a28 a29 a85 a86 a87 a88 a89 a90 a91 a92 a93 a94 a95 a96 a97 a98 a99 a100 a101 a102 a103 a104 a105 a106 a107 a108 a109
    have e : slotsF (n + 1) L s 0 = slotsF n (L ++ [(slot1 L s).1]) (slot1 L s).2.1 (slot1 L s).2.2 := by rw [slotsF]; simp
    have hk' := slot1_key L s
    -- one round
    have hone : ((slot1 L s).2.2 = 0 → ∃ H bo' bs' a11' a12' a13' a14' a15' a16' tm', forget fg56 tm' = fr56 s0 many (slot1 L s).2.1 (outK bo' (L ++ [(slot1 L s).1])) (outS bs' (L ++ [(slot1 L s).1])) ((L ++ [(slot1 L s).1]).length : Int) a1 a7 a11' a12' a13' a14' a15' a16' a17 a18 a19 a20 a21 a22 a23 a24 a25 a26 a27 a28 a29 a85 a86 a87 a88 a89 a90 a91 a92 a93 a94 a95 a96 a97 a98 a99 a100 a101 a102 a103 a104 a105 a106 a107 a108 a109 ∧ InvR h0 H bo' bs' (L ++ [(slot1 L s).1]) ∧ Run Try.prog T body56 (fr56 s0 many s (outK bo L) (outS bs L) L.length a1 a7 a11 a12 a13 a14 a15 a16 a17 a18 a19 a20 a21 a22 a23 a24 a25 a26 a27 a28 a29 a85 a86 a87 a88 a89 a90 a91 a92 a93 a94 a95 a96 a97 a98 a99 a100 a101 a102 a103 a104 a105 a106 a107 a108 a109) h' (.normal, tm', H)) ∧
        ((slot1 L s).2.2 ≠ 0 → ∃ tm' H, err3 tm' (slot1 L s).2.2 ∧ (∀ b, b < h0.length → bk H b = bk h0 b) ∧ Run Try.prog T body56 (fr56 s0 many s (outK bo L) (outS bs L) L.length a1 a7 a11 a12 a13 a14 a15 a16 a17 a18 a19 a20 a21 a22 a23 a24 a25 a26 a27 a28 a29 a85 a86 a87 a88 a89 a90 a91 a92 a93 a94 a95 a96 a97 a98 a99 a100 a101 a102 a103 a104 a105 a106 a107 a108 a109) h' (.ret, tm', H)) := by
      by_cases hw : (gets s).2.2 = 0
      · cases hm : L.length with
        | zero =>
          have hL0 : L = [] := List.length_eq_zero_iff.1 hm
          subst hL0
          have e2 : (slot1 [] s).2.2 = (gets (gets s).2.1).2.2 := by simp [slot1, numS_z, hw]
          refine ⟨fun hz => ?_, fun hz => ?_⟩
          · obtain ⟨H, a11', a12', a13', a14', a15', a16', tm', x1, x2, x3⟩ := ref0C (T := T) hG s0 h0 h' bo bs many s hs (by simp at hn; omega) hI hw (e2 ▸ hz) a1 a7 a11 a12 a13 a14 a15 a16 a17 a18 a19 a20 a21 a22 a23 a24 a25 a26 a27 a28 a29 a85 a86 a87 a88 a89 a90 a91 a92 a93 a94 a95 a96 a97 a98 a99 a100 a101 a102 a103 a104 a105 a106 a107 a108 a109
            exact ⟨H, _, _, a11', a12', a13', a14', a15', a16', tm', x1, x2, x3⟩
          · rw [e2]
            exact ref0B (T := T) hG s0 h0 h' bo bs many s hs (by simp at hn; omega) hI hw (e2 ▸ hz) a1 a7 a11 a12 a13 a14 a15 a16 a17 a18 a19 a20 a21 a22 a23 a24 a25 a26 a27 a28 a29 a85 a86 a87 a88 a89 a90 a91 a92 a93 a94 a95 a96 a97 a98 a99 a100 a101 a102 a103 a104 a105 a106 a107 a108 a109
        | succ m =>
          have hne : L ≠ [] := by intro h; rw [h] at hm; simp at hm
          have hm1 : (m : Int) + 1 < many := by omega
          have e3 : ((L ++ [(slot1 L s).1]).length : Int) = (m : Int) + 2 := by simp [hm]; omega
          rw [e3]
          have hl' : (L.getLast?.getD (0, 0)).1 = (L.getLastD (0, 0)).1 := by simp
          by_cases hx : (L.getLastD (0, 0)).1 = 18446744073709551615
          · have e2 : (slot1 L s).2.2 = 7 := by simp [slot1, numS_z, hw, hne, hl', eq_true hx, numS_e]
            refine ⟨fun hz => by rw [e2] at hz; exact absurd hz (by omega), fun _ => ?_⟩
            rw [e2]
            exact ref1B (T := T) hG s0 h0 h' bo bs m many s hs L hm hm1 hmany hI hk.1 hk.2 hw hx a1 a7 a11 a12 a13 a14 a15 a16 a17 a18 a19 a20 a21 a22 a23 a24 a25 a26 a27 a28 a29 a85 a86 a87 a88 a89 a90 a91 a92 a93 a94 a95 a96 a97 a98 a99 a100 a101 a102 a103 a104 a105 a106 a107 a108 a109
          · by_cases hy : (gets s).1 > 18446744073709551615 - (L.getLastD (0, 0)).1 - 1
            · have hy' : 18446744073709551615 - (L.getLastD (0, 0)).1 - 1 < (gets s).1 := hy
              have e2 : (slot1 L s).2.2 = 7 := by simp [slot1, numS_z, hw, hne, hl', eq_false hx, eq_true hy', numS_e]
              refine ⟨fun hz => by rw [e2] at hz; exact absurd hz (by omega), fun _ => ?_⟩
              rw [e2]
              exact ref1C (T := T) hG s0 h0 h' bo bs m many s hs L hm hm1 hmany hI hk.1 hk.2 hw hx hy a1 a7 a11 a12 a13 a14 a15 a16 a17 a18 a19 a20 a21 a22 a23 a24 a25 a26 a27 a28 a29 a85 a86 a87 a88 a89 a90 a91 a92 a93 a94 a95 a96 a97 a98 a99 a100 a101 a102 a103 a104 a105 a106 a107 a108 a109
            · have hy' : ¬ 18446744073709551615 - (L.getLastD (0, 0)).1 - 1 < (gets s).1 := hy
              have e2 : (slot1 L s).2.2 = (gets (gets s).2.1).2.2 := by simp [slot1, numS_z, hw, hne, hl', eq_false hx, eq_false hy']
              refine ⟨fun hz => ?_, fun hz => ?_⟩
              · obtain ⟨H, a11', a12', a13', a14', a15', a16', tm', x1, x2, x3⟩ := ref1E (T := T) hG s0 h0 h' bo bs m many s hs L hm hm1 hmany hI hk.1 hk.2 hw hx hy (e2 ▸ hz) a1 a7 a11 a12 a13 a14 a15 a16 a17 a18 a19 a20 a21 a22 a23 a24 a25 a26 a27 a28 a29 a85 a86 a87 a88 a89 a90 a91 a92 a93 a94 a95 a96 a97 a98 a99 a100 a101 a102 a103 a104 a105 a106 a107 a108 a109
                exact ⟨H, _, _, a11', a12', a13', a14', a15', a16', tm', x1, x2, x3⟩
              · rw [e2]
                exact ref1D (T := T) hG s0 h0 h' bo bs m many s hs L hm hm1 hmany hI hk.1 hk.2 hw hx hy (e2 ▸ hz) a1 a7 a11 a12 a13 a14 a15 a16 a17 a18 a19 a20 a21 a22 a23 a24 a25 a26 a27 a28 a29 a85 a86 a87 a88 a89 a90 a91 a92 a93 a94 a95 a96 a97 a98 a99 a100 a101 a102 a103 a104 a105 a106 a107 a108 a109
      · have e2 : (slot1 L s).2.2 = (gets s).2.2 := by simp [slot1, numS_z, hw, numS_e]
        refine ⟨fun hz => absurd (e2 ▸ hz) hw, fun _ => ?_⟩
        rw [e2]
        cases hm : L.length with
        | zero =>
          have hL0 : L = [] := List.length_eq_zero_iff.1 hm
          subst hL0
          exact ref0A (T := T) hG s0 h0 h' bo bs many s hs (by simp at hn; omega) hI hw a1 a7 a11 a12 a13 a14 a15 a16 a17 a18 a19 a20 a21 a22 a23 a24 a25 a26 a27 a28 a29 a85 a86 a87 a88 a89 a90 a91 a92 a93 a94 a95 a96 a97 a98 a99 a100 a101 a102 a103 a104 a105 a106 a107 a108 a109
        | succ m =>
          exact ref1A (T := T) hG s0 h0 h' bo bs m many s hs L hm (by omega) hmany hI hk.1 hk.2 hw a1 a7 a11 a12 a13 a14 a15 a16 a17 a18 a19 a20 a21 a22 a23 a24 a25 a26 a27 a28 a29 a85 a86 a87 a88 a89 a90 a91 a92 a93 a94 a95 a96 a97 a98 a99 a100 a101 a102 a103 a104 a105 a106 a107 a108 a109
    rw [e]
    by_cases hw : (slot1 L s).2.2 = 0
    · rw [hw]
      obtain ⟨H, bo', bs', a11', a12', a13', a14', a15', a16', tm', x1, x2, x3⟩ := hone.1 hw
      obtain ⟨i1, i2⟩ := ih H bo' bs' (L ++ [(slot1 L s).1]) (slot1 L s).2.1 (slot1_size L hs) (by simp; omega) x2 (by simpa using hk') a1 a7 a11' a12' a13' a14' a15' a16' a17 a18 a19 a20 a21 a22 a23 a24 a25 a26 a27 a28 a29 a85 a86 a87 a88 a89 a90 a91 a92 a93 a94 a95 a96 a97 a98 a99 a100 a101 a102 a103 a104 a105 a106 a107 a108 a109
      refine ⟨fun hz => ?_, fun hz => ?_⟩
      · obtain ⟨H2, bo2, bs2, b11, b12, b13, b14, b15, b16, y1, y2⟩ := i1 hz
        exact ⟨H2, bo2, bs2, b11, b12, b13, b14, b15, b16, y1, Run.loop_go (hfg _ _ _ _ a1 a7 a11 a12 a13 a14 a15 a16 a17 a18 a19 a20 a21 a22 a23 a24 a25 a26 a27 a28 a29 a85 a86 a87 a88 a89 a90 a91 a92 a93 a94 a95 a96 a97 a98 a99 a100 a101 a102 a103 a104 a105 a106 a107 a108 a109) x3 x1 y2⟩
      · obtain ⟨tm2, H2, y1, y2, y3⟩ := i2 hz
        exact ⟨tm2, H2, y1, y2, Run.loop_go (hfg _ _ _ _ a1 a7 a11 a12 a13 a14 a15 a16 a17 a18 a19 a20 a21 a22 a23 a24 a25 a26 a27 a28 a29 a85 a86 a87 a88 a89 a90 a91 a92 a93 a94 a95 a96 a97 a98 a99 a100 a101 a102 a103 a104 a105 a106 a107 a108 a109) x3 x1 y3⟩
    · rw [slotsF_err n _ _ hw]
      refine ⟨fun hz => absurd hz hw, fun _ => ?_⟩
      obtain ⟨tm', H, y1, y2, y3⟩ := hone.2 hw
      exact ⟨tm', H, y1, y2, Run.loop_end_f (hfg _ _ _ _ a1 a7 a11 a12 a13 a14 a15 a16 a17 a18 a19 a20 a21 a22 a23 a24 a25 a26 a27 a28 a29 a85 a86 a87 a88 a89 a90 a91 a92 a93 a94 a95 a96 a97 a98 a99 a100 a101 a102 a103 a104 a105 a106 a107 a108 a109) (by simp) y3⟩
end Go.Proofs.Ytpmoellbfgcefaa.AS
end
section
set_option autoImplicit false
set_option maxRecDepth 100000
set_option maxHeartbeats 2000000
set_option linter.unusedSimpArgs false
namespace Go.Proofs.Ytpmoellbfgcefaa.AS
open Go Go.Proofs Go.RowKit Go.Proofs.Ytpmoellbfgcefaa.AS.V

structure InvQ (h0 h' : Heap) (bo bs : Nat) (L : List (Int × Int)) (E : List (Int × ByteArray)) (j : Nat) : Prop where
  old : ∀ b, b < h0.length → bk h' b = bk h0 b
  len : h0.length ≤ h'.length
  bo0 : h0.length ≤ bo
  ne : bo ≠ bs
  out : bk h' bo = some ⟨L.length - 1, 52, 2, true, (E ++ (L.drop j).map key0).flatMap entC⟩
  sz : bk h' bs = some ⟨L.length - 1, 35, 1, true, L.map szC⟩
noncomputable def tail56b : ACode := match tail56 with
  | .seq _ (.seq _ (.seq _ t)) => t
  | _ => .skip
noncomputable def body56b : ACode := match tail56b with
  | .seq (.seq _ (.block _ (.loop _ b))) _ => b
  | _ => .skip
noncomputable def fg56b : List Nat := match tail56b with
  | .seq (.seq _ (.block _ (.loop fg _))) _ => fg
  | _ => []
def fr56b (s0 : ByteArray) (many : Int) (rest : ByteArray) (out sizes sv : AV) (i N j : Int) (a1 a7 a11 a12 a13 a14 a15 a16 a17 a18 a19 a20 a21 a22 a23 a24 a25 a26 a27 a28 a29 a30 a31 a32 a108 a109 : AV) : List AV := [.s (.string s0), a1, .any, .any, .any, .s (.int .u64 many), .s (.string rest), a7, out, sizes, .s (.int .u64 i), a11, a12, a13, a14, a15, a16, a17, a18, a19, a20, a21, a22, a23, a24, a25, a26, a27, a28, a29, a30, a31, a32] ++ List.replicate 52 .any ++ [sv, .s (.int .i64 N), .s (.int .i64 j)] ++ List.replicate 20 .any ++ [a108, a109]
theorem rq_end {T : FuncId → Option AFunc} (s0 : ByteArray) (h' : Heap) (many : Int) (rest : ByteArray) (out sizes sv : AV) (i N j : Int) (hj : ¬ j < N) (a1 a7 a11 a12 a13 a14 a15 a16 a17 a18 a19 a20 a21 a22 a23 a24 a25 a26 a27 a28 a29 a30 a31 a32 a108 a109 : AV) :
    ∃ tm', tm'.length = 110 ∧ tm'[6]? = some (.s (.string rest)) ∧ tm'[8]? = some out ∧ Run Try.prog T body56b (fr56b s0 many rest out sizes sv i N j a1 a7 a11 a12 a13 a14 a15 a16 a17 a18 a19 a20 a21 a22 a23 a24 a25 a26 a27 a28 a29 a30 a31 a32 a108 a109) h' (.exit 2, tm', h') := by
  refine ⟨?q1, ?q2, ?q3, ?q5, Run.step 40 fun k j => ?q4⟩
  case q4 =>
    simp [c56, tail56, tail56b, body56b, fr56b, eq_false hj]
    rfl
  case q2 => rfl
  case q3 => rfl
  case q5 => rfl
theorem rq_one {T : FuncId → Option AFunc} (s0 : ByteArray) (h0 h' : Heap) (bo bs m j : Nat) (L : List (Int × Int)) (E : List (Int × ByteArray)) (r : ByteArray) (hr : r.size ≤ 9223372036854775807) (hL : L.length = m + 1) (hm : m < 65536) (hj : j < m + 1) (hE : E.length = j) (x : Int × Int) (hx : L[j]? = some x) (hx0 : 0 ≤ x.2) (hx1 : x.2 ≤ 18446744073709551615) (hI : InvQ h0 h' bo bs L E j) (many i : Int) (a1 a7 a11 a12 a13 a14 a15 a16 a17 a18 a19 a20 a21 a22 a23 a24 a25 a26 a27 a28 a29 a30 a31 a32 a108 a109 : AV) :
    ((r.size : Int) < x.2 → ∃ tm', err3 tm' 5 ∧ Run Try.prog T body56b (fr56b s0 many r (.sl bo m 0 (m + 1) 2) (.sl bs m 0 (m + 1) 1) (.sl bs m 0 (m + 1) 1) i ((m : Int) + 1) j a1 a7 a11 a12 a13 a14 a15 a16 a17 a18 a19 a20 a21 a22 a23 a24 a25 a26 a27 a28 a29 a30 a31 a32 a108 a109) h' (.ret, tm', h')) ∧
    (¬ (r.size : Int) < x.2 → ∃ H a17' a18' tm', forget fg56b tm' = fr56b s0 many (r.extract x.2.toNat r.size) (.sl bo m 0 (m + 1) 2) (.sl bs m 0 (m + 1) 1) (.sl bs m 0 (m + 1) 1) i ((m : Int) + 1) ((j : Int) + 1) a1 a7 a11 a12 a13 a14 a15 a16 a17' a18' a19 a20 a21 a22 a23 a24 a25 a26 a27 a28 a29 a30 a31 a32 a108 a109 ∧ InvQ h0 H bo bs L (E ++ [dat1 x r]) (j + 1) ∧ Run Try.prog T body56b (fr56b s0 many r (.sl bo m 0 (m + 1) 2) (.sl bs m 0 (m + 1) 1) (.sl bs m 0 (m + 1) 1) i ((m : Int) + 1) j a1 a7 a11 a12 a13 a14 a15 a16 a17 a18 a19 a20 a21 a22 a23 a24 a25 a26 a27 a28 a29 a30 a31 a32 a108 a109) h' (.normal, tm', H)) := by
  have ho := hI.out
  have hz := hI.sz
  rw [hL, Nat.add_sub_cancel] at ho hz
  have hlo := bk_lt ho
  have hls := bk_lt hz
  have o3 := hI.ne
  have o3' := Ne.symm o3
  have hle := hI.len
  have hb0 := hI.bo0
  obtain ⟨hltj, hxj⟩ := List.getElem?_eq_some_iff.1 hx
  have hSg : (L.map szC)[j]? = some (.s (.int .u64 x.2)) := by rw [List.getElem?_map, hx]; rfl
  have hSl : (L.map szC).length = m + 1 := by simp [hL]
  have eD : L.drop j = x :: L.drop (j + 1) := by rw [List.drop_eq_getElem_cons hltj, hxj]
  have eC : (E ++ (L.drop j).map key0).flatMap entC = E.flatMap entC ++ .s (.int .u64 x.1) :: .s (.string ⟨#[]⟩) :: ((L.drop (j + 1)).map key0).flatMap entC := by
    rw [eD]; simp [entC, key0]
  have hEl := entC_len E
  rw [hE] at hEl
  have hT1 : ((E ++ (L.drop j).map key0).flatMap entC).take (j * 2 + 1) = E.flatMap entC ++ [.s (.int .u64 x.1)] := by
    rw [eC, ← hEl, List.take_append, List.take_of_length_le (by omega)]
    simp
  have hT2 : ((E ++ (L.drop j).map key0).flatMap entC).drop (j * 2 + 1 + 1) = ((L.drop (j + 1)).map key0).flatMap entC := by
    have e9 : j * 2 + 1 + 1 - (E.flatMap entC).length = 2 := by omega
    rw [eC, List.drop_append, List.drop_eq_nil_of_le (by omega), e9]
    rfl
  have hCl : ((E ++ (L.drop j).map key0).flatMap entC).length = (m + 1) * 2 := by rw [entC_len]; simp [hL]; omega
  have hnew : (E ++ [dat1 x r] ++ (L.drop (j + 1)).map key0).flatMap entC = E.flatMap entC ++ .s (.int .u64 x.1) :: .s (.string (r.extract 0 x.2.toNat)) :: ((L.drop (j + 1)).map key0).flatMap entC := by
    simp [entC, dat1]
  obtain ⟨xk, xn⟩ := x
  simp only at hx0 hx1 hSg hT1 hnew
  generalize hC : (E ++ (L.drop j).map key0).flatMap entC = C at *
  generalize hS : L.map szC = S at *
  have hSd : (S.drop j).take 1 = [.s (.int .u64 xn)] := by
    rw [List.take_one, List.head?_drop, hSg]; rfl
  have hle1 : j + 1 ≤ S.length := by omega
  have hlt1 : j < S.length := by omega
  have hle2 : j * 2 + 1 + 1 ≤ C.length := by omega
  have ij : (j : Int) < (m : Int) + 1 := by omega
  have wj : IntKind.i64.wrap ((j : Int) + 1) = (j : Int) + 1 := w64k (by omega) (by omega)
  have wr : IntKind.u64.wrap (r.size : Int) = r.size := wu64 (by omega) (by omega)
  refine ⟨fun hs => ?_, fun hs => ?_⟩
  · refine ⟨?q1, ?q2, Run.step 60 fun k j => ?q3⟩
    case q3 =>
      simp [c56, tail56, tail56b, body56b, fr56b, ij, hz, hSd, hSg, hle1, hlt1, oneOr, cellsOf, isCell, wr, wj, eq_true hs, Try.underlying9, Try.underlying3, Try.underlying35]
      (first | rfl | (constructor <;> rfl))
    case q2 => exact ⟨rfl, rfl, rfl⟩
  · have shi : ∀ t, Try.prog.underlying t = some .string → slS Try.prog t (some (.s (.string r))) none (some (some (.s (.int .u64 xn)))) = some (.s (.string (r.extract 0 xn.toNat))) := fun t h => sl_hi h r .u64 xn hx0 (by omega)
    have slo : ∀ t, Try.prog.underlying t = some .string → slS Try.prog t (some (.s (.string r))) (some (some (.s (.int .u64 xn)))) none = some (.s (.string (r.extract xn.toNat r.size))) := fun t h => sl_lo h r .u64 xn hx0 (by omega)
    refine ⟨?q4, ?q5, ?q6, ?q7, ?q8, ?q9, Run.step 60 fun k j => ?q10⟩
    case q10 =>
      simp [c56, tail56, tail56b, body56b, fr56b, ij, hz, ho, hlo, hSd, hSg, hle1, hlt1, hle2, oneOr, cellsOf, isCell, wr, wj, eq_false hs, shi, slo, Try.underlying9, Try.underlying3, Try.underlying35]
      (first | rfl | (constructor <;> rfl))
    case q8 =>
      simp [forget, fg56b, tail56b, tail56, c56, fr56b]
      (first | rfl | (constructor <;> rfl))
    case q9 =>
      refine ⟨fun b h1 => ?_, ?_, hb0, o3, ?_, ?_⟩
      · have h4 : bo ≠ b := by omega
        simp [h4, hI.old b h1]
      · simp; omega
      · rw [hnew, hL]
        simp [hlo, hT1, hT2]
      · rw [hS, hL]
        simp [o3, hz]

end Go.Proofs.Ytpmoellbfgcefaa.AS
end
