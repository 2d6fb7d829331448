/- Of our own: an abstract machine beside the model, its soundness, and walks of the program in it. -/
import Derived.Test.YtpmoellbfgcefaaA14
import Derived.Test.YtpmoellbfgcefaaA8
set_option linter.unusedSimpArgs false
set_option linter.unusedVariables false
section
set_option autoImplicit false
set_option maxRecDepth 100000
set_option maxHeartbeats 2000000
set_option linter.unusedSimpArgs false
namespace Go.Proofs.Ytpmoellbfgcefaa.AS
open Go Go.Proofs Go.RowKit Go.Proofs.Ytpmoellbfgcefaa.AS.V

def entC (x : Int × ByteArray) : List AV := [.s (.int .u64 x.1), .s (.string x.2)]
def rowE (b : Nat) : List (Int × ByteArray) → AV
  | [] => .s (.slice none 0 0)
  | _ :: L => .sl b L.length 0 (L.length + 1) 2
theorem entC_len : ∀ L : List (Int × ByteArray), (L.flatMap entC).length = L.length * 2
  | [] => rfl
  | x :: L => by rw [List.flatMap_cons, List.length_append, entC_len L, List.length_cons]; simp [entC]; omega
def dat1 (x : Int × Int) (r : ByteArray) : Int × ByteArray := (x.1, r.extract 0 x.2.toNat)
def datF : List (Int × Int) → List (Int × ByteArray) → ByteArray → Option (List (Int × ByteArray) × ByteArray)
  | [], E, r => some (E, r)
  | x :: L, E, r => if (r.size : Int) < x.2 then none else datF L (E ++ [dat1 x r]) (r.extract x.2.toNat r.size)
structure InvD (h0 h' : Heap) (br bo bd : Nat) (L : List (Int × Int)) (E : List (Int × ByteArray)) (r : ByteArray) : Prop where
  rd : bk h' br = some ⟨0, 90, 2, true, [.s (.string r), .s (.int .i64 0)]⟩
  sl : L ≠ [] → br ≠ bo ∧ h0.length ≤ bo ∧ bk h' bo = some ⟨L.length - 1, 94, 3, true, L.flatMap slotC⟩
  old : ∀ b, b < h0.length → bk h' b = bk h0 b
  len : h0.length ≤ h'.length
  hbr : h0.length ≤ br
  out : E ≠ [] → h0.length ≤ bd ∧ br ≠ bd ∧ (L ≠ [] → bo ≠ bd) ∧ bk h' bd = some ⟨E.length - 1, 52, 2, true, E.flatMap entC⟩
def fr33 (s0 : ByteArray) (br : Nat) (out sv : AV) (N j : Int) (a1 a6 a8 a9 a10 a11 a12 a13 a14 a15 a16 a17 a18 a19 a20 a21 a22 a23 a64 a65 a66 a67 a68 : AV) : List AV := [.s (.string s0), a1, .any, .any, .any, .pt br 0 0, a6, out, a8, a9, a10, a11, a12, a13, a14, a15, a16, a17, a18, a19, a20, a21, a22, a23, sv, .s (.int .i64 N), .s (.int .i64 j)] ++ List.replicate 37 .any ++ [a64, a65, a66, a67, a68]
noncomputable def tail33 : ACode := match c33 with
  | .seq _ (.seq _ (.seq _ (.seq _ t))) => t
  | _ => .skip
noncomputable def body33 : ACode := match tail33 with
  | .seq _ (.seq (.seq _ (.block _ (.loop _ b))) _) => b
  | _ => .skip
noncomputable def fg33 : List Nat := match tail33 with
  | .seq _ (.seq (.seq _ (.block _ (.loop fg _))) _) => fg
  | _ => []
theorem rd_end {T : FuncId → Option AFunc} (s0 : ByteArray) (h' : Heap) (br : Nat) (out sv : AV) (N j : Int) (hj : ¬ j < N) (a1 a6 a8 a9 a10 a11 a12 a13 a14 a15 a16 a17 a18 a19 a20 a21 a22 a23 a64 a65 a66 a67 a68 : AV) :
    ∃ tm', tm'.length = 69 ∧ tm'[5]? = some (.pt br 0 0) ∧ tm'[7]? = some out ∧ Run Try.prog T body33 (fr33 s0 br out sv N j a1 a6 a8 a9 a10 a11 a12 a13 a14 a15 a16 a17 a18 a19 a20 a21 a22 a23 a64 a65 a66 a67 a68) h' (.exit 0, tm', h') := by
  refine ⟨?tm2, ?l2, ?o1, ?o2, Run.step 40 fun k j => ?run2⟩
  case run2 =>
    simp [c33, tail33, body33, fr33, eq_false hj]
    rfl
  case l2 => rfl
  case o1 => rfl
  case o2 => rfl

theorem rd_short {T : FuncId → Option AFunc} (s0 : ByteArray) (h0 h' : Heap) (br bo bd m j : Nat) (L : List (Int × Int)) (E : List (Int × ByteArray)) (r : ByteArray) (hr : r.size ≤ 9223372036854775807) (hL : L.length = m + 1) (hm : m < 65536) (hj : j < m + 1) (x : Int × Int) (hx : L[j]? = some x) (hx0 : 0 ≤ x.2) (hx1 : x.2 ≤ 18446744073709551615)
    (hI : InvD h0 h' br bo bd L E r) (hs : (r.size : Int) < x.2) (out : AV)
    (a1 a6 a8 a9 a10 a11 a12 a13 a14 a15 a16 a17 a18 a19 a20 a21 a22 a23 a64 a65 a66 a67 a68 : AV) : ∃ H tm', tm'[2]? = some (.s (.slice none 0 0)) ∧ tm'[3]? = some (.s (.string ⟨#[]⟩)) ∧ tm'[4]? = some (.s (.int .i64 5)) ∧ (∀ b, b < h0.length → bk H b = bk h0 b) ∧ Run Try.prog T body33 (fr33 s0 br out (.sl bo m 0 (m + 1) 3) ((m : Int) + 1) j a1 a6 a8 a9 a10 a11 a12 a13 a14 a15 a16 a17 a18 a19 a20 a21 a22 a23 a64 a65 a66 a67 a68) h' (.ret, tm', H) := by
  have hb := hI.rd
  have hlt := bk_lt hb
  have hle := hI.len
  have hbr := hI.hbr
  have hne : L ≠ [] := by intro h; rw [h] at hL; simp at hL
  obtain ⟨ho2, ho1, ho3⟩ := hI.sl hne
  rw [hL, Nat.add_sub_cancel] at ho3
  have hlo := bk_lt ho3
  have hCl : (L.flatMap slotC).length = (m + 1) * 3 := by rw [slotC_len, hL]
  have hCd : ((L.flatMap slotC).drop (j * 3)).take 3 = [.s (.int .u64 x.1), .s (.string ⟨#[]⟩), .s (.int .u64 x.2)] := by
    obtain ⟨M1, M2, e1, e2⟩ : ∃ M1 M2, L = M1 ++ x :: M2 ∧ M1.length = j := by
      obtain ⟨h1, h2⟩ := List.getElem?_eq_some_iff.1 hx
      exact ⟨L.take j, L.drop (j + 1), by rw [← h2, List.getElem_cons_drop, List.take_append_drop], by simp; omega⟩
    rw [e1, List.flatMap_append, List.flatMap_cons, List.drop_left' (by rw [slotC_len, e2])]
    rfl
  have hsl : L.flatMap slotC = L.flatMap slotC := rfl
  generalize hC : L.flatMap slotC = C at ho3 hCl hCd
  obtain ⟨xk, xn⟩ := x
  simp only at hx0 hx1 hCd
  have hle1 : j * 3 + 3 ≤ C.length := by omega
  have n1 : bo ≠ h'.length := by omega
  have n2 : bo ≠ h'.length + 1 := by omega
  have n3 : br ≠ h'.length := by omega
  have n4 : br ≠ h'.length + 1 := by omega
  have ho2' := Ne.symm ho2
  have ij : (j : Int) < (m : Int) + 1 := by omega
  have j0 : (0 : Int) ≤ (j : Int) := by omega
  have wj : IntKind.i64.wrap ((j : Int) + 1) = (j : Int) + 1 := w64k (by omega) (by omega)
  have wr : IntKind.u64.wrap (r.size : Int) = r.size := wu64 (by omega) (by omega)
  have hs' : (r.size : Int) < xn := hs
  refine ⟨?H, ?tm, ?o1, ?o2, ?o3, ?old, Run.step 60 fun k j => ?run⟩
  case run =>
    simp [c33, tail33, body33, fr33, hb, hlt, hm, hr, oneOr, cellsOf, isCell, fillA, ij, ho3, hCd, hle1, hlo, n1, n2, n3, n4, ho2, ho2', wj, wr, Try.underlying9, Try.underlying3, Try.underlying35, eq_true hs']
    (constructor <;> rfl)
  case o1 => rfl
  case o2 => rfl
  case o3 => rfl
  case old =>
    intro b h1
    have h3 : b < h'.length := by omega
    simp [h3, hI.old b h1]

theorem rd_one0 {T : FuncId → Option AFunc} (s0 : ByteArray) (h0 h' : Heap) (br bo bd m j : Nat) (L : List (Int × Int)) (E : List (Int × ByteArray)) (r : ByteArray) (hr : r.size ≤ 9223372036854775807) (hL : L.length = m + 1) (hm : m < 65536) (hj : j < m + 1) (x : Int × Int) (hx : L[j]? = some x) (hx0 : 0 ≤ x.2) (hx1 : x.2 ≤ 18446744073709551615)
    (hI : InvD h0 h' br bo bd L E r) (hE : E = []) (hs : ¬ (r.size : Int) < x.2)
    (a1 a6 a8 a9 a10 a11 a12 a13 a14 a15 a16 a17 a18 a19 a20 a21 a22 a23 a64 a65 a66 a67 a68 : AV) : ∃ H a9' tm', forget fg33 tm' = fr33 s0 br (rowE (h'.length + 2) (E ++ [dat1 x r])) (.sl bo m 0 (m + 1) 3) ((m : Int) + 1) ((j : Int) + 1) a1 a6 a8 a9' a10 a11 a12 a13 a14 a15 a16 a17 a18 a19 a20 a21 a22 a23 a64 a65 a66 a67 a68 ∧ InvD h0 H br bo (h'.length + 2) L (E ++ [dat1 x r]) (r.extract x.2.toNat r.size) ∧ Run Try.prog T body33 (fr33 s0 br (rowE bd E) (.sl bo m 0 (m + 1) 3) ((m : Int) + 1) j a1 a6 a8 a9 a10 a11 a12 a13 a14 a15 a16 a17 a18 a19 a20 a21 a22 a23 a64 a65 a66 a67 a68) h' (.normal, tm', H) := by
  have hb := hI.rd
  have hlt := bk_lt hb
  have hle := hI.len
  have hbr := hI.hbr
  have hne : L ≠ [] := by intro h; rw [h] at hL; simp at hL
  obtain ⟨ho2, ho1, ho3⟩ := hI.sl hne
  rw [hL, Nat.add_sub_cancel] at ho3
  have hlo := bk_lt ho3
  have hCl : (L.flatMap slotC).length = (m + 1) * 3 := by rw [slotC_len, hL]
  have hCd : ((L.flatMap slotC).drop (j * 3)).take 3 = [.s (.int .u64 x.1), .s (.string ⟨#[]⟩), .s (.int .u64 x.2)] := by
    obtain ⟨M1, M2, e1, e2⟩ : ∃ M1 M2, L = M1 ++ x :: M2 ∧ M1.length = j := by
      obtain ⟨h1, h2⟩ := List.getElem?_eq_some_iff.1 hx
      exact ⟨L.take j, L.drop (j + 1), by rw [← h2, List.getElem_cons_drop, List.take_append_drop], by simp; omega⟩
    rw [e1, List.flatMap_append, List.flatMap_cons, List.drop_left' (by rw [slotC_len, e2])]
    rfl
  have hsl : L.flatMap slotC = L.flatMap slotC := rfl
  generalize hC : L.flatMap slotC = C at ho3 hCl hCd
  obtain ⟨xk, xn⟩ := x
  simp only at hx0 hx1 hCd
  have hle1 : j * 3 + 3 ≤ C.length := by omega
  have n1 : bo ≠ h'.length := by omega
  have n2 : bo ≠ h'.length + 1 := by omega
  have n3 : br ≠ h'.length := by omega
  have n4 : br ≠ h'.length + 1 := by omega
  have ho2' := Ne.symm ho2
  have ij : (j : Int) < (m : Int) + 1 := by omega
  have j0 : (0 : Int) ≤ (j : Int) := by omega
  have wj : IntKind.i64.wrap ((j : Int) + 1) = (j : Int) + 1 := w64k (by omega) (by omega)
  have wr : IntKind.u64.wrap (r.size : Int) = r.size := wu64 (by omega) (by omega)
  have hs' : ¬ (r.size : Int) < xn := hs
  have shi : ∀ t, Try.prog.underlying t = some .string → slS Try.prog t (some (.s (.string r))) none (some (some (.s (.int .u64 xn)))) = some (.s (.string (r.extract 0 xn.toNat))) := fun t h => sl_hi h r .u64 xn hx0 (by omega)
  have slo : ∀ t, Try.prog.underlying t = some .string → slS Try.prog t (some (.s (.string r))) (some (some (.s (.int .u64 xn)))) none = some (.s (.string (r.extract xn.toNat r.size))) := fun t h => sl_lo h r .u64 xn hx0 (by omega)
  have eR1 : rowE bd E = .s (.slice none 0 0) := by rw [hE]; rfl
  have eR2 : rowE (h'.length + 2) (E ++ [dat1 (xk, xn) r]) = .sl (h'.length + 2) 0 0 1 2 := by rw [hE]; rfl
  refine ⟨?H, ?a9, ?tm, ?fg, ?inv, Run.step 60 fun k j => ?run⟩
  case run =>
    simp [c33, tail33, body33, fr33, hb, hlt, hm, hr, oneOr, cellsOf, isCell, fillA, ij, ho3, hCd, hle1, hlo, n1, n2, n3, n4, ho2, ho2', wj, wr, Try.underlying9, Try.underlying3, Try.underlying35, eq_false hs', shi, slo, eR1, apV_nil, chkDraw, okAt, avEq, vEq]
    (constructor <;> rfl)
  case fg =>
    simp [forget, fg33, tail33, c33, fr33, eR2]
    rfl
  case inv =>
    refine ⟨?_, fun _ => ⟨ho2, ho1, ?_⟩, fun b h1 => ?_, ?_, hbr, fun _ => ⟨?_, ?_, fun _ => ?_, ?_⟩⟩
    · simp [hlt]
    · simp [hL, hC, hlo, ho3, ho2, ho2']
    · have h3 : b < h'.length := by omega
      have h4 : br ≠ b := by omega
      simp [h3, h4, hI.old b h1]
    · simp; omega
    · omega
    · omega
    · omega
    · simp [entC, dat1, hE]

theorem rd_one1 {T : FuncId → Option AFunc} (s0 : ByteArray) (h0 h' : Heap) (br bo bd m j : Nat) (L : List (Int × Int)) (E : List (Int × ByteArray)) (r : ByteArray) (hr : r.size ≤ 9223372036854775807) (hL : L.length = m + 1) (hm : m < 65536) (hj : j < m + 1) (x : Int × Int) (hx : L[j]? = some x) (hx0 : 0 ≤ x.2) (hx1 : x.2 ≤ 18446744073709551615)
    (hI : InvD h0 h' br bo bd L E r) (p : Nat) (hE : E.length = p + 1) (hp : p < 65536) (hs : ¬ (r.size : Int) < x.2)
    (a1 a6 a8 a9 a10 a11 a12 a13 a14 a15 a16 a17 a18 a19 a20 a21 a22 a23 a64 a65 a66 a67 a68 : AV) : ∃ H a9' tm', forget fg33 tm' = fr33 s0 br (rowE bd (E ++ [dat1 x r])) (.sl bo m 0 (m + 1) 3) ((m : Int) + 1) ((j : Int) + 1) a1 a6 a8 a9' a10 a11 a12 a13 a14 a15 a16 a17 a18 a19 a20 a21 a22 a23 a64 a65 a66 a67 a68 ∧ InvD h0 H br bo bd L (E ++ [dat1 x r]) (r.extract x.2.toNat r.size) ∧ Run Try.prog T body33 (fr33 s0 br (rowE bd E) (.sl bo m 0 (m + 1) 3) ((m : Int) + 1) j a1 a6 a8 a9 a10 a11 a12 a13 a14 a15 a16 a17 a18 a19 a20 a21 a22 a23 a64 a65 a66 a67 a68) h' (.normal, tm', H) := by
  have hb := hI.rd
  have hlt := bk_lt hb
  have hle := hI.len
  have hbr := hI.hbr
  have hne : L ≠ [] := by intro h; rw [h] at hL; simp at hL
  obtain ⟨ho2, ho1, ho3⟩ := hI.sl hne
  rw [hL, Nat.add_sub_cancel] at ho3
  have hlo := bk_lt ho3
  have hCl : (L.flatMap slotC).length = (m + 1) * 3 := by rw [slotC_len, hL]
  have hCd : ((L.flatMap slotC).drop (j * 3)).take 3 = [.s (.int .u64 x.1), .s (.string ⟨#[]⟩), .s (.int .u64 x.2)] := by
    obtain ⟨M1, M2, e1, e2⟩ : ∃ M1 M2, L = M1 ++ x :: M2 ∧ M1.length = j := by
      obtain ⟨h1, h2⟩ := List.getElem?_eq_some_iff.1 hx
      exact ⟨L.take j, L.drop (j + 1), by rw [← h2, List.getElem_cons_drop, List.take_append_drop], by simp; omega⟩
    rw [e1, List.flatMap_append, List.flatMap_cons, List.drop_left' (by rw [slotC_len, e2])]
    rfl
  have hsl : L.flatMap slotC = L.flatMap slotC := rfl
  generalize hC : L.flatMap slotC = C at ho3 hCl hCd
  obtain ⟨xk, xn⟩ := x
  simp only at hx0 hx1 hCd
  have hle1 : j * 3 + 3 ≤ C.length := by omega
  have n1 : bo ≠ h'.length := by omega
  have n2 : bo ≠ h'.length + 1 := by omega
  have n3 : br ≠ h'.length := by omega
  have n4 : br ≠ h'.length + 1 := by omega
  have ho2' := Ne.symm ho2
  have ij : (j : Int) < (m : Int) + 1 := by omega
  have j0 : (0 : Int) ≤ (j : Int) := by omega
  have wj : IntKind.i64.wrap ((j : Int) + 1) = (j : Int) + 1 := w64k (by omega) (by omega)
  have wr : IntKind.u64.wrap (r.size : Int) = r.size := wu64 (by omega) (by omega)
  have hs' : ¬ (r.size : Int) < xn := hs
  have shi : ∀ t, Try.prog.underlying t = some .string → slS Try.prog t (some (.s (.string r))) none (some (some (.s (.int .u64 xn)))) = some (.s (.string (r.extract 0 xn.toNat))) := fun t h => sl_hi h r .u64 xn hx0 (by omega)
  have slo : ∀ t, Try.prog.underlying t = some .string → slS Try.prog t (some (.s (.string r))) (some (some (.s (.int .u64 xn)))) none = some (.s (.string (r.extract xn.toNat r.size))) := fun t h => sl_lo h r .u64 xn hx0 (by omega)
  have hEn : E ≠ [] := by intro h; rw [h] at hE; simp at hE
  obtain ⟨d1, d2, d3, d4⟩ := hI.out hEn
  have d3 := d3 hne
  rw [hE, Nat.add_sub_cancel] at d4
  have hld := bk_lt d4
  have d2' := Ne.symm d2
  have d3' := Ne.symm d3
  have m1 : bd ≠ h'.length := by omega
  have m2 : bd ≠ h'.length + 1 := by omega
  have hDl : (E.flatMap entC).length = (p + 1) * 2 := by rw [entC_len, hE]
  have eR1 : rowE bd E = .sl bd p 0 (p + 1) 2 := by
    cases E with
    | nil => exact absurd rfl hEn
    | cons y E => simp at hE; simp [rowE, hE]
  have eR2 : rowE bd (E ++ [dat1 (xk, xn) r]) = .sl bd (p + 1) 0 (p + 1 + 1) 2 := by
    cases E with
    | nil => exact absurd rfl hEn
    | cons y E => simp at hE; simp [rowE, hE]
  generalize hD : E.flatMap entC = D at d4 hDl
  have hle3 : (p + 1) * 2 ≤ D.length := by omega
  have hall : D.take ((p + 1) * 2) = D := List.take_of_length_le (by omega)
  have b1 : (p + 1 + 1) * 24 ≤ 140737488355328 := by omega
  have b2 : p + 1 + 1 ≤ 9223372036854775807 := by omega
  refine ⟨?H, ?a9, ?tm, ?fg, ?inv, Run.step 60 fun k j => ?run⟩
  case run =>
    simp [c33, tail33, body33, fr33, hb, hlt, hm, hr, oneOr, cellsOf, isCell, fillA, ij, ho3, hCd, hle1, hlo, n1, n2, n3, n4, ho2, ho2', wj, wr, Try.underlying9, Try.underlying3, Try.underlying35, eq_false hs', shi, slo, eR1, apK_s, chkDraw, okAt, avEq, vEq, d4, hld, d2, d2', d3, d3', m1, m2, hle3, hall, b1, b2]
    (constructor <;> rfl)
  case fg =>
    simp [forget, fg33, tail33, c33, fr33, eR2]
    rfl
  case inv =>
    refine ⟨?_, fun _ => ⟨ho2, ho1, ?_⟩, fun b h1 => ?_, ?_, hbr, fun _ => ⟨?_, ?_, fun _ => ?_, ?_⟩⟩
    · simp [hlt, hld, d2, d2', d3, d3']
    · simp [hL, hC, hlo, ho3, ho2, ho2', hld, d2, d2', d3, d3']
    · have h3 : b < h'.length := by omega
      have h4 : br ≠ b := by omega
      have m0 : bd ≠ b := by omega
      simp [h3, h4, hI.old b h1, m0]
    · simp; omega
    · omega
    · omega
    · omega
    · simp [entC, dat1, hld, hE, List.flatMap_append, hD]
end Go.Proofs.Ytpmoellbfgcefaa.AS
end
section
set_option autoImplicit false
set_option maxRecDepth 100000
set_option maxHeartbeats 2000000
set_option linter.unusedSimpArgs false
namespace Go.Proofs.Ytpmoellbfgcefaa.AS
open Go Go.Proofs Go.RowKit Go.Proofs.Ytpmoellbfgcefaa.AS.V

theorem rd_loop {T : FuncId → Option AFunc} (s0 : ByteArray) (h0 : Heap) (br bo m : Nat) (L : List (Int × Int)) (hL : L.length = m + 1) (hm : m < 65536) (hsz : ∀ x ∈ L, 0 ≤ x.2 ∧ x.2 ≤ 18446744073709551615) : ∀ (d j : Nat) (h' : Heap) (bd : Nat) (E : List (Int × ByteArray)) (r : ByteArray), j + d = m + 1 → E.length = j → r.size ≤ 9223372036854775807 → InvD h0 h' br bo bd L E r → ∀ (a1 a6 a8 a9 a10 a11 a12 a13 a14 a15 a16 a17 a18 a19 a20 a21 a22 a23 a64 a65 a66 a67 a68 : AV),
    (∀ E' r', datF (L.drop j) E r = some (E', r') → ∃ H bd' tm', tm'.length = 69 ∧ tm'[5]? = some (.pt br 0 0) ∧ tm'[7]? = some (rowE bd' E') ∧ InvD h0 H br bo bd' L E' r' ∧ Run Try.prog T (.loop fg33 body33) (fr33 s0 br (rowE bd E) (.sl bo m 0 (m + 1) 3) ((m : Int) + 1) j a1 a6 a8 a9 a10 a11 a12 a13 a14 a15 a16 a17 a18 a19 a20 a21 a22 a23 a64 a65 a66 a67 a68) h' (.exit 0, tm', H)) ∧
    (datF (L.drop j) E r = none → ∃ H tm', tm'[2]? = some (.s (.slice none 0 0)) ∧ tm'[3]? = some (.s (.string ⟨#[]⟩)) ∧ tm'[4]? = some (.s (.int .i64 5)) ∧ (∀ b, b < h0.length → bk H b = bk h0 b) ∧ Run Try.prog T (.loop fg33 body33) (fr33 s0 br (rowE bd E) (.sl bo m 0 (m + 1) 3) ((m : Int) + 1) j a1 a6 a8 a9 a10 a11 a12 a13 a14 a15 a16 a17 a18 a19 a20 a21 a22 a23 a64 a65 a66 a67 a68) h' (.ret, tm', H)) := by
  intro d
  have hfg : ∀ (out sv : AV) (N j : Int) (a1 a6 a8 a9 a10 a11 a12 a13 a14 a15 a16 a17 a18 a19 a20 a21 a22 a23 a64 a65 a66 a67 a68 : AV), forget fg33 (fr33 s0 br out sv N j a1 a6 a8 a9 a10 a11 a12 a13 a14 a15 a16 a17 a18 a19 a20 a21 a22 a23 a64 a65 a66 a67 a68) = fr33 s0 br out sv N j a1 a6 a8 a9 a10 a11 a12 a13 a14 a15 a16 a17 a18 a19 a20 a21 a22 a23 a64 a65 a66 a67 a68 := fun out sv N j a1 a6 a8 a9 a10 a11 a12 a13 a14 a15 a16 a17 a18 a19 a20 a21 a22 a23 a64 a65 a66 a67 a68 => by
    simp [forget, fg33, tail33, c33, fr33]
  induction d with
  | zero =>
    intro j h' bd E r hd hE hr hI a1 a6 a8 a9 a10 a11 a12 a13 a14 a15 a16 a17 a18 a19 a20 a21 a22 a23 a64 a65 a66 a67 a68
    rw [List.drop_eq_nil_of_le (by omega)]
    refine ⟨fun E' r' he => ?_, fun he => by simp [datF] at he⟩
    simp only [datF, Option.some.injEq, Prod.mk.injEq] at he
    obtain ⟨rfl, rfl⟩ := he
    obtain ⟨tm', t1, t2, t3, t4⟩ := rd_end (T := T) s0 h' br (rowE bd E) (.sl bo m 0 (m + 1) 3) ((m : Int) + 1) j (by omega) a1 a6 a8 a9 a10 a11 a12 a13 a14 a15 a16 a17 a18 a19 a20 a21 a22 a23 a64 a65 a66 a67 a68
    exact ⟨h', bd, tm', t1, t2, t3, hI, Run.loop_end_f (hfg _ _ _ _ a1 a6 a8 a9 a10 a11 a12 a13 a14 a15 a16 a17 a18 a19 a20 a21 a22 a23 a64 a65 a66 a67 a68) (by simp) t4⟩
  | succ d ih =>
    intro j h' bd E r hd hE hr hI a1 a6 a8 a9 a10 a11 a12 a13 a14 a15 a16 a17 a18 a19 a20 a21 a22 a23 a64 a65 a66 a67 a68
    obtain ⟨x, hx⟩ : ∃ x, L[j]? = some x := ⟨_, List.getElem?_eq_getElem (by omega)⟩
    obtain ⟨hlt, hx2⟩ := List.getElem?_eq_some_iff.1 hx
    have hxm : x ∈ L := hx2 ▸ List.getElem_mem hlt
    have e : L.drop j = x :: L.drop (j + 1) := by rw [List.drop_eq_getElem_cons hlt, hx2]
    rw [e]
    obtain ⟨z0, z1⟩ := hsz x hxm
    by_cases hs : (r.size : Int) < x.2
    · have e2 : datF (x :: L.drop (j + 1)) E r = none := by rw [datF, if_pos hs]
      rw [e2]
      refine ⟨fun E' r' he => (by cases he), fun _ => ?_⟩
      obtain ⟨H, tm', t1, t2, t3, t4, t5⟩ := rd_short (T := T) s0 h0 h' br bo bd m j L E r hr hL hm (by omega) x hx z0 z1 hI hs (rowE bd E) a1 a6 a8 a9 a10 a11 a12 a13 a14 a15 a16 a17 a18 a19 a20 a21 a22 a23 a64 a65 a66 a67 a68
      exact ⟨H, tm', t1, t2, t3, t4, Run.loop_end_f (hfg _ _ _ _ a1 a6 a8 a9 a10 a11 a12 a13 a14 a15 a16 a17 a18 a19 a20 a21 a22 a23 a64 a65 a66 a67 a68) (by simp) t5⟩
    · have e2 : datF (x :: L.drop (j + 1)) E r = datF (L.drop (j + 1)) (E ++ [dat1 x r]) (r.extract x.2.toNat r.size) := by rw [datF, if_neg hs]
      rw [e2]
      obtain ⟨H, bd', a9', tm1, t1, t2, t3⟩ : ∃ H bd' a9' tm', forget fg33 tm' = fr33 s0 br (rowE bd' (E ++ [dat1 x r])) (.sl bo m 0 (m + 1) 3) ((m : Int) + 1) ((j : Int) + 1) a1 a6 a8 a9' a10 a11 a12 a13 a14 a15 a16 a17 a18 a19 a20 a21 a22 a23 a64 a65 a66 a67 a68 ∧ InvD h0 H br bo bd' L (E ++ [dat1 x r]) (r.extract x.2.toNat r.size) ∧ Run Try.prog T body33 (fr33 s0 br (rowE bd E) (.sl bo m 0 (m + 1) 3) ((m : Int) + 1) j a1 a6 a8 a9 a10 a11 a12 a13 a14 a15 a16 a17 a18 a19 a20 a21 a22 a23 a64 a65 a66 a67 a68) h' (.normal, tm', H) := by
        cases j with
        | zero =>
          obtain ⟨H, a9', tm', t1, t2, t3⟩ := rd_one0 (T := T) s0 h0 h' br bo bd m 0 L E r hr hL hm (by omega) x hx z0 z1 hI (List.length_eq_zero_iff.1 hE) hs a1 a6 a8 a9 a10 a11 a12 a13 a14 a15 a16 a17 a18 a19 a20 a21 a22 a23 a64 a65 a66 a67 a68
          exact ⟨H, _, a9', tm', t1, t2, t3⟩
        | succ p =>
          obtain ⟨H, a9', tm', t1, t2, t3⟩ := rd_one1 (T := T) s0 h0 h' br bo bd m (p + 1) L E r hr hL hm (by omega) x hx z0 z1 hI p hE (by omega) hs a1 a6 a8 a9 a10 a11 a12 a13 a14 a15 a16 a17 a18 a19 a20 a21 a22 a23 a64 a65 a66 a67 a68
          exact ⟨H, _, a9', tm', t1, t2, t3⟩
      have hsz2 : (r.extract x.2.toNat r.size).size ≤ 9223372036854775807 := by rw [ByteArray.size_extract]; omega
      obtain ⟨i1, i2⟩ := ih (j + 1) H bd' (E ++ [dat1 x r]) (r.extract x.2.toNat r.size) (by omega) (by simp [hE]) hsz2 t2 a1 a6 a8 a9' a10 a11 a12 a13 a14 a15 a16 a17 a18 a19 a20 a21 a22 a23 a64 a65 a66 a67 a68
      refine ⟨fun E' r' he => ?_, fun he => ?_⟩
      · obtain ⟨H2, bd2, tm2, y1, y2, y3, y4, y5⟩ := i1 E' r' he
        exact ⟨H2, bd2, tm2, y1, y2, y3, y4, Run.loop_go (hfg _ _ _ _ a1 a6 a8 a9 a10 a11 a12 a13 a14 a15 a16 a17 a18 a19 a20 a21 a22 a23 a64 a65 a66 a67 a68) t3 t1 y5⟩
      · obtain ⟨H2, tm2, y1, y2, y3, y4, y5⟩ := i2 he
        exact ⟨H2, tm2, y1, y2, y3, y4, Run.loop_go (hfg _ _ _ _ a1 a6 a8 a9 a10 a11 a12 a13 a14 a15 a16 a17 a18 a19 a20 a21 a22 a23 a64 a65 a66 a67 a68) t3 t1 y5⟩
end Go.Proofs.Ytpmoellbfgcefaa.AS
end
section
set_option autoImplicit false
set_option maxRecDepth 100000
set_option maxHeartbeats 2000000
set_option linter.unusedSimpArgs false
namespace Go.Proofs.Ytpmoellbfgcefaa.AS
open Go Go.Proofs Go.RowKit Go.Proofs.Ytpmoellbfgcefaa.AS.V

def readS (s : ByteArray) : List (Int × ByteArray) × ByteArray × Int :=
  if (slotsR s).2.2 ≠ 0 then ([], ⟨#[]⟩, (slotsR s).2.2) else match datF (slotsR s).1 [] (slotsR s).2.1 with
    | some (E, r) => (E, r, 0)
    | none => ([], ⟨#[]⟩, 5)
theorem num_range (s : ByteArray) (w : Int) : 0 ≤ (numS s w).1 ∧ (numS s w).1 ≤ 18446744073709551615 := by
  unfold numS
  split
  · exact gets_range s
  · simp
theorem slotsF_inv : ∀ (n : Nat) (L : List (Int × Int)) (s : ByteArray) (w : Int), s.size ≤ 9223372036854775807 → (∀ x ∈ L, 0 ≤ x.2 ∧ x.2 ≤ 18446744073709551615) →
    (slotsF n L s w).2.1.size ≤ 9223372036854775807 ∧ (∀ x ∈ (slotsF n L s w).1, 0 ≤ x.2 ∧ x.2 ≤ 18446744073709551615) ∧ (slotsF n L s w).1.length ≤ L.length + n
  | 0, L, s, w, hs, hL => ⟨hs, hL, by simp [slotsF]⟩
  | n + 1, L, s, w, hs, hL => by
    rw [slotsF]
    split
    · exact ⟨hs, hL, by simp⟩
    · obtain ⟨a, b, c⟩ := slotsF_inv n (L ++ [(slot1 L s).1]) (slot1 L s).2.1 (slot1 L s).2.2 (slot1_size L hs) (by
        intro x hx
        rcases List.mem_append.1 hx with h | h
        · exact hL x h
        · simp at h; subst h
          exact num_range _ _)
      refine ⟨a, b, ?_⟩
      simp at c; omega
theorem slotsR_inv {s : ByteArray} (hs : s.size ≤ 9223372036854775807) : (slotsR s).2.1.size ≤ 9223372036854775807 ∧ (∀ x ∈ (slotsR s).1, 0 ≤ x.2 ∧ x.2 ≤ 18446744073709551615) ∧ (slotsR s).1.length ≤ 65536 := by
  have hs1 := num_size hs 0
  have e0 : numS s 0 = gets s := if_pos rfl
  unfold slotsR
  split
  · exact ⟨hs1, by simp, by simp⟩
  · rename_i hbad
    obtain ⟨a, b, c⟩ := slotsF_inv (numS s 0).1.toNat [] (numS s 0).2.1 (numS s 0).2.2 hs1 (by simp)
    refine ⟨a, b, ?_⟩
    have hmany : (numS s 0).1 ≤ 65536 := by
      rw [e0] at hbad ⊢
      rcases gets_err s with h | h | h
      · omega
      · rw [h]; simp
      · rw [h]; simp
    simp at c; omega

/-- What the loop over the slots and the code behind it come to, as one. -/
theorem rd_tail {T : FuncId → Option AFunc} (s0 : ByteArray) (h0 h1 : Heap) (br bo : Nat) (L : List (Int × Int)) (r : ByteArray) (hr : r.size ≤ 9223372036854775807) (hl : L.length ≤ 65536) (hsz : ∀ x ∈ L, 0 ≤ x.2 ∧ x.2 ≤ 18446744073709551615) (hI : InvD h0 h1 br bo 0 L [] r) (a1 a2 a3 a4 a7 a8 a9 a10 a11 a12 a13 a14 a15 a16 a17 a18 a19 a20 a21 a22 a23 : AV) :
    ∃ H bd tm', tm'[2]? = some (rowE bd (match datF L [] r with | some (E, _) => E | none => [])) ∧ tm'[3]? = some (.s (.string (match datF L [] r with | some (_, r) => r | none => ⟨#[]⟩))) ∧ tm'[4]? = some (.s (.int .i64 (match datF L [] r with | some _ => 0 | none => 5))) ∧
      (∀ b, b < h0.length → bk H b = bk h0 b) ∧ h0.length ≤ H.length ∧ (∀ E r', datF L [] r = some (E, r') → E ≠ [] → h0.length ≤ bd ∧ bk H bd = some ⟨E.length - 1, 52, 2, true, E.flatMap entC⟩) ∧
      Run Try.prog T tail33 ([.s (.string s0), a1, a2, a3, a4, .pt br 0 0, outA bo L, a7, a8, a9, a10, a11, a12, a13, a14, a15, a16, a17, a18, a19, a20, a21, a22, a23] ++ List.replicate 45 (.s undef)) h1 (.ret, tm', H) := by
  have hend : ∀ (H : Heap) (bd : Nat) (E : List (Int × ByteArray)) (r' : ByteArray) (tm : List AV), tm.length = 69 → tm[5]? = some (.pt br 0 0) → tm[7]? = some (rowE bd E) → InvD h0 H br bo bd L E r' →
      ∃ tm', tm'[2]? = some (rowE bd E) ∧ tm'[3]? = some (.s (.string r')) ∧ tm'[4]? = some (.s (.int .i64 0)) ∧ Run Try.prog T (match tail33 with | .seq _ (.seq _ t) => t | _ => .skip) tm H (.ret, tm', H) := by
    intro H bd E r' tm l t5 t7 hI
    have hb := hI.rd
    have g5 := (List.getElem?_eq_some_iff.1 t5).2
    have g7 := (List.getElem?_eq_some_iff.1 t7).2
    refine ⟨?tm, ?o1, ?o2, ?o3, Run.step 30 fun k j => ?run⟩
    case run =>
      simp [tail33, c33, l, t5, t7, g5, g7, hb, oneOr]
      rfl
    case o1 => simp [l, g7]
    case o2 => simp [l]
    case o3 => simp [l]
  cases L with
  | nil =>
    obtain ⟨tm', t1, t2, t3, t4⟩ := rd_end (T := T) s0 h1 br (.s (.slice none 0 0)) (.s (.slice none 0 0)) 0 0 (by omega) a1 (.s (.slice none 0 0)) a8 a9 a10 a11 a12 a13 a14 a15 a16 a17 a18 a19 a20 a21 a22 a23 (.s undef) (.s undef) (.s undef) (.s undef) (.s undef)
    obtain ⟨tm2, x1, x2, x3, x4⟩ := hend h1 0 [] r tm' t1 t2 t3 hI
    refine ⟨h1, 0, tm2, x1, x2, x3, hI.old, hI.len, fun E r' he hE => by simp [datF] at he; exact absurd he.1 (by first | exact hE | exact Ne.symm hE), ?_⟩
    apply Run.seq
    · apply Run.step 20; intro k j
      simp
      (constructor <;> rfl)
    · apply Run.seq
      · apply Run.seq
        · apply Run.step 20; intro k j
          simp [outA]
          (constructor <;> rfl)
        · apply Run.block_exit
          refine Run.loop_end_f ?_ (by simp) t4
          simp [forget, fg33, tail33, c33, fr33]
      · exact x4
  | cons y L =>
    have ol : outA bo (y :: L) = .sl bo L.length 0 (L.length + 1) 3 := rfl
    rw [ol]
    obtain ⟨i1, i2⟩ := rd_loop (T := T) s0 h0 br bo L.length (y :: L) (by simp) (by simp at hl; omega) hsz (L.length + 1) 0 h1 0 [] r (by omega) rfl hr hI a1 (.sl bo L.length 0 (L.length + 1) 3) a8 a9 a10 a11 a12 a13 a14 a15 a16 a17 a18 a19 a20 a21 a22 a23 (.s undef) (.s undef) (.s undef) (.s undef) (.s undef)
    rw [List.drop_zero] at i1 i2
    cases he : datF (y :: L) [] r with
    | some res =>
      obtain ⟨E', r'⟩ := res
      obtain ⟨H, bd, tm', t1, t2, t3, t4, t5⟩ := i1 E' r' he
      obtain ⟨tm2, x1, x2, x3, x4⟩ := hend H bd E' r' tm' t1 t2 t3 t4
      refine ⟨H, bd, tm2, x1, x2, x3, t4.old, t4.len, fun E r' he hE => ?_, ?_⟩
      · simp only [Option.some.injEq, Prod.mk.injEq] at he
        obtain ⟨rfl, rfl⟩ := he
        exact ⟨(t4.out hE).1, (t4.out hE).2.2.2⟩
      · apply Run.seq
        · apply Run.step 20; intro k j
          simp
          (constructor <;> rfl)
        · apply Run.seq
          · apply Run.seq
            · apply Run.step 20; intro k j
              simp
              (constructor <;> rfl)
            · apply Run.block_exit
              apply Run.loop_go'
              · exact t5
              · simp [forget, fg33, tail33, c33, fr33, rowE]
          · exact x4
    | none =>
      obtain ⟨H, tm', t1, t2, t3, t4, t5⟩ := i2 he
      have hlen : h0.length ≤ H.length := by
        rcases Nat.eq_zero_or_pos h0.length with h0' | h0'
        · omega
        · have := t4 (h0.length - 1) (by omega)
          have e1 : bk h0 (h0.length - 1) = some (h0[h0.length - 1]'(by omega)) := List.getElem?_eq_getElem (by omega)
          rw [e1] at this
          have := bk_lt this
          omega
      refine ⟨H, 0, tm', t1, t2, t3, t4, hlen, fun E r' he => (by cases he), ?_⟩
      apply Run.seq
      · apply Run.step 20; intro k j
        simp
        (constructor <;> rfl)
      · apply Run.seq_stop (by simp)
        apply Run.seq
        · apply Run.step 20; intro k j
          simp
          (constructor <;> rfl)
        · apply Run.block_id (by simp)
          apply Run.loop_go'
          · exact t5
          · simp [forget, fg33, tail33, c33, fr33, rowE]
theorem read_run {T : FuncId → Option AFunc} (hT : T 33 = prepFn Try.prog 33) (hT2 : T 59 = prepFn Try.prog 59) (hN : T 76 = some (.hook hkNum)) (h0 : Heap) (s : ByteArray) (hs : s.size ≤ 9223372036854775807) :
    ∃ H bd, FRun Try.prog T 33 [.s (.string s)] h0 (.tp [rowE bd (readS s).1, .s (.string (readS s).2.1), .s (.int .i64 (readS s).2.2)], H) ∧ (∀ b, b < h0.length → bk H b = bk h0 b) ∧ h0.length ≤ H.length ∧
      ((readS s).1 ≠ [] → h0.length ≤ bd ∧ bk H bd = some ⟨(readS s).1.length - 1, 52, 2, true, (readS s).1.flatMap entC⟩) := by
  obtain ⟨H1, bo, hF, hI⟩ := slots_run hT2 hN (h0 ++ [⟨0, 90, 2, true, [.s (.string s), .s (.int .i64 0)]⟩]) h0.length 0 90 s hs (by simp)
  obtain ⟨J, hF⟩ := hF.get
  have hb := hI.rd
  obtain ⟨v1, v2, v3⟩ := slotsR_inv hs
  have hle := hI.len
  simp at hle
  have hold : ∀ b, b < h0.length → bk H1 b = bk h0 b := fun b hb => by
    rw [hI.old b (by simp; omega) (by omega), bk_app hb]
  by_cases hw : (slotsR s).2.2 = 0
  · have hD : InvD h0 H1 h0.length bo 0 (slotsR s).1 [] (slotsR s).2.1 := by
      refine ⟨by rw [← hw]; exact hI.rd, fun hne => ?_, hold, by omega, Nat.le_refl _, fun h => absurd rfl h⟩
      obtain ⟨a, b, c⟩ := hI.out hne
      simp at a
      exact ⟨b, by omega, c⟩
    have e : readS s = (match datF (slotsR s).1 [] (slotsR s).2.1 with | some (E, r) => (E, r, 0) | none => ([], ⟨#[]⟩, 5)) := if_neg (by simpa using hw)
    obtain ⟨H, bd, tm', x1, x2, x3, x4, x5, x6, x7⟩ := rd_tail (T := T) s h0 H1 h0.length bo (slotsR s).1 (slotsR s).2.1 v1 v3 v2 hD (.s undef) (.s (.slice none 0 0)) (.s (.string ⟨#[]⟩)) (.s (.int .i64 0)) (.s undef) (.s undef) (.s undef) (.s (.string s)) (.ag [.s (.string s), .s (.int .i64 0)]) (.pt h0.length 0 0) (.pt h0.length 0 0) (outA bo (slotsR s).1) (.pt h0.length 0 0) (.pt h0.length 0 0) (.pt h0.length 0 1) (.s (.int .i64 (slotsR s).2.2)) (.s (.bool false)) (.s undef) (.s undef) (.s undef) (.s undef)
    have hrun : Run Try.prog T c33 ([.s (.string s)] ++ List.replicate 68 (.s undef)) h0 (.ret, tm', H) := by
      apply Run.seq
      · apply Run.step 20; intro k j
        simp
        (constructor <;> rfl)
      · apply Run.seq
        · apply Run.step 20; intro k j
          simp [fillA, cellsOf]
          (constructor <;> rfl)
        · apply Run.seq
          · apply Run.stepJ 20 J; intro k j hj
            simp [hF j hj]
            (constructor <;> rfl)
          · apply Run.seq
            · apply Run.step 20; intro k j
              simp [hb, oneOr, eq_true hw]
              (constructor <;> rfl)
            · exact x7
    refine ⟨H, bd, FRun.of (e := .ret) (hT.trans p33) hrun (Or.inl rfl) ?_, x4, x5, ?_⟩
    · rw [e]
      simp only [resAs, resA, x1, x2, x3]
      cases datF (slotsR s).1 [] (slotsR s).2.1 <;> rfl
    · rw [e]
      intro hne
      cases hd : datF (slotsR s).1 [] (slotsR s).2.1 with
      | none => rw [hd] at hne; exact absurd rfl hne
      | some res =>
        obtain ⟨E, r⟩ := res
        rw [hd] at hne
        exact x6 E r hd hne
  · have e : readS s = ([], ⟨#[]⟩, (slotsR s).2.2) := if_pos hw
    rw [e]
    refine ⟨H1, 0, ?_, hold, by omega, fun h => absurd rfl h⟩
    apply FRun.of (e := .ret) (hT.trans p33)
    · apply Run.seq
      · apply Run.step 20; intro k j
        simp
        (constructor <;> rfl)
      · apply Run.seq
        · apply Run.step 20; intro k j
          simp [fillA, cellsOf]
          (constructor <;> rfl)
        · apply Run.seq
          · apply Run.stepJ 20 J; intro k j hj
            simp [hF j hj]
            (constructor <;> rfl)
          · apply Run.seq_stop (by simp)
            apply Run.step 20; intro k j
            simp [hb, oneOr, eq_false hw]
            rfl
    · exact Or.inl rfl
    · rfl
end Go.Proofs.Ytpmoellbfgcefaa.AS
end
section
set_option autoImplicit false
set_option maxRecDepth 100000
set_option maxHeartbeats 2000000
namespace Go.Proofs.Ytpmoellbfgcefaa.AS
open Go Go.Proofs Go.RowKit Go.Proofs.Ytpmoellbfgcefaa.AS.V

/-- A row of entries as a call's result: nothing, or one block that is new. -/
def rowN (n : Nat) (E : List (Int × ByteArray)) : AV := if E = [] then .s (.slice none 0 0) else .sl n 0 0 E.length 2
def rowH (h : Heap) (E : List (Int × ByteArray)) : Heap := if E = [] then h else h ++ [⟨0, 52, 2, true, E.flatMap entC⟩]
theorem flat_entC : ∀ E : List (Int × ByteArray), ∃ us, toVs (E.flatMap entC) = some us
  | [] => ⟨[], rfl⟩
  | x :: E => by
    obtain ⟨us, h⟩ := flat_entC E
    exact ⟨.int .u64 x.1 :: .string x.2 :: us, by simp [entC, toVs, toV, h]⟩
theorem grows_of {h H : Heap} (h1 : ∀ b, b < h.length → bk H b = bk h b) : Grows h H := h1
theorem rowE_sl {b : Nat} {E : List (Int × ByteArray)} (h : E ≠ []) : rowE b E = .sl b (E.length - 1) 0 E.length 2 := by
  cases E with
  | nil => exact absurd rfl h
  | cons x E => simp [rowE]
noncomputable def hkRead : List AV → Heap → Option (AV × Heap)
  | [.s (.string s)], h => if s.size ≤ 9223372036854775807 then some (.tp [rowN h.length (readS s).1, .s (.string (readS s).2.1), .s (.int .i64 (readS s).2.2)], rowH h (readS s).1) else none
  | _, _ => none
theorem row_drop {h H : Heap} {bd : Nat} {E : List (Int × ByteArray)} {l : List AV} {us : List Value} (hl : toVs l = some us) (h1 : ∀ b, b < h.length → bk H b = bk h b) (h2 : E ≠ [] → h.length ≤ bd ∧ bk H bd = some ⟨E.length - 1, 52, 2, true, E.flatMap entC⟩) :
    Drops h (.tp (rowE bd E :: l), H) (.tp (rowN h.length E :: l), rowH h E) := by
  by_cases hE : E = []
  · subst hE
    have e1 : rowN h.length [] = .s (.slice none 0 0) := rfl
    have e2 : rowH h [] = h := rfl
    rw [e1, e2]
    exact Drops.flat (grows_of h1) (by simp [toV, toVs, rowE, hl])
  · obtain ⟨a, b⟩ := h2 hE
    obtain ⟨us', hu⟩ := flat_entC E
    have e1 : rowN h.length E = .sl h.length 0 0 E.length 2 := if_neg hE
    have e2 : rowH h E = h ++ [⟨0, 52, 2, true, E.flatMap entC⟩] := if_neg hE
    rw [e1, e2, rowE_sl hE]
    exact Drops.fresh (k := ⟨E.length - 1, 52, 2, true, E.flatMap entC⟩) (grows_of h1) a b hu hl
theorem hkRead_ok {T : FuncId → Option AFunc} (hm : Try.prog.follows .mixedOrders = true) (hT : TabOK Try.prog T) (h33 : T 33 = prepFn Try.prog 33) (h59 : T 59 = prepFn Try.prog 59) (hN : T 76 = some (.hook hkNum)) (hc : callable Try.prog 33 = true) : HookSound Try.prog 33 hkRead := by
  refine hookOf hm hT hc fun l h r he => ?_
  unfold hkRead at he
  split at he
  · rename_i s
    split at he
    · rename_i hs
      cases he
      obtain ⟨H, bd, hF, h1, h2, h3⟩ := read_run h33 h59 hN h s hs
      exact ⟨_, hF, row_drop (us := [.string (readS s).2.1, .int .i64 (readS s).2.2]) rfl h1 h3⟩
    · cases he
  · cases he
end Go.Proofs.Ytpmoellbfgcefaa.AS
end
section
set_option autoImplicit false
set_option maxRecDepth 100000
set_option maxHeartbeats 2000000
set_option linter.unusedSimpArgs false
namespace Go.Proofs.Ytpmoellbfgcefaa.AS
open Go Go.Proofs Go.RowKit Go.Proofs.Ytpmoellbfgcefaa.AS.V

def by8 (B : List Int) : List AV := B.map fun c => .s (.int .u8 c)
def outB (b : Nat) : List Int → AV
  | [] => .s (.slice none 0 0)
  | _ :: L => .sl b L.length 0 (L.length + 1) 1
theorem bytesA_by8 : ∀ B : List Int, bytesA (by8 B) = some B
  | [] => rfl
  | x :: B => by
    have := bytesA_by8 B
    unfold by8 at this ⊢
    simp [bytesA, this]
structure InvB (h0 h' : Heap) (b e : Nat) (B : List Int) : Prop where
  old : ∀ b, b < h0.length → bk h' b = bk h0 b
  len : h0.length ≤ h'.length
  out : B ≠ [] → h0.length ≤ b ∧ bk h' b = some ⟨B.length - 1, e, 1, true, by8 B⟩
def fr85 (n : Int) (out a1 a2 a15 a16 a17 a18 a19 a20 : AV) : List AV := [.s (.int .u64 n), a1, a2, out] ++ List.replicate 11 .any ++ [a15, a16, a17, a18, a19, a20]
noncomputable def body85 : ACode := match c85 with
  | .seq _ (.seq _ (.seq (.block _ (.loop _ b)) _)) => b
  | _ => .skip
noncomputable def fg85 : List Nat := match c85 with
  | .seq _ (.seq _ (.seq (.block _ (.loop fg _)) _)) => fg
  | _ => []
noncomputable def tail85 : ACode := match c85 with
  | .seq _ (.seq _ (.seq _ t)) => t
  | _ => .skip
def b2V (h : Heap) (a : Option AV) : Option AV := match a with
    | some (.sl b v o n _) => match (rdK (bk h b) v o n).bind bytesA with
      | some bs => some (.s (.string (strOfNums bs)))
      | none => none
    | some (.s (.slice none _ _)) => some (.s (.string .empty))
    | _ => none
@[simp] theorem rV_b2s (tm : List AV) (h : Heap) (x : Operand) : rV tm h (.b2s x) = b2V h (evO tm x) := by
  simp only [rV, b2V, rdn_K]; rfl
@[simp] theorem b2V_sl (h : Heap) (b v o n z : Nat) : b2V h (some (.sl b v o n z)) = ((rdK (bk h b) v o n).bind bytesA).map fun bs => .s (.string (strOfNums bs)) := by
  simp only [b2V]
  cases (rdK (bk h b) v o n).bind bytesA <;> rfl

theorem put_end {T : FuncId → Option AFunc} (n : Int) (h0 : 0 ≤ n) (h1 : n < 128) (g0 h' : Heap) (b : Nat) (B : List Int) (hB : B.length ≤ 100) (hI : InvB g0 h' b 5 B) (a1 a2 a15 a16 a17 a18 a19 a20 : AV) :
    ∃ H tm', (∀ b, b < g0.length → bk H b = bk g0 b) ∧ tm'[2]? = some (.s (.string (strOfNums (B ++ [n])))) ∧ Run Try.prog T (.seq (.block 0 (.loop fg85 body85)) tail85) (fr85 n (outB b B) a1 a2 a15 a16 a17 a18 a19 a20) h' (.ret, tm', H) := by
  have hle := hI.len
  have w8 : IntKind.u8.wrap n = n := by simp [IntKind.wrap, IntKind.bits, IntKind.signed]; omega
  have hn : ¬ 127 < n := by omega
  have hx : Run Try.prog T (.block 0 (.loop fg85 body85)) (fr85 n (outB b B) a1 a2 a15 a16 a17 a18 a19 a20) h' (.normal, [.s (.int .u64 n), a1, a2, outB b B, .s (.int .u64 n), .s (.bool false)] ++ List.replicate 9 .any ++ [a15, a16, a17, a18, a19, a20], h') := by
    apply Run.block_exit
    refine Run.loop_end (by simp) (Run.step 30 fun k j => ?_)
    simp [c85, fg85, body85, fr85, forget, hn]
  cases B with
  | nil =>
    refine ⟨?qH, ?qtm, ?qold, ?qo, Run.seq hx (Run.step 30 fun k j => ?qrun)⟩
    case qrun =>
      simp [c85, tail85, outB, w8, fillA, cellsOf, apV_nil, isCell, bytesA, Try.underlying5, Try.underlying35]
      (constructor <;> rfl)
    case qold =>
      intro b h1
      have h3 : b < h'.length := by omega
      simp [h3, hI.old b h1]
    case qo => rfl
  | cons y B =>
    obtain ⟨hb1, hb2⟩ := hI.out (by simp)
    simp only [List.length_cons, Nat.add_sub_cancel] at hb2 hB
    have hlb := bk_lt hb2
    have n1 : b ≠ h'.length := by omega
    have b2 : B.length + 1 + 1 ≤ 9223372036854775807 := by omega
    have b1 : B.length + 1 + 1 ≤ 140737488355328 := by omega
    have hC : (by8 (y :: B)).length = B.length + 1 := by simp [by8]
    have hby := bytesA_by8 (y :: B ++ [n])
    have e1 : by8 (y :: B ++ [n]) = by8 (y :: B) ++ [.s (.int .u8 n)] := by simp [by8]
    rw [e1] at hby
    generalize by8 (y :: B) = C at hb2 hC hby
    have hall : C.take (B.length + 1) = C := List.take_of_length_le (by omega)
    have hall2 : (C ++ [AV.s (.int .u8 n)]).take (B.length + 1 + 1) = C ++ [AV.s (.int .u8 n)] := List.take_of_length_le (by simp; omega)
    have hle1 : B.length + 1 ≤ C.length := by omega
    have hle2 : B.length + 1 + 1 ≤ C.length + 1 := by omega
    refine ⟨?qH2, ?qtm2, ?qold2, ?qo2, Run.seq hx (Run.step 30 fun k j => ?qrun2)⟩
    case qrun2 =>
      simp [c85, tail85, outB, w8, fillA, cellsOf, apK_s, isCell, Try.underlying5, Try.underlying35, hb2, hlb, n1, b1, b2, hC, hall, hall2, hle1, hle2, hby]
      (constructor <;> rfl)
    case qold2 =>
      intro b' h1
      have h3 : b' < h'.length := by omega
      have h4 : b ≠ b' := by omega
      simp [h3, h4, hI.old b' h1]
    case qo2 => rfl
theorem put_one {T : FuncId → Option AFunc} (n : Int) (h0 : 128 ≤ n) (h1 : n ≤ 18446744073709551615) (g0 h' : Heap) (b : Nat) (B : List Int) (hB : B.length ≤ 100) (hI : InvB g0 h' b 5 B) (a1 a2 a15 a16 a17 a18 a19 a20 : AV) :
    ∃ H b' tm', InvB g0 H b' 5 (B ++ [n % 128 + 128]) ∧ forget fg85 tm' = fr85 (n / 128) (outB b' (B ++ [n % 128 + 128])) a1 a2 a15 a16 a17 a18 a19 a20 ∧ Run Try.prog T body85 (fr85 n (outB b B) a1 a2 a15 a16 a17 a18 a19 a20) h' (.normal, tm', H) := by
  have hle := hI.len
  have hn : 127 < n := by omega
  have t1 : n.tmod 128 = n % 128 := Int.tmod_eq_emod_of_nonneg (by omega)
  have t2 : n.tdiv 128 = n / 128 := Int.tdiv_eq_ediv_of_nonneg (by omega)
  have w8 : IntKind.u8.wrap (n % 128) = n % 128 := by simp [IntKind.wrap, IntKind.bits, IntKind.signed]; omega
  have w9 : IntKind.u8.wrap (n % 128 + 128) = n % 128 + 128 := by simp [IntKind.wrap, IntKind.bits, IntKind.signed]; omega
  have wq : IntKind.u64.wrap (n / 128) = n / 128 := wu64 (by omega) (by omega)
  cases B with
  | nil =>
    refine ⟨?qH, h'.length + 1, ?qtm, ?qinv, ?qfg, Run.step 30 fun k j => ?qrun⟩
    case qrun =>
      simp [c85, body85, fr85, outB, w8, w9, wq, t1, t2, hn, fillA, cellsOf, apV_nil, isCell, Try.underlying5, Try.underlying35]
      (constructor <;> rfl)
    case qinv =>
      refine ⟨fun b h1 => ?_, by simp; omega, fun _ => ⟨by omega, by simp [by8]⟩⟩
      have h3 : b < h'.length := by omega
      simp [h3, hI.old b h1]
    case qfg => simp [forget, fg85, c85, fr85, outB]
  | cons y B =>
    obtain ⟨hb1, hb2⟩ := hI.out (by simp)
    simp only [List.length_cons, Nat.add_sub_cancel] at hb2 hB
    have hlb := bk_lt hb2
    have n1 : b ≠ h'.length := by omega
    have b2 : B.length + 1 + 1 ≤ 9223372036854775807 := by omega
    have b1 : B.length + 1 + 1 ≤ 140737488355328 := by omega
    have hC : (by8 (y :: B)).length = B.length + 1 := by simp [by8]
    have e1 : by8 (y :: B ++ [n % 128 + 128]) = by8 (y :: B) ++ [.s (.int .u8 (n % 128 + 128))] := by simp [by8]
    have hle1 : B.length + 1 ≤ (by8 (y :: B)).length := by omega
    have hall : (by8 (y :: B)).take (B.length + 1) = by8 (y :: B) := List.take_of_length_le (by omega)
    generalize by8 (y :: B) = C at hb2 hC hall hle1 e1
    refine ⟨?qH2, b, ?qtm2, ?qinv2, ?qfg2, Run.step 30 fun k j => ?qrun2⟩
    case qrun2 =>
      simp [c85, body85, fr85, outB, w8, w9, wq, t1, t2, hn, fillA, cellsOf, apK_s, isCell, Try.underlying5, Try.underlying35, hb2, hlb, n1, b1, b2, hall, hle1]
      (constructor <;> rfl)
    case qinv2 =>
      refine ⟨fun b' h1 => ?_, by simp; omega, fun _ => ⟨by omega, ?_⟩⟩
      · have h3 : b' < h'.length := by omega
        have h4 : b ≠ b' := by omega
        simp [h3, h4, hI.old b' h1]
      · rw [e1]; simp [hlb]
    case qfg2 => simp [forget, fg85, c85, fr85, outB]
theorem put_l {T : FuncId → Option AFunc} (g0 : Heap) : ∀ n, 0 ≤ n → n ≤ 18446744073709551615 → ∀ (h' : Heap) (b : Nat) (B : List Int), B.length + (leb n).length ≤ 100 → InvB g0 h' b 5 B → ∀ (a1 a2 a15 a16 a17 a18 a19 a20 : AV),
    ∃ H tm', (∀ b, b < g0.length → bk H b = bk g0 b) ∧ tm'[2]? = some (AV.s (Value.string (strOfNums (B ++ leb n)))) ∧ Run Try.prog T (.seq (.block 0 (.loop fg85 body85)) tail85) (fr85 n (outB b B) a1 a2 a15 a16 a17 a18 a19 a20) h' (.ret, tm', H) := by
  apply leb_ind (P := fun n => ∀ (h' : Heap) (b : Nat) (B : List Int), B.length + (leb n).length ≤ 100 → InvB g0 h' b 5 B → ∀ (a1 a2 a15 a16 a17 a18 a19 a20 : AV),
    ∃ H tm', (∀ b, b < g0.length → bk H b = bk g0 b) ∧ tm'[2]? = some (AV.s (Value.string (strOfNums (B ++ leb n)))) ∧ Run Try.prog T (.seq (.block 0 (.loop fg85 body85)) tail85) (fr85 n (outB b B) a1 a2 a15 a16 a17 a18 a19 a20) h' (.ret, tm', H))
  · intro n h0 h1 h' b B hB hI a1 a2 a15 a16 a17 a18 a19 a20
    rw [leb_lt h1]
    exact put_end n h0 h1 g0 h' b B (by omega) hI a1 a2 a15 a16 a17 a18 a19 a20
  · intro n h0 h1 ih h' b B hB hI a1 a2 a15 a16 a17 a18 a19 a20
    rw [leb_ge h0 h1] at hB ⊢
    simp only [List.length_cons] at hB
    obtain ⟨H, b', tm', x1, x2, x3⟩ := put_one (T := T) n h0 h1 g0 h' b B (by omega) hI a1 a2 a15 a16 a17 a18 a19 a20
    obtain ⟨H2, tm2, y1, y2, y3⟩ := ih H b' (B ++ [n % 128 + 128]) (by simp; omega) x1 a1 a2 a15 a16 a17 a18 a19 a20
    refine ⟨H2, tm2, y1, by simpa using y2, ?_⟩
    have hfg : forget fg85 (fr85 n (outB b B) a1 a2 a15 a16 a17 a18 a19 a20) = fr85 n (outB b B) a1 a2 a15 a16 a17 a18 a19 a20 := by simp [forget, fg85, c85, fr85]
    exact Run.seq_block_loop hfg x3 x2 y3
theorem put_run {T : FuncId → Option AFunc} (hT : T 85 = prepFn Try.prog 85) (n : Int) (h0 : 0 ≤ n) (h1 : n ≤ 18446744073709551615) (h : Heap) : ∃ H, FRun Try.prog T 85 [.s (.int .u64 n)] h (.s (.string (puts n)), H) ∧ (∀ b, b < h.length → bk H b = bk h b) := by
  have hl := (leb_length_le h0 h1).2
  obtain ⟨H, tm', x1, x2, x3⟩ := put_l (T := T) h n h0 h1 h 0 [] (by simp; omega) ⟨fun _ _ => rfl, Nat.le_refl _, fun h => absurd rfl h⟩ (.s undef) (.s (.string ⟨#[]⟩)) (.s undef) (.s undef) (.s undef) (.s undef) (.s undef) (.s undef)
  refine ⟨H, ?_, x1⟩
  apply FRun.of (e := .ret) (tm' := tm') (hT.trans p85)
  · apply Run.seq
    · apply Run.step 20; intro k j
      simp
      (constructor <;> rfl)
    · apply Run.seq
      · apply Run.step 20; intro k j
        simp
        (constructor <;> rfl)
      · exact Run.seq_block_forget (by simp [forget, fg85, c85, fr85, outB]) x3
  · exact Or.inl rfl
  · simp [resAs, resA, x2, tupA, puts]
noncomputable def hkPut : List AV → Heap → Option (AV × Heap)
  | [.s (.int .u64 n)], h => if 0 ≤ n ∧ n ≤ 18446744073709551615 then some (.s (.string (puts n)), h) else none
  | _, _ => none
theorem hkPut_ok {T : FuncId → Option AFunc} (hm : Try.prog.follows .mixedOrders = true) (hT : TabOK Try.prog T) (h85 : T 85 = prepFn Try.prog 85) (hc : callable Try.prog 85 = true) : HookSound Try.prog 85 hkPut := by
  refine hookOf hm hT hc fun l h r he => ?_
  unfold hkPut at he
  split at he
  · rename_i n
    split at he
    · rename_i hn
      cases he
      obtain ⟨H, hF, h1⟩ := put_run h85 n hn.1 hn.2 h
      exact ⟨_, hF, Drops.flat (grows_of h1) rfl⟩
    · cases he
  · cases he
end Go.Proofs.Ytpmoellbfgcefaa.AS
end
section
set_option autoImplicit false
set_option maxRecDepth 100000
set_option maxHeartbeats 2000000
set_option linter.unusedSimpArgs false
namespace Go.Proofs.Ytpmoellbfgcefaa.AS
open Go Go.Proofs Go.RowKit Go.Proofs.Ytpmoellbfgcefaa.AS.V

def fr75 (s : ByteArray) (a1 : AV) (acc i : Int) : List AV := [.s (.string s), a1, .any, .any, .any, .s (.int .u64 acc), .s (.int .i64 i)] ++ List.replicate 41 .any
noncomputable def body75 : ACode := match c75 with
  | .seq _ (.seq _ (.seq (.seq _ (.block _ (.loop _ b))) _)) => b
  | _ => .skip
noncomputable def fg75 : List Nat := match c75 with
  | .seq _ (.seq _ (.seq (.seq _ (.block _ (.loop fg _))) _)) => fg
  | _ => []
def got (tm : List AV) (g : Int × List Int × Int) : Prop := tm[2]? = some (.s (.int .u64 g.1)) ∧ tm[3]? = some (.s (.string (strOfNums g.2.1))) ∧ tm[4]? = some (.s (.int .i64 g.2.2))
theorem get75_l {T : FuncId → Option AFunc} (hP : T 85 = some (.hook hkPut)) (s : ByteArray) (hs : s.size ≤ 9223372036854775807) (h : Heap) (a1 : AV) : ∀ (d i : Nat) (acc : Int), i + d = s.size → i ≤ 9 → 0 ≤ acc → acc < 128 ^ i →
    (∀ m, 0 < m → acc + m * 128 ^ i ≤ 18446744073709551615 → leb (acc + m * 128 ^ i) = (bytesOf s).take i ++ leb m) →
    ∃ e tm', Run Try.prog T (.loop fg75 body75) (fr75 s a1 acc i) h (e, tm', h) ∧ ((e = .exit 0 ∧ tm'.length = 48 ∧ G ((bytesOf s).drop i) i acc = (0, [], 5)) ∨ (e = .ret ∧ got tm' (G ((bytesOf s).drop i) i acc))) := by
  intro d
  have hfg : ∀ (acc i : Int), forget fg75 (fr75 s a1 acc i) = fr75 s a1 acc i := fun acc i => by simp [forget, fg75, c75, fr75]
  induction d with
  | zero =>
    intro i acc hd hi ha hb hp
    rw [List.drop_eq_nil_of_le (by rw [bytesOf_length]; omega)]
    have hlt : ¬ (i : Int) < s.size := by omega
    refine ⟨.exit 0, ?q1, Run.loop_end_f (hfg _ _) (by simp) (Run.step 30 fun k j => ?q2), Or.inl ⟨rfl, ?q3, rfl⟩⟩
    case q2 =>
      simp [c75, body75, fr75, Try.underlying9, eq_false hlt]
      rfl
    case q3 => rfl
  | succ d ih =>
    intro i acc hd hi ha hb hp
    have hlt : i < s.size := by omega
    have hlt' : (i : Int) < s.size := by omega
    have hc := bt_range s (i : Int)
    have hx := fun t h => ix_bt (P := Try.prog) (t := t) h s .i64 i hlt
    have hcall := fun k l h => evFn_hook (P := Try.prog) (T := T) (k := k) (f := 85) (args := l) (h := h) hP
    rw [bytesOf_drop_cons s i hlt]
    have htk : (bytesOf s).take (i + 1) = (bytesOf s).take i ++ [bt s (i : Int)] := by
      rw [List.take_succ_eq_append_getElem (by rw [bytesOf_length]; exact hlt), bytesOf_get s i hlt]
    generalize hcv : bt s (i : Int) = c at hc hx htk
    have w7 : IntKind.i64.wrap (7 * (i : Int)) = 7 * (i : Int) := w64k (by omega) (by omega)
    have w7' : IntKind.u64.wrap (7 * (i : Int)) = 7 * (i : Int) := wu64 (by omega) (by omega)
    have w1 : IntKind.i64.wrap ((i : Int) + 1) = (i : Int) + 1 := w64k (by omega) (by omega)
    have h7 : (0 : Int) ≤ 7 * (i : Int) := by omega
    have hmod := mod128 hc.1 hc.2
    rw [G]
    by_cases hbad : i = 9 ∧ c > 1
    · rw [if_pos hbad]
      have h9 : (i : Int) = 9 := by omega
      have h1 : 1 < c := hbad.2
      refine ⟨.ret, ?q4, Run.loop_end_f (hfg _ _) (by simp) (Run.step 30 fun k j => ?q5), Or.inr ⟨rfl, ?q6⟩⟩
      case q5 =>
        simp [c75, body75, fr75, hx, Try.underlying9, eq_true hlt', eq_true h9, eq_true h1]
        rfl
      case q6 => exact ⟨rfl, rfl, rfl⟩
    rw [if_neg hbad]
    have hsh := shl_at hi (y := c % 128) (by omega) (by omega) (fun h => by omega)
    have hn := acc_next hi (y := c % 128) (by omega) (by omega) ha hb
    have hw : IntKind.u64.wrap (acc + c % 128 * 128 ^ i) = acc + c % 128 * 128 ^ i := wu64 hn.1 (by omega)
    by_cases hbig : 127 < c
    · rw [if_pos (by omega)]
      have h9 : ¬ ((i : Int) = 9) := by omega
      have hpn : ∀ m, 0 < m → acc + (c - 128) * 128 ^ i + m * 128 ^ (i + 1) ≤ 18446744073709551615 → leb (acc + (c - 128) * 128 ^ i + m * 128 ^ (i + 1)) = (bytesOf s).take (i + 1) ++ leb m := by
        intro m hm hle
        have e : acc + (c - 128) * 128 ^ i + m * 128 ^ (i + 1) = acc + (c - 128 + 128 * m) * 128 ^ i := by
          rw [Int.pow_succ, Int.add_mul, Int.add_assoc]
          congr 2
          rw [Int.mul_comm 128 m, Int.mul_assoc, Int.mul_comm 128]
        have hm2 : c - 128 + 128 * m ≤ 18446744073709551615 := by
          have p := p128_pos i
          have : (c - 128 + 128 * m) * 1 ≤ (c - 128 + 128 * m) * 128 ^ i := Int.mul_le_mul_of_nonneg_left (by omega) (by omega)
          rw [e] at hle
          omega
        rw [e] at hle ⊢
        rw [hp _ (by omega) hle, leb_ge (by omega) hm2, htk, show (c - 128 + 128 * m) % 128 + 128 = c by omega, show (c - 128 + 128 * m) / 128 = m by omega]
        simp
      have hn' := hn
      rw [show c % 128 = c - 128 by omega] at hn'
      obtain ⟨e, tm', hr, hv⟩ := ih (i + 1) (acc + (c - 128) * 128 ^ i) (by omega) (by omega) hn'.1 hn'.2 hpn
      refine ⟨e, tm', Run.loop_go (hfg _ _) (Run.step 30 fun k j => ?q8) (tm' := ?q7) ?q9 hr, hv⟩
      case q8 =>
        simp [c75, body75, fr75, hx, Try.underlying9, Try.underlying5, Try.underlying35, Try.underlying3, Try.underlying114, eq_true hlt', eq_false h9, h7, w7, w7', w1, hmod, hsh.1, hw, eq_true hbig]
        (first | rfl | (constructor <;> rfl))
      case q9 => simp [forget, fg75, c75, fr75, show c % 128 = c - 128 by omega]
    · rw [if_neg (by omega)]
      have hx' : s.extract (i + 1) s.size = strOfNums ((bytesOf s).drop (i + 1)) := extract_eq_strOf s (i + 1) (by omega)
      have hx0 : bytesOf (s.extract 0 (i + 1)) = (bytesOf s).take i ++ [c] := by rw [bytesOf_extract s 0 (i + 1) (by omega), List.drop_zero, htk]
      have hsl : ∀ t, Try.prog.underlying t = some .string → slS Try.prog t (some (.s (.string s))) (some (some (.s (.int .i64 ((i : Int) + 1))))) none = some (.s (.string (strOfNums ((bytesOf s).drop (i + 1))))) := fun t h => by
        rw [sl_lo h s .i64 ((i : Int) + 1) (by omega) (by omega), show ((i : Int) + 1).toNat = i + 1 by omega, hx']
      have hsh2 : ∀ t, Try.prog.underlying t = some .string → slS Try.prog t (some (.s (.string s))) none (some (some (.s (.int .i64 ((i : Int) + 1))))) = some (.s (.string (s.extract 0 (i + 1)))) := fun t h => by
        rw [sl_hi h s .i64 ((i : Int) + 1) (by omega) (by omega), show ((i : Int) + 1).toNat = i + 1 by omega]
      rw [show c % 128 = c by omega] at hn hw hsh hmod
      have hv : acc + c * 128 ^ i ≤ 18446744073709551615 := by
        have := hsh.2.2
        omega
      have hcm : ((puts (acc + c * 128 ^ i)).toList == (s.extract 0 (i + 1)).toList) = !decide (c = 0 ∧ 0 < i) := by
        by_cases h0 : c = 0 ∧ 0 < i
        · rw [decide_eq_true h0]
          simp only [Bool.not_true, beq_eq_false_iff_ne, ne_eq]
          intro he
          have := congrArg List.length (congrArg bytesOf (toList_inj he))
          rw [hx0, bytesOf_puts hn.1 hv] at this
          obtain ⟨rfl, hi0⟩ := h0
          obtain ⟨j, rfl⟩ : ∃ j, i = j + 1 := ⟨i - 1, by omega⟩
          rw [Int.zero_mul, Int.add_zero] at this
          have h3 := (leb_length_few acc ha (by omega) j).mpr hb
          rw [List.length_append, List.length_take, bytesOf_length] at this
          simp at this
          omega
        · rw [decide_eq_false h0]
          simp only [Bool.not_false, beq_iff_eq]
          congr 1
          apply bytesOf_inj
          rw [hx0, bytesOf_puts hn.1 hv]
          by_cases hc0 : c = 0
          · obtain rfl : i = 0 := by omega
            subst hc0
            simp at hb
            obtain rfl : acc = 0 := by omega
            simp [leb_lt]
          · rw [hp c (by omega) hv, leb_lt (by omega)]
      by_cases h0 : c = 0 ∧ 0 < i
      · rw [if_pos h0]
        rw [decide_eq_true h0] at hcm
        by_cases h9 : (i : Int) = 9
        · have h1 : ¬ 1 < c := by omega
          refine ⟨.ret, ?q201, Run.loop_end_f (hfg _ _) (by simp) (Run.step 30 fun k j => ?q202), Or.inr ⟨rfl, ?q203⟩⟩
          case q202 =>
            simp [c75, body75, fr75, hx, Try.underlying9, Try.underlying5, Try.underlying35, Try.underlying3, Try.underlying114, eq_true hlt', eq_true h9, eq_false h1, h7, w7, w7', w1, hmod, hsh.1, hw, eq_false hbig, hcall, hkPut, hn.1, hv, hsl, hsh2, hcm]
            (first | rfl | (constructor <;> rfl))
          case q203 => exact ⟨rfl, rfl, rfl⟩

        · refine ⟨.ret, ?q211, Run.loop_end_f (hfg _ _) (by simp) (Run.step 30 fun k j => ?q212), Or.inr ⟨rfl, ?q213⟩⟩
          case q212 =>
            simp [c75, body75, fr75, hx, Try.underlying9, Try.underlying5, Try.underlying35, Try.underlying3, Try.underlying114, eq_true hlt', eq_false h9, h7, w7, w7', w1, hmod, hsh.1, hw, eq_false hbig, hcall, hkPut, hn.1, hv, hsl, hsh2, hcm]
            (first | rfl | (constructor <;> rfl))
          case q213 => exact ⟨rfl, rfl, rfl⟩

      · rw [if_neg h0]
        rw [decide_eq_false h0] at hcm
        by_cases h9 : (i : Int) = 9
        · have h1 : ¬ 1 < c := by omega
          refine ⟨.ret, ?q221, Run.loop_end_f (hfg _ _) (by simp) (Run.step 30 fun k j => ?q222), Or.inr ⟨rfl, ?q223⟩⟩
          case q222 =>
            simp [c75, body75, fr75, hx, Try.underlying9, Try.underlying5, Try.underlying35, Try.underlying3, Try.underlying114, eq_true hlt', eq_true h9, eq_false h1, h7, w7, w7', w1, hmod, hsh.1, hw, eq_false hbig, hcall, hkPut, hn.1, hv, hsl, hsh2, hcm]
            (first | rfl | (constructor <;> rfl))
          case q223 => exact ⟨rfl, rfl, rfl⟩

        · refine ⟨.ret, ?q231, Run.loop_end_f (hfg _ _) (by simp) (Run.step 30 fun k j => ?q232), Or.inr ⟨rfl, ?q233⟩⟩
          case q232 =>
            simp [c75, body75, fr75, hx, Try.underlying9, Try.underlying5, Try.underlying35, Try.underlying3, Try.underlying114, eq_true hlt', eq_false h9, h7, w7, w7', w1, hmod, hsh.1, hw, eq_false hbig, hcall, hkPut, hn.1, hv, hsl, hsh2, hcm]
            (first | rfl | (constructor <;> rfl))
          case q233 => exact ⟨rfl, rfl, rfl⟩

theorem get75_run {T : FuncId → Option AFunc} (hT : T 75 = prepFn Try.prog 75) (hP : T 85 = some (.hook hkPut)) (s : ByteArray) (hs : s.size ≤ 9223372036854775807) (h : Heap) : FRun Try.prog T 75 [.s (.string s)] h (.tp [.s (.int .u64 (gets s).1), .s (.string (gets s).2.1), .s (.int .i64 (gets s).2.2)], h) := by
  obtain ⟨e, tm', hr, hv⟩ := get75_l (T := T) hP s hs h (.s undef) s.size 0 0 (by omega) (by omega) (by omega) (by simp) (by intro m _ _; simp)
  rw [List.drop_zero] at hv
  have hpre : ∀ {r : Res}, Run Try.prog T (match c75 with | .seq _ (.seq _ t) => t | _ => .skip) ([.s (.string s), .s undef, .s (.int .u64 0), .s (.string ⟨#[]⟩), .s (.int .i64 0), .s (.int .u64 0)] ++ List.replicate 42 (.s undef)) h r → Run Try.prog T c75 ([.s (.string s)] ++ List.replicate 47 (.s undef)) h r := fun {r} H => by
    apply Run.seq
    · apply Run.step 20; intro k j
      simp
      (first | rfl | (constructor <;> rfl))
    · apply Run.seq
      · apply Run.step 20; intro k j
        simp
        (first | rfl | (constructor <;> rfl))
      · exact H
  rcases hv with ⟨rfl, hl, hG⟩ | ⟨rfl, x1, x2, x3⟩
  · have e1 : gets s = (0, ⟨#[]⟩, 5) := by unfold gets; rw [hG]; rfl
    rw [e1]
    apply FRun.of (e := .ret) (hT.trans p75)
    · apply hpre
      apply Run.seq
      · apply Run.seq
        · apply Run.step 20; intro k j
          simp
          (first | rfl | (constructor <;> rfl))
        · apply Run.block_exit
          apply Run.loop_go' hr
          simp [forget, fg75, c75, fr75]
      · apply Run.step 20; intro k j
        simp
        (first | rfl | (constructor <;> rfl))
    · exact Or.inl rfl
    · simp [resAs, resA, tupA, hl]
  · apply FRun.of (e := .ret) (tm' := tm') (hT.trans p75)
    · apply hpre
      apply Run.seq_stop (by simp)
      apply Run.seq
      · apply Run.step 20; intro k j
        simp
        (first | rfl | (constructor <;> rfl))
      · apply Run.block_id (by simp)
        apply Run.loop_go' hr
        simp [forget, fg75, c75, fr75]
    · exact Or.inl rfl
    · simp [resAs, resA, tupA, x1, x2, x3, gets]
theorem hkGet75_ok {T : FuncId → Option AFunc} (hm : Try.prog.follows .mixedOrders = true) (hT : TabOK Try.prog T) (h75 : T 75 = prepFn Try.prog 75) (hP : T 85 = some (.hook hkPut)) (hc : callable Try.prog 75 = true) : HookSound Try.prog 75 hkGet := by
  refine hookOf hm hT hc fun l h r he => ?_
  unfold hkGet at he
  split at he
  · rename_i s
    split at he
    · rename_i hs
      cases he
      exact ⟨_, get75_run h75 hP s hs h, Drops.refl _ _⟩
    · cases he
  · cases he
end Go.Proofs.Ytpmoellbfgcefaa.AS
end
