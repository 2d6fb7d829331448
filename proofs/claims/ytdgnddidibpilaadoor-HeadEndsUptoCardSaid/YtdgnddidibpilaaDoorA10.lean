/- Of our own: an abstract machine beside the model, its soundness, and walks of the program in it. -/
import Derived.Test.YtdgnddidibpilaaDoorA9
set_option linter.unusedSimpArgs false
set_option linter.unusedVariables false
section
set_option autoImplicit false
set_option linter.unusedSimpArgs false
namespace Go.Proofs.YtdgnddidibpilaaDoor.AS
open Go Go.RowKit

/-! ### Memory: rows that are read, rows of one's own, objects -/
/-- How elements lie in cells. -/
structure Enc (α : Type) where
  cells : α → List AV
  sz : Nat
  len : ∀ x, (cells x).length = sz
def encI (k : IntKind) : Enc Int := ⟨fun n => [.s (.int k n)], 1, fun _ => rfl⟩
def encS : Enc ByteArray := ⟨fun n => [.s (.string n)], 1, fun _ => rfl⟩
/-- The cells are cells. -/
def Enc.ok {α : Type} (E : Enc α) (x : α) : Bool := (E.cells x).all isCell
theorem encI_ok (k : IntKind) : ∀ (L : List Int), L.all (encI k).ok = true
  | [] => rfl
  | _ :: L => encI_ok k L
theorem encS_ok : ∀ (L : List ByteArray), L.all encS.ok = true
  | [] => rfl
  | _ :: L => encS_ok L
def encA : Enc AV := ⟨fun a => [a], 1, fun _ => rfl⟩
def bo : AV → Option Nat
  | .sl b _ _ _ _ => some b
  | .pt b _ _ => some b
  | _ => none
section
variable {α : Type} {E : Enc α} {e : TypeId} {h H h0 : Heap} {a a' : AV} {L M : List α}
theorem Enc.flat_len (E : Enc α) : ∀ (L : List α), (L.flatMap E.cells).length = L.length * E.sz
  | [] => by simp
  | x :: L => by rw [List.flatMap_cons, List.length_append, E.len, E.flat_len L, List.length_cons, Nat.add_mul, Nat.one_mul, Nat.add_comm]
theorem Enc.flat_ok (E : Enc α) : ∀ {L : List α}, L.all E.ok = true → (L.flatMap E.cells).all isCell = true
  | [], _ => rfl
  | x :: L, h => by
    simp only [List.all_cons, Bool.and_eq_true] at h
    rw [List.flatMap_cons, List.all_append, E.flat_ok h.2, show (E.cells x).all isCell = true from h.1]; rfl
theorem Enc.flat_drop (E : Enc α) : ∀ (L : List α) (i : Nat), (L.flatMap E.cells).drop (i * E.sz) = (L.drop i).flatMap E.cells
  | L, 0 => by simp
  | [], i + 1 => by simp
  | x :: L, i + 1 => by
    rw [List.flatMap_cons, List.drop_succ_cons, ← E.flat_drop L i, Nat.add_mul, Nat.one_mul, Nat.add_comm, ← List.drop_drop, List.drop_left' (E.len x)]
theorem Enc.flat_take (E : Enc α) : ∀ (L : List α) (i : Nat), (L.flatMap E.cells).take (i * E.sz) = (L.take i).flatMap E.cells
  | L, 0 => by simp
  | [], i + 1 => by simp
  | x :: L, i + 1 => by
    rw [List.flatMap_cons, List.take_succ_cons, List.flatMap_cons, ← E.flat_take L i, Nat.add_mul, Nat.one_mul, Nat.add_comm, List.take_append, E.len]
    rw [List.take_of_length_le (by rw [E.len]; omega), Nat.add_sub_cancel_left]
/-- What a slice reads. -/
def Row (E : Enc α) (h : Heap) (a : AV) (L : List α) : Prop :=
  (a = .s (.slice none 0 0) ∧ L = []) ∨ ∃ b v o k, a = .sl b v o L.length E.sz ∧ bk h b = some k ∧ k.ver = v ∧ o + L.length * E.sz ≤ k.cells.length ∧ (k.cells.drop o).take (L.length * E.sz) = L.flatMap E.cells
/-- A slice of one's own: it may be put behind. -/
def Own (E : Enc α) (e : TypeId) (h : Heap) (a : AV) (L : List α) : Prop :=
  (a = .s (.slice none 0 0) ∧ L = []) ∨ ∃ b v o k, a = .sl b v o L.length E.sz ∧ bk h b = some k ∧ k.ver = v ∧ o + L.length * E.sz ≤ k.cells.length ∧ (k.cells.drop o).take (L.length * E.sz) = L.flatMap E.cells ∧ k.rw = true ∧ k.e = e ∧ k.sz = E.sz
def Pts (h : Heap) (q : AV) (C : List AV) : Prop := ∃ b v o k, q = .pt b v o ∧ bk h b = some k ∧ k.ver = v ∧ o + C.length ≤ k.cells.length ∧ (k.cells.drop o).take C.length = C
/-- An object of one's own. -/
def Obj (h : Heap) (b : Nat) (C : List AV) : Prop := ∃ k, bk h b = some k ∧ k.ver = 0 ∧ k.rw = true ∧ k.cells = C
/-- Nothing known is of blocks below. -/
def New (n : Nat) (a : AV) : Prop := ∀ c, bo a = some c → n ≤ c
/-- All blocks but one stand. -/
structure Upd (h H : Heap) (b : Nat) : Prop where
  keep : ∀ c, c ≠ b → bk H c = bk h c
  len : H.length = h.length
/-- What an append leaves. -/
structure ApF (h H : Heap) (a a' : AV) : Prop where
  keep : ∀ c, c < h.length → bo a ≠ some c → bk H c = bk h c
  len : h.length ≤ H.length
  place : ∀ c, bo a' = some c → h.length ≤ c ∨ bo a = some c

theorem Own.row (o : Own E e h a L) : Row E h a L := by
  rcases o with o | ⟨b, v, o, k, h1, h2, h3, h4, h5, _⟩
  · exact .inl o
  · exact .inr ⟨b, v, o, k, h1, h2, h3, h4, h5⟩
theorem Own.nil : Own E e h (.s (.slice none 0 0)) [] := .inl ⟨rfl, rfl⟩
theorem Row.nil : Row E h (.s (.slice none 0 0)) [] := .inl ⟨rfl, rfl⟩
theorem New.nil {n : Nat} {v : Value} : New n (.s v) := fun c hc => by simp [bo] at hc
theorem New.mono {n m : Nat} (h : New n a) (hm : m ≤ n) : New m a := fun c hc => Nat.le_trans hm (h c hc)
theorem Row.lt (r : Row E h a L) {c : Nat} (hc : bo a = some c) : c < h.length := by
  rcases r with ⟨rfl, _⟩ | ⟨b, v, o, k, rfl, h2, _⟩
  · simp [bo] at hc
  · simp [bo] at hc; subst hc; exact bk_lt h2
theorem Grows.bk {b : Nat} (g : Grows h H) (hb : b < h.length) : bk H b = bk h b := g b hb
theorem Row.at (r : Row E h a L) (hk : ∀ c, bo a = some c → bk H c = bk h c) : Row E H a L := by
  rcases r with r | ⟨b, v, o, k, rfl, h2, r⟩
  · exact .inl r
  · exact .inr ⟨b, v, o, k, rfl, (hk b rfl).trans h2, r⟩
theorem Own.at (r : Own E e h a L) (hk : ∀ c, bo a = some c → bk H c = bk h c) : Own E e H a L := by
  rcases r with r | ⟨b, v, o, k, rfl, h2, r⟩
  · exact .inl r
  · exact .inr ⟨b, v, o, k, rfl, (hk b rfl).trans h2, r⟩
theorem Row.grows (r : Row E h a L) (g : Grows h H) : Row E H a L := r.at fun _ hc => g.bk (r.lt hc)
theorem Own.grows (r : Own E e h a L) (g : Grows h H) : Own E e H a L := r.at fun _ hc => g.bk (r.row.lt hc)
theorem Pts.grows {q : AV} {C : List AV} (r : Pts h q C) (g : Grows h H) : Pts H q C := by
  obtain ⟨b, v, o, k, rfl, h2, r⟩ := r
  exact ⟨b, v, o, k, rfl, (g.bk (bk_lt h2)).trans h2, r⟩
theorem Obj.grows {b : Nat} {C : List AV} (r : Obj h b C) (g : Grows h H) : Obj H b C := by
  obtain ⟨k, h2, r⟩ := r
  exact ⟨k, (g.bk (bk_lt h2)).trans h2, r⟩
theorem Obj.lt {b : Nat} {C : List AV} (r : Obj h b C) : b < h.length := by obtain ⟨k, h2, _⟩ := r; exact bk_lt h2
theorem Obj.upd {b c : Nat} {C : List AV} (r : Obj h b C) (u : Upd h H c) (hn : b ≠ c) : Obj H b C := by
  obtain ⟨k, h2, r⟩ := r
  exact ⟨k, (u.keep b hn).trans h2, r⟩
theorem Row.upd {c : Nat} (r : Row E h a L) (u : Upd h H c) (hn : bo a ≠ some c) : Row E H a L := r.at fun c' hc => u.keep c' (fun e => hn (e ▸ hc))
theorem Own.upd {c : Nat} (r : Own E e h a L) (u : Upd h H c) (hn : bo a ≠ some c) : Own E e H a L := r.at fun c' hc => u.keep c' (fun e => hn (e ▸ hc))
theorem Upd.grows {c : Nat} (u : Upd h H c) (g : Grows h0 h) (hc : h0.length ≤ c) : Grows h0 H := fun b hb => (u.keep b (by omega)).trans (g b hb)
theorem Obj.ap {b : Nat} {C : List AV} (r : Obj h b C) (u : ApF h H a a') (hn : bo a ≠ some b) : Obj H b C := by
  obtain ⟨k, h2, r⟩ := r
  exact ⟨k, (u.keep b (bk_lt h2) hn).trans h2, r⟩
theorem Row.ap {c c' : AV} (r : Row E h a L) (u : ApF h H c c') (hn : ∀ x, bo c = some x → bo a ≠ some x) : Row E H a L := r.at fun x hx => u.keep x (r.lt hx) (fun e => hn x e hx)
theorem ApF.grows (u : ApF h H a a') (g : Grows h0 h) (hn : New h0.length a) : Grows h0 H ∧ New h0.length a' :=
  ⟨fun b hb => (u.keep b (by have := g.len; omega) (fun e => by have := hn b e; omega)).trans (g b hb), fun c hc => by
    rcases u.place c hc with h1 | h1
    · have := g.len; omega
    · exact hn c h1⟩
theorem Row.cellsOf (r : Row E h a L) : cellsOf a = some [a] := by
  rcases r with ⟨rfl, _⟩ | ⟨b, v, o, k, rfl, _⟩ <;> rfl
theorem Row.isC (r : Row E h a L) : [a].all isCell = true := by
  rcases r with ⟨rfl, _⟩ | ⟨b, v, o, k, rfl, _⟩ <;> rfl
theorem ApF.ne (u : ApF h H a a') {c : Nat} (hc : c < h.length) (hn : bo a ≠ some c) : bo a' ≠ some c := fun e => (u.place c e).elim (fun h1 => by omega) hn
/-- A row in the making, since a heap. -/
structure Out (E : Enc α) (e : TypeId) (h0 h : Heap) (a : AV) (L : List α) : Prop where
  g : Grows h0 h
  o : Own E e h a L
  nw : New h0.length a
theorem Out.nil (g : Grows h0 h) : Out E e h0 h (.s (.slice none 0 0)) [] := ⟨g, Own.nil, New.nil⟩
theorem Out.grows (o : Out E e h0 h a L) (g : Grows h H) : Out E e h0 H a L := ⟨o.g.trans g, o.o.grows g, o.nw⟩
theorem Out.row (o : Out E e h0 h a L) : Row E h a L := o.o.row
/-- A row from before is as it was. -/
theorem Out.old {β : Type} {G : Enc β} {c : AV} {N : List β} (o : Out E e h0 h a L) (r : Row G h0 c N) : Row G h c N := r.grows o.g

instance : Inhabited AV := ⟨.any⟩
instance : Inhabited ByteArray := ⟨.empty⟩
def nth [Inhabited α] (L : List α) (i : Int) : α := L.getD i.toNat default
theorem nth_eq [Inhabited α] {i : Int} (h : i.toNat < L.length) : nth L i = L[i.toNat] := by simp [nth, h]
theorem Row.elem [Inhabited α] (r : Row E h a L) {i : Int} (h0 : 0 ≤ i) (h1 : i < L.length) : ∃ b v o, a = .sl b v o L.length E.sz ∧ Pts h (.pt b v (o + i.toNat * E.sz)) (E.cells (nth L i)) := by
  rcases r with ⟨_, rfl⟩ | ⟨b, v, o, k, rfl, h2, h3, h4, h5⟩
  · simp at h1; omega
  · refine ⟨b, v, o, rfl, b, v, _, k, rfl, h2, h3, ?_, ?_⟩
    · rw [E.len]
      have : i.toNat * E.sz + E.sz ≤ L.length * E.sz := by
        rw [← Nat.succ_mul]; exact Nat.mul_le_mul_right _ (by omega)
      omega
    · rw [E.len]
      have hi : i.toNat < L.length := by omega
      have e1 : ((k.cells.drop o).take (L.length * E.sz)).drop (i.toNat * E.sz) = (L.drop i.toNat).flatMap E.cells := by rw [h5, E.flat_drop]
      have e2 : (((k.cells.drop o).take (L.length * E.sz)).drop (i.toNat * E.sz)).take E.sz = E.cells (nth L i) := by
        rw [e1, List.drop_eq_getElem_cons hi, List.flatMap_cons, nth_eq hi, List.take_left' (E.len _)]
      rw [← e2, List.drop_take, List.drop_drop, List.take_take]
      congr 1
      have : i.toNat * E.sz + E.sz ≤ L.length * E.sz := by
        rw [← Nat.succ_mul]; exact Nat.mul_le_mul_right _ (by omega)
      omega
theorem Row.slice (r : Row E h a L) {lo hi : Nat} (h1 : lo ≤ hi) (h2 : hi ≤ L.length) : (a = .s (.slice none 0 0) ∧ L = []) ∨ ∃ b v o, a = .sl b v o L.length E.sz ∧ Row E h (.sl b v (o + lo * E.sz) (hi - lo) E.sz) ((L.take hi).drop lo) := by
  rcases r with r | ⟨b, v, o, k, rfl, h2', h3, h4, h5⟩
  · exact .inl r
  · refine .inr ⟨b, v, o, rfl, .inr ⟨b, v, o + lo * E.sz, k, ?_, h2', h3, ?_, ?_⟩⟩
    · simp; omega
    · simp only [List.length_drop, List.length_take]
      have : lo * E.sz + (min hi L.length - lo) * E.sz ≤ L.length * E.sz := by
        rw [← Nat.add_mul]; exact Nat.mul_le_mul_right _ (by omega)
      omega
    · simp only [List.length_drop, List.length_take]
      rw [show min hi L.length = hi by omega, ← E.flat_drop, ← E.flat_take, ← h5, List.take_take, List.drop_take, List.drop_drop]
      congr 1
      have : hi * E.sz ≤ L.length * E.sz := Nat.mul_le_mul_right _ h2
      rw [Nat.min_eq_left this, Nat.sub_mul]
end

section
variable {P : Program} {T : Nat → CallF} {n : Nat} {F : Fr} {h : Heap} {K : Fr → Heap → Prop} {l : List AOper} {d : Option Nat} {x y z : Operand} {α : Type} {E : Enc α} {e : TypeId} {L M : List α}

theorem WO.lenR {E : Enc α} {h0 : Heap} (r : Row E h0 (evF F x) L) (k : WO P T n l (putF d (.s (.int .i64 L.length)) F) h K) : WO P T n (⟨d, none, .p (.lenS x)⟩ :: l) F h K := by
  rcases r with ⟨h1, rfl⟩ | ⟨b, v, o, k', h1, _⟩
  · exact WO.lenN h1 k
  · exact WO.lenS h1 k
theorem WO.iaddr [Inhabited α] {E : Enc α} {sz : Nat} {j : IntKind} {i : Int} (r : Row E h (evF F x) L) (hy : evF F y = .s (.int j i)) (hs : E.sz = sz) (h0 : 0 ≤ i) (h1 : i < L.length)
    (k : ∀ q, Pts h q (E.cells (nth L i)) → WO P T n l (putF d q F) h K) : WO P T n (⟨d, none, .p (.iaddr sz x y)⟩ :: l) F h K := by
  obtain ⟨b, v, o, h2, h3⟩ := r.elem h0 h1
  subst hs
  refine WO.pv (fun ho => ?_) (k _ h3)
  simp only [opds, opdsP, List.all_cons, List.all_nil, Bool.and_true, Bool.and_eq_true] at ho
  rw [pV_iaddr, evO_fr ho.1, evO_fr ho.2, hy, h2, iaV_s, if_pos ⟨h0, h1⟩]
theorem WO.nilckP {C : List AV} (r : Pts h (evF F x) C) (k : WO P T n l (putF d (evF F x) F) h K) : WO P T n (⟨d, none, .p (.nilck x)⟩ :: l) F h K := by
  obtain ⟨b, v, o, _, h1, _⟩ := r
  refine WO.nilck h1 ?_
  rw [← h1]; exact k
theorem WO.faddrP {C : List AV} {off : Nat} (r : Pts h (evF F x) C) (ho : Nat.ble off C.length = true) (k : ∀ q, Pts h q (C.drop off) → WO P T n l (putF d q F) h K) : WO P T n (⟨d, none, .p (.faddr off x)⟩ :: l) F h K := by
  obtain ⟨b, v, o, k', h1, h2, h3, h4, h5⟩ := r
  have ho := Nat.le_of_ble_eq_true ho
  refine WO.faddr h1 (k _ ⟨b, v, o + off, k', rfl, h2, h3, by rw [List.length_drop]; omega, ?_⟩)
  rw [List.length_drop, ← List.drop_drop]
  rw [← h5]
  simp only [List.length_take, List.length_drop, List.drop_take]
  congr 1
  omega
theorem WO.load {C : List AV} {agg : Bool} {m : Nat} {v : AV} (r : Pts h (evF F x) C) (hm : Nat.ble m C.length = true) (hv : oneOr agg (C.take m) = some v) (k : WO P T n l (putF d v F) h K) : WO P T n (⟨d, none, .r (.load agg m x)⟩ :: l) F h K := by
  obtain ⟨b, w, o, k', h1, h2, h3, h4, h5⟩ := r
  have hm := Nat.le_of_ble_eq_true hm
  refine WO.op (fun ho => ⟨0, fun j _ => ?_⟩) k
  simp only [opds, opdsR, List.all_cons, List.all_nil, Bool.and_true] at ho
  obtain ⟨v', e', s', rw', c'⟩ := k'
  simp only at h3 h4 h5
  rw [opV_r, rV_load, evO_fr ho, h1, ldV_p, h2, rdK_s, if_pos ⟨h3, by omega⟩]
  have : (c'.drop o).take m = C.take m := by rw [← h5, List.take_take, Nat.min_eq_left hm]
  rw [this]
  simp only [Option.bind_some, hv, Option.map_some]
theorem WO.loadO {C : List AV} {agg : Bool} {m b o : Nat} {v : AV} (hx : evF F x = .pt b 0 o) (r : Obj h b C) (hm : Nat.ble (o + m) C.length = true) (hv : oneOr agg ((C.drop o).take m) = some v) (k : WO P T n l (putF d v F) h K) : WO P T n (⟨d, none, .r (.load agg m x)⟩ :: l) F h K := by
  obtain ⟨k', h2, h3, _, rfl⟩ := r
  have hm := Nat.le_of_ble_eq_true hm
  refine WO.op (fun ho => ⟨0, fun j _ => ?_⟩) k
  simp only [opds, opdsR, List.all_cons, List.all_nil, Bool.and_true] at ho
  obtain ⟨v', e', s', rw', c'⟩ := k'
  simp only at h3 hv hm
  rw [opV_r, rV_load, evO_fr ho, hx, ldV_p, h2, rdK_s, if_pos ⟨h3, hm⟩]
  simp only [Option.bind_some, hv, Option.map_some]
theorem WO.storeO {C C' lv : List AV} {m b o : Nat} (hx : evF F x = .pt b 0 o) (r : Obj h b C) (hl : cellsOf (evF F y) = some lv) (hn : Nat.beq lv.length m = true) (hc : lv.all isCell = true) (hm : Nat.ble (o + m) C.length = true) (hC : C.take o ++ lv ++ C.drop (o + m) = C')
    (k : ∀ H, Obj H b C' → Upd h H b → WO P T n l (putF d (.s undef) F) H K) : WO P T n (⟨d, none, .e (.store m x y)⟩ :: l) F h K := by
  obtain ⟨k', h2, h3, h4, rfl⟩ := r
  have hn := Nat.eq_of_beq_eq_true hn
  have hm := Nat.le_of_ble_eq_true hm
  have hlt := bk_lt h2
  obtain ⟨v', e', s', rw', c'⟩ := k'
  simp only at h3 h4 hm hC
  subst h3 h4 hn hC
  refine WO.op (fun ho => ⟨0, fun j _ => ?_⟩) (k (h.set b ⟨0, e', s', true, c'.take o ++ lv ++ c'.drop (o + lv.length)⟩) ⟨⟨0, e', s', true, c'.take o ++ lv ++ c'.drop (o + lv.length)⟩, bk_set_same hlt, rfl, rfl, rfl⟩ ⟨fun c hc => bk_set_ne (fun e => hc e.symm), by simp⟩)
  simp only [opds, opdsE, List.all_cons, List.all_nil, Bool.and_true, Bool.and_eq_true] at ho
  rw [opV_e, eV_store, evO_fr ho.1, evO_fr ho.2, hx, stV_p, hl, stW_s, if_pos ⟨rfl, hc⟩, h2, wrK_s, if_pos ⟨rfl, rfl, Nat.le_of_ble_eq_true hm⟩]
  rfl
/-- A new object. -/
theorem WO.box {et : TypeId} {sz : Nat} {C : List AV} (hl : cellsOf (evF F x) = some C) (k : ∀ b H, h.length ≤ b → Grows h H → Obj H b C → WO P T n l (putF d (.pt b 0 0) F) H K) : WO P T n (⟨d, none, .e (.box et sz x)⟩ :: l) F h K := by
  refine WO.op (fun ho => ⟨0, fun j _ => ?_⟩) (k h.length (h ++ [⟨0, et, sz, true, C⟩]) (Nat.le_refl _) (Grows.app _ _) ⟨_, bk_new, rfl, rfl, rfl⟩)
  simp only [opds, opdsE, List.all_cons, List.all_nil, Bool.and_true] at ho
  rw [opV_e, eV_box, evO_fr ho, boV_s, hl, boW_s]
theorem WO.new {et : TypeId} {sz : Nat} {cs : List Value} (k : ∀ b H, h.length ≤ b → Grows h H → Obj H b (cs.map .s) → WO P T n l (putF d (.pt b 0 0) F) H K) : WO P T n (⟨d, none, .e (.new et sz cs)⟩ :: l) F h K := by
  refine WO.op (fun ho => ⟨0, fun j _ => ?_⟩) (k h.length (h ++ [⟨0, et, sz, true, cs.map .s⟩]) (Nat.le_refl _) (Grows.app _ _) ⟨_, bk_new, rfl, rfl, rfl⟩)
  rw [opV_e, eV_new]
def evPF (F : Fr) : List (Nat × Nat × Operand) → List (Nat × Nat × AV)
  | [] => []
  | (o, m, x) :: l => (o, m, evF F x) :: evPF F l
theorem evParts_fr : ∀ {ps : List (Nat × Nat × Operand)}, (ps.map fun p => p.2.2).all (okO n) = true → evParts (fr n F) ps = some (evPF F ps)
  | [], _ => rfl
  | (o, m, x) :: l, h => by
    simp only [List.map_cons, List.all_cons, Bool.and_eq_true] at h
    rw [evParts_cons, evO_fr h.1, evParts_fr h.2]; rfl
/-- A struct's value. -/
theorem WO.build {zero : List Value} {ps : List (Nat × Nat × Operand)} {C : List AV} (hC : fillA (zero.map .s) (evPF F ps) = some C) (k : WO P T n l (putF d (.ag C) F) h K) : WO P T n (⟨d, none, .p (.build zero ps)⟩ :: l) F h K :=
  WO.pv (fun ho => by
    simp only [opds, opdsP] at ho
    rw [pV_build, evParts_fr ho, buV_s, hC]; rfl) k
/-- A new slice of elements. -/
theorem WO.bsl {len sz : Nat} {cs : List Value} {ps : List (Nat × Nat × Operand)} {C : List AV} (hC : fillA (cs.map .s) (evPF F ps) = some C) (M : List α) (hM : M.flatMap E.cells = C) (hl : M.length = len) (hs : E.sz = sz)
    (k : ∀ a H, Grows h H → Own E e H a M → New h.length a → WO P T n l (putF d a F) H K) : WO P T n (⟨d, none, .e (.bslice e sz len cs ps)⟩ :: l) F h K := by
  subst hl hs
  refine WO.op (fun ho => ⟨0, fun j _ => ?_⟩) (k (.sl h.length 0 0 M.length E.sz) (h ++ [⟨0, e, E.sz, true, C⟩]) (Grows.app _ _) (.inr ⟨_, 0, 0, _, rfl, bk_new, rfl, ?_, ?_, rfl, rfl, rfl⟩) (fun c hc => by simp [bo] at hc; omega))
  · simp only [opds, opdsE] at ho
    rw [opV_e, eV_bslice, evParts_fr ho, bsV_s, hC, bsW_s]
  · rw [← hM, E.flat_len]; omega
  · rw [← hM, List.drop_zero, List.take_of_length_le (by rw [E.flat_len]; omega)]
theorem WO.bslI {sz : Nat} {cs : List Value} {ps : List (Nat × Nat × Operand)} {k : IntKind} {v : Int} (hC : fillA (cs.map .s) (evPF F ps) = some [.s (.int k v)]) (hs : 1 = sz)
    (k : ∀ a H, Grows h H → Own (encI k) e H a [v] → New h.length a → WO P T n l (putF d a F) H K) : WO P T n (⟨d, none, .e (.bslice e sz 1 cs ps)⟩ :: l) F h K := WO.bsl hC [v] rfl rfl hs k
theorem WO.bslS {sz : Nat} {cs : List Value} {ps : List (Nat × Nat × Operand)} {v : ByteArray} (hC : fillA (cs.map .s) (evPF F ps) = some [.s (.string v)]) (hs : 1 = sz)
    (k : ∀ a H, Grows h H → Own encS e H a [v] → New h.length a → WO P T n l (putF d a F) H K) : WO P T n (⟨d, none, .e (.bslice e sz 1 cs ps)⟩ :: l) F h K := WO.bsl hC [v] rfl rfl hs k
theorem WO.make {sz bytes : Nat} {zero : List Value} {j i : IntKind} {m c : Int} {z : α} (hx : evF F x = .s (.int j m)) (hy : evF F y = .s (.int i c)) (hz : E.cells z = zero.map .s) (hs : E.sz = sz) (h0 : 0 ≤ m) (h1 : m ≤ c) (h2 : c * bytes ≤ 140737488355328) (h3 : c ≤ 9223372036854775807)
    (k : ∀ a H, Grows h H → Own E e H a (List.replicate m.toNat z) → New h.length a → WO P T n l (putF d a F) H K) : WO P T n (⟨d, none, .e (.make e sz bytes zero x y)⟩ :: l) F h K := by
  subst hs
  have hlen : ∀ q : Nat, ((List.replicate q (zero.map AV.s)).flatten) = (List.replicate q z).flatMap E.cells := by
    intro q
    induction q with
    | zero => rfl
    | succ q ih => rw [List.replicate_succ, List.replicate_succ, List.flatten_cons, List.flatMap_cons, ih, hz]
  refine WO.op (fun ho => ⟨0, fun j _ => ?_⟩) (k (.sl h.length 0 0 m.toNat E.sz) (h ++ [⟨0, e, E.sz, true, (List.replicate c.toNat (zero.map AV.s)).flatten⟩]) (Grows.app _ _) (.inr ⟨_, 0, 0, _, ?_, bk_new, rfl, ?_, ?_, rfl, rfl, rfl⟩) (fun c hc => by simp [bo] at hc; omega))
  · simp only [opds, opdsE, List.all_cons, List.all_nil, Bool.and_true, Bool.and_eq_true] at ho
    simp only [opV_e, eV, evO_fr ho.1, evO_fr ho.2, hx, hy, Option.bind_some, asI]
    rw [if_pos ⟨h0, h1, h2, h3⟩]
  · simp
  · simp only [hlen, E.flat_len, List.length_replicate]
    have : m.toNat * E.sz ≤ c.toNat * E.sz := Nat.mul_le_mul_right _ (by omega)
    omega
  · simp only [hlen, List.length_replicate, List.drop_zero]
    rw [E.flat_take, List.take_replicate, Nat.min_eq_left (by omega)]
/-- Zeros onto nothing. -/
theorem WO.appz {sz bytes : Nat} {zero : List Value} {j : IntKind} {m : Int} {z : α} (hx : evF F x = .s (.slice none 0 0)) (hy : evF F y = .s (.int j m)) (hz : E.cells z = zero.map .s) (hs : E.sz = sz) (h0 : 0 < m) (h2 : m * bytes ≤ 140737488355328) (h3 : m ≤ 9223372036854775807)
    (k : ∀ a H, Grows h H → Own E e H a (List.replicate m.toNat z) → New h.length a → WO P T n l (putF d a F) H K) : WO P T n (⟨d, none, .e (.appz e sz bytes zero x y)⟩ :: l) F h K := by
  subst hs
  have hlen : ∀ q : Nat, ((List.replicate q (zero.map AV.s)).flatten) = (List.replicate q z).flatMap E.cells := by
    intro q
    induction q with
    | zero => rfl
    | succ q ih => rw [List.replicate_succ, List.replicate_succ, List.flatten_cons, List.flatMap_cons, ih, hz]
  refine WO.op (fun ho => ⟨0, fun j _ => ?_⟩) (k (.sl h.length 0 0 m.toNat E.sz) (h ++ [⟨0, e, E.sz, true, (List.replicate m.toNat (zero.map AV.s)).flatten⟩]) (Grows.app _ _) (.inr ⟨_, 0, 0, _, ?_, bk_new, rfl, ?_, ?_, rfl, rfl, rfl⟩) (fun c hc => by simp [bo] at hc; omega))
  · simp only [opds, opdsE, List.all_cons, List.all_nil, Bool.and_true, Bool.and_eq_true] at ho
    simp only [opV_e, eV, evO_fr ho.1, evO_fr ho.2, hx, hy, Option.bind_some, asI]
    rw [if_pos ⟨h0, h2, h3⟩]
  · simp
  · simp only [hlen, E.flat_len, List.length_replicate]; omega
  · simp only [hlen, List.length_replicate, List.drop_zero]
    rw [List.take_of_length_le (by rw [E.flat_len, List.length_replicate]; omega)]
/-- What is put behind: a slice's elements. -/
theorem WO.app {sz bytes : Nat} (r : Own E e h (evF F x) L) (s : Row E h (evF F y) M) (hs : E.sz = sz) (hok : M.all E.ok = true) (h1 : (L.length + M.length) * bytes ≤ 140737488355328) (h2 : L.length + M.length ≤ 9223372036854775807)
    (k : ∀ a H, Own E e H a (L ++ M) → ApF h H (evF F x) a → WO P T n l (putF d a F) H K) : WO P T n (⟨d, none, .e (.app e sz bytes x y)⟩ :: l) F h K := by
  subst hs
  have hsrc : srcW E.sz h (some (evF F y)) = some (M.length, M.flatMap E.cells) := by
    rcases s with ⟨s1, rfl⟩ | ⟨b, v, o, ⟨v', e', s', rw', c'⟩, s1, s2, s3, s4, s5⟩
    · rw [s1]; rfl
    · simp only at s3 s4 s5
      rw [s1, srcW_sl, s2, rdK_s, if_pos ⟨s3, s4⟩, s5]; rfl
  rcases r with ⟨r1, rfl⟩ | ⟨b, v, o, ⟨v', e', s', rw', c'⟩, r1, r2, r3, r4, r5, r6, r7, r8⟩
  · by_cases hM : M.length = 0
    · obtain rfl := List.length_eq_zero_iff.1 hM
      refine WO.op (fun ho => ⟨0, fun j _ => ?_⟩) (k (.s (.slice none 0 0)) h (.inl ⟨rfl, rfl⟩) ⟨fun _ _ _ => rfl, Nat.le_refl _, fun c hc => by simp [bo] at hc⟩)
      simp only [opds, opdsE, List.all_cons, List.all_nil, Bool.and_true, Bool.and_eq_true] at ho
      rw [opV_e, eV_app, evO_fr ho.1, evO_fr ho.2, r1, hsrc]; rfl
    · simp only [List.length_nil, Nat.zero_add] at h1 h2
      refine WO.op (fun ho => ⟨0, fun j _ => ?_⟩) (k (.sl h.length 0 0 M.length E.sz) (h ++ [⟨0, e, E.sz, true, M.flatMap E.cells⟩]) (.inr ⟨_, 0, 0, _, by simp, bk_new, rfl, ?_, ?_, rfl, rfl, rfl⟩) ⟨fun c hc _ => bk_app hc, by simp, fun c hc => by simp [bo] at hc; exact .inl (by omega)⟩)
      · simp only [opds, opdsE, List.all_cons, List.all_nil, Bool.and_true, Bool.and_eq_true] at ho
        rw [opV_e, eV_app, evO_fr ho.1, evO_fr ho.2, r1, hsrc, apV_nil e E.sz bytes M.length _ hM (E.flat_ok hok) h1 h2]
      · simp only [List.nil_append, E.flat_len]; omega
      · simp only [List.nil_append, List.drop_zero]; rw [List.take_of_length_le (by rw [E.flat_len]; omega)]
  · simp only at r3 r4 r5 r6 r7 r8
    subst r3 r6 r7 r8
    have hlt := bk_lt r2
    refine WO.op (fun ho => ⟨0, fun j _ => ?_⟩) (k (.sl b (v' + 1) 0 (L.length + M.length) E.sz) (h.set b ⟨v' + 1, e', E.sz, true, (c'.drop o).take (L.length * E.sz) ++ M.flatMap E.cells⟩) (.inr ⟨b, v' + 1, 0, _, by simp, bk_set_same hlt, rfl, ?_, ?_, rfl, rfl, rfl⟩) ⟨fun c hc hn => bk_set_ne (fun e => hn (by rw [r1, e]; rfl)), by simp, fun c hc => .inr (by rw [r1]; exact hc)⟩)
    · simp only [opds, opdsE, List.all_cons, List.all_nil, Bool.and_true, Bool.and_eq_true] at ho
      rw [opV_e, eV_app, evO_fr ho.1, evO_fr ho.2, r1, hsrc, apV_sl, r2, apK_s _ _ _ _ _ _ _ _ _ _ _ _ _ _ ⟨rfl, rfl, rfl, rfl, r4, E.flat_ok hok, h1, h2⟩]
    · simp only [r5, List.length_append, E.flat_len, Nat.add_mul]; omega
    · simp only [r5, List.drop_zero, ← List.flatMap_append]
      rw [List.take_of_length_le (by rw [E.flat_len]; omega)]
theorem WO.appO {h0 : Heap} {sz bytes : Nat} (r : Out E e h0 h (evF F x) L) (s : Row E h (evF F y) M) (hs : E.sz = sz) (hok : M.all E.ok = true) (h1 : (L.length + M.length) * bytes ≤ 140737488355328) (h2 : L.length + M.length ≤ 9223372036854775807)
    (k : ∀ a H, Out E e h0 H a (L ++ M) → ApF h H (evF F x) a → WO P T n l (putF d a F) H K) : WO P T n (⟨d, none, .e (.app e sz bytes x y)⟩ :: l) F h K :=
  WO.app r.o s hs hok h1 h2 fun a H o u => k a H ⟨(u.grows r.g r.nw).1, o, (u.grows r.g r.nw).2⟩ u
/-- A piece of a row. -/
theorem slice_val {sz : Nat} {E : Enc α} {h : Heap} {a : AV} {lo hi : Option Operand} {i j : Nat} (r : Row E h a L) (hs : E.sz = sz) (h1 : i ≤ j) (h2 : j ≤ L.length)
    (hlo : loI (fr n F) 0 lo = some (i : Int)) (hhi : loI (fr n F) L.length hi = some (j : Int)) (hx : evO (fr n F) x = some a) : ∃ a', pV P (fr n F) (.slice sz x lo hi) = some a' ∧ Row E h a' ((L.take j).drop i) ∧ (bo a' = bo a) := by
  subst hs
  rcases r.slice h1 h2 with ⟨rfl, rfl⟩ | ⟨b, v, o, rfl, r'⟩
  · simp only [List.length_nil] at hhi h2
    obtain rfl : j = 0 := by omega
    obtain rfl : i = 0 := by omega
    refine ⟨.s (.slice none 0 0), ?_, by simpa using Row.nil, rfl⟩
    simp only [pV, hx, hlo]
    rw [show loI (fr n F) 0 hi = some ((0 : Nat) : Int) from hhi]
    rfl
  · refine ⟨_, ?_, r', rfl⟩
    simp only [pV, hx, hlo, hhi]
    rw [if_pos (by refine ⟨?_, by omega, by omega, by omega⟩; first | rfl | trivial)]
    simp
theorem WO.slc {sz : Nat} {E : Enc α} {hh : Heap} {j : IntKind} {i : Int} (r : Row E hh (evF F x) L) (hy : evF F y = .s (.int j i)) (hs : E.sz = sz) (h0 : 0 ≤ i) (h1 : i ≤ L.length)
    (k : ∀ a', Row E hh a' (L.drop i.toNat) → bo a' = bo (evF F x) → WO P T n l (putF d a' F) h K) : WO P T n (⟨d, none, .p (.slice sz x (some y) none)⟩ :: l) F h K := .of fun ho => by
  have ho1 : (opds (.p (.slice sz x (some y) none))).all (okO n) = true := by
    have ho := ho
    simp only [List.all_cons, okAO, Bool.and_eq_true] at ho; exact ho.1.1.1
  simp [opds, opdsP] at ho1
  obtain ⟨a', e1, e2, e3⟩ := slice_val (P := P) (n := n) (F := F) (x := x) (lo := some y) (hi := none) (i := i.toNat) (j := L.length) r hs (by omega) (Nat.le_refl _)
    (by simp only [loI, evO_fr ho1.2, hy, Option.bind_some, asI]; congr 1; omega) rfl (evO_fr ho1.1)
  rw [List.take_length] at e2
  exact (WO.pv (fun _ => e1) (k a' e2 e3)).go ho
theorem WO.slh' {sz : Nat} {E : Enc α} {hh : Heap} {j : IntKind} {i : Int} (r : Row E hh (evF F x) L) (hy : evF F y = .s (.int j i)) (hs : E.sz = sz) (h0 : 0 ≤ i) (h1 : i ≤ L.length)
    (k : ∀ a', Row E hh a' (L.take i.toNat) → bo a' = bo (evF F x) → WO P T n l (putF d a' F) h K) : WO P T n (⟨d, none, .p (.slice sz x none (some y))⟩ :: l) F h K := .of fun ho => by
  have ho1 : (opds (.p (.slice sz x none (some y)))).all (okO n) = true := by
    have ho := ho
    simp only [List.all_cons, okAO, Bool.and_eq_true] at ho; exact ho.1.1.1
  simp [opds, opdsP] at ho1
  obtain ⟨a', e1, e2, e3⟩ := slice_val (P := P) (n := n) (F := F) (x := x) (lo := none) (hi := some y) (i := 0) (j := i.toNat) r hs (by omega) (by omega)
    rfl (by simp only [loI, evO_fr ho1.2, hy, Option.bind_some, asI]; congr 1; omega) (evO_fr ho1.1)
  rw [List.drop_zero] at e2
  exact (WO.pv (fun _ => e1) (k a' e2 e3)).go ho
theorem WO.slb' {sz : Nat} {E : Enc α} {hh : Heap} {j k' : IntKind} {i m : Int} (r : Row E hh (evF F x) L) (hy : evF F y = .s (.int j i)) (hz : evF F z = .s (.int k' m)) (hs : E.sz = sz) (h0 : 0 ≤ i) (h1 : i ≤ m) (h2 : m ≤ L.length)
    (k : ∀ a', Row E hh a' ((L.take m.toNat).drop i.toNat) → bo a' = bo (evF F x) → WO P T n l (putF d a' F) h K) : WO P T n (⟨d, none, .p (.slice sz x (some y) (some z))⟩ :: l) F h K := .of fun ho => by
  have ho1 : (opds (.p (.slice sz x (some y) (some z)))).all (okO n) = true := by
    have ho := ho
    simp only [List.all_cons, okAO, Bool.and_eq_true] at ho; exact ho.1.1.1
  simp [opds, opdsP] at ho1
  obtain ⟨a', e1, e2, e3⟩ := slice_val (P := P) (n := n) (F := F) (x := x) (lo := some y) (hi := some z) (i := i.toNat) (j := m.toNat) r hs (by omega) (by omega)
    (by simp only [loI, evO_fr ho1.2.1, hy, Option.bind_some, asI]; congr 1; omega) (by simp only [loI, evO_fr ho1.2.2, hz, Option.bind_some, asI]; congr 1; omega) (evO_fr ho1.1)
  exact (WO.pv (fun _ => e1) (k a' e2 e3)).go ho
theorem WO.eqnil {neg : Bool} {E : Enc α} {hh : Heap} (r : Row E hh (evF F x) L) (k1 : evF F x = .s (.slice none 0 0) → L = [] → WO P T n l (putF d (.s (.bool (!neg))) F) h K) (k2 : WO P T n l (putF d (.s (.bool neg)) F) h K) : WO P T n (⟨d, none, .p (.eqnil neg 0 x)⟩ :: l) F h K := by
  rcases r with ⟨h1, rfl⟩ | ⟨b, v, o, k', h1, _⟩
  · refine WO.pv (fun ho => ?_) (k1 h1 rfl)
    simp only [opds, opdsP, List.all_cons, List.all_nil, Bool.and_true] at ho
    rw [pV_eqnil, evO_fr ho, h1, eqnV_nil]
  · refine WO.pv (fun ho => ?_) k2
    simp only [opds, opdsP, List.all_cons, List.all_nil, Bool.and_true] at ho
    rw [pV_eqnil, evO_fr ho, h1, eqnV_sl]
/-- A row's bytes as a text. -/
theorem bytesA_row : ∀ (L : List Int), bytesA (L.flatMap (encI .u8).cells) = some L
  | [] => rfl
  | x :: L => by
    rw [List.flatMap_cons]
    show (bytesA (L.flatMap (encI .u8).cells)).map (x :: ·) = _
    rw [bytesA_row L]; rfl
theorem WO.b2s {L : List Int} (r : Row (encI .u8) h (evF F x) L) (k : WO P T n l (putF d (.s (.string (strOfNums L))) F) h K) : WO P T n (⟨d, none, .r (.b2s x)⟩ :: l) F h K := by
  refine WO.op (fun ho => ⟨0, fun j _ => ?_⟩) k
  simp only [opds, opdsR, List.all_cons, List.all_nil, Bool.and_true] at ho
  rw [opV_r]
  rcases r with ⟨r1, rfl⟩ | ⟨b, v, o, ⟨v', e', s', rw', c'⟩, r1, r2, r3, r4, r5⟩
  · simp only [rV, evO_fr ho, r1]; rfl
  · simp only [encI, Nat.mul_one] at r3 r4 r5
    have : rdn h b v o L.length = some (L.flatMap (encI .u8).cells) := by rw [rdn_K, r2, rdK_s, if_pos ⟨r3, r4⟩, r5]; rfl
    simp only [rV, evO_fr ho, r1, this, Option.bind_some, bytesA_row]; rfl
end
end Go.Proofs.YtdgnddidibpilaaDoor.AS
end
section
set_option autoImplicit false
set_option linter.unusedSimpArgs false
namespace Go.Proofs.YtdgnddidibpilaaDoor.AS
open Go Go.RowKit

/-! ### Small helps of walks -/
def loK : IntKind → Int
  | .i8 => -128 | .i16 => -32768 | .i32 => -2147483648 | .i64 => -9223372036854775808
  | .u8 | .u16 | .u32 | .u64 => 0
def hiK : IntKind → Int
  | .i8 => 127 | .i16 => 32767 | .i32 => 2147483647 | .i64 => 9223372036854775807
  | .u8 => 255 | .u16 => 65535 | .u32 => 4294967295 | .u64 => 18446744073709551615
theorem wrOK {k : IntKind} {x : Int} (h : loK k ≤ x ∧ x ≤ hiK k) : k.wrap x = x := by
  cases k <;> simp only [loK, hiK] at h <;> simp [IntKind.wrap, IntKind.bits, IntKind.signed] <;> omega
def kdN : Nat → Option IntKind
  | 1 => some .i8 | 2 => some .i16 | 3 => some .i32 | 4 => some .i64 | 5 => some .u8 | 6 => some .u16 | 7 => some .u32 | 8 => some .u64
  | _ => none
def tyC : Option TypeDesc → Nat
  | some (.int .i8) => 1 | some (.int .i16) => 2 | some (.int .i32) => 3 | some (.int .i64) => 4
  | some (.int .u8) => 5 | some (.int .u16) => 6 | some (.int .u32) => 7 | some (.int .u64) => 8
  | some .string => 9
  | some .bool => 10
  | _ => 0
def nthN : List Nat → Nat → Nat
  | [], _ => 0
  | x :: _, 0 => x
  | _ :: l, i + 1 => nthN l i
theorem nthN_get : ∀ (l : List Nat) (i : Nat), nthN l i = (l[i]?).getD 0
  | [], i => by simp [nthN]
  | x :: l, 0 => rfl
  | x :: l, i + 1 => by simp only [nthN, List.getElem?_cons_succ]; exact nthN_get l i
def undTab (P : Program) (N : Nat) : List Nat := (List.range N).map fun t => tyC (P.underlying t)
theorem undTab_get (P : Program) (N t : Nat) : nthN (undTab P N) t = if t < N then tyC (P.underlying t) else 0 := by
  rw [nthN_get, undTab, List.getElem?_map]
  by_cases h : t < N
  · rw [List.getElem?_range h, if_pos h]; rfl
  · rw [List.getElem?_eq_none (by simp; omega), if_neg h]; rfl
theorem kd_of {P : Program} {N t : Nat} {tab : List Nat} {k : IntKind} (H : undTab P N = tab) (h : kdN (nthN tab t) = some k) : P.underlying t = some (.int k) := by
  rw [← H, undTab_get] at h
  split at h
  · cases hu : P.underlying t with
    | none => rw [hu] at h; simp [tyC, kdN] at h
    | some d =>
      rw [hu] at h
      cases d with
      | int i => cases i <;> simp [tyC, kdN] at h <;> subst h <;> rfl
      | _ => simp [tyC, kdN] at h
  · simp [kdN] at h
theorem str_of {P : Program} {N t : Nat} {tab : List Nat} (H : undTab P N = tab) (h : Nat.beq (nthN tab t) 9 = true) : P.underlying t = some .string := by
  have h := Nat.eq_of_beq_eq_true h
  rw [← H, undTab_get] at h
  split at h
  · cases hu : P.underlying t with
    | none => rw [hu] at h; simp [tyC] at h
    | some d =>
      rw [hu] at h
      cases d with
      | int i => cases i <;> simp [tyC] at h
      | string => rfl
      | _ => simp [tyC] at h
  · simp at h
theorem bl_of {P : Program} {N t : Nat} {tab : List Nat} (H : undTab P N = tab) (h : Nat.beq (nthN tab t) 10 = true) : P.underlying t = some .bool := by
  have h := Nat.eq_of_beq_eq_true h
  rw [← H, undTab_get] at h
  split at h
  · cases hu : P.underlying t with
    | none => rw [hu] at h; simp [tyC] at h
    | some d =>
      rw [hu] at h
      cases d with
      | int i => cases i <;> simp [tyC] at h
      | bool => rfl
      | _ => simp [tyC] at h
  · simp at h
theorem equal_bool {P : Program} {t : TypeId} (ht : P.underlying t = some .bool) (a b : Bool) : semv P (Op.equal t (.bool a) (.bool b)) = some (a == b) := by
  have : Op.maxDepth = 9999 + 1 := rfl
  unfold Op.equal
  rw [this, Op.equalIn]
  simp only [semv_bind, underlying, program, semv, Option.bind_some, ht, pure]
theorem bin_beql {P : Program} {t : TypeId} (ht : P.underlying t = some .bool) (x y : Operand) (a b : Bool) : bin2 P .eql t x y (some (.s (.bool a))) (some (.s (.bool b))) = some (.s (.bool (decide (a = b)))) := by
  simp [bin2, toV, eqGuard, binOp, semv_map, equal_bool ht]
  cases a <;> cases b <;> rfl
theorem bin_bneq {P : Program} {t : TypeId} (ht : P.underlying t = some .bool) (x y : Operand) (a b : Bool) : bin2 P .neq t x y (some (.s (.bool a))) (some (.s (.bool b))) = some (.s (.bool (decide (a ≠ b)))) := by
  simp [bin2, toV, eqGuard, binOp, semv_map, equal_bool ht]
  cases a <;> cases b <;> rfl
section
variable {P : Program} {T : Nat → CallF} {n : Nat} {F : Fr} {h : Heap} {K : Fr → Heap → Prop} {l : List AOper} {d : Option Nat} {x y : Operand} {t ty yt : TypeId} {a b : Bool}
theorem WO.beql (hx : evF F x = .s (.bool a)) (hy : evF F y = .s (.bool b)) (ht : P.underlying t = some .bool) (k : WO P T n l (putF d (.s (.bool (decide (a = b)))) F) h K) : WO P T n (⟨d, none, .p (.sc (.binOp .eql t x y yt) ty)⟩ :: l) F h K := WO.bin hx hy (bin_beql ht ..) k
theorem WO.bneq (hx : evF F x = .s (.bool a)) (hy : evF F y = .s (.bool b)) (ht : P.underlying t = some .bool) (k : WO P T n l (putF d (.s (.bool (decide (a ≠ b)))) F) h K) : WO P T n (⟨d, none, .p (.sc (.binOp .neq t x y yt) ty)⟩ :: l) F h K := WO.bin hx hy (bin_bneq ht ..) k
end
/-- An end of a walk: what is left to show. -/
structure FinW (p : Prop) : Prop where
  of ::
  go : p
theorem EQ.fin {F : Fr} {h : Heap} {res : List ARes} {R : AV → Heap → Prop} {l : List AV} (hl : resFs F h res = some l) (H : FinW (R (tupA l) h)) : EQ res R .ret F h := EQ.r hl H.go
theorem LQ.fin {F : Fr} {h : Heap} {R : Fr → Heap → Prop} {Q : Ex → Fr → Heap → Prop} (H : FinW (R F h)) : LQ R Q .normal F h := LQ.nn H.go
/-- What some slots hold. -/
def AG : List (Nat × AV) → Fr → Prop
  | [], _ => True
  | p :: l, F => F p.1 = p.2 ∧ AG l F
theorem AG.eq : ∀ {l : List (Nat × AV)} {F : Fr}, AG l F → UL l F = F
  | [], _, _ => rfl
  | p :: l, F, ⟨h1, h2⟩ => by rw [UL, h2.eq, U_same h1]
section
variable {P : Program} {T : Nat → CallF} {n : Nat} {F : Fr} {h : Heap} {Q : Ex → Fr → Heap → Prop} {b : ACode}
theorem W.loopI {fg : List Nat} {σ : Type} (fs : σ → List (Nat × AV)) (I : σ → Heap → Prop) (μ : σ → Nat) (s0 : σ) (h0 : AG (fs s0) (FG fg F)) (hI : I s0 h)
    (H : ∀ s G h, I s h → W P T n b (UL (fs s) G) h (LQ (fun F' h' => ∃ s', μ s' < μ s ∧ AG (fs s') (FG fg F') ∧ I s' h') Q)) : W P T n (.loop fg b) F h Q := by
  refine W.loop (fun m F h => ∃ s, m = μ s ∧ AG (fs s) F ∧ I s h) (μ s0) ⟨s0, rfl, h0, hI⟩ ?_
  rintro m F h ⟨s, rfl, ha, hI⟩
  have := H s F h hI
  rw [ha.eq] at this
  exact this.mono fun e F' h' q => by
    replace q := q.go
    refine ⟨?_⟩
    cases e with
    | normal => obtain ⟨s', h1, h2, h3⟩ := q; exact ⟨_, h1, s', rfl, h2, h3⟩
    | _ => exact q
theorem W.scopeI {fg : List Nat} {cur : ACode} {σ : Type} (fs : σ → List (Nat × AV)) (lb : σ → Nat) (I : σ → Heap → Prop) (μ : σ → Nat) (m0 : Nat)
    (H0 : W P T n cur F h (GQ (fun i F' h' => ∃ s, μ s < m0 ∧ i = lb s ∧ AG (fs s) (FG fg F') ∧ I s h') Q))
    (H : ∀ s G h, I s h → ∃ r, findA b (lb s) = some r ∧ W P T n r (UL (fs s) G) h (GQ (fun i F' h' => ∃ s', μ s' < μ s ∧ i = lb s' ∧ AG (fs s') (FG fg F') ∧ I s' h') Q)) : W P T n (.scope fg b cur) F h Q := by
  refine W.scope (fun m i F h => ∃ s, m = μ s ∧ i = lb s ∧ AG (fs s) F ∧ I s h) m0 (H0.mono fun e F' h' q => ?_) ?_
  · replace q := q.go
    refine ⟨?_⟩
    cases e with
    | goto i => obtain ⟨s', h1, h2, h3, h4⟩ := q; exact ⟨_, h1, s', rfl, h2, h3, h4⟩
    | _ => exact q
  · rintro m i F h ⟨s, rfl, rfl, ha, hI⟩
    obtain ⟨r, hf, hw⟩ := H s F h hI
    rw [ha.eq] at hw
    refine ⟨r, hf, hw.mono fun e F' h' q => ?_⟩
    replace q := q.go
    refine ⟨?_⟩
    cases e with
    | goto i => obtain ⟨s', h1, h2, h3, h4⟩ := q; exact ⟨_, h1, s', rfl, h2, h3, h4⟩
    | _ => exact q
end
end Go.Proofs.YtdgnddidibpilaaDoor.AS
end
section
set_option autoImplicit false
set_option linter.unusedSimpArgs false
namespace Go.Proofs.YtdgnddidibpilaaDoor.AS
open Go Go.RowKit

/-! ### Regions whose order is open, where what may stand between only makes what is new -/
def isAlOp : AOp → Bool
  | .e (.new _ _ _) | .e (.box _ _ _) | .e (.bslice _ _ _ _ _) | .e (.make _ _ _ _ _ _) => true
  | _ => false
def isAli (al : List AOper) (k : Nat) : Bool := match al[k]? with | some o => isAlOp o.op | none => false
def effs (al : List AOper) : List Nat := (List.range al.length).filter (isEi al)
def okAl (al : List AOper) : List (Nat × Nat × Nat) → Bool
  | [] => true
  | (i, lo, hi) :: l => (match al[i]? with
    | some ⟨some d, _, .r _⟩ => Nat.beq ((effs al).filter fun e => decide (e < i)).length lo && ((effs al).drop lo |>.take (hi - lo)).all (isAli al) &&
        (List.range al.length).all fun j => !decide (i < j) || (match al[j]? with | some o => (match o.dst with | some d' => !Nat.beq d' d | none => true) | none => true)
    | _ => false) && okAl al l
def chkD (al : List AOper) : List (Nat × Nat × Nat) → List Nat
  | [] => []
  | (i, _, _) :: l => (match al[i]? with | some ⟨some d, _, _⟩ => [d] | _ => []) ++ chkD al l
theorem filter_range_get (q : Nat → Bool) : ∀ (n m e : Nat), ((List.range n).filter q)[m]? = some e → q e = true ∧ e < n ∧ cnt q (fun _ => true) e = m
  | 0, m, e, h => by simp at h
  | n + 1, m, e, h => by
    rw [List.range_succ, List.filter_append] at h
    have hl : ((List.range n).filter q).length = cnt q (fun _ => true) n := by
      have := cnt_filter q (fun _ => true) n
      rw [List.filter_eq_self.2 (fun _ _ => rfl)] at this
      exact this
    by_cases hm : m < ((List.range n).filter q).length
    · rw [List.getElem?_append_left hm] at h
      obtain ⟨h1, h2, h3⟩ := filter_range_get q n m e h
      exact ⟨h1, by omega, h3⟩
    · rw [List.getElem?_append_right (by omega)] at h
      cases hq : q n with
      | false => simp [hq] at h
      | true =>
        simp only [List.filter_cons, hq, if_true, List.filter_nil] at h
        cases hk : m - ((List.range n).filter q).length with
        | zero =>
          rw [hk] at h
          simp at h
          subst h
          exact ⟨hq, by omega, by omega⟩
        | succ k => rw [hk] at h; simp at h
section
variable {P : Program} {g : CallF}
theorem rV_app {tm : List AV} {h l : Heap} {q : ROp} {x : AV} (H : rV P tm h q = some x) : rV P tm (h ++ l) q = some x := by
  have key : ∀ b v o n ys, rdn h b v o n = some ys → rdn (h ++ l) b v o n = some ys := by
    intro b v o n ys hr
    unfold rdn at hr ⊢
    cases hb : h[b]? with
    | none => rw [hb] at hr; cases hr
    | some k => rw [List.getElem?_append_left (List.getElem?_eq_some_iff.1 hb).1, hb]; rw [hb] at hr; exact hr
  cases q with
  | load agg n x =>
    simp only [rV] at H ⊢
    split at H
    · rename_i b v o he
      cases hr : rdn h b v o n with
      | none => rw [hr] at H; cases H
      | some ys => rw [key _ _ _ _ _ hr]; rw [hr] at H; exact H
    · exact H
    · cases H
  | b2s x =>
    simp only [rV] at H ⊢
    split at H
    · rename_i b v o m z he
      cases hr : rdn h b v o m with
      | none => rw [hr] at H; cases H
      | some ys => rw [key _ _ _ _ _ hr]; rw [hr] at H; exact H
    · exact H
    · cases H
theorem al_app {op : AOp} (ha : isAlOp op = true) {tm : List AV} {h h' : Heap} {x : AV} (H : opV P g tm h op = some (x, h')) : ∃ l, h' = h ++ l := by
  cases op with
  | e o =>
    cases o with
    | new e sz cells => rw [opV_e, eV_new] at H; cases H; exact ⟨_, rfl⟩
    | box e sz y =>
      simp only [opV_e, eV] at H
      split at H
      · cases H; exact ⟨_, rfl⟩
      · cases H
    | bslice e sz len cells parts =>
      simp only [opV_e, eV] at H
      split at H
      · split at H
        · cases H; exact ⟨_, rfl⟩
        · cases H
      · cases H
    | make e sz bytes zero l c =>
      simp only [opV_e, eV] at H
      split at H
      · split at H
        · cases H; exact ⟨_, rfl⟩
        · cases H
      · cases H
    | _ => simp [isAlOp] at ha
  | _ => simp [isAlOp] at ha
theorem chk_al {al : List AOper} {tm tm' : List AV} {h h' : Heap} {hs : List Heap} {xs : List (List AV × AV × Bool)} (he : runDraw P g al tm h = some (hs, xs, tm', h')) (hok : ∀ o ∈ al, okD tm.length o.dst = true) :
    ∀ (chk : List (Nat × Nat × Nat)), okAl al chk = true → (∀ d ∈ chkD al chk, ∀ x, tm'[d]? = some x → avEq x x = true) → chkDraw P al hs xs chk = true := by
  obtain ⟨tmF, hF, xF, rF, e1, e2, e3, e4, e5, e6, e7⟩ := runDraw_trace al tm tm' h h' hs xs he
  have hlen : ∀ j, j ≤ al.length → (tmF j).length = tm.length := by
    intro j
    induction j with
    | zero => intro _; rw [e1]
    | succ j ih =>
      intro hj
      obtain ⟨_, _, _, _, h5⟩ := e5 j _ (List.getElem?_eq_getElem (by omega))
      rw [h5, ← ih (by omega)]
      cases (al[j]).dst <;> simp [putA]
  intro chk
  induction chk with
  | nil => intro _ _; rfl
  | cons c chk ih =>
    obtain ⟨i, lo, hi⟩ := c
    intro hst hrf
    simp only [okAl, Bool.and_eq_true] at hst
    simp only [chkDraw, Bool.and_eq_true]
    refine ⟨?_, ih hst.2 (fun d hd => hrf d (by simp only [chkD]; exact List.mem_append_right _ hd))⟩
    have h1 := hst.1
    cases ha : al[i]? with
    | none => rw [ha] at h1; simp at h1
    | some o =>
      obtain ⟨d, gd, op⟩ := o
      rw [ha] at h1
      cases d with
      | none => simp at h1
      | some d =>
        cases op with
        | p _ => simp at h1
        | e _ => simp at h1
        | r q =>
          simp only [Bool.and_eq_true] at h1
          obtain ⟨⟨h2, h3⟩, h4⟩ := h1
          have h2 := Nat.eq_of_beq_eq_true h2
          have hin := (List.getElem?_eq_some_iff.1 ha).1
          obtain ⟨f1, f2, f3, f4, f5⟩ := e5 i _ ha
          rw [f1]
          simp only
          cases hr : rF i with
          | false => rfl
          | true =>
            simp only [Bool.not_true, Bool.false_or, List.all_eq_true]
            have hop := f3 hr
            simp only [opV, Option.map_eq_some_iff, Prod.mk.injEq] at hop
            obtain ⟨y, hy1, rfl, hy2⟩ := hop
            -- what was read stands at the end
            have hx : tm'[d]? = some (xF i) := by
              have hdlt : d < tm.length := by
                have := hok _ (List.mem_iff_getElem?.2 ⟨i, ha⟩)
                simpa [okD] using this
              have key : ∀ j, i < j → j ≤ al.length → (tmF j)[d]? = some (xF i) := by
                intro j
                induction j with
                | zero => intro h; omega
                | succ j ihj =>
                  intro h5 h6
                  rcases Nat.lt_or_ge i j with h7 | h7
                  · have h8 := ihj h7 (by omega)
                    obtain ⟨_, _, _, _, h9⟩ := e5 j _ (List.getElem?_eq_getElem (by omega : j < al.length))
                    rw [h9]
                    have h10 := List.all_eq_true.1 h4 j (List.mem_range.2 (by omega))
                    rw [List.getElem?_eq_getElem (by omega : j < al.length)] at h10
                    simp only [decide_eq_true h7, Bool.not_true, Bool.false_or] at h10
                    cases hd' : (al[j]).dst with
                    | none => exact h8
                    | some d' =>
                      rw [hd'] at h10
                      simp only [Bool.not_eq_true'] at h10
                      show ((tmF j).set d' _)[d]? = _
                      rw [List.getElem?_set_ne (fun e => by subst e; simp at h10)]
                      exact h8
                  · obtain rfl : j = i := by omega
                    rw [f5]
                    show ((tmF j).set d _)[d]? = _
                    rw [List.getElem?_set_self (by rw [hlen j (by omega)]; exact hdlt)]
              rw [← e3]; exact key al.length hin (Nat.le_refl _)
            have hrefl := hrf d (by simp only [chkD, ha]; simp) _ hx
            have hrank : cnt (isEi al) (fun _ => true) i = lo := by
              rw [← h2, effs, cnt_filter, cnt_lt _ _ _ (by omega)]
            have hcE : ∀ j, j ≤ al.length → hs[cnt (isEi al) (fun _ => true) j]? = some (hF j) := fun j hj => by rw [← cntE_take al j hj]; exact e6 j hj
            have hlo : hs[lo]? = some (hF i) := by rw [← hrank]; exact hcE i (by omega)
            have grow : ∀ k, lo + k ≤ hi → ∀ hk, hs[lo + k]? = some hk → ∃ l, hk = hF i ++ l := by
              intro k
              induction k with
              | zero =>
                intro _ hk h5
                rw [Nat.add_zero, hlo] at h5
                cases h5
                exact ⟨[], by simp⟩
              | succ k ihk =>
                intro h5 hk h6
                have hlt : lo + k + 1 < hs.length := by
                  have := (List.getElem?_eq_some_iff.1 h6).1; omega
                have hel : (effs al).length = cnt (isEi al) (fun _ => true) al.length := by
                  have := cnt_filter (isEi al) (fun _ => true) al.length
                  rw [List.filter_eq_self.2 (fun _ _ => rfl)] at this
                  exact this
                have hsl : hs.length = (effs al).length + 1 := by
                  rw [e7, hel]
                  have := cntE_take al al.length (Nat.le_refl _)
                  rw [List.take_length] at this
                  rw [this]
                have hm : lo + k < (effs al).length := by omega
                obtain ⟨g1, g2, g3⟩ := filter_range_get (isEi al) al.length (lo + k) _ (List.getElem?_eq_getElem hm)
                have gal : isAli al (effs al)[lo + k] = true := by
                  refine List.all_eq_true.1 h3 _ (List.mem_iff_getElem?.2 ⟨k, ?_⟩)
                  rw [List.getElem?_take_of_lt (by omega), List.getElem?_drop, List.getElem?_eq_getElem hm]
                generalize (effs al)[lo + k] = e at g1 g2 g3 gal
                obtain ⟨l, hl⟩ := ihk (by omega) (hF e) (by rw [← g3]; exact hcE e (by omega))
                have h7 : hs[lo + k + 1]? = some (hF (e + 1)) := by
                  have := hcE (e + 1) (by omega)
                  simp only [cnt, g3, g1, Bool.and_self, Bool.toNat_true] at this
                  exact this
                rw [← Nat.add_assoc, h7] at h6
                cases h6
                obtain ⟨o, ho, hal⟩ : ∃ o, al[e]? = some o ∧ isAlOp o.op = true := by
                  unfold isAli at gal
                  split at gal
                  · rename_i o ho; exact ⟨o, ho, gal⟩
                  · cases gal
                obtain ⟨_, _, k3, k4, _⟩ := e5 e o ho
                cases hre : rF e with
                | true =>
                  obtain ⟨l', hl'⟩ := al_app hal (k3 hre)
                  exact ⟨l ++ l', by rw [hl', hl, List.append_assoc]⟩
                | false => exact ⟨l, by rw [(k4 hre).2, hl]⟩
            intro hh hmem
            obtain ⟨m, hm⟩ := List.mem_iff_getElem?.1 hmem
            have hmlt : m < hi + 1 - lo := by
              have := (List.getElem?_eq_some_iff.1 hm).1
              rw [List.length_take] at this
              omega
            rw [List.getElem?_take_of_lt hmlt, List.getElem?_drop] at hm
            obtain ⟨l, rfl⟩ := grow m (by omega) hh hm
            unfold okAt
            rw [rV_app hy1]
            exact hrefl
end
section
variable {P : Program} {T : Nat → CallF} {n : Nat} {F : Fr} {h : Heap} {Q : Ex → Fr → Heap → Prop} {ops : List AOper} {b : ACode}
def allR : List Nat → Fr → Prop
  | [], _ => True
  | d :: l, F => avEq (F d) (F d) = true ∧ allR l F
theorem allR_get : ∀ {l : List Nat} {F : Fr}, allR l F → ∀ d ∈ l, avEq (F d) (F d) = true
  | d :: l, F, h, d', hd => by
    rcases List.mem_cons.1 hd with rfl | hd
    · exact h.1
    · exact allR_get h.2 d' hd
theorem runDraw_of {P : Program} {g : CallF} : ∀ (ops : List AOper) (tm : List AV) (h : Heap) (r : List AV × Heap), evOps P g ops tm h = some r → ∃ hs xs, runDraw P g ops tm h = some (hs, xs, r) := by
  intro ops tm h r H
  have := runDraw_evOps (P := P) (g := g) ops tm h
  rw [H] at this
  cases hr : runDraw P g ops tm h with
  | none => rw [hr] at this; cases this
  | some x =>
    obtain ⟨hs, xs, r1, r2⟩ := x
    rw [hr] at this
    simp only [Option.map_some, Option.some.injEq] at this
    exact ⟨hs, xs, by rw [← this]⟩
theorem W.drawA {chk : List (Nat × Nat × Nat)} (hst : okAl ops chk = true) (H : WO P T n ops F h (fun F' h' => allR (chkD ops chk) F' ∧ Q .normal F' h')) : W P T n (.draw ops chk) F h Q := .of fun ho => by
  obtain ⟨F', h', ⟨K, r⟩, hR, q⟩ := H.go ho
  refine ⟨_, F', h', ⟨K + 1, fun k j hk hj => ?_⟩, q⟩
  obtain ⟨k, rfl⟩ : ∃ k', k = k' + 1 := ⟨k - 1, by omega⟩
  obtain ⟨hs, xs, hr⟩ := runDraw_of ops _ _ _ (r j (by omega))
  have hc : chkDraw P ops hs xs chk = true := by
    refine chk_al hr (fun o hm => ?_) chk hst (fun d hd x hx => ?_)
    · have : okAO n o = true := List.all_eq_true.1 ho o hm
      simp only [okAO, Bool.and_eq_true] at this
      rw [fr_len]; exact this.1.2
    · have hlt : d < n := by
        have := (List.getElem?_eq_some_iff.1 hx).1
        rwa [fr_len] at this
      rw [fr_get hlt] at hx
      cases hx
      exact allR_get hR d hd
  simp only [evC, hr, hc, if_true]
theorem W.sdrawA {chk : List (Nat × Nat × Nat)} (hst : okAl ops chk = true) (H : WO P T n ops F h (fun F' h' => allR (chkD ops chk) F' ∧ W P T n b F' h' Q)) : W P T n (.seq (.draw ops chk) b) F h Q := W.seq (W.drawA hst (H.mono fun _ _ h => ⟨h.1, ⟨h.2⟩⟩))
theorem Row.avEq {α : Type} {E : Enc α} {h : Heap} {a : AV} {L : List α} (r : Row E h a L) : avEq a a = true := by
  rcases r with ⟨rfl, _⟩ | ⟨b, v, o, k, rfl, _⟩
  · rfl
  · simp [AS.avEq]
end
end Go.Proofs.YtdgnddidibpilaaDoor.AS
end
section
set_option autoImplicit false
set_option linter.unusedSimpArgs false
namespace Go.Proofs.YtdgnddidibpilaaDoor.AS
open Go Go.RowKit

/-! ### Functions as values, and loops over functions -/
section
variable {P : Program} {T : Nat → CallF} {n : Nat} {F : Fr} {h : Heap} {K : Fr → Heap → Prop} {l : List AOper} {d : Option Nat} {x : Operand}
theorem WO.mkfn {f : Fn} {xs ys : List Operand} {us ws : List AV} (h1 : evFs F xs = us) (h2 : evFs F ys = ws) (k : WO P T n l (putF d (.fn f us ws) F) h K) : WO P T n (⟨d, none, .p (.mkfn f xs ys)⟩ :: l) F h K :=
  WO.pv (fun ho => by
    simp only [opds, opdsP, List.all_append, Bool.and_eq_true] at ho
    simp only [pV, evOs_fr ho.1, evOs_fr ho.2, h1, h2]) k
theorem WO.callF {kf : FuncId} {xs ys vs : List AV} {args : List Operand} {R : AV → Heap → Prop} (hx : evF F x = .fn (.func kf) xs ys) (hlt : Nat.blt kf YB = true) (hv : evFs F args = vs) (hf : FR P T kf (xs ++ vs ++ ys) h R) (k : ∀ a H, R a H → WO P T n l (putF d a F) H K) : WO P T n (⟨d, none, .e (.callv x args)⟩ :: l) F h K := by
  obtain ⟨a, H, ⟨J, r⟩, q⟩ := hf
  refine WO.op (fun ho => ⟨J, fun j hj => ?_⟩) (k a H q)
  simp only [opds, opdsE, List.all_cons, Bool.and_eq_true] at ho
  simp only [opV_e, eV, evO_fr ho.1, evOs_fr ho.2, hv, hx]
  rw [if_pos (show kf < YB from Nat.le_of_ble_eq_true hlt)]
  exact r j hj
theorem WO.callC {kf : FuncId} {xs ys : Array Value} {vs : List AV} {args : List Operand} {R : AV → Heap → Prop} (hx : evF F x = .s (.func (.func kf) xs ys)) (hlt : Nat.blt kf YB = true) (hv : evFs F args = vs) (hf : FR P T kf (xs.toList.map .s ++ vs ++ ys.toList.map .s) h R) (k : ∀ a H, R a H → WO P T n l (putF d a F) H K) : WO P T n (⟨d, none, .e (.callv x args)⟩ :: l) F h K := by
  obtain ⟨a, H, ⟨J, r⟩, q⟩ := hf
  refine WO.op (fun ho => ⟨J, fun j hj => ?_⟩) (k a H q)
  simp only [opds, opdsE, List.all_cons, Bool.and_eq_true] at ho
  simp only [opV_e, eV, evO_fr ho.1, evOs_fr ho.2, hv, hx]
  rw [if_pos (show kf < YB from Nat.le_of_ble_eq_true hlt)]
  exact r j hj
theorem WO.callY {b : Nat} {vs : List AV} {args : List Operand} {R : AV → Heap → Prop} (hx : evF F x = .yl b) (hv : evFs F args = vs) (hf : FR P T (YB + b) vs h R) (k : ∀ a H, R a H → WO P T n l (putF d a F) H K) : WO P T n (⟨d, none, .e (.callv x args)⟩ :: l) F h K := by
  obtain ⟨a, H, ⟨J, r⟩, q⟩ := hf
  refine WO.op (fun ho => ⟨J, fun j hj => ?_⟩) (k a H q)
  simp only [opds, opdsE, List.all_cons, Bool.and_eq_true] at ho
  simp only [opV_e, eV, evO_fr ho.1, evOs_fr ho.2, hv, hx]
  exact r j hj
end
section
variable {P : Program} {T : Nat → CallF} {n : Nat} {F : Fr} {h : Heap} {K : Fr → Heap → Prop} {l : List AOper} {d : Option Nat} {x y z : Operand}
theorem WO.capN (hx : evF F x = .s (.slice none 0 0)) (k : WO P T n l (putF d (.s (.int .i64 0)) F) h K) : WO P T n (⟨d, none, .p (.capN x)⟩ :: l) F h K :=
  WO.pv (fun ho => by
    simp only [opds, opdsP, List.all_cons, List.all_nil, Bool.and_true] at ho
    simp only [pV, evO_fr ho, hx]) k
/-- Nothing's piece. -/
theorem WO.slN {sz : Nat} {j : IntKind} (hx : evF F x = .s (.slice none 0 0)) (hy : evF F y = .s (.int j 0)) (k : WO P T n l (putF d (.s (.slice none 0 0)) F) h K) : WO P T n (⟨d, none, .p (.slice sz x none (some y))⟩ :: l) F h K :=
  WO.pv (fun ho => by
    simp [opds, opdsP] at ho
    simp only [pV, loI, evO_fr ho.1, evO_fr ho.2, hx, hy, Option.bind_some, asI]; rfl) k
/-- One's own row's beginning. -/
theorem WO.slO {α : Type} {E : Enc α} {e : TypeId} {L : List α} {sz : Nat} {j : IntKind} {i : Int} {hh : Heap} (r : Own E e hh (evF F x) L) (hy : evF F y = .s (.int j i)) (hs : E.sz = sz) (h0 : 0 ≤ i) (h1 : i ≤ L.length)
    (k : ∀ a', Own E e hh a' (L.take i.toNat) → bo a' = bo (evF F x) → WO P T n l (putF d a' F) h K) : WO P T n (⟨d, none, .p (.slice sz x none (some y))⟩ :: l) F h K := by
  subst hs
  rcases r with ⟨r1, rfl⟩ | ⟨b, v, o, k', r1, r2, r3, r4, r5, r6⟩
  · obtain rfl : i = 0 := by simp at h1; omega
    have k1 := k (.s (.slice none 0 0)) (.inl ⟨rfl, rfl⟩) (by rw [r1])
    exact WO.slN r1 hy k1
  · have hle : i.toNat * E.sz ≤ L.length * E.sz := Nat.mul_le_mul_right _ (by omega)
    have k1 := k (.sl b v o i.toNat E.sz) (.inr ⟨b, v, o, k', by simp; omega, r2, r3, by simp only [List.length_take]; rw [Nat.min_eq_left (by omega)]; omega, by
      simp only [List.length_take]; rw [Nat.min_eq_left (by omega), ← E.flat_take, ← r5, List.take_take, Nat.min_eq_left hle], r6⟩) (by rw [r1]; rfl)
    refine WO.pv (fun ho => ?_) k1
    simp [opds, opdsP] at ho
    simp only [pV, loI, evO_fr ho.1, evO_fr ho.2, hy, r1, Option.bind_some, asI]
    rw [if_pos (by refine ⟨?_, by omega, by omega, by omega⟩; first | rfl | trivial)]
    simp
end
section
variable {P : Program} {T0 : FuncId → Option AFunc} {n : Nat} {F : Fr} {h : Heap}
def itG (P : Program) (T0 : FuncId → Option AFunc) (n : Nat) (ps : List Nat) (asg body : ACode) (F : Fr) (b : Nat) : Nat → CallF := fun j =>
  withY (noY (evFn P T0 j)) b (rndH ps (fr n F) (evC P (noY (evFn P T0 j)) j asg) (evC P (noY (evFn P T0 j)) j body))
theorem itG_mono {ps : List Nat} {asg body : ACode} {b j j' k : Nat} (hj : j ≤ j') (hk : j ≤ k) :
    CallLe (itG P T0 n ps asg body F b j) (withY (noY (evFn P T0 j')) b (rndH ps (fr n F) (evC P (noY (evFn P T0 j')) k asg) (evC P (noY (evFn P T0 j')) k body))) := by
  have hg := noY_le (evFn_mono (P := P) (T := T0) j j' hj)
  exact withY_le hg (fun l h r H => rndH_le (fun t h r H => evC_mono hg j k asg t h r hk H) (fun t h r H => evC_mono hg j k body t h r hk H) l h r H) b
theorem PS_fr : ∀ (ps : List Nat) (vs : List AV) (F : Fr), ps.all (fun p => decide (p < n)) = true → putPs ps vs (fr n F) = fr n (PS ps vs F)
  | [], _, F, _ => by simp [putPs, PS]
  | p :: ps, [], F, _ => by simp [putPs, PS]
  | p :: ps, v :: vs, F, h => by
    simp only [List.all_cons, Bool.and_eq_true, decide_eq_true_eq] at h
    simp only [putPs, PS, fr_set p v h.1]
    exact PS_fr ps vs _ h.2
theorem FR.it (hm : P.follows .mixedOrders = true) (hT : TabOK P T0) {ps : List Nat} {asg body : ACode} {b : Nat} {f : FuncId} {vs : List AV} {R : AV → Heap → Prop} (H : FR P (evFn P T0) f vs h R) : FR P (itG P T0 n ps asg body F b) f vs h R := by
  obtain ⟨a, H', ⟨K, r⟩, q⟩ := H
  refine ⟨a, H', ⟨K, fun j hj => ?_⟩, q⟩
  have h1 := noY_of hm hT j _ _ _ _ (r j hj)
  unfold itG withY
  have hlt : f < YB := by
    unfold noY at h1
    split at h1
    · assumption
    · cases h1
  rw [if_neg (by intro e; rw [e] at hlt; exact absurd hlt (Nat.not_lt.2 (Nat.le_add_right _ _)))]
  exact h1
theorem FR.yield (hm : P.follows .mixedOrders = true) (hT : TabOK P T0) {f : Operand} {ps : List Nat} {asg body : ACode} {b : Nat} {vs : List AV} {R : AV → Heap → Prop} (ho : okC n (.rangeF f ps asg body) = true) (hl : vs.length = ps.length)
    (H : W P (evFn P T0) n asg (PS ps vs F) h (fun e F1 h1 => e = .normal ∧ W P (evFn P T0) n body F1 h1 (fun e F2 h2 => e = .normal ∧ R (.s (.bool true)) h2))) : FR P (itG P T0 n ps asg body F b) (YB + b) vs h R := by
  simp only [okC, Bool.and_eq_true] at ho
  obtain ⟨e, F1, h1, ⟨K1, r1⟩, rfl, W2⟩ := H.go ho.1.2
  obtain ⟨e, F2, h2, ⟨K2, r2⟩, rfl, q⟩ := W2.go ho.2
  refine ⟨_, h2, ⟨K1 + K2, fun j hj => ?_⟩, q⟩
  unfold itG withY rndH
  rw [if_pos rfl, if_pos hl, PS_fr _ _ _ ho.1.1.2, evC_mono_g j _ _ (noY_of hm hT j) j _ _ _ _ (Nat.le_refl j) (r1 j j (by omega) (by omega))]
  simp only
  rw [evC_mono_g j _ _ (noY_of hm hT j) j _ _ _ _ (Nat.le_refl j) (r2 j j (by omega) (by omega))]
theorem W.rangeF {f : Operand} {ps : List Nat} {asg body : ACode} {Q : Ex → Fr → Heap → Prop} {gf : FuncId} {cap : List AV} {nt : Nat} {itb : ACode} (hf : evF F f = .fn (.func gf) [] cap) (hp : prepFn P gf = some (.code nt [] itb)) (hi : (okC nt itb && Nat.ble (cap.length + 1) nt) = true)
    (H : okC n (.rangeF f ps asg body) = true → W P (itG P T0 n ps asg body F h.length) nt itb (argF (.yl h.length :: cap)) (h ++ [loopBlk]) (fun e _ h' => (e = .ret ∨ e = .normal) ∧ Q .normal F h')) : W P (evFn P T0) n (.rangeF f ps asg body) F h Q := .of fun ho => by
  simp only [Bool.and_eq_true] at hi
  obtain ⟨e, F', h', ⟨K, r⟩, he, q⟩ := (H ho).go hi.1
  simp only [okC, Bool.and_eq_true] at ho
  refine ⟨_, F, h', ⟨K + 1, fun k j hk hj => ?_⟩, q⟩
  obtain ⟨k, rfl⟩ : ∃ k', k = k' + 1 := ⟨k - 1, by omega⟩
  have hfr := fr_args (n := nt) (.yl h.length :: cap) (Nat.le_of_ble_eq_true hi.2)
  have h1 := r (min k j) (min k j) (by omega) (by omega)
  have h2 := evC_mono_g (P := P) (min k j) _ _ (itG_mono (P := P) (T0 := T0) (n := n) (F := F) (ps := ps) (asg := asg) (body := body) (b := h.length) (j := min k j) (j' := j) (k := k) (by omega) (by omega)) k _ _ _ _ (by omega) h1
  rw [← hfr] at h2
  simp only [evC, evO_fr ho.1.1.1, hf, hp]
  have h3 : (.yl h.length :: cap ++ List.replicate (nt - (AV.yl h.length :: cap).length) (.s undef) : List AV) = AV.yl h.length :: (cap ++ List.replicate (nt - (cap.length + 1)) (.s undef)) := by simp
  rw [h3] at h2
  simp only [List.cons_append]
  rw [h2]
  rcases he with rfl | rfl <;> rfl
end
end Go.Proofs.YtdgnddidibpilaaDoor.AS
end
