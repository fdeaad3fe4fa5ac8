/-
  WORDS FOR MEMORY, MORE: rows of elements of many cells (sectors of 64 bytes, writes of 65 cells): their cells, loads and stores of whole elements, the frame.
-/
import Derived.Test.YtbfcgiodpcchnaaMem
import Derived.Deep.MidRow
namespace Go.Proofs.Ytbfcgiodpcchnaa
open Go.RowKit
set_option linter.unusedVariables false

/-! ## many cells stored -/
section
variable {w w1 : World} {g : Nat} {t : TypeId} {cs : Array Value} {fp : List Nat}
theorem Blk.setCells (vs : List Value) : ∀ (o : Nat) (w : World) (cs : Array Value), Blk w g t cs → o + vs.length ≤ cs.size →
    Blk (w.setCells g o vs) g t (cs.toList.take o ++ vs ++ cs.toList.drop (o + vs.length)).toArray := by
  induction vs with
  | nil =>
    intro o w cs h hle
    simp only [World.setCells, List.length_nil, Nat.add_zero, List.append_nil, List.take_append_drop]
    exact h
  | cons v r ih =>
    intro o w cs h hle
    simp only [List.length_cons] at hle
    have h1 := ih (o + 1) _ _ (h.set_ o v) (by simp; omega)
    rw [World.setCells]
    have e : (cs.setIfInBounds o v).toList.take (o + 1) ++ r ++ (cs.setIfInBounds o v).toList.drop (o + 1 + r.length) = cs.toList.take o ++ (v :: r) ++ cs.toList.drop (o + (v :: r).length) := by
      have hl : o < cs.toList.length := by simp; omega
      rw [Array.toList_setIfInBounds, List.take_set, List.take_add_one, List.getElem?_eq_getElem hl, List.drop_set_of_lt (by omega)]
      have e2 : (cs.toList.take o ++ [cs.toList[o]]).set o v = cs.toList.take o ++ [v] := by
        rw [List.set_append_right _ _ (by simp; omega)]
        simp [show o - min o cs.size = 0 by omega]
      simp only [Option.toList_some] at *
      rw [e2]
      simp [Nat.add_assoc, Nat.add_comm 1]
    rw [← e]
    exact h1
theorem setCells_other (b : Nat) (k : Nat) (hk : k ≠ b) : ∀ (vs : List Value) (o : Nat) (w : World), (w.setCells b o vs).heap[k]? = w.heap[k]?
  | [], _, _ => rfl
  | v :: r, o, w => by rw [World.setCells, setCells_other b k hk r]; exact Below.heap_setCell w _ v k hk
theorem setCells_size (b : Nat) : ∀ (vs : List Value) (o : Nat) (w : World), (w.setCells b o vs).heap.size = w.heap.size
  | [], _, _ => rfl
  | v :: r, o, w => by rw [World.setCells, setCells_size b r]; simp [World.setCell]
theorem setCells_rest (b : Nat) : ∀ (vs : List Value) (o : Nat) (w : World), (w.setCells b o vs).os = w.os ∧ (w.setCells b o vs).tape = w.tape ∧ (w.setCells b o vs).output = w.output
  | [], _, _ => ⟨rfl, rfl, rfl⟩
  | v :: r, o, w => by rw [World.setCells]; exact setCells_rest b r _ _
theorem Keeps.setCells (h : Keeps w w1 fp) {b : Nat} (hb : b ∈ fp ∨ w.heap.size ≤ b) (o : Nat) (vs : List Value) : Keeps w (w1.setCells b o vs) fp := by
  obtain ⟨e1, e2, e3⟩ := setCells_rest b vs o w1
  exact ⟨e1.trans h.os, e2.trans h.tape, e3.trans h.output, by rw [setCells_size]; exact h.size, fun k hk hn => (setCells_other b k (by
    rintro rfl
    rcases hb with hb | hb
    · exact hn hb
    · omega) vs o w1).trans (h.block k hk hn)⟩
theorem Blk.farCells (h : Blk w g t cs) {b : Nat} (hb : g ≠ b) (o : Nat) (vs : List Value) : Blk (w.setCells b o vs) g t cs := h.to (setCells_other b g hb vs o w)
theorem Own.farCells {e : TypeId} {size n : Nat} {v : Value} {xs : List Value} (h : Own w e size v n xs fp) {b : Nat} (hb : b ∉ fp) (o : Nat) (vs : List Value) : Own (w.setCells b o vs) e size v n xs fp :=
  h.to fun k hk => setCells_other b k (by rintro rfl; exact hb hk) vs o w
theorem Blk.range (h : Blk w g t cs) (o : Nat) (xs : List Value) (hx : ∀ j u, xs[j]? = some u → cs[o + j]? = some u) : w.rangeAt g o xs := fun j u hu => by rw [h.cell]; exact hx j u hu
theorem Blk.there_ (h : Blk w g t cs) (o n : Nat) (hn : o + n ≤ cs.size) : w.there g o n := fun j hj => ⟨by rw [h.cell, Array.getElem?_eq_getElem (by omega)]; rfl, h.frozen _⟩
theorem Blk.whole (h : Blk w g t cs) : w.rangeAt g 0 cs.toList := h.range 0 _ fun j u hu => by simpa using hu
end

/-! ## rows of elements of many cells -/
section
variable {α : Type} (f : α → List Value) (size : Nat) (hf : ∀ x, (f x).length = size)
include hf
theorem flat_length (l : List α) : (l.flatMap f).length = l.length * size := by
  induction l with
  | nil => simp
  | cons x l ih => simp only [List.flatMap_cons, List.length_append, hf, ih, List.length_cons]; rw [Nat.add_mul]; omega
theorem flat_get {l : List α} {i : Nat} {x : α} (h : l[i]? = some x) : ∀ j u, (f x)[j]? = some u → (l.flatMap f)[i * size + j]? = some u := by
  induction l generalizing i with
  | nil => simp at h
  | cons y l ih =>
    intro j u hu
    cases i with
    | zero =>
      simp at h
      subst h
      have hj := (List.getElem?_eq_some_iff.1 hu).1
      rw [List.flatMap_cons, Nat.zero_mul, Nat.zero_add, List.getElem?_append_left hj]
      exact hu
    | succ i =>
      have h1 := ih (by simpa using h) j u hu
      rw [List.flatMap_cons, List.getElem?_append_right (by rw [hf, Nat.add_mul]; omega), hf]
      rw [show (i + 1) * size + j - size = i * size + j by rw [Nat.add_mul]; omega]
      exact h1
theorem flat_set (l : List α) {i : Nat} (hi : i < l.length) (x : α) : (l.set i x).flatMap f = (l.flatMap f).take (i * size) ++ f x ++ (l.flatMap f).drop (i * size + size) := by
  induction l generalizing i with
  | nil => simp at hi
  | cons y l ih =>
    cases i with
    | zero =>
      simp only [List.set_cons_zero, List.flatMap_cons, Nat.zero_mul, List.take_zero, List.nil_append, Nat.zero_add]
      rw [List.drop_append_of_le_length (by rw [hf]; omega), List.drop_of_length_le (by rw [hf]; omega), List.nil_append]
    | succ i =>
      have hi' : i < l.length := by simpa using hi
      simp only [List.set_cons_succ, List.flatMap_cons]
      rw [ih hi']
      have e1 : (f y ++ l.flatMap f).take ((i + 1) * size) = f y ++ (l.flatMap f).take (i * size) := by
        rw [List.take_append, List.take_of_length_le (by rw [hf, Nat.add_mul]; omega), hf, show (i + 1) * size - size = i * size by rw [Nat.add_mul]; omega]
      have e2 : (f y ++ l.flatMap f).drop ((i + 1) * size + size) = (l.flatMap f).drop (i * size + size) := by
        rw [List.drop_append, List.drop_of_length_le (by rw [hf, Nat.add_mul]; omega), hf, List.nil_append, show (i + 1) * size + size - size = i * size + size by rw [Nat.add_mul]; omega]
      rw [e1, e2]
      simp

theorem Own.range {w : World} {e : TypeId} {v : Value} {l : List α} {fp : List Nat} (h : Own w e size v l.length (l.flatMap f) fp) {i : Nat} {x : α} (hx : l[i]? = some x) :
    ∃ g cap, v = .slice (some ⟨g, 0, none⟩) l.length cap ∧ fp = [g] ∧ l.length ≤ cap ∧ w.rangeAt g (i * size) (f x) ∧ w.there g (i * size) size := by
  have hi : i < l.length := (List.getElem?_eq_some_iff.1 hx).1
  rcases h.2 with ⟨A, rfl, h0, -⟩ | ⟨g, cap, cur, rfl, hp, rfl, hb, hn, hm, hc, ht⟩
  · omega
  · have hle : i * size + size ≤ l.length * size := by rw [← Nat.succ_mul]; exact Nat.mul_le_mul_right _ hi
    have hle2 : l.length * size ≤ cap * size := Nat.mul_le_mul_right _ hn
    refine ⟨g, cap, rfl, rfl, hn, hb.range _ _ fun j u hu => ?_, hb.there_ _ _ (by omega)⟩
    have h1 := flat_get f size hf hx j u hu
    rw [← ht, List.getElem?_take] at h1
    split at h1
    · simpa using h1
    · cases h1
theorem Own.setRange {w : World} {e : TypeId} {v : Value} {l : List α} {fp : List Nat} (h : Own w e size v l.length (l.flatMap f) fp) {i : Nat} (hi : i < l.length) (y : α) {g : Nat} (hg : fp = [g]) :
    Own (w.setCells g (i * size) (f y)) e size v (l.set i y).length ((l.set i y).flatMap f) fp := by
  subst hg
  have hle : i * size + size ≤ l.length * size := by rw [← Nat.succ_mul]; exact Nat.mul_le_mul_right _ hi
  refine ⟨flat_length f size hf _, ?_⟩
  rcases h.2 with ⟨A, rfl, h0, h1⟩ | ⟨g', cap, cur, rfl, hp, h1, hb, hn, hm, hc, ht⟩
  · simp at h1
  · obtain rfl : g = g' := by simpa using h1
    have hle2 : l.length * size ≤ cap * size := Nat.mul_le_mul_right _ hn
    refine .inr ⟨g, cap, _, by rw [List.length_set], hp, rfl, hb.setCells (f y) (i * size) w cur (by rw [hf]; omega), by rw [List.length_set]; exact hn, hm, ?_, ?_⟩
    · simp only [List.size_toArray, List.length_append, List.length_take, List.length_drop, Array.length_toList, hf]; omega
    · rw [List.length_set, flat_set f size hf l hi y, ← ht]
      simp only [hf]
      rw [List.take_append, List.take_append]
      have e1 : ((cur.toList.take (i * size))).take (l.length * size) = (cur.toList.take (l.length * size)).take (i * size) := by rw [List.take_take, List.take_take, Nat.min_comm]
      have e2 : (f y).take (l.length * size - (cur.toList.take (i * size)).length) = f y := List.take_of_length_le (by rw [hf, List.length_take, Array.length_toList (xs := cur)]; omega)
      have e3 : (cur.toList.drop (i * size + size)).take (l.length * size - (cur.toList.take (i * size) ++ f y).length) = (cur.toList.take (l.length * size)).drop (i * size + size) := by
        rw [List.drop_take, List.length_append, hf, List.length_take, Array.length_toList (xs := cur)]
        congr 1
        omega
      rw [e1, e2, e3]
end

/-! ## sectors -/
/-- A sector: 64 bytes. -/
structure Sec where
  bs : List Int
  len : bs.length = 64
  deriving DecidableEq
def Sec.cells (s : Sec) : List Value := s.bs.map (Value.int .u8)
theorem Sec.cells_length (s : Sec) : s.cells.length = 64 := by simp [Sec.cells, s.len]
theorem Sec.one (s : Sec) : ∀ v ∈ s.cells, v.oneCell' = true := by
  intro v hv
  obtain ⟨z, _, rfl⟩ := List.mem_map.1 hv
  rfl
def Sec.zero : Sec := ⟨List.replicate 64 0, by simp⟩
instance : Inhabited Sec := ⟨Sec.zero⟩
/-- A write: where, and what. -/
structure Wr where
  i : Nat
  s : Sec
def Wr.cells (x : Wr) : List Value := .int .i64 x.i :: x.s.cells
theorem Wr.cells_length (x : Wr) : x.cells.length = 65 := by simp [Wr.cells, Sec.cells_length]
theorem Wr.one (x : Wr) : ∀ v ∈ x.cells, v.oneCell' = true := by
  intro v hv
  rcases List.mem_cons.1 hv with rfl | hv
  · rfl
  · exact x.s.one v hv
theorem flat_one {α : Type} (f : α → List Value) (h : ∀ x, ∀ v ∈ f x, v.oneCell' = true) (l : List α) : ∀ v ∈ l.flatMap f, v.oneCell' = true := by
  intro v hv
  obtain ⟨x, _, hx⟩ := List.mem_flatMap.1 hv
  exact h x v hx

end Go.Proofs.Ytbfcgiodpcchnaa
