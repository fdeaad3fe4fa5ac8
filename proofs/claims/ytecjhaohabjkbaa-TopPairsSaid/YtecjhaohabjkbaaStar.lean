/-
  WORDS FOR MEMORY, THIRD: pieces of memory that a call made itself, side by side: each read by its own word, no two sharing a block.
-/
import Derived.Test.YtecjhaohabjkbaaMem
namespace Go.Proofs.Ytecjhaohabjkbaa
open Go.RowKit
set_option linter.unusedVariables false

/-- A word that reads a piece of memory: it stands on the blocks it names. -/
structure Rep where
  at_ : World → List Nat → Prop
  lt : ∀ {w fp}, at_ w fp → ∀ k ∈ fp, k < w.heap.size
  keeps : ∀ {w w' fp fp'}, at_ w fp → Keeps w w' fp' → (∀ k ∈ fp, k ∉ fp') → at_ w' fp

/-- a slice that owns its row. -/
def Rep.own (e : TypeId) (size : Nat) (v : Value) (n : Nat) (xs : List Value) : Rep := ⟨fun w fp => Own w e size v n xs fp, Own.lt, Own.keeps⟩
/-- a block that is known whole. -/
def Rep.blk (g : Nat) (t : TypeId) (cs : Array Value) : Rep := ⟨fun w fp => Blk w g t cs ∧ fp = [g], fun h k hk => by obtain ⟨h, rfl⟩ := h; simp at hk; subst hk; exact h.lt,
  fun h hk hd => by obtain ⟨h, rfl⟩ := h; exact ⟨h.keeps hk (hd _ (by simp)), rfl⟩⟩

/-- The pieces Rs stand side by side in new memory; all older memory is as it was. -/
def Star (w0 w : World) (Rs : List Rep) : Prop :=
  ∃ F : Nat → List Nat, (∀ (i : Nat) (R : Rep), Rs[i]? = some R → R.at_ w (F i)) ∧ (∀ i j, i < Rs.length → j < Rs.length → i ≠ j → ∀ k ∈ F i, k ∉ F j) ∧ (∀ i, i < Rs.length → ∀ k ∈ F i, w0.heap.size ≤ k) ∧ Keeps w0 w []

section
variable {w0 w w' : World} {Rs : List Rep} {R R' : Rep} {fp : List Nat}
theorem Star.nil (w0 : World) : Star w0 w0 [] := ⟨fun _ => [], by simp, by simp, by simp, Keeps.refl _ _⟩
theorem Star.old (h : Star w0 w Rs) : Keeps w0 w [] := by obtain ⟨F, -, -, -, h⟩ := h; exact h
theorem Star.quiet (h : Star w0 w Rs) (hk : Keeps w w' []) : Star w0 w' Rs := by
  obtain ⟨F, h1, h2, h3, h4⟩ := h
  exact ⟨F, fun i R hi => R.keeps (h1 i R hi) hk (by simp), h2, h3, h4.trans hk (by simp)⟩
theorem Star.add (h : Star w0 w Rs) (R : Rep) (hR : R.at_ w' fp) (hk : Keeps w w' []) (hn : ∀ k ∈ fp, w.heap.size ≤ k) : Star w0 w' (R :: Rs) := by
  obtain ⟨F, h1, h2, h3, h4⟩ := h
  have hlt : ∀ i, i < Rs.length → ∀ k ∈ F i, k < w.heap.size := fun i hi => (Rs[i]).lt (h1 i _ (List.getElem?_eq_getElem hi))
  refine ⟨fun i => match i with | 0 => fp | i + 1 => F i, ?_, ?_, ?_, h4.trans hk (by simp)⟩
  · intro i S hi
    cases i with
    | zero => simp at hi; subst hi; exact hR
    | succ i => exact S.keeps (h1 i S (by simpa using hi)) hk (by simp)
  · intro i j hi hj hij k hk1 hk2
    cases i with
    | zero =>
      cases j with
      | zero => exact hij rfl
      | succ j => have := hlt j (by simpa using hj) k hk2; have := hn k hk1; omega
    | succ i =>
      cases j with
      | zero => have := hlt i (by simpa using hi) k hk1; have := hn k hk2; omega
      | succ j => exact h2 i j (by simpa using hi) (by simpa using hj) (by omega) k hk1 hk2
  · intro i hi k hk1
    cases i with
    | zero => exact Nat.le_trans h4.size (hn k hk1)
    | succ i => exact h3 i (by simpa using hi) k hk1
/-- one piece is taken, turned, and laid back. -/
theorem Star.step (h : Star w0 w Rs) (i : Nat) (hi : Rs[i]? = some R) :
    ∃ fp, R.at_ w fp ∧ (∀ k ∈ fp, w0.heap.size ≤ k) ∧ ∀ (w' : World) (R' : Rep) (fp' : List Nat), R'.at_ w' fp' → Keeps w w' fp → (∀ k ∈ fp', k ∈ fp ∨ w.heap.size ≤ k) → Star w0 w' (Rs.set i R') := by
  obtain ⟨F, h1, h2, h3, h4⟩ := h
  have hil := (List.getElem?_eq_some_iff.1 hi).1
  have hlt : ∀ i, i < Rs.length → ∀ k ∈ F i, k < w.heap.size := fun i hi => (Rs[i]).lt (h1 i _ (List.getElem?_eq_getElem hi))
  refine ⟨F i, h1 i R hi, h3 i hil, fun w' R' fp' hR' hk hn => ?_⟩
  refine ⟨fun j => if j = i then fp' else F j, ?_, ?_, ?_, h4.trans hk (fun k hk1 hk2 => by have := h3 i hil k hk2; omega)⟩
  · intro j S hj
    by_cases e : j = i
    · subst e
      rw [List.getElem?_set_self hil] at hj
      simp only [if_pos]
      cases hj
      exact hR'
    · simp only [if_neg e]
      rw [List.getElem?_set_ne (fun h => e h.symm)] at hj
      exact S.keeps (h1 j S hj) hk (fun k hk1 => h2 j i (List.getElem?_eq_some_iff.1 hj).1 hil e k hk1)
  · intro a b ha hb hab k hka hkb
    simp only [List.length_set] at ha hb
    by_cases ea : a = i
    · have eb : ¬ b = i := fun h => hab (ea.trans h.symm)
      simp only [if_pos ea] at hka
      simp only [if_neg eb] at hkb
      rcases hn k hka with h | h
      · exact h2 i b hil hb (fun h => eb h.symm) k h hkb
      · have := hlt b hb k hkb; omega
    · simp only [if_neg ea] at hka
      by_cases eb : b = i
      · simp only [if_pos eb] at hkb
        rcases hn k hkb with h | h
        · exact h2 a i ha hil ea k hka h
        · have := hlt a ha k hka; omega
      · simp only [if_neg eb] at hkb
        exact h2 a b ha hb hab k hka hkb
  · intro j hj k hk1
    simp only [List.length_set] at hj
    by_cases e : j = i
    · simp only [if_pos e] at hk1
      rcases hn k hk1 with h | h
      · exact h3 i hil k h
      · have := h4.size; omega
    · simp only [if_neg e] at hk1
      exact h3 j hj k hk1
/-- the same, with another piece looked at. -/
theorem Star.step2 {R2 : Rep} (h : Star w0 w Rs) (i j : Nat) (hi : Rs[i]? = some R) (hj : Rs[j]? = some R2) (hij : i ≠ j) :
    ∃ fp fq, R.at_ w fp ∧ R2.at_ w fq ∧ (∀ k ∈ fq, k ∉ fp) ∧ (∀ k ∈ fp, w0.heap.size ≤ k) ∧ (∀ k ∈ fq, w0.heap.size ≤ k) ∧ ∀ (w' : World) (R' : Rep) (fp' : List Nat), R'.at_ w' fp' → Keeps w w' fp → (∀ k ∈ fp', k ∈ fp ∨ w.heap.size ≤ k) → Star w0 w' (Rs.set i R') := by
  have h' := h
  obtain ⟨F, h1, h2, h3, h4⟩ := h
  have hil := (List.getElem?_eq_some_iff.1 hi).1
  have hjl := (List.getElem?_eq_some_iff.1 hj).1
  refine ⟨F i, F j, h1 i R hi, h1 j R2 hj, h2 j i hjl hil (fun h => hij h.symm), h3 i hil, h3 j hjl, fun w' R' fp' hR' hk hn => ?_⟩
  have hlt : ∀ i, i < Rs.length → ∀ k ∈ F i, k < w.heap.size := fun i hi => (Rs[i]).lt (h1 i _ (List.getElem?_eq_getElem hi))
  refine ⟨fun j => if j = i then fp' else F j, ?_, ?_, ?_, h4.trans hk (fun k hk1 hk2 => by have := h3 i hil k hk2; omega)⟩
  · intro j S hj
    by_cases e : j = i
    · subst e
      rw [List.getElem?_set_self hil] at hj
      simp only [if_pos]
      cases hj
      exact hR'
    · simp only [if_neg e]
      rw [List.getElem?_set_ne (fun h => e h.symm)] at hj
      exact S.keeps (h1 j S hj) hk (fun k hk1 => h2 j i (List.getElem?_eq_some_iff.1 hj).1 hil e k hk1)
  · intro a b ha hb hab k hka hkb
    simp only [List.length_set] at ha hb
    by_cases ea : a = i
    · have eb : ¬ b = i := fun h => hab (ea.trans h.symm)
      simp only [if_pos ea] at hka
      simp only [if_neg eb] at hkb
      rcases hn k hka with h | h
      · exact h2 i b hil hb (fun h => eb h.symm) k h hkb
      · have := hlt b hb k hkb; omega
    · simp only [if_neg ea] at hka
      by_cases eb : b = i
      · simp only [if_pos eb] at hkb
        rcases hn k hkb with h | h
        · exact h2 a i ha hil ea k hka h
        · have := hlt a ha k hka; omega
      · simp only [if_neg eb] at hkb
        exact h2 a b ha hb hab k hka hkb
  · intro j hj k hk1
    simp only [List.length_set] at hj
    by_cases e : j = i
    · simp only [if_pos e] at hk1
      rcases hn k hk1 with h | h
      · exact h3 i hil k h
      · have := h4.size; omega
    · simp only [if_neg e] at hk1
      exact h3 j hj k hk1
/-- one piece is turned, and another is made beside it. -/
theorem Star.step_add (h : Star w0 w Rs) (i : Nat) (hi : Rs[i]? = some R) :
    ∃ fp, R.at_ w fp ∧ (∀ k ∈ fp, w0.heap.size ≤ k) ∧ ∀ (w' : World) (R' S : Rep) (fp' fq : List Nat), R'.at_ w' fp' → S.at_ w' fq → Keeps w w' fp → (∀ k ∈ fp', k ∈ fp ∨ w.heap.size ≤ k) → (∀ k ∈ fq, w.heap.size ≤ k ∧ k ∉ fp') → Star w0 w' (S :: Rs.set i R') := by
  have h0 := h
  obtain ⟨F, h1, h2, h3, h4⟩ := h
  have hil := (List.getElem?_eq_some_iff.1 hi).1
  have hlt : ∀ i, i < Rs.length → ∀ k ∈ F i, k < w.heap.size := fun i hi => (Rs[i]).lt (h1 i _ (List.getElem?_eq_getElem hi))
  refine ⟨F i, h1 i R hi, h3 i hil, fun w' R' S fp' fq hR' hS hk hn hq => ?_⟩
  refine ⟨fun j => match j with | 0 => fq | j + 1 => if j = i then fp' else F j, ?_, ?_, ?_, h4.trans hk (fun k hk1 hk2 => by have := h3 i hil k hk2; omega)⟩
  · intro j T hj
    cases j with
    | zero => simp at hj; subst hj; exact hS
    | succ j =>
      simp only [List.getElem?_cons_succ] at hj
      by_cases e : j = i
      · subst e
        rw [List.getElem?_set_self hil] at hj
        simp only [if_pos]
        cases hj
        exact hR'
      · simp only [if_neg e]
        rw [List.getElem?_set_ne (fun h => e h.symm)] at hj
        exact T.keeps (h1 j T hj) hk (fun k hk1 => h2 j i (List.getElem?_eq_some_iff.1 hj).1 hil e k hk1)
  · have far : ∀ b, b < Rs.length → b ≠ i → ∀ k ∈ fp', k ∉ F b := fun b hb e k hka hkb => by
      rcases hn k hka with h | h
      · exact h2 i b hil hb (fun h => e h.symm) k h hkb
      · have := hlt b hb k hkb; omega
    intro a b ha hb hab k hka hkb
    simp only [List.length_cons, List.length_set] at ha hb
    cases a with
    | zero =>
      cases b with
      | zero => exact hab rfl
      | succ b =>
        simp only at hka hkb
        by_cases eb : b = i
        · simp only [if_pos eb] at hkb; exact (hq k hka).2 hkb
        · simp only [if_neg eb] at hkb
          have := hlt b (by omega) k hkb; have := (hq k hka).1; omega
    | succ a =>
      cases b with
      | zero =>
        simp only at hka hkb
        by_cases ea : a = i
        · simp only [if_pos ea] at hka; exact (hq k hkb).2 hka
        · simp only [if_neg ea] at hka
          have := hlt a (by omega) k hka; have := (hq k hkb).1; omega
      | succ b =>
        simp only at hka hkb
        by_cases ea : a = i
        · have eb : ¬ b = i := fun h => hab (by omega)
          simp only [if_pos ea] at hka
          simp only [if_neg eb] at hkb
          exact far b (by omega) eb k hka hkb
        · simp only [if_neg ea] at hka
          by_cases eb : b = i
          · simp only [if_pos eb] at hkb
            exact far a (by omega) ea k hkb hka
          · simp only [if_neg eb] at hkb
            exact h2 a b (by omega) (by omega) (by omega) k hka hkb
  · intro j hj k hk1
    simp only [List.length_cons, List.length_set] at hj
    cases j with
    | zero => have := (hq k hk1).1; have := h4.size; omega
    | succ j =>
      simp only at hk1
      by_cases e : j = i
      · simp only [if_pos e] at hk1
        rcases hn k hk1 with h | h
        · exact h3 i hil k h
        · have := h4.size; omega
      · simp only [if_neg e] at hk1
        exact h3 j (by omega) k hk1
/-- a piece is let go. -/
theorem Star.tail (h : Star w0 w (R :: Rs)) : Star w0 w Rs := by
  obtain ⟨F, h1, h2, h3, h4⟩ := h
  exact ⟨fun i => F (i + 1), fun i S hi => h1 (i + 1) S (by simpa using hi), fun i j hi hj hij => h2 (i + 1) (j + 1) (by simpa using hi) (by simpa using hj) (by omega), fun i hi => h3 (i + 1) (by simpa using hi), h4⟩
/-- the pieces are named anew: each new place k holds the piece of the old place p k. -/
theorem Star.turn (h : Star w0 w Rs) {Ss : List Rep} (p : Nat → Nat) (hp : ∀ (i : Nat) (S : Rep), Ss[i]? = some S → Rs[p i]? = some S) (hi : ∀ i j, i < Ss.length → j < Ss.length → p i = p j → i = j) : Star w0 w Ss := by
  obtain ⟨F, h1, h2, h3, h4⟩ := h
  have hl : ∀ i, i < Ss.length → p i < Rs.length := fun i hi => (List.getElem?_eq_some_iff.1 (hp i _ (List.getElem?_eq_getElem hi))).1
  exact ⟨fun i => F (p i), fun i S hS => h1 _ S (hp i S hS), fun i j hi1 hj1 hij => h2 _ _ (hl i hi1) (hl j hj1) (fun e => hij (hi i j hi1 hj1 e)), fun i hi1 => h3 _ (hl i hi1), h4⟩
end

end Go.Proofs.Ytecjhaohabjkbaa
