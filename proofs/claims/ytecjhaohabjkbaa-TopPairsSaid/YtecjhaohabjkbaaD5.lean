/-
  CONTRACTS: heliographlaw07.live.
-/
import Derived.Test.YtecjhaohabjkbaaD4
import Derived.Deep.DeepCutAuto
namespace Go.Proofs.Ytecjhaohabjkbaa
open Go.RowKit
set_option linter.unusedVariables false

theorem Blk.reads {w : World} {g : Nat} {t : TypeId} {cs : Array Value} (h : Blk w g t cs) (size n : Nat) (hs : cs.size = n * size) : Reads w size (some ⟨g, 0, none⟩) n cs.toList [g] :=
  ⟨by simpa using hs, .inr ⟨_, rfl, rfl, h.lt, fun j u hu => by rw [Addr.add_lit, h.cell]; simpa using hu⟩⟩
theorem may_new (w : World) (t : TypeId) : MayRow (w.alloc (.cells Sec.zero.cells.toArray t)) (.pointer (some ⟨w.heap.size, 0, none⟩)) 64 := may_of_there ((Blk.new w _ _).there_ 0 64 (by simp [Sec.cells_length]))
theorem blk_stored (w : World) (t : TypeId) (s : Sec) : Blk ((w.alloc (.cells Sec.zero.cells.toArray t)).setCells w.heap.size 0 s.cells) w.heap.size t s.cells.toArray := by
  have := (Blk.new w t Sec.zero.cells.toArray).setCells s.cells 0 _ _ (by simp [Sec.cells_length])
  rwa [show (Sec.zero.cells.toArray.toList.take 0 ++ s.cells ++ Sec.zero.cells.toArray.toList.drop (0 + s.cells.length)).toArray = s.cells.toArray by simp [Sec.cells_length]] at this
theorem keeps_stored {w w1 : World} {fp : List Nat} (h : Keeps w w1 fp) (t : TypeId) (cs vs : List Value) (hl : w.heap.size ≤ w1.heap.size) : Keeps w ((w1.alloc (.cells cs.toArray t)).setCells w1.heap.size 0 vs) fp :=
  (h.alloc _).setCells (.inr hl) _ _
theorem DRep.same {w w' : World} {b : Nat} {last now : List Sec} {loose : List Wr} {fp : List Nat} (h : DRep w b last now loose fp) (hk : Keeps w w' []) : DRep w' b last now loose fp := h.nil hk

/-- a device of a call's own: all its blocks are new since w0. -/
def DSt (w0 w : World) (b : Nat) (last now : List Sec) (loose : List Wr) (fp : List Nat) : Prop := DRep w b last now loose fp ∧ Keeps w0 w [] ∧ ∀ k ∈ fp, w0.heap.size ≤ k
section
variable {w0 w w' : World} {b : Nat} {last now last' now' : List Sec} {loose loose' : List Wr} {fp : List Nat}
theorem DSt.nil (h : DSt w0 w b last now loose fp) (hk : Keeps w w' []) : DSt w0 w' b last now loose fp := ⟨h.1.nil hk, h.2.1.trans hk (by simp), h.2.2⟩
theorem DSt.keeps {f : List Nat} (h : DSt w0 w b last now loose fp) (hk : Keeps w w' f) (hd : ∀ k ∈ fp, k ∉ f) (hf : ∀ k ∈ f, w0.heap.size ≤ k) : DSt w0 w' b last now loose fp :=
  ⟨h.1.keeps hk hd, h.2.1.trans hk (fun i hi hm => by have := hf i hm; omega), h.2.2⟩
theorem DSt.step {r : Value} {e : Ending} (h : DSt w0 w b last now loose fp) (k : DStep w fp r b last' now' loose' e w') : e = .returned r ∧ ∃ fp', DSt w0 w' b last' now' loose' fp' ∧ Keeps w w' fp ∧ ∀ k ∈ fp', k ∈ fp ∨ w.heap.size ≤ k := by
  obtain ⟨fp', he, hd, hk, hn⟩ := k
  refine ⟨he, fp', ⟨hd, h.2.1.trans hk (fun i hi hm => by have := h.2.2 i hm; omega), fun k hk2 => ?_⟩, hk, hn⟩
  rcases hn k hk2 with h1 | h1
  · exact h.2.2 k h1
  · have := h.2.1.size; omega
theorem DNew.st {n : Nat} {e : Ending} (h0 : Keeps w0 w []) (h : DNew w n e w') : ∃ b fp, e = .returned (.pointer (some ⟨b, 0, none⟩)) ∧ DSt w0 w' b (List.replicate n Sec.zero) (List.replicate n Sec.zero) [] fp ∧ Keeps w w' [] ∧ ∀ k ∈ fp, w.heap.size ≤ k := by
  obtain ⟨b, fp, he, hd, hk, hn⟩ := h
  exact ⟨b, fp, he, ⟨hd, h0.trans hk (by simp), fun k hm => Nat.le_trans h0.size (hn k hm)⟩, hk, hn⟩
end

end Go.Proofs.Ytecjhaohabjkbaa
