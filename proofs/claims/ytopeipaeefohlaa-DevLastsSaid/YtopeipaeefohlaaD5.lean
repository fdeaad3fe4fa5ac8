/-
  CONTRACTS: heliographlaw07.live.
-/
import Derived.Test.YtopeipaeefohlaaD4
import Derived.Deep.DeepCutAuto
namespace Go.Proofs.Ytopeipaeefohlaa
open Go.RowKit
set_option linter.unusedVariables false

theorem Blk.reads {w : World} {g : Nat} {t : TypeId} {cs : Array Value} (h : Blk w g t cs) (size n : Nat) (hs : cs.size = n * size) : Reads w size (some ⟨g, 0, none⟩) n cs.toList [g] :=
  ⟨by simpa using hs, .inr ⟨_, rfl, rfl, h.lt, fun j u hu => by rw [Addr.add_lit, h.cell]; simpa using hu⟩⟩
theorem may_new (w : World) (t : TypeId) : MayRow (w.alloc (.cells Sec.zero.cells.toArray t)) (.pointer (some ⟨w.heap.size, 0, none⟩)) 64 := may_of_there ((Blk.new w _ _).there_ 0 64 (by simp [Sec.cells_length]))
theorem blk_stored (w : World) (t : TypeId) (s : Sec) : Blk ((w.alloc (.cells Sec.zero.cells.toArray t)).setCells w.heap.size 0 s.cells) w.heap.size t s.cells.toArray := by
  have := (Blk.new w t Sec.zero.cells.toArray).setCells s.cells 0 _ _ (by simp [Sec.cells_length])
  rwa [show (Sec.zero.cells.toArray.toList.take 0 ++ s.cells ++ Sec.zero.cells.toArray.toList.drop (0 + s.cells.length)).toArray = s.cells.toArray by simp [Sec.cells_length]] at this
theorem keeps_stored {w w1 : World} {fp : List Nat} (h : Keeps w w1 fp) (t : TypeId) (cs vs : List Value) (hl : w.heap.size ≤ w1.heap.size) : Keeps w ((w1.alloc (.cells cs.toArray t)).setCells w1.heap.size 0 vs) fp :=
  (h.alloc _).setCells (.inr hl) _ _
theorem DRep.same {w w' : World} {b : Nat} {last now : List Sec} {loose : List Wr} {fp : List Nat} (h : DRep w b last now loose fp) (hk : Keeps w w' []) : DRep w' b last now loose fp := h.nil hk

/-- a device of a call's own: all its blocks are new since w0. -/
def DSt (w0 w : World) (b : Nat) (last now : List Sec) (loose : List Wr) (fp : List Nat) : Prop := DRep w b last now loose fp ∧ Keeps w0 w [] ∧ ∀ k ∈ fp, w0.heap.size ≤ k
section
variable {w0 w w' : World} {b : Nat} {last now last' now' : List Sec} {loose loose' : List Wr} {fp : List Nat}
theorem DSt.nil (h : DSt w0 w b last now loose fp) (hk : Keeps w w' []) : DSt w0 w' b last now loose fp := ⟨h.1.nil hk, h.2.1.trans hk (by simp), h.2.2⟩
theorem DSt.keeps {f : List Nat} (h : DSt w0 w b last now loose fp) (hk : Keeps w w' f) (hd : ∀ k ∈ fp, k ∉ f) (hf : ∀ k ∈ f, w0.heap.size ≤ k) : DSt w0 w' b last now loose fp :=
  ⟨h.1.keeps hk hd, h.2.1.trans hk (fun i hi hm => by have := hf i hm; omega), h.2.2⟩
theorem DSt.step {r : Value} {e : Ending} (h : DSt w0 w b last now loose fp) (k : DStep w fp r b last' now' loose' e w') : e = .returned r ∧ ∃ fp', DSt w0 w' b last' now' loose' fp' ∧ Keeps w w' fp ∧ ∀ k ∈ fp', k ∈ fp ∨ w.heap.size ≤ k := by
  obtain ⟨fp', he, hd, hk, hn⟩ := k
  refine ⟨he, fp', ⟨hd, h.2.1.trans hk (fun i hi hm => by have := h.2.2 i hm; omega), fun k hk2 => ?_⟩, hk, hn⟩
  rcases hn k hk2 with h1 | h1
  · exact h.2.2 k h1
  · have := h.2.1.size; omega
theorem DNew.st {n : Nat} {e : Ending} (h0 : Keeps w0 w []) (h : DNew w n e w') : ∃ b fp, e = .returned (.pointer (some ⟨b, 0, none⟩)) ∧ DSt w0 w' b (List.replicate n Sec.zero) (List.replicate n Sec.zero) [] fp ∧ Keeps w w' [] ∧ ∀ k ∈ fp, w.heap.size ≤ k := by
  obtain ⟨b, fp, he, hd, hk, hn⟩ := h
  exact ⟨b, fp, he, ⟨hd, h0.trans hk (by simp), fun k hm => Nat.le_trans h0.size (hn k hm)⟩, hk, hn⟩
end

set_option maxHeartbeats 1000000 in
theorem dlive_calls (w : World) : Calls Try.prog 15 #[] w fun e w' => e = .returned (.bool true) ∧ Keeps w w' [] := by
  go_enter Try.func15, Try.ntmps15
  go_wp2_with fail
  refine (dnew_ok 3 _ (by omega) (by omega)).mono ?_
  intro e w1 hpost
  obtain ⟨b, f1, rfl, hd1, -, -⟩ := hpost.st (Keeps.refl w [])
  clear hpost
  have H1 := Lib.hid hd1; clear hd1
  go_wp2_with fail
  refine (sector_calls 1 _).mono ?_
  rintro e w2 ⟨rfl, hk2⟩
  have H2 := Lib.hid (H1.out.nil hk2); clear hk2 H1
  go_wp2_with fail
  refine (write_ok b _ _ _ f1 _ 0 (Sec.all 1) H2.out.1 (by simp) (by simp) (by simp)).mono ?_
  intro e w3 hpost
  obtain ⟨rfl, f3, hd3, -, -⟩ := H2.out.step hpost
  have H3 := Lib.hid hd3; clear hd3 H2 hpost
  go_wp2_with fail
  refine (sector_calls 2 _).mono ?_
  rintro e w4 ⟨rfl, hk4⟩
  have H4 := Lib.hid (H3.out.nil hk4); clear hk4 H3
  go_wp2_with fail
  refine (write_ok b _ _ _ f3 _ 0 (Sec.all 2) H4.out.1 (by simp) (by simp) (by simp)).mono ?_
  intro e w5 hpost
  obtain ⟨rfl, f5, hd5, -, -⟩ := H4.out.step hpost
  have H5 := Lib.hid hd5; clear hd5 H4 hpost
  go_wp2_with fail
  refine (pending_calls b _ _ _ f5 _ H5.out.1).mono ?_
  rintro e w6 ⟨rfl, rfl⟩
  go_wp2_with fail
  have hlt5 := H5.out.1.lt
  have H6 := Lib.hid (H5.out.nil ((Keeps.refl w5 []).alloc (.cells #[.bool true, .bool false] 4))); clear H5
  refine (crash_ok (some ⟨w5.heap.size, 0, none⟩) 2 [true, false] [w5.heap.size] b _ _ _ f5 _ H6.out.1 ((Blk.new w5 4 #[.bool true, .bool false]).reads 1 2 rfl) (by unfold maxLen; simp) ?_ (by simp) (by simp) (by simp)).mono ?_
  · intro k hk h; have := hlt5 k h; simp at hk; omega
  clear hlt5
  intro e w7 hpost
  obtain ⟨rfl, f7, hd7, -, -⟩ := H6.out.step hpost
  have hl7 : land (List.replicate 3 Sec.zero) (surv ([] ++ [⟨0, Sec.all 1⟩] ++ [⟨0, Sec.all 2⟩]) [true, false]) = [Sec.all 1, Sec.zero, Sec.zero] := rfl
  rw [hl7] at hd7
  have H7 := Lib.hid hd7; clear hd7 H6 hpost hl7
  go_wp2_with fail
  refine (read_ok b _ _ _ f7 _ 0 (Sec.all 1) H7.out.1 rfl (by simp)).mono ?_
  rintro e w8 ⟨rfl, hk8⟩
  have H8 := Lib.hid (H7.out.nil hk8); clear hk8 H7
  have hm8 := may_new w8 29
  have hb9 := blk_stored w8 29 (Sec.all 1)
  have c5 : ((w8.alloc (.cells Sec.zero.cells.toArray 29)).setCells w8.heap.size 0 (Sec.all 1).cells).cell? ⟨w8.heap.size, 5, none⟩ = some (.int .u8 1) := by rw [hb9.cell]; rfl
  have H9 := Lib.hid (H8.out.nil (keeps_stored (Keeps.refl w8 []) 29 Sec.zero.cells (Sec.all 1).cells (Nat.le_refl _)))
  clear hb9 H8
  go_wp2_with fail
  refine (size_calls b _ _ _ f7 _ H9.out.1).mono ?_
  rintro e w9 ⟨rfl, rfl⟩
  go_wp2_with fail
  go_ret
  exact ⟨rfl, H9.out.2.1⟩

end Go.Proofs.Ytopeipaeefohlaa
