/-
  CONTRACTS: dev.New, heliographref07.New, heliographlaw07.sector.
-/
import Derived.Test.YtecjhaohabjkbaaD1
import Derived.Laws.MakeOwn
namespace Go.Proofs.Ytecjhaohabjkbaa
open Go.RowKit
set_option linter.unusedVariables false

def Sec.all (c : Int) : Sec := ⟨List.replicate 64 c, by simp⟩
theorem Sec.all_cells (c : Int) : (Sec.all c).cells = List.replicate 64 (.int .u8 c) := by simp [Sec.all, Sec.cells]
theorem Sec.zero_cells : Sec.zero.cells = List.replicate 64 (.int .u8 0) := by simp [Sec.zero, Sec.cells]

theorem secs_zero (n : Nat) : secs (List.replicate n Sec.zero) = List.replicate (n * 64) (.int .u8 0) := by
  induction n with
  | zero => rfl
  | succ n ih =>
    have e : secs (List.replicate (n + 1) Sec.zero) = Sec.zero.cells ++ secs (List.replicate n Sec.zero) := by simp [secs, List.replicate_succ]
    rw [e, ih, Sec.zero_cells, List.replicate_append_replicate]
    congr 1
    omega
theorem made_zero (n : Nat) : madeCells Sec.zero.cells.toArray (n * 64) = (secs (List.replicate n Sec.zero)).toArray := by
  rw [secs_zero]
  apply Array.ext
  · simp [madeCells]
  · intro i h1 h2
    simp only [madeCells, Array.getElem_map, Array.getElem_range, List.getElem_toArray, List.getElem_replicate, Sec.zero_cells, List.size_toArray, List.length_replicate]
    have : i % 64 < 64 := Nat.mod_lt _ (by omega)
    have hg : ∀ (m : Nat), m < 64 → ((List.replicate 64 (Value.int .u8 0)).toArray)[m]! = .int .u8 0 := fun m hm => by
      rw [getElem!_pos _ _ (by simpa using hm), List.getElem_toArray, List.getElem_replicate]
    exact hg _ this
theorem make_secs {P : Program} (t e : TypeId) (hu : P.underlying t = some (.slice e)) (hi : (P.info? e).map (fun i => (i.zero, i.size, i.bytes)) = some (some (.agg Sec.zero.cells.toArray), 64, 64)) (n : Nat) (hn : n ≤ 4096) (w : World) :
    (Instr.makeSlice t (.int .i64 (n : Int)) (.int .i64 (n : Int))).run P w = .ok (.slice (some ⟨w.heap.size, 0, none⟩) n n) (w.alloc (.cells (secs (List.replicate n Sec.zero)).toArray e)) := by
  obtain ⟨i, hi, hz, hs, hb⟩ := info_parts hi
  have := run_make (P := P) w t e i _ hu hi hz .i64 .i64 n n (by omega) (Int.le_refl _) (by rw [hb]; omega) (by omega)
  simp only [Int.toNat_natCast, hs, Value.cells, made_zero] at this
  exact this
theorem own_made {w : World} {e : TypeId} {n g : Nat} (h0 : 0 < n) (hn : n ≤ 4096) (hb : Blk w g e (secs (List.replicate n Sec.zero)).toArray) : Own w e 64 (.slice (some ⟨g, 0, none⟩) n n) n (secs (List.replicate n Sec.zero)) [g] := by
  have hl : (secs (List.replicate n Sec.zero)).length = n * 64 := by rw [secs_zero, List.length_replicate]
  exact ⟨hl, .inr ⟨g, n, _, rfl, h0, rfl, hb, Nat.le_refl _, by unfold maxLen; omega, by simpa using hl, by rw [List.take_of_length_le (by simp [hl])]⟩⟩

/-- What a New leaves. -/
def DNew (w : World) (n : Nat) (e : Ending) (w' : World) : Prop :=
  ∃ b fp, e = .returned (.pointer (some ⟨b, 0, none⟩)) ∧ DRep w' b (List.replicate n Sec.zero) (List.replicate n Sec.zero) [] fp ∧ Keeps w w' [] ∧ ∀ k ∈ fp, w.heap.size ≤ k

set_option maxHeartbeats 400000 in set_option maxRecDepth 100000 in
theorem dnew_ok (n : Nat) (w : World) (h1 : 1 ≤ n) (hn : n ≤ 4096) : Calls Try.prog 16 #[.int .i64 n] w (DNew w n) := by
  have hmk := make_secs 88 31 Try.underlying88 info_sec n hn
  have g1 : (1 : Int) ≤ (n : Int) := by omega
  have g2 : (n : Int) ≤ 4096 := by omega
  go_enter Try.func16, Try.ntmps16
  go_wp2_with fail
  go_region
  all_goals
    go_wp2_with fail
    go_ret
  · have hA := ((Blk.new w 31 (secs (List.replicate n Sec.zero)).toArray).alloc (.cells (secs (List.replicate n Sec.zero)).toArray 31)).alloc (.cells #[.slice (some ⟨w.heap.size, 0, none⟩) n n, .slice (some ⟨w.heap.size + 1, 0, none⟩) n n, .slice none 0 0] 91)
    have hB := (Blk.new' (w.alloc (.cells (secs (List.replicate n Sec.zero)).toArray 31)) (n := w.heap.size + 1) (by simp) 31 (secs (List.replicate n Sec.zero)).toArray).alloc (.cells #[.slice (some ⟨w.heap.size, 0, none⟩) n n, .slice (some ⟨w.heap.size + 1, 0, none⟩) n n, .slice none 0 0] 91)
    refine ⟨w.heap.size + 1 + 1, [w.heap.size + 1 + 1, w.heap.size, w.heap.size + 1], rfl, ⟨_, _, _, [w.heap.size], [w.heap.size + 1], [], (Blk.new' ((w.alloc (.cells (secs (List.replicate n Sec.zero)).toArray 31)).alloc (.cells (secs (List.replicate n Sec.zero)).toArray 31)) (n := w.heap.size + 1 + 1) (by simp) _ _).drew, ?_, ?_, Own.bare _ _ _ _, ⟨by first | (simp; done) | (simp; omega), by first | (simp; done) | (simp; omega), by simp, by simp, by simp, by simp⟩, rfl⟩, (((Keeps.refl w []).alloc _).alloc _).alloc _ |>.drew, by simp; omega⟩
    · simpa using (own_made h1 hn hA.drew)
    · simpa using (own_made h1 hn hB.drew)
  · have hA := ((Blk.new w 31 (secs (List.replicate n Sec.zero)).toArray).alloc (.cells (secs (List.replicate n Sec.zero)).toArray 31)).alloc (.cells #[.slice (some ⟨w.heap.size + 1, 0, none⟩) n n, .slice (some ⟨w.heap.size, 0, none⟩) n n, .slice none 0 0] 91)
    have hB := (Blk.new' (w.alloc (.cells (secs (List.replicate n Sec.zero)).toArray 31)) (n := w.heap.size + 1) (by simp) 31 (secs (List.replicate n Sec.zero)).toArray).alloc (.cells #[.slice (some ⟨w.heap.size + 1, 0, none⟩) n n, .slice (some ⟨w.heap.size, 0, none⟩) n n, .slice none 0 0] 91)
    refine ⟨w.heap.size + 1 + 1, [w.heap.size + 1 + 1, w.heap.size + 1, w.heap.size], rfl, ⟨_, _, _, [w.heap.size + 1], [w.heap.size], [], (Blk.new' ((w.alloc (.cells (secs (List.replicate n Sec.zero)).toArray 31)).alloc (.cells (secs (List.replicate n Sec.zero)).toArray 31)) (n := w.heap.size + 1 + 1) (by simp) _ _).drew, ?_, ?_, Own.bare _ _ _ _, ⟨by first | (simp; done) | (simp; omega), by first | (simp; done) | (simp; omega), by simp, by simp, by simp, by simp⟩, rfl⟩, (((Keeps.refl w []).alloc _).alloc _).alloc _ |>.drew, by simp; omega⟩
    · simpa using (own_made h1 hn hB.drew)
    · simpa using (own_made h1 hn hA.drew)

theorem dnew_nil (n : Int) (w : World) (h : n < 1 ∨ 4096 < n) : Calls Try.prog 16 #[.int .i64 n] w fun e w' => e = .returned (.pointer none) ∧ w = w' := by
  by_cases h1 : n < 1
  · go_enter Try.func16, Try.ntmps16
    go_wp2_with fail
    go_ret
    exact ⟨rfl, rfl⟩
  · have h2 : 4096 < n := by omega
    clear h
    go_enter Try.func16, Try.ntmps16
    go_wp2_with fail
    go_ret
    exact ⟨rfl, rfl⟩

end Go.Proofs.Ytecjhaohabjkbaa
