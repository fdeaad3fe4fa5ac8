/-
  CONTRACTS: slots.disk.best; Store's Load, Turn, Room.
-/
import Derived.Test.YtecjhaohabjkbaaP4
import Derived.Deep.RegionHeldLaw
import Derived.Deep.CutBlock
import Derived.Deep.DeepCutAuto
namespace Go.Proofs.Ytecjhaohabjkbaa
open Go.RowKit
set_option linter.unusedVariables false

/-- what best leaves. -/
def BestLeft (w : World) (half : Nat) (now : List Sec) (e : Ending) (w' : World) : Prop :=
  ∃ (a : Nat) (A : Option Addr) (c : Nat) (fr : List Nat), e = .returned (.agg #[.int .i64 a, .slice A (bestM half now).2.1.length c, .int .u64 (bestM half now).2.2]) ∧ Reads w' 1 A (bestM half now).2.1.length (bytes (bestM half now).2.1) fr ∧
    (∀ j ∈ fr, w.heap.size ≤ j) ∧ Keeps w w' [] ∧ (0 < (bestM half now).2.2 → a = (bestM half now).1) ∧ (bestM half now).2.1.length ≤ c

theorem Keeps.cells {w w1 : World} (h : Keeps w w1 []) : ∀ b o, b < w.heap.size → w1.cell? ⟨b, o, none⟩ = w.cell? ⟨b, o, none⟩ := fun b o hb => h.cell (p := ⟨b, o, none⟩) hb (by simp)
theorem Keeps.marks {w w1 : World} (h : Keeps w w1 []) : ∀ b o, b < w.heap.size → w1.frozen? ⟨b, o, none⟩ = w.frozen? ⟨b, o, none⟩ := fun b o hb => h.frozen (p := ⟨b, o, none⟩) hb (by simp)

section
variable {w : World} {g : Nat} {t : TypeId} {x0 y0 z0 : Value}
theorem blk_set0 (h : Blk w g t #[x0, y0, z0]) (x : Value) : Blk (w.setCell ⟨g, 0, none⟩ x) g t #[x, y0, z0] := h.set_ 0 x
theorem blk_set1 (h : Blk w g t #[x0, y0, z0]) (y : Value) : Blk (w.setCell ⟨g, 1, none⟩ y) g t #[x0, y, z0] := h.set_ 1 y
theorem blk_set2 (h : Blk w g t #[x0, y0, z0]) (z : Value) : Blk (w.setCell ⟨g, 2, none⟩ z) g t #[x0, y0, z] := h.set_ 2 z
end
/-- behind the two calls: both slots' words lie in variables. -/
def BestMid (w : World) (half : Nat) (now : List Sec) (s3 s4 : Value) (wx : World) : Prop :=
  ∃ (g3 g4 a1 a2 n1 n2 : Nat) (A1 A2 : Option Addr) (fr1 fr2 : List Nat), s3 = .pointer (some ⟨g3, 0, none⟩) ∧ s4 = .pointer (some ⟨g4, 0, none⟩) ∧
    Blk wx g3 98 #[.int .i64 a1, .slice A1 (holdM half now 0).1.length n1, .int .u64 (holdM half now 0).2] ∧
    Blk wx g4 98 #[.int .i64 a2, .slice A2 (holdM half now 1).1.length n2, .int .u64 (holdM half now 1).2] ∧
    Blk wx (w.heap.size + 1) 98 #[.int .i64 0, .slice none 0 0, .int .u64 0] ∧
    Reads wx 1 A1 (holdM half now 0).1.length (bytes (holdM half now 0).1) fr1 ∧ Reads wx 1 A2 (holdM half now 1).1.length (bytes (holdM half now 1).1) fr2 ∧
    (∀ j ∈ fr1, w.heap.size + 1 < j) ∧ (∀ j ∈ fr2, w.heap.size + 1 < j) ∧ Keeps w wx [] ∧ (0 < (holdM half now 0).2 → a1 = 0) ∧ (0 < (holdM half now 1).2 → a2 = 1) ∧ (holdM half now 0).1.length ≤ n1 ∧ (holdM half now 1).1.length ≤ n2
theorem cell_alloc_past (w : World) (o : Obj) (b i : Nat) (h : b < w.heap.size) : (w.alloc o).cell? ⟨b, i, none⟩ = w.cell? ⟨b, i, none⟩ := World.cell?_of_block (w := w) (Below.heap_alloc w o b h)
theorem frozen_alloc_past (w : World) (o : Obj) (b i : Nat) (h : b < w.heap.size) : (w.alloc o).frozen? ⟨b, i, none⟩ = w.frozen? ⟨b, i, none⟩ := World.frozen?_of_block (w := w) (Below.heap_alloc w o b h)

section
variable (b : Nat) (last now : List Sec) (loose : List Wr) (fp : List Nat) (w : World)
theorem hold0 (half : Nat) (hd : DRep w b last now loose fp) (hn : now.length ≤ 4096) (hwf : ∀ s ∈ now, s.wf) (h2 : 2 + 2 * half ≤ now.length) :
    Calls Try.prog 69 #[.agg #[.pointer (some ⟨b, 0, none⟩), .int .i64 half], .int .i64 0] w (HoldLeft w half now 0) := hold_calls b last now loose fp w half 0 hd hn hwf h2 (by omega)
theorem hold1 (half : Nat) (hd : DRep w b last now loose fp) (hn : now.length ≤ 4096) (hwf : ∀ s ∈ now, s.wf) (h2 : 2 + 2 * half ≤ now.length) :
    Calls Try.prog 69 #[.agg #[.pointer (some ⟨b, 0, none⟩), .int .i64 half], .int .i64 1] w (HoldLeft w half now 1) := hold_calls b last now loose fp w half 1 hd hn hwf h2 (by omega)

set_option maxHeartbeats 12800000 in set_option maxRecDepth 100000 in
set_option maxRecDepth 100000 in
theorem best_calls (half : Nat) (hd : DRep w b last now loose fp) (hn : now.length ≤ 4096) (hwf : ∀ s ∈ now, s.wf) (h2 : 2 + 2 * half ≤ now.length) :
    Calls Try.prog 51 #[.agg #[.pointer (some ⟨b, 0, none⟩), .int .i64 half]] w (BestLeft w half now) := by
  have H := Lib.hid (And.intro hd (And.intro hn (And.intro hwf h2)))
  clear hd hn hwf h2
  go_enter Try.func51, Try.ntmps51
  go_upto_region 1 with (fail)
  go_cut [3, 4] (fun s3 s4 wx => BestMid w half now s3 s4 wx)
  case rest =>
    obtain ⟨g3, g4, a1, a2, n1, n2, A1, A2, fr1, fr2, rfl, rfl, hb3, hb4, hbr, hr1, hr2, hf1, hf2, hk, ha1, ha2, hn1, hn2⟩ := hcut
    obtain ⟨T, hT⟩ : ∃ T, T = (holdM half now 0).2 := ⟨_, rfl⟩
    obtain ⟨U, hU⟩ : ∃ U, U = (holdM half now 1).2 := ⟨_, rfl⟩
    obtain ⟨l1, hl1⟩ : ∃ x, x = (holdM half now 0).1.length := ⟨_, rfl⟩
    obtain ⟨l2, hl2⟩ : ∃ x, x = (holdM half now 1).1.length := ⟨_, rfl⟩
    rw [← hT, ← hl1] at hb3
    rw [← hU, ← hl2] at hb4
    have x0 : wc.cell? ⟨g3, 0, none⟩ = some (.int .i64 a1) := hb3.cell 0
    have x1 : wc.cell? ⟨g3, 1, none⟩ = some (.slice A1 l1 n1) := hb3.cell 1
    have x2 : wc.cell? ⟨g3, 2, none⟩ = some (.int .u64 T) := hb3.cell 2
    have y0 : wc.cell? ⟨g4, 0, none⟩ = some (.int .i64 a2) := hb4.cell 0
    have y1 : wc.cell? ⟨g4, 1, none⟩ = some (.slice A2 l2 n2) := hb4.cell 1
    have y2 : wc.cell? ⟨g4, 2, none⟩ = some (.int .u64 U) := hb4.cell 2
    have r0 : wc.cell? ⟨w.heap.size + 1, 0, none⟩ = some (.int .i64 0) := hbr.cell 0
    have r1 : wc.cell? ⟨w.heap.size + 1, 1, none⟩ = some (.slice none 0 0) := hbr.cell 1
    have r2 : wc.cell? ⟨w.heap.size + 1, 2, none⟩ = some (.int .u64 0) := hbr.cell 2
    have q0 := hbr.frozen 0
    have q1 := hbr.frozen 1
    have q2 := hbr.frozen 2
    by_cases hlt : T < U
    · have hb : decide (T < U) = true := by simpa using hlt
      have e : bestM half now = (1, holdM half now 1) := by unfold bestM; rw [if_pos (by rw [← hT, ← hU]; exact hlt)]
      have fin : ∀ w', w' = ((wc.setCell ⟨w.heap.size + 1, 0, none⟩ (.int .i64 a2)).setCell ⟨w.heap.size + 1, 1, none⟩ (.slice A2 l2 n2)).setCell ⟨w.heap.size + 1, 2, none⟩ (.int .u64 U) → w'.rangeAt (w.heap.size + 1) 0 [.int .i64 a2, .slice A2 l2 n2, .int .u64 U] ∧ BestLeft w half now (.returned (.agg #[.int .i64 a2, .slice A2 l2 n2, .int .u64 U])) w' := by
        rintro w' rfl
        have hnm : w.heap.size + 1 ∉ fr2 := fun hm => by have := hf2 _ hm; omega
        refine ⟨(set3 hbr _ _ _).whole, a2, A2, n2, fr2, by rw [e, hl2, hU], ?_, fun j hj => by have := hf2 j hj; omega, keep3 hk (by omega) _ _ _, fun h => by rw [e] at h ⊢; exact ha2 h, by rw [e]; exact hn2⟩
        rw [e]
        exact ((hr2.set (p := ⟨w.heap.size + 1, 0, none⟩) hnm _).set (p := ⟨w.heap.size + 1, 1, none⟩) hnm _).set (p := ⟨w.heap.size + 1, 2, none⟩) hnm _
      have FIN := Lib.hid fin
      clear fin e hlt hT hU hl1 hl2 hb3 hb4 hbr hr1 hr2 hf1 hf2 hk ha1 ha2 hn1 hn2
      go_wp2_with fail
      exact ret_slot rfl (w.heap.size + 1) _ _ _ rfl (FIN.out _ rfl).1 rfl (FIN.out _ rfl).2
    · have hb : decide (T < U) = false := by simpa using hlt
      have e : bestM half now = (0, holdM half now 0) := by unfold bestM; rw [if_neg (by rw [← hT, ← hU]; exact hlt)]
      have fin : ∀ w', w' = ((wc.setCell ⟨w.heap.size + 1, 0, none⟩ (.int .i64 a1)).setCell ⟨w.heap.size + 1, 1, none⟩ (.slice A1 l1 n1)).setCell ⟨w.heap.size + 1, 2, none⟩ (.int .u64 T) → w'.rangeAt (w.heap.size + 1) 0 [.int .i64 a1, .slice A1 l1 n1, .int .u64 T] ∧ BestLeft w half now (.returned (.agg #[.int .i64 a1, .slice A1 l1 n1, .int .u64 T])) w' := by
        rintro w' rfl
        have hnm : w.heap.size + 1 ∉ fr1 := fun hm => by have := hf1 _ hm; omega
        refine ⟨(set3 hbr _ _ _).whole, a1, A1, n1, fr1, by rw [e, hl1, hT], ?_, fun j hj => by have := hf1 j hj; omega, keep3 hk (by omega) _ _ _, fun h => by rw [e] at h ⊢; exact ha1 h, by rw [e]; exact hn1⟩
        rw [e]
        exact ((hr1.set (p := ⟨w.heap.size + 1, 0, none⟩) hnm _).set (p := ⟨w.heap.size + 1, 1, none⟩) hnm _).set (p := ⟨w.heap.size + 1, 2, none⟩) hnm _
      have FIN := Lib.hid fin
      clear fin e hlt hT hU hl1 hl2 hb3 hb4 hbr hr1 hr2 hf1 hf2 hk ha1 ha2 hn1 hn2
      go_wp2_with fail
      exact ret_slot rfl (w.heap.size + 1) _ _ _ rfl (FIN.out _ rfl).1 rfl (FIN.out _ rfl).2
  go_wp2_with fail
  have hK0 : Keeps w ((w.alloc (.cells #[.pointer (some ⟨b, 0, none⟩), .int .i64 half] 85)).alloc (.cells #[.int .i64 0, .slice none 0 0, .int .u64 0] 98)) [] := ((Keeps.refl w []).alloc _).alloc _
  have hD0 : Blk ((w.alloc (.cells #[.pointer (some ⟨b, 0, none⟩), .int .i64 half] 85)).alloc (.cells #[.int .i64 0, .slice none 0 0, .int .u64 0] 98)) w.heap.size 85 #[.pointer (some ⟨b, 0, none⟩), .int .i64 half] := (Blk.new w _ _).alloc _
  obtain ⟨W, hW⟩ : ∃ W, W = ((w.alloc (.cells #[.pointer (some ⟨b, 0, none⟩), .int .i64 half] 85)).alloc (.cells #[.int .i64 0, .slice none 0 0, .int .u64 0] 98)) := ⟨_, rfl⟩
  have hWs : W.heap.size = w.heap.size + 2 := by rw [hW]; simp
  have hws : w.heap.size < W.heap.size := by omega
  rw [← hW] at hK0 hD0 ⊢
  have c0 : W.cell? ⟨w.heap.size, 0, none⟩ = some (.pointer (some ⟨b, 0, none⟩)) := hD0.cell 0
  have c1 : W.cell? ⟨w.heap.size, 1, none⟩ = some (.int .i64 half) := hD0.cell 1
  have HWS := Lib.hid (And.intro hW (And.intro hWs (And.intro hD0 (H.out.1.nil hK0))))
  have HK0 := Lib.hid hK0
  clear hK0
  clear hW hWs hD0
  have hp1 := cell_alloc_past
  have hp2 := frozen_alloc_past
  go_region_held_law (fun w' => w'.cell? ⟨w.heap.size, 0, none⟩ = some (.pointer (some ⟨b, 0, none⟩)) ∧ w'.cell? ⟨w.heap.size, 1, none⟩ = some (.int .i64 half)) (first | (go_keep; done) | (go_split_ands; and_intros <;> (repeat' (first | with_reducible assumption | (rw [World.cell?_drew]) | (rw [World.cell?_setCell_other _ _ _ _ (by first | (simp; omega) | (simp; done))]) | (rw [cell_alloc_past _ _ _ _ (by first | omega | (simp only [World.size_setCell]; omega))])))))
    ((first
      | ((with_reducible refine (hold0 b last now loose fp _ half (HWS.out.2.2.2.nil (by (repeat' (first | with_reducible assumption | with_reducible exact Keeps.refl _ _ | with_reducible apply Keeps.drew | with_reducible apply Keeps.alloc)))) H.out.2.1 H.out.2.2.1 H.out.2.2.2).mono ?_)
         rintro e w1 ⟨a1, A1, n1, fr1, rfl, hr1, hf1, hk1, ha1, hn1⟩
         have hK1 : Keeps W w1 [] := Keeps.trans (by (repeat' (first | with_reducible assumption | with_reducible exact Keeps.refl _ _ | with_reducible apply Keeps.drew | with_reducible apply Keeps.alloc))) hk1 (by simp)
         have e01 : w1.cell? ⟨w.heap.size, 0, none⟩ = some (.pointer (some ⟨b, 0, none⟩)) := (HWS.out.2.2.1.keeps hK1 (by simp)).cell 0
         have e11 : w1.cell? ⟨w.heap.size, 1, none⟩ = some (.int .i64 half) := (HWS.out.2.2.1.keeps hK1 (by simp)).cell 1
         have hC1 := hk1.cells
         have hM1 := hk1.marks
         have hS1 := hk1.size
         repeat (first | rw [heap_drew] at hS1 | rw [World.size_alloc] at hS1)
         have hL0 : w.heap.size < w1.heap.size := by omega
         try have hL1 : W.heap.size < w1.heap.size := by omega
         try have hL2 : W.heap.size + 1 < w1.heap.size := by omega
         have HK1 := Lib.hid (And.intro hr1 (And.intro hf1 (And.intro hk1 (And.intro ha1 hn1))))
         clear hr1 hf1 hk1 ha1 hn1)
      | ((with_reducible refine (hold1 b last now loose fp _ half (HWS.out.2.2.2.nil (by (repeat' (first | with_reducible assumption | with_reducible exact Keeps.refl _ _ | with_reducible apply Keeps.drew | with_reducible apply Keeps.alloc)))) H.out.2.1 H.out.2.2.1 H.out.2.2.2).mono ?_)
         rintro e w2 ⟨a2, A2, n2, fr2, rfl, hr2, hf2, hk2, ha2, hn2⟩
         have hK2 : Keeps W w2 [] := Keeps.trans (by (repeat' (first | with_reducible assumption | with_reducible exact Keeps.refl _ _ | with_reducible apply Keeps.drew | with_reducible apply Keeps.alloc))) hk2 (by simp)
         have e02 : w2.cell? ⟨w.heap.size, 0, none⟩ = some (.pointer (some ⟨b, 0, none⟩)) := (HWS.out.2.2.1.keeps hK2 (by simp)).cell 0
         have e12 : w2.cell? ⟨w.heap.size, 1, none⟩ = some (.int .i64 half) := (HWS.out.2.2.1.keeps hK2 (by simp)).cell 1
         have hC2 := hk2.cells
         have hM2 := hk2.marks
         have hS2 := hk2.size
         repeat (first | rw [heap_drew] at hS2 | rw [World.size_alloc] at hS2)
         have hL7 : w.heap.size < w2.heap.size := by omega
         try have hL3 : W.heap.size < w2.heap.size := by omega
         try have hL4 : W.heap.size + 1 < w2.heap.size := by omega
         try have hL5 : w1.heap.size < w2.heap.size := by omega
         try have hL6 : w1.heap.size + 1 < w2.heap.size := by omega
         have HK2 := Lib.hid (And.intro hr2 (And.intro hf2 (And.intro hk2 (And.intro ha2 hn2))))
         clear hr2 hf2 hk2 ha2 hn2)))
  all_goals
    clear hC1 hM1 hS1 hC2 hM2 hS2 hL0 hL7 hp1 hp2 c0 c1 e01 e11 e02 e12 hK1 hws
    try clear hL1
    try clear hL2
    try clear hL3
    try clear hL4
    try clear hL5
    try clear hL6
    go_wp2_with fail
    go_meet
    have hWa := HWS.out.2.1
    have hz1 := HK1.out.2.2.1.size
    have hz2 := HK2.out.2.2.1.size
    repeat (first | rw [heap_drew] at hz1 | rw [World.size_alloc] at hz1)
    repeat (first | rw [heap_drew] at hz2 | rw [World.size_alloc] at hz2)
    have hbr : Blk W (w.heap.size + 1) 98 #[.int .i64 0, .slice none 0 0, .int .u64 0] := by
      rw [HWS.out.1]; exact Blk.new' _ (by simp) _ _
    have fr1b : ∀ j ∈ fr1, W.heap.size ≤ j ∧ j < w1.heap.size := fun j hm => by
      have h1 := HK1.out.2.1 j hm
      have h2 := HK1.out.1.lt j hm
      repeat (first | rw [heap_drew] at h1 | rw [World.size_alloc] at h1)
      omega
    refine ⟨_, _, a1, a2, n1, n2, A1, A2, fr1, fr2, rfl, rfl, ?_, ?_, ?_, ?_, ?_, ?_, ?_, ?_, HK1.out.2.2.2.1, HK2.out.2.2.2.1, HK1.out.2.2.2.2, HK2.out.2.2.2.2⟩
    · repeat' (first | with_reducible assumption | (with_reducible refine Blk.new' _ (by first | with_reducible rfl | (rw [World.size_alloc]; done) | (simp only [World.size_setCell]; done) | (rw [World.size_alloc]; simp only [World.size_setCell]; done)) _ _) | with_reducible apply Blk.drew | (with_reducible refine Blk.alloc ?_ _) | (with_reducible refine Blk.far ?_ (by dsimp only; omega) _) | with_reducible apply blk_set2 | with_reducible apply blk_set1 | with_reducible apply blk_set0 | (with_reducible refine Blk.keeps ?_ HK2.out.2.2.1 (by simp)) | (with_reducible refine Blk.keeps ?_ HK1.out.2.2.1 (by simp)))
    · repeat' (first | with_reducible assumption | (with_reducible refine Blk.new' _ (by first | with_reducible rfl | (rw [World.size_alloc]; done) | (simp only [World.size_setCell]; done) | (rw [World.size_alloc]; simp only [World.size_setCell]; done)) _ _) | with_reducible apply Blk.drew | (with_reducible refine Blk.alloc ?_ _) | (with_reducible refine Blk.far ?_ (by dsimp only; omega) _) | with_reducible apply blk_set2 | with_reducible apply blk_set1 | with_reducible apply blk_set0 | (with_reducible refine Blk.keeps ?_ HK2.out.2.2.1 (by simp)) | (with_reducible refine Blk.keeps ?_ HK1.out.2.2.1 (by simp)))
    · repeat' (first | with_reducible assumption | (with_reducible refine Blk.new' _ (by first | with_reducible rfl | (rw [World.size_alloc]; done) | (simp only [World.size_setCell]; done) | (rw [World.size_alloc]; simp only [World.size_setCell]; done)) _ _) | with_reducible apply Blk.drew | (with_reducible refine Blk.alloc ?_ _) | (with_reducible refine Blk.far ?_ (by dsimp only; omega) _) | with_reducible apply blk_set2 | with_reducible apply blk_set1 | with_reducible apply blk_set0 | (with_reducible refine Blk.keeps ?_ HK2.out.2.2.1 (by simp)) | (with_reducible refine Blk.keeps ?_ HK1.out.2.2.1 (by simp)))
    · repeat' (first | with_reducible exact HK1.out.1 | with_reducible apply Reads.drew | (with_reducible refine Reads.alloc ?_ _) | (with_reducible refine Reads.set ?_ (fun hm => by have h1 := HK1.out.2.1 _ hm; have h2 := HK1.out.1.lt _ hm; dsimp only at h1 h2; (repeat (first | rw [heap_drew] at h1 | rw [World.size_alloc] at h1)); omega) _) | (with_reducible refine Reads.keeps ?_ HK2.out.2.2.1 (by simp)))
    · repeat' (first | with_reducible exact HK2.out.1 | with_reducible apply Reads.drew | (with_reducible refine Reads.alloc ?_ _) | (with_reducible refine Reads.set ?_ (fun hm => by have h1 := HK2.out.2.1 _ hm; have h2 := HK2.out.1.lt _ hm; dsimp only at h1 h2; (repeat (first | rw [heap_drew] at h1 | rw [World.size_alloc] at h1)); omega) _))
    · exact fun j hm => by have := (fr1b j hm).1; omega
    · exact fun j hm => by
        have h1 := HK2.out.2.1 j hm
        repeat (first | rw [heap_drew] at h1 | rw [World.size_alloc] at h1)
        omega
    · repeat' (first | with_reducible exact HK0.out | with_reducible apply Keeps.drew | (with_reducible refine Keeps.alloc ?_ _) | (with_reducible refine Keeps.setCell ?_ (.inr (by simp; omega)) _) | with_reducible exact Keeps.trans HK0.out hK2 (by simp))
end

end Go.Proofs.Ytecjhaohabjkbaa
