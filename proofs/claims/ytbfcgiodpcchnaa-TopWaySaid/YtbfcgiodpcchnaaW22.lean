/-
  CONTRACT: heliographtop.TopWay.
-/
import Derived.Test.YtbfcgiodpcchnaaW21
namespace Go.Proofs.Ytbfcgiodpcchnaa
open Go.RowKit
set_option linter.unusedVariables false
attribute [local go_sem] Oper.semAt_some

set_option maxHeartbeats 3200000 in
set_option maxRecDepth 100000 in
theorem way_wrong_a (l1 d1 r1 l2 d2 r2 : ByteArray) (z : Int) (w : World) (m : l1.size ≤ maxLen ∧ d1.size ≤ maxLen ∧ r1.size ≤ maxLen) (m' : l2.size ≤ maxLen ∧ d2.size ≤ maxLen ∧ r2.size ≤ maxLen)
    (h1 : ¬ isRight l1 d1 r1) :
    Calls Try.prog 4 #[.agg #[.string l1, .string d1, .string r1], .agg #[.string l2, .string d2, .string r2], .int .u8 z] w fun e w' => e = .returned (.bool true) ∧ Keeps w w' [] := by
  have hpa := fun wx => print_wrong l1 d1 r1 wx m.1 m.2.1 m.2.2 h1
  obtain ⟨s, k, hpb⟩ : ∃ s k, ∀ wx, Calls Try.prog 10 #[.agg #[.string l2, .string d2, .string r2]] wx fun e w' => e = .returned (.tuple #[.string s, .int .i64 k]) ∧ Keeps wx w' [] := by
    by_cases h : isRight l2 d2 r2
    · exact ⟨_, _, fun wx => print_right l2 d2 r2 wx m'.1 m'.2.1 m'.2.2 h⟩
    · exact ⟨_, _, fun wx => print_wrong l2 d2 r2 wx m'.1 m'.2.1 m'.2.2 h⟩
  have hra := fun wx => right_calls l1 d1 r1 wx m.1 m.2.1 m.2.2 false (by simp [h1])
  have H := Lib.hid (And.intro hpa (And.intro hpb hra))
  clear hpa hpb hra h1 m m'
  go_enter Try.func4, Try.ntmps4
  go_wp2_with fail
  refine (H.out.1 _).mono ?_
  rintro e w1 ⟨rfl, hk1⟩
  have hb1 := (Blk.new' (w.alloc (.cells #[.string l1, .string d1, .string r1] 30)) (n := w.heap.size + 1) (by simp) 30 #[.string l2, .string d2, .string r2]).keeps hk1 (by simp)
  have ha1 := ((Blk.new w 30 #[.string l1, .string d1, .string r1]).alloc (.cells #[.string l2, .string d2, .string r2] 30)).keeps hk1 (by simp)
  have z0 : w1.cell? ⟨w.heap.size + 1, 0, none⟩ = some (.string l2) := hb1.cell 0
  have z1 : w1.cell? ⟨w.heap.size + 1, 1, none⟩ = some (.string d2) := hb1.cell 1
  have z2 : w1.cell? ⟨w.heap.size + 1, 2, none⟩ = some (.string r2) := hb1.cell 2
  have HK1 := Lib.hid (And.intro ((((Keeps.refl w []).alloc _).alloc _).trans hk1 (by simp)) ha1)
  clear hk1 hb1 ha1
  go_wp2_with fail
  refine (H.out.2.1 _).mono ?_
  rintro e w2 ⟨rfl, hk2⟩
  have ha2 := HK1.out.2.keeps hk2 (by simp)
  have y0 : w2.cell? ⟨w.heap.size, 0, none⟩ = some (.string l1) := ha2.cell 0
  have y1 : w2.cell? ⟨w.heap.size, 1, none⟩ = some (.string d1) := ha2.cell 1
  have y2 : w2.cell? ⟨w.heap.size, 2, none⟩ = some (.string r1) := ha2.cell 2
  have HK2 := Lib.hid (HK1.out.1.trans hk2 (by simp))
  clear hk2 ha2 z0 z1 z2
  go_wp2_with fail
  refine (H.out.2.2 _).mono ?_
  rintro e w3 ⟨rfl, hk3⟩
  have HK3 := Lib.hid (HK2.out.trans hk3 (by simp))
  clear hk3 y0 y1 y2
  go_wp2_with fail
  go_ret
  exact ⟨rfl, HK3.out⟩

set_option maxHeartbeats 3200000 in
set_option maxRecDepth 100000 in
theorem way_wrong_b (l1 d1 r1 l2 d2 r2 : ByteArray) (z : Int) (w : World) (m : l1.size ≤ maxLen ∧ d1.size ≤ maxLen ∧ r1.size ≤ maxLen) (m' : l2.size ≤ maxLen ∧ d2.size ≤ maxLen ∧ r2.size ≤ maxLen)
    (h1 : isRight l1 d1 r1) (h2 : ¬ isRight l2 d2 r2) :
    Calls Try.prog 4 #[.agg #[.string l1, .string d1, .string r1], .agg #[.string l2, .string d2, .string r2], .int .u8 z] w fun e w' => e = .returned (.bool true) ∧ Keeps w w' [] := by
  have hpa := fun wx => print_right l1 d1 r1 wx m.1 m.2.1 m.2.2 h1
  have hpb := fun wx => print_wrong l2 d2 r2 wx m'.1 m'.2.1 m'.2.2 h2
  have hra := fun wx => right_calls l1 d1 r1 wx m.1 m.2.1 m.2.2 true (by simp [h1])
  have hrb := fun wx => right_calls l2 d2 r2 wx m'.1 m'.2.1 m'.2.2 false (by simp [h2])
  have H := Lib.hid (And.intro hpa (And.intro hpb (And.intro hra hrb)))
  clear hpa hpb hra hrb h1 h2 m m'
  go_enter Try.func4, Try.ntmps4
  go_wp2_with fail
  refine (H.out.1 _).mono ?_
  rintro e w1 ⟨rfl, hk1⟩
  have hb1 := (Blk.new' (w.alloc (.cells #[.string l1, .string d1, .string r1] 30)) (n := w.heap.size + 1) (by simp) 30 #[.string l2, .string d2, .string r2]).keeps hk1 (by simp)
  have ha1 := ((Blk.new w 30 #[.string l1, .string d1, .string r1]).alloc (.cells #[.string l2, .string d2, .string r2] 30)).keeps hk1 (by simp)
  have z0 : w1.cell? ⟨w.heap.size + 1, 0, none⟩ = some (.string l2) := hb1.cell 0
  have z1 : w1.cell? ⟨w.heap.size + 1, 1, none⟩ = some (.string d2) := hb1.cell 1
  have z2 : w1.cell? ⟨w.heap.size + 1, 2, none⟩ = some (.string r2) := hb1.cell 2
  have HK1 := Lib.hid (And.intro ((((Keeps.refl w []).alloc _).alloc _).trans hk1 (by simp)) (And.intro ha1 hb1))
  clear hk1 hb1 ha1
  go_wp2_with fail
  refine (H.out.2.1 _).mono ?_
  rintro e w2 ⟨rfl, hk2⟩
  have ha2 := HK1.out.2.1.keeps hk2 (by simp)
  have hb2 := HK1.out.2.2.keeps hk2 (by simp)
  have y0 : w2.cell? ⟨w.heap.size, 0, none⟩ = some (.string l1) := ha2.cell 0
  have y1 : w2.cell? ⟨w.heap.size, 1, none⟩ = some (.string d1) := ha2.cell 1
  have y2 : w2.cell? ⟨w.heap.size, 2, none⟩ = some (.string r1) := ha2.cell 2
  have HK2 := Lib.hid (And.intro (HK1.out.1.trans hk2 (by simp)) hb2)
  clear hk2 ha2 hb2 z0 z1 z2
  go_wp2_with fail
  refine (H.out.2.2.1 _).mono ?_
  rintro e w3 ⟨rfl, hk3⟩
  have hb3 := HK2.out.2.keeps hk3 (by simp)
  have x0 : w3.cell? ⟨w.heap.size + 1, 0, none⟩ = some (.string l2) := hb3.cell 0
  have x1 : w3.cell? ⟨w.heap.size + 1, 1, none⟩ = some (.string d2) := hb3.cell 1
  have x2 : w3.cell? ⟨w.heap.size + 1, 2, none⟩ = some (.string r2) := hb3.cell 2
  have HK3 := Lib.hid (HK2.out.1.trans hk3 (by simp))
  clear hk3 hb3 y0 y1 y2
  go_wp2_with fail
  refine (H.out.2.2.2 _).mono ?_
  rintro e w4 ⟨rfl, hk4⟩
  have HK4 := Lib.hid (HK3.out.trans hk4 (by simp))
  clear hk4 x0 x1 x2
  go_wp2_with fail
  go_ret
  exact ⟨rfl, HK4.out⟩

end Go.Proofs.Ytbfcgiodpcchnaa
