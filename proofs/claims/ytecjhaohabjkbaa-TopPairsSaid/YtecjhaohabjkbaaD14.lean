/-
  CONTRACTS: Fork of the device.
-/
import Derived.Test.YtecjhaohabjkbaaD9
namespace Go.Proofs.Ytecjhaohabjkbaa
open Go.RowKit
set_option linter.unusedVariables false

/-- what a Fork leaves: another device with the same, new. -/
def DForked (w : World) (last now : List Sec) (loose : List Wr) (e : Ending) (w' : World) : Prop :=
  ∃ b fp, e = .returned (.pointer (some ⟨b, 0, none⟩)) ∧ DRep w' b last now loose fp ∧ Keeps w w' [] ∧ ∀ k ∈ fp, w.heap.size ≤ k

theorem fork_nil (w : World) : Calls Try.prog 46 #[.pointer none] w fun e w' => e = .returned (.pointer none) ∧ w = w' := by
  go_enter Try.func46, Try.ntmps46
  go_wp2_with fail
  go_ret
  exact ⟨rfl, rfl⟩

set_option maxHeartbeats 2000000 in set_option maxRecDepth 100000 in
theorem fork_ok (b : Nat) (last now : List Sec) (loose : List Wr) (fp : List Nat) (w : World) (hd : DRep w b last now loose fp) (h1 : last.length ≤ 4096) (h2 : now.length ≤ 4096) (h3 : loose.length ≤ 100000) :
    Calls Try.prog 46 #[.pointer (some ⟨b, 0, none⟩)] w (DForked w last now loose) := by
  obtain ⟨vL, vN, vW, fL, fN, fW, hb, hL, hN, hW, ha, rfl⟩ := hd
  obtain ⟨AL, cL, rfl, -, frL, hrL, -⟩ := hL.form
  obtain ⟨AN, cN, rfl, -, frN, hrN, -⟩ := hN.form
  obtain ⟨AW, cW, rfl, -, frW, hrW, -⟩ := hW.form
  have c0 : w.cell? ⟨b, 0, none⟩ = some (.slice AL last.length cL) := hb.cell 0
  have c1 : w.cell? ⟨b, 1, none⟩ = some (.slice AN now.length cN) := hb.cell 1
  have c2 : w.cell? ⟨b, 2, none⟩ = some (.slice AW loose.length cW) := hb.cell 2
  have hbl : b < w.heap.size := hb.lt
  have H := Lib.hid (And.intro hb (And.intro hrL (And.intro hrN hrW)))
  clear hb hL hN hW ha hrL hrN hrW
  go_enter Try.func46, Try.ntmps46
  go_wp2_with fail
  go_region_held3 (fun w' => w'.cell? ⟨b, 0, none⟩ = some (.slice AL last.length cL) ∧ w'.cell? ⟨b, 1, none⟩ = some (.slice AN now.length cN) ∧ w'.cell? ⟨b, 2, none⟩ = some (.slice AW loose.length cW)) (go_keep)
    (first
      | (go_at_call 65
         first
           | (refine (clone_Sec AL cL last frL w.drew H.out.2.1.drew (by omega)).mono ?_
              rintro e w1 ⟨v1, fv1, rfl, hown1, hk1, hn1⟩
              obtain ⟨A1, n1, rfl, -, -⟩ := hown1.form
              have hb1 := H.out.1.drew.keeps hk1 (by simp)
              have d0 : w1.cell? ⟨b, 0, none⟩ = some (.slice AL last.length cL) := hb1.cell 0
              have d1 : w1.cell? ⟨b, 1, none⟩ = some (.slice AN now.length cN) := hb1.cell 1
              have d2 : w1.cell? ⟨b, 2, none⟩ = some (.slice AW loose.length cW) := hb1.cell 2
              have l1 : b < w1.heap.size := hb1.lt)
           | (refine (clone_Sec AN cN now frN w1 (H.out.2.2.1.drew.keeps hk1 (by simp)) (by omega)).mono ?_
              rintro e w2 ⟨v2, fv2, rfl, hown2, hk2, hn2⟩
              obtain ⟨A2, n2, rfl, -, -⟩ := hown2.form
              have hb2 := hb1.keeps hk2 (by simp)
              have d3 : w2.cell? ⟨b, 0, none⟩ = some (.slice AL last.length cL) := hb2.cell 0
              have d4 : w2.cell? ⟨b, 1, none⟩ = some (.slice AN now.length cN) := hb2.cell 1
              have d5 : w2.cell? ⟨b, 2, none⟩ = some (.slice AW loose.length cW) := hb2.cell 2
              have l2 : b < w2.heap.size := hb2.lt))
      | (go_at_call 66
         refine (clone_Wr AW cW loose frW w2 ((H.out.2.2.2.drew.keeps hk1 (by simp)).keeps hk2 (by simp)) (by omega)).mono ?_
         rintro e w3 ⟨v3, fv3, rfl, hown3, hk3, hn3⟩
         obtain ⟨A3, n3, rfl, -, -⟩ := hown3.form
         have hb3 := hb2.keeps hk3 (by simp)
         have d6 : w3.cell? ⟨b, 0, none⟩ = some (.slice AL last.length cL) := hb3.cell 0
         have d7 : w3.cell? ⟨b, 1, none⟩ = some (.slice AN now.length cN) := hb3.cell 1
         have d8 : w3.cell? ⟨b, 2, none⟩ = some (.slice AW loose.length cW) := hb3.cell 2
         have l3 : b < w3.heap.size := hb3.lt))
  all_goals
    go_wp2_with fail
    go_ret
    have hk1' := hk1.ofDrew
    have s1 := hk1'.size
    have s2 := hk2.size
    have s3 := hk3.size
    have m1 := hown1.lt
    have m2 := hown2.lt
    have m3 := hown3.lt
    have hn1' : ∀ k ∈ fv1, w.heap.size ≤ k := hn1
    have o1 := ((hown1.keeps hk2 (by simp)).keeps hk3 (by simp)).alloc (.cells #[.slice A1 last.length n1, .slice A2 now.length n2, .slice A3 loose.length n3] 91)
    have o2 := (hown2.keeps hk3 (by simp)).alloc (.cells #[.slice A1 last.length n1, .slice A2 now.length n2, .slice A3 loose.length n3] 91)
    have o3 := hown3.alloc (.cells #[.slice A1 last.length n1, .slice A2 now.length n2, .slice A3 loose.length n3] 91)
    refine ⟨w3.heap.size, w3.heap.size :: (fv1 ++ (fv2 ++ fv3)), rfl, ⟨_, _, _, fv1, fv2, fv3, Blk.new w3 _ _, o1, o2, o3,
      ⟨fun h => by have := m1 _ h; omega, fun h => by have := m2 _ h; omega, fun h => by have := m3 _ h; omega, fun k h1 h2 => by have := m1 k h1; have := hn2 k h2; omega, fun k h1 h2 => by have := m1 k h1; have := hn3 k h2; omega, fun k h1 h2 => by have := m2 k h1; have := hn3 k h2; omega⟩, rfl⟩,
      ((hk1'.trans hk2 (by simp)).trans hk3 (by simp)).alloc _, fun k hk => ?_⟩
    simp only [List.mem_cons, List.mem_append] at hk
    rcases hk with h | h | h | h
    · omega
    · exact hn1' k h
    · have := hn2 k h; omega
    · have := hn3 k h; omega

end Go.Proofs.Ytecjhaohabjkbaa
