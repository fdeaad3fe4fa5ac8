/-
  CONTRACTS: Fork of the document's device.
-/
import Derived.Test.YtecjhaohabjkbaaD14
namespace Go.Proofs.Ytecjhaohabjkbaa
open Go.RowKit
set_option linter.unusedVariables false

/-- what a Fork leaves: another device with the same, new. -/
def RForked (w : World) (l : List Sec) (pend : List Wr) (e : Ending) (w' : World) : Prop :=
  ∃ b fp, e = .returned (.pointer (some ⟨b, 0, none⟩)) ∧ RRep w' b l pend fp ∧ Keeps w w' [] ∧ ∀ k ∈ fp, w.heap.size ≤ k
theorem rfork_end {w W : World} {l : List Sec} {pend : List Wr} {v1 v2 : Value} {f1 f2 : List Nat} (o1 : Own W 62 64 v1 l.length (secs l) f1) (o2 : Own W 110 65 v2 pend.length (wrs pend) f2)
    (hK : Keeps w W []) (n1 : ∀ k ∈ f1, w.heap.size ≤ k) (n2 : ∀ k ∈ f2, w.heap.size ≤ k) (ap : ∀ k ∈ f1, k ∉ f2) :
    RForked w l pend (.returned (.pointer (some ⟨W.heap.size, 0, none⟩))) (W.alloc (.cells #[v1, v2] 108)) := by
  have s := hK.size
  have m1 := o1.lt
  have m2 := o2.lt
  refine ⟨W.heap.size, W.heap.size :: (f1 ++ f2), rfl, ⟨_, _, f1, f2, Blk.new W _ _, o1.alloc _, o2.alloc _, fun h => by have := m1 _ h; omega, fun h => by have := m2 _ h; omega, ap, rfl⟩, hK.alloc _, fun k hk => ?_⟩
  simp only [List.mem_cons, List.mem_append] at hk
  rcases hk with h | h | h
  · omega
  · exact n1 k h
  · exact n2 k h

set_option maxHeartbeats 2000000 in set_option maxRecDepth 100000 in
theorem rfork_ok (b : Nat) (l : List Sec) (pend : List Wr) (fp : List Nat) (w : World) (hd : RRep w b l pend fp) (h1 : l.length ≤ 4096) (h2 : pend.length ≤ 100000) :
    Calls Try.prog 61 #[.pointer (some ⟨b, 0, none⟩)] w (RForked w l pend) := by
  obtain ⟨vL, vP, fL, fP, hb, hL, hP, -, -, -, rfl⟩ := hd
  obtain ⟨AL, cL, rfl, -, frL, hrL, -⟩ := hL.form
  obtain ⟨AP, cP, rfl, -, frP, hrP, -⟩ := hP.form
  obtain ⟨i0, hi0, hz0, hz1, hz2⟩ := info_parts info_rsec
  obtain ⟨i1, hi1, hy0, hy1, hy2⟩ := info_parts info_rwr
  have c0 : w.cell? ⟨b, 0, none⟩ = some (.slice AL l.length cL) := hb.cell 0
  have c1 : w.cell? ⟨b, 1, none⟩ = some (.slice AP pend.length cP) := hb.cell 1
  have hbl : b < w.heap.size := hb.lt
  have hne : b ≠ w.heap.size := by omega
  have hne1 : b ≠ w.heap.size + 1 := by omega
  have HA := Lib.hid (And.intro hi0 (And.intro hz0 (And.intro hz1 (And.intro hz2 (And.intro hi1 (And.intro hy0 (And.intro hy1 hy2)))))))
  have o1 := secs_one l
  have o2 := wrs_one pend
  have H := Lib.hid (And.intro hb (And.intro hrL (And.intro hrP (And.intro o1 o2))))
  clear hb hL hP hrL hrP hi0 hz0 hz1 hz2 hi1 hy0 hy1 hy2 o1 o2
  go_enter Try.func61, Try.ntmps61
  go_wp2_with fail
  go_region_held3 (fun w' => w'.cell? ⟨b, 0, none⟩ = some (.slice AL l.length cL) ∧ w'.cell? ⟨b, 1, none⟩ = some (.slice AP pend.length cP) ∧ b < w'.heap.size) ((and_intros <;> first | (go_keep; done) | (go_split_ands; simp [*]; omega)))
    (first
      | (refine step_append_mine _ rfl (.tmp 5) (.tmp 9) _ _ rfl 62 i0 _ 64 64 Try.underlying105 HA.out.1 HA.out.2.1 HA.out.2.2.1 HA.out.2.2.2.1 rfl _ 0 [] [] rfl (Own.bare _ _ _ _) _ l.length (secs l) rfl ?src (by unfold maxLen; omega) (by omega) ?_
         case src =>
           refine Reads.src Try.underlying105 (Reads.keeps H.out.2.1 (fp' := []) ?_ (by simp)) H.out.2.2.2.1 cL
           repeat' first | with_reducible exact Keeps.refl _ _ | with_reducible exact K2 | with_reducible apply Keeps.drew | with_reducible apply Keeps.alloc
         intro v1 w1 f1 hown1 hkeep1 hf1
         simp only [Nat.zero_add, List.nil_append] at hown1
         obtain ⟨A1, n1, rfl, -, -⟩ := hown1.form
         have K1 : Keeps w w1 [] := by
           refine Keeps.trans ?_ hkeep1 (by simp)
           repeat' first | with_reducible exact Keeps.refl _ _ | with_reducible exact K2 | with_reducible apply Keeps.drew | with_reducible apply Keeps.alloc
         have hb1 := H.out.1.keeps K1 (by simp)
         have d0 : w1.cell? ⟨b, 0, none⟩ = some (.slice AL l.length cL) := hb1.cell 0
         have d1 : w1.cell? ⟨b, 1, none⟩ = some (.slice AP pend.length cP) := hb1.cell 1
         have l1 : b < w1.heap.size := hb1.lt)
      | (refine step_append_mine _ rfl (.tmp 11) (.tmp 15) _ _ rfl 110 i1 _ 65 72 Try.underlying106 HA.out.2.2.2.2.1 HA.out.2.2.2.2.2.1 HA.out.2.2.2.2.2.2.1 HA.out.2.2.2.2.2.2.2 rfl _ 0 [] [] rfl (Own.bare _ _ _ _) _ pend.length (wrs pend) rfl ?src (by unfold maxLen; omega) (by omega) ?_
         case src =>
           refine Reads.src Try.underlying106 (Reads.keeps H.out.2.2.1 (fp' := []) ?_ (by simp)) H.out.2.2.2.2 cP
           repeat' first | with_reducible exact Keeps.refl _ _ | with_reducible exact K1 | with_reducible apply Keeps.drew | with_reducible apply Keeps.alloc
         intro v2 w2 f2 hown2 hkeep2 hf2
         simp only [Nat.zero_add, List.nil_append] at hown2
         obtain ⟨A2, n2, rfl, -, -⟩ := hown2.form
         have K2 : Keeps w w2 [] := by
           refine Keeps.trans ?_ hkeep2 (by simp)
           repeat' first | with_reducible exact Keeps.refl _ _ | with_reducible exact K1 | with_reducible apply Keeps.drew | with_reducible apply Keeps.alloc
         have hb2 := H.out.1.keeps K2 (by simp)
         have e0 : w2.cell? ⟨b, 0, none⟩ = some (.slice AL l.length cL) := hb2.cell 0
         have e1 : w2.cell? ⟨b, 1, none⟩ = some (.slice AP pend.length cP) := hb2.cell 1
         have l2 : b < w2.heap.size := hb2.lt))
  all_goals
    go_wp2_with fail
    go_ret
    have K12 : Keeps w1 w2 [] := by
      first
        | with_reducible exact hkeep2
        | exact Keeps.trans ((Keeps.refl w1 []).alloc _) hkeep2 (by simp)
    have s1 := K1.size
    have s12 := K12.size
    have n1' : ∀ k ∈ f1, w.heap.size ≤ k := fun k hk => by
      have := hf1 k hk
      simp at this
      omega
    have n2' : ∀ k ∈ f2, w1.heap.size ≤ k := fun k hk => by
      have := hf2 k hk
      simp at this
      omega
    have m1 := hown1.lt
    exact rfork_end (hown1.keeps K12 (by simp)) hown2 K2 n1' (fun k hk => by have := n2' k hk; omega) (fun k h1 h2 => by have := m1 k h1; have := n2' k h2; omega)

end Go.Proofs.Ytecjhaohabjkbaa
