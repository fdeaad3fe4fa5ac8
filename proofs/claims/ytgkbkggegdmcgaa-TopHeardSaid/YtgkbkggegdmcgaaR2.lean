/-
  CONTRACTS: heliographref10.Queue: Resume, Fork.
-/
import Derived.Test.YtgkbkggegdmcgaaR1
namespace Go.Proofs.Ytgkbkggegdmcgaa
open Go.RowKit
set_option linter.unusedVariables false

section
variable (b : Nat) (acked got : Int) (ss : List ByteArray) (fp : List Nat) (h : Int) (n : Nat) (w : World)

theorem rresume_range (hq : RRep w b acked got ss fp) (hL : (h - acked) % 4294967296 = n) (hl : ss.length < n) :
    Calls Try.prog 34 #[.pointer (some ⟨b, 0, none⟩), .int .u32 h] w fun e w' => e = .returned (.tuple #[.slice none 0 0, .int .i64 2]) ∧ w = w' := by
  have H := Lib.hid (rack_range b acked got ss fp w h n hq hL hl)
  clear hL hl hq
  go_enter Try.func34, Try.ntmps34
  go_wp2_with fail
  refine H.out.mono ?_
  rintro e w1 ⟨rfl, rfl⟩
  go_wp2_with fail
  go_ret2
  exact ⟨rfl, rfl⟩

/-- what Resume leaves: all that still waits is answered, in new blocks. -/
def RResumeLeft (w : World) (fp : List Nat) (b : Nat) (acked got : Int) (ss : List ByteArray) (k : Nat) (e : Ending) (w' : World) : Prop :=
  ∃ fp' v fo, e = .returned (.tuple #[v, .int .i64 0]) ∧ RRep w' b acked got (ss.drop k) fp' ∧ Own w' 9 1 v (ss.drop k).length (strs (ss.drop k)) fo ∧
    (∀ j ∈ fo, w.heap.size ≤ j ∧ j ∉ fp') ∧ Keeps w w' fp ∧ ∀ j ∈ fp', j ∈ fp ∨ w.heap.size ≤ j

theorem rresume_ok (hq : RRep w b acked got ss fp) (hL : (h - acked) % 4294967296 = n) (hl : n ≤ ss.length) (hm : ss.length ≤ 16) :
    Calls Try.prog 34 #[.pointer (some ⟨b, 0, none⟩), .int .u32 h] w (RResumeLeft w fp b h got ss n) := by
  have H := Lib.hid (rack_ok b acked got ss fp w h n hq hL hl hm)
  have Hm := Lib.hid hm
  clear hL hl hm
  go_enter Try.func34, Try.ntmps34
  go_wp2_with fail
  refine H.out.mono ?_
  rintro e w1 ⟨fp1, v1, fo, rfl, hq1, hr1, hd1, hk1, hn1⟩
  have H1 := Lib.hid hd1; clear hd1
  have H2 := Lib.hid hn1; clear hn1
  go_wp2_with fail
  refine (rwaiting_calls b h got _ fp1 w1 hq1 (by have := Hm.out; rw [List.length_drop]; omega)).mono ?_
  rintro e w2 ⟨v, fv, rfl, hown, hk2, hn2⟩
  go_wp2_with fail
  go_ret2
  have hs1 := hk1.size
  refine ⟨fp1, v, fv, rfl, hq1.keeps hk2 (by simp), hown, ?_, hk1.trans hk2 (by simp), H2.out⟩
  intro j hj
  have h1 := hn2 j hj
  refine ⟨by omega, fun hm => ?_⟩
  have h2 := hq1.lt j hm
  omega

/-- what a fork leaves: the same in new blocks. -/
def RForked (w : World) (acked got : Int) (ss : List ByteArray) (e : Ending) (w' : World) : Prop :=
  ∃ b' fp', e = .returned (.pointer (some ⟨b', 0, none⟩)) ∧ RRep w' b' acked got ss fp' ∧ Keeps w w' [] ∧ ∀ k ∈ fp', w.heap.size ≤ k

set_option maxHeartbeats 400000 in
theorem rfork_calls (hq : RRep w b acked got ss fp) (hn : ss.length ≤ 16) :
    Calls Try.prog 25 #[.pointer (some ⟨b, 0, none⟩)] w (RForked w acked got ss) := by
  have hq0 := hq
  obtain ⟨v, fv, hb, ho, hbf, rfl⟩ := hq
  have c1 : w.cell? ⟨b, 1, none⟩ = some (.int .u32 acked) := hb.cell 1
  have c2 : w.cell? ⟨b, 2, none⟩ = some (.int .u32 got) := hb.cell 2
  have H := Lib.hid (And.intro hq0 (And.intro hn hb))
  clear hq0 hn hb ho
  go_enter Try.func25, Try.ntmps25
  go_wp2_with fail
  go_region_held3 (fun w' => w'.cell? ⟨b, 1, none⟩ = some (.int .u32 acked) ∧ w'.cell? ⟨b, 2, none⟩ = some (.int .u32 got)) (go_keep)
    ((go_at_call 31
      refine (rwaiting_calls b acked got ss _ _ (H.out.1.keeps (Keeps.refl w []).drew (by simp)) H.out.2.1).mono ?_
      rintro e w1 ⟨v, fv1, rfl, hown, hkeep, hfv1⟩
      obtain ⟨A1, n1, rfl, -, -⟩ := hown.form
      have hb1 := H.out.2.2.drew.keeps hkeep (by simp)
      have d1 : w1.cell? ⟨b, 1, none⟩ = some (.int .u32 acked) := hb1.cell 1
      have d2 : w1.cell? ⟨b, 2, none⟩ = some (.int .u32 got) := hb1.cell 2))
  all_goals
    go_wp2_with fail
    go_ret
    have hsz := hkeep.size
    simp only [heap_drew] at hsz hfv1
    refine ⟨w1.heap.size, w1.heap.size :: fv1, rfl, ⟨_, fv1, Blk.new _ _ _, hown.alloc _, ?_, rfl⟩, hkeep.ofDrew.alloc _, ?_⟩
    · intro hm
      have := hown.lt _ hm
      omega
    · intro k hk
      rcases List.mem_cons.1 hk with rfl | hk
      · exact hsz
      · exact hfv1 k hk
end

end Go.Proofs.Ytgkbkggegdmcgaa
