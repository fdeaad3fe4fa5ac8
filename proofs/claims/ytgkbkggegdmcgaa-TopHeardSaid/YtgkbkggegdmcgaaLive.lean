/-
  CONTRACT: heliographlaw10.live.
-/
import Derived.Test.YtgkbkggegdmcgaaR2
import Derived.Test.YtgkbkggegdmcgaaSame
namespace Go.Proofs.Ytgkbkggegdmcgaa
open Go.RowKit
set_option linter.unusedVariables false

set_option maxHeartbeats 800000 in
theorem live_calls (w : World) : Calls Try.prog 16 #[] w fun e w' => e = .returned (.bool true) ∧ Keeps w w' [] := by
  go_enter Try.func16, Try.ntmps16
  go_wp2_with fail
  refine (new_calls w).mono ?_
  rintro e w1 ⟨f1, rfl, hq1, hk1, hn1⟩
  obtain ⟨b, hb⟩ : ∃ b, b = w.heap.size := ⟨_, rfl⟩
  rw [← hb] at hq1 ⊢
  have hbw : w.heap.size ≤ b := by omega
  clear hb
  have H1 := Lib.hid (And.intro hk1 (And.intro hn1 hbw)); clear hk1 hn1 hbw
  go_wp2_with fail
  refine (send_room b 0 0 [] f1 ⟨#[97]⟩ w1 hq1 (by simp)).mono ?_
  rintro e w2 ⟨f2, rfl, hq2, hk2, hn2⟩
  have hq2' : QRep w2 b 1 0 [⟨#[97]⟩] f2 := by simpa using hq2
  have H2 := Lib.hid (And.intro hk2 hn2); clear hk2 hn2 hq2 hq1
  go_wp2_with fail
  refine (send_room b 1 0 _ f2 ⟨#[98]⟩ w2 hq2' (by simp)).mono ?_
  rintro e w3 ⟨f3, rfl, hq3, hk3, hn3⟩
  have hq3' : QRep w3 b 2 0 [⟨#[97]⟩, ⟨#[98]⟩] f3 := by simpa using hq3
  have H3 := Lib.hid (And.intro hk3 hn3); clear hk3 hn3 hq3 hq2'
  go_wp2_with fail
  refine (ack_ok b 2 0 _ f3 1 1 w3 hq3' (by omega) (by simp) (by simp)).mono ?_
  rintro e w4 ⟨f4, A, c, fo, rfl, hq4, hr4, hd4, hk4, hn4⟩
  have hq4' : QRep w4 b 2 0 [⟨#[98]⟩] f4 := by simpa using hq4
  have hr4' : Reads w4 1 A 1 (strs [⟨#[97]⟩]) fo := by simpa using hr4
  have H4 := Lib.hid (And.intro hd4 (And.intro hk4 hn4)); clear hd4 hk4 hn4 hq4 hq3' hr4
  go_wp2_with fail
  refine (ack_range b 2 0 _ f4 3 4294967295 w4 hq4' (by omega) (by simp) (by omega)).mono ?_
  rintro e w5 ⟨rfl, rfl⟩
  obtain ⟨b1, o1, u1, rfl, -, -, hx1, hc1⟩ := hr4'.cellAt (k := 0) (by omega)
  obtain rfl : u1 = .string ⟨#[97]⟩ := by simpa [strs] using hx1.symm
  have hc1' : w4.cell? ⟨b1, o1, none⟩ = some (.string ⟨#[97]⟩) := by simpa using hc1
  clear hx1 hc1
  go_wp2_with fail
  refine (sent_calls b 2 0 _ f4 _ hq4').mono ?_
  rintro e w5 ⟨rfl, rfl⟩
  go_wp2_with fail
  go_ret
  obtain ⟨hd4, hk4, hn4⟩ := H4.out
  obtain ⟨hk3, hn3⟩ := H3.out
  obtain ⟨hk2, hn2⟩ := H2.out
  obtain ⟨hk1, hn1, hbw⟩ := H1.out
  have hs1 := hk1.size
  have hs2 := hk2.size
  have hs3 := hk3.size
  have g1 : ∀ k ∈ f1, w.heap.size ≤ k := fun k hk => by have := hn1 k hk; simpa using this
  have g2 : ∀ k ∈ f2, w.heap.size ≤ k := fun k hk => by rcases hn2 k hk with h | h; · exact g1 k h
                                                        · omega
  have g3 : ∀ k ∈ f3, w.heap.size ≤ k := fun k hk => by rcases hn3 k hk with h | h; · exact g2 k h
                                                        · omega
  refine ⟨rfl, ((hk1.trans hk2 ?_).trans hk3 ?_).trans hk4 ?_⟩
  · intro i hi hm; have := g1 i hm; omega
  · intro i hi hm; have := g2 i hm; omega
  · intro i hi hm; have := g3 i hm; omega

end Go.Proofs.Ytgkbkggegdmcgaa
