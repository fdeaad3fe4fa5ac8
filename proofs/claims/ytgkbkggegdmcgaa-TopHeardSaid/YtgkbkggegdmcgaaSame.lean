/-
  CONTRACT: heliographref10.Same: are two lists of strings the same?
-/
import Derived.Test.YtgkbkggegdmcgaaQ1
import Derived.Deep.QuietTactic
import Derived.BigQuiet
import Derived.Deep.LoopGhost
namespace Go.Proofs.Ytgkbkggegdmcgaa
open Go.RowKit
set_option linter.unusedVariables false

theorem take_succ_same {α : Type} {xs ys : List α} {k : Nat} {x : α} (h : xs.take k = ys.take k) (hx : xs[k]? = some x) (hy : ys[k]? = some x) : xs.take (k + 1) = ys.take (k + 1) := by
  rw [List.take_add_one, List.take_add_one, h, hx, hy]

def SameLeft (w : World) (xs ys : List ByteArray) (e : Ending) (w' : World) : Prop := e = .returned (.bool (decide (xs = ys))) ∧ ∃ q, w' = w.drewN q

set_option maxHeartbeats 400000 in
theorem same_calls (A B : Option Addr) (n m c d : Nat) (xs ys : List ByteArray) (fa fb : List Nat) (w : World) (ha : Reads w 1 A n (strs xs) fa) (hb : Reads w 1 B m (strs ys) fb) (hn : n ≤ 1000000) (hm : m ≤ 1000000) :
    Calls Try.prog 17 #[.slice A n c, .slice B m d] w (SameLeft w xs ys) := by
  have hnl : xs.length = n := by simpa [strs] using ha.1
  have hml : ys.length = m := by simpa [strs] using hb.1
  by_cases hne : n = m
  · subst hne
    have Hx := Lib.hid hnl; clear hnl
    have Hy := Lib.hid hml; clear hml
    go_enter Try.func17, Try.ntmps17
    go_wp2_with fail
    go_loopw [5] (fun i wr => ∃ k q : Nat, k ≤ n ∧ i = .int .i64 k ∧ xs.take k = ys.take k ∧ wr = w.drewN q) (fun i _ => n - (intOf i).toNat)
    case atStart => exact ⟨0, 0, Nat.zero_le _, rfl, by simp, rfl⟩
    case round =>
      obtain ⟨k, q, hk, rfl, htk, rfl⟩ := hrel
      have Ht := Lib.hid htk; clear htk
      by_cases hlt : k < n
      · obtain ⟨b1, o1, u1, rfl, -, -, hx1, hc1⟩ := ha.cellAt hlt
        obtain ⟨b2, o2, u2, rfl, -, -, hx2, hc2⟩ := hb.cellAt hlt
        obtain ⟨s1, hs1, rfl⟩ : ∃ s, xs[k]? = some s ∧ Value.string s = u1 := by simpa [strs] using hx1
        obtain ⟨s2, hs2, rfl⟩ : ∃ s, ys[k]? = some s ∧ Value.string s = u2 := by simpa [strs] using hx2
        have H1 := Lib.hid (And.intro hs1 hs2)
        clear hx1 hx2 hs1 hs2
        have g1 : (0 : Int) ≤ (k : Int) := by omega
        have g2 : (k : Int) < (n : Int) := by omega
        by_cases hse : s1 = s2
        · subst hse
          go_wp2_with fail
          go_quiet (fail)
          go_wp2_with fail
          go_roundw
          case rel => exact ⟨k + 1, q + nq, by omega, by go_num, take_succ_same Ht.out H1.out.1 H1.out.2, rfl⟩
          case measure => simp [intOf]; omega
        · have hsn := str_ne hse
          have Hse := Lib.hid hse; clear hse
          go_wp2_with fail
          go_quiet (fail)
          go_wp2_with fail
          go_ret
          have hd : decide (xs = ys) = false := decide_eq_false (fun e => by
            have h1 := H1.out
            rw [e] at h1
            exact Hse.out (Option.some.inj (h1.1.symm.trans h1.2)))
          exact ⟨by rw [hd]; rfl, q + nq, World.drewN_drewN _ _ _⟩
      · obtain rfl : k = n := by omega
        go_wp2_with fail
        go_ret
        refine ⟨?_, q, rfl⟩
        have he : xs = ys := by
          have h1 := Ht.out
          rwa [List.take_of_length_le (by have := Hx.out; omega), List.take_of_length_le (by have := Hy.out; omega)] at h1
        have hd : decide (xs = ys) = true := decide_eq_true he
        rw [hd]
        rfl
  · have hnm : ((n : Int) == (m : Int)) = false := by simp; omega
    have Hne := Lib.hid (And.intro hne (And.intro hnl hml)); clear hne hnl hml
    go_enter Try.func17, Try.ntmps17
    go_wp2_with fail
    go_ret
    have hd : decide (xs = ys) = false := decide_eq_false (fun e => by
      have h1 := Hne.out
      rw [e] at h1
      omega)
    exact ⟨by rw [hd]; rfl, 0, rfl⟩

end Go.Proofs.Ytgkbkggegdmcgaa
