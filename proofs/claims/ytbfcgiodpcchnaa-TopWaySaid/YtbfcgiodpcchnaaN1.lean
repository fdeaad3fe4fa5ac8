/-
  CONTRACTS: text.Name.
-/
import Derived.Test.YtbfcgiodpcchnaaN0
namespace Go.Proofs.Ytbfcgiodpcchnaa
open Go.RowKit
set_option linter.unusedVariables false

/-- what may stand at place i of a name. -/
def nameC (i c : Nat) : Prop := (97 ≤ c ∧ c ≤ 122) ∨ (65 ≤ c ∧ c ≤ 90) ∨ c = 95 ∨ (0 < i ∧ 48 ≤ c ∧ c ≤ 57) ∨ (0 < i ∧ c = 45) ∨ (0 < i ∧ c = 46) ∨ (0 < i ∧ c = 58)
def isName (s : ByteArray) : Prop := (∀ i, i < s.size → nameC i (byteAt s i)) ∧ 0 < s.size ∧ s.size ≤ 32

set_option maxHeartbeats 1600000 in
theorem name_calls (s : ByteArray) (w : World) (h : isName s) : Calls Try.prog 7 #[.string s] w fun e w' => e = .returned (.bool true) ∧ w = w' := by
  obtain ⟨h1, h2, h3⟩ := h
  have H := Lib.hid h1
  clear h1
  have hs0 : s.toList.isEmpty = false := not_empty s h2
  have hs1 : (s.size : Int) ≤ 32 := by omega
  go_enter Try.func7, Try.ntmps7
  go_wp2_with fail
  go_loopw [7] (fun i wr => ∃ k : Nat, k ≤ s.size ∧ i = .int .i64 k ∧ wr = w) (fun i _ => s.size - (intOf i).toNat)
  case atStart => exact ⟨0, by omega, rfl, rfl⟩
  case round =>
    obtain ⟨k, hk, rfl, rfl⟩ := hrel
    by_cases hlt : k < s.size
    · have hc := H.out k hlt
      obtain ⟨c, hce⟩ : ∃ c : Nat, c = byteAt s k := ⟨_, rfl⟩
      have hsk : s[k].toNat = c := by rw [hce, byteAt_eq s k hlt]
      rw [← hce] at hc
      clear hce
      have hki : (0 : Int) ≤ (k : Int) := by omega
      rcases hc with ⟨a1, a2⟩ | ⟨a1, a2⟩ | rfl | ⟨p, a1, a2⟩ | ⟨p, rfl⟩ | ⟨p, rfl⟩ | ⟨p, rfl⟩
      · have b1 : (97 : Int) ≤ (c : Int) := by omega
        have b2 : (c : Int) ≤ 122 := by omega
        clear a1 a2
        go_wp2_with fail
        go_roundw
        case rel => exact ⟨k + 1, by omega, by go_num, trivial⟩
        case measure => simp [intOf]; omega
      · have b1 : (65 : Int) ≤ (c : Int) := by omega
        have b2 : (c : Int) ≤ 90 := by omega
        have b3 : (c : Int) < 97 := by omega
        clear a1 a2
        go_wp2_with fail
        go_roundw
        case rel => exact ⟨k + 1, by omega, by go_num, trivial⟩
        case measure => simp [intOf]; omega
      · go_wp2_with fail
        go_roundw
        case rel => exact ⟨k + 1, by omega, by go_num, trivial⟩
        case measure => simp [intOf]; omega
      · have b1 : (48 : Int) ≤ (c : Int) := by omega
        have b2 : (c : Int) ≤ 57 := by omega
        have b3 : (c : Int) < 97 := by omega
        have b4 : (c : Int) < 65 := by omega
        have b5 : ((c : Int) == 95) = false := by simp; omega
        have b6 : (0 : Int) < (k : Int) := by omega
        clear a1 a2
        go_wp2_with fail
        go_roundw
        case rel => exact ⟨k + 1, by omega, by go_num, trivial⟩
        case measure => simp [intOf]; omega
      · have b6 : (0 : Int) < (k : Int) := by omega
        go_wp2_with fail
        go_roundw
        case rel => exact ⟨k + 1, by omega, by go_num, trivial⟩
        case measure => simp [intOf]; omega
      · have b6 : (0 : Int) < (k : Int) := by omega
        go_wp2_with fail
        go_roundw
        case rel => exact ⟨k + 1, by omega, by go_num, trivial⟩
        case measure => simp [intOf]; omega
      · have b6 : (0 : Int) < (k : Int) := by omega
        go_wp2_with fail
        go_roundw
        case rel => exact ⟨k + 1, by omega, by go_num, trivial⟩
        case measure => simp [intOf]; omega
    · obtain rfl : k = s.size := by omega
      go_wp2_with fail
      go_ret
      exact ⟨rfl, rfl⟩

end Go.Proofs.Ytbfcgiodpcchnaa
