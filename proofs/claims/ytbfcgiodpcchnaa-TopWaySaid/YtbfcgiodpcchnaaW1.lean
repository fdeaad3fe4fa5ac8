/-
  CONTRACTS: jid.part, exactly.
-/
import Derived.Test.YtbfcgiodpcchnaaN3
import Derived.Laws.BitsAllLaws
import Derived.Deep.LoopGhost
namespace Go.Proofs.Ytbfcgiodpcchnaa
open Go.RowKit
set_option linter.unusedVariables false

/-- a byte of a part. -/
def partC (c : Nat) : Prop := (97 ≤ c ||| 32 ∧ c ||| 32 ≤ 122) ∨ (48 ≤ c ∧ c ≤ 57) ∨ c = 45 ∨ c = 95 ∨ c = 46
instance (c : Nat) : Decidable (partC c) := by unfold partC; infer_instance
def isPart (s : ByteArray) : Prop := (∀ i, i < s.size → partC (byteAt s i)) ∧ 0 < s.size ∧ s.size ≤ 64
theorem isPart_dec (s : ByteArray) : isPart s ∨ ¬ isPart s := Classical.em _
theorem or32_lt (c : Nat) (h : c < 256) : c ||| 32 < 256 := by
  have := Nat.or_lt_two_pow (n := 8) (x := c) (y := 32) h (by omega)
  exact this
theorem u8_or32 (c : Nat) (h : c < 256) : bits .or .u8 (c : Int) 32 = ((c ||| 32 : Nat) : Int) := by
  have e : (32 : Int) = ((32 : Nat) : Int) := rfl
  rw [e, u8_or_nat _ _ (by omega) (by omega)]

set_option maxHeartbeats 3200000 in
set_option maxRecDepth 100000 in
theorem part_calls (s : ByteArray) (w : World) (hm : s.size ≤ maxLen) (q : Bool) (hq : q = true ↔ isPart s) : Calls Try.prog 19 #[.string s] w fun e w' => e = .returned (.bool q) ∧ w = w' := by
  have H := Lib.hid (And.intro hq hm)
  clear hq hm
  go_enter Try.func19, Try.ntmps19
  go_wp2_with fail
  go_loopg [7] s.size (fun gg i wr => ∃ k : Nat, gg + k = s.size ∧ i = .int .i64 k ∧ (∀ j, j < k → partC (byteAt s j)) ∧ wr = w)
  case atStart => exact ⟨0, by omega, rfl, fun j hj => by omega, rfl⟩
  case round =>
    obtain ⟨k, hgk, rfl, hpr, rfl⟩ := hrel
    by_cases hlt : k < s.size
    · obtain ⟨c, hce⟩ : ∃ c : Nat, c = byteAt s k := ⟨_, rfl⟩
      have hsk : s[k].toNat = c := by rw [hce, byteAt_eq s k hlt]
      have hc256 : c < 256 := by rw [hce]; exact byteAt_lt s k
      obtain ⟨b, hb⟩ : ∃ b, b = c ||| 32 := ⟨_, rfl⟩
      have hor := u8_or32 c hc256
      rw [← hb] at hor
      have hki : (0 : Int) ≤ (k : Int) := by omega
      have hkm : k < 9223372036854775807 := by have := H.out.2; unfold maxLen at this; omega
      have HK := Lib.hid (And.intro hgk (And.intro hpr (And.intro hce (And.intro hb (And.intro hlt hc256)))))
      have hpc : partC c ↔ ((97 ≤ b ∧ b ≤ 122) ∨ (48 ≤ c ∧ c ≤ 57) ∨ c = 45 ∨ c = 95 ∨ c = 46) := by rw [hb]; exact Iff.rfl
      have HP := Lib.hid hpc
      clear hgk hpr hce hb hpc hc256
      go_wp2_with fail
      all_goals first
        | (go_roundg (s.size - (k + 1))
           case measure => have := HK.out.1; have := HK.out.2.2.2.2.1; omega
           case rel =>
             obtain ⟨hgk, hpr, hce, hb, hlt, hc256⟩ := HK.out
             refine ⟨k + 1, by omega, by go_num, fun j hj => ?_, rfl⟩
             rcases Nat.lt_or_ge j k with h | h
             · exact hpr j h
             · have : j = k := by omega
               rw [this, ← hce]
               exact HP.out.2 (by (try simp only [bne_eq_false_iff_eq] at *); omega))
        | (go_ret
           obtain ⟨hgk, hpr, hce, hb, hlt, hc256⟩ := HK.out
           have hno : ¬ q = true := fun h => by
             have h1 := (H.out.1.1 h).1 k hlt
             rw [← hce] at h1
             have h2 := HP.out.1 h1
             (try simp only [bne_iff_ne, ne_eq] at *)
             omega
           have hqf : q = false := by cases q; rfl; exact absurd rfl hno
           rw [hqf]
           exact ⟨rfl, rfl⟩)
    · obtain rfl : k = s.size := by omega
      have HK := Lib.hid hpr
      clear hpr hgk
      rcases Nat.eq_zero_or_pos s.size with h0 | h0
      · obtain rfl : s = ⟨#[]⟩ := by
          obtain ⟨d⟩ := s
          have : d.size = 0 := h0
          rw [Array.eq_empty_of_size_eq_zero this]
        have hqf : q = false := by
          cases q
          · rfl
          · exact absurd (H.out.1.1 rfl).2.1 (by decide)
        subst hqf
        go_wp2_with fail
        go_ret
        exact ⟨rfl, rfl⟩
      · have hne := not_empty s h0
        by_cases h64 : s.size ≤ 64
        · have hi : (s.size : Int) ≤ 64 := by omega
          obtain rfl : q = true := H.out.1.2 ⟨HK.out, h0, h64⟩
          clear h0 h64
          go_wp2_with fail
          go_ret
          exact ⟨rfl, rfl⟩
        · have hi : ¬ (s.size : Int) ≤ 64 := by omega
          obtain rfl : q = false := by
            cases q
            · rfl
            · exact absurd (H.out.1.1 rfl).2.2 h64
          clear h0 h64
          go_wp2_with fail
          go_ret
          exact ⟨rfl, rfl⟩

end Go.Proofs.Ytbfcgiodpcchnaa
