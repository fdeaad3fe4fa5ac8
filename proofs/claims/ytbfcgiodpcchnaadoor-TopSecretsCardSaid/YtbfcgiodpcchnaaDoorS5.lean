/-
  CONTRACTS: strings.TrimRight of one byte, text.Unbase64.
-/
import Derived.Test.YtbfcgiodpcchnaaDoorS4
import Derived.Test.YtbfcgiodpcchnaaDoorShelf
namespace Go.Proofs.YtbfcgiodpcchnaaDoor
open Go.RowKit
set_option linter.unusedVariables false

theorem head_size (s : ByteArray) (m : Nat) (h : m ≤ s.size) : (s.extract 0 m).size = m := by rw [ByteArray.size_extract]; omega
theorem head_at (s : ByteArray) (m i : Nat) (h : m ≤ s.size) (hi : i < m) : byteAt (s.extract 0 m) i = byteAt s i := by
  rw [byteAt_eq _ i (by rw [head_size s m h]; exact hi), ByteArray.getElem_extract, ← byteAt_eq _ (0 + i) (by omega)]
  congr 1
  omega
theorem head_head (s : ByteArray) (m : Nat) (h : m + 1 ≤ s.size) : (s.extract 0 (m + 1)).extract 0 m = s.extract 0 m := by
  rw [ByteArray.extract_extract]
  congr 1 <;> omega

set_option maxHeartbeats 3200000 in
set_option maxRecDepth 100000 in
theorem trimByte_calls (s : ByteArray) (n c : Nat) (w : World) (hn : n ≤ s.size) (hs : s.size ≤ 4000) (hc : c < 256) (ha : ∀ i, n ≤ i → i < s.size → byteAt s i = c) (hb : ∀ i, n = i + 1 → byteAt s i ≠ c) :
    Calls Tryd.prog 22 #[.string s, .int .u8 c] w fun e w' => e = .returned (.string (s.extract 0 n)) ∧ w' = w := by
  have H := Lib.hid (And.intro hn (And.intro hs (And.intro hc (And.intro ha hb))))
  clear hn hs hc ha hb
  go_enter Tryd.func22, Tryd.ntmps22
  go_wp2_with fail
  go_loopg [0] (s.size - n) (fun gg s0 wx => ∃ m : Nat, gg + n = m ∧ m ≤ s.size ∧ s0 = .string (s.extract 0 m) ∧ wx = w)
  case atStart =>
    exact ⟨s.size, by have := H.out.1; omega, Nat.le_refl _, by simp, rfl⟩
  case round =>
    obtain ⟨m, hgm, hm, rfl, rfl⟩ := hrel
    obtain ⟨r, hr⟩ : ∃ r, r = s.extract 0 m := ⟨_, rfl⟩
    have hsz : r.size = m := by rw [hr, head_size s m hm]
    rw [← hr]
    have HR := Lib.hid (And.intro hgm (And.intro hm hr))
    clear hgm hm hr
    rcases Nat.eq_zero_or_pos m with h0 | hpos
    · subst h0
      go_wp2_with fail
      go_ret
      obtain ⟨h1, h2, h3⟩ := HR.out
      refine ⟨?_, rfl⟩
      rw [show n = 0 by omega, ← h3]
      rfl
    · obtain ⟨p, rfl⟩ : ∃ p, m = p + 1 := ⟨m - 1, by omega⟩
      obtain ⟨x, hx⟩ : ∃ x, x = byteAt s p := ⟨_, rfl⟩
      have hrp : ∀ h : p < r.size, (r[p]'h).toNat = x := by
        intro h
        rw [← byteAt_eq r p h, hx, HR.out.2.2]
        exact head_at s (p + 1) p HR.out.2.1 (by omega)
      have hp0 : (0 : Int) ≤ (p : Int) := by omega
      have hpb : (p : Int) < 4000 := by have := HR.out.2.1; have := H.out.2.1; omega
      by_cases hxc : x = c
      · have hxi : (x : Int) = (c : Int) := by omega
        have HX := Lib.hid (And.intro hx hxc)
        clear hx hxc hpos
        go_wp2_with fail
        go_roundg (p - n)
        case measure =>
          obtain ⟨h1, h2, h3⟩ := HR.out
          have := H.out.2.2.2.2 p
          have h5 := HX.out
          have : n ≠ p + 1 := fun e => this e (h5.1 ▸ h5.2)
          omega
        case rel =>
          obtain ⟨h1, h2, h3⟩ := HR.out
          have := H.out.2.2.2.2 p
          have h5 := HX.out
          have : n ≠ p + 1 := fun e => this e (h5.1 ▸ h5.2)
          refine ⟨p, by omega, by omega, ?_, rfl⟩
          rw [h3, head_head s p h2]
      · have hxi : ¬ (x : Int) = (c : Int) := by omega
        have HX := Lib.hid (And.intro hx hxc)
        clear hx hxc hpos
        go_wp2_with fail
        go_ret
        obtain ⟨h1, h2, h3⟩ := HR.out
        have := H.out.2.2.2.1 p
        have h5 := HX.out
        have : ¬ (n ≤ p) := fun e => h5.2 (h5.1 ▸ this e (by omega))
        refine ⟨?_, rfl⟩
        rw [show n = p + 1 by omega, ← h3]
        rfl

set_option maxHeartbeats 3200000 in
set_option maxRecDepth 100000 in
theorem trim_calls (s : ByteArray) (n : Nat) (w : World) (h0 : 0 < s.size) (hn : n ≤ s.size) (hs : s.size ≤ 4000) (ha : ∀ i, n ≤ i → i < s.size → byteAt s i = 61) (hb : ∀ i, n = i + 1 → byteAt s i ≠ 61) :
    Calls Tryd.prog 16 #[.string s, .string ⟨#[61]⟩] w fun e w' => e = .returned (.string (s.extract 0 n)) ∧ w' = w := by
  have H := Lib.hid (trimByte_calls s n 61 w hn hs (by omega) ha hb)
  have hne := not_empty s h0
  clear hn hs ha hb
  go_enter Tryd.func16, Tryd.ntmps16
  go_wp2_with fail
  refine H.out.mono ?_
  rintro e w1 ⟨rfl, rfl⟩
  go_wp2_with fail
  go_ret
  exact ⟨rfl, rfl⟩

end Go.Proofs.YtbfcgiodpcchnaaDoor
