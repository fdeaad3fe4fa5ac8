/-
  PLAIN LAWS of base 64.
-/
import Derived.Test.YtbfcgiodpcchnaaDoorN0
namespace Go.Proofs.YtbfcgiodpcchnaaDoor
open Go.RowKit
set_option linter.unusedVariables false

def alphaL : List Nat := [65, 66, 67, 68, 69, 70, 71, 72, 73, 74, 75, 76, 77, 78, 79, 80, 81, 82, 83, 84, 85, 86, 87, 88, 89, 90, 97, 98, 99, 100, 101, 102, 103, 104, 105, 106, 107, 108, 109, 110, 111, 112, 113, 114, 115, 116, 117, 118, 119, 120, 121, 122, 48, 49, 50, 51, 52, 53, 54, 55, 56, 57, 43, 47]
def alpha (v : Nat) : Nat := alphaL.getD v 0
/-- the six bits at place p. -/
def code (s : ByteArray) (p : Nat) : Nat :=
  if p % 4 = 0 then byteAt s (3 * (p / 4)) / 4
  else if p % 4 = 1 then byteAt s (3 * (p / 4)) % 4 * 16 + byteAt s (3 * (p / 4) + 1) / 16
  else if p % 4 = 2 then byteAt s (3 * (p / 4) + 1) % 16 * 4 + byteAt s (3 * (p / 4) + 2) / 64
  else byteAt s (3 * (p / 4) + 2) % 64
/-- how many bytes the group of place p has. -/
def inGroup (s : ByteArray) (g : Nat) : Nat := min 3 (s.size - 3 * g)
def encC (s : ByteArray) (p : Nat) : Nat := if p % 4 ≤ inGroup s (p / 4) then alpha (code s p) else 61
def lenB (s : ByteArray) : Nat := 4 * ((s.size + 2) / 3)
def encTo (s : ByteArray) (n : Nat) : List Int := (List.range n).map fun p => (encC s p : Int)
theorem encTo_length (s : ByteArray) (n : Nat) : (encTo s n).length = n := by simp [encTo]
theorem encTo_succ (s : ByteArray) (n : Nat) : encTo s (n + 1) = encTo s n ++ [(encC s n : Int)] := by simp [encTo, List.range_succ]
def b64 (s : ByteArray) : ByteArray := strB (encTo s (lenB s))
theorem byteAt_beyond (s : ByteArray) (k : Nat) (h : s.size ≤ k) : byteAt s k = 0 := by
  unfold byteAt
  rw [List.getD_eq_getElem?_getD, List.getElem?_eq_none (by show s.data.toList.length ≤ k; exact h)]
  rfl
theorem code_lt (s : ByteArray) (p : Nat) : code s p < 64 := by
  unfold code
  have h0 := byteAt_lt s (3 * (p / 4))
  have h1 := byteAt_lt s (3 * (p / 4) + 1)
  have h2 := byteAt_lt s (3 * (p / 4) + 2)
  split
  · omega
  · split
    · omega
    · split <;> omega
theorem alpha_facts : ∀ v, v < 64 → alpha v < 256 ∧ 32 < alpha v ∧ alpha v < 127 ∧ alpha v ≠ 61 ∧ alpha v ≠ 38 ∧ alpha v ≠ 60 ∧ alpha v ≠ 62 ∧ alpha v ≠ 39 ∧ alpha v ≠ 34 := by decide
theorem alpha_inj : ∀ v, v < 64 → ∀ u, u < v → alpha u ≠ alpha v := by decide
theorem encC_facts (s : ByteArray) (p : Nat) : encC s p < 256 ∧ 32 < encC s p ∧ encC s p < 127 ∧ encC s p ≠ 38 ∧ encC s p ≠ 60 ∧ encC s p ≠ 62 ∧ encC s p ≠ 39 ∧ encC s p ≠ 34 := by
  unfold encC
  split
  · have := alpha_facts (code s p) (code_lt s p)
    omega
  · omega
theorem strB_size (l : List Int) : (strB l).size = l.length := strOfNums_size l
theorem strB_at (l : List Int) (i : Nat) (z : Nat) (h : l[i]? = some (z : Int)) (hz : z < 256) : byteAt (strB l) i = z := by
  unfold byteAt strB
  rw [strOfNums_data, List.getD_eq_getElem?_getD, List.getElem?_map, h]
  simp
  omega
theorem encTo_at (s : ByteArray) (n i : Nat) (h : i < n) : (encTo s n)[i]? = some ((encC s i : Nat) : Int) := by
  unfold encTo
  rw [List.getElem?_map, List.getElem?_range h]
  rfl
theorem b64_size (s : ByteArray) : (b64 s).size = lenB s := by unfold b64; rw [strB_size, encTo_length]
theorem b64_at (s : ByteArray) (i : Nat) (h : i < lenB s) : byteAt (b64 s) i = encC s i := strB_at _ i _ (encTo_at s _ i h) (encC_facts s i).1
/-- how many places are no '='. -/
def bodyB (s : ByteArray) : Nat := (4 * s.size + 2) / 3
theorem bodyB_le (s : ByteArray) : bodyB s ≤ lenB s := by unfold bodyB lenB; omega
theorem encC_in (s : ByteArray) (p : Nat) (h : p < bodyB s) : encC s p = alpha (code s p) := by
  unfold encC inGroup
  unfold bodyB at h
  have h2 : 3 * (p + 1) ≤ 4 * s.size + 2 := by omega
  have h3 : p % 4 ≤ min 3 (s.size - 3 * (p / 4)) := by
    rcases (show p % 4 = 0 ∨ p % 4 = 1 ∨ p % 4 = 2 ∨ p % 4 = 3 by omega) with e | e | e | e <;> rw [e] <;> omega
  rw [if_pos h3]
theorem encC_out (s : ByteArray) (p : Nat) (h : bodyB s ≤ p) (hl : p < lenB s) : encC s p = 61 := by
  unfold encC inGroup
  unfold bodyB at h
  unfold lenB at hl
  have h2 : 4 * s.size < 3 * p + 1 := by omega
  have h4 : 3 * (p / 4) < s.size := by omega
  have h3 : ¬ p % 4 ≤ min 3 (s.size - 3 * (p / 4)) := by
    rcases (show p % 4 = 0 ∨ p % 4 = 1 ∨ p % 4 = 2 ∨ p % 4 = 3 by omega) with e | e | e | e <;> rw [e] <;> omega
  rw [if_neg h3]
/-- the state of the decoder behind k places: how many bits are held; what they are. -/
def heldN (k : Nat) : Nat := 6 * k % 8
def heldB (s : ByteArray) (k : Nat) : Nat :=
  if k % 4 = 1 then byteAt s (3 * (k / 4)) / 4 else if k % 4 = 2 then byteAt s (3 * (k / 4) + 1) / 16 else if k % 4 = 3 then byteAt s (3 * (k / 4) + 2) / 64 else 0
theorem held_low (s : ByteArray) (k bits : Nat) (hm : bits % 2 ^ heldN k = heldB s k) :
    (heldN k + 6 < 8 → ((bits * 64 + code s k) % 4294967296) % 2 ^ (heldN k + 6) = heldB s (k + 1) ∧ heldN (k + 1) = heldN k + 6) := by
  intro h
  have h8 : k % 4 = 0 := by unfold heldN at h; omega
  have e0 : heldN k = 0 := by unfold heldN; omega
  have e1 : heldN (k + 1) = 6 := by unfold heldN; omega
  rw [e0, e1]
  refine ⟨?_, rfl⟩
  have hb : heldB s (k + 1) = byteAt s (3 * (k / 4)) / 4 := by
    unfold heldB
    rw [if_pos (by omega), show (k + 1) / 4 = k / 4 by omega]
  have hc : code s k = byteAt s (3 * (k / 4)) / 4 := by unfold code; rw [if_pos h8]
  have := byteAt_lt s (3 * (k / 4))
  rw [hb, hc]
  show _ % 64 = _
  omega
theorem held_high (s : ByteArray) (k bits : Nat) (hm : bits % 2 ^ heldN k = heldB s k) (h : 8 ≤ heldN k + 6) :
    ((bits * 64 + code s k) % 4294967296) / 2 ^ (heldN k + 6 - 8) % 256 = byteAt s (6 * k / 8) ∧ ((bits * 64 + code s k) % 4294967296) % 2 ^ (heldN k + 6 - 8) = heldB s (k + 1) ∧ heldN (k + 1) = heldN k + 6 - 8 ∧ 6 * (k + 1) / 8 = 6 * k / 8 + 1 := by
  have ha := byteAt_lt s (3 * (k / 4))
  have hb := byteAt_lt s (3 * (k / 4) + 1)
  have hc := byteAt_lt s (3 * (k / 4) + 2)
  have h8 : k % 4 = 1 ∨ k % 4 = 2 ∨ k % 4 = 3 := by unfold heldN at h; omega
  rcases h8 with h8 | h8 | h8
  · have e0 : heldN k = 6 := by unfold heldN; omega
    have e1 : heldN (k + 1) = 4 := by unfold heldN; omega
    have hb1 : heldB s k = byteAt s (3 * (k / 4)) / 4 := by unfold heldB; rw [if_pos h8]
    have hb2 : heldB s (k + 1) = byteAt s (3 * (k / 4) + 1) / 16 := by unfold heldB; rw [if_neg (by omega), if_pos (by omega), show (k + 1) / 4 = k / 4 by omega]
    have hcd : code s k = byteAt s (3 * (k / 4)) % 4 * 16 + byteAt s (3 * (k / 4) + 1) / 16 := by unfold code; rw [if_neg (by omega), if_pos h8]
    have hix : 6 * k / 8 = 3 * (k / 4) := by omega
    rw [e0, hb1] at hm
    rw [e0, e1, hb2, hcd, hix]
    have hm' : bits % 64 = byteAt s (3 * (k / 4)) / 4 := hm
    show (_ / 16) % 256 = _ ∧ _ % 16 = _ ∧ _ ∧ _
    refine ⟨by omega, by omega, rfl, by omega⟩
  · have e0 : heldN k = 4 := by unfold heldN; omega
    have e1 : heldN (k + 1) = 2 := by unfold heldN; omega
    have hb1 : heldB s k = byteAt s (3 * (k / 4) + 1) / 16 := by unfold heldB; rw [if_neg (by omega), if_pos h8]
    have hb2 : heldB s (k + 1) = byteAt s (3 * (k / 4) + 2) / 64 := by unfold heldB; rw [if_neg (by omega), if_neg (by omega), if_pos (by omega), show (k + 1) / 4 = k / 4 by omega]
    have hcd : code s k = byteAt s (3 * (k / 4) + 1) % 16 * 4 + byteAt s (3 * (k / 4) + 2) / 64 := by unfold code; rw [if_neg (by omega), if_neg (by omega), if_pos h8]
    have hix : 6 * k / 8 = 3 * (k / 4) + 1 := by omega
    rw [e0, hb1] at hm
    rw [e0, e1, hb2, hcd, hix]
    have hm' : bits % 16 = byteAt s (3 * (k / 4) + 1) / 16 := hm
    show (_ / 4) % 256 = _ ∧ _ % 4 = _ ∧ _ ∧ _
    refine ⟨by omega, by omega, rfl, by omega⟩
  · have e0 : heldN k = 2 := by unfold heldN; omega
    have e1 : heldN (k + 1) = 0 := by unfold heldN; omega
    have hb1 : heldB s k = byteAt s (3 * (k / 4) + 2) / 64 := by unfold heldB; rw [if_neg (by omega), if_neg (by omega), if_pos h8]
    have hb2 : heldB s (k + 1) = 0 := by unfold heldB; rw [if_neg (by omega), if_neg (by omega), if_neg (by omega)]
    have hcd : code s k = byteAt s (3 * (k / 4) + 2) % 64 := by unfold code; rw [if_neg (by omega), if_neg (by omega), if_neg (by omega)]
    have hix : 6 * k / 8 = 3 * (k / 4) + 2 := by omega
    rw [e0, hb1] at hm
    rw [e0, e1, hb2, hcd, hix]
    have hm' : bits % 4 = byteAt s (3 * (k / 4) + 2) / 64 := hm
    show (_ / 1) % 256 = _ ∧ _ % 1 = _ ∧ _ ∧ _
    refine ⟨by omega, by omega, rfl, by omega⟩
theorem held_end (s : ByteArray) : 6 * bodyB s / 8 = s.size := by unfold bodyB; omega

end Go.Proofs.YtbfcgiodpcchnaaDoor
