/-
  CONTRACTS: strings.Cut at one byte, found and not; jid.Parse of an address's text.
-/
import Derived.Test.YtbfcgiodpcchnaaW2
import Derived.Test.YtbfcgiodpcchnaaShelf
import Derived.Lib.IndexLaws
import Derived.Deep.QuietTactic
import Derived.BigQuiet
namespace Go.Proofs.Ytbfcgiodpcchnaa
open Go.RowKit
set_option linter.unusedVariables false

theorem idx_none (s : ByteArray) (c : UInt8) (h : ∀ i, i < s.size → byteAt s i ≠ c.toNat) : Lib.indexByte s.data.toList c = -1 := by
  have hge := Lib.indexByte_ge s.data.toList c
  by_cases h1 : Lib.indexByte s.data.toList c = -1
  · exact h1
  · obtain ⟨o, ho⟩ : ∃ o : Nat, Lib.indexByte s.data.toList c = o := ⟨(Lib.indexByte s.data.toList c).toNat, by omega⟩
    have hs := (Lib.indexByte_some ho).1
    obtain ⟨hl, he⟩ := List.getElem?_eq_some_iff.1 hs
    exfalso
    apply h o (by simpa using hl)
    unfold byteAt
    rw [List.getD_eq_getElem?_getD, hs]
    rfl
theorem idx_list : ∀ (a b : List UInt8) (c : UInt8), (∀ x ∈ a, x ≠ c) → Lib.indexByte (a ++ c :: b) c = (a.length : Int)
  | [], b, c, _ => by simp [Lib.indexByte]
  | x :: a, b, c, h => by
    have hx : (x == c) = false := by simpa using h x (List.mem_cons_self ..)
    have ih := idx_list a b c (fun y hy => h y (List.mem_cons_of_mem _ hy))
    show (if x == c then (0 : Int) else if Lib.indexByte (a ++ c :: b) c == -1 then -1 else Lib.indexByte (a ++ c :: b) c + 1) = _
    rw [hx, ih]
    have : (((a.length : Int)) == -1) = false := by simp
    rw [this]
    simp
/-- a part and a byte that is none of a part. -/
theorem part_no (s : ByteArray) (c : UInt8) (h : ∀ i, i < s.size → partC (byteAt s i)) (hc : ¬ partC c.toNat) : ∀ x ∈ s.data.toList, x ≠ c := by
  intro x hx e
  obtain ⟨i, hi, he⟩ := List.mem_iff_getElem.1 hx
  have h1 := h i (by simpa using hi)
  apply hc
  have : byteAt s i = c.toNat := by
    unfold byteAt
    rw [List.getD_eq_getElem?_getD, List.getElem?_eq_getElem hi, he, e]
    rfl
  rw [← this]
  exact h1
theorem slash_no : ¬ partC (47 : UInt8).toNat := by decide
theorem at_no : ¬ partC (64 : UInt8).toNat := by decide

set_option maxHeartbeats 1000000 in
set_option maxRecDepth 100000 in
theorem cut_none (s : ByteArray) (c : UInt8) (w : World) (h : Lib.indexByte s.data.toList c = -1) :
    Calls Try.prog 29 #[.string s, .string ⟨#[c]⟩] w fun e w' => e = .returned (.tuple #[.string s, .string ⟨#[]⟩, .bool false]) ∧ Keeps w w' [] := by
  have h1 : Calls Try.prog 35 #[.string s, .string ⟨#[c]⟩] w fun e w' => e = .returned (.tuple #[.string s, .string ⟨#[]⟩, .bool false]) ∧ w' = w := by
    have H := Lib.hid h
    clear h
    go_enter Try.func35, Try.ntmps35
    go_wp2_with fail
    refine (Try.stringslite_Index_one s c _).mono ?_
    rintro e w1 ⟨rfl, rfl⟩
    rw [H.out]
    go_wp2_with fail
    go_ret3
    exact ⟨rfl, rfl⟩
  have H := Lib.hid h1
  clear h h1
  go_enter Try.func29, Try.ntmps29
  go_wp2_with fail
  refine H.out.mono ?_
  rintro e w1 ⟨rfl, rfl⟩
  go_wp2_with fail
  go_ret3
  exact ⟨rfl, Keeps.refl _ _⟩

theorem seam_left (a b : ByteArray) (c : UInt8) : (a ++ ⟨#[c]⟩ ++ b).extract 0 a.size = a := by
  rw [ByteArray.append_assoc]
  exact ByteArray.extract_append_eq_left rfl
theorem seam_size (a b : ByteArray) (c : UInt8) : (a ++ ⟨#[c]⟩ ++ b).size = a.size + 1 + b.size := by
  rw [ByteArray.size_append, ByteArray.size_append]
  have : (ByteArray.mk #[c]).size = 1 := rfl
  rw [this]
theorem seam_right (a b : ByteArray) (c : UInt8) : (a ++ ⟨#[c]⟩ ++ b).extract (a.size + 1) (a ++ ⟨#[c]⟩ ++ b).size = b := by
  refine ByteArray.extract_append_eq_right ?_ ?_
  · rw [ByteArray.size_append]; rfl
  · rw [ByteArray.size_append]
theorem seam_index (a b : ByteArray) (c : UInt8) (h : ∀ x ∈ a.data.toList, x ≠ c) : Lib.indexByte (a ++ ⟨#[c]⟩ ++ b : ByteArray).data.toList c = ((a.size : Nat) : Int) := by
  have : (a ++ ⟨#[c]⟩ ++ b : ByteArray).data.toList = a.data.toList ++ c :: b.data.toList := by simp
  rw [this, idx_list _ _ _ h]
  rfl

set_option maxHeartbeats 1000000 in
set_option maxRecDepth 100000 in
theorem cutIn_found (s : ByteArray) (c : UInt8) (m : Nat) (w : World) (h1 : m + 1 ≤ s.size) (h2 : s.size ≤ 1000) (hix : Lib.indexByte s.data.toList c = (m : Int)) :
    Calls Try.prog 35 #[.string s, .string ⟨#[c]⟩] w fun e w' => e = .returned (.tuple #[.string (s.extract 0 m), .string (s.extract (m + 1) s.size), .bool true]) ∧ Keeps w w' [] := by
  have i1 : (m : Int) + 1 ≤ (s.size : Int) := by omega
  have i2 : (s.size : Int) ≤ 1000 := by omega
  have i0 : (0 : Int) ≤ (m : Int) := by omega
  have i3 : (m : Int) ≤ 999 := by omega
  have i4 : (m : Int) ≤ (s.size : Int) := by omega
  have H := Lib.hid hix
  clear hix h1 h2
  go_enter Try.func35, Try.ntmps35
  go_wp2_with fail
  refine (Try.stringslite_Index_one s c _).mono ?_
  rintro e w1 ⟨rfl, rfl⟩
  rw [H.out]
  go_wp2_with fail
  go_quiet (fail)
  go_wp2_with fail
  go_ret3
  exact ⟨rfl, (Keeps.refl _ _).drewN _⟩
set_option maxHeartbeats 1000000 in
set_option maxRecDepth 100000 in
theorem cut_found (a b : ByteArray) (c : UInt8) (w : World) (h : ∀ x ∈ a.data.toList, x ≠ c) (hm : a.size + 1 + b.size ≤ 1000) :
    Calls Try.prog 29 #[.string (a ++ ⟨#[c]⟩ ++ b), .string ⟨#[c]⟩] w fun e w' => e = .returned (.tuple #[.string a, .string b, .bool true]) ∧ Keeps w w' [] := by
  have h1 := cutIn_found (a ++ ⟨#[c]⟩ ++ b) c a.size w (by rw [seam_size]; omega) (by rw [seam_size]; exact hm) (seam_index a b c h)
  rw [seam_left, seam_right] at h1
  obtain ⟨s, hs⟩ : ∃ s, s = a ++ ⟨#[c]⟩ ++ b := ⟨_, rfl⟩
  rw [← hs] at h1 ⊢
  have H := Lib.hid h1
  clear h h1 hs hm
  go_enter Try.func29, Try.ntmps29
  go_wp2_with fail
  refine H.out.mono ?_
  rintro e w1 ⟨rfl, hk1⟩
  have HK := Lib.hid hk1
  clear hk1
  go_wp2_with fail
  go_ret3
  exact ⟨rfl, HK.out⟩

end Go.Proofs.Ytbfcgiodpcchnaa
