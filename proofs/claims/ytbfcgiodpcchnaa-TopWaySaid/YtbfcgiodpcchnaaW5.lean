/-
  CONTRACTS: text.Chars of letters, digits and signs; write.fits. (chars_calls as in S9.)
-/
import Derived.Test.YtbfcgiodpcchnaaW4
import Derived.Deep.LoopGhost
import Derived.Laws.RangeString
namespace Go.Proofs.Ytbfcgiodpcchnaa
open Go.RowKit
set_option linter.unusedVariables false

set_option maxHeartbeats 3200000 in
set_option maxRecDepth 100000 in
theorem chars_calls (s : ByteArray) (w : World) (h : ∀ i, i < s.size → 32 < byteAt s i ∧ byteAt s i < 127) (hm : s.size ≤ 10000) : Calls Try.prog 24 #[.string s] w fun e w' => e = .returned (.bool true) ∧ Keeps w w' [] := by
  have H := Lib.hid (And.intro h hm)
  clear h hm
  go_enter Try.func24, Try.ntmps24
  go_wp2_with fail
  go_loopg [4] s.size (fun gg _ wr => ∃ k : Nat, gg + k = s.size ∧ wr = w.iter s k)
  case atStart => exact ⟨0, by omega, rfl⟩
  case round =>
    obtain ⟨k, hgk, rfl⟩ := hrel
    by_cases hlt : k < s.size
    · obtain ⟨x, hx⟩ : ∃ x, x = byteAt s k := ⟨_, rfl⟩
      have hf := H.out.1 k hlt
      have hsx : (s[k]'hlt).toNat = x := by rw [hx, byteAt_eq s k hlt]
      rw [← hx] at hf
      have hnx : ∀ ty, (Instr.next (.pointer (some ⟨w.heap.size, 0, none⟩)) true ty).run Try.prog (w.iter s k) = .ok (.tuple #[.bool true, .int .i64 k, .int .i32 (x : Int)]) (w.iter s (k + 1)) := by
        intro ty
        rw [← hsx]
        exact run_next_ascii w s k ty hlt (by omega)
      have h1 : ((x : Int) == 65533) = false := by rw [beq_eq_false_iff_ne]; omega
      have h2 : ((x : Int) == 65534) = false := by rw [beq_eq_false_iff_ne]; omega
      have h3 : ((x : Int) == 65535) = false := by rw [beq_eq_false_iff_ne]; omega
      have h4 : ¬ (x : Int) < 32 := by omega
      have HK := Lib.hid (And.intro hgk hlt)
      clear hgk hlt hx hsx hf
      go_wp2_with fail
      go_roundg (s.size - (k + 1))
      case measure => have := HK.out; omega
      case rel => exact ⟨k + 1, by have := HK.out; omega, rfl⟩
    · have hnx : ∀ ty, (Instr.next (.pointer (some ⟨w.heap.size, 0, none⟩)) true ty).run Try.prog (w.iter s k) = .ok (.tuple #[.bool false]) (w.iter s k) := fun ty => run_next_end w s k ty hlt
      clear hlt hgk
      go_wp2_with fail
      go_ret
      exact ⟨rfl, (Keeps.refl w []).alloc _⟩

/-- plain bytes. -/
def plainT (s : ByteArray) : Prop := (∀ i, i < s.size → 32 < byteAt s i ∧ byteAt s i < 127) ∧ s.size ≤ 512
theorem fits_calls (s : ByteArray) (w : World) (h : plainT s) : Calls Try.prog 40 #[.string s] w fun e w' => e = .returned (.bool true) ∧ Keeps w w' [] := by
  have HC := Lib.hid (fun wx => chars_calls s wx h.1 (by have := h.2; omega))
  have hi : (s.size : Int) ≤ 512 := by have := h.2; omega
  clear h
  go_enter Try.func40, Try.ntmps40
  go_wp2_with fail
  refine (HC.out _).mono ?_
  rintro e w1 ⟨rfl, hk1⟩
  have HK := Lib.hid hk1
  clear hk1
  go_wp2_with fail
  go_ret
  exact ⟨rfl, HK.out⟩

end Go.Proofs.Ytbfcgiodpcchnaa
