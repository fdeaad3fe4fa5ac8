/-
  CONTRACTS: slots.number, slots.read, heliographref08.put, heliographref08.get.
-/
import Derived.Test.YtecjhaohabjkbaaP1
namespace Go.Proofs.Ytecjhaohabjkbaa
open Go.RowKit
set_option linter.unusedVariables false

theorem u8Info : (Try.prog.info? 5).map (fun i => (i.zero, i.size, i.bytes)) = some (some (.int .u8 0), 1, 1) := by kernel_rfl

/-- what a call leaves that lays bytes behind others. -/
def BStep (w : World) (fp : List Nat) (n : Nat) (xs : List Int) (e : Ending) (w' : World) : Prop :=
  ∃ v fp', e = .returned v ∧ Own w' 5 1 v n (bytes xs) fp' ∧ Keeps w w' fp ∧ ∀ k ∈ fp', k ∈ fp ∨ w.heap.size ≤ k

theorem shr_walk (n : Nat) (k i : Nat) (h : i < k) (hk : k ≤ 8) : ((n : Int) / 2 ^ (8 * (k - 1 - i))) % 256 = ((n / 256 ^ (k - 1 - i) % 256 : Nat) : Int) := by
  have e : (2 : Int) ^ (8 * (k - 1 - i)) = ((256 ^ (k - 1 - i) : Nat) : Int) := by
    rw [Int.pow_mul]; rfl
  rw [e]; rfl

set_option maxHeartbeats 800000 in set_option maxRecDepth 100000 in
set_option maxRecDepth 100000 in
theorem number_calls (v : Value) (n : Nat) (xs : List Int) (fp : List Nat) (x k : Nat) (w : World) (hv : Own w 5 1 v n (bytes xs) fp) (hx : x < 18446744073709551616) (hk : k ≤ 8) (hn : n ≤ 1000) :
    Calls Try.prog 80 #[v, .int .u64 x, .int .i64 k] w (BStep w fp (n + k) (xs ++ numB x k)) := by
  obtain ⟨i0, hi, hz0, hz1, hz2⟩ := info_parts u8Info
  have HV := Lib.hid hv
  clear hv
  go_enter Try.func80, Try.ntmps80
  go_wp2_with fail
  go_loopg [0, 9] k (fun g s0 s9 wx => ∃ (i : Nat) (fv : List Nat), g + i = k ∧ s9 = .int .i64 i ∧ Own wx 5 1 s0 (n + i) (bytes (xs ++ numTo x k i)) fv ∧ Keeps w wx fp ∧ ∀ k ∈ fv, k ∈ fp ∨ w.heap.size ≤ k)
  case atStart => exact ⟨0, fp, by omega, rfl, by simpa [numTo_zero] using HV.out, Keeps.refl _ _, fun k hk => .inl hk⟩
  case round =>
    obtain ⟨i, fv, hgi, rfl, hv, hK, hN⟩ := hrel
    have HI := Lib.hid (And.intro hgi (And.intro hv (And.intro hK hN)))
    clear hgi hv hK hN
    by_cases hik : i < k
    · have hod : bytes (xs ++ numTo x k (i + 1)) = bytes (xs ++ numTo x k i) ++ bytes [(x : Int) / 2 ^ (8 * (k - 1 - i)) % 256] := by
        rw [numTo_succ x k i hik, shr_walk x k i hik hk, ← List.append_assoc, bytes_append _ [_]]
      have HB := Lib.hid hod
      clear hod
      go_wp2_with (at_builtin; refine wpList_append_mine _ rfl (.tmp 12) (.tmp 21) _ _ rfl 5 i0 _ 1 1 Try.underlying22 hi hz0 hz1 hz2 rfl _ (n + i) (bytes (xs ++ numTo x k i)) fv rfl (HI.out.2.1.alloc _) _ 1 (bytes [(x : Int) / 2 ^ (8 * (k - 1 - i)) % 256]) rfl ?_ ?_ ?_ ?_)
      · exact (Blk.new' wr rfl 5 #[.int .u8 ((x : Int) / 2 ^ (8 * (k - 1 - i)) % 256)]).src Try.underlying22 1 rfl (bytes_one [(x : Int) / 2 ^ (8 * (k - 1 - i)) % 256])
      · unfold maxLen; omega
      · omega
      intro v1 w1 f1 ho1 hk1 hn1
      rw [← HB.out] at ho1
      have H1 := Lib.hid (And.intro ho1 (And.intro hk1 hn1)); clear ho1 hk1 hn1
      go_wp2_with fail
      go_roundg (k - (i + 1))
      case measure => have := HI.out.1; omega
      case rel =>
        obtain ⟨ho1, hk1, hn1⟩ := H1.out
        obtain ⟨hgi, hv, hK, hN⟩ := HI.out
        refine ⟨i + 1, f1, by omega, by go_num, ho1, (hK.alloc _).trans hk1 (fun j hj hm => by
          rcases hN j hm with h | h
          · exact h
          · omega), fun j hj => ?_⟩
        rcases hn1 j hj with h | h
        · exact hN j h
        · right; have := hK.size; omega
    · obtain rfl : i = k := by have := HI.out.1; omega
      go_wp2_with fail
      go_ret
      obtain ⟨hgi, hv, hK, hN⟩ := HI.out
      exact ⟨_, fv, rfl, by rw [numTo_all] at hv; exact hv, hK, hN⟩

theorem or_walk (a : Nat) (z : Int) (ha : a < 18446744073709551616) (h0 : 0 ≤ z) (h1 : z < 256) : bits .or .u64 (IntKind.u64.wrap ((a : Int) * 256)) z = (((a * 256 + z.toNat) % 18446744073709551616 : Nat) : Int) := by
  rw [IntKind.wrap_u64]
  obtain ⟨c, rfl⟩ := Int.eq_ofNat_of_zero_le h0
  have e : ((a : Int) * 256 % 18446744073709551616) = ((a * 256 % 18446744073709551616 : Nat) : Int) := by omega
  have hm : a * 256 % 18446744073709551616 = a % 72057594037927936 * 256 := by omega
  rw [e, hm, u64_or _ _ (by omega) (by omega) (by omega) (by omega), Int.toNat_natCast, Int.toNat_natCast]
  have h2 : (a % 72057594037927936 * 256) ||| c = a % 72057594037927936 * 256 + c := by
    have := Nat.two_pow_add_eq_or_of_lt (i := 8) (b := c) (by omega) (a % 72057594037927936)
    rw [Nat.mul_comm] at this
    exact this.symm
  rw [h2]
  omega
theorem rd_take (bs : List Int) (k : Nat) (c : Int) (h : bs[k]? = some c) : rdB (bs.take (k + 1)) = (rdB (bs.take k) * 256 + c.toNat) % 18446744073709551616 := by
  have hk := (List.getElem?_eq_some_iff.1 h).1
  rw [List.take_succ_eq_append_getElem hk, rdB_snoc]
  have : bs[k] = c := (List.getElem?_eq_some_iff.1 h).2
  rw [this]

set_option maxHeartbeats 800000 in set_option maxRecDepth 100000 in
set_option maxRecDepth 100000 in
theorem num_calls (A : Option Addr) (n c : Nat) (bs : List Int) (fp : List Nat) (w : World) (hr : Reads w 1 A n (bytes bs) fp) (hwf : Wf8 bs) (hn : n ≤ 1000000) :
    Calls Try.prog 82 #[.slice A n c] w fun e w' => e = .returned (.int .u64 (rdB bs)) ∧ w = w' := by
  go_enter Try.func82, Try.ntmps82
  go_wp2_with fail
  go_loopg [2, 7] n (fun g s2 s7 wx => ∃ k : Nat, g + k = n ∧ s2 = .int .u64 (rdB (bs.take k) : Nat) ∧ s7 = .int .i64 k ∧ wx = w)
  case atStart => exact ⟨0, by omega, rfl, rfl, rfl⟩
  case round =>
    obtain ⟨k, hgk, rfl, rfl, rfl⟩ := hrel
    have HK := Lib.hid hgk
    clear hgk
    by_cases hk : k < n
    · obtain ⟨b, o, u, rfl, -, -, hx, hc⟩ := hr.cellAt hk
      obtain ⟨z, hz, rfl⟩ : ∃ z, bs[k]? = some z ∧ Value.int .u8 z = u := by simpa [bytes] using hx
      obtain ⟨z0, z1⟩ := hwf z (List.mem_of_getElem? hz)
      obtain ⟨x, hx0⟩ : ∃ x, x = rdB (bs.take k) := ⟨_, rfl⟩
      have hxl : x < 18446744073709551616 := hx0 ▸ rdB_lt _
      rw [← hx0]
      have HX := Lib.hid (And.intro hx0 (And.intro hz hxl))
      have hx63 : (0 : Int) ≤ (x : Int) := by omega
      clear hx hx0 hz hxl
      go_wp2_with fail
      go_roundg (n - (k + 1))
      case measure => have := HK.out; omega
      case rel => exact ⟨k + 1, by have := HK.out; omega, by rw [or_walk x z HX.out.2.2 z0 z1, rd_take bs k z HX.out.2.1, ← HX.out.1], by go_num, rfl⟩
    · obtain rfl : k = n := by have := HK.out; omega
      have hlen : (bytes bs).length = k * 1 := hr.1
      rw [bytes_length, Nat.mul_one] at hlen
      have e : bs.take k = bs := List.take_of_length_le (by omega)
      rw [e]
      clear e hlen
      go_wp2_with fail
      go_ret
      exact ⟨rfl, rfl⟩

set_option maxHeartbeats 800000 in set_option maxRecDepth 100000 in
set_option maxRecDepth 100000 in
theorem rput_calls (x k : Nat) (w : World) (hx : x < 18446744073709551616) (hk : k ≤ 8) :
    Calls Try.prog 86 #[.int .u64 x, .int .i64 k] w (BStep w [] k (numB x k)) := by
  obtain ⟨i0, hi, hz0, hz1, hz2⟩ := info_parts u8Info
  go_enter Try.func86, Try.ntmps86
  go_wp2_with fail
  go_loopg [5, 6] k (fun g s5 s6 wx => ∃ (i : Nat) (fv : List Nat), g + i = k ∧ s6 = .int .i64 ((k : Int) - 1 - i) ∧ Own wx 5 1 s5 i (bytes (numTo x k i)) fv ∧ Keeps w wx [] ∧ ∀ k ∈ fv, w.heap.size ≤ k)
  case atStart => exact ⟨0, [], by omega, by congr 1; omega, Own.bare _ _ _ _, Keeps.refl _ _, by simp⟩
  case round =>
    obtain ⟨i, fv, hgi, rfl, hv, hK, hN⟩ := hrel
    have hik0 : (i : Int) ≤ k := by omega
    have HI := Lib.hid (And.intro hgi (And.intro hv (And.intro hK hN)))
    clear hgi hv hK hN
    by_cases hik : i < k
    · have hod : bytes (numTo x k (i + 1)) = bytes (numTo x k i) ++ bytes [(x : Int) / 2 ^ (8 * (k - 1 - i)) % 256] := by
        rw [numTo_succ x k i hik, shr_walk x k i hik hk, bytes_append _ [_]]
      have HB := Lib.hid hod
      clear hod
      go_wp2_with (at_builtin; refine wpList_append_mine _ rfl (.tmp 13) (.tmp 19) _ _ rfl 5 i0 _ 1 1 Try.underlying22 hi hz0 hz1 hz2 rfl _ i (bytes (numTo x k i)) fv rfl (HI.out.2.1.alloc _) _ 1 (bytes [(x : Int) / 2 ^ (8 * (k - 1 - i)) % 256]) rfl ?_ ?_ ?_ ?_)
      · exact (Blk.new' wr rfl 5 #[.int .u8 ((x : Int) / 2 ^ (8 * (k - 1 - i)) % 256)]).src Try.underlying22 1 rfl (bytes_one [(x : Int) / 2 ^ (8 * (k - 1 - i)) % 256])
      · unfold maxLen; omega
      · omega
      intro v1 w1 f1 ho1 hk1 hn1
      rw [← HB.out] at ho1
      have H1 := Lib.hid (And.intro ho1 (And.intro hk1 hn1)); clear ho1 hk1 hn1
      go_wp2_with fail
      go_roundg (k - (i + 1))
      case measure => have := HI.out.1; omega
      case rel =>
        obtain ⟨ho1, hk1, hn1⟩ := H1.out
        obtain ⟨hgi, hv, hK, hN⟩ := HI.out
        refine ⟨i + 1, f1, by omega, by congr 1; omega, ho1, (hK.alloc _).trans hk1 (fun j hj hm => by have := hN j hm; omega), fun j hj => ?_⟩
        rcases hn1 j hj with h | h
        · exact hN j h
        · have := hK.size; omega
    · obtain rfl : i = k := by have := HI.out.1; omega
      go_wp2_with fail
      go_ret
      obtain ⟨hgi, hv, hK, hN⟩ := HI.out
      exact ⟨_, fv, rfl, by rw [numTo_all] at hv; exact hv, hK, fun k hk => .inr (hN k hk)⟩

set_option maxHeartbeats 800000 in set_option maxRecDepth 100000 in
set_option maxRecDepth 100000 in
theorem rget_calls (A : Option Addr) (n c : Nat) (bs : List Int) (fp : List Nat) (w : World) (hr : Reads w 1 A n (bytes bs) fp) (hwf : Wf8 bs) (hn : n ≤ 1000000) :
    Calls Try.prog 91 #[.slice A n c] w fun e w' => e = .returned (.int .u64 (rdB bs)) ∧ w = w' := by
  go_enter Try.func91, Try.ntmps91
  go_wp2_with fail
  go_loopg [3, 4] n (fun g s3 s4 wx => ∃ k : Nat, g + k = n ∧ s3 = .int .u64 (rdB (bs.take k) : Nat) ∧ s4 = .int .i64 k ∧ wx = w)
  case atStart => exact ⟨0, by omega, rfl, rfl, rfl⟩
  case round =>
    obtain ⟨k, hgk, rfl, rfl, rfl⟩ := hrel
    have HK := Lib.hid hgk
    clear hgk
    by_cases hk : k < n
    · obtain ⟨b, o, u, rfl, -, -, hx, hc⟩ := hr.cellAt hk
      obtain ⟨z, hz, rfl⟩ : ∃ z, bs[k]? = some z ∧ Value.int .u8 z = u := by simpa [bytes] using hx
      obtain ⟨z0, z1⟩ := hwf z (List.mem_of_getElem? hz)
      obtain ⟨x, hx0⟩ : ∃ x, x = rdB (bs.take k) := ⟨_, rfl⟩
      have hxl : x < 18446744073709551616 := hx0 ▸ rdB_lt _
      rw [← hx0]
      have HX := Lib.hid (And.intro hx0 (And.intro hz hxl))
      have hx63 : (0 : Int) ≤ (x : Int) := by omega
      clear hx hx0 hz hxl
      go_wp2_with fail
      go_roundg (n - (k + 1))
      case measure => have := HK.out; omega
      case rel => exact ⟨k + 1, by have := HK.out; omega, by rw [or_walk x z HX.out.2.2 z0 z1, rd_take bs k z HX.out.2.1, ← HX.out.1], by go_num, rfl⟩
    · obtain rfl : k = n := by have := HK.out; omega
      have hlen : (bytes bs).length = k * 1 := hr.1
      rw [bytes_length, Nat.mul_one] at hlen
      have e : bs.take k = bs := List.take_of_length_le (by omega)
      rw [e]
      clear e hlen
      go_wp2_with fail
      go_ret
      exact ⟨rfl, rfl⟩

end Go.Proofs.Ytecjhaohabjkbaa
