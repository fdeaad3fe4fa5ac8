/-
  CONTRACTS: slots.Sum, heliographref08.Sum.
-/
import Derived.Test.YtecjhaohabjkbaaDZ
import Derived.Test.YtecjhaohabjkbaaD9
import Derived.Test.YtecjhaohabjkbaaStar
import Derived.Test.YtecjhaohabjkbaaPL
import Derived.Laws.ShiftsVarLaws
namespace Go.Proofs.Ytecjhaohabjkbaa
open Go.RowKit
set_option linter.unusedVariables false

theorem crc_take (bs : List Int) (k : Nat) (c : Int) (h : bs[k]? = some c) : crc (bs.take (k + 1)) = crcByte (crc (bs.take k)) c := by
  have hk := (List.getElem?_eq_some_iff.1 h).1
  rw [List.take_succ_eq_append_getElem hk, crc_snoc]
  have : bs[k] = c := (List.getElem?_eq_some_iff.1 h).2
  rw [this]

theorem crc_walk (y : Nat) (h : y < 4294967296) : bits .xor .u32 ((y : Int) / 2) (bits .and .u32 (-bits .and .u32 (y : Int) 1 % 4294967296) 3988292384) = ((crcBit y : Nat) : Int) := by
  have e1 : bits .and .u32 (y : Int) 1 = ((y % 2 : Nat) : Int) := by
    rw [u32_and _ _ (by omega) (by omega) (by omega) (by omega), Int.toNat_natCast, Int.toNat_one, Nat.and_one_is_mod]
  rw [e1]
  have e2 : ((y : Int) / 2) = ((y / 2 : Nat) : Int) := by omega
  rw [e2]
  unfold crcBit
  have h2 : y % 2 = 0 ∨ y % 2 = 1 := by omega
  have hl : y / 2 < 4294967296 := by omega
  rcases h2 with h2 | h2
  · rw [h2, if_neg (by omega)]
    have e3 : bits .and .u32 (-((0 : Nat) : Int) % 4294967296) 3988292384 = 0 := by decide
    rw [e3, u32_xor _ _ (by omega) (by omega) (by omega) (by omega), Int.toNat_natCast]
    simp
  · rw [h2, if_pos rfl]
    have e3 : bits .and .u32 (-((1 : Nat) : Int) % 4294967296) 3988292384 = 3988292384 := by decide
    rw [e3, u32_xor _ _ (by omega) (by omega) (by omega) (by omega), Int.toNat_natCast]
    rfl
theorem not_walk (y : Nat) (h : y < 4294967296) : bits .xor .u32 IntKind.u32.max (y : Int) = ((4294967295 ^^^ y : Nat) : Int) := by
  have e : IntKind.u32.max = 4294967295 := by decide
  rw [e, u32_xor _ _ (by omega) (by omega) (by omega) (by omega)]
  simp

set_option maxHeartbeats 800000 in set_option maxRecDepth 100000 in
set_option maxRecDepth 100000 in
theorem sum_calls (A : Option Addr) (n c : Nat) (bs : List Int) (fp : List Nat) (w : World) (hr : Reads w 1 A n (bytes bs) fp) (hwf : Wf8 bs) (hn : n ≤ 1000000) :
    Calls Try.prog 24 #[.slice A n c] w fun e w' => e = .returned (.int .u32 (sumM bs)) ∧ w = w' := by
  go_enter Try.func24, Try.ntmps24
  go_wp2_with fail
  go_loopg [3, 8] n (fun g s3 s8 wx => ∃ k : Nat, g + k = n ∧ s3 = .int .u32 (crc (bs.take k) : Nat) ∧ s8 = .int .i64 k ∧ wx = w)
  case atStart => exact ⟨0, by omega, rfl, rfl, rfl⟩
  case round =>
    obtain ⟨k, hgk, rfl, rfl, rfl⟩ := hrel
    have HK := Lib.hid hgk
    clear hgk
    by_cases hk : k < n
    · obtain ⟨b, o, u, rfl, -, -, hx, hc⟩ := hr.cellAt hk
      obtain ⟨z, hz, rfl⟩ : ∃ z, bs[k]? = some z ∧ Value.int .u8 z = u := by simpa [bytes] using hx
      obtain ⟨z0, z1⟩ := hwf z (List.mem_of_getElem? hz)
      obtain ⟨x, hx0⟩ : ∃ x, x = crc (bs.take k) := ⟨_, rfl⟩
      have hxl : x < 4294967296 := hx0 ▸ crc_lt (hwf.take k)
      rw [← hx0]
      have HX := Lib.hid (And.intro hx0 hz)
      clear hx hx0 hz
      go_wp2_with fail
      have hs3 : bits .xor .u32 (x : Int) z = ((crcBits 0 (x ^^^ z.toNat) : Nat) : Int) := by
        rw [u32_xor _ _ (by omega) (by omega) z0 (by omega), Int.toNat_natCast]; rfl
      rw [hs3]
      clear hs3
      obtain ⟨wo, rfl⟩ : ∃ wo : World, wo = wr := ⟨_, rfl⟩
      go_loopg [3, 16] 8 (fun g s3 s16 wx => ∃ j : Nat, g + j = 8 ∧ s3 = .int .u32 (crcBits j (x ^^^ z.toNat) : Nat) ∧ s16 = .int .i64 j ∧ wx = wo)
      case atStart => exact ⟨0, by omega, rfl, rfl, rfl⟩
      case round =>
        obtain ⟨j, hgj, rfl, rfl, rfl⟩ := hrel
        have HJ := Lib.hid hgj
        clear hgj
        obtain ⟨y, hy⟩ : ∃ y, y = crcBits j (x ^^^ z.toNat) := ⟨_, rfl⟩
        have hyl : y < 4294967296 := hy ▸ crcBits_lt (xor_byte_lt hxl z0 z1) j
        rw [← hy]
        have HY := Lib.hid hy
        clear hy
        by_cases hj : j < 8
        · go_wp2_with fail
          go_roundg (8 - (j + 1))
          case measure => have := HJ.out; omega
          case rel => exact ⟨j + 1, by have := HJ.out; omega, by rw [crc_walk y hyl, HY.out]; rfl, by go_num, rfl⟩
        · obtain rfl : j = 8 := by have := HJ.out; omega
          go_wp2_with fail
          go_roundg (n - (k + 1))
          case measure => have := HK.out; omega
          case rel => exact ⟨k + 1, by have := HK.out; omega, by rw [crc_take bs k z HX.out.2, ← HX.out.1, HY.out]; rfl, by go_num, rfl⟩
    · obtain rfl : k = n := by have := HK.out; omega
      have hlen : (bytes bs).length = k * 1 := hr.1
      rw [bytes_length, Nat.mul_one] at hlen
      obtain ⟨x, hx0⟩ : ∃ x, x = crc (bs.take k) := ⟨_, rfl⟩
      have hxl : x < 4294967296 := hx0 ▸ crc_lt (hwf.take k)
      have hx1 : x = crc bs := by rw [hx0, List.take_of_length_le (by omega)]
      rw [← hx0]
      have HX := Lib.hid hx1
      clear hx0 hx1 hlen
      go_wp2_with fail
      go_ret
      refine ⟨?_, rfl⟩
      show Ending.returned (.int .u32 (bits .xor .u32 IntKind.u32.max (x : Int))) = _
      rw [not_walk x hxl, HX.out]; rfl

theorem and1_walk (y : Nat) (h : y < 4294967296) : bits .and .u32 (y : Int) 1 = ((y % 2 : Nat) : Int) := by
  rw [u32_and _ _ (by omega) (by omega) (by omega) (by omega), Int.toNat_natCast, Int.toNat_one, Nat.and_one_is_mod]
theorem bit_walk (z : Int) (j : Nat) (h0 : 0 ≤ z) (h1 : z < 256) : bits .and .u32 (z / 2 ^ j) 1 = ((z.toNat / 2 ^ j % 2 : Nat) : Int) := by
  obtain ⟨c, rfl⟩ := Int.eq_ofNat_of_zero_le h0
  have e : ((c : Int) / 2 ^ j) = ((c / 2 ^ j : Nat) : Int) := by simp
  rw [e, and1_walk _ (Nat.lt_of_le_of_lt (Nat.div_le_self _ _) (by omega)), Int.toNat_natCast]
theorem ref_walk_eq (y : Nat) (z : Int) (j : Nat) (h : y < 4294967296) (h0 : 0 ≤ z) (h1 : z < 256) (he : (bits .and .u32 (y : Int) 1 != bits .and .u32 (z / 2 ^ j) 1) = false) : ((y : Int) / 2) = ((refBit z.toNat j y : Nat) : Int) := by
  rw [and1_walk y h, bit_walk z j h0 h1] at he
  unfold refBit
  rw [if_pos (by rw [bne_eq_false_iff_eq] at he; exact Int.ofNat.inj he)]
  omega
theorem ref_walk_ne (y : Nat) (z : Int) (j : Nat) (h : y < 4294967296) (h0 : 0 ≤ z) (h1 : z < 256) (he : (bits .and .u32 (y : Int) 1 != bits .and .u32 (z / 2 ^ j) 1) = true) : bits .xor .u32 ((y : Int) / 2) 3988292384 = ((refBit z.toNat j y : Nat) : Int) := by
  rw [and1_walk y h, bit_walk z j h0 h1] at he
  have e2 : ((y : Int) / 2) = ((y / 2 : Nat) : Int) := by omega
  unfold refBit
  rw [if_neg (by rw [bne_iff_ne] at he; exact fun h => he (congrArg _ h)), e2, u32_xor _ _ (by omega) (by omega) (by omega) (by omega), Int.toNat_natCast]
  rfl

set_option maxHeartbeats 800000 in set_option maxRecDepth 100000 in
set_option maxRecDepth 100000 in
theorem rsum_calls (A : Option Addr) (n c : Nat) (bs : List Int) (fp : List Nat) (w : World) (hr : Reads w 1 A n (bytes bs) fp) (hwf : Wf8 bs) (hn : n ≤ 1000000) :
    Calls Try.prog 25 #[.slice A n c] w fun e w' => e = .returned (.int .u32 (sumM bs)) ∧ w = w' := by
  go_enter Try.func25, Try.ntmps25
  go_wp2_with fail
  go_loopg [3, 4] n (fun g s3 s4 wx => ∃ k : Nat, g + k = n ∧ s3 = .int .u32 (crc (bs.take k) : Nat) ∧ s4 = .int .i64 k ∧ wx = w)
  case atStart => exact ⟨0, by omega, rfl, rfl, rfl⟩
  case round =>
    obtain ⟨k, hgk, rfl, rfl, rfl⟩ := hrel
    have HK := Lib.hid hgk
    clear hgk
    by_cases hk : k < n
    · obtain ⟨b, o, u, rfl, -, -, hx, hc⟩ := hr.cellAt hk
      obtain ⟨z, hz, rfl⟩ : ∃ z, bs[k]? = some z ∧ Value.int .u8 z = u := by simpa [bytes] using hx
      obtain ⟨z0, z1⟩ := hwf z (List.mem_of_getElem? hz)
      obtain ⟨x, hx0⟩ : ∃ x, x = crc (bs.take k) := ⟨_, rfl⟩
      have hxl : x < 4294967296 := hx0 ▸ crc_lt (hwf.take k)
      rw [← hx0]
      have HX := Lib.hid (And.intro hx0 hz)
      clear hx hx0 hz
      go_wp2_with fail
      obtain ⟨wo, rfl⟩ : ∃ wo : World, wo = wr := ⟨_, rfl⟩
      go_loopg [3, 5] 8 (fun g s3 s5 wx => ∃ j : Nat, g + j = 8 ∧ s3 = .int .u32 (refBits z.toNat j x : Nat) ∧ s5 = .int .i64 j ∧ wx = wo)
      case atStart => exact ⟨0, by omega, rfl, rfl, rfl⟩
      case round =>
        obtain ⟨j, hgj, rfl, rfl, rfl⟩ := hrel
        have HJ := Lib.hid hgj
        clear hgj
        obtain ⟨y, hy⟩ : ∃ y, y = refBits z.toNat j x := ⟨_, rfl⟩
        have hyl : y < 4294967296 := hy ▸ refBits_lt hxl _ j
        rw [← hy]
        have HY := Lib.hid hy
        clear hy
        by_cases hj : j < 8
        · by_cases he : (bits .and .u32 (y : Int) 1 != bits .and .u32 (z / 2 ^ j) 1) = true
          · go_wp2_with fail
            go_roundg (8 - (j + 1))
            case measure => have := HJ.out; omega
            case rel => exact ⟨j + 1, by have := HJ.out; omega, by rw [ref_walk_ne y z j hyl z0 z1 he, HY.out]; rfl, by go_num, rfl⟩
          · have he : (bits .and .u32 (y : Int) 1 != bits .and .u32 (z / 2 ^ j) 1) = false := by simpa using he
            go_wp2_with fail
            go_roundg (8 - (j + 1))
            case measure => have := HJ.out; omega
            case rel => exact ⟨j + 1, by have := HJ.out; omega, by rw [ref_walk_eq y z j hyl z0 z1 he, HY.out]; rfl, by go_num, rfl⟩
        · obtain rfl : j = 8 := by have := HJ.out; omega
          go_wp2_with fail
          go_roundg (n - (k + 1))
          case measure => have := HK.out; omega
          case rel => exact ⟨k + 1, by have := HK.out; omega, by rw [crc_take bs k z HX.out.2, ← HX.out.1, HY.out, refBits_eight _ _ (by omega)]; rfl, by go_num, rfl⟩
    · obtain rfl : k = n := by have := HK.out; omega
      have hlen : (bytes bs).length = k * 1 := hr.1
      rw [bytes_length, Nat.mul_one] at hlen
      obtain ⟨x, hx0⟩ : ∃ x, x = crc (bs.take k) := ⟨_, rfl⟩
      have hxl : x < 4294967296 := hx0 ▸ crc_lt (hwf.take k)
      have hx1 : x = crc bs := by rw [hx0, List.take_of_length_le (by omega)]
      rw [← hx0]
      have HX := Lib.hid hx1
      clear hx0 hx1 hlen
      go_wp2_with fail
      go_ret
      refine ⟨?_, rfl⟩
      show Ending.returned (.int .u32 (bits .xor .u32 IntKind.u32.max (x : Int))) = _
      rw [not_walk x hxl, HX.out]; rfl

end Go.Proofs.Ytecjhaohabjkbaa
