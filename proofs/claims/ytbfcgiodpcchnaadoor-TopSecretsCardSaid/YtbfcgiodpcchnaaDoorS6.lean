/-
  CONTRACTS: text.Unbase64 of what text.Base64 gives.
-/
import Derived.Test.YtbfcgiodpcchnaaDoorS5
namespace Go.Proofs.YtbfcgiodpcchnaaDoor
open Go.RowKit
set_option linter.unusedVariables false

theorem alph_index : ∀ v : Nat, v < 64 → Lib.indexByte (ByteArray.mk #[65,66,67,68,69,70,71,72,73,74,75,76,77,78,79,80,81,82,83,84,85,86,87,88,89,90,97,98,99,100,101,102,103,104,105,106,107,108,109,110,111,112,113,114,115,116,117,118,119,120,121,122,48,49,50,51,52,53,54,55,56,57,43,47]).data.toList ((alpha v : Int).toNat.toUInt8) = (v : Int) := by decide +kernel
theorem b64_in (t : ByteArray) (i : Nat) (h : i < bodyB t) : byteAt (b64 t) i = alpha (code t i) := by
  have := bodyB_le t
  rw [b64_at t i (by omega), encC_in t i h]
theorem b64_out (t : ByteArray) (i : Nat) (h : bodyB t ≤ i) (hl : i < (b64 t).size) : byteAt (b64 t) i = 61 := by
  rw [b64_size] at hl
  rw [b64_at t i hl, encC_out t i h hl]
theorem trimmed_at (t : ByteArray) (i : Nat) (h : i < bodyB t) : byteAt ((b64 t).extract 0 (bodyB t)) i = alpha (code t i) := by
  have := bodyB_le t
  rw [head_at _ _ _ (by rw [b64_size]; exact this) h, b64_in t i h]

theorem or_six (b d : Nat) (hd : d < 64) : bits .or .u32 ((b : Int) * 64 % 4294967296) ((d : Int) % 4294967296) = (((b * 64 + d) % 4294967296 : Nat) : Int) := by
  have e1 : (b : Int) * 64 % 4294967296 = ((b * 64 % 4294967296 : Nat) : Int) := by omega
  have e2 : (d : Int) % 4294967296 = ((d : Nat) : Int) := by omega
  have e3 : b * 64 % 4294967296 = 64 * (b % 67108864) := by omega
  rw [e1, e2, u32_or_nat _ _ (by omega) (by omega), e3]
  have := Nat.two_pow_add_eq_or_of_lt (i := 6) (b := d) (by omega) (b % 67108864)
  rw [show 2 ^ 6 = 64 from rfl] at this
  rw [← this]
  omega

set_option maxHeartbeats 3200000 in
set_option maxRecDepth 100000 in
theorem unbase64_calls (t : ByteArray) (w : World) (h : t.size ≤ 1000) (h0 : 0 < t.size) : Calls Tryd.prog 8 #[.string (b64 t)] w fun e w' => e = .returned (.tuple #[.string t, .int .i64 0]) ∧ Keeps w w' [] := by
  obtain ⟨i0, hi, hz0, hz1, hz2⟩ := info_parts info_byte
  have HQ := Lib.hid (And.intro hi (And.intro hz0 (And.intro hz1 hz2)))
  clear hi hz0 hz1 hz2
  have hB := fun w => base64_calls t w h h0
  have hT := trim_calls (b64 t) (bodyB t) w (by rw [b64_size]; unfold lenB; omega) (by rw [b64_size]; exact bodyB_le t) (by rw [b64_size]; unfold lenB; omega) (fun i h1 h2 => b64_out t i h1 h2) (fun i h1 => by
    rw [b64_in t i (by omega)]
    exact (alpha_facts (code t i) (code_lt t i)).2.2.2.1)
  have hA := trimmed_at t
  have hAs : ((b64 t).extract 0 (bodyB t)).size = bodyB t := head_size _ _ (by rw [b64_size]; exact bodyB_le t)
  obtain ⟨r, hr⟩ : ∃ r, r = (b64 t).extract 0 (bodyB t) := ⟨_, rfl⟩
  obtain ⟨s, hs⟩ : ∃ s, s = b64 t := ⟨_, rfl⟩
  obtain ⟨n, hn⟩ : ∃ n, n = bodyB t := ⟨_, rfl⟩
  rw [← hr] at hT hA hAs
  rw [← hs] at hT hB ⊢
  rw [← hn] at hAs hA
  have hn2 : n ≤ 4000 := by unfold bodyB at hn; omega
  have H := Lib.hid (And.intro hB (And.intro hT (And.intro hA (And.intro h (And.intro h0 (And.intro hn hn2))))))
  clear hB hT hA hr hs hn h h0 hn2
  go_enter Tryd.func8, Tryd.ntmps8
  go_wp2_with fail
  refine H.out.2.1.mono ?_
  rintro e w1 ⟨rfl, rfl⟩
  go_wp2_with fail
  go_loopg [5, 6, 7, 14] n (fun gg s5 s6 s7 s14 wx => ∃ (i b m : Nat) (fo : List Nat), gg + i = n ∧ s14 = .int .i64 i ∧ s6 = .int .u32 b ∧ s7 = .int .i64 m ∧ m = heldN i ∧ b < 4294967296 ∧ b % 2 ^ heldN i = heldB t i ∧ Own wx 5 1 s5 (6 * i / 8) (bytes ((ofStr t).take (6 * i / 8))) fo ∧ Keeps w1 wx [] ∧ ∀ j ∈ fo, w1.heap.size ≤ j)
  case atStart => exact ⟨0, 0, 0, [], by omega, rfl, rfl, rfl, rfl, by omega, rfl, Own.bare _ _ _ _, Keeps.refl _ _, by simp⟩
  case round =>
    obtain ⟨i, b, m, fo, hgi, rfl, rfl, rfl, hm, hb, hbh, hO, hK, hN⟩ := hrel
    obtain ⟨Ao, co, rfl, -, -⟩ := hO.form
    by_cases hlt : i < n
    · obtain ⟨x, hx⟩ : ∃ x, x = alpha (code t i) := ⟨_, rfl⟩
      have hrx : ∀ h : i < r.size, (r[i]'h).toNat = x := by
        intro h
        rw [← byteAt_eq r i h, hx]
        exact H.out.2.2.1 i hlt
      obtain ⟨d, hd⟩ : ∃ d, d = code t i := ⟨_, rfl⟩
      have hix : Lib.indexByte (ByteArray.mk #[65,66,67,68,69,70,71,72,73,74,75,76,77,78,79,80,81,82,83,84,85,86,87,88,89,90,97,98,99,100,101,102,103,104,105,106,107,108,109,110,111,112,113,114,115,116,117,118,119,120,121,122,48,49,50,51,52,53,54,55,56,57,43,47]).data.toList ((x : Int).toNat.toUInt8) = (d : Int) := by rw [hx, hd]; exact alph_index _ (code_lt t i)
      have hd64 : d < 64 := by rw [hd]; exact code_lt t i
      obtain ⟨D, hD⟩ : ∃ D, D = (b * 64 + d) % 4294967296 := ⟨_, rfl⟩
      have hor : bits .or .u32 ((b : Int) * 64 % 4294967296) ((d : Int) % 4294967296) = (D : Int) := by rw [hD]; exact or_six b d hd64
      have hsN : 6 * i / 8 ≤ 4000 := by have := H.out.2.2.2.2.2.2; omega
      have hip : (0 : Int) ≤ i := by omega
      have hib : (i : Int) ≤ 4000 := by have := H.out.2.2.2.2.2.2; omega
      have HX := Lib.hid (And.intro hd (And.intro hD (And.intro hgi (And.intro hO (And.intro hK (And.intro hN (And.intro hlt hsN)))))))
      have HI := Lib.hid hix
      have hlow := held_low t i b
      have hhigh := held_high t i b
      rw [← hm] at hbh hlow hhigh
      rw [← hd] at hlow hhigh
      rw [← hD] at hlow hhigh
      have hlow := hlow hbh
      have hhigh := hhigh hbh
      have hm4 : m = 0 ∨ m = 2 ∨ m = 4 ∨ m = 6 := by unfold heldN at hm; omega
      have hDb : D < 4294967296 := by omega
      have hhi := hlt
      clear hd hgi hb hbh hO hK hN hx hix hd64 hD hsN hm
      by_cases h8 : m = 0
      · subst h8
        have HL := Lib.hid (And.intro (hlow (by omega)) hDb)
        clear hlow hhigh hm4 hDb
        go_wp2_with fail
        refine (Tryd.strings_IndexByte _ _ _).mono ?_
        rintro e w2 ⟨rfl, rfl⟩
        rw [HI.out]
        go_wp2_with fail
        go_roundg (n - (i + 1))
        case measure => have := HX.out.2.2.1; omega
        case rel =>
          obtain ⟨hd, hD, hgi, hO, hK, hN, hlt, hsN⟩ := HX.out
          obtain ⟨⟨h1, h2⟩, h3⟩ := HL.out
          have h4 : 6 * (i + 1) / 8 = 6 * i / 8 := by unfold heldN at h2; omega
          exact ⟨i + 1, D, 6, fo, by omega, by go_num, rfl, by go_num, by omega, h3, by rw [h2]; exact h1, by rw [h4]; exact hO, hK, hN⟩
      · have hhigh := hhigh (by omega)
        clear hlow
        obtain ⟨y, hy⟩ : ∃ y, y = byteAt t (6 * i / 8) := ⟨_, rfl⟩
        have hes : (ofStr t).take (6 * i / 8) ++ [(y : Int)] = (ofStr t).take (6 * (i + 1) / 8) := by
          rw [hhigh.2.2.2, hy, ← ofStr_take_succ t (6 * i / 8) (by have h1 := held_end t; have h2 := H.out.2.2.2.2.2.1; omega)]
        have HE := Lib.hid (show bytes ((ofStr t).take (6 * i / 8)) ++ bytes [(y : Int)] = bytes ((ofStr t).take (6 * (i + 1) / 8)) by rw [← hes, bytes_append])
        have HL := Lib.hid (And.intro hhigh hDb)
        rw [← hy] at hhigh
        have hsh := hhigh.1
        clear hhigh hDb hes hy
        rcases hm4 with rfl | rfl | rfl | rfl
        · exact absurd rfl h8
        · have hsh : D / 1 % 256 = y := hsh
          have hshi : (D : Int) % 256 = (y : Int) := by omega
          clear hsh h8
          go_wp2_with fail
          refine (Tryd.strings_IndexByte _ _ _).mono ?_
          rintro e w2 ⟨rfl, rfl⟩
          rw [HI.out]
          go_wp2_with (at_builtin; refine wpList_append_mine _ rfl (.tmp 34) (.tmp 39) _ _ rfl 5 i0 _ 1 1 Tryd.underlying28 HQ.out.1 HQ.out.2.1 HQ.out.2.2.1 HQ.out.2.2.2 rfl _ (6 * i / 8) (bytes ((ofStr t).take (6 * i / 8))) fo rfl (HX.out.2.2.2.1.alloc _) _ 1 (bytes [(y : Int)]) rfl ?_ ?_ ?_ ?_)
          · exact (Blk.new' w2 (n := w2.heap.size) rfl 5 #[.int .u8 y]).src Tryd.underlying28 1 rfl (by simp [Value.oneCell'])
          · have := HX.out.2.2.2.2.2.2.2; unfold maxLen; omega
          · have := HX.out.2.2.2.2.2.2.2; omega
          intro v1 w5 f9 hown9 hk9 hn9
          obtain ⟨A9, n9, rfl, -, -⟩ := hown9.form
          rw [HE.out] at hown9
          have H9 := Lib.hid (And.intro hown9 (And.intro hk9 hn9))
          clear hown9 hk9 hn9
          go_wp2_with fail
          go_roundg (n - (i + 1))
          case measure => have := HX.out.2.2.1; omega
          case rel =>
            obtain ⟨hd, hD, hgi, hO, hK, hN, hlt, hsN⟩ := HX.out
            obtain ⟨⟨h1, h2, h3, h4⟩, h5⟩ := HL.out
            obtain ⟨hown9, hk9, hn9⟩ := H9.out
            exact ⟨i + 1, D, 0, f9, by omega, by go_num, rfl, by go_num, by omega, h5, by rw [h3]; exact h2, by rw [h4]; rw [h4] at hown9; exact hown9, (hK.alloc _).trans hk9 (fun j hj hm => by have := hN j hm; omega), fun j hj => by
              rcases hn9 j hj with h | h
              · exact hN j h
              · have := hK.size; (try simp at h); omega⟩
        · have hsh : D / 4 % 256 = y := hsh
          have hshi : (D : Int) / 4 % 256 = (y : Int) := by omega
          clear hsh h8
          go_wp2_with fail
          refine (Tryd.strings_IndexByte _ _ _).mono ?_
          rintro e w2 ⟨rfl, rfl⟩
          rw [HI.out]
          go_wp2_with (at_builtin; refine wpList_append_mine _ rfl (.tmp 34) (.tmp 39) _ _ rfl 5 i0 _ 1 1 Tryd.underlying28 HQ.out.1 HQ.out.2.1 HQ.out.2.2.1 HQ.out.2.2.2 rfl _ (6 * i / 8) (bytes ((ofStr t).take (6 * i / 8))) fo rfl (HX.out.2.2.2.1.alloc _) _ 1 (bytes [(y : Int)]) rfl ?_ ?_ ?_ ?_)
          · exact (Blk.new' w2 (n := w2.heap.size) rfl 5 #[.int .u8 y]).src Tryd.underlying28 1 rfl (by simp [Value.oneCell'])
          · have := HX.out.2.2.2.2.2.2.2; unfold maxLen; omega
          · have := HX.out.2.2.2.2.2.2.2; omega
          intro v1 w5 f9 hown9 hk9 hn9
          obtain ⟨A9, n9, rfl, -, -⟩ := hown9.form
          rw [HE.out] at hown9
          have H9 := Lib.hid (And.intro hown9 (And.intro hk9 hn9))
          clear hown9 hk9 hn9
          go_wp2_with fail
          go_roundg (n - (i + 1))
          case measure => have := HX.out.2.2.1; omega
          case rel =>
            obtain ⟨hd, hD, hgi, hO, hK, hN, hlt, hsN⟩ := HX.out
            obtain ⟨⟨h1, h2, h3, h4⟩, h5⟩ := HL.out
            obtain ⟨hown9, hk9, hn9⟩ := H9.out
            exact ⟨i + 1, D, 2, f9, by omega, by go_num, rfl, by go_num, by omega, h5, by rw [h3]; exact h2, by rw [h4]; rw [h4] at hown9; exact hown9, (hK.alloc _).trans hk9 (fun j hj hm => by have := hN j hm; omega), fun j hj => by
              rcases hn9 j hj with h | h
              · exact hN j h
              · have := hK.size; (try simp at h); omega⟩
        · have hsh : D / 16 % 256 = y := hsh
          have hshi : (D : Int) / 16 % 256 = (y : Int) := by omega
          clear hsh h8
          go_wp2_with fail
          refine (Tryd.strings_IndexByte _ _ _).mono ?_
          rintro e w2 ⟨rfl, rfl⟩
          rw [HI.out]
          go_wp2_with (at_builtin; refine wpList_append_mine _ rfl (.tmp 34) (.tmp 39) _ _ rfl 5 i0 _ 1 1 Tryd.underlying28 HQ.out.1 HQ.out.2.1 HQ.out.2.2.1 HQ.out.2.2.2 rfl _ (6 * i / 8) (bytes ((ofStr t).take (6 * i / 8))) fo rfl (HX.out.2.2.2.1.alloc _) _ 1 (bytes [(y : Int)]) rfl ?_ ?_ ?_ ?_)
          · exact (Blk.new' w2 (n := w2.heap.size) rfl 5 #[.int .u8 y]).src Tryd.underlying28 1 rfl (by simp [Value.oneCell'])
          · have := HX.out.2.2.2.2.2.2.2; unfold maxLen; omega
          · have := HX.out.2.2.2.2.2.2.2; omega
          intro v1 w5 f9 hown9 hk9 hn9
          obtain ⟨A9, n9, rfl, -, -⟩ := hown9.form
          rw [HE.out] at hown9
          have H9 := Lib.hid (And.intro hown9 (And.intro hk9 hn9))
          clear hown9 hk9 hn9
          go_wp2_with fail
          go_roundg (n - (i + 1))
          case measure => have := HX.out.2.2.1; omega
          case rel =>
            obtain ⟨hd, hD, hgi, hO, hK, hN, hlt, hsN⟩ := HX.out
            obtain ⟨⟨h1, h2, h3, h4⟩, h5⟩ := HL.out
            obtain ⟨hown9, hk9, hn9⟩ := H9.out
            exact ⟨i + 1, D, 4, f9, by omega, by go_num, rfl, by go_num, by omega, h5, by rw [h3]; exact h2, by rw [h4]; rw [h4] at hown9; exact hown9, (hK.alloc _).trans hk9 (fun j hj hm => by have := hN j hm; omega), fun j hj => by
              rcases hn9 j hj with h | h
              · exact hN j h
              · have := hK.size; (try simp at h); omega⟩
    · obtain hil : i = n := by omega
      have hx := hO
      have hsz : 6 * i / 8 = t.size := by have := H.out.2.2.2.2.2.1; have := held_end t; rw [hil]; omega
      obtain ⟨A8, n8, hf8, -, fS, hRS, -⟩ := hx.form
      simp only [Value.slice.injEq] at hf8
      have kx := fun w2 (hk2 : Keeps wr w2 []) => str_reads w2 A8 (6 * i / 8) n8 _ fS (hRS.keeps hk2 (by simp))
      rw [← hf8.1, ← hf8.2.2, hsz, List.take_of_length_le (by rw [ofStr_length]; exact Nat.le_refl _), strB_ofStr, ← hsz] at kx
      have HK := Lib.hid (And.intro hK kx)
      have kw := kx wr (Keeps.refl _ _)
      subst hil
      clear hO hK hN hRS hx hf8 hsz hgi hbh hb hm hlt kx
      go_wp2_with fail
      refine (H.out.1 _).mono ?_
      rintro e w2 ⟨rfl, hk2⟩
      have HK2 := Lib.hid hk2
      have kw2 := HK.out.2 w2 hk2
      clear hk2
      go_wp2_with fail
      go_ret2
      exact ⟨rfl, HK.out.1.trans HK2.out (by simp)⟩

end Go.Proofs.YtbfcgiodpcchnaaDoor
