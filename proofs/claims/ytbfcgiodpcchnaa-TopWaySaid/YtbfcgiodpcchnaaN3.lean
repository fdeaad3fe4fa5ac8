/-
  CONTRACTS: text.entities, text.Escape of what needs no entities; bytes as a text.
-/
import Derived.Test.YtbfcgiodpcchnaaN1
import Derived.Maps.OwnSet
import Derived.Maps.Views
import Derived.Carry
namespace Go.Proofs.Ytbfcgiodpcchnaa
open Go.RowKit
open Go.Maps (Keyed)
set_option linter.unusedVariables false

/-! ## the map of entities -/
def entD : DataW Unit := (((((DataW.map []).put (.int .u8 38) (.lit (.string [97, 109, 112]))).put (.int .u8 60) (.lit (.string [108, 116]))).put (.int .u8 62) (.lit (.string [103, 116]))).put (.int .u8 39) (.lit (.string [97, 112, 111, 115]))).put (.int .u8 34) (.lit (.string [113, 117, 111, 116]))
/-- a byte that needs no entity. -/
def plainC (c : Nat) : Prop := c ≠ 38 ∧ c ≠ 60 ∧ c ≠ 62 ∧ c ≠ 39 ∧ c ≠ 34
instance (c : Nat) : Decidable (plainC c) := by unfold plainC; infer_instance
theorem entD_no : ∀ c : Nat, c < 256 → plainC c → Maps.has entD (.int .u8 (c : Int)) = false := by decide +kernel
def EntMap (w : World) (b : Nat) : Prop := w.ownsMap Try.prog 5 (plainElem (H := Unit) Try.prog 9) b 5 entD
theorem EntMap.keeps {w w' : World} {b : Nat} {fp : List Nat} (h : EntMap w b) (hk : Keeps w w' fp) (hn : b ∉ fp) : EntMap w' b := by
  have hlt := World.ownsMap.lt h
  obtain ⟨es, clock, hb, F, hs, hD⟩ := h
  exact ⟨es, clock, (hk.block b hlt hn).trans hb, F, hs, hD⟩
theorem Keeps.ofGrown {w w' : World} {b : Nat} (h : w.grownBy w' (some b)) : Keeps w w' [b] :=
  ⟨h.os, h.tape, h.output, h.size, fun k hk hn => h.block k hk (fun e => hn (by simpa using e))⟩
theorem u8_keyed : Keyed Try.prog 5 := Maps.int_keyed Try.underlying5
theorem u8_wf : ∀ c : Nat, c < 256 → (Lit.int .u8 (c : Int)).wf = true := by decide +kernel
theorem u8_key (c : Nat) (h : c < 256) : keyOf Try.prog 5 (.int .u8 (c : Int)) = some (.int .u8 (c : Int)) :=
  Maps.keyOf_int_mk Try.underlying5 (u8_wf c h)
theorem plain_string {H : Type} {P : Program} {e : TypeId} {v : Value} {z : DataW H × List MemPlace} (he : P.underlying e = some .string) (h : plainElem P e v = some z) : ∃ s, v = .string s := by
  unfold plainElem at h
  rw [he] at h
  cases v <;> simp at h
  exact ⟨_, rfl⟩
theorem ent_no {w : World} {b : Nat} (h : EntMap w b) (c : Nat) (hc : c < 256) (hp : plainC c) : ∃ s : ByteArray, (Instr.lookup 48 (.map (some b)) (.int .u8 (c : Int)) true).run Try.prog w = .ok (.tuple #[.string s, .bool false]) w := by
  have hz : (zeroValue 9).run Try.prog w = .ok (.string ⟨#[]⟩) w := by kernel_rfl
  obtain ⟨v, ps, hrun, hv⟩ := World.ownsMap.look_ok h u8_keyed Try.underlying48 hz (plainElem_string Try.underlying9 (s := ⟨#[]⟩) (by decide)) (u8_key c hc)
  rw [entD_no c hc hp] at hrun
  obtain ⟨s, rfl⟩ := plain_string Try.underlying9 hv
  exact ⟨s, hrun⟩

set_option maxHeartbeats 800000 in
theorem entities_calls (w : World) : Calls Try.prog 17 #[] w fun e w' => e = .returned (.map (some w.heap.size)) ∧ EntMap w' w.heap.size ∧ Keeps w w' [] := by
  have hmk := run_makeMap (P := Try.prog) 48 w
  have ht := Try.underlying48
  have he := Try.underlying9
  have o0 := World.ownsMap_made w Try.prog 5 (plainElem (H := Unit) Try.prog 9)
  obtain ⟨w1, r1, o1, g1⟩ := o0.update u8_keyed ht (by decide) (show keyOf Try.prog 5 (.int .u8 38) = some (.int .u8 38) from u8_key 38 (by omega)) (plainElem_string he (s := ⟨#[97, 109, 112]⟩) (by decide))
  obtain ⟨w2, r2, o2, g2⟩ := o1.update u8_keyed ht (by decide) (show keyOf Try.prog 5 (.int .u8 60) = some (.int .u8 60) from u8_key 60 (by omega)) (plainElem_string he (s := ⟨#[108, 116]⟩) (by decide))
  obtain ⟨w3, r3, o3, g3⟩ := o2.update u8_keyed ht (by decide) (show keyOf Try.prog 5 (.int .u8 62) = some (.int .u8 62) from u8_key 62 (by omega)) (plainElem_string he (s := ⟨#[103, 116]⟩) (by decide))
  obtain ⟨w4, r4, o4, g4⟩ := o3.update u8_keyed ht (by decide) (show keyOf Try.prog 5 (.int .u8 39) = some (.int .u8 39) from u8_key 39 (by omega)) (plainElem_string he (s := ⟨#[97, 112, 111, 115]⟩) (by decide))
  obtain ⟨w5, r5, o5, g5⟩ := o4.update u8_keyed ht (by decide) (show keyOf Try.prog 5 (.int .u8 34) = some (.int .u8 34) from u8_key 34 (by omega)) (plainElem_string he (s := ⟨#[113, 117, 111, 116]⟩) (by decide))
  have hn : ∀ i, i < w.heap.size → i ∈ [w.heap.size] → i ∈ ([] : List Nat) := fun i hi h => by simp at h; omega
  have hk : Keeps w w5 [] := ((((((Keeps.refl w []).alloc (.map #[] 0)).trans (Keeps.ofGrown g1) hn).trans (Keeps.ofGrown g2) hn).trans (Keeps.ofGrown g3) hn).trans (Keeps.ofGrown g4) hn).trans (Keeps.ofGrown g5) hn
  have HE := Lib.hid (show EntMap w5 w.heap.size ∧ Keeps w w5 [] from ⟨o5, hk⟩)
  clear o0 o1 o2 o3 o4 o5 g1 g2 g3 g4 g5 hk ht he
  go_enter Try.func17, Try.ntmps17
  go_wp2_with fail
  go_ret
  exact ⟨rfl, HE.out⟩

set_option maxHeartbeats 3200000 in
theorem escape_calls (s : ByteArray) (w : World) (h : ∀ i, i < s.size → plainC (byteAt s i)) (hm : s.size ≤ 100000) : Calls Try.prog 8 #[.string s] w fun e w' => e = .returned (.string s) ∧ Keeps w w' [] := by
  obtain ⟨i0, hi, hz0, hz1, hz2⟩ := info_parts info_byte
  have HA := Lib.hid (And.intro hi (And.intro hz0 (And.intro hz1 hz2)))
  have H := Lib.hid (And.intro h (And.intro hm (entities_calls w)))
  clear h hi hz0 hz1 hz2 hm
  go_enter Try.func8, Try.ntmps8
  go_wp2_with fail
  refine H.out.2.2.mono ?_
  rintro e w1 ⟨rfl, hE, hk1⟩
  have H1 := Lib.hid (And.intro hE hk1)
  clear hE hk1
  obtain ⟨g, hg⟩ : ∃ g, g = w.heap.size := ⟨_, rfl⟩
  rw [← hg] at H1 ⊢
  have HG := Lib.hid hg
  clear hg
  go_wp2_with fail
  go_loopw [11, 4] (fun i v wr => ∃ k : Nat, k ≤ s.size ∧ i = .int .i64 k ∧ ∃ f8, Own wr 5 1 v k (bytes ((ofStr s).take k)) f8 ∧ Keeps w1 wr [] ∧ ∀ j ∈ f8, w1.heap.size ≤ j) (fun i _ _ => s.size - (intOf i).toNat)
  case atStart => exact ⟨0, by omega, rfl, [], Own.bare _ _ _ _, Keeps.refl _ _, by simp⟩
  case round =>
    obtain ⟨k, hk, rfl, f8, hO, hK, hN8⟩ := hrel
    obtain ⟨A8, n8, rfl, -, -⟩ := hO.form
    by_cases hlt : k < s.size
    · have hsk : s[k].toNat = byteAt s k := (byteAt_eq s k hlt).symm
      obtain ⟨sv, hlk⟩ := ent_no (H1.out.1.keeps hK (by simp)) (byteAt s k) (byteAt_lt s k) (H.out.1 k hlt)
      obtain ⟨c, hc⟩ : ∃ c, c = byteAt s k := ⟨_, rfl⟩
      rw [← hc] at hsk hlk
      have HO := Lib.hid (And.intro hO (And.intro hK (And.intro hN8 hc)))
      have hki : (0 : Int) ≤ (k : Int) := by omega
      have hkb : (k : Int) < 100000 := by have := H.out.2.1; omega
      clear hO hK hN8 hc
      go_wp2_with (at_builtin; refine wpList_append_mine _ rfl (.tmp 30) (.tmp 34) _ _ rfl 5 i0 _ 1 1 Try.underlying50 HA.out.1 HA.out.2.1 HA.out.2.2.1 HA.out.2.2.2 rfl _ k (bytes ((ofStr s).take k)) f8 rfl ?own _ 1 (bytes [(c : Int)]) rfl ?src ?c1 ?c2 ?next)
      case own => exact HO.out.1.alloc _
      case src => exact (Blk.new' wr (n := wr.heap.size) rfl 5 #[.int .u8 c]).src Try.underlying50 1 rfl (by simp [Value.oneCell'])
      case c1 => have := H.out.2.1; unfold maxLen; omega
      case c2 => have := H.out.2.1; omega
      case next =>
        intro v1 w5 f9 hown9 hk9 hn9
        obtain ⟨A9, n9, rfl, -, -⟩ := hown9.form
        have hk9' : Keeps w1 w5 [] := ((HO.out.2.1.alloc _).trans hk9 (fun i hi h => by have := HO.out.2.2.1 i h; omega))
        have hN9 : ∀ j ∈ f9, w1.heap.size ≤ j := fun j hj => by
          rcases hn9 j hj with h | h
          · exact HO.out.2.2.1 j h
          · have := HO.out.2.1.size
            (try simp at h)
            omega
        rw [← bytes_append, HO.out.2.2.2, ← ofStr_take_succ s k hlt] at hown9
        have HO9 := Lib.hid (And.intro hown9 (And.intro hk9' hN9))
        clear hown9 hk9 hn9 hk9' hN9
        go_wp2_with fail
        go_roundw
        case rel => exact ⟨k + 1, by omega, by go_num, f9, HO9.out⟩
        case measure => simp [intOf]; omega
    · obtain rfl : k = s.size := by omega
      obtain ⟨A8', n8', hf8, hcn, fS, hRS, hfS⟩ := hO.form
      simp only [Value.slice.injEq] at hf8
      obtain ⟨rfl, -, rfl⟩ := hf8
      have kx := str_reads wr A8 s.size n8 _ fS hRS
      rw [List.take_of_length_le (by rw [ofStr_length]; exact Nat.le_refl _), strB_ofStr] at kx
      have HK := Lib.hid (H1.out.2.trans hK (by simp))
      clear hO hK hN8 hRS hfS hcn
      go_wp2_with fail
      go_ret
      exact ⟨rfl, HK.out⟩

end Go.Proofs.Ytbfcgiodpcchnaa
