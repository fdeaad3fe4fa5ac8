/-
  STRINGS AS BYTES: what a conversion of a string to bytes leaves; a piece of a string.
-/
import Derived.Test.YtecjhaohabjkbaaP18
import Derived.Lib.ConvBytes
import Derived.Deep.Strs
namespace Go.Proofs.Ytecjhaohabjkbaa
open Go.ChangeShapes Go.WideShapes Go.Deep Go.RowKit
set_option linter.unusedVariables false

/-- a string's bytes. -/
def ofStr (s : ByteArray) : List Int := s.data.toList.map fun b => (b.toNat : Int)
theorem ofStr_length (s : ByteArray) : (ofStr s).length = s.size := by
  unfold ofStr
  rw [List.length_map]
  rfl
theorem ofStr_wf (s : ByteArray) : Wf8 (ofStr s) := fun z hz => by
  obtain ⟨b, -, rfl⟩ := List.mem_map.1 hz
  have := b.toNat_lt
  omega
theorem strB_ofStr (s : ByteArray) : strB (ofStr s) = s := by
  unfold strB strOfNums ofStr
  rw [List.map_map]
  have hid : ((fun n : Int => UInt8.ofNat n.toNat) ∘ fun b : UInt8 => (b.toNat : Int)) = id := by
    funext b
    simp
  rw [hid, List.map_id]
theorem conv_str (w : World) (s : ByteArray) : (convert 9 22 (.string s)).run Try.prog w = .ok (.slice (some ⟨w.heap.size, 0, none⟩) s.size (grownCap w s.size 0 5)) (Lib.bytesWorld w 5 s) :=
  Lib.run_convert_string_bytes w 9 22 5 s Try.underlying9 Try.underlying22 Try.underlying5
theorem conv_keeps (w : World) (e : TypeId) (s : ByteArray) : Keeps w (Lib.bytesWorld w e s) [] :=
  ⟨rfl, rfl, rfl, by rw [Lib.bytesWorld_size]; omega, fun k hk _ => Lib.bytesWorld_at_old w e s k hk⟩
theorem conv_reads (w : World) (e : TypeId) (s : ByteArray) : Reads (Lib.bytesWorld w e s) 1 (some ⟨w.heap.size, 0, none⟩) s.size (bytes (ofStr s)) [w.heap.size] := by
  refine ⟨by rw [bytes_length, ofStr_length, Nat.mul_one], .inr ⟨_, rfl, rfl, by rw [Lib.bytesWorld_size]; show w.heap.size < _; omega, fun j u hu => ?_⟩⟩
  have hj : j < s.size := by
    have := (List.getElem?_eq_some_iff.1 hu).1
    rwa [bytes_length, ofStr_length] at this
  rw [Addr.add_lit, Nat.zero_add, Lib.bytesWorld_cell w e s j hj]
  simp only [bytes, ofStr, List.map_map] at hu
  rw [List.getElem?_map] at hu
  have hj2 : j < s.data.toList.length := hj
  rw [List.getElem?_eq_getElem hj2] at hu
  simp only [Option.map_some, Option.some.injEq] at hu
  rw [← hu]
  simp only [Function.comp_apply, List.getD_eq_getElem?_getD, List.getElem?_eq_getElem hj2, Option.getD_some]
theorem conv_cap (w : World) (n : Nat) (e : TypeId) : n ≤ grownCap w n 0 e := grownCap_ge w n 0 e

def strs (ss : List ByteArray) : List Value := ss.map Value.string
section
variable {H : Type} {enc : TypeId × Value → H} {P : Program} {w : World} {base : Nat} {spare : Nat → Bool} {held : Bool}
/-- a list of strings that came in. -/
theorem open_reads_strs {t : TypeId} {fuel : Nat} {A : Option Addr} {len cap : Nat} {x : DataW H × List MemPlace} (ht : P.underlying t = some (.slice 9)) (he : P.underlying 9 = some .string) (hc : P.cellsOf 9 = 1)
    (h : DataW.trod enc P w base spare held fuel t [.slice A len cap] = some x) : ∃ ss fp, Reads w 1 A len (strs ss) fp ∧ ∀ s ∈ ss, s.size ≤ maxLen := by
  rcases open_strs ht he hc h with ⟨h0, -⟩ | ⟨a, l, c, m, Sx, hcs, -, hl, -, hm, -, hx⟩
  · simp at h0
    obtain ⟨rfl, rfl, rfl⟩ := h0
    exact ⟨[], [], Reads.zero _ _ _, by simp⟩
  · simp at hcs
    obtain ⟨rfl, rfl, rfl⟩ := hcs
    have hlm : len ≤ m := by rw [hm]; split <;> omega
    refine ⟨(List.range len).map Sx, if len = 0 then [] else [a.block], ⟨by simp [strs], ?_⟩, ?_⟩
    · rcases Nat.eq_zero_or_pos len with h0 | h0
      · exact .inl ⟨h0, by rw [if_pos h0]⟩
      · refine .inr ⟨a, rfl, by rw [if_neg (by omega)], ?_, fun j u hu => ?_⟩
        · have := (hx 0 (by omega)).1
          have := World.block_lt_of_cell? w _ this
          rwa [block_of_add] at this
        · have hj : j < len := by
            have := (List.getElem?_eq_some_iff.1 hu).1
            simpa [strs] using this
          rw [(hx j (by omega)).1]
          simpa [strs, hj] using hu
    · intro s hs
      obtain ⟨i, hi, rfl⟩ := List.mem_map.1 hs
      exact (hx i (by have := List.mem_range.1 hi; omega)).2

/-- a list of whole numbers of a kind that came in. -/
theorem open_reads_ints {t e : TypeId} {k : IntKind} {fuel : Nat} {A : Option Addr} {len cap : Nat} {x : DataW H × List MemPlace} (ht : P.underlying t = some (.slice e)) (he : P.underlying e = some (.int k)) (hc : P.cellsOf e = 1)
    (h : DataW.trod enc P w base spare held fuel t [.slice A len cap] = some x) : ∃ (zs : List Int) (fp : List Nat), Reads w 1 A len (zs.map (Value.int k)) fp ∧ zs.length = len ∧ ∀ z ∈ zs, (Lit.int k z).wf = true := by
  rcases open_ints ht he hc h with ⟨h0, -⟩ | ⟨a, l, c, zs, hcs, -, hl, hm, hz, -, hcell, hw⟩
  · simp at h0
    obtain ⟨rfl, rfl, rfl⟩ := h0
    exact ⟨[], [], Reads.zero _ _ _, rfl, by simp⟩
  · simp at hcs
    obtain ⟨rfl, rfl, rfl⟩ := hcs
    have hlz : len ≤ zs.length := by rw [hz]; split <;> omega
    refine ⟨zs.take len, if len = 0 then [] else [a.block], ⟨by simp; omega, ?_⟩, by simp; omega, fun z hz' => hw z (List.mem_of_mem_take hz')⟩
    rcases Nat.eq_zero_or_pos len with h0 | h0
    · exact .inl ⟨h0, by rw [if_pos h0]⟩
    · refine .inr ⟨a, rfl, by rw [if_neg (by omega)], ?_, fun j u hu => ?_⟩
      · have := hcell 0 (by omega)
        have := World.block_lt_of_cell? w _ this
        rwa [block_of_add] at this
      · have hj : j < len := by
          have := (List.getElem?_eq_some_iff.1 hu).1
          simp at this
          omega
        rw [hcell j (by omega)]
        simp [hj, show j < zs.length by omega] at hu
        simp [List.getD, show j < zs.length by omega, hu]
end

end Go.Proofs.Ytecjhaohabjkbaa
