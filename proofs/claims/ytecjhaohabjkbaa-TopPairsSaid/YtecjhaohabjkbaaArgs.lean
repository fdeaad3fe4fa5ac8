/-
  WHAT THE ARGUMENTS OF THE LAWS READ AS, for whatever program: a slice of structs of one-cell fields; slices of bytes; of bools.
-/
import Derived.Test.YtecjhaohabjkbaaProg
import Derived.Test.YtecjhaohabjkbaaMem
import Derived.Deep.Slices
import Derived.Deep.Fields
import Derived.Deep.Strs
import Derived.Deep.Grids
import Derived.ChangeSame
import Derived.Lib.SmallJoins
namespace Go.Proofs.Ytecjhaohabjkbaa
open Go.ChangeShapes Go.WideShapes Go.Deep Go.RowKit
set_option linter.unusedVariables false

section
variable {H : Type} {enc : TypeId × Value → H} {P : Program} {w : World} {base : Nat} {spare : Nat → Bool} {held : Bool}
/-- a slice of structs of one-cell fields, opened at each element and field. -/
theorem open_slice_fields {t e : TypeId} {fs : Array Field} {fuel : Nat} {cs : List Value} {x : DataW H × List MemPlace} (ht : P.underlying t = some (.slice e)) (he : P.underlying e = some (.struct fs))
    (hone : oneCellFields P fs = true) (hC : P.cellsOf e = fs.size) (h : DataW.trod enc P w base spare held fuel t cs = some x) :
    (cs = [.slice none 0 0]) ∨
    ∃ (a : Addr) (len cap m : Nat), cs = [.slice (some a) len cap] ∧ len ≤ m ∧
      ∀ i, i < m → ∀ (j : Nat) (f : Field), fs[j]? = some f → ∃ (v : Value) (y : DataW H × List MemPlace) (n : Nat), w.cell? (a.add (i * fs.size + j)) = some v ∧ DataW.trod enc P w base spare held n f.type [v] = some y := by
  rcases open_slice ht h with ⟨h0, -⟩ | ⟨a, len, cap, m, n, D, Pl, hcs, hb, hl, hm, hmm, hx, hi⟩
  · exact .inl h0
  · refine .inr ⟨a, len, cap, m, hcs, by rw [hmm]; split <;> omega, fun i him => ?_⟩
    obtain ⟨cs', hc, ht'⟩ := hi i him
    rw [hC] at hc
    obtain ⟨ys, n', hn', hy, hlen, hyl, hf⟩ := DataW.trod_struct he ht'
    obtain ⟨_, hcl, hat⟩ := World.cells?_some hc
    intro j f hj
    obtain ⟨ho, hk⟩ := hone_of hone j f hj
    have hjl : j < fs.size := (Array.getElem?_eq_some_iff.1 hj).1
    have hcell := hat j hjl
    have hv : cs'[j]? = some (cs'[j]'(by omega)) := List.getElem?_eq_getElem (by omega)
    have h1 := hf j f hj
    rw [ho, hk] at h1
    have hone' : (cs'.drop j).take 1 = [cs'[j]'(by omega)] := by
      rw [List.drop_eq_getElem_cons (by omega)]
      rfl
    rw [hone'] at h1
    have hys : ys[j]? = some (ys[j]'(by omega)) := List.getElem?_eq_getElem (by omega)
    refine ⟨_, _, _, ?_, h1.trans hys⟩
    rw [← Go.Deep.add_add, hcell, hv]

/-- a list of whole numbers of a kind that came in. -/
theorem open_reads_intc {t e : TypeId} {k : IntKind} {fuel : Nat} {A : Option Addr} {len cap : Nat} {x : DataW H × List MemPlace} (ht : P.underlying t = some (.slice e)) (he : P.underlying e = some (.int k)) (hc : P.cellsOf e = 1)
    (h : DataW.trod enc P w base spare held fuel t [.slice A len cap] = some x) : ∃ (zs : List Int) (fp : List Nat), Reads w 1 A len (zs.map (Value.int k)) fp ∧ zs.length = len ∧ (∀ z ∈ zs, (Lit.int k z).wf = true) ∧ len ≤ cap := by
  rcases open_ints ht he hc h with ⟨h0, -⟩ | ⟨a, l, c, zs, hcs, -, hl, hm, hz, -, hcell, hw⟩
  · simp at h0
    obtain ⟨rfl, rfl, rfl⟩ := h0
    exact ⟨[], [], Reads.zero _ _ _, rfl, by simp, by simp⟩
  · simp at hcs
    obtain ⟨rfl, rfl, rfl⟩ := hcs
    have hlz : len ≤ zs.length := by rw [hz]; split <;> omega
    refine ⟨zs.take len, if len = 0 then [] else [a.block], ⟨by simp; omega, ?_⟩, by simp; omega, fun z hz' => hw z (List.mem_of_mem_take hz'), hl⟩
    rcases Nat.eq_zero_or_pos len with h0 | h0
    · exact .inl ⟨h0, by rw [if_pos h0]⟩
    · refine .inr ⟨a, rfl, by rw [if_neg (by omega)], ?_, fun j u hu => ?_⟩
      · have := hcell 0 (by omega)
        have := World.block_lt_of_cell? w _ this
        rwa [block_of_add] at this
      · have hj : j < len := by
          have := (List.getElem?_eq_some_iff.1 hu).1
          simp at this
          omega
        rw [hcell j (by omega)]
        simp [hj, show j < zs.length by omega] at hu
        simp [List.getD, show j < zs.length by omega, hu]
end

section
variable {H : Type} {enc : TypeId × Value → H} {P : Program} {w : World} {base : Nat} {spare : Nat → Bool} {held : Bool}
/-- a list of bools that came in. -/
theorem open_reads_bools {t e : TypeId} {fuel : Nat} {A : Option Addr} {len cap : Nat} {x : DataW H × List MemPlace} (ht : P.underlying t = some (.slice e)) (he : P.underlying e = some .bool) (hc : P.cellsOf e = 1)
    (h : DataW.trod enc P w base (fun _ => true) held fuel t [.slice A len cap] = some x) : ∃ (zs : List Bool) (fp : List Nat), Reads w 1 A len (zs.map Value.bool) fp ∧ zs.length = len ∧ len ≤ maxLen := by
  rcases open_bools ht he hc h with ⟨h0, -⟩ | ⟨a, l, c, Sx, hcs, -, hl, hcap, -, hx⟩
  · simp at h0
    obtain ⟨rfl, rfl, rfl⟩ := h0
    exact ⟨[], [], Reads.zero _ _ _, rfl, by simp⟩
  · simp at hcs
    obtain ⟨rfl, rfl, rfl⟩ := hcs
    refine ⟨(List.range len).map Sx, if len = 0 then [] else [a.block], ⟨by simp, ?_⟩, by simp, by omega⟩
    rcases Nat.eq_zero_or_pos len with h0 | h0
    · exact .inl ⟨h0, by rw [if_pos h0]⟩
    · refine .inr ⟨a, rfl, by rw [if_neg (by omega)], ?_, fun j u hu => ?_⟩
      · have := hx 0 (by omega)
        have := World.block_lt_of_cell? w _ this
        rwa [block_of_add] at this
      · have hj : j < len := by
          have := (List.getElem?_eq_some_iff.1 hu).1
          simpa using this
        rw [hx j (by omega)]
        simpa [hj] using hu
end

end Go.Proofs.Ytecjhaohabjkbaa
