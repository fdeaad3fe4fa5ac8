/-
  WHAT THE ARGUMENTS OF THE LAWS READ AS: a slice of structs of one-cell fields opened cell by cell; slices of strings; slices of bytes.
-/
import Derived.Test.YtgkbkggegdmcgaaPlay
import Derived.Deep.Slices
import Derived.Deep.Fields
import Derived.Deep.Strs
import Derived.ChangeSame
import Derived.Lib.SmallJoins
namespace Go.Proofs.Ytgkbkggegdmcgaa
open Go.ChangeShapes Go.WideShapes Go.Deep Go.RowKit
set_option linter.unusedVariables false

section
variable {H : Type} {enc : TypeId × Value → H} {P : Program} {w : World} {base : Nat} {spare : Nat → Bool} {held : Bool}
/-- a slice of structs of one-cell fields, opened at each element and field. -/
theorem open_slice_fields {t e : TypeId} {fs : Array Field} {fuel : Nat} {cs : List Value} {x : DataW H × List MemPlace} (ht : P.underlying t = some (.slice e)) (he : P.underlying e = some (.struct fs))
    (hone : oneCellFields P fs = true) (hC : P.cellsOf e = fs.size) (h : DataW.trod enc P w base spare held fuel t cs = some x) :
    (cs = [.slice none 0 0]) ∨
    ∃ (a : Addr) (len cap m : Nat), cs = [.slice (some a) len cap] ∧ len ≤ m ∧
      ∀ i, i < m → ∀ (j : Nat) (f : Field), fs[j]? = some f → ∃ (v : Value) (y : DataW H × List MemPlace) (n : Nat), w.cell? (a.add (i * fs.size + j)) = some v ∧ DataW.trod enc P w base spare held n f.type [v] = some y := by
  rcases open_slice ht h with ⟨h0, -⟩ | ⟨a, len, cap, m, n, D, Pl, hcs, hb, hl, hm, hmm, hx, hi⟩
  · exact .inl h0
  · refine .inr ⟨a, len, cap, m, hcs, by rw [hmm]; split <;> omega, fun i him => ?_⟩
    obtain ⟨cs', hc, ht'⟩ := hi i him
    rw [hC] at hc
    obtain ⟨ys, n', hn', hy, hlen, hyl, hf⟩ := DataW.trod_struct he ht'
    obtain ⟨_, hcl, hat⟩ := World.cells?_some hc
    intro j f hj
    obtain ⟨ho, hk⟩ := hone_of hone j f hj
    have hjl : j < fs.size := (Array.getElem?_eq_some_iff.1 hj).1
    have hcell := hat j hjl
    have hv : cs'[j]? = some (cs'[j]'(by omega)) := List.getElem?_eq_getElem (by omega)
    have h1 := hf j f hj
    rw [ho, hk] at h1
    have hone' : (cs'.drop j).take 1 = [cs'[j]'(by omega)] := by
      rw [List.drop_eq_getElem_cons (by omega)]
      rfl
    rw [hone'] at h1
    have hys : ys[j]? = some (ys[j]'(by omega)) := List.getElem?_eq_getElem (by omega)
    refine ⟨_, _, _, ?_, h1.trans hys⟩
    rw [← Go.Deep.add_add, hcell, hv]

/-- a list of strings that came in. -/
theorem open_reads_strs {t : TypeId} {fuel : Nat} {A : Option Addr} {len cap : Nat} {x : DataW H × List MemPlace} (ht : P.underlying t = some (.slice 9)) (he : P.underlying 9 = some .string) (hc : P.cellsOf 9 = 1)
    (h : DataW.trod enc P w base spare held fuel t [.slice A len cap] = some x) : ∃ ss fp, Reads w 1 A len (strs ss) fp ∧ ∀ s ∈ ss, s.size ≤ maxLen := by
  rcases open_strs ht he hc h with ⟨h0, -⟩ | ⟨a, l, c, m, Sx, hcs, -, hl, -, hm, -, hx⟩
  · simp at h0
    obtain ⟨rfl, rfl, rfl⟩ := h0
    exact ⟨[], [], Reads.zero _ _ _, by simp⟩
  · simp at hcs
    obtain ⟨rfl, rfl, rfl⟩ := hcs
    have hlm : len ≤ m := by rw [hm]; split <;> omega
    refine ⟨(List.range len).map Sx, if len = 0 then [] else [a.block], ⟨by simp [strs], ?_⟩, ?_⟩
    · rcases Nat.eq_zero_or_pos len with h0 | h0
      · exact .inl ⟨h0, by rw [if_pos h0]⟩
      · refine .inr ⟨a, rfl, by rw [if_neg (by omega)], ?_, fun j u hu => ?_⟩
        · have := (hx 0 (by omega)).1
          have := World.block_lt_of_cell? w _ this
          rwa [block_of_add] at this
        · have hj : j < len := by
            have := (List.getElem?_eq_some_iff.1 hu).1
            simpa [strs] using this
          rw [(hx j (by omega)).1]
          simpa [strs, hj] using hu
    · intro s hs
      obtain ⟨i, hi, rfl⟩ := List.mem_map.1 hs
      exact (hx i (by have := List.mem_range.1 hi; omega)).2

/-- a list of whole numbers of a kind that came in. -/
theorem open_reads_ints {t e : TypeId} {k : IntKind} {fuel : Nat} {A : Option Addr} {len cap : Nat} {x : DataW H × List MemPlace} (ht : P.underlying t = some (.slice e)) (he : P.underlying e = some (.int k)) (hc : P.cellsOf e = 1)
    (h : DataW.trod enc P w base spare held fuel t [.slice A len cap] = some x) : ∃ (zs : List Int) (fp : List Nat), Reads w 1 A len (zs.map (Value.int k)) fp ∧ zs.length = len ∧ ∀ z ∈ zs, (Lit.int k z).wf = true := by
  rcases open_ints ht he hc h with ⟨h0, -⟩ | ⟨a, l, c, zs, hcs, -, hl, hm, hz, -, hcell, hw⟩
  · simp at h0
    obtain ⟨rfl, rfl, rfl⟩ := h0
    exact ⟨[], [], Reads.zero _ _ _, rfl, by simp⟩
  · simp at hcs
    obtain ⟨rfl, rfl, rfl⟩ := hcs
    have hlz : len ≤ zs.length := by rw [hz]; split <;> omega
    refine ⟨zs.take len, if len = 0 then [] else [a.block], ⟨by simp; omega, ?_⟩, by simp; omega, fun z hz' => hw z (List.mem_of_mem_take hz')⟩
    rcases Nat.eq_zero_or_pos len with h0 | h0
    · exact .inl ⟨h0, by rw [if_pos h0]⟩
    · refine .inr ⟨a, rfl, by rw [if_neg (by omega)], ?_, fun j u hu => ?_⟩
      · have := hcell 0 (by omega)
        have := World.block_lt_of_cell? w _ this
        rwa [block_of_add] at this
      · have hj : j < len := by
          have := (List.getElem?_eq_some_iff.1 hu).1
          simp at this
          omega
        rw [hcell j (by omega)]
        simp [hj, show j < zs.length by omega] at hu
        simp [List.getD, show j < zs.length by omega, hu]
end

section
variable {H : Type} {enc : TypeId × Value → H} {w : World} {base : Nat} {spare : Nat → Bool} {held : Bool}
theorem deedCells : Try.prog.cellsOf 49 = 4 := by kernel_rfl
/-- a list of deeds that came in. -/
theorem open_deeds {fuel : Nat} {A : Option Addr} {len cap : Nat} {x : DataW H × List MemPlace} (h : DataW.trod enc Try.prog w base spare held fuel 36 [.slice A len cap] = some x) :
    ∃ ds, Deeds w A len ds := by
  rcases open_slice_fields Try.underlying36 Try.underlying49 (by kernel_rfl) deedCells h with h0 | ⟨a, l, c, m, hcs, hlm, hx⟩
  · simp at h0
    obtain ⟨rfl, rfl, rfl⟩ := h0
    exact ⟨[], rfl, fun h => absurd h (by omega)⟩
  · simp at hcs
    obtain ⟨rfl, rfl, rfl⟩ := hcs
    have one : ∀ i, i < len → ∃ d : DeedV, ∀ j u, d.cells[j]? = some u → w.cell? (a.add (i * 4 + j)) = some u := by
      intro i hi
      obtain ⟨v0, y0, n0, c0, t0⟩ := hx i (by omega) 0 _ rfl
      obtain ⟨v1, y1, n1, c1, t1⟩ := hx i (by omega) 1 _ rfl
      obtain ⟨v2, y2, n2, c2, t2⟩ := hx i (by omega) 2 _ rfl
      obtain ⟨v3, y3, n3, c3, t3⟩ := hx i (by omega) 3 _ rfl
      obtain ⟨z0, e0, -⟩ := DataW.trod_int Try.underlying3 t0
      obtain ⟨z1, e1, -⟩ := DataW.trod_string Try.underlying9 t1
      obtain ⟨z2, e2, -⟩ := DataW.trod_int Try.underlying26 t2
      obtain ⟨z3, e3, -⟩ := DataW.trod_bool Try.underlying4 t3
      simp only [List.cons.injEq, and_true] at e0 e1 e2 e3
      subst e0 e1 e2 e3
      refine ⟨⟨z0, z1, z2, z3⟩, fun j u hu => ?_⟩
      match j, hu with
      | 0, hu => simp [DeedV.cells] at hu; subst hu; exact c0
      | 1, hu => simp [DeedV.cells] at hu; subst hu; exact c1
      | 2, hu => simp [DeedV.cells] at hu; subst hu; exact c2
      | 3, hu => simp [DeedV.cells] at hu; subst hu; exact c3
      | j + 4, hu => simp [DeedV.cells] at hu
    have : Inhabited DeedV := ⟨⟨0, ⟨#[]⟩, 0, false⟩⟩
    obtain ⟨D, hD⟩ := choose_lt one
    refine ⟨(List.range len).map D, by simp, fun hn => ?_⟩
    obtain ⟨b, o, sp⟩ := a
    have c0 := hD 0 hn 0 _ rfl
    have hsp : sp = none := by simpa [Addr.add] using World.cell?_spot c0
    subst hsp
    refine ⟨b, o, rfl, by simpa [block_of_add] using World.block_lt_of_cell? w _ c0, fun k d hk j u hu => ?_⟩
    have hkl : k < len := by
      have := (List.getElem?_eq_some_iff.1 hk).1
      simpa using this
    have hd : D k = d := by simpa [hkl] using hk
    have := hD k hkl j u (by rw [hd]; exact hu)
    rwa [Addr.add_lit, ← Nat.add_assoc] at this
/-- a deed that came in by value. -/
theorem open_deed {r : Reach} {b0 : Nat} {v : Value} {d : DataW H} {p : List MemPlace} (hv : Value.okWide Try.prog w r b0 49 v) (h : DataW.Trod enc Try.prog w base spare held 49 v d p) :
    ∃ x : DeedV, v = .agg #[.int .i64 x.kind, .string x.s, .int .u32 x.h, .bool x.on] := by
  obtain ⟨v0, v1, v2, v3, y0, y1, y2, y3, n, rfl, -, -, t0, t1, t2, t3⟩ := Go.Joins.open_agg4 Try.underlying49 (by kernel_rfl) deedCells hv h
  obtain ⟨z0, e0, -⟩ := DataW.trod_int Try.underlying3 t0
  obtain ⟨z1, e1, -⟩ := DataW.trod_string Try.underlying9 t1
  obtain ⟨z2, e2, -⟩ := DataW.trod_int Try.underlying26 t2
  obtain ⟨z3, e3, -⟩ := DataW.trod_bool Try.underlying4 t3
  simp only [List.cons.injEq, and_true] at e0 e1 e2 e3
  subst e0 e1 e2 e3
  exact ⟨⟨z0, z1, z2, z3⟩, rfl⟩
end

end Go.Proofs.Ytgkbkggegdmcgaa
