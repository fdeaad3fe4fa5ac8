/-
  A LIST OF DEEDS OF THE DEVICE THAT CAME IN.
-/
import Derived.Test.YtopeipaeefohlaaD12
namespace Go.Proofs.Ytopeipaeefohlaa
open Go.ChangeShapes Go.WideShapes Go.Deep Go.RowKit
set_option linter.unusedVariables false

theorem u8_nat {x : Int} (h : (Lit.int .u8 x).wf = true) : ∃ z : Nat, x = z ∧ z < 256 := by
  obtain ⟨h0, h1⟩ := bounds_u8 h
  exact ⟨x.toNat, by omega, by omega⟩

section
variable {H : Type} {enc : TypeId × Value → H} {w : World} {base : Nat} {held : Bool}
theorem ddeedCells : Try.prog.cellsOf 47 = 4 := by kernel_rfl
theorem open_ddeeds {fuel : Nat} {A : Option Addr} {len cap : Nat} {x : DataW H × List MemPlace} (h : DataW.trod enc Try.prog w base (fun _ => true) held fuel 36 [.slice A len cap] = some x) :
    ∃ ds, DDeeds w A len ds := by
  rcases open_slice_fields Try.underlying36 Try.underlying47 (by kernel_rfl) ddeedCells h with h0 | ⟨a, l, c, m, hcs, hlm, hx⟩
  · simp at h0
    obtain ⟨rfl, rfl, rfl⟩ := h0
    exact ⟨[], rfl, fun h => absurd h (by omega), by simp⟩
  · simp at hcs
    obtain ⟨rfl, rfl, rfl⟩ := hcs
    have one : ∀ i, i < len → ∃ d : DeedD, d.good w ∧ ∀ j u, d.cells[j]? = some u → w.cell? (a.add (i * 4 + j)) = some u := by
      intro i hi
      obtain ⟨v0, y0, n0, c0, t0⟩ := hx i (by omega) 0 _ rfl
      obtain ⟨v1, y1, n1, c1, t1⟩ := hx i (by omega) 1 _ rfl
      obtain ⟨v2, y2, n2, c2, t2⟩ := hx i (by omega) 2 _ rfl
      obtain ⟨v3, y3, n3, c3, t3⟩ := hx i (by omega) 3 _ rfl
      obtain ⟨z0, e0, -⟩ := DataW.trod_int Try.underlying3 t0
      obtain ⟨z1, e1, -⟩ := DataW.trod_int Try.underlying3 t1
      obtain ⟨z2, e2, -⟩ := DataW.trod_int Try.underlying5 t2
      obtain ⟨S, m3, cS, e3⟩ : ∃ S m3 cS, v3 = .slice S m3 cS := by
        rcases open_bools Try.underlying23 Try.underlying4 (by kernel_rfl) t3 with ⟨h9, -⟩ | ⟨a3, l3, k3, B3, h9, -⟩
        · simp at h9; exact ⟨_, _, _, h9⟩
        · simp at h9; exact ⟨_, _, _, h9⟩
      subst e3
      obtain ⟨sv, fS, hS, hsl, hml⟩ := open_reads_bools Try.underlying23 Try.underlying4 (by kernel_rfl) t3
      subst hsl
      simp only [List.cons.injEq, and_true] at e0 e1 e2
      subst e0 e1 e2
      refine ⟨⟨z0, z1, z2, S, sv, cS⟩, ⟨hml, fS, hS⟩, fun j u hu => ?_⟩
      match j, hu with
      | 0, hu => simp [DeedD.cells] at hu; subst hu; exact c0
      | 1, hu => simp [DeedD.cells] at hu; subst hu; exact c1
      | 2, hu => simp [DeedD.cells] at hu; subst hu; exact c2
      | 3, hu => simp [DeedD.cells] at hu; subst hu; exact c3
      | j + 4, hu => simp [DeedD.cells] at hu
    have : Inhabited DeedD := ⟨⟨0, 0, 0, none, [], 0⟩⟩
    obtain ⟨D, hD⟩ := choose_lt one
    refine ⟨(List.range len).map D, by simp, fun hn => ?_, fun d hd => ?_⟩
    · obtain ⟨b, o, sp⟩ := a
      have c0 := (hD 0 hn).2 0 _ rfl
      have hsp : sp = none := by simpa [Addr.add] using World.cell?_spot c0
      subst hsp
      refine ⟨b, o, rfl, by simpa [block_of_add] using World.block_lt_of_cell? w _ c0, fun k d hk j u hu => ?_⟩
      have hkl : k < len := by
        have := (List.getElem?_eq_some_iff.1 hk).1
        simpa using this
      have hd : D k = d := by simpa [hkl] using hk
      have := (hD k hkl).2 j u (by rw [hd]; exact hu)
      rwa [Addr.add_lit] at this
    · obtain ⟨i, hi, rfl⟩ := List.mem_map.1 hd
      exact (hD i (List.mem_range.1 hi)).1
/-- a deed that came in by value. -/
theorem open_ddeed {r : Reach} {b0 : Nat} {v : Value} {d : DataW H} {p : List MemPlace} (hv : Value.okWide Try.prog w r b0 47 v) (h : DataW.Trod enc Try.prog w base (fun _ => true) held 47 v d p) :
    ∃ x : DeedD, v = .agg #[.int .i64 x.kind, .int .i64 x.i, .int .u8 x.c, .slice x.S x.sv.length x.cS] ∧ x.good w := by
  obtain ⟨v0, v1, v2, v3, y0, y1, y2, y3, n, rfl, -, -, t0, t1, t2, t3⟩ := Go.Joins.open_agg4 Try.underlying47 (by kernel_rfl) ddeedCells hv h
  obtain ⟨z0, e0, -⟩ := DataW.trod_int Try.underlying3 t0
  obtain ⟨z1, e1, -⟩ := DataW.trod_int Try.underlying3 t1
  obtain ⟨z2, e2, -⟩ := DataW.trod_int Try.underlying5 t2
  obtain ⟨S, m3, cS, e3⟩ : ∃ S m3 cS, v3 = .slice S m3 cS := by
    rcases open_bools Try.underlying23 Try.underlying4 (by kernel_rfl) t3 with ⟨h9, -⟩ | ⟨a3, l3, k3, B3, h9, -⟩
    · simp at h9; exact ⟨_, _, _, h9⟩
    · simp at h9; exact ⟨_, _, _, h9⟩
  subst e3
  obtain ⟨sv, fS, hS, hsl, hml⟩ := open_reads_bools Try.underlying23 Try.underlying4 (by kernel_rfl) t3
  subst hsl
  simp only [List.cons.injEq, and_true] at e0 e1 e2
  subst e0 e1 e2
  exact ⟨⟨z0, z1, z2, S, sv, cS⟩, rfl, hml, fS, hS⟩
end

end Go.Proofs.Ytopeipaeefohlaa
