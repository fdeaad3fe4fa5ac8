/-
  A LIST OF DEEDS OF THE STORE THAT CAME IN.
-/
import Derived.Test.YtecjhaohabjkbaaP17
namespace Go.Proofs.Ytecjhaohabjkbaa
open Go.ChangeShapes Go.WideShapes Go.Deep Go.RowKit
set_option linter.unusedVariables false

theorem u8_nat {x : Int} (h : (Lit.int .u8 x).wf = true) : ∃ z : Nat, x = z ∧ z < 256 := by
  obtain ⟨h0, h1⟩ := bounds_u8 h
  exact ⟨x.toNat, by omega, by omega⟩

section
variable {H : Type} {enc : TypeId × Value → H} {P : Program} {w : World} {base : Nat} {spare : Nat → Bool} {held : Bool}
/-- bytes that came in. -/
theorem open_bytes8 {t e : TypeId} {fuel : Nat} {A : Option Addr} {len cap : Nat} {x : DataW H × List MemPlace} (ht : P.underlying t = some (.slice e)) (he : P.underlying e = some (.int .u8)) (hc : P.cellsOf e = 1)
    (h : DataW.trod enc P w base spare held fuel t [.slice A len cap] = some x) : ∃ (zs : List Int) (fp : List Nat), Reads w 1 A len (bytes zs) fp ∧ zs.length = len ∧ Wf8 zs ∧ len ≤ cap ∧ cap ≤ maxLen := by
  obtain ⟨zs, fp, h1, h2, h3, h4⟩ := open_reads_intc ht he hc h
  refine ⟨zs, fp, h1, h2, fun z hz => by have := bounds_u8 (h3 z hz); omega, h4, ?_⟩
  rcases open_ints ht he hc h with ⟨h0, -⟩ | ⟨a, l, c, zs, hcs, -, hl, hm, hz, -, hcell, hw⟩
  · simp at h0
    obtain ⟨rfl, rfl, rfl⟩ := h0
    unfold maxLen; omega
  · simp at hcs
    obtain ⟨rfl, rfl, rfl⟩ := hcs
    exact hm
end

section
variable {H : Type} {enc : TypeId × Value → H} {w : World} {base : Nat} {held : Bool}
theorem sdeedCells : Try.prog.cellsOf 50 = 4 := by kernel_rfl
theorem sdeed_mk {f0 f1 f2 f3 : Nat} {v0 v1 v2 v3 : Value} {y0 y1 y2 y3 : DataW H × List MemPlace}
    (t0 : DataW.trod enc Try.prog w base (fun _ => true) held f0 3 [v0] = some y0) (t1 : DataW.trod enc Try.prog w base (fun _ => true) held f1 22 [v1] = some y1)
    (t2 : DataW.trod enc Try.prog w base (fun _ => true) held f2 3 [v2] = some y2) (t3 : DataW.trod enc Try.prog w base (fun _ => true) held f3 48 [v3] = some y3) :
    ∃ x : SDeed, x.good w ∧ x.cells = [v0, v1, v2, v3] := by
  obtain ⟨z0, e0, -⟩ := DataW.trod_int Try.underlying3 t0
  obtain ⟨z2, e2, w2⟩ := DataW.trod_int Try.underlying3 t2
  obtain ⟨B, m1, c1, e1⟩ : ∃ B m1 c1, v1 = .slice B m1 c1 := by
    rcases open_ints Try.underlying22 Try.underlying5 (by kernel_rfl) t1 with ⟨h9, -⟩ | ⟨a3, l3, k3, B3, h9, -⟩
    · simp at h9; exact ⟨_, _, _, h9⟩
    · simp at h9; exact ⟨_, _, _, h9⟩
  obtain ⟨S, m3, cS, e3⟩ : ∃ S m3 cS, v3 = .slice S m3 cS := by
    rcases open_bools Try.underlying48 Try.underlying4 (by kernel_rfl) t3 with ⟨h9, -⟩ | ⟨a3, l3, k3, B3, h9, -⟩
    · simp at h9; exact ⟨_, _, _, h9⟩
    · simp at h9; exact ⟨_, _, _, h9⟩
  subst e1 e3
  have hw2 : z2 ≤ 9223372036854775807 := by have := bounds_i64 w2.2; omega
  obtain ⟨sv, fS, hS, hsl, hml⟩ := open_reads_bools Try.underlying48 Try.underlying4 (by kernel_rfl) t3
  obtain ⟨b, fB, hB, hbl, hwf, hlc, hcm⟩ := open_bytes8 Try.underlying22 Try.underlying5 (by kernel_rfl) t1
  subst hsl hbl
  simp only [List.cons.injEq, and_true] at e0 e2
  subst e0 e2
  exact ⟨⟨z0, B, b, c1, z2, S, sv, cS⟩, ⟨hwf, hlc, hcm, hw2, hml, ⟨fB, hB⟩, ⟨fS, hS⟩⟩, rfl⟩
theorem open_sdeeds {fuel : Nat} {A : Option Addr} {len cap : Nat} {x : DataW H × List MemPlace} (h : DataW.trod enc Try.prog w base (fun _ => true) held fuel 42 [.slice A len cap] = some x) :
    ∃ ds, SDeeds w A len ds := by
  rcases open_slice_fields Try.underlying42 Try.underlying50 (by kernel_rfl) sdeedCells h with h0 | ⟨a, l, c, m, hcs, hlm, hx⟩
  · simp at h0
    obtain ⟨rfl, rfl, rfl⟩ := h0
    exact ⟨[], rfl, fun h => absurd h (by omega), by simp⟩
  · simp at hcs
    obtain ⟨rfl, rfl, rfl⟩ := hcs
    have one : ∀ i, i < len → ∃ d : SDeed, d.good w ∧ ∀ j u, d.cells[j]? = some u → w.cell? (a.add (i * 4 + j)) = some u := by
      intro i hi
      obtain ⟨v0, y0, n0, c0, t0⟩ := hx i (by omega) 0 _ rfl
      obtain ⟨v1, y1, n1, c1, t1⟩ := hx i (by omega) 1 _ rfl
      obtain ⟨v2, y2, n2, c2, t2⟩ := hx i (by omega) 2 _ rfl
      obtain ⟨v3, y3, n3, c3, t3⟩ := hx i (by omega) 3 _ rfl
      obtain ⟨d, hd, hcs⟩ := sdeed_mk t0 t1 t2 t3
      refine ⟨d, hd, fun j u hu => ?_⟩
      rw [hcs] at hu
      match j, hu with
      | 0, hu => simp at hu; subst hu; exact c0
      | 1, hu => simp at hu; subst hu; exact c1
      | 2, hu => simp at hu; subst hu; exact c2
      | 3, hu => simp at hu; subst hu; exact c3
      | j + 4, hu => simp at hu
    have : Inhabited SDeed := ⟨⟨0, none, [], 0, 0, none, [], 0⟩⟩
    obtain ⟨D, hD⟩ := choose_lt one
    refine ⟨(List.range len).map D, by simp, fun hn => ?_, fun d hd => ?_⟩
    · obtain ⟨b, o, sp⟩ := a
      have c0 := (hD 0 hn).2 0 _ rfl
      have hsp : sp = none := by simpa [Addr.add] using World.cell?_spot c0
      subst hsp
      refine ⟨b, o, rfl, by simpa [block_of_add] using World.block_lt_of_cell? w _ c0, fun k d hk j u hu => ?_⟩
      have hkl : k < len := by
        have := (List.getElem?_eq_some_iff.1 hk).1
        simpa using this
      have hd : D k = d := by simpa [hkl] using hk
      have := (hD k hkl).2 j u (by rw [hd]; exact hu)
      rwa [Addr.add_lit] at this
    · obtain ⟨i, hi, rfl⟩ := List.mem_map.1 hd
      exact (hD i (List.mem_range.1 hi)).1
set_option maxRecDepth 100000 in
/-- a deed that came in by value. -/
theorem open_sdeed {r : Reach} {b0 : Nat} {v : Value} {d : DataW H} {p : List MemPlace} (hv : Value.okWide Try.prog w r b0 50 v) (h : DataW.Trod enc Try.prog w base (fun _ => true) held 50 v d p) :
    ∃ x : SDeed, v = x.val ∧ x.good w := by
  obtain ⟨v0, v1, v2, v3, y0, y1, y2, y3, n, rfl, -, -, t0, t1, t2, t3⟩ := Go.Joins.open_agg4 Try.underlying50 (by kernel_rfl) sdeedCells hv h
  obtain ⟨d, hd, hcs⟩ := sdeed_mk t0 t1 t2 t3
  refine ⟨d, ?_, hd⟩
  unfold SDeed.cells at hcs
  unfold SDeed.val
  simp only [List.cons.injEq, and_true] at hcs
  obtain ⟨rfl, rfl, rfl, rfl⟩ := hcs
  rfl
end

end Go.Proofs.Ytecjhaohabjkbaa
