/-
  A LIST OF PAIRS OF BYTES THAT CAME IN ([][2]uint8).
-/
import Derived.Test.YtgkbkggegdmcgaaOpen
import Derived.OpenShut
import Derived.Deep.CutBlock
import Derived.Deep.RegionLaw
import Derived.Deep.DeepCutAuto
namespace Go.Proofs.Ytgkbkggegdmcgaa
open Go.ChangeShapes Go.WideShapes Go.Deep Go.RowKit
set_option linter.unusedVariables false

/-- a list of pairs of bytes. -/
def Steps (w : World) (A : Option Addr) (n : Nat) (ps : List (Nat × Nat)) : Prop :=
  ps.length = n ∧ (0 < n → ∃ b o, A = some ⟨b, o, none⟩ ∧ b < w.heap.size ∧ ∀ k p, ps[k]? = some p → w.cell? ⟨b, o + k * 2, none⟩ = some (.int .u8 p.1) ∧ w.cell? ⟨b, o + k * 2 + 1, none⟩ = some (.int .u8 p.2) ∧ p.1 < 256 ∧ p.2 < 256)
theorem Steps.keeps {w w' : World} {A : Option Addr} {n : Nat} {ps : List (Nat × Nat)} (h : Steps w A n ps) (hk : Keeps w w' []) : Steps w' A n ps := by
  refine ⟨h.1, fun hn => ?_⟩
  obtain ⟨b, o, hA, hb, hc⟩ := h.2 hn
  refine ⟨b, o, hA, Nat.lt_of_lt_of_le hb hk.size, fun k p hp => ?_⟩
  obtain ⟨h1, h2, h3⟩ := hc k p hp
  exact ⟨(hk.cell (p := ⟨b, o + k * 2, none⟩) hb (by simp)).trans h1, (hk.cell (p := ⟨b, o + k * 2 + 1, none⟩) hb (by simp)).trans h2, h3⟩
theorem Steps.at_ {w : World} {A : Option Addr} {n k : Nat} {ps : List (Nat × Nat)} (h : Steps w A n ps) (hk : k < n) :
    ∃ (b o p q : Nat), A = some ⟨b, o, none⟩ ∧ b < w.heap.size ∧ w.cell? ⟨b, o + k * 2, none⟩ = some (.int .u8 (p : Int)) ∧ w.cell? ⟨b, o + k * 2 + 1, none⟩ = some (.int .u8 (q : Int)) ∧ p < 256 ∧ q < 256 := by
  obtain ⟨b, o, e, hb, hc⟩ := h.2 (by omega)
  have hl : k < ps.length := by have := h.1; omega
  obtain ⟨h1, h2, h3, h4⟩ := hc k _ (List.getElem?_eq_getElem hl)
  exact ⟨b, o, _, _, e, hb, h1, h2, h3, h4⟩

theorem Steps.cells {w w' : World} {b o n j : Nat} {ps : List (Nat × Nat)} {x : Nat × Nat} (h : Steps w (some ⟨b, o, none⟩) n ps) (hj : ps[j]? = some x) (hk : Keeps w w' []) :
    w'.cell? ⟨b, o + j * 2, none⟩ = some (.int .u8 x.1) ∧ w'.cell? ⟨b, o + j * 2 + 1, none⟩ = some (.int .u8 x.2) := by
  obtain ⟨b', o', e, hb, hc⟩ := (h.keeps hk).2 (by have := (List.getElem?_eq_some_iff.1 hj).1; have := h.1; omega)
  simp only [Option.some.injEq, Addr.mk.injEq, and_true] at e
  obtain ⟨rfl, rfl⟩ := e
  exact ⟨(hc _ _ hj).1, (hc _ _ hj).2.1⟩
theorem Steps.get {w : World} {A : Option Addr} {n j : Nat} {ps : List (Nat × Nat)} (h : Steps w A n ps) (hj : j < n) : ∃ b o x, A = some ⟨b, o, none⟩ ∧ ps[j]? = some x ∧ x.1 < 256 ∧ x.2 < 256 := by
  obtain ⟨b, o, e, hb, hc⟩ := h.2 (by omega)
  have hl : j < ps.length := by have := h.1; omega
  exact ⟨b, o, _, e, List.getElem?_eq_getElem hl, (hc _ _ (List.getElem?_eq_getElem hl)).2.2⟩

section
variable {H : Type} {enc : TypeId × Value → H} {w : World} {base : Nat} {spare : Nat → Bool} {held : Bool}
theorem pairCells : Try.prog.cellsOf 53 = 2 := by kernel_rfl
theorem byteCells : Try.prog.cellsOf 5 = 1 := by kernel_rfl
theorem open_steps {fuel : Nat} {A : Option Addr} {len cap : Nat} {x : DataW H × List MemPlace} (h : DataW.trod enc Try.prog w base spare held fuel 52 [.slice A len cap] = some x) :
    ∃ ps, Steps w A len ps := by
  rcases open_slice Try.underlying52 h with ⟨h0, -⟩ | ⟨a, l, c, m, n, D, Pl, hcs, hb, hl, hm, hmm, hx, hi⟩
  · simp at h0
    obtain ⟨rfl, rfl, rfl⟩ := h0
    exact ⟨[], rfl, fun h => absurd h (by omega)⟩
  · simp at hcs
    obtain ⟨rfl, rfl, rfl⟩ := hcs
    have hlm : len ≤ m := by rw [hmm]; split <;> omega
    have one : ∀ i, i < len → ∃ p : Nat × Nat, w.cell? (a.add (i * 2)) = some (.int .u8 p.1) ∧ w.cell? (a.add (i * 2 + 1)) = some (.int .u8 p.2) ∧ p.1 < 256 ∧ p.2 < 256 := by
      intro i hil
      obtain ⟨cs', hc, ht⟩ := hi i (by omega)
      rw [pairCells] at hc
      obtain ⟨xs, n', rfl, hxx, hcl, hxl, hf⟩ := DataW.trod_array Try.underlying53 ht
      rw [pairCells] at hcl
      rw [byteCells] at hf
      obtain ⟨_, -, hat⟩ := World.cells?_some hc
      match cs', hcl with
      | [u0, u1], _ =>
        have t0 := (hf 0 (by omega)).trans (List.getElem?_eq_getElem (by omega))
        have t1 := (hf 1 (by omega)).trans (List.getElem?_eq_getElem (by omega))
        simp only [Nat.zero_mul, List.drop_zero, List.take_succ_cons, List.take_zero, Nat.one_mul, List.drop_succ_cons] at t0 t1
        obtain ⟨z0, e0, w0⟩ := DataW.trod_int Try.underlying5 t0
        obtain ⟨z1, e1, w1⟩ := DataW.trod_int Try.underlying5 t1
        simp only [List.cons.injEq, and_true] at e0 e1
        subst e0 e1
        obtain ⟨l0, g0⟩ := bounds_u8 w0.2
        obtain ⟨l1, g1⟩ := bounds_u8 w1.2
        have h0 := hat 0 (by omega)
        have h1 := hat 1 (by omega)
        rw [Go.Deep.add_add] at h0 h1
        refine ⟨(z0.toNat, z1.toNat), ?_, ?_, by simp; omega, by simp; omega⟩
        · rw [Int.toNat_of_nonneg l0]; simpa using h0
        · rw [Int.toNat_of_nonneg l1]; simpa using h1
    have : Inhabited (Nat × Nat) := ⟨(0, 0)⟩
    obtain ⟨D, hD⟩ := choose_lt one
    refine ⟨(List.range len).map D, by simp, fun hn => ?_⟩
    obtain ⟨b, o, sp⟩ := a
    have c0 := (hD 0 hn).1
    have hsp : sp = none := by simpa [Addr.add] using World.cell?_spot c0
    subst hsp
    refine ⟨b, o, rfl, by simpa [block_of_add] using World.block_lt_of_cell? w _ c0, fun k d hk => ?_⟩
    have hkl : k < len := by
      have := (List.getElem?_eq_some_iff.1 hk).1
      simpa using this
    have hd : D k = d := by simpa [hkl] using hk
    obtain ⟨h1, h2, h3⟩ := hD k hkl
    rw [hd, Addr.add_lit] at h1 h2
    rw [hd] at h3
    exact ⟨h1, by rwa [← Nat.add_assoc] at h2, h3⟩
end

end Go.Proofs.Ytgkbkggegdmcgaa
