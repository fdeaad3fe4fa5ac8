/-
  WHAT A LIST OF PAIRS THAT CAME IN READS AS; plain pieces of TopPairs.
-/
import Derived.Test.YtecjhaohabjkbaaK8
import Derived.Test.YtecjhaohabjkbaaArgs
namespace Go.Proofs.Ytecjhaohabjkbaa
open Go.ChangeShapes Go.WideShapes Go.Deep Go.RowKit
set_option linter.unusedVariables false

def PairsA (w : World) (A : Option Addr) (n : Nat) (ps : List (ByteArray × ByteArray)) : Prop :=
  ps.length = n ∧ ∀ k p, ps[k]? = some p → ∃ b o, A = some ⟨b, o, none⟩ ∧ b < w.heap.size ∧ w.cell? ⟨b, o + k * 2, none⟩ = some (.string p.1) ∧ w.cell? ⟨b, o + k * 2 + 1, none⟩ = some (.string p.2)
/-- Load, its capacity told. -/
def LoadLeft2 (w : World) (bs : List Int) (e : Ending) (w' : World) : Prop :=
  ∃ (A : Option Addr) (c : Nat) (fr : List Nat), e = .returned (.slice A bs.length c) ∧ Reads w' 1 A bs.length (bytes bs) fr ∧ bs.length ≤ c ∧ Keeps w w' []
set_option maxRecDepth 100000 in
theorem load2_calls (g bd : Nat) (l : List Sec) (pend : List Wr) (fp : List Nat) (w : World) (hs : St w g bd l pend fp) (hf : Fit 100000 l pend) :
    Calls Try.prog 20 #[.pointer (some ⟨g, 0, none⟩)] w (LoadLeft2 w (bestM (halfOf l) (land l pend)).2.1) := by
  obtain ⟨fd, hb, hd, -, -⟩ := hs
  have c0 : w.cell? ⟨g, 0, none⟩ = some (.pointer (some ⟨bd, 0, none⟩)) := hb.cell 0
  have c1 : w.cell? ⟨g, 1, none⟩ = some (.int .i64 (halfOf l)) := hb.cell 1
  have H := Lib.hid (sbest bd l pend w fd hd hf)
  have hf1 := slot_field1
  have hf2 := slot_field2
  clear hb hd hf
  go_enter Try.func20, Try.ntmps20
  go_wp2_with fail
  refine Calls.mono H.out ?_
  rintro e w1 ⟨a, A, c, fr, rfl, hr, hf, hk, ha, hc⟩
  have HK := Lib.hid (And.intro hr (And.intro hc hk))
  clear hr hf hk hc ha
  go_wp2_with fail
  go_ret
  exact ⟨A, c, fr, rfl, HK.out.1, HK.out.2.1, HK.out.2.2⟩
theorem pairCells : Try.prog.cellsOf 76 = 2 := by kernel_rfl
section
variable {H : Type} {enc : TypeId × Value → H} {w : World} {base : Nat} {spare : Nat → Bool} {held : Bool}
theorem TopPairs_open {fuel : Nat} {A : Option Addr} {len cap : Nat} {x : DataW H × List MemPlace} (h : DataW.trod enc Try.prog w base spare held fuel 72 [.slice A len cap] = some x) :
    ∃ ps, PairsA w A len ps := by
  rcases open_slice_fields Try.underlying72 Try.underlying76 (by kernel_rfl) pairCells h with h0 | ⟨a, l, c, m, hcs, hlm, hx⟩
  · simp at h0
    obtain ⟨rfl, rfl, rfl⟩ := h0
    exact ⟨[], rfl, fun k p hk => by cases hk⟩
  · simp at hcs
    obtain ⟨rfl, rfl, rfl⟩ := hcs
    have one : ∀ i, i < len → ∃ d : ByteArray × ByteArray, w.cell? (a.add (i * 2 + 0)) = some (.string d.1) ∧ w.cell? (a.add (i * 2 + 1)) = some (.string d.2) := by
      intro i hi
      obtain ⟨v0, y0, n0, c0, t0⟩ := hx i (by omega) 0 _ rfl
      obtain ⟨v1, y1, n1, c1, t1⟩ := hx i (by omega) 1 _ rfl
      obtain ⟨z0, e0, -⟩ := DataW.trod_string Try.underlying9 t0
      obtain ⟨z1, e1, -⟩ := DataW.trod_string Try.underlying9 t1
      simp only [List.cons.injEq, and_true] at e0 e1
      subst e0 e1
      exact ⟨⟨z0, z1⟩, c0, c1⟩
    obtain ⟨D, hD⟩ : ∃ D : Nat → ByteArray × ByteArray, ∀ i, i < len → w.cell? (a.add (i * 2 + 0)) = some (.string (D i).1) ∧ w.cell? (a.add (i * 2 + 1)) = some (.string (D i).2) := by
      refine ⟨fun i => if h : i < len then (one i h).choose else (⟨#[]⟩, ⟨#[]⟩), fun i hi => ?_⟩
      simp only [hi, dif_pos]
      exact (one i hi).choose_spec
    refine ⟨(List.range len).map D, by simp, fun k p hk => ?_⟩
    have hkl : k < len := by
      have := (List.getElem?_eq_some_iff.1 hk).1
      simpa using this
    have hd : D k = p := by simpa [hkl] using hk
    obtain ⟨b, o, sp⟩ := a
    obtain ⟨c0, c1⟩ := hD k hkl
    have hsp : sp = none := by
      have := (hD 0 (by omega)).1
      simpa [Addr.add] using World.cell?_spot this
    subst hsp
    rw [hd] at c0 c1
    refine ⟨b, o, rfl, by simpa [block_of_add] using World.block_lt_of_cell? w _ c0, ?_, ?_⟩
    · rwa [Addr.add_lit, Nat.add_zero] at c0
    · rwa [Addr.add_lit, ← Nat.add_assoc] at c1
end

end Go.Proofs.Ytecjhaohabjkbaa
