/-
  CONTRACTS: write.right of a token that ends; of one that begins.
-/
import Derived.Test.YtbfcgiodpcchnaaW7
import Derived.Deep.RegionHeldLaw
import Derived.Maps.OwnSet
import Derived.Maps.Views
import Derived.StringKeys
namespace Go.Proofs.Ytbfcgiodpcchnaa
open Go.RowKit
set_option linter.unusedVariables false

set_option maxHeartbeats 1600000 in
theorem right_end (nm : ByteArray) (A : Option Addr) (c : Nat) (w : World) (hn : isName nm) :
    Calls Try.prog 38 #[.agg #[.int .u8 2, .string nm, .slice A 0 c, .string ⟨#[]⟩]] w fun e w' => e = .returned (.bool true) ∧ Keeps w w' [] := by
  have HN := Lib.hid (fun wx => name_calls nm wx hn)
  clear hn
  obtain ⟨w0, hw0⟩ : ∃ w0, w0 = w.alloc (.cells #[.int .u8 2, .string nm, .slice A 0 c, .string ⟨#[]⟩] 66) := ⟨_, rfl⟩
  have hb : Blk w0 w.heap.size 66 #[.int .u8 2, .string nm, .slice A 0 c, .string ⟨#[]⟩] := by rw [hw0]; exact Blk.new _ _ _
  have hk0 : Keeps w w0 [] := by rw [hw0]; exact (Keeps.refl w []).alloc _
  have z0 : w0.drew.cell? ⟨w.heap.size, 0, none⟩ = some (.int .u8 2) := hb.cell 0
  have z1 : w0.drew.cell? ⟨w.heap.size, 1, none⟩ = some (.string nm) := hb.cell 1
  have z2 : w0.drew.cell? ⟨w.heap.size, 2, none⟩ = some (.slice A 0 c) := hb.cell 2
  have z3 : w0.drew.cell? ⟨w.heap.size, 3, none⟩ = some (.string ⟨#[]⟩) := hb.cell 3
  have HW := Lib.hid (And.intro hw0 (And.intro hk0 hb))
  clear hb hk0 hw0
  go_enter Try.func38, Try.ntmps38
  go_wp2_with fail
  rw [← HW.out.1]
  go_region_held_law (fun w' => w'.cell? ⟨w.heap.size, 1, none⟩ = some (.string nm) ∧ w'.cell? ⟨w.heap.size, 3, none⟩ = some (.string ⟨#[]⟩)) (exact ⟨z1, z3⟩)
    ((go_at_call 7
      refine (HN.out _).mono ?_
      rintro e w2 ⟨rfl, rfl⟩))
  all_goals
    go_wp2_with fail
    go_ret
    exact ⟨rfl, HW.out.2.1.drew⟩

open Go.Maps (Keyed)
theorem strm_keyed : Keyed Try.prog 9 := Maps.string_keyed Try.underlying9
def BMap (w : World) (b n : Nat) (D : DataW Unit) : Prop := w.ownsMap Try.prog 9 (plainElem (H := Unit) Try.prog 4) b n D
theorem BMap.keeps {w w' : World} {b n : Nat} {D : DataW Unit} {fp : List Nat} (h : BMap w b n D) (hk : Keeps w w' fp) (hn : b ∉ fp) : BMap w' b n D := by
  have hlt := World.ownsMap.lt h
  obtain ⟨es, clock, hb, F, hs, hD⟩ := h
  exact ⟨es, clock, (hk.block b hlt hn).trans hb, F, hs, hD⟩
theorem bmap_no {w : World} {b n : Nat} {D : DataW Unit} (h : BMap w b n D) (k : ByteArray) (hk : k.size ≤ 1000) (hno : Maps.has D (.string k.data.toList) = false) :
    (Instr.lookup 82 (.map (some b)) (.string k) false).run Try.prog w = .ok (.bool false) w := by
  have hz : (zeroValue 4).run Try.prog w = .ok (.bool false) w := by kernel_rfl
  obtain ⟨v, pl, hrun, hv⟩ := World.ownsMap.lookup h strm_keyed Try.underlying82 hz (plainElem_bool Try.underlying4 false) (WideMaps.keyOf_string_mk Try.underlying9 (s := k) (by unfold maxLen; omega))
  rw [Maps.atKey_of_not_has hno] at hv
  have : v = .bool false := by
    unfold plainElem at hv
    rw [Try.underlying4] at hv
    cases v <;> simp at hv
    rw [hv.1]
  rw [this] at hrun
  exact hrun
theorem bmap_put {w : World} {b n : Nat} {D : DataW Unit} (h : BMap w b n D) (k : ByteArray) (hk : k.size ≤ 1000) (hn : n ≤ 1000) :
    ∃ w', (Instr.mapUpdate 82 (.map (some b)) (.string k) (.bool true)).run Try.prog w = .ok () w' ∧ BMap w' b (n + 1) (D.put (.string k.data.toList) (.lit (.bool true))) ∧ w.grownBy w' (some b) :=
  World.ownsMap.update h strm_keyed Try.underlying82 (by unfold maxLen; omega) (WideMaps.keyOf_string_mk Try.underlying9 (s := k) (by unfold maxLen; omega)) (plainElem_bool Try.underlying4 true)
/-- good attributes. -/
def goodAttrs (l : AL) : Prop := l.length ≤ 8 ∧ (∀ p ∈ l, isName p.1 ∧ plainT p.2) ∧ l.Pairwise (fun p q => p.1 ≠ q.1)

end Go.Proofs.Ytbfcgiodpcchnaa
