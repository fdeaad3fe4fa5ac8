/-
  CONTRACTS: write.right of a token that begins.
-/
import Derived.Test.YtbfcgiodpcchnaaW8
namespace Go.Proofs.Ytbfcgiodpcchnaa
open Go.RowKit
set_option linter.unusedVariables false

theorem attrs_at {w : World} {A : Option Addr} {l : AL} {fp : List Nat} (h : Reads w 2 A l.length (attrsC l) fp) {i : Nat} {p : ByteArray × ByteArray} (hp : l[i]? = some p) :
    ∃ b o, A = some ⟨b, o, none⟩ ∧ b < w.heap.size ∧ w.cell? ⟨b, o + i * 2, none⟩ = some (.string p.1) ∧ w.cell? ⟨b, o + i * 2 + 1, none⟩ = some (.string p.2) := by
  have hl := (List.getElem?_eq_some_iff.1 hp).1
  rcases h.2 with ⟨h0, _⟩ | ⟨⟨b, o, sp⟩, rfl, rfl, hb, hc⟩
  · omega
  · have g0 := hc _ _ (flat_get (f := attrC) (size := 2) attrC_length hp 0 (.string p.1) rfl)
    have g1 := hc _ _ (flat_get (f := attrC) (size := 2) attrC_length hp 1 (.string p.2) rfl)
    obtain ⟨q, hq⟩ : ∃ q, l[0]? = some q := ⟨_, List.getElem?_eq_getElem (by omega)⟩
    have g2 := hc _ _ (flat_get (f := attrC) (size := 2) attrC_length hq 0 (.string q.1) rfl)
    have hsp : sp = none := by simpa [Addr.add] using World.cell?_spot g2
    subst hsp
    rw [Addr.add_lit] at g0 g1
    exact ⟨b, o, rfl, hb, by simpa using g0, by simpa [Nat.add_assoc] using g1⟩

set_option maxHeartbeats 3200000 in
set_option maxRecDepth 100000 in
theorem right_begin (nm : ByteArray) (A : Option Addr) (c : Nat) (l : AL) (fp : List Nat) (w : World) (hn : isName nm) (hl : goodAttrs l) (hr : Reads w 2 A l.length (attrsC l) fp) (hc : l.length ≤ c) :
    Calls Try.prog 38 #[.agg #[.int .u8 1, .string nm, .slice A l.length c, .string ⟨#[]⟩]] w fun e w' => e = .returned (.bool true) ∧ Keeps w w' [] := by
  have HN := Lib.hid (fun wx => name_calls nm wx hn)
  clear hn
  obtain ⟨n, hnl⟩ : ∃ n, n = l.length := ⟨_, rfl⟩
  rw [← hnl] at hr hc ⊢
  obtain ⟨w0, hw0⟩ : ∃ w0, w0 = w.alloc (.cells #[.int .u8 1, .string nm, .slice A n c, .string ⟨#[]⟩] 66) := ⟨_, rfl⟩
  have hb : Blk w0 w.heap.size 66 #[.int .u8 1, .string nm, .slice A n c, .string ⟨#[]⟩] := by rw [hw0]; exact Blk.new _ _ _
  have hk0 : Keeps w w0 [] := by rw [hw0]; exact (Keeps.refl w []).alloc _
  have z0 : w0.drew.cell? ⟨w.heap.size, 0, none⟩ = some (.int .u8 1) := hb.cell 0
  have z1 : w0.drew.cell? ⟨w.heap.size, 1, none⟩ = some (.string nm) := hb.cell 1
  have z3 : w0.drew.cell? ⟨w.heap.size, 3, none⟩ = some (.string ⟨#[]⟩) := hb.cell 3
  obtain ⟨W1, hW1⟩ : ∃ W1, W1 = w0.drew := ⟨_, rfl⟩
  have z2 : (W1.alloc (.map #[] 0)).cell? ⟨w.heap.size, 2, none⟩ = some (.slice A n c) := by rw [hW1]; exact (hb.drew.alloc (.map #[] 0)).cell 2
  have hmk := run_makeMap (P := Try.prog) 82 W1
  have o0 : BMap (W1.alloc (.map #[] 0)) W1.heap.size 0 (.map []) := World.ownsMap_made W1 Try.prog 9 (plainElem (H := Unit) Try.prog 4)
  have hn8 : (n : Int) ≤ 8 := by have := hl.1; omega
  have HW := Lib.hid (And.intro hw0 (And.intro hk0 (And.intro hb (And.intro hnl (And.intro hl (And.intro hr (And.intro hc (And.intro hW1 o0))))))))
  clear hb hk0 hw0 hnl hl hr hc o0 hW1
  go_enter Try.func38, Try.ntmps38
  go_wp2_with fail
  rw [← HW.out.1]
  go_region_held_law (fun w' => w'.cell? ⟨w.heap.size, 1, none⟩ = some (.string nm) ∧ w'.cell? ⟨w.heap.size, 3, none⟩ = some (.string ⟨#[]⟩)) (exact ⟨z1, z3⟩)
    ((go_at_call 7
      refine (HN.out _).mono ?_
      rintro e w2 ⟨rfl, rfl⟩))
  all_goals
    rw [← HW.out.2.2.2.2.2.2.2.1] at z0 z1 z3 ⊢
    clear z1 z3
    go_wp2_with fail
    go_loopg [54] n (fun gg s54 wr => ∃ (i m : Nat) (D : DataW Unit), gg + i = n ∧ s54 = .int .i64 i ∧ BMap wr W1.heap.size m D ∧ m ≤ i ∧ (∀ x : ByteArray, (∀ j q, j < i → l[j]? = some q → q.1 ≠ x) → Maps.has D (.string x.data.toList) = false) ∧ Keeps (W1.alloc (.map #[] 0)) wr [W1.heap.size])
    case atStart => exact ⟨0, 0, _, by omega, rfl, HW.out.2.2.2.2.2.2.2.2, by omega, fun x _ => rfl, Keeps.refl _ _⟩
    case round =>
      obtain ⟨i, m, D, hgi, rfl, hB, hmi, hno, hK⟩ := hrel
      by_cases hlt : i < n
      · obtain ⟨p, hp⟩ : ∃ p, l[i]? = some p := ⟨_, List.getElem?_eq_getElem (by rw [← HW.out.2.2.2.1]; exact hlt)⟩
        have hgood := HW.out.2.2.2.2.1.2.1 p (List.mem_of_getElem? hp)
        have hkW : Keeps w wr [] := by
          have h1 : Keeps w (W1.alloc (.map #[] 0)) [] := by rw [HW.out.2.2.2.2.2.2.2.1]; exact HW.out.2.1.drew.alloc _
          exact h1.trans hK (fun k hk h => by
            have : k = W1.heap.size := by simpa using h
            have h2 : w.heap.size ≤ W1.heap.size := by rw [HW.out.2.2.2.2.2.2.2.1]; exact HW.out.2.1.size
            omega)
        have hrr : Reads wr 2 A l.length (attrsC l) fp := by rw [← HW.out.2.2.2.1]; exact HW.out.2.2.2.2.2.1.keeps hkW (by simp)
        obtain ⟨b, o, rfl, hb, g0, g1⟩ := attrs_at hrr hp
        have hx : Maps.has D (.string p.1.data.toList) = false := hno p.1 (fun j q hj hq e => by
          obtain ⟨h1, e1⟩ := List.getElem?_eq_some_iff.1 hq
          obtain ⟨h2, e2⟩ := List.getElem?_eq_some_iff.1 hp
          have := List.pairwise_iff_getElem.1 HW.out.2.2.2.2.1.2.2 j i h1 h2 hj
          rw [e1, e2] at this
          exact this e)
        have hsz : p.1.size ≤ 1000 := by have := hgood.1.2.2; omega
        have hB2 : BMap (wr.alloc (.cells #[.string p.1, .string p.2] 56)) W1.heap.size m D := World.ownsMap.alloc hB _
        have hlk := bmap_no hB2 p.1 hsz hx
        have HNM := Lib.hid (fun wx => name_calls p.1 wx hgood.1)
        have HFT := Lib.hid (fun wx => fits_calls p.2 wx hgood.2)
        have HR := Lib.hid (And.intro hgi (And.intro hB (And.intro hmi (And.intro hno (And.intro hK (And.intro hp (And.intro hlt (And.intro hkW (And.intro hB2 hsz)))))))))
        have y1 : (i : Int) < (n : Int) := by omega
        have y0 : (0 : Int) ≤ (i : Int) := by omega
        have y2 : (n : Int) ≤ (c : Int) := by have := HW.out.2.2.2.2.2.2.1; omega
        clear hgi hB hmi hno hK hp hlt hkW hB2 hx hgood hrr hb hsz
        go_wp2_with fail
        refine (HNM.out _).mono ?_
        rintro e w3 ⟨rfl, hw3⟩
        subst hw3
        have hcv : (wr.alloc (.cells #[.string p.1, .string p.2] 56)).cell? ⟨wr.heap.size, 1, none⟩ = some (.string p.2) := (Blk.new wr 56 #[.string p.1, .string p.2]).cell 1
        go_wp2_with fail
        refine (HFT.out _).mono ?_
        rintro e w4 ⟨rfl, hk4⟩
        have hB4 := (HR.out.2.2.2.2.2.2.2.2.1).keeps hk4 (by simp)
        have hcn : w4.cell? ⟨wr.heap.size, 0, none⟩ = some (.string p.1) := ((Blk.new wr 56 #[.string p.1, .string p.2]).keeps hk4 (by simp)).cell 0
        have hln := fun ty => World.ownsMap.len hB4 Try.underlying82 ty
        have hls : Maps.size D ≤ m := by
          obtain ⟨es, clock, _, _, hs, hD⟩ := hB4
          rw [hD]
          simpa [Maps.size, length_sorted] using hs
        obtain ⟨z, hz⟩ : ∃ z, z = Maps.size D := ⟨_, rfl⟩
        rw [← hz] at hln hls
        have hz8 : (z : Int) < 8 := by have := HR.out.2.2.1; omega
        obtain ⟨w5, hup, hB5, hg5⟩ := bmap_put hB4 p.1 HR.out.2.2.2.2.2.2.2.2.2 (by have := HR.out.2.2.1; omega)
        have H5 := Lib.hid (And.intro hB4 (And.intro hk4 (And.intro hB5 hg5)))
        clear hB4 hk4 hB5 hg5 hls hz
        go_wp2_with fail
        go_roundg (n - (i + 1))
        case measure => have := HR.out.1; omega
        case rel =>
          obtain ⟨hgi, hB, hmi, hno, hK, hp, hlt, hkW, hB2, hsz⟩ := HR.out
          obtain ⟨hB4, hk4, hB5, hg5⟩ := H5.out
          refine ⟨i + 1, m + 1, _, by omega, by go_num, hB5, by omega, fun x hx => ?_, ?_⟩
          · have hne : p.1 ≠ x := hx i p (by omega) hp
            have hne' : Lit.string x.data.toList ≠ Lit.string p.1.data.toList := fun e => hne (by
              have e2 : x.data.toList = p.1.data.toList := by simpa using e
              have e3 : x.data = p.1.data := Array.toList_inj.1 e2
              cases x
              cases hh : p.1
              rw [hh] at e3
              simp at e3
              rw [e3])
            rw [Maps.has_put_other hne']
            exact hno x (fun j q hj hq => hx j q (by omega) hq)
          · exact (((hK.alloc _).trans hk4 (by simp)).grown hg5 (fun k hk => by cases hk; exact .inl (by simp)))
      · obtain rfl : i = n := by omega
        have HR := Lib.hid hK
        clear hgi hB hmi hno hK hlt
        go_wp2_with fail
        go_ret
        have h1 : Keeps w (W1.alloc (.map #[] 0)) [] := by rw [HW.out.2.2.2.2.2.2.2.1]; exact HW.out.2.1.drew.alloc _
        exact ⟨rfl, h1.trans HR.out (fun k hk h => by
          have : k = W1.heap.size := by simpa using h
          have h2 : w.heap.size ≤ W1.heap.size := by rw [HW.out.2.2.2.2.2.2.2.1]; exact HW.out.2.1.size
          omega)⟩

end Go.Proofs.Ytbfcgiodpcchnaa
