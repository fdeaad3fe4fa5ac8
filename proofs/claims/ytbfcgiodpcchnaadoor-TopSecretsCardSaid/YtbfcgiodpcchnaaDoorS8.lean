/-
  CONTRACTS: text.Unescape of what needs no entities.
-/
import Derived.Test.YtbfcgiodpcchnaaDoorS7
import Derived.Test.YtbfcgiodpcchnaaDoorN3
import Derived.Maps.StringElems
import Derived.Maps.RangeWalk
import Derived.StringKeys
import Derived.LoopN
namespace Go.Proofs.YtbfcgiodpcchnaaDoor
open Go.RowKit
open Go.Maps (Keyed)
set_option linter.unusedVariables false

def NMap (w : World) (b n : Nat) (D : DataW Unit) : Prop := w.ownsMap Tryd.prog 9 (plainElem (H := Unit) Tryd.prog 5) b n D
theorem str_keyed : Keyed Tryd.prog 9 := Maps.string_keyed Tryd.underlying9

set_option maxHeartbeats 3200000 in
set_option maxRecDepth 100000 in
theorem unescape_calls (s : ByteArray) (w : World) (h : ∀ i, i < s.size → plainC (byteAt s i)) (hm : s.size ≤ 10000) : Calls Tryd.prog 6 #[.string s] w fun e w' => e = .returned (.tuple #[.string s, .int .i64 0]) ∧ Keeps w w' [] := by
  have hmk := run_makeMap (P := Tryd.prog) 32 w
  have o0 := World.ownsMap_made w Tryd.prog 9 (plainElem (H := Unit) Tryd.prog 5)
  have HE := Lib.hid (entities_calls (w.alloc (.map #[] 0)))
  have h38 : ∀ i, i < s.size → byteAt s i ≠ (38 : UInt8).toNat := fun i hi => (h i hi).1
  have h60 : ∀ i, i < s.size → byteAt s i ≠ (60 : UInt8).toNat := fun i hi => (h i hi).2.1
  have H := Lib.hid (And.intro h38 (And.intro h60 (And.intro hm o0)))
  clear h h38 h60 hm o0
  go_enter Tryd.func6, Tryd.ntmps6
  go_wp2_with fail
  refine HE.out.mono ?_
  rintro e w1 ⟨rfl, hE, hk1⟩
  have hN1 : NMap w1 w.heap.size 0 (.map []) := by
    obtain ⟨es, clock, hb, F, hs, hD⟩ := H.out.2.2.2
    exact ⟨es, clock, (hk1.block _ (by simp) (by simp)).trans hb, F, hs, hD⟩
  obtain ⟨b, hb⟩ : ∃ b, b = (w.alloc (.map #[] 0)).heap.size := ⟨_, rfl⟩
  rw [← hb] at hE ⊢
  obtain ⟨g0, hg0⟩ : ∃ g, g = w.heap.size := ⟨_, rfl⟩
  rw [← hg0] at hN1 ⊢
  have hbg : b = g0 + 1 := by rw [hb, hg0]; simp
  have H1 := Lib.hid (And.intro hE (And.intro hN1 (And.intro ((Keeps.refl w []).alloc (.map #[] 0) |>.trans hk1 (by simp)) (And.intro hbg hg0))))
  clear hE hk1 hN1 hb hg0 hbg
  go_wp2_with (at_range; refine wpList_range_own _ rfl (.tmp 17) 33 rfl 5 9 u8_keyed Tryd.underlying33 (plainElem (H := Unit) Tryd.prog 9) b 5 entD rfl H1.out.1 ?_; intro w0 hrg0 hgw0 hs0; go_frame)
  obtain ⟨r, hr⟩ : ∃ r, r = w1.heap.size := ⟨_, rfl⟩
  have hnr : some g0 ≠ some r := by
    have := World.ownsMap.lt H1.out.2.1
    simp
    omega
  rw [← hr] at hrg0 ⊢
  have hk0 : Keeps w w0 [] := H1.out.2.2.1.grown hgw0 (fun k hk => by cases hk)
  have hN0 : NMap w0 g0 0 (.map []) := World.ownsMap.kept H1.out.2.1 hgw0 (by simp)
  have hrw : w.heap.size ≤ r := by rw [hr]; exact H1.out.2.2.1.size
  have hgw : w.heap.size ≤ g0 := by rw [H1.out.2.2.2.2]; exact Nat.le_refl _
  have h5 : Maps.size entD = 5 := by decide
  rw [h5] at hrg0
  have H2 := Lib.hid (And.intro hrg0 (And.intro hk0 (And.intro hN0 (And.intro hrw (And.intro hgw hnr)))))
  clear hrg0 hk0 hN0 hrw hgw hnr hr hgw0 hs0 h5
  go_loopg [5] 5 (fun gg _ wr => ∃ (left : Lit → Bool) (n : Nat) (D : DataW Unit), wr.ranges Tryd.prog 5 (plainElem (H := Unit) Tryd.prog 9) b r 5 entD left gg ∧ NMap wr g0 n D ∧ n + gg ≤ 5 ∧ Keeps w wr [])
  case atStart => exact ⟨_, 0, _, H2.out.1, H2.out.2.2.1, by omega, H2.out.2.1⟩
  case round =>
    obtain ⟨left, n, D, hrg, hN, hn, hK⟩ := hrel
    have HR := Lib.hid (And.intro hrg (And.intro hN (And.intro hn hK)))
    clear hrg hN hn hK
    go_wp2_with (at_next; refine wpList_next_ranges_is _ rfl (.tmp 18) rfl 5 9 .u8 u8_keyed Tryd.underlying5 Tryd.underlying9 b r 5 entD left _ rfl HR.out.1 ?_ ?_)
    · intro _ _
      go_wp2_with fail
      refine wp_loop_rounds 1 ?_
      rw [rounds_succ]
      go_wp2_with fail
      refine (cut_calls s 38 _ H.out.1).mono ?_
      rintro e w5 ⟨rfl, rfl⟩
      go_wp2_with fail
      refine (Tryd.strings_Contains_one s 60 _).mono ?_
      rintro e w6 ⟨rfl, rfl⟩
      rw [idx_none s 60 H.out.2.1]
      go_wp2_with fail
      have hbl : Lib.BuilderAt 37 5 wr.heap.size wr.heap.size (.pointer none) [] (wr.alloc (.cells #[.pointer none, .slice none 0 0] 37)) :=
        ⟨Nat.le_refl _, .slice none 0 0, heap_alloc_new wr _, ⟨by simp, .inl ⟨rfl, rfl⟩⟩, by simp [Value.ownBlock]⟩
      refine (writeString_calls wr.heap.size wr.heap.size s _ hbl (by have := H.out.2.2.1; omega) (by simp)).mono ?_
      rintro e w7 ⟨rfl, hB7, hb7⟩
      have hb7' : Below wr.heap.size wr w7 := ((Below.refl _ wr).alloc (Nat.le_refl _) _).trans hb7
      have H7 := Lib.hid (And.intro hB7 hb7')
      clear hB7 hb7 hb7' hbl
      go_wp2_with fail
      refine (Tryd.Builder_String_any wr.heap.size wr.heap.size s.data.toList _ (.inr H7.out.1) H7.out.2.size).mono ?_
      rintro e w8 ⟨rfl, hb8⟩
      have hk8 : Keeps w w8 [] := HR.out.2.2.2.trans (Keeps.ofBelow (H7.out.2.trans hb8) []) (by simp)
      clear hb8
      go_wp2_with fail
      go_ret2
      exact ⟨rfl, hk8⟩
    · intro x c w2 cnt2 hwx hcs hlx hat hrg2 hlt hg2 hs2 hen
      go_wp2_with (at_mapUpdate; refine wpList_mapUpdate_own _ rfl (.tmp 24) (.tmp 25) (.tmp 26) 32 rfl 9 5 str_keyed Tryd.underlying32 (plainElem (H := Unit) Tryd.prog 5) g0 n D rfl ?_ ?_ (.string c) (.int .u8 x) (.string c.data.toList) rfl rfl ?_ (.lit (.int .u8 x)) [] ?_ ?_)
      · exact World.ownsMap.kept HR.out.2.1 hg2 (by have := H2.out.2.2.2.2.2; simpa using this)
      · have := HR.out.2.2.1; unfold maxLen; omega
      · exact WideMaps.keyOf_string_mk Tryd.underlying9 hcs
      · exact plainElem_int Tryd.underlying5 hwx
      intro w4 hN4 hg4
      have hrg4 := hrg2.kept hg4 (by have := H1.out.2.2.2.1; simp; omega) (by have := H2.out.2.2.2.2.2; simp at this ⊢; omega)
      have hk4 : Keeps w w4 [] := (HR.out.2.2.2.grown hg2 (fun k hk => by cases hk; exact .inr H2.out.2.2.2.1)).grown hg4 (fun k hk => by cases hk; exact .inr H2.out.2.2.2.2.1)
      have H4 := Lib.hid (And.intro hrg4 (And.intro hN4 hk4))
      have hn4 := HR.out.2.2.1
      clear hrg4 hN4 hk4 hrg2 hg2 hs2 hen hat hlx hwx hcs hg4
      go_wp2_with fail
      go_roundg cnt2
      case measure => omega
      case rel => exact ⟨_, n + 1, _, H4.out.1, H4.out.2.1, by omega, H4.out.2.2⟩

end Go.Proofs.YtbfcgiodpcchnaaDoor
