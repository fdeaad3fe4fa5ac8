/-
  CONTRACTS: heliographlaw07.same.
-/
import Derived.Test.YtopeipaeefohlaaD10
namespace Go.Proofs.Ytopeipaeefohlaa
open Go.RowKit
set_option linter.unusedVariables false

theorem DBoth.same_at {w : World} {bd br : Nat} {l : List Sec} {loose : List Wr} {fd fr : List Nat} (h : DBoth w bd br l loose fd fr) {i : Nat} {s : Sec} (hi : l[i]? = some s) : (land l loose)[i]? = some (readAt s loose i) := land_at loose l i s hi

set_option maxHeartbeats 2000000 in
theorem same_calls (bd br : Nat) (l : List Sec) (loose : List Wr) (fd fr : List Nat) (w : World) (h : DBoth w bd br l loose fd fr) (hlen : loose.length ≤ 10000) :
    Calls Try.prog 17 #[.pointer (some ⟨bd, 0, none⟩), .pointer (some ⟨br, 0, none⟩)] w fun e w' => e = .returned (.bool true) ∧ Keeps w w' [] := by
  have H := Lib.hid h
  have hsm := h.small
  clear h
  go_enter Try.func17, Try.ntmps17
  go_wp2_with fail
  go_loopw [5] (fun v wr => ∃ i : Int, v = .int .i64 i ∧ -1 ≤ i ∧ i ≤ l.length + 1 ∧ Keeps w wr []) (fun v _ => (l.length + 1 - intOf v).toNat)
  case atStart => exact ⟨-1, rfl, by omega, by omega, Keeps.refl _ _⟩
  case round =>
    obtain ⟨i, rfl, h1, h2, hK⟩ := hrel
    have HK := Lib.hid hK
    clear hK
    go_upto_region 2 with (fail)
    by_cases hle : i ≤ l.length
    · -- what both say at i
      obtain ⟨s, z, hs⟩ : ∃ (s : Sec) (z : Int), ∀ wx, Keeps w wx [] →
          (Calls Try.prog 13 #[.pointer (some ⟨bd, 0, none⟩), .int .i64 i] wx fun e w' => e = .returned (.tuple #[.agg s.cells.toArray, .int .i64 z]) ∧ Keeps wx w' []) ∧
          (Calls Try.prog 31 #[.pointer (some ⟨br, 0, none⟩), .int .i64 i] wx fun e w' => e = .returned (.tuple #[.agg s.cells.toArray, .int .i64 z]) ∧ Keeps wx w' []) := by
        by_cases hin : 0 ≤ i ∧ i < l.length
        · obtain ⟨n, rfl⟩ := Int.eq_ofNat_of_zero_le hin.1
          obtain ⟨s, hs⟩ : ∃ s, l[n]? = some s := ⟨_, List.getElem?_eq_getElem (by omega)⟩
          refine ⟨readAt s loose n, 0, fun wx hk => ⟨?_, ?_⟩⟩
          · exact read_ok bd l _ loose fd wx n _ (H.out.d.nil hk) (H.out.same_at hs) (by rw [land_length]; exact hsm)
          · exact rread_ok br l loose fr wx n s (H.out.r.nil hk) hs hsm (by omega)
        · refine ⟨Sec.zero, 2, fun wx hk => ⟨?_, ?_⟩⟩
          · exact read_range bd l _ loose fd wx i (H.out.d.nil hk) (by rw [land_length]; omega) (by rw [land_length]; exact hsm)
          · exact rread_range br l loose fr wx i (H.out.r.nil hk) (by omega) hsm
      have HS := Lib.hid hs
      clear hs
      go_wp2_with fail
      refine (rsize_calls br l loose fr _ (H.out.r.nil HK.out)).mono ?_
      rintro e w1 ⟨rfl, rfl⟩
      go_wp2_with fail
      refine (HS.out _ HK.out).1.mono ?_
      rintro e w2 ⟨rfl, hk2⟩
      have HK2 := Lib.hid (HK.out.trans hk2 (by simp)); clear hk2
      have hm2 := may_new w2 29
      have hb3 := blk_stored w2 29 s
      have hk3 := keeps_stored HK2.out 29 Sec.zero.cells s.cells HK2.out.size
      have H3 := Lib.hid (And.intro hb3 hk3); clear hb3 hk3
      go_wp2_with fail
      refine (HS.out _ H3.out.2).2.mono ?_
      rintro e w4 ⟨rfl, hk4⟩
      have hb4 := H3.out.1.keeps hk4 (by simp)
      have hK4 := H3.out.2.trans hk4 (by simp)
      have hm4 := may_new w4 66
      have hb5 := blk_stored w4 66 s
      have hk5 := keeps_stored (Keeps.refl w4 []) 66 Sec.zero.cells s.cells (Nat.le_refl _)
      obtain ⟨r1, r2⟩ := row_of_range (hb4.keeps hk5 (by simp)).whole s.cells_length
      obtain ⟨r3, r4⟩ := row_of_range hb5.whole s.cells_length
      have H5 := Lib.hid (hK4.trans hk5 (by simp))
      clear hb4 hK4 hb5 hk5 hk4
      go_wp2_with fail
      go_roundw
      case rel => exact ⟨i + 1, by go_num, by omega, by omega, H5.out⟩
      case measure => simp [intOf]; omega
    · have hgt : (l.length : Int) < i := by omega
      go_wp2_with fail
      refine (rsize_calls br l loose fr _ (H.out.r.nil HK.out)).mono ?_
      rintro e w1 ⟨rfl, rfl⟩
      go_wp2_with fail
      refine (size_calls bd l _ loose fd _ (H.out.d.nil HK.out)).mono ?_
      rintro e w2 ⟨rfl, rfl⟩
      go_wp2_with fail
      refine (rsize_calls br l loose fr _ (H.out.r.nil HK.out)).mono ?_
      rintro e w3 ⟨rfl, rfl⟩
      have hll := land_length loose l
      go_wp2_with fail
      refine (pending_calls bd l _ loose fd _ (H.out.d.nil HK.out)).mono ?_
      rintro e w4 ⟨rfl, rfl⟩
      go_wp2_with fail
      refine (rpending_calls br l loose fr _ (H.out.r.nil HK.out)).mono ?_
      rintro e w5 ⟨rfl, rfl⟩
      go_wp2_with fail
      go_ret
      exact ⟨rfl, HK.out⟩

end Go.Proofs.Ytopeipaeefohlaa
