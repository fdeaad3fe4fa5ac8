/-
  CONTRACT: heliographlaw10.play: deeds on both sides.
-/
import Derived.Test.YtgkbkggegdmcgaaDo
namespace Go.Proofs.Ytgkbkggegdmcgaa
open Go.RowKit
set_option linter.unusedVariables false

/-- A deed as data. -/
structure DeedV where
  kind : Int
  s : ByteArray
  h : Int
  on : Bool
def DeedV.cells (d : DeedV) : List Value := [.int .i64 d.kind, .string d.s, .int .u32 d.h, .bool d.on]

/-- A slice of deeds reads as the list ds. -/
def Deeds (w : World) (A : Option Addr) (n : Nat) (ds : List DeedV) : Prop :=
  ds.length = n ∧ (0 < n → ∃ b o, A = some ⟨b, o, none⟩ ∧ b < w.heap.size ∧ ∀ k d, ds[k]? = some d → ∀ j u, d.cells[j]? = some u → w.cell? ⟨b, o + k * 4 + j, none⟩ = some u)
theorem Deeds.keeps {w w' : World} {A : Option Addr} {n : Nat} {ds : List DeedV} (h : Deeds w A n ds) (hk : Keeps w w' []) : Deeds w' A n ds := by
  refine ⟨h.1, fun hn => ?_⟩
  obtain ⟨b, o, e, hb, hc⟩ := h.2 hn
  exact ⟨b, o, e, Nat.lt_of_lt_of_le hb hk.size, fun k d hd j u hu => (hk.cell (p := ⟨b, o + k * 4 + j, none⟩) hb (by simp)).trans (hc k d hd j u hu)⟩
theorem Deeds.at_ {w : World} {A : Option Addr} {n k : Nat} {ds : List DeedV} (h : Deeds w A n ds) (hk : k < n) :
    ∃ (b o : Nat) (d : DeedV), A = some ⟨b, o, none⟩ ∧ b < w.heap.size ∧ w.cell? ⟨b, o + k * 4, none⟩ = some (.int .i64 d.kind) ∧ w.cell? ⟨b, o + k * 4 + 1, none⟩ = some (.string d.s) ∧ w.cell? ⟨b, o + k * 4 + 2, none⟩ = some (.int .u32 d.h) ∧ w.cell? ⟨b, o + k * 4 + 3, none⟩ = some (.bool d.on) := by
  obtain ⟨b, o, e, hb, hc⟩ := h.2 (by omega)
  have hl : k < ds.length := by have := h.1; omega
  have hd := List.getElem?_eq_getElem hl
  exact ⟨b, o, ds[k], e, hb, hc k _ hd 0 _ rfl, hc k _ hd 1 _ rfl, hc k _ hd 2 _ rfl, hc k _ hd 3 _ rfl⟩

/-- both sides, all their blocks new since w. -/
def Fresh (w : World) (bq br : Nat) (w' : World) : Prop :=
  ∃ acked got ss fq fr, Both w' bq br acked got ss fq fr ∧ Keeps w w' [] ∧ ∀ k ∈ fq ++ fr, w.heap.size ≤ k

def PlayLeft (w : World) (e : Ending) (w' : World) : Prop :=
  ∃ bq br, e = .returned (.tuple #[.pointer (some ⟨bq, 0, none⟩), .pointer (some ⟨br, 0, none⟩), .bool true]) ∧ Fresh w bq br w'

set_option maxHeartbeats 800000 in
theorem play_calls (A : Option Addr) (n c : Nat) (ds : List DeedV) (w : World) (hd : Deeds w A n ds) :
    Calls Try.prog 19 #[.slice A n c] w (PlayLeft w) := by
  go_enter Try.func19, Try.ntmps19
  go_wp2_with fail
  refine (new_calls w).mono ?_
  rintro e w1 ⟨fq, rfl, hq1, hk1, hn1⟩
  have hw1 := hk1.size
  obtain ⟨bq, hbq⟩ : ∃ b, b = w.heap.size := ⟨_, rfl⟩
  rw [← hbq] at hq1 ⊢
  clear hbq
  have H1 := Lib.hid (And.intro hq1 (And.intro hk1 hn1)); clear hq1 hk1 hn1
  go_wp2_with fail
  refine (rnew_calls w1).mono ?_
  rintro e w2 ⟨fr, rfl, hr2, hk2, hn2⟩
  obtain ⟨br, hbr⟩ : ∃ b, b = w1.heap.size := ⟨_, rfl⟩
  rw [← hbr] at hr2 ⊢
  clear hbr
  have hF : Fresh w bq br w2 := by
    obtain ⟨hq1, hk1, hn1⟩ := H1.out
    refine ⟨0, 0, [], fq, fr, ⟨by simpa using hq1.keeps hk2 (by simp), hr2, fun k hm hf => ?_, by simp⟩, hk1.trans hk2 (by simp), fun k hm => ?_⟩
    · have h1 := hq1.lt k hm
      have h2 := hn2 k hf
      simp at h2
      omega
    · rcases List.mem_append.1 hm with hm | hm
      · have := hn1 k hm; simpa using this
      · have := hn2 k hm
        simp at this
        omega
  have H2 := Lib.hid hF; clear hF hr2 hk2 hn2 H1 hw1
  go_wp2_with fail
  go_loopw [7] (fun i wr => ∃ k : Nat, k ≤ n ∧ i = .int .i64 k ∧ Fresh w bq br wr) (fun i _ => n - (intOf i).toNat)
  case atStart => exact ⟨0, by omega, rfl, H2.out⟩
  case round =>
    obtain ⟨k, hk, rfl, hF⟩ := hrel
    have HF := Lib.hid hF; clear hF
    by_cases hlt : k < n
    · by_cases h80 : (k : Int) < 80
      · obtain ⟨acked, got, ss, fq, fr, hB, hK, hN⟩ := HF.out
        obtain ⟨b, o, d, rfl, hb, c0, c1, c2, c3⟩ := (hd.keeps hK).at_ hlt
        have g1 : (0 : Int) ≤ (k : Int) := by omega
        have g2 : (k : Int) < (n : Int) := by omega
        have HB := Lib.hid (And.intro hB (And.intro hK hN)); clear hB hK hN
        go_wp2_with fail
        refine (do_calls bq br acked got ss fq fr d.kind d.s d.h d.on wr HB.out.1).mono ?_
        rintro e w3 ⟨acked', got', ss', fq', fr', rfl, hB', hK', hN'⟩
        have H3 := Lib.hid (And.intro hB' (And.intro hK' hN')); clear hB' hK' hN'
        go_wp2_with fail
        go_roundw
        case rel =>
          refine ⟨k + 1, by omega, by go_num, acked', got', ss', fq', fr', H3.out.1, HB.out.2.1.trans H3.out.2.1 (fun i hi hm => ?_), fun i hm => ?_⟩
          · have := HB.out.2.2 i hm; omega
          · rcases H3.out.2.2 i hm with h1 | h1
            · exact HB.out.2.2 i h1
            · have := HB.out.2.1.size; omega
        case measure => simp [intOf]; omega
      · have h80' : (80 : Int) ≤ (k : Int) := by omega
        clear h80
        go_wp2_with fail
        go_ret3
        exact ⟨bq, br, rfl, HF.out⟩
    · clear hk
      go_wp2_with fail
      go_ret3
      exact ⟨bq, br, rfl, HF.out⟩

end Go.Proofs.Ytgkbkggegdmcgaa
