/-
  CONTRACTS: heliographlaw07.play; a list of deeds that came in.
-/
import Derived.Test.YtopeipaeefohlaaD11
import Derived.Test.YtopeipaeefohlaaArgs
namespace Go.Proofs.Ytopeipaeefohlaa
open Go.ChangeShapes Go.WideShapes Go.Deep Go.RowKit
set_option linter.unusedVariables false

def DeedD.cells (x : DeedD) : List Value := [.int .i64 x.kind, .int .i64 x.i, .int .u8 x.c, .slice x.S x.sv.length x.cS]
/-- what a deed's own slice reads as, whatever was done that keeps w. -/
def DeedD.good (w : World) (x : DeedD) : Prop := x.sv.length ≤ maxLen ∧ ∃ fS, Reads w 1 x.S x.sv.length (bools x.sv) fS
/-- a list of deeds. -/
def DDeeds (w : World) (A : Option Addr) (n : Nat) (ds : List DeedD) : Prop :=
  ds.length = n ∧ (0 < n → ∃ b o, A = some ⟨b, o, none⟩ ∧ b < w.heap.size ∧ ∀ k d, ds[k]? = some d → ∀ j u, d.cells[j]? = some u → w.cell? ⟨b, o + (k * 4 + j), none⟩ = some u) ∧ ∀ d ∈ ds, d.good w
theorem DDeeds.keeps {w w' : World} {A : Option Addr} {n : Nat} {ds : List DeedD} (h : DDeeds w A n ds) (hk : Keeps w w' []) : DDeeds w' A n ds := by
  obtain ⟨h1, h2, h3⟩ := h
  refine ⟨h1, fun hn => ?_, fun d hd => ?_⟩
  · obtain ⟨b, o, hA, hb, hc⟩ := h2 hn
    refine ⟨b, o, hA, Nat.lt_of_lt_of_le hb hk.size, fun k d hk2 j u hu => ?_⟩
    rw [hk.cell hb (by simp)]
    exact hc k d hk2 j u hu
  · obtain ⟨hl, fS, hS⟩ := h3 d hd
    exact ⟨hl, fS, hS.keeps hk (by simp)⟩

theorem DDeeds.at_ {w : World} {A : Option Addr} {n k : Nat} {ds : List DeedD} (h : DDeeds w A n ds) (hk : k < n) :
    ∃ (b o : Nat) (d : DeedD), A = some ⟨b, o, none⟩ ∧ b < w.heap.size ∧ d.good w ∧ w.cell? ⟨b, o + k * 4, none⟩ = some (.int .i64 d.kind) ∧ w.cell? ⟨b, o + k * 4 + 1, none⟩ = some (.int .i64 d.i) ∧ w.cell? ⟨b, o + k * 4 + 2, none⟩ = some (.int .u8 d.c) ∧ w.cell? ⟨b, o + k * 4 + 3, none⟩ = some (.slice d.S d.sv.length d.cS) := by
  obtain ⟨b, o, e, hb, hc⟩ := h.2.1 (by omega)
  have hl : k < ds.length := by have := h.1; omega
  have hd := List.getElem?_eq_getElem hl
  exact ⟨b, o, ds[k], e, hb, h.2.2 _ (List.getElem_mem hl), hc k _ hd 0 _ rfl, hc k _ hd 1 _ rfl, hc k _ hd 2 _ rfl, hc k _ hd 3 _ rfl⟩

/-- both devices, all their blocks new since w. -/
def DFresh (w : World) (bd br n m : Nat) (w' : World) : Prop :=
  ∃ l loose fd fr, DBoth w' bd br l loose fd fr ∧ l.length = n ∧ loose.length ≤ m ∧ Keeps w w' [] ∧ ∀ k ∈ fd ++ fr, w.heap.size ≤ k
theorem DFresh.step {w wr w' : World} {bd br n m : Nat} {l : List Sec} {loose : List Wr} {fd fr : List Nat} {e : Ending} (hl : l.length = n) (hm : loose.length ≤ m) (hK : Keeps w wr []) (hN : ∀ k ∈ fd ++ fr, w.heap.size ≤ k)
    (h : DDo wr bd br l.length loose.length fd fr e w') : e = .returned (.bool true) ∧ DFresh w bd br n (m + 1) w' := by
  obtain ⟨l', loose', fd', fr', he, hb, h1, h2, hk, hn⟩ := h
  refine ⟨he, l', loose', fd', fr', hb, by omega, by omega, hK.trans hk (fun i hi hm => by have := hN i hm; omega), fun k hm => ?_⟩
  rcases hn k hm with h3 | h3
  · exact hN k h3
  · have := hK.size; omega
theorem DFresh.nil {w w1 w2 : World} {bd br n m : Nat} (h : DFresh w bd br n m w1) (hk : Keeps w1 w2 []) : DFresh w bd br n m w2 := by
  obtain ⟨l, loose, fd, fr, hb, h1, h2, h3, h4⟩ := h
  exact ⟨l, loose, fd, fr, hb.nil hk, h1, h2, h3.trans hk (by simp), h4⟩

/-- what play leaves: both devices, the same, new. -/
def DPlay (w : World) (n : Nat) (e : Ending) (w' : World) : Prop :=
  ∃ bd br, e = .returned (.tuple #[.pointer (some ⟨bd, 0, none⟩), .pointer (some ⟨br, 0, none⟩), .bool true]) ∧ DFresh w bd br n 60 w'

set_option maxHeartbeats 2000000 in
theorem play_calls (z : Nat) (hz : z < 256) (A : Option Addr) (n c : Nat) (ds : List DeedD) (w : World) (hd : DDeeds w A n ds) :
    Calls Try.prog 16 #[.int .u8 z, .slice A n c] w (DPlay w (z % 8 + 1)) := by
  obtain ⟨m, hm⟩ : ∃ m : Nat, m = z % 8 + 1 := ⟨_, rfl⟩
  have hm1 : 1 ≤ m := by omega
  have hm8 : m ≤ 8 := by omega
  have hme : (z : Int) % 8 + 1 = (m : Int) := by omega
  have hz0 : (0 : Int) ≤ (z : Int) := by omega
  have hz1 : (z : Int) < 256 := by omega
  rw [← hm]
  clear hm hz
  have H := Lib.hid hd
  clear hd
  go_enter Try.func16, Try.ntmps16
  go_wp2_with fail
  refine (dnew_ok m _ hm1 (by omega)).mono ?_
  rintro e w1 ⟨bd, f1, rfl, hd1, hk1, hn1⟩
  have H1 := Lib.hid (And.intro hd1 (And.intro hk1 hn1)); clear hd1 hk1 hn1
  go_wp2_with fail
  refine (rnew_ok w1 m hm1 (by omega)).mono ?_
  rintro e w2 ⟨br, f2, rfl, hr2, hk2, hn2⟩
  have hF : DFresh w bd br m 0 w2 := by
    obtain ⟨hd1, hk1, hn1⟩ := H1.out
    refine ⟨List.replicate m Sec.zero, [], f1, f2, ⟨hd1.nil hk2, hr2, by simp, by simp; omega, fun k h1 h2 => ?_⟩, by simp, by simp, hk1.trans hk2 (by simp), fun k hm => ?_⟩
    · have := hd1.lt k h1; have := hn2 k h2; omega
    · have := hk1.size
      rcases List.mem_append.1 hm with h | h
      · exact hn1 k h
      · have := hn2 k h; omega
  have H2 := Lib.hid hF; clear hF hr2 hk2 hn2 H1 hm1 hm8
  go_wp2_with fail
  clear hme hz0 hz1
  go_loopw [9] (fun i wr => ∃ k : Nat, k ≤ n ∧ k ≤ 60 ∧ i = .int .i64 k ∧ DFresh w bd br m k wr) (fun i _ => n - (intOf i).toNat)
  case atStart => exact ⟨0, by omega, by omega, rfl, H2.out⟩
  case round =>
    obtain ⟨k, hk, hk60, rfl, hF⟩ := hrel
    have HF := Lib.hid hF; clear hF
    have hdone := Lib.hid (show ∀ (w' : World), DFresh w bd br m k w' → DFresh w bd br m 60 w' from fun w' ⟨l, loose, fd, fr, h1, h2, h3, h4, h5⟩ => ⟨l, loose, fd, fr, h1, h2, by omega, h4, h5⟩)
    by_cases hlt : k < n
    · by_cases h60 : (k : Int) < 60
      · obtain ⟨l, loose, fd, fr, hB, hl, hm, hK, hN⟩ := HF.out
        obtain ⟨b, o, d, rfl, hb, ⟨hsl, fS, hS0⟩, a0, a1, a2, a3⟩ := H.out.at_ hlt
        have hS := hS0.keeps hK (by simp)
        have hSl := hS0.lt
        have c0 := (hK.cell hb (by simp)).trans a0
        have c1 := (hK.cell (p := ⟨b, o + k * 4 + 1, none⟩) hb (by simp)).trans a1
        have c2 := (hK.cell (p := ⟨b, o + k * 4 + 2, none⟩) hb (by simp)).trans a2
        have c3 := (hK.cell (p := ⟨b, o + k * 4 + 3, none⟩) hb (by simp)).trans a3
        have g1 : (0 : Int) ≤ (k : Int) := by omega
        have g2 : (k : Int) < (n : Int) := by omega
        have HC := Lib.hid (do_calls bd br l loose fd fr d fS wr hB hS hsl (fun i h1 h2 => by have := hSl i h1; have := hN i h2; omega) (by omega))
        have HB := Lib.hid (And.intro hB (And.intro hl (And.intro hm (And.intro hK hN)))); clear hB hl hm hK hN hS hS0 hSl a0 a1 a2 a3 hsl
        go_wp2_with fail
        refine HC.out.mono ?_
        intro e w3 hpost
        obtain ⟨rfl, hF3⟩ := DFresh.step HB.out.2.1 HB.out.2.2.1 HB.out.2.2.2.1 HB.out.2.2.2.2 hpost
        have H3 := Lib.hid hF3; clear hF3 hpost HC
        go_wp2_with fail
        go_roundw
        case rel => exact ⟨k + 1, by omega, by omega, by go_num, H3.out⟩
        case measure => simp [intOf]; omega
      · have h60' : (60 : Int) ≤ (k : Int) := by omega
        clear h60 hk60 hk
        have hc60 : ((k : Int) < 60) = False := by simp; omega
        clear h60'
        go_wp2_with fail
        go_ret3
        exact ⟨bd, br, rfl, hdone.out _ HF.out⟩
    · clear hk
      go_wp2_with fail
      go_ret3
      exact ⟨bd, br, rfl, hdone.out _ HF.out⟩

end Go.Proofs.Ytopeipaeefohlaa
