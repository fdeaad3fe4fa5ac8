/-
  CONTRACTS: heliographlaw08.play; a list of deeds that came in.
-/
import Derived.Test.YtecjhaohabjkbaaP16
import Derived.Test.YtecjhaohabjkbaaArgs
namespace Go.Proofs.Ytecjhaohabjkbaa
open Go.ChangeShapes Go.WideShapes Go.Deep Go.RowKit
set_option linter.unusedVariables false

/-- a list of deeds. -/
def SDeeds (w : World) (A : Option Addr) (n : Nat) (ds : List SDeed) : Prop :=
  ds.length = n ∧ (0 < n → ∃ b o, A = some ⟨b, o, none⟩ ∧ b < w.heap.size ∧ ∀ k d, ds[k]? = some d → ∀ j u, d.cells[j]? = some u → w.cell? ⟨b, o + (k * 4 + j), none⟩ = some u) ∧ ∀ d ∈ ds, d.good w
theorem SDeeds.keeps {w w' : World} {A : Option Addr} {n : Nat} {ds : List SDeed} (h : SDeeds w A n ds) (hk : Keeps w w' []) : SDeeds w' A n ds := by
  obtain ⟨h1, h2, h3⟩ := h
  refine ⟨h1, fun hn => ?_, fun d hd => (h3 d hd).keeps hk⟩
  obtain ⟨b, o, hA, hb, hc⟩ := h2 hn
  refine ⟨b, o, hA, Nat.lt_of_lt_of_le hb hk.size, fun k d hk2 j u hu => ?_⟩
  rw [hk.cell hb (by simp)]
  exact hc k d hk2 j u hu
theorem SDeeds.at_ {w : World} {A : Option Addr} {n k : Nat} {ds : List SDeed} (h : SDeeds w A n ds) (hk : k < n) :
    ∃ (b o : Nat) (d : SDeed), A = some ⟨b, o, none⟩ ∧ b < w.heap.size ∧ d.good w ∧ w.cell? ⟨b, o + k * 4, none⟩ = some (.int .i64 d.kind) ∧ w.cell? ⟨b, o + k * 4 + 1, none⟩ = some (.slice d.B d.b.length d.cB) ∧ w.cell? ⟨b, o + k * 4 + 2, none⟩ = some (.int .i64 d.W) ∧ w.cell? ⟨b, o + k * 4 + 3, none⟩ = some (.slice d.S d.sv.length d.cS) := by
  obtain ⟨b, o, e, hb, hc⟩ := h.2.1 (by omega)
  have hl : k < ds.length := by have := h.1; omega
  have hd := List.getElem?_eq_getElem hl
  exact ⟨b, o, ds[k], e, hb, h.2.2 _ (List.getElem_mem hl), hc k _ hd 0 _ rfl, hc k _ hd 1 _ rfl, hc k _ hd 2 _ rfl, hc k _ hd 3 _ rfl⟩

/-- both stores, all their blocks new since w. -/
def SFresh (w : World) (gs bs gr br n m : Nat) (w' : World) : Prop :=
  ∃ l cb ct fs fr, SBoth w' gs bs gr br l cb ct fs fr ∧ l.length = n ∧ ct ≤ m ∧ Keeps w w' [] ∧ ∀ k ∈ fs ++ fr, w.heap.size ≤ k
theorem SFresh.step {w wr w' : World} {gs bs gr br n m : Nat} {l : List Sec} {ct : Nat} {fs fr : List Nat} {e : Ending} (hl : l.length = n) (hm : ct ≤ m) (hK : Keeps w wr []) (hN : ∀ k ∈ fs ++ fr, w.heap.size ≤ k)
    (h : SDo wr gs bs gr br l.length ct fs fr e w') : e = .returned (.bool true) ∧ SFresh w gs bs gr br n (m + 1) w' := by
  obtain ⟨l', cb', ct', fs', fr', he, hb, h1, h2, hk, hn⟩ := h
  refine ⟨he, l', cb', ct', fs', fr', hb, by omega, by omega, hK.trans hk (fun i hi hm => by have := hN i hm; omega), fun k hm => ?_⟩
  rcases hn k hm with h3 | h3
  · exact hN k h3
  · have := hK.size; omega
theorem SFresh.nil {w w1 w2 : World} {gs bs gr br n m : Nat} (h : SFresh w gs bs gr br n m w1) (hk : Keeps w1 w2 []) : SFresh w gs bs gr br n m w2 := by
  obtain ⟨l, cb, ct, fs, fr, hb, h1, h2, h3, h4⟩ := h
  exact ⟨l, cb, ct, fs, fr, hb.nil hk, h1, h2, h3.trans hk (by simp), h4⟩

/-- what play leaves: both stores, the same, new. -/
def SPlay (w : World) (n : Nat) (e : Ending) (w' : World) : Prop :=
  ∃ gs bs gr br, e = .returned (.tuple #[.pointer (some ⟨gs, 0, none⟩), .pointer (some ⟨gr, 0, none⟩), .bool true]) ∧ SFresh w gs bs gr br n 20 w'

set_option maxHeartbeats 3200000 in set_option maxRecDepth 100000 in
set_option maxRecDepth 100000 in
theorem pplay_calls (z : Nat) (hz : z < 256) (A : Option Addr) (n c : Nat) (ds : List SDeed) (w : World) (hd : SDeeds w A n ds) :
    Calls Try.prog 26 #[.int .u8 z, .slice A n c] w (SPlay w (z % 16 + 4)) := by
  obtain ⟨m, hm⟩ : ∃ m : Nat, m = z % 16 + 4 := ⟨_, rfl⟩
  have hm1 : 4 ≤ m := by omega
  have hm8 : m ≤ 19 := by omega
  have hme : (z : Int) % 16 + 4 = (m : Int) := by omega
  have hz0 : (0 : Int) ≤ (z : Int) := by omega
  have hz1 : (z : Int) < 256 := by omega
  rw [← hm]
  clear hm hz
  have H := Lib.hid hd
  clear hd
  go_enter Try.func26, Try.ntmps26
  go_wp2_with fail
  refine (dnew_ok m _ (by omega) (by omega)).mono ?_
  rintro e w1 ⟨bs, f1, rfl, hd1, hk1, hn1⟩
  have H1 := Lib.hid (And.intro hd1 (And.intro hk1 hn1)); clear hd1 hk1 hn1
  have hg0 : Good (List.replicate m Sec.zero) [] 0 := Good.new m (by omega) (by omega)
  have HG := Lib.hid hg0
  clear hg0
  go_wp2_with fail
  refine Calls.mono (open_ok bs _ [] w1 f1 H1.out.1 (HG.out.fit.mono (by omega))) ?_
  rintro e w2 ⟨gs, bs2, f2, rfl, hs2, hk2, hn2⟩
  have H2 := Lib.hid (show St w2 gs bs2 (List.replicate m Sec.zero) [] f2 ∧ Keeps w w2 [] ∧ ∀ k ∈ f2, w.heap.size ≤ k from ⟨hs2, H1.out.2.1.trans hk2 (by simp), fun k hk => by have := hn2 k hk; have := H1.out.2.1.size; omega⟩)
  clear hs2 hk2 hn2 H1
  go_wp2_with fail
  refine (rnew_ok w2 m (by omega) (by omega)).mono ?_
  rintro e w3 ⟨br, f3, rfl, hr3, hk3, hn3⟩
  have H3 := Lib.hid (And.intro hr3 (And.intro hk3 hn3))
  clear hr3 hk3 hn3
  go_wp2_with fail
  refine Calls.mono (ropen_ok br (List.replicate m Sec.zero) [] w3 f3 H3.out.1 (HG.out.fit.mono (by omega))) ?_
  rintro e w4 ⟨gr, br2, f4, rfl, hr4, hk4, hn4⟩
  have hF : SFresh w gs bs2 gr br2 m 0 w4 := by
    obtain ⟨hr3, hk3, hn3⟩ := H3.out
    obtain ⟨hs2, hk2, hn2⟩ := H2.out
    have hk24 := hk3.trans hk4 (by simp)
    have s24 := hk3.size
    refine ⟨List.replicate m Sec.zero, [], 0, f2, f4, ⟨hs2.nil hk24, hr4, HG.out, fun k h1 h2 => ?_⟩, by simp, by simp, hk2.trans hk24 (by simp), fun k hm => ?_⟩
    · have := hs2.lt k h1; have := hn4 k h2; omega
    · have := hk2.size
      rcases List.mem_append.1 hm with h | h
      · exact hn2 k h
      · have := hn4 k h; omega
  have H4 := Lib.hid hF; clear hF hr4 hk4 hn4 H2 H3 HG hm1 hm8
  go_wp2_with fail
  clear hme hz0 hz1
  go_loopw [10] (fun i wr => ∃ k : Nat, k ≤ n ∧ k ≤ 20 ∧ i = .int .i64 k ∧ SFresh w gs bs2 gr br2 m k wr) (fun i _ => n - (intOf i).toNat)
  case atStart => exact ⟨0, by omega, by omega, rfl, H4.out⟩
  case round =>
    obtain ⟨k, hk, hk60, rfl, hF⟩ := hrel
    have HF := Lib.hid hF; clear hF
    have hdone := Lib.hid (show ∀ (w' : World), SFresh w gs bs2 gr br2 m k w' → SFresh w gs bs2 gr br2 m 20 w' from fun w' ⟨l, cb, ct, fs, fr, h1, h2, h3, h4, h5⟩ => ⟨l, cb, ct, fs, fr, h1, h2, by omega, h4, h5⟩)
    by_cases hlt : k < n
    · by_cases h60 : (k : Int) < 20
      · obtain ⟨l, cb, ct, fs, fr, hB, hl, hm, hK, hN⟩ := HF.out
        obtain ⟨b, o, d, rfl, hb, hgood, a0, a1, a2, a3⟩ := H.out.at_ hlt
        obtain ⟨fB, hB0⟩ := hgood.reads
        obtain ⟨fS, hS0⟩ := hgood.reads2
        have hBl := hB0.lt
        have hSl := hS0.lt
        have c0 := (hK.cell hb (by simp)).trans a0
        have c1 := (hK.cell (p := ⟨b, o + k * 4 + 1, none⟩) hb (by simp)).trans a1
        have c2 := (hK.cell (p := ⟨b, o + k * 4 + 2, none⟩) hb (by simp)).trans a2
        have c3 := (hK.cell (p := ⟨b, o + k * 4 + 3, none⟩) hb (by simp)).trans a3
        have g1 : (0 : Int) ≤ (k : Int) := by omega
        have g2 : (k : Int) < (n : Int) := by omega
        have HC := Lib.hid (pdo_calls gs bs2 gr br2 l cb ct fs fr d wr hB (hgood.keeps hK) fB fS (hB0.keeps hK (by simp)) (fun i h1 h2 => by have := hBl i h1; have := hN i h2; omega) (hS0.keeps hK (by simp)) (fun i h1 h2 => by have := hSl i h1; have := hN i h2; omega) (by omega))
        have HB := Lib.hid (And.intro hB (And.intro hl (And.intro hm (And.intro hK hN)))); clear hB hl hm hK hN hB0 hS0 hBl hSl a0 a1 a2 a3 hgood
        go_wp2_with fail
        refine HC.out.mono ?_
        intro e w3 hpost
        obtain ⟨rfl, hF3⟩ := SFresh.step HB.out.2.1 HB.out.2.2.1 HB.out.2.2.2.1 HB.out.2.2.2.2 hpost
        have H3 := Lib.hid hF3; clear hF3 hpost HC
        go_wp2_with fail
        go_roundw
        case rel => exact ⟨k + 1, by omega, by omega, by go_num, H3.out⟩
        case measure => simp [intOf]; omega
      · have h60' : (20 : Int) ≤ (k : Int) := by omega
        clear h60 hk60 hk
        have hc60 : ((k : Int) < 20) = False := by simp; omega
        clear h60'
        go_wp2_with fail
        go_ret3
        exact ⟨gs, bs2, gr, br2, rfl, hdone.out _ HF.out⟩
    · clear hk
      go_wp2_with fail
      go_ret3
      exact ⟨gs, bs2, gr, br2, rfl, hdone.out _ HF.out⟩

end Go.Proofs.Ytecjhaohabjkbaa
