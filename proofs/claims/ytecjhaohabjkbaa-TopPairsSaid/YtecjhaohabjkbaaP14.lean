/-
  CONTRACTS: heliographlaw08.do: one deed on both stores.
-/
import Derived.Test.YtecjhaohabjkbaaP13
namespace Go.Proofs.Ytecjhaohabjkbaa
open Go.RowKit
set_option linter.unusedVariables false

/-- both stores hold the same, and nothing hangs loose. -/
structure SBoth (w : World) (gs bs gr br : Nat) (l : List Sec) (cb : List Int) (ct : Nat) (fs fr : List Nat) : Prop where
  s : St w gs bs l [] fs
  r : RSt w gr br l [] fr
  good : Good l cb ct
  apart : ∀ k ∈ fs, k ∉ fr
theorem SBoth.nil {w w' : World} {gs bs gr br : Nat} {l : List Sec} {cb : List Int} {ct : Nat} {fs fr : List Nat} (h : SBoth w gs bs gr br l cb ct fs fr) (hk : Keeps w w' []) : SBoth w' gs bs gr br l cb ct fs fr :=
  ⟨h.s.nil hk, h.r.nil hk, h.good, h.apart⟩
/-- a deed: its kind, its bytes, its writes; what survives. -/
structure SDeed where
  kind : Int
  B : Option Addr
  b : List Int
  cB : Nat
  W : Int
  S : Option Addr
  sv : List Bool
  cS : Nat
def SDeed.cells (x : SDeed) : List Value := [.int .i64 x.kind, .slice x.B x.b.length x.cB, .int .i64 x.W, .slice x.S x.sv.length x.cS]
def SDeed.val (x : SDeed) : Value := .agg #[.int .i64 x.kind, .slice x.B x.b.length x.cB, .int .i64 x.W, .slice x.S x.sv.length x.cS]
/-- what a deed's own slices read as. -/
structure SDeed.good (w : World) (x : SDeed) : Prop where
  wf : Wf8 x.b
  cap : x.b.length ≤ x.cB
  capm : x.cB ≤ maxLen
  low : x.W ≤ 9223372036854775807
  few : x.sv.length ≤ maxLen
  reads : ∃ fB, Reads w 1 x.B x.b.length (bytes x.b) fB
  reads2 : ∃ fS, Reads w 1 x.S x.sv.length (bools x.sv) fS
theorem SDeed.good.keeps {w w' : World} {x : SDeed} (h : x.good w) (hk : Keeps w w' []) : x.good w' := by
  obtain ⟨h1, h2, h3, h4, h5, ⟨fB, h6⟩, ⟨fS, h7⟩⟩ := h
  exact ⟨h1, h2, h3, h4, h5, ⟨fB, h6.keeps hk (by simp)⟩, ⟨fS, h7.keeps hk (by simp)⟩⟩

/-- what a deed on both leaves: they agree. -/
def SDo (w : World) (gs bs gr br : Nat) (n m : Nat) (fs fr : List Nat) (e : Ending) (w' : World) : Prop :=
  ∃ l cb ct fs' fr', e = .returned (.bool true) ∧ SBoth w' gs bs gr br l cb ct fs' fr' ∧ l.length = n ∧ ct ≤ m + 1 ∧ Keeps w w' (fs ++ fr) ∧ ∀ k ∈ fs' ++ fr', k ∈ fs ++ fr ∨ w.heap.size ≤ k

/-- a step of the one, then a step of the other. -/
theorem SBoth.steps {w w1 w3 : World} {gs bs gr br : Nat} {l l' : List Sec} {cb cb' : List Int} {ct ct' : Nat} {fs fr : List Nat} (h : SBoth w gs bs gr br l cb ct fs fr)
    (h1 : SS w fs gs bs l' [] w1) (h2 : RSS w1 fr gr br l' [] w3) (hg : Good l' cb' ct') :
    ∃ fs' fr', SBoth w3 gs bs gr br l' cb' ct' fs' fr' ∧ Keeps w w3 (fs ++ fr) ∧ ∀ k ∈ fs' ++ fr', k ∈ fs ++ fr ∨ w.heap.size ≤ k := by
  obtain ⟨fs', hd, hk1, hn1⟩ := h1
  obtain ⟨fr', hr, hk3, hn3⟩ := h2
  have s1 := hk1.size
  have hdlt := h.s.lt
  have hrlt := h.r.lt
  have hd1 : ∀ k ∈ fs', k ∉ fr := fun k hk2 h3 => by
    rcases hn1 k hk2 with h4 | h4
    · exact h.apart k h4 h3
    · have := hrlt k h3; omega
  have hd' := hd.keeps hk3 hd1
  have hdlt' := hd.lt
  refine ⟨fs', fr', ⟨hd', hr, hg, fun k h3 h4 => ?_⟩, ?_, ?_⟩
  · rcases hn3 k h4 with h5 | h5
    · exact hd1 k h3 h5
    · have := hdlt' k h3; omega
  · exact (hk1.mono (fun k _ hk => by simp [hk])).trans hk3 (fun k _ hk => by simp [hk])
  · intro k hm
    rcases List.mem_append.1 hm with h3 | h3
    · rcases hn1 k h3 with h4 | h4
      · simp [h4]
      · exact .inr h4
    · rcases hn3 k h3 with h4 | h4
      · simp [h4]
      · right; omega

/-- a Save on either answers the same, and leaves the same. -/
theorem save_both {l : List Sec} {cb : List Int} {ct : Nat} (hg : Good l cb ct) (hct : ct ≤ 100000) (A : Option Addr) (n c : Nat) (b : List Int) (hlen : b.length = n) (hwf : Wf8 b) (hc : n ≤ c) (hn : n ≤ 1000000) :
    ∃ (code : Int) (l' : List Sec) (cb' : List Int) (ct' : Nat), Good l' cb' ct' ∧ l'.length = l.length ∧ ct' ≤ ct + 1 ∧
      (∀ g bd fp wx fb, St wx g bd l [] fp → Reads wx 1 A n (bytes b) fb → (∀ k ∈ fb, k ∉ fp) → Calls Try.prog 17 #[.pointer (some ⟨g, 0, none⟩), .slice A n c] wx fun e w' => e = .returned (.int .i64 code) ∧ SS wx fp g bd l' [] w') ∧
      (∀ g bd fp wx fb, RSt wx g bd l [] fp → Reads wx 1 A n (bytes b) fb → (∀ k ∈ fb, k ∉ fp) → Calls Try.prog 36 #[.pointer (some ⟨g, 0, none⟩), .slice A n c] wx fun e w' => e = .returned (.int .i64 code) ∧ RSS wx fp g bd l' [] w') := by
  have hbt : (bestM (halfOf l) (land l [])).2.2 + 1 < 18446744073709551616 := by rw [show land l [] = l from rfl, hg.best]; show ct + 1 < _; omega
  by_cases h : halfOf l * 64 < n
  · refine ⟨4, l, cb, ct, hg, rfl, by omega, fun g bd fp wx fb hs hr hd => ?_, fun g bd fp wx fb hs hr hd => ?_⟩
    · refine Calls.mono (saveM_full g bd l [] fp wx A n c hs (hg.fit.mono (by omega)) (by unfold maxLen; omega) h) ?_
      rintro e w' ⟨rfl, rfl⟩
      exact ⟨rfl, SS.start hs⟩
    · refine Calls.mono (rsaveM_full g bd l [] fp wx A n c hs (hg.fit.mono (by omega)) hn h) ?_
      rintro e w' ⟨rfl, hk⟩
      exact ⟨rfl, (RSS.start hs).nil hk⟩
  · obtain ⟨hp1, hg1⟩ := hg.save hwf (by rw [hlen]; omega) (by omega)
    refine ⟨0, (saveTo l [] b none).1, b, ct + 1, hg1, saveTo_length _ _ _ _, by omega, fun g bd fp wx fb hs hr hd => ?_, fun g bd fp wx fb hs hr hd => ?_⟩
    · have := saveM_ok g bd l [] fp wx A n c b fb hs (hg.fit.mono (by omega)) hr hwf hd (by omega) hc hbt
      rw [hp1] at this
      exact this
    · have := rsaveM_ok g bd l [] fp wx A n c b fb hs (hg.fit.mono (by omega)) hr hwf hd (by omega) hbt
      rw [hp1] at this
      exact this
/-- a Torn on either answers the same, and leaves the same. -/
theorem torn_both {l : List Sec} {cb : List Int} {ct : Nat} (hg : Good l cb ct) (hct : ct ≤ 100000) (A : Option Addr) (n c : Nat) (b : List Int) (hlen : b.length = n) (hwf : Wf8 b) (hc : n ≤ c) (hn : n ≤ 1000000) (W : Int) (hW : W ≤ 9223372036854775807) (S : Option Addr) (sv : List Bool) (d : Nat) (hsl : sv.length ≤ maxLen) :
    ∃ (code : Int) (l' : List Sec) (cb' : List Int) (ct' : Nat), Good l' cb' ct' ∧ l'.length = l.length ∧ ct' ≤ ct + 1 ∧
      (∀ g bd fp wx fb fs, St wx g bd l [] fp → Reads wx 1 A n (bytes b) fb → (∀ k ∈ fb, k ∉ fp) → Reads wx 1 S sv.length (bools sv) fs → (∀ k ∈ fs, k ∉ fp) → Calls Try.prog 28 #[.pointer (some ⟨g, 0, none⟩), .slice A n c, .int .i64 W, .slice S sv.length d] wx fun e w' => e = .returned (.int .i64 code) ∧ SS wx fp g bd l' [] w') ∧
      (∀ g bd fp wx fb fs, RSt wx g bd l [] fp → Reads wx 1 A n (bytes b) fb → (∀ k ∈ fb, k ∉ fp) → Reads wx 1 S sv.length (bools sv) fs → (∀ k ∈ fs, k ∉ fp) → Calls Try.prog 59 #[.pointer (some ⟨g, 0, none⟩), .slice A n c, .int .i64 W, .slice S sv.length d] wx fun e w' => e = .returned (.int .i64 code) ∧ RSS wx fp g bd l' [] w') := by
  have hbt : (bestM (halfOf l) (land l [])).2.2 + 1 < 18446744073709551616 := by rw [show land l [] = l from rfl, hg.best]; show ct + 1 < _; omega
  by_cases h : halfOf l * 64 < n
  · refine ⟨4, l, cb, ct, hg, rfl, by omega, fun g bd fp wx fb fs hs hr hd hr2 hd2 => ?_, fun g bd fp wx fb fs hs hr hd hr2 hd2 => ?_⟩
    · refine Calls.mono (torn_full g bd l [] fp wx A S n c sv.length d W hs (hg.fit.mono (by omega)) (by unfold maxLen; omega) h) ?_
      rintro e w' ⟨rfl, rfl⟩
      exact ⟨rfl, SS.start hs⟩
    · refine Calls.mono (rtorn_full g bd l [] fp wx A S n c sv.length d W hs (hg.fit.mono (by omega)) hn h) ?_
      rintro e w' ⟨rfl, hk⟩
      exact ⟨rfl, (RSS.start hs).nil hk⟩
  · by_cases hneg : W < 0
    · refine ⟨2, l, cb, ct, hg, rfl, by omega, fun g bd fp wx fb fs hs hr hd hr2 hd2 => ?_, fun g bd fp wx fb fs hs hr hd hr2 hd2 => ?_⟩
      · refine Calls.mono (torn_range g bd l [] fp wx A S n c sv.length d W hs (hg.fit.mono (by omega)) (by omega) hbt hneg) ?_
        rintro e w' ⟨rfl, hk⟩
        exact ⟨rfl, (SS.start hs).nil hk⟩
      · refine Calls.mono (rtorn_range g bd l [] fp wx A S n c sv.length d W hs (hg.fit.mono (by omega)) (by omega) hbt hneg) ?_
        rintro e w' ⟨rfl, hk⟩
        exact ⟨rfl, (RSS.start hs).nil hk⟩
    · obtain ⟨m, rfl⟩ := Int.eq_ofNat_of_zero_le (show 0 ≤ W by omega)
      have hl' : (land (saveTo l [] b (some m)).1 (surv (saveTo l [] b (some m)).2 sv)).length = l.length := by rw [land_length, saveTo_length]
      have hgt : ∃ cb' ct', Good (land (saveTo l [] b (some m)).1 (surv (saveTo l [] b (some m)).2 sv)) cb' ct' ∧ ct' ≤ ct + 1 := by
        rcases hg.torn hwf (by rw [hlen]; omega) (by omega) m sv with h | h
        · exact ⟨_, _, h, by omega⟩
        · exact ⟨_, _, h, by omega⟩
      obtain ⟨cb', ct', hg1, hc1⟩ := hgt
      refine ⟨0, _, cb', ct', hg1, hl', hc1, fun g bd fp wx fb fs hs hr hd hr2 hd2 => ?_, fun g bd fp wx fb fs hs hr hd hr2 hd2 => ?_⟩
      · exact torn_ok g bd l [] fp wx A S n c d b fb sv fs m (by omega) hs (hg.fit.mono (by omega)) hr hwf hd hr2 hsl hd2 hr2.lt (by omega) hc hbt
      · exact rtorn_ok g bd l [] fp wx A S n c d b fb sv fs m hs (hg.fit.mono (by omega)) hr hwf hd hr2 hd2 (by omega) hbt

end Go.Proofs.Ytecjhaohabjkbaa
