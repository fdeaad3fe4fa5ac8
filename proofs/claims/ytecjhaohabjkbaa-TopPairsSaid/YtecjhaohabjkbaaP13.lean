/-
  CONTRACTS: heliographlaw08: few, live.
-/
import Derived.Test.YtecjhaohabjkbaaP12
import Derived.Test.YtecjhaohabjkbaaPG
namespace Go.Proofs.Ytecjhaohabjkbaa
open Go.RowKit
set_option linter.unusedVariables false

def Rep.st (g bd : Nat) (l : List Sec) (pend : List Wr) : Rep := ⟨fun w fp => St w g bd l pend fp, St.lt, St.keeps⟩
def Rep.rst (g bd : Nat) (l : List Sec) (pend : List Wr) : Rep := ⟨fun w fp => RSt w g bd l pend fp, RSt.lt, RSt.keeps⟩
/-- the Star's step by a store's contract. -/
theorem Star.ss {w0 w w' : World} {Rs : List Rep} {i g bd : Nat} {l l' : List Sec} {pend pend' : List Wr} (hi : Rs[i]? = some (Rep.st g bd l pend)) {R : Prop} (h : Star w0 w Rs)
    (k : ∀ fp, St w g bd l pend fp → (∀ j ∈ fp, w0.heap.size ≤ j) → R) : R := by
  obtain ⟨fp, h1, h2, -⟩ := h.step i hi
  exact k fp h1 h2

theorem few_calls (A : Option Addr) (n c : Nat) (w : World) (hn : n ≤ maxLen) (hc : n ≤ c) (hcm : c ≤ maxLen) :
    Calls Try.prog 22 #[.slice A n c] w fun e w' => e = .returned (.slice A (min n 700) c) ∧ w = w' := by
  unfold maxLen at hn hcm
  by_cases h : 700 < n
  · obtain ⟨m, hm⟩ : ∃ m, m = min n 700 := ⟨_, rfl⟩
    obtain rfl : m = 700 := by omega
    rw [← hm]
    have h7 : (700 : Int) ≤ (c : Int) := by omega
    have hb : (700 : Int) < (n : Int) := by omega
    clear hm hn hcm
    go_enter Try.func22, Try.ntmps22
    go_wp2_with fail
    go_ret
    exact ⟨by simp, rfl⟩
  · have hm : min n 700 = n := by omega
    rw [hm]
    have hb : (n : Int) ≤ 700 := by omega
    clear hm h
    go_enter Try.func22, Try.ntmps22
    go_wp2_with fail
    go_ret
    exact ⟨by simp, rfl⟩

/-- the bytes of such a literal. -/
theorem reads_lit (w : World) (l : List Int) (g : Nat) (fr : Nat × Nat) (hg : g = w.heap.size) (n : Nat) (hn : l.length = n) : Reads (w.alloc (.cells (bytes l).toArray 5 fr)) 1 (some ⟨g, 0, none⟩) n (bytes l) [g] := by
  subst hg hn
  exact reads_mark w 5 l fr
/-- bytes as a text. -/
def strB (l : List Int) : ByteArray := strOfNums l
theorem str_reads (w : World) (A : Option Addr) (n c : Nat) (l : List Int) (fr : List Nat) (hr : Reads w 1 A n (bytes l) fr) :
    (convert 22 9 (.slice A n c)).run Try.prog w = .ok (.string (strB l)) w := by
  have hlen : l.length = n := by have := hr.1; rw [bytes_length, Nat.mul_one] at this; exact this
  rcases Nat.eq_zero_or_pos n with h0 | h0
  · subst h0
    obtain rfl : l = [] := List.eq_nil_of_length_eq_zero hlen
    cases A with
    | none => exact run_convert_bytes_nil w 22 5 Try.underlying22 Try.underlying5 0 c _ Try.underlying9
    | some ad =>
      rw [run_convert_bytes_string w 22 9 5 (some ad) 0 c Try.underlying22 Try.underlying5 Try.underlying9]
      have h1 := run_loadCells_list (P := Try.prog) w ad [] (by simp)
      rw [run_bytesToString w ad 0 c [] h1]
      rfl
  · obtain ⟨b, o, u, rfl, -, -, -, -⟩ := hr.cellAt h0
    refine run_convert_bytes_arg w 22 5 Try.underlying22 Try.underlying5 b o n c l hlen (fun i hi => ?_) _ Try.underlying9
    obtain ⟨b', o', u', e, -, -, hx, hc⟩ := hr.cellAt hi
    simp only [Option.some.injEq, Addr.mk.injEq, and_true] at e
    obtain ⟨rfl, rfl⟩ := e
    have hil : i < l.length := by omega
    have hu : u' = .int .u8 l[i] := by
      simp [bytes, List.getElem?_eq_getElem hil] at hx
      exact hx.symm
    rw [hc, hu]
    simp [List.getD, List.getElem?_eq_getElem hil]
theorem sum_check : sumN [49, 50, 51, 52, 53, 54, 55, 56, 57] = 3421780262 := by decide +kernel

set_option maxHeartbeats 3200000 in set_option maxRecDepth 100000 in
set_option maxRecDepth 100000 in
theorem live_calls (w : World) : Calls Try.prog 23 #[] w fun e w' => e = .returned (.bool true) ∧ Keeps w w' [] := by
  have kc : ∀ (w : World) (C : Array Value) (n c : Nat), (convert 22 22 (.slice (some ⟨w.heap.size, 0, none⟩) n c)).run Try.prog (w.alloc (.cells C 5)) = .ok (.slice (some ⟨w.heap.size, 0, none⟩) n c) (w.alloc (.cells C 5 (C.size, C.size + 1))) :=
    fun w C n c => Lib.run_convert_bytes_const w 22 5 C n c Try.underlying22 Try.underlying5
  have HC := Lib.hid kc
  clear kc
  go_enter Try.func23, Try.ntmps23
  go_wp2_with fail
  refine Calls.mono (dnew_ok 8 w (by omega) (by omega)) ?_
  rintro e w1 ⟨b1, f1, rfl, hd1, hk1, hn1⟩
  have H1 := Lib.hid (And.intro hd1 hk1)
  clear hd1 hk1 hn1
  go_wp2_with fail
  have hg0 : Good (List.replicate 8 Sec.zero) [] 0 := Good.new 8 (by omega) (by omega)
  refine Calls.mono (open_ok b1 _ [] w1 f1 H1.out.1 (hg0.fit.mono (by omega))) ?_
  rintro e w2 ⟨g, bd, fp, rfl, hs2, hk2, hn2⟩
  have S2 : Star w w2 [Rep.st g bd (List.replicate 8 Sec.zero) []] := ((Star.nil w).quiet H1.out.2).add (Rep.st g bd _ []) hs2 hk2 hn2
  have HS2 := Lib.hid (And.intro S2 hg0)
  clear hs2 hk2 hn2 S2 hg0
  have kc := HC.out
  go_wp2_with fail
  obtain ⟨l, hl⟩ : ∃ l, l = List.replicate 8 Sec.zero := ⟨_, rfl⟩
  have hS2 := HS2.out
  rw [← hl] at hS2
  have hll : l.length = 8 := by rw [hl]; simp
  have hh3 : halfOf l = 3 := by unfold halfOf; rw [hll]
  obtain ⟨S2, hg⟩ := hS2
  clear HS2
  obtain ⟨f2, hst2, -, back2⟩ := S2.step 0 rfl
  have hfl2 := St.lt hst2
  have ka2 := (Keeps.refl w2 []).alloc (.cells (bytes [97, 98, 99]).toArray 5 (3, 4))
  have hb1 : Wf8 [97, 98, 99] := by intro z hz; simp at hz; omega
  have hb2 : Wf8 [120, 121, 122] := by intro z hz; simp at hz; omega
  refine Calls.mono (saveM_ok g bd l [] f2 _ (some ⟨w2.heap.size, 0, none⟩) 3 3 [97, 98, 99] [w2.heap.size] (St.nil hst2 ka2) (hg.fit.mono (by omega)) (reads_lit w2 [97, 98, 99] _ (3, 4) rfl 3 rfl) hb1 (by
    intro k hk hm
    have := hfl2 k hm
    simp at hk
    omega) (by rw [hh3]; omega) (by omega) (by rw [show land l [] = l from rfl, hg.best]; show (0 : Nat) + 1 < _; omega)) ?_
  rintro e w4 ⟨rfl, hss⟩
  obtain ⟨hp1, hg1⟩ := hg.save hb1 (by rw [hh3]; show 3 ≤ _; omega) (by omega)
  have hl1 : (saveTo l [] [97, 98, 99] none).1.length = l.length := saveTo_length _ _ _ _
  rw [hp1] at hss
  obtain ⟨l1, hl1e⟩ : ∃ l1, l1 = (saveTo l [] [97, 98, 99] none).1 := ⟨_, rfl⟩
  rw [← hl1e] at hss hg1 hl1
  obtain ⟨f4, s4, k4, n4⟩ := SS.first ka2 hss
  have S4 := back2 w4 (Rep.st g bd l1 []) f4 s4 k4 n4
  have HS4 := Lib.hid (And.intro S4 hg1)
  clear hss S4 s4 k4 n4 back2 hg1 S2 hst2 hfl2 ka2 hp1 hg
  go_wp2_with fail
  obtain ⟨S4, hg1⟩ := HS4.out
  clear HS4
  have hh4 : halfOf l1 = 3 := by unfold halfOf; rw [hl1, hll]
  obtain ⟨f2, hst2, -, back2⟩ := S4.step 0 rfl
  have hfl2 := St.lt hst2
  have ka2 := (Keeps.refl w4 []).alloc (.cells (bytes [120, 121, 122]).toArray 5 (3, 4))
  refine Calls.mono (torn_ok g bd l1 [] f2 _ (some ⟨w4.heap.size, 0, none⟩) none 3 3 0 [120, 121, 122] [w4.heap.size] [] [] 2 (by omega) (St.nil hst2 ka2) (hg1.fit.mono (by omega)) (reads_lit w4 [120, 121, 122] _ (3, 4) rfl 3 rfl) hb2 (by
    intro k hk hm
    have := hfl2 k hm
    simp at hk
    omega) ⟨rfl, .inl ⟨rfl, rfl⟩⟩ (by simp) (by simp) (by simp) (by rw [hh4]; omega) (by omega) (by rw [show land l1 [] = l1 from rfl, hg1.best]; show (1 : Nat) + 1 < _; omega)) ?_
  rintro e w5 ⟨rfl, hss⟩
  have hg2 := hg1.torn_none hb2 (by rw [hh4]; show 3 ≤ _; omega) 2
  have hl2 : (land (saveTo l1 [] [120, 121, 122] (some 2)).1 (surv (saveTo l1 [] [120, 121, 122] (some 2)).2 [])).length = l1.length := by rw [land_length, saveTo_length]
  obtain ⟨l2, hl2e⟩ : ∃ l2, l2 = land (saveTo l1 [] [120, 121, 122] (some 2)).1 (surv (saveTo l1 [] [120, 121, 122] (some 2)).2 []) := ⟨_, rfl⟩
  rw [← hl2e] at hss hg2 hl2
  obtain ⟨f4, s4, k4, n4⟩ := SS.first ka2 hss
  have S5 := back2 w5 (Rep.st g bd l2 []) f4 s4 k4 n4
  have hh5 : halfOf l2 = 3 := by unfold halfOf; rw [hl2, hl1, hll]
  have HS5 := Lib.hid (And.intro S5 (And.intro hg2 hh5))
  clear hss S5 s4 k4 n4 back2 hg1 S4 hst2 hfl2 ka2 hg2 hl1 hl2 hl2e hl1e hh4 hh3 hll hl hh5
  go_wp2_with fail
  obtain ⟨S5, hg2, hh5⟩ := HS5.out
  obtain ⟨f5, hst5, -, -⟩ := S5.step 0 rfl
  have hL := load_calls g bd l2 [] f5 w5 hst5 (hg2.fit.mono (by omega))
  rw [show land l2 [] = l2 from rfl, hg2.best] at hL
  refine Calls.mono hL ?_
  rintro e w6 ⟨A, c, fr, rfl, hr, hf, hk⟩
  have kx := str_reads w6 A 3 c [97, 98, 99] fr hr
  have HS6 := Lib.hid (And.intro (S5.quiet hk) (And.intro hg2 hh5))
  clear HS5 S5 hg2 hh5 hst5 hL hr hf hk
  have hsb : (strB [97, 98, 99]).toList = [97, 98, 99] := by decide +kernel
  go_wp2_with fail
  obtain ⟨S6, hg2, hh5⟩ := HS6.out
  obtain ⟨f6, hst6, -, -⟩ := S6.step 0 rfl
  have hL := turn_calls g bd l2 [] f6 w6 hst6 (hg2.fit.mono (by omega))
  rw [show land l2 [] = l2 from rfl, hg2.best] at hL
  refine Calls.mono hL ?_
  rintro e w7 ⟨rfl, hk⟩
  have HS7 := Lib.hid (And.intro (S6.quiet hk) (And.intro hg2 hh5))
  clear HS6 S6 hg2 hh5 hst6 hL hk
  go_wp2_with fail
  obtain ⟨S7, hg2, hh5⟩ := HS7.out
  obtain ⟨f6, hst6, -, -⟩ := S7.step 0 rfl
  have hL := room_calls g bd l2 [] f6 w7 hst6 (hg2.fit.mono (by omega))
  rw [hh5] at hL
  refine Calls.mono hL ?_
  rintro e w8 ⟨rfl, rfl⟩
  clear hg2 hh5 hst6 hL S7
  go_wp2_with fail
  have ka7 := (Keeps.refl w7 []).alloc (.cells (bytes [49, 50, 51, 52, 53, 54, 55, 56, 57]).toArray 5 (9, 10))
  refine Calls.mono (sum_calls (some ⟨w7.heap.size, 0, none⟩) 9 9 [49, 50, 51, 52, 53, 54, 55, 56, 57] [w7.heap.size] _ (reads_lit w7 [49, 50, 51, 52, 53, 54, 55, 56, 57] _ (9, 10) rfl 9 rfl) (by intro z hz; simp at hz; omega) (by omega)) ?_
  rintro e w9 ⟨rfl, rfl⟩
  have hsum : sumM [49, 50, 51, 52, 53, 54, 55, 56, 57] = 3421780262 := by show ((sumN _ : Nat) : Int) = _; rw [sum_check]; rfl
  rw [hsum]
  clear hsum
  go_wp2_with fail
  go_ret
  obtain ⟨S7, -⟩ := HS7.out
  exact ⟨rfl, S7.old.trans ka7 (by simp)⟩

end Go.Proofs.Ytecjhaohabjkbaa
