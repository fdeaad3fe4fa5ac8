/-
  For every bytes that are saved, and a sector of the other slot that is spoilt: what is written over the slot that does not count does no harm: heliographtop.TopRoots answers true, and what came in reads as before. No condition.
-/
import Derived.Test.YtecjhaohabjkbaaRows
import Derived.ProofKit
import Derived.OpenShut
import Derived.ShutString
import Derived.ChangeOld
import Derived.Carry
import Derived.Test.YtecjhaohabjkbaaP19
namespace Go.Proofs.Ytecjhaohabjkbaa.vTopRoots
open Go.ChangeShapes Go.WideShapes Go.ChangeAt Go.RowKit
open Go.ChangeMaps (open_string shut_string)
set_option linter.unusedVariables false

def Sec.all (c : Int) : Sec := ⟨List.replicate 64 c, by simp⟩
theorem Sec.all_cells (c : Int) : (Sec.all c).cells = List.replicate 64 (.int .u8 c) := by simp [Sec.all, Sec.cells]
theorem fill_set (k : Nat) (hk : k < 64) (c : Int) : (List.replicate k (Value.int .u8 c) ++ List.replicate (64 - k) (Value.int .u8 0)).toArray.setIfInBounds k (.int .u8 c) = (List.replicate (k + 1) (Value.int .u8 c) ++ List.replicate (64 - (k + 1)) (Value.int .u8 0)).toArray := by
  apply Array.ext
  · simp; omega
  · intro i h1 h2
    simp only [List.setIfInBounds_toArray, List.getElem_toArray, List.getElem_set, List.getElem_append, List.length_replicate, List.getElem_replicate]
    split <;> split <;> first | rfl | (split <;> first | rfl | omega) | omega
theorem all_turn : turnOf (Sec.all 0) = 0 := by decide
theorem all_size (c : Nat) (h : c < 256) : sizeOf_ (Sec.all c) = c * 16843009 := by
  have e : ((Sec.all c).bs.drop 10).take 4 = [(c : Int), c, c, c] := by
    unfold Sec.all
    show ((List.replicate 64 (c : Int)).drop 10).take 4 = _
    rw [List.drop_replicate, List.take_replicate]
    rfl
  unfold sizeOf_
  rw [e]
  show ((((0 * 256 + (c : Int).toNat) % 18446744073709551616 * 256 + (c : Int).toNat) % 18446744073709551616 * 256 + (c : Int).toNat) % 18446744073709551616 * 256 + (c : Int).toNat) % 18446744073709551616 = _
  rw [Int.toNat_natCast]
  omega
theorem roots_plain {l : List Sec} {cb : List Int} (hG : Good l cb 2) (hl : l.length = 20) (p c : Nat) (hc : c < 256) (hp : p = 0 ∨ (2 ≤ p ∧ p ≤ 10)) :
    bestM (halfOf l) (land l [⟨p, Sec.all c⟩]) = (1, cb, 2) := by
  have hh : halfOf l = 9 := by unfold halfOf; omega
  obtain ⟨h1, h2, h3⟩ := hG.some_ (by omega)
  have hr := hG.room
  rw [hh] at h2 hr ⊢
  show bestM 9 (l.set p (Sec.all c)) = _
  have hLl : (l.set p (Sec.all c)).length = 20 := by simpa using hl
  have ht : turnOf (rootM cb 2) = 2 := turn_root cb 2 (by omega)
  have hz : sizeOf_ (rootM cb 2) = cb.length := size_root cb 2 (by omega)
  have e1 : secAt (l.set p (Sec.all c)) 1 = rootM cb 2 := by rw [secAt_set_ne _ _ _ _ (by omega)]; exact h1
  have hd : dataOf (l.set p (Sec.all c)) (2 + 1 * 9) cb.length = cb := by
    rw [dataOf_same (l := l) (by simp) _ _ (fun j hj => secAt_set_ne _ _ _ _ (by omega)) (by omega)]
    exact h2
  have e : holdM 9 (l.set p (Sec.all c)) 1 = (cb, 2) := by
    rw [holdM_in (r := rootM cb 2) (by rw [secAt_get (by omega), e1]) (by rw [ht, hz]; omega) (by rw [ht, hz, hd])]
    rw [ht, hz, hd]
  have ho : (holdM 9 (l.set p (Sec.all c)) 0).2 < 2 := by
    rcases hp with rfl | hp
    · have e0 : secAt (l.set 0 (Sec.all c)) 0 = Sec.all c := secAt_set_eq _ _ _ (by omega)
      rcases Nat.eq_zero_or_pos c with rfl | h0
      · rw [hold_zero 9 _ 0 (by omega) (by rw [e0]; exact all_turn)]
        omega
      · rw [holdM_out (r := Sec.all c) (by rw [secAt_get (by omega), e0]) (.inr (by rw [all_size c hc]; omega))]
        omega
    · have e0 : secAt (l.set p (Sec.all c)) 0 = secAt l 0 := secAt_set_ne _ _ _ _ (by omega)
      rcases hold_turn 9 (l.set p (Sec.all c)) 0 (by omega) with h | h
      · omega
      · rw [h, e0]; exact h3
  unfold bestM
  rw [e, if_pos ho]

set_option maxHeartbeats 3200000 in set_option maxRecDepth 100000 in
set_option maxRecDepth 100000 in
theorem walk (A : Option Addr) (n cA : Nat) (a : List Int) (fA : List Nat) (x y : Int) (w : World) (hr : Reads w 1 A n (bytes a) fA) (hl : a.length = n) (hwf : Wf8 a) (hcp : n ≤ cA) (hm : cA ≤ maxLen)
    (hx : (Lit.int .u8 x).wf = true) (hy : (Lit.int .u8 y).wf = true) :
    Calls Try.prog 3 #[.slice A n cA, .int .u8 x, .int .u8 y] w fun e w' => e = .returned (.bool true) ∧ Below w.heap.size w w' := by
  obtain ⟨z, rfl, hz⟩ := u8_nat hx
  obtain ⟨c, rfl, hc⟩ := u8_nat hy
  have H0 := Lib.hid (And.intro hr (And.intro hl (And.intro hwf (And.intro hcp hc))))
  have hz0 : (0 : Int) ≤ (z : Int) := by omega
  have hz1 : (z : Int) < 256 := by omega
  clear hx hy hr hl hwf hcp hm hc
  have kc : ∀ (w : World) (C : Array Value) (n c : Nat), (convert 22 22 (.slice (some ⟨w.heap.size, 0, none⟩) n c)).run Try.prog (w.alloc (.cells C 5)) = .ok (.slice (some ⟨w.heap.size, 0, none⟩) n c) (w.alloc (.cells C 5 (C.size, C.size + 1))) :=
    fun w C n c => Lib.run_convert_bytes_const w 22 5 C n c Try.underlying22 Try.underlying5
  have HC := Lib.hid kc
  clear kc
  go_enter Try.func3, Try.ntmps3
  go_wp2_with fail
  refine (dnew_ok 20 w (by omega) (by omega)).mono ?_
  rintro e w1 ⟨b1, f1, rfl, hd1, hk1, hn1⟩
  have H1 := Lib.hid (And.intro hd1 (And.intro hk1 hn1)); clear hd1 hk1 hn1
  have hg0 : Good (List.replicate 20 Sec.zero) [] 0 := Good.new 20 (by omega) (by omega)
  obtain ⟨l0, hl0⟩ : ∃ l0, l0 = List.replicate 20 Sec.zero := ⟨_, rfl⟩
  have hll : l0.length = 20 := by rw [hl0]; simp
  rw [← hl0] at hg0
  have HG := Lib.hid (And.intro hg0 hll)
  clear hg0 hll
  go_wp2_with fail
  refine Calls.mono (open_ok b1 _ [] w1 f1 H1.out.1 (by rw [← hl0]; exact (HG.out.1.fit.mono (by omega)))) ?_
  rintro e w2 ⟨gs, bs, f2, rfl, hs2, hk2, hn2⟩
  rw [← hl0] at hs2
  have H2 := Lib.hid (show St w2 gs bs l0 [] f2 ∧ Keeps w w2 [] ∧ ∀ k ∈ f2, w.heap.size ≤ k from ⟨hs2, H1.out.2.1.trans hk2 (by simp), fun k hk => by have := hn2 k hk; have := H1.out.2.1.size; omega⟩)
  clear hs2 hk2 hn2 H1 hl0
  by_cases hlong : (500 : Int) < (n : Int)
  · go_wp2_with fail
    go_ret
    exact ⟨by simp, H2.out.2.1.below (Nat.le_refl _) (by simp)⟩
  · have kc := HC.out
    go_wp2_with fail
    have hsave : ∀ (l : List Sec) (cb : List Int) (ct : Nat) (wx : World) (fx : List Nat) (Ab : Option Addr) (nb cb' : Nat) (b : List Int) (fb : List Nat), Good l cb ct → l.length = 20 → ct ≤ 2 → St wx gs bs l [] fx → Reads wx 1 Ab nb (bytes b) fb → Wf8 b → b.length = nb → nb ≤ 500 → nb ≤ cb' → (∀ k ∈ fb, k ∉ fx) →
        Calls Try.prog 17 #[.pointer (some ⟨gs, 0, none⟩), .slice Ab nb cb'] wx fun e w' => e = .returned (.int .i64 0) ∧ ∃ l', Good l' b (ct + 1) ∧ l'.length = 20 ∧ SS wx fx gs bs l' [] w' := fun l cb ct wx fx Ab nb cb' b fb hg hl hct hs hr hw hlb hn hcap hd => by
      have hh : halfOf l = 9 := by unfold halfOf; rw [hl]
      have := saveM_ok gs bs l [] fx wx Ab nb cb' b fb hs (hg.fit.mono (by omega)) hr hw hd (by rw [hh]; omega) hcap (by rw [show land l [] = l from rfl, hg.best]; show ct + 1 < _; omega)
      obtain ⟨hp1, hg1⟩ := hg.save hw (by rw [hh, hlb]; omega) (by omega)
      rw [hp1] at this
      refine this.mono ?_
      rintro e w' ⟨rfl, h⟩
      exact ⟨rfl, _, hg1, by rw [saveTo_length]; exact hl, h⟩
    have HV := Lib.hid hsave
    clear hsave
    have hb1 : Wf8 [111, 108, 100] := by intro z hz; simp at hz; omega
    have ka2 := (Keeps.refl w2 []).alloc (.cells (bytes [111, 108, 100]).toArray 5 (3, 4))
    refine Calls.mono (HV.out l0 [] 0 _ f2 (some ⟨w2.heap.size, 0, none⟩) 3 3 [111, 108, 100] [w2.heap.size] HG.out.1 HG.out.2 (by omega) (H2.out.1.nil ka2) (reads_lit w2 [111, 108, 100] _ (3, 4) rfl 3 rfl) hb1 rfl (by omega) (by omega) (by
      intro k hk hm
      have := H2.out.1.lt k hm
      simp at hk
      omega)) ?_
    rintro e w4 ⟨rfl, l1, hg1, hl1, hss⟩
    obtain ⟨f4, s4, k4, n4⟩ := SS.first ka2 hss
    have hK4 : Keeps w w4 [] := H2.out.2.1.trans k4 (fun k h1 h2 => by have := H2.out.2.2 k h2; omega)
    have hN4 : ∀ k ∈ f4, w.heap.size ≤ k := fun k hk => by
      rcases n4 k hk with h | h
      · exact H2.out.2.2 k h
      · have := H2.out.2.1.size; omega
    have H4 := Lib.hid (show St w4 gs bs l1 [] f4 ∧ Keeps w w4 [] ∧ (∀ k ∈ f4, w.heap.size ≤ k) ∧ Good l1 [111, 108, 100] 1 ∧ l1.length = 20 from ⟨s4, hK4, hN4, hg1, hl1⟩)
    clear hss s4 k4 n4 hK4 hN4 hg1 hl1 hb1 ka2 kc
    go_wp2_with fail
    refine Calls.mono (HV.out l1 _ 1 w4 f4 A n cA a fA H4.out.2.2.2.1 H4.out.2.2.2.2 (by omega) H4.out.1 (H0.out.1.keeps H4.out.2.1 (by simp)) H0.out.2.2.1 H0.out.2.1 (by omega) H0.out.2.2.2.1 (fun k h1 h2 => by have := H0.out.1.lt k h1; have := H4.out.2.2.1 k h2; omega)) ?_
    rintro e w5 ⟨rfl, l2, hg2, hl2, hss⟩
    obtain ⟨f5, s5, k5, n5⟩ := hss
    have hK5 : Keeps w w5 [] := H4.out.2.1.trans k5 (fun k h1 h2 => by have := H4.out.2.2.1 k h2; omega)
    have H5 := Lib.hid (show St w5 gs bs l2 [] f5 ∧ Keeps w w5 [] ∧ Good l2 a 2 ∧ l2.length = 20 from ⟨s5, hK5, hg2, hl2⟩)
    clear s5 k5 n5 hK5 hg2 hl2 hlong
    go_wp2_with fail
    refine Calls.mono (device_ok gs bs l2 [] f5 w5 H5.out.1 (H5.out.2.2.1.fit.mono (by omega))) ?_
    rintro e w6 ⟨bd, fd, rfl, hd6, hk6, hn6⟩
    have hB : Blk (w6.alloc (.cells Sec.zero.cells.toArray 31)) w6.heap.size 31 (List.replicate 0 (Value.int .u8 c) ++ List.replicate (64 - 0) (Value.int .u8 0)).toArray := by
      have := Blk.new w6 31 Sec.zero.cells.toArray
      rwa [show Sec.zero.cells = List.replicate 64 (Value.int .u8 0) by simp [Sec.zero, Sec.cells]] at this
    have H6 := Lib.hid (show DRep w6 bd l2 l2 [] fd ∧ Keeps w w6 [] ∧ (∀ k ∈ fd, w.heap.size ≤ k) from ⟨hd6, H5.out.2.1.trans (fp1 := []) hk6 (by simp), fun k hk => by have := hn6 k hk; have := H5.out.2.1.size; omega⟩)
    have hI := Lib.hid (And.intro hB ((Keeps.refl w6 []).alloc (.cells Sec.zero.cells.toArray 31)))
    clear hB hd6 hk6 hn6
    go_wp2_with fail
    go_loopw [10] (fun i wr => ∃ k : Nat, k ≤ 64 ∧ i = .int .i64 k ∧ Blk wr w6.heap.size 31 (List.replicate k (Value.int .u8 c) ++ List.replicate (64 - k) (Value.int .u8 0)).toArray ∧ Keeps w6 wr []) (fun i _ => 64 - (intOf i).toNat)
    case atStart => exact ⟨0, by omega, rfl, hI.out⟩
    case round =>
      obtain ⟨k, hk, rfl, hB, hK⟩ := hrel
      by_cases hlt : k < 64
      · have g1 : (0 : Int) ≤ (k : Int) := by omega
        have g2 : (k : Int) < 64 := by omega
        have c1 : wr.cell? ⟨w6.heap.size, k, none⟩ = some (.int .u8 0) := by
          rw [hB.cell, List.getElem?_toArray, List.getElem?_append_right (by simp), List.length_replicate, Nat.sub_self, List.getElem?_replicate, if_pos (by omega)]
        have f1 := hB.frozen k
        have H := Lib.hid (And.intro hB hK)
        clear hB hK
        go_wp2_with fail
        go_roundw
        case rel =>
          refine ⟨k + 1, by omega, by go_num, ?_, H.out.2.setCell (.inr (Nat.le_refl _)) _⟩
          rw [← fill_set k hlt]
          exact H.out.1.set_ k _
        case measure => simp [intOf]; omega
      · obtain rfl : k = 64 := by omega
        have hrange : wr.rangeAt w6.heap.size 0 (Sec.all c).cells := by rw [Sec.all_cells]; simpa using hB.whole
        obtain ⟨hrow1, hrow2⟩ := row_of_range hrange (Sec.all c).cells_length
        have HR := Lib.hid hK
        clear hB hK hrange hk hlt
        by_cases h9 : z % 10 = 9
        · have h9i : (z : Int) % 10 = 9 := by omega
          clear h9
          obtain ⟨q, hq⟩ : ∃ q, q = z % 9 := ⟨_, rfl⟩
          have hqi : (z : Int) % 9 = (q : Int) := by omega
          have hq9 : (q : Int) < 9 := by omega
          clear hq
          go_wp2_with fail
          have hW := write_ok bd l2 l2 [] fd wr 0 (Sec.all c) (H6.out.1.nil HR.out) (by rw [H5.out.2.2.2]; omega) (by rw [H5.out.2.2.2]; omega) (by simp)
          refine Calls.mono hW ?_
          rintro e w7 ⟨f7, rfl, hd7, hk7, hn7⟩
          have hpend : ([] ++ [(⟨0, Sec.all c⟩ : Wr)]) = [⟨0, Sec.all c⟩] := rfl
          have hfit : Fit 100000 l2 [⟨0, Sec.all c⟩] := ⟨H5.out.2.2.1.fit.four, H5.out.2.2.1.fit.len, by simp, H5.out.2.2.1.fit.lw, fun x hx => by
            simp only [List.mem_singleton] at hx
            subst hx
            have := H0.out.2.2.2.2
            exact ⟨fun z hz => by have := List.eq_of_mem_replicate hz; omega, by show 0 < _; rw [H5.out.2.2.2]; omega⟩⟩
          have hbest := roots_plain H5.out.2.2.1 H5.out.2.2.2  0 c H0.out.2.2.2.2 (.inl rfl)
          have hK7 : Keeps w w7 [] := (H6.out.2.1.trans (fp1 := []) HR.out (by simp)).trans hk7 (fun k h1 h2 => by have := H6.out.2.2 k h2; omega)
          have H7 := Lib.hid (show DRep w7 bd l2 (land l2 [⟨0, Sec.all c⟩]) [⟨0, Sec.all c⟩] f7 ∧ Keeps w w7 [] ∧ Fit 100000 l2 [⟨0, Sec.all c⟩] ∧ bestM (halfOf l2) (land l2 [⟨0, Sec.all c⟩]) = (1, a, 2) from ⟨hd7, hK7, hfit, hbest⟩)
          clear hd7 hk7 hn7 hpend hfit hbest hK7 hW hrow1 hrow2
          go_wp2_with fail
          refine Calls.mono (open_ok bd l2 _ w7 f7 H7.out.1 H7.out.2.2.1) ?_
          rintro e w8 ⟨gt, bt, ft, rfl, hs8, hk8, -⟩
          have hld : ∀ wx, St wx gt bt l2 [⟨0, Sec.all c⟩] ft → Calls Try.prog 20 #[.pointer (some ⟨gt, 0, none⟩)] wx (LoadLeft wx a) := fun wx hs => by
            have := load_calls gt bt l2 _ ft wx hs H7.out.2.2.1
            rwa [H7.out.2.2.2] at this
          have htn : ∀ wx, St wx gt bt l2 [⟨0, Sec.all c⟩] ft → Calls Try.prog 21 #[.pointer (some ⟨gt, 0, none⟩)] wx (fun e w' => e = .returned (.int .u64 2) ∧ Keeps wx w' []) := fun wx hs => by
            have := turn_calls gt bt l2 _ ft wx hs H7.out.2.2.1
            rwa [H7.out.2.2.2] at this
          have H8 := Lib.hid (And.intro (hs8.nil (Keeps.refl w8 []).drew) (And.intro ((H7.out.2.1.trans (fp1 := []) hk8 (by simp)).trans (fp1 := []) (Keeps.refl w8 []).drew (by simp)) (And.intro hld htn)))
          have hka := str_reads w8.drew A n cA a fA (H0.out.1.keeps H8.out.2.1 (by simp))
          clear hs8 hk8 hld htn
          go_wp2_with fail
          go_region_held_law (fun w' => True) (trivial)
            (first
              | (go_at_call 20
                 refine Calls.mono (H8.out.2.2.1 _ H8.out.1) ?_
                 rintro e w9 ⟨A9, c9, f9, rfl, hr9, -, hk9⟩
                 have kx9 := str_reads w9 A9 a.length c9 a f9 hr9
                 have hk9' := H8.out.2.1.trans (fp1 := []) hk9 (by simp)
                 have kxa9 := str_reads w9 A n cA a fA (H0.out.1.keeps hk9' (by simp))
                 have H9 := Lib.hid (And.intro (H8.out.1.nil hk9) hk9')
                 clear hr9 hk9 hk9')
              | (go_at_call 21
                 refine Calls.mono (H8.out.2.2.2 _ H9.out.1) ?_
                 rintro e w10 ⟨rfl, hk10⟩
                 have H10 := Lib.hid (H9.out.2.trans (fp1 := []) hk10 (by simp))
                 clear hk10))
          all_goals
            go_wp2_with fail
            go_ret
            exact ⟨by simp, H10.out.below (Nat.le_refl _) (by simp)⟩
        · have h9i : ((z : Int) % 10 == 9) = false := by simp; omega
          clear h9
          obtain ⟨q, hq⟩ : ∃ q, q = z % 9 := ⟨_, rfl⟩
          have hqi : (z : Int) % 9 = (q : Int) := by omega
          have hq9 : (q : Int) < 9 := by omega
          obtain ⟨p, hpe⟩ : ∃ p, p = 2 + q := ⟨_, rfl⟩
          have hpi : (2 : Int) + (q : Int) = (p : Int) := by omega
          have hp : p = 0 ∨ (2 ≤ p ∧ p ≤ 10) := by omega
          clear hq hpe
          have HP := Lib.hid hp
          clear hp
          go_wp2_with fail
          have hW := write_ok bd l2 l2 [] fd wr p (Sec.all c) (H6.out.1.nil HR.out) (by rw [H5.out.2.2.2]; have := HP.out; omega) (by rw [H5.out.2.2.2]; have := HP.out; omega) (by simp)
          refine Calls.mono hW ?_
          rintro e w7 ⟨f7, rfl, hd7, hk7, hn7⟩
          have hpend : ([] ++ [(⟨p, Sec.all c⟩ : Wr)]) = [⟨p, Sec.all c⟩] := rfl
          have hfit : Fit 100000 l2 [⟨p, Sec.all c⟩] := ⟨H5.out.2.2.1.fit.four, H5.out.2.2.1.fit.len, by simp, H5.out.2.2.1.fit.lw, fun x hx => by
            simp only [List.mem_singleton] at hx
            subst hx
            have := H0.out.2.2.2.2
            exact ⟨fun z hz => by have := List.eq_of_mem_replicate hz; omega, by show p < _; rw [H5.out.2.2.2]; have := HP.out; omega⟩⟩
          have hbest := roots_plain H5.out.2.2.1 H5.out.2.2.2 p c H0.out.2.2.2.2 HP.out
          have hK7 : Keeps w w7 [] := (H6.out.2.1.trans (fp1 := []) HR.out (by simp)).trans hk7 (fun k h1 h2 => by have := H6.out.2.2 k h2; omega)
          have H7 := Lib.hid (show DRep w7 bd l2 (land l2 [⟨p, Sec.all c⟩]) [⟨p, Sec.all c⟩] f7 ∧ Keeps w w7 [] ∧ Fit 100000 l2 [⟨p, Sec.all c⟩] ∧ bestM (halfOf l2) (land l2 [⟨p, Sec.all c⟩]) = (1, a, 2) from ⟨hd7, hK7, hfit, hbest⟩)
          clear hd7 hk7 hn7 hpend hfit hbest hK7 hW hrow1 hrow2
          go_wp2_with fail
          refine Calls.mono (open_ok bd l2 _ w7 f7 H7.out.1 H7.out.2.2.1) ?_
          rintro e w8 ⟨gt, bt, ft, rfl, hs8, hk8, -⟩
          have hld : ∀ wx, St wx gt bt l2 [⟨p, Sec.all c⟩] ft → Calls Try.prog 20 #[.pointer (some ⟨gt, 0, none⟩)] wx (LoadLeft wx a) := fun wx hs => by
            have := load_calls gt bt l2 _ ft wx hs H7.out.2.2.1
            rwa [H7.out.2.2.2] at this
          have htn : ∀ wx, St wx gt bt l2 [⟨p, Sec.all c⟩] ft → Calls Try.prog 21 #[.pointer (some ⟨gt, 0, none⟩)] wx (fun e w' => e = .returned (.int .u64 2) ∧ Keeps wx w' []) := fun wx hs => by
            have := turn_calls gt bt l2 _ ft wx hs H7.out.2.2.1
            rwa [H7.out.2.2.2] at this
          have H8 := Lib.hid (And.intro (hs8.nil (Keeps.refl w8 []).drew) (And.intro ((H7.out.2.1.trans (fp1 := []) hk8 (by simp)).trans (fp1 := []) (Keeps.refl w8 []).drew (by simp)) (And.intro hld htn)))
          have hka := str_reads w8.drew A n cA a fA (H0.out.1.keeps H8.out.2.1 (by simp))
          clear hs8 hk8 hld htn
          go_wp2_with fail
          go_region_held_law (fun w' => True) (trivial)
            (first
              | (go_at_call 20
                 refine Calls.mono (H8.out.2.2.1 _ H8.out.1) ?_
                 rintro e w9 ⟨A9, c9, f9, rfl, hr9, -, hk9⟩
                 have kx9 := str_reads w9 A9 a.length c9 a f9 hr9
                 have hk9' := H8.out.2.1.trans (fp1 := []) hk9 (by simp)
                 have kxa9 := str_reads w9 A n cA a fA (H0.out.1.keeps hk9' (by simp))
                 have H9 := Lib.hid (And.intro (H8.out.1.nil hk9) hk9')
                 clear hr9 hk9 hk9')
              | (go_at_call 21
                 refine Calls.mono (H8.out.2.2.2 _ H9.out.1) ?_
                 rintro e w10 ⟨rfl, hk10⟩
                 have H10 := Lib.hid (H9.out.2.trans (fp1 := []) hk10 (by simp))
                 clear hk10))
          all_goals
            go_wp2_with fail
            go_ret
            exact ⟨by simp, H10.out.below (Nat.le_refl _) (by simp)⟩

/-! ### the row (its frame is printed by gen.py; the walk is above) -/
theorem own : ownKnob Try.prog.godebug = none := by kernel_rfl
theorem laidOut : laidOutB Try.prog = true := by kernel_rfl
set_option maxRecDepth 100000 in
theorem lifted (os : Os) (started : os.Started) (H : Type) (enc : TypeId × Value → H) :
    ReturnsInHanded {} Try.checked os 3 .any (Rows.topRootsSpec.pre6 enc Try.prog Try.f3 Rows.topRootsRow.domain false) (Rows.topRootsSpec.post enc Try.prog Try.f3 false true false false) := by
  refine returnsInHanded_of_change (C := Try.checked) own started (by kernel_rfl) Try.func3
    (ChangeSpec.witness6 (enc := enc) (C := Try.checked) false ⟨#[], #[.slice none 0 0, .int .u8 0, .int .u8 0], []⟩ 8 (by kernel_rfl) (by kernel_rfl) (by kernel_rfl) (by kernel_rfl)) ?_
  intro W base args ds gs before hval0 hW hcnd _
  have hval : ∀ (j : Nat) t v, Try.f3.params[j]? = some t → args[j]? = some v → Value.okWide Try.prog W .any base t v := hval0
  have hW' := hW
  obtain ⟨p, q, hA0, hV, rfl, hfz, hnd⟩ := hW
  have hA : DataW.TrodAll enc Try.prog W 0 (fun _ => true) true Try.f3.params.toList args.toList ds p := hA0
  rw [Try.params3] at hA hval
  obtain ⟨v0, vs0, d0, ds0, p0, q0, hargs, rfl, rfl, h0, r0⟩ := trodAll_cons hA
  obtain ⟨v1, vs1, d1, ds1, p1, q1, rfl, rfl, rfl, h1, r1⟩ := trodAll_cons r0
  obtain ⟨v2, vs2, d2, ds2, p2, q2, rfl, rfl, rfl, h2, r2⟩ := trodAll_cons r1
  obtain ⟨rfl, rfl, rfl⟩ := trodAll_nil r2
  obtain rfl : args = #[v0, v1, v2] := by cases args; simp_all
  obtain ⟨rfl, rfl⟩ := trodVars_none hV
  have k0 := h0
  have lt0 : ∀ x ∈ p0, x.block < W.heap.size := by obtain ⟨m, hm⟩ := k0; exact DataW.trod_lt m _ _ _ hm
  obtain ⟨a0, len0, cap0, rfl⟩ := okWide_slice Try.underlying22 (hval 0 22 v0 rfl rfl)
  obtain ⟨fuel0, hf0⟩ := h0
  obtain ⟨x0, fp0, w0, wl0, wf0, wc0, wm0⟩ := open_bytes8 (enc := enc) (P := Try.prog) Try.underlying22 Try.underlying5 (by kernel_rfl) (by simpa [Value.cells] using hf0)
  have k1 := h1
  have lt1 : ∀ x ∈ p1, x.block < W.heap.size := by obtain ⟨m, hm⟩ := k1; exact DataW.trod_lt m _ _ _ hm
  obtain ⟨x1, rfl, rfl, rfl, w1⟩ := open_int Try.underlying5 (hval 1 5 v1 rfl rfl) h1
  have k2 := h2
  have lt2 : ∀ x ∈ p2, x.block < W.heap.size := by obtain ⟨m, hm⟩ := k2; exact DataW.trod_lt m _ _ _ hm
  obtain ⟨x2, rfl, rfl, rfl, w2⟩ := open_int Try.underlying5 (hval 2 5 v2 rfl rfl) h2
  clear hA0 hval0
  refine (walk a0 len0 cap0 x0 fp0 x1 x2 W w0 wl0 wf0 wc0 wm0 w1 w2).mono fun e W' ⟨he, bel⟩ => ?_
  subst he
  exact ⟨_, rfl, _, _, _, [], _, [], hW', trodAll_mk1 (shut_bool Try.underlying4 _), (trodAll_cons_mk (Below.trod laidOut (by kernel_rfl) (of_decide_eq_true (by kernel_rfl)) k0 bel lt0) (trodAll_cons_mk (Below.trod laidOut (by kernel_rfl) (of_decide_eq_true (by kernel_rfl)) k1 bel lt1) (trodAll_cons_mk (Below.trod laidOut (by kernel_rfl) (of_decide_eq_true (by kernel_rfl)) k2 bel lt2) trodAll_mk0))), rfl, bel.frame _, fun h => by cases h⟩

theorem over : Rows.topRootsRow.holds Try.pinned (OpenSpec.ofChange Rows.topRootsSpec) :=
  OpenClaim.holds_of_wide 3 Try.f3 rfl rfl rfl rfl rfl rfl rfl ⟨rfl, rfl, rfl, rfl, rfl⟩ rfl rfl rfl rfl rfl (by kernel_rfl) Try.func3 (by kernel_rfl)
    (of_decide_eq_true (by kernel_rfl)) (by unfold Func.isWrapper; first | (rw [if_pos (by decide +kernel)]; kernel_rfl) | (rw [if_neg (by decide +kernel)]; exact ⟨rfl, rfl⟩))
    (fun os started H enc _ => lifted os started H enc)

theorem proved : Rows.TopRootsSaid := over
#print axioms proved
end Go.Proofs.Ytecjhaohabjkbaa.vTopRoots
