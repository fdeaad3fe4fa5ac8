/-
  CONTRACTS: slots.root, heliographref08.root.
-/
import Derived.Test.YtecjhaohabjkbaaP2
import Derived.Test.YtecjhaohabjkbaaCalm
import Derived.Test.YtecjhaohabjkbaaMore
import Derived.Deep.QuietTactic
import Derived.StillTailTactics
import Derived.Laws.CopyOwn
import Derived.Lib.SmallJoins
namespace Go.Proofs.Ytecjhaohabjkbaa
open Go.RowKit
set_option linter.unusedVariables false

theorem own_lit {w : World} {g : Nat} {l : List Int} (h : Blk w g 5 (bytes l).toArray) (h0 : 0 < l.length) (h1 : l.length ≤ 1000000) : Own w 5 1 (.slice (some ⟨g, 0, none⟩) l.length l.length) l.length (bytes l) [g] :=
  ⟨by simp [bytes], .inr ⟨g, l.length, (bytes l).toArray, rfl, h0, rfl, h, Nat.le_refl _, by unfold maxLen; omega, by simp [bytes], by rw [List.take_of_length_le (by simp [bytes])]⟩⟩

theorem sec_of_cells (l : List Int) (n : Nat) (hl : l.length = n) (h : n ≤ 64) : (Sec.of l).cells = List.take 64 (bytes l) ++ List.drop (min n 64) Sec.zero.cells.toArray.toList := by
  subst hl
  have ez := Sec.zero_cells
  rw [ez]
  unfold Sec.cells
  rw [Sec.of_bs _ h, List.map_append, List.take_of_length_le (by rw [bytes_length]; exact h), Nat.min_eq_left h]
  simp only [bytes, List.map_replicate, List.drop_replicate]

set_option maxHeartbeats 800000 in set_option maxRecDepth 100000 in
set_option maxRecDepth 100000 in
theorem root_calls (A : Option Addr) (n c : Nat) (bs : List Int) (fp : List Nat) (turn : Nat) (w : World) (hr : Reads w 1 A n (bytes bs) fp) (hwf : Wf8 bs) (hn : n ≤ 1000000) (ht : turn < 18446744073709551616) :
    Calls Try.prog 68 #[.slice A n c, .int .u64 turn] w fun e w' => e = .returned (.agg (rootM bs turn).cells.toArray) ∧ Keeps w w' [] := by
  have hlen : bs.length = n := by have := hr.1; rw [bytes_length, Nat.mul_one] at this; exact this
  have S0 := (((Star.nil w).add (Rep.blk w.heap.size 31 Sec.zero.cells.toArray) (fp := [w.heap.size]) ⟨Blk.new w _ _, rfl⟩ ((Keeps.refl w []).alloc _) (by simp)))
  have S1 := S0.add (Rep.own 5 1 (.slice (some ⟨w.heap.size + 1, 0, none⟩) 2 2) 2 (bytes [72, 71])) (own_lit (l := [72, 71]) (Blk.new' _ (by simp) _ _) (by simp) (by simp)) ((Keeps.refl _ []).alloc (.cells #[.int .u8 72, .int .u8 71] 5)) (by simp)
  obtain ⟨g, hg⟩ : ∃ g, g = w.heap.size := ⟨_, rfl⟩
  have hgl : g ≤ w.heap.size := by omega
  have HS := Lib.hid (And.intro S1 hlen)
  clear S0 S1 hlen
  have HR := Lib.hid (And.intro hr (And.intro hwf (And.intro ht hn)))
  clear hr hwf ht
  have HG := Lib.hid hg
  clear hg
  have hsum : ∀ (w' : World), Keeps w w' [] → Calls Try.prog 24 #[.slice A n c] w' fun e w'' => e = .returned (.int .u32 (sumN bs : Nat)) ∧ w' = w'' := fun w' hk => sum_calls A n c bs fp w' (HR.out.1.keeps hk (by simp)) HR.out.2.1 hn
  have hsl := sumN_lt HR.out.2.1
  have HQ := Lib.hid hsum
  clear hsum
  go_enter Try.func68, Try.ntmps68
  go_wp2_with fail
  obtain ⟨fp1, ho1, -, back1⟩ := HS.out.1.step 0 rfl
  refine (number_calls _ 2 [72, 71] fp1 turn 8 _ ho1 HR.out.2.2.1 (by omega) (by omega)).mono ?_
  rintro e w3 ⟨v3, f3, rfl, ho3, hk3, hn3⟩
  have S3 := Lib.hid (back1 w3 (Rep.own 5 1 v3 10 (bytes ([72, 71] ++ numB turn 8))) f3 ho3 hk3 hn3)
  clear ho3 hk3 hn3 back1 ho1
  go_wp2_with fail
  obtain ⟨fp1, ho1, -, back1⟩ := S3.out.step 0 rfl
  refine (number_calls _ 10 _ fp1 n 4 _ ho1 (by omega) (by omega) (by omega)).mono ?_
  rintro e w4 ⟨v4, f4, rfl, ho4, hk4, hn4⟩
  have S4 := Lib.hid (back1 w4 (Rep.own 5 1 v4 14 (bytes ([72, 71] ++ numB turn 8 ++ numB n 4))) f4 ho4 hk4 hn4)
  clear ho4 hk4 hn4 back1 ho1 S3
  go_wp2_with fail
  refine (HQ.out w4 S4.out.old).mono ?_
  rintro e w5 ⟨rfl, rfl⟩
  go_wp2_with fail
  obtain ⟨fp1, ho1, -, back1⟩ := S4.out.step 0 rfl
  refine (number_calls _ 14 _ fp1 (sumN bs) 4 _ ho1 (by omega) (by omega) (by omega)).mono ?_
  rintro e w5 ⟨v5, f5, rfl, ho5, hk5, hn5⟩
  have S5 := Lib.hid (back1 w5 (Rep.own 5 1 v5 18 (bytes (rootH bs turn))) f5 (by rw [rootH, HS.out.2]; exact ho5) hk5 hn5)
  clear ho5 hk5 hn5 back1 ho1 S4
  obtain ⟨fp1, ho1, -, -⟩ := S5.out.step 0 rfl
  obtain ⟨A5, c5, rfl, -, fr5, hr5, -⟩ := Own.form ho1
  have hsum : Calls Try.prog 24 #[.slice A5 18 c5] w5.drew fun e w'' => e = .returned (.int .u32 (sumN (rootH bs turn) : Nat)) ∧ w5.drew = w'' :=
    sum_calls A5 18 c5 _ fr5 w5.drew hr5.drew (rootH_wf _ _) (by omega)
  have hsl2 := sumN_lt (rootH_wf bs turn)
  have HQ2 := Lib.hid hsum
  clear hsum ho1 hr5
  obtain ⟨fp6, ho6, -, back6⟩ := (S5.out.quiet ((Keeps.refl w5 []).drew)).step 0 rfl
  have HN := Lib.hid (number_calls (.slice A5 18 c5) 18 _ fp6 (sumN (rootH bs turn)) 4 w5.drew ho6 (by omega) (by omega) (by omega))
  have HB := Lib.hid back6
  clear ho6 back6
  have hs1 : (Try.prog.info? 5).map (·.size) = some 1 := by kernel_rfl
  have hw1 : IntKind.u64.wrap (sumN (rootH bs turn) : Nat) = (sumN (rootH bs turn) : Nat) := by rw [IntKind.wrap_u64]; omega
  go_wp2_with fail
  rw [← HG.out]
  go_region_law ((first
      | (refine step_call _ rfl 24 #[.slice A5 18 c5] ?_ HQ2.out ?_
         · (go_simp; done)
         rintro e w6 ⟨rfl, rfl⟩
         refine ⟨_, rfl, ?_⟩)
      | (refine step_call _ rfl 80 #[.slice A5 18 c5, .int .u64 (sumN (rootH bs turn) : Nat), .int .i64 4] ?_ HN.out ?_
         · (go_simp; done)
         rintro e w6 ⟨v6, f6, rfl, ho6, hk6, hn6⟩
         have S6 := HB.out w6 (Rep.own 5 1 v6 22 (bytes (rootL bs turn))) f6 ho6 hk6 hn6
         obtain ⟨A6, c6, rfl, -, fr6, hr6, -⟩ := Own.form ho6
         have H6 := Lib.hid (And.intro S6 hr6)
         clear S6 hr6 ho6 hk6 hn6
         refine ⟨_, rfl, ?_⟩)
      | (obtain ⟨fpo, ⟨hbo, rfl⟩, hlo, -⟩ := H6.out.1.step 1 rfl
         rw [← HG.out] at hbo
         refine step_copy_mine _ rfl (.tmp 18) (.tmp 23) _ _ rfl 5 Try.underlying22 hs1 g 64 64 31 _ rfl hbo (by simp [Sec.cells_length]) A6 22 c6 rfl (bytes (rootL bs turn)) fr6 H6.out.2 (bytes_one _) ?_
         intro w7 hb7 hk7)))
  all_goals
    obtain ⟨s, hs⟩ : ∃ s, s = rootM bs turn := ⟨_, rfl⟩
    have hb8 : Blk w7 g 31 s.cells.toArray := by
      rw [hs, rootM, sec_of_cells _ 22 (rootL_length _ _) (by omega)]
      exact hb7
    have hk8 : Keeps w w7 [] := by
      have h1 := H6.out.1.old
      exact h1.trans hk7 (fun i hi hm => by simp at hm; have := HG.out; omega)
    have HSS := Lib.hid hs
    clear hs
    have hrow := row_of_range (by simpa using hb8.whole) s.cells_length
    obtain ⟨hrow1, hrow2⟩ := hrow
    have hmay : MayRow w7 (.pointer (some ⟨g, 0, none⟩)) 64 := may_of_there (hb8.there_ 0 64 (by simp [Sec.cells_length]))
    go_wp2_with fail
    refine ret1_sec rfl g s rfl ?_ rfl ⟨by rw [HSS.out], hk8.setCells (.inr (by have := HG.out; omega)) _ _⟩
    exact World.rangeAt_setCells_same _ _ _ _ (by rw [s.cells_length]; exact hmay.2)

theorem reads_mark (w : World) (e : TypeId) (l : List Int) (fr : Nat × Nat) : Reads (w.alloc (.cells (bytes l).toArray e fr)) 1 (some ⟨w.heap.size, 0, none⟩) l.length (bytes l) [w.heap.size] :=
  ⟨by simp [bytes], .inr ⟨_, rfl, rfl, by simp, fun j u hu => by rw [Addr.add_lit, World.cell?_alloc_mark]; simpa using hu⟩⟩
theorem fill_next (l : List Int) (k : Nat) (z : Int) (h : l[k]? = some z) (hk : k < 64) : (bytes (l.take k) ++ List.replicate (64 - k) (Value.int .u8 0)).toArray.setIfInBounds k (.int .u8 z) = (bytes (l.take (k + 1)) ++ List.replicate (64 - (k + 1)) (Value.int .u8 0)).toArray := by
  obtain ⟨hl, hz⟩ := List.getElem?_eq_some_iff.1 h
  have e : (bytes (l.take k)).length = k := by rw [bytes_length, List.length_take]; omega
  apply Array.toList_inj.1
  rw [Array.toList_setIfInBounds, List.take_succ_eq_append_getElem hl, hz, bytes_append]
  simp only [List.append_assoc]
  rw [List.set_append_right _ _ (by omega), e, Nat.sub_self, show 64 - k = (64 - (k + 1)) + 1 by omega, List.replicate_succ]
  rfl

/-- the first k bytes of l, the rest empty. -/
def fillTo (l : List Int) (k : Nat) : Array Value := (bytes (l.take k) ++ List.replicate (64 - k) (Value.int .u8 0)).toArray
theorem fillTo_zero (l : List Int) : fillTo l 0 = Sec.zero.cells.toArray := by
  unfold fillTo
  rw [Sec.zero_cells]
  rfl
theorem fillTo_next (l : List Int) (k : Nat) (z : Int) (h : l[k]? = some z) (hk : k < 64) : (fillTo l k).setIfInBounds k (.int .u8 z) = fillTo l (k + 1) := fill_next l k z h hk
theorem fillTo_at (l : List Int) (k : Nat) (h : k < l.length) (hk : k < 64) : (fillTo l k)[k]? = some (.int .u8 0) := by
  have e : (bytes (l.take k)).length = k := by rw [bytes_length, List.length_take]; omega
  unfold fillTo
  rw [List.getElem?_toArray, List.getElem?_append_right (by omega), e, Nat.sub_self, List.getElem?_replicate]
  rw [if_pos (by omega)]
theorem fillTo_size (l : List Int) (k : Nat) (h : k ≤ l.length) (hk : k ≤ 64) : (fillTo l k).size = 64 := by
  simp [fillTo, bytes_length]; omega
theorem fillTo_end (l : List Int) (k : Nat) (h : l.length = k) (hk : k ≤ 64) : fillTo l k = (Sec.of l).cells.toArray := by
  unfold fillTo Sec.cells
  rw [Sec.of_bs _ (by omega), List.map_append, List.take_of_length_le (by omega), h]
  simp [bytes]

set_option maxHeartbeats 1600000 in set_option maxRecDepth 100000 in
set_option maxRecDepth 100000 in
theorem rroot_calls (A : Option Addr) (n c : Nat) (bs : List Int) (fp : List Nat) (turn : Nat) (w : World) (hr : Reads w 1 A n (bytes bs) fp) (hwf : Wf8 bs) (hn : n ≤ 1000000) (ht : turn < 18446744073709551616) :
    Calls Try.prog 75 #[.slice A n c, .int .u64 turn] w fun e w' => e = .returned (.agg (rootM bs turn).cells.toArray) ∧ Keeps w w' [] := by
  obtain ⟨i0, hi, hz0, hz1, hz2⟩ := info_parts u8Info
  have hlen : bs.length = n := by have := hr.1; rw [bytes_length, Nat.mul_one] at this; exact this
  have kc := fun (w : World) (C : Array Value) (n c g : Nat) (hg : g = w.heap.size) => Joins.run_convert_bytes_const_at (P := Try.prog) w 22 5 C n c g hg Try.underlying22 Try.underlying5
  have kc1 := kc (w.alloc (.cells Sec.zero.cells.toArray 62)) #[.int .u8 72, .int .u8 71] 2 2 (w.heap.size + 1) (by simp)
  have S0 := (((Star.nil w).add (Rep.blk w.heap.size 62 Sec.zero.cells.toArray) (fp := [w.heap.size]) ⟨Blk.new w _ _, rfl⟩ ((Keeps.refl w []).alloc _) (by simp)))
  have S1 := S0.quiet ((Keeps.refl _ []).alloc (.cells #[.int .u8 72, .int .u8 71] 5 (2, 3)))
  have hrl : Reads ((w.alloc (.cells Sec.zero.cells.toArray 62)).alloc (.cells (bytes [72, 71]).toArray 5 (2, 3))) 1 (some ⟨w.heap.size + 1, 0, none⟩) 2 (bytes [72, 71]) [w.heap.size + 1] := by
    have h0 := reads_mark (w.alloc (.cells Sec.zero.cells.toArray 62)) 5 [72, 71] (2, 3)
    rw [World.size_alloc] at h0
    exact h0
  have HL := Lib.hid hrl
  have HS := Lib.hid (And.intro S1 hlen)
  have HR := Lib.hid (And.intro hr (And.intro hwf (And.intro ht hn)))
  clear S0 S1 hlen hr hwf ht kc hrl
  have hsum : ∀ (w' : World), Keeps w w' [] → Calls Try.prog 25 #[.slice A n c] w' fun e w'' => e = .returned (.int .u32 (sumN bs : Nat)) ∧ w' = w'' := fun w' hk => rsum_calls A n c bs fp w' (HR.out.1.keeps hk (by simp)) HR.out.2.1 hn
  have hsl := sumN_lt HR.out.2.1
  have HQ := Lib.hid hsum
  clear hsum
  go_enter Try.func75, Try.ntmps75
  go_wp2_with fail
  refine (rput_calls turn 8 _ HR.out.2.2.1 (by omega)).mono ?_
  rintro e w3 ⟨v3, f3, rfl, ho3, hk3, hn3⟩
  have S3 := HS.out.1.quiet hk3
  have hl3 := HL.out.keeps (hk3.mono (fp1 := []) (by simp)) (by simp)
  obtain ⟨A3, c3, rfl, -, fr3, hr3, -⟩ := Own.form ho3
  have H3 := Lib.hid (And.intro S3 (And.intro hr3 hl3))
  clear ho3 hk3 hn3 S3 hr3 hl3
  go_wp2_with (at_builtin; refine wpList_append_full _ rfl (.tmp 9) (.tmp 11) _ _ rfl 5 i0 _ 1 1 Try.underlying22 hi hz0 hz1 hz2 rfl _ 2 (bytes [72, 71]) _ rfl H3.out.2.2 _ 8 (bytes (numB turn 8)) rfl (H3.out.2.1.src Try.underlying22 (bytes_one _) _) (by omega) (by unfold maxLen; omega) (by omega) ?_)
  intro v4 w4 f4 ho4 hk4 hn4
  have S4 := Lib.hid (H3.out.1.add (Rep.own 5 1 v4 10 (bytes ([72, 71] ++ numB turn 8))) (by rw [bytes_append]; exact ho4) hk4 hn4)
  clear ho4 hk4 hn4
  go_wp2_with fail
  refine (rput_calls n 4 _ (by omega) (by omega)).mono ?_
  rintro e w5 ⟨v5, f5, rfl, ho5, hk5, hn5⟩
  obtain ⟨A5, c5, rfl, -, fr5, hr5, -⟩ := Own.form ho5
  obtain ⟨fp1, ho1, -, back1⟩ := (S4.out.quiet hk5).step 0 rfl
  have H5 := Lib.hid (And.intro hr5 (And.intro ho1 back1))
  clear ho5 hk5 hn5 hr5 ho1 back1
  go_wp2_with (at_builtin; refine wpList_append_mine _ rfl (.tmp 13) (.tmp 17) _ _ rfl 5 i0 _ 1 1 Try.underlying22 hi hz0 hz1 hz2 rfl _ 10 (bytes ([72, 71] ++ numB turn 8)) _ rfl H5.out.2.1 _ 4 (bytes (numB n 4)) rfl (H5.out.1.src Try.underlying22 (bytes_one _) _) (by unfold maxLen; omega) (by omega) ?_)
  intro v6 w6 f6 ho6 hk6 hn6
  have S6 := Lib.hid (H5.out.2.2 w6 (Rep.own 5 1 v6 14 (bytes ([72, 71] ++ numB turn 8 ++ numB n 4))) f6 (by rw [bytes_append _ (numB n 4)]; exact ho6) hk6 hn6)
  clear ho6 hk6 hn6 H5
  go_wp2_with fail
  refine (HQ.out w6 S6.out.old).mono ?_
  rintro e w7 ⟨rfl, rfl⟩
  go_wp2_with fail
  refine (rput_calls (sumN bs) 4 _ (by omega) (by omega)).mono ?_
  rintro e w7 ⟨v7, f7, rfl, ho7, hk7, hn7⟩
  obtain ⟨A7, c7, rfl, -, fr7, hr7, -⟩ := Own.form ho7
  obtain ⟨fp1, ho1, -, back1⟩ := (S6.out.quiet hk7).step 0 rfl
  have H7 := Lib.hid (And.intro hr7 (And.intro ho1 back1))
  clear ho7 hk7 hn7 hr7 ho1 back1
  go_wp2_with (at_builtin; refine wpList_append_mine _ rfl (.tmp 18) (.tmp 22) _ _ rfl 5 i0 _ 1 1 Try.underlying22 hi hz0 hz1 hz2 rfl _ 14 (bytes ([72, 71] ++ numB turn 8 ++ numB n 4)) _ rfl H7.out.2.1 _ 4 (bytes (numB (sumN bs) 4)) rfl (H7.out.1.src Try.underlying22 (bytes_one _) _) (by unfold maxLen; omega) (by omega) ?_)
  intro v8 w8 f8 ho8 hk8 hn8
  have hod : bytes (rootH bs turn) = bytes ([72, 71] ++ numB turn 8 ++ numB n 4) ++ bytes (numB (sumN bs) 4) := by rw [rootH, bytes_append _ (numB (sumN bs) 4), HS.out.2]
  have ho8 : Own w8 5 1 v8 18 (bytes (rootH bs turn)) f8 := by rw [hod]; exact ho8
  clear hod
  have S8 := H7.out.2.2 w8 (Rep.own 5 1 v8 18 (bytes (rootH bs turn))) f8 ho8 hk8 hn8
  obtain ⟨A8, c8, rfl, -, fr8, hr8, -⟩ := Own.form ho8
  have H8 := Lib.hid (And.intro S8 hr8)
  clear ho8 hk8 hn8 H7 S8 hr8
  have hc2 := rsum_calls A8 18 c8 (rootH bs turn) fr8 w8 H8.out.2 (rootH_wf _ _) (by omega)
  rw [sumM_nat] at hc2
  obtain ⟨S, hS⟩ : ∃ S, S = sumN (rootH bs turn) := ⟨_, rfl⟩
  have hSl : S < 4294967296 := hS ▸ sumN_lt (rootH_wf bs turn)
  rw [← hS] at hc2
  have HC := Lib.hid (And.intro hS hc2)
  clear hc2 hS
  go_wp2_with fail
  refine HC.out.2.mono ?_
  rintro e w9 ⟨rfl, rfl⟩
  go_wp2_with fail
  refine (rput_calls S 4 _ (by omega) (by omega)).mono ?_
  rintro e w9 ⟨v9, f9, rfl, ho9, hk9, hn9⟩
  obtain ⟨A9, c9, rfl, -, fr9, hr9, -⟩ := Own.form ho9
  obtain ⟨fp1, ho1, -, back1⟩ := (H8.out.1.quiet hk9).step 0 rfl
  have H9 := Lib.hid (And.intro hr9 (And.intro ho1 back1))
  clear ho9 hk9 hn9 hr9 ho1 back1
  go_wp2_with (at_builtin; refine wpList_append_mine _ rfl (.tmp 24) (.tmp 28) _ _ rfl 5 i0 _ 1 1 Try.underlying22 hi hz0 hz1 hz2 rfl _ 18 (bytes (rootH bs turn)) _ rfl H9.out.2.1 _ 4 (bytes (numB S 4)) rfl (H9.out.1.src Try.underlying22 (bytes_one _) _) (by unfold maxLen; omega) (by omega) ?_)
  intro v10 w10 f10 ho10 hk10 hn10
  have ho10 : Own w10 5 1 v10 22 (bytes (rootL bs turn)) f10 := by rw [rootL, bytes_append, ← HC.out.1]; exact ho10
  have S10 := H9.out.2.2 w10 (Rep.own 5 1 v10 22 (bytes (rootL bs turn))) f10 ho10 hk10 hn10
  obtain ⟨A10, c10, rfl, -⟩ := Own.form ho10
  have S11 := S10.add (Rep.blk w10.heap.size 62 Sec.zero.cells.toArray) (fp := [w10.heap.size]) ⟨Blk.new w10 _ _, rfl⟩ ((Keeps.refl w10 []).alloc _) (by simp)
  have hw10 := S10.old.size
  have H10 := Lib.hid S11
  clear ho10 hk10 hn10 H9 S10 S11
  obtain ⟨gx, hgx⟩ : ∃ g, g = w10.heap.size := ⟨_, rfl⟩
  have hgw : w.heap.size ≤ gx := by rw [hgx]; exact hw10
  have S12 := H10.out
  rw [← hgx, ← fillTo_zero (rootL bs turn)] at S12
  have H12 := Lib.hid S12
  clear S12 H10
  go_wp2_with fail
  rw [← hgx]
  clear hgx hw10
  go_loopg [7] 22 (fun g s7 wx => ∃ k : Nat, g + k = 22 ∧ s7 = .int .i64 k ∧ Star w wx [Rep.blk gx 62 (fillTo (rootL bs turn) k), Rep.own 5 1 (.slice A10 22 c10) 22 (bytes (rootL bs turn)), Rep.blk w.heap.size 62 Sec.zero.cells.toArray])
  case atStart => exact ⟨0, by omega, rfl, H12.out⟩
  case round =>
    obtain ⟨k, hgk, rfl, hS⟩ := hrel
    have HK := Lib.hid (And.intro hgk hS)
    clear hgk hS
    by_cases hk : k < 22
    · obtain ⟨fpo, ho, -, -⟩ := HK.out.2.step 1 rfl
      obtain ⟨A', c', he, -, fr, hrd, -⟩ := Own.form ho
      simp only [Value.slice.injEq, true_and] at he
      obtain ⟨rfl, rfl⟩ := he
      obtain ⟨b1, o1, u1, rfl, -, -, hx1, hc1⟩ := hrd.cellAt hk
      obtain ⟨z, hz, rfl⟩ : ∃ z, (rootL bs turn)[k]? = some z ∧ Value.int .u8 z = u1 := by simpa [bytes] using hx1
      obtain ⟨fpb, ⟨hb, rfl⟩, -, back⟩ := HK.out.2.step 0 rfl
      have hcb : wr.cell? ⟨gx, k, none⟩ = some (.int .u8 0) := by rw [hb.cell]; exact fillTo_at _ _ (by rw [rootL_length]; exact hk) (by omega)
      have hfb := hb.frozen k
      have hk64 : (k : Int) < 64 := by omega
      have HB := Lib.hid (And.intro hz (And.intro hb back))
      clear hz hb back hx1 hrd ho
      go_wp2_with fail
      go_roundg (22 - (k + 1))
      case measure => have := HK.out.1; omega
      case rel =>
        refine ⟨k + 1, by have := HK.out.1; omega, by go_num, HB.out.2.2 _ (Rep.blk gx 62 (fillTo (rootL bs turn) (k + 1))) [gx] ⟨?_, rfl⟩ ((Keeps.refl wr [gx]).setCell (.inl (by simp)) _) (fun k hk => .inl hk)⟩
        rw [← fillTo_next _ k z HB.out.1 (by omega)]
        exact HB.out.2.1.set_ k _
    · obtain rfl : k = 22 := by have := HK.out.1; omega
      obtain ⟨fpb, ⟨hb, rfl⟩, -, -⟩ := HK.out.2.step 0 rfl
      obtain ⟨fpb, ⟨hb0, rfl⟩, -, -⟩ := HK.out.2.step 2 rfl
      rw [fillTo_end _ 22 (rootL_length _ _) (by omega)] at hb
      obtain ⟨s, hs⟩ : ∃ s, s = rootM bs turn := ⟨_, rfl⟩
      have hb8 : Blk wr gx 62 s.cells.toArray := by rw [hs]; exact hb
      have HSS := Lib.hid (And.intro hs HK.out.2.old)
      clear hs hb
      obtain ⟨hrow1, hrow2⟩ := row_of_range (by simpa using hb8.whole) s.cells_length
      have hmay : MayRow wr (.pointer (some ⟨w.heap.size, 0, none⟩)) 64 := may_of_there (hb0.there_ 0 64 (by simp [Sec.cells_length]))
      clear hb8 hb0
      go_wp2_with fail
      refine ret1_rsec rfl w.heap.size s rfl ?_ rfl ⟨by rw [HSS.out.1], HSS.out.2.setCells (.inr (Nat.le_refl _)) _ _⟩
      exact World.rangeAt_setCells_same _ _ _ _ (by rw [s.cells_length]; exact hmay.2)

end Go.Proofs.Ytecjhaohabjkbaa
