/-
  CONTRACTS: slots.sectors.Read, slots.disk.hold.
-/
import Derived.Test.YtecjhaohabjkbaaP3
import Derived.Test.YtecjhaohabjkbaaD14
namespace Go.Proofs.Ytecjhaohabjkbaa
open Go.RowKit
set_option linter.unusedVariables false

section
variable (b : Nat) (last now : List Sec) (loose : List Wr) (fp : List Nat) (w : World)
set_option maxHeartbeats 400000 in set_option maxRecDepth 100000 in
theorem sread_calls (i : Nat) (s : Sec) (hd : DRep w b last now loose fp) (hi : now[i]? = some s) (hn : now.length ≤ 4096) :
    Calls Try.prog 81 #[.agg #[.pointer (some ⟨b, 0, none⟩)], .int .i64 i] w fun e w' => e = .returned (.tuple #[.agg s.cells.toArray, .int .i64 0]) ∧ Keeps w w' [] := by
  have H := Lib.hid (And.intro hd (And.intro hi hn))
  clear hd hi hn
  go_enter Try.func81, Try.ntmps81
  have hb0 : Blk ((w.alloc (.cells #[.pointer (some ⟨b, 0, none⟩)] 83)).alloc (.cells Sec.zero.cells.toArray 31)) (w.heap.size + 1) 31 Sec.zero.cells.toArray := Blk.new' _ (by simp) _ _
  have HB := Lib.hid hb0
  clear hb0
  go_wp2_with fail
  refine (read_ok b last now loose fp _ i s (H.out.1.nil (((Keeps.refl w []).alloc _).alloc _)) H.out.2.1 H.out.2.2).mono ?_
  rintro e w3 ⟨rfl, hk3⟩
  have hmay : MayRow w3 (.pointer (some ⟨w.heap.size + 1, 0, none⟩)) 64 := may_of_there ((HB.out.keeps hk3 (by simp)).there_ 0 64 (by simp [Sec.cells_length]))
  have HK := Lib.hid ((((Keeps.refl w []).alloc _).alloc _).trans hk3 (by simp))
  clear hk3
  go_wp2_with fail
  refine ret_sec rfl (w.heap.size + 1) s rfl ?_ rfl ⟨rfl, HK.out.setCells (.inr (by omega)) _ _⟩
  exact World.rangeAt_setCells_same _ _ _ _ (by rw [s.cells_length]; exact hmay.2)
end

/-- what hold leaves. -/
def HoldLeft (w : World) (half : Nat) (now : List Sec) (k : Nat) (e : Ending) (w' : World) : Prop :=
  ∃ (a : Nat) (A : Option Addr) (c : Nat) (fr : List Nat), e = .returned (.agg #[.int .i64 a, .slice A (holdM half now k).1.length c, .int .u64 (holdM half now k).2]) ∧ Reads w' 1 A (holdM half now k).1.length (bytes (holdM half now k).1) fr ∧
    (∀ j ∈ fr, w.heap.size ≤ j) ∧ Keeps w w' [] ∧ (0 < (holdM half now k).2 → a = k) ∧ (holdM half now k).1.length ≤ c

theorem size_slot : (Try.prog.info? 98).map (·.size) = some 3 := by kernel_rfl
theorem ret_slot {fn : Func} {R : Ending → World → Prop} {a : Act} {w : World} {p : Tmp} (hr : fn.results = #[.cell p 98]) (g : Nat) (x y z : Value) (hp : a.tmps.getD p undef = .pointer (some ⟨g, 0, none⟩)) (hs : w.rangeAt g 0 [x, y, z]) (hd : a.defers = [])
    (h : R (.returned (.agg #[x, y, z])) w) : bodyPost Try.prog fn R .ret a w := by
  refine bodyPost_ret (v := .agg #[x, y, z]) ?_ hd h
  have h1 := run_loadVar_mid (P := Try.prog) w g 0 98 [x, y, z] _ hs Try.underlying98 rfl (by rw [size_slot]; rfl)
  have hp' : a.tmps[p]?.getD undef = .pointer (some ⟨g, 0, none⟩) := by simpa using hp
  simp [results, hr, hp', asAddr, h1]
theorem set3 {w : World} {g : Nat} {t : TypeId} {x0 y0 z0 : Value} (h : Blk w g t #[x0, y0, z0]) (x y z : Value) : Blk (((w.setCell ⟨g, 0, none⟩ x).setCell ⟨g, 1, none⟩ y).setCell ⟨g, 2, none⟩ z) g t #[x, y, z] := ((h.set_ 0 x).set_ 1 y).set_ 2 z
theorem keep3 {w w1 : World} {g : Nat} (h : Keeps w w1 []) (hg : w.heap.size ≤ g) (x y z : Value) : Keeps w (((w1.setCell ⟨g, 0, none⟩ x).setCell ⟨g, 1, none⟩ y).setCell ⟨g, 2, none⟩ z) [] := ((h.setCell (.inr hg) x).setCell (.inr hg) y).setCell (.inr hg) z
theorem Blk.sub {w : World} {g : Nat} {t : TypeId} {s : Sec} (h : Blk w g t s.cells.toArray) (o n : Nat) (ho : o + n ≤ 64) : Reads w 1 (some ⟨g, o, none⟩) n (bytes ((s.bs.drop o).take n)) [g] := by
  have h64 := s.len
  refine ⟨by rw [bytes_length, List.length_take, List.length_drop]; omega, .inr ⟨_, rfl, rfl, h.lt, fun j u hu => ?_⟩⟩
  rw [Addr.add_lit, h.cell]
  simp only [bytes, List.getElem?_map] at hu
  simp only [Sec.cells, List.getElem?_toArray, List.getElem?_map]
  rw [List.getElem?_take] at hu
  split at hu
  · rw [List.getElem?_drop] at hu; exact hu
  · cases hu
theorem num_still (g o n : Nat) (t : TypeId) (s : Sec) (c : Nat) (w : World) (hb : Blk w g t s.cells.toArray) (hw : s.wf) (ho : o + n ≤ 64) :
    Calls Try.prog 82 #[.slice (some ⟨g, o, none⟩) n c] w fun e w' => e = .returned (.int .u64 (rdB ((s.bs.drop o).take n))) ∧ w' = w :=
  (num_calls _ n c _ [g] w (hb.sub o n ho) ((Wf8.drop hw o).take n) (by omega)).mono fun _ _ ⟨h1, h2⟩ => ⟨h1, h2.symm⟩

section
variable (b : Nat) (last now : List Sec) (loose : List Wr) (fp : List Nat) (w : World)
set_option maxHeartbeats 1600000 in set_option maxRecDepth 100000 in
set_option maxRecDepth 100000 in
theorem hold_calls (half k : Nat) (hd : DRep w b last now loose fp) (hn : now.length ≤ 4096) (hwf : ∀ s ∈ now, s.wf) (h2 : 2 + 2 * half ≤ now.length) (hk : k < 2) :
    Calls Try.prog 69 #[.agg #[.pointer (some ⟨b, 0, none⟩), .int .i64 half], .int .i64 k] w (HoldLeft w half now k) := by
  obtain ⟨r, hr⟩ : ∃ r, now[k]? = some r := ⟨_, List.getElem?_eq_getElem (by omega)⟩
  have hrw : r.wf := hwf r (List.mem_of_getElem? hr)
  have H := Lib.hid (And.intro hd (And.intro hr (And.intro hn (And.intro hwf (And.intro h2 hrw)))))
  have hh : half ≤ 2047 := by omega
  clear hd hr hn hwf h2 hrw
  have S0 := ((Star.nil w).add (Rep.blk w.heap.size 85 #[.pointer (some ⟨b, 0, none⟩), .int .i64 half]) (fp := [w.heap.size]) ⟨Blk.new w _ _, rfl⟩ ((Keeps.refl w []).alloc _) (by simp))
  have S1 := S0.add (Rep.blk (w.heap.size + 1) 98 #[.int .i64 0, .slice none 0 0, .int .u64 0]) (fp := [w.heap.size + 1]) ⟨Blk.new' _ (by simp) _ _, rfl⟩ ((Keeps.refl _ []).alloc (.cells #[.int .i64 0, .slice none 0 0, .int .u64 0] 98)) (by simp)
  have HS1 := Lib.hid S1
  clear S0 S1
  go_enter Try.func69, Try.ntmps69
  go_wp2_with fail
  refine (sread_calls b last now loose fp _ k r (H.out.1.nil HS1.out.old) H.out.2.1 H.out.2.2.1).mono ?_
  rintro e w3 ⟨rfl, hk3⟩
  have S3 := HS1.out.quiet hk3
  have S4 := S3.add (Rep.blk w3.heap.size 31 r.cells.toArray) (fp := [w3.heap.size]) ⟨blk_stored w3 _ r, rfl⟩ (keeps_stored (Keeps.refl w3 []) _ Sec.zero.cells r.cells (Nat.le_refl _)) (by simp)
  have hm3 := may_new w3 31
  have HS4 := Lib.hid S4
  clear S3 S4 hk3 HS1
  go_wp2_with fail
  obtain ⟨g5, hg5⟩ : ∃ g, g = w3.heap.size := ⟨_, rfl⟩
  have S5 := HS4.out
  obtain ⟨w4, hw4⟩ : ∃ w', w' = (w3.alloc (.cells Sec.zero.cells.toArray 31)).setCells w3.heap.size 0 r.cells := ⟨_, rfl⟩
  rw [← hw4, ← hg5] at S5 ⊢
  clear hw4 hg5 hm3 HS4
  have S6 := S5.quiet ((Keeps.refl w4 []).drew)
  obtain ⟨f0, ⟨hb0, -⟩, -, -⟩ := S6.step 0 rfl
  have hN1 := num_still g5 2 8 _ r 62 _ hb0 H.out.2.2.2.2.2 (by omega)
  have hN2 := num_still g5 10 4 _ r 54 _ hb0 H.out.2.2.2.2.2 (by omega)
  have hnl : sizeOf_ r < 4294967296 := rdB_lt4 _ (by simp; omega) ((Wf8.drop H.out.2.2.2.2.2 10).take 4)
  obtain ⟨T, hT⟩ : ∃ T, T = turnOf r := ⟨_, rfl⟩
  obtain ⟨N, hN⟩ : ∃ N, N = sizeOf_ r := ⟨_, rfl⟩
  have hT' : rdB ((r.bs.drop 2).take 8) = T := hT.symm
  have hN' : rdB ((r.bs.drop 10).take 4) = N := hN.symm
  rw [hT'] at hN1
  rw [hN'] at hN2
  clear hT' hN'
  rw [← hN] at hnl
  have hTl : T < 18446744073709551616 := hT ▸ rdB_lt _
  have hNl : (N : Int) < 4294967296 := by omega
  have hwN : IntKind.i64.wrap (N : Int) = (N : Int) := IntWalk.i64_in _ (by omega)
  have HN1 := Lib.hid hN1
  have HN2 := Lib.hid hN2
  have HTN := Lib.hid (And.intro hT (And.intro hN hTl))
  have HS6 := Lib.hid S6
  clear S5 S6 hb0 hN1 hN2 hT hN hTl hnl
  refine wp_still_drew (by kernel_rfl) (by kernel_rfl) ?_
  still_step
  still_call HN1.out
  still_step
  still_call HN2.out
  repeat still_step
  refine wpStill_nil ?_
  obtain ⟨w5, hw5⟩ : ∃ w', w' = w4.drew := ⟨_, rfl⟩
  rw [← hw5] at HS6 HN1 HN2 ⊢
  clear hw5 HN1 HN2
  obtain ⟨f0, ⟨hbr, -⟩, -, -⟩ := HS6.out.step 1 rfl
  obtain ⟨f1, ⟨hbd, -⟩, -, -⟩ := HS6.out.step 2 rfl
  have r0 : w5.cell? ⟨w.heap.size + 1, 0, none⟩ = some (.int .i64 0) := hbr.cell 0
  have r1 : w5.cell? ⟨w.heap.size + 1, 1, none⟩ = some (.slice none 0 0) := hbr.cell 1
  have r2 : w5.cell? ⟨w.heap.size + 1, 2, none⟩ = some (.int .u64 0) := hbr.cell 2
  have q0 := hbr.frozen 0
  have q1 := hbr.frozen 1
  have q2 := hbr.frozen 2
  have d1 : w5.cell? ⟨w.heap.size, 1, none⟩ = some (.int .i64 half) := hbd.cell 1
  have d0 : w5.cell? ⟨w.heap.size, 0, none⟩ = some (.pointer (some ⟨b, 0, none⟩)) := hbd.cell 0
  have HBR := Lib.hid (And.intro hbr hbd)
  clear hbr hbd
  by_cases hout : T = 0 ∨ half * 64 < N
  · have hm := holdM_out (half := half) H.out.2.1 (by rw [← HTN.out.1, ← HTN.out.2.1]; exact hout)
    have HM := Lib.hid hm
    clear hm
    have fin : ∀ w', w' = ((w5.setCell ⟨w.heap.size + 1, 0, none⟩ (.int .i64 0)).setCell ⟨w.heap.size + 1, 1, none⟩ (.slice none 0 0)).setCell ⟨w.heap.size + 1, 2, none⟩ (.int .u64 0) → w'.rangeAt (w.heap.size + 1) 0 [.int .i64 0, .slice none 0 0, .int .u64 0] ∧ HoldLeft w half now k (.returned (.agg #[.int .i64 0, .slice none 0 0, .int .u64 0])) w' := by
      rintro w' rfl
      refine ⟨(set3 HBR.out.1 _ _ _).whole, 0, none, 0, [], by rw [HM.out]; rfl, by rw [HM.out]; exact Reads.zero _ _ _, by simp, keep3 HS6.out.old (by omega) _ _ _, by rw [HM.out]; simp, by rw [HM.out]; simp⟩
    have FIN := Lib.hid fin
    clear fin
    by_cases hT0 : T = 0
    · subst hT0
      clear hout
      go_wp2_with fail
      exact ret_slot rfl (w.heap.size + 1) _ _ _ rfl (FIN.out _ rfl).1 rfl (FIN.out _ rfl).2
    · have hTb : ((T : Int) == 0) = false := by simp; omega
      have hTb2 : (half : Int) * 64 < (N : Int) := by omega
      clear hout hT0
      go_wp2_with fail
      exact ret_slot rfl (w.heap.size + 1) _ _ _ rfl (FIN.out _ rfl).1 rfl (FIN.out _ rfl).2
  · have hTb : ((T : Int) == 0) = false := by simp; omega
    have hNh : (N : Int) ≤ (half : Int) * 64 := by omega
    have hgt : decide ((half : Int) * 64 < (N : Int)) = false := by simp; omega
    have HNh := Lib.hid hNh
    clear hNh
    have HO := Lib.hid hout
    clear hout
    obtain ⟨M, hM⟩ : ∃ M, M = k * half := ⟨_, rfl⟩
    have hMl : M ≤ 2047 := by
      have : k * half ≤ 1 * half := Nat.mul_le_mul_right _ (by omega)
      omega
    have hmul : (k : Int) * (half : Int) = (M : Int) := by rw [hM]; simp
    have hmul2 : IntKind.i64.wrap ((k : Int) * (half : Int)) = (M : Int) := by rw [hmul]; exact IntWalk.i64_in _ (by omega)
    have HMM := Lib.hid hM
    clear hM
    obtain ⟨i0, hi, hz0, hz1, hz2⟩ := info_parts u8Info
    have S7 := HS6.out.add (Rep.own 5 1 (.slice none 0 0) (0 * 64) (bytes (dataOf now (2 + M) (0 * 64)))) (fp := []) (by rw [Nat.zero_mul, dataOf_zero]; exact Own.bare _ _ _ _) (Keeps.refl w5 []) (by simp)
    have HS7 := Lib.hid S7
    clear S7
    go_wp2_with fail
    clear d0 d1 r0 r1 r2 q0 q1 q2 hmul hmul2 hgt hTb hwN
    go_loopg [9, 10] (N + 64) (fun g s9 s10 wx => ∃ j I L : Nat, g + L = N + 64 ∧ L = j * 64 ∧ I = 2 + M + j ∧ s10 = .int .i64 I ∧ Star w wx [Rep.own 5 1 s9 L (bytes (dataOf now (2 + M) L)), Rep.blk g5 31 r.cells.toArray, Rep.blk (w.heap.size + 1) 98 #[.int .i64 0, .slice none 0 0, .int .u64 0], Rep.blk w.heap.size 85 #[.pointer (some ⟨b, 0, none⟩), .int .i64 half]])
    case atStart => exact ⟨0, 2 + M, 0 * 64, by omega, rfl, rfl, by congr 1, HS7.out⟩
    case round =>
      obtain ⟨j, I, L, hg, hLj, hIj, rfl, hS⟩ := hrel
      obtain ⟨fres, fo, ⟨-, hres⟩, ho, hdis, -, hge, -⟩ := hS.step2 2 0 rfl rfl (by omega)
      obtain ⟨A9, c9, rfl, hc9, fr9, hr9, hfr9⟩ := Own.form ho
      have hfar : ∀ k ∈ fr9, w.heap.size ≤ k ∧ k ≠ w.heap.size + 1 := fun k hk => ⟨hge k (hfr9 k hk), fun e => hdis k (hfr9 k hk) (by rw [hres, e]; simp)⟩
      obtain ⟨f1, ⟨hbd, -⟩, -, -⟩ := hS.step 3 rfl
      have d0 : wr.cell? ⟨w.heap.size, 0, none⟩ = some (.pointer (some ⟨b, 0, none⟩)) := hbd.cell 0
      have hL : L ≤ 1000000 := by have := HNh.out; omega
      have HK := Lib.hid (And.intro hg (And.intro hS (And.intro hr9 (And.intro hLj hIj))))
      have HF := Lib.hid hfar
      clear hg hS ho hr9 hbd hLj hIj hfar hdis hge hfr9 hres
      by_cases hlt : L < N
      · have hix : I < now.length := by
          have h1 := HNh.out
          have h2 := HMM.out
          have h3 := H.out.2.2.2.2.1
          have h4 : k * half ≤ 1 * half := Nat.mul_le_mul_right _ (by omega)
          obtain ⟨-, -, -, h5, h6⟩ := HK.out
          omega
        obtain ⟨s, hs⟩ : ∃ s, now[I]? = some s := ⟨_, List.getElem?_eq_getElem hix⟩
        have hlen := H.out.2.2.1
        have hi64 : I < 4096 := by omega
        have HSj := Lib.hid (And.intro hs (And.intro hlen hlt))
        have hlt2 : decide (L < N) = true := by simpa using hlt
        clear hs hix hlen hlt
        go_wp2_with fail
        refine (sread_calls b last now loose fp wr I s (H.out.1.nil HK.out.2.1.old) HSj.out.1 HSj.out.2.1).mono ?_
        rintro e w6 ⟨rfl, hk6⟩
        have S6 := HK.out.2.1.quiet hk6
        have S7 := S6.quiet (keeps_stored (Keeps.refl w6 []) 31 Sec.zero.cells s.cells (Nat.le_refl _))
        have hb7 := blk_stored w6 31 s
        have hm6 := may_new w6 31
        obtain ⟨fo, ho, -, back⟩ := S7.step 0 rfl
        have H7 := Lib.hid (And.intro hb7 (And.intro ho back))
        clear S6 S7 hb7 ho back hk6
        go_wp2_with (at_builtin; refine wpList_append_mine _ rfl (.tmp 53) (.tmp 54) _ _ rfl 5 i0 _ 1 1 Try.underlying22 hi hz0 hz1 hz2 rfl _ L (bytes (dataOf now (2 + M) L)) fo rfl H7.out.2.1 _ 64 (bytes s.bs) rfl (H7.out.1.src Try.underlying22 64 (by simp [Sec.cells_length]) s.one) (by unfold maxLen; omega) (by omega) ?_)
        intro v8 w8 f8 ho8 hk8 hn8
        have ho8 : Own w8 5 1 v8 (L + 64) (bytes (dataOf now (2 + M) (L + 64))) f8 := by
          obtain ⟨-, -, -, h5, h6⟩ := HK.out
          rw [h5, dataOf_succ now (2 + M) j s (by rw [← h6]; exact HSj.out.1), bytes_append, ← h5]
          exact ho8
        have S8 := H7.out.2.2 w8 (Rep.own 5 1 v8 (L + 64) (bytes (dataOf now (2 + M) (L + 64)))) f8 ho8 hk8 hn8
        have H8 := Lib.hid S8
        clear ho8 hk8 hn8 S8 H7
        go_wp2_with fail
        go_roundg (N - L)
        case measure => have := HK.out.1; have := HSj.out.2.2; omega
        case rel =>
          obtain ⟨h1, -, -, h5, h6⟩ := HK.out
          have h7 := HSj.out.2.2
          exact ⟨j + 1, I + 1, L + 64, by omega, by omega, by omega, by go_num, H8.out⟩
      · have hNL : N ≤ L := by omega
        obtain ⟨fp9, hr10, hfp9⟩ := HK.out.2.2.1.take (k := N) hNL
        rw [Nat.mul_one, show (bytes (dataOf now (2 + M) L)).take N = bytes (dataOf now (2 + M) N) by rw [← dataOf_take now (2 + M) N L hNL]; simp [bytes, List.map_take]] at hr10
        have hN6 : N ≤ 1000000 := by have := HNh.out; omega
        obtain ⟨f1, ⟨hb5, -⟩, -, -⟩ := HK.out.2.1.step 1 rfl
        obtain ⟨s0, hs0⟩ : ∃ s, s = rootM (dataOf now (2 + M) N) T := ⟨_, rfl⟩
        have hrc := root_calls A9 N N (dataOf now (2 + M) N) fp9 T wr.drew hr10.drew (dataOf_wf H.out.2.2.2.1 _ _) hN6 HTN.out.2.2
        rw [← hs0] at hrc
        have HF9 := Lib.hid (fun k (hk : k ∈ fp9) => HF.out k (hfp9 k hk))
        clear hfp9
        have HRC := Lib.hid (And.intro hs0 (And.intro hrc (And.intro hr10 hb5)))
        obtain ⟨hrow1, hrow2⟩ := row_of_range (by simpa using hb5.drew.whole) r.cells_length
        clear hs0 hrc hr10 hb5
        go_wp2_with fail
        by_cases heq : s0 = r
        · have he1 : (s0.bs == r.bs) = true := by rw [heq]; simp
          have HEQ := Lib.hid heq
          clear heq
          go_region_law ((refine step_call _ rfl 68 #[.slice A9 N N, .int .u64 T] ?_ HRC.out.2.1 ?_
                          · (go_simp; done)
                          rintro e w6 ⟨rfl, hk6⟩
                          have hb6 := HRC.out.2.2.2.drew.keeps hk6 (by simp)
                          have hrw6 := row_of_range (by simpa using hb6.whole) r.cells_length
                          obtain ⟨hrow3, hrow4⟩ := hrw6
                          have HK6 := Lib.hid hk6
                          clear hb6 hk6
                          refine ⟨_, rfl, ?_⟩))
          all_goals
            have S6 := (HK.out.2.1.quiet ((Keeps.refl wr []).drew)).quiet HK6.out
            obtain ⟨f2, ⟨hbr, -⟩, -, -⟩ := S6.step 2 rfl
            have r0 : w6.cell? ⟨w.heap.size + 1, 0, none⟩ = some (.int .i64 0) := hbr.cell 0
            have r1 : w6.cell? ⟨w.heap.size + 1, 1, none⟩ = some (.slice none 0 0) := hbr.cell 1
            have r2 : w6.cell? ⟨w.heap.size + 1, 2, none⟩ = some (.int .u64 0) := hbr.cell 2
            have q0 := hbr.frozen 0
            have q1 := hbr.frozen 1
            have q2 := hbr.frozen 2
            obtain ⟨f3, ⟨hb5, -⟩, hf3, -⟩ := S6.step 0 rfl
            have fin : ∀ w', w' = ((w6.setCell ⟨w.heap.size + 1, 0, none⟩ (.int .i64 k)).setCell ⟨w.heap.size + 1, 1, none⟩ (.slice A9 N N)).setCell ⟨w.heap.size + 1, 2, none⟩ (.int .u64 T) → w'.rangeAt (w.heap.size + 1) 0 [.int .i64 k, .slice A9 N N, .int .u64 T] ∧ HoldLeft w half now k (.returned (.agg #[.int .i64 k, .slice A9 N N, .int .u64 T])) w' := by
              rintro w' rfl
              have hm := holdM_in (half := half) H.out.2.1 (by rw [← HTN.out.1, ← HTN.out.2.1]; exact HO.out) (by rw [← HTN.out.1, ← HTN.out.2.1, ← HMM.out, ← HRC.out.1]; exact HEQ.out)
              rw [← HTN.out.1, ← HTN.out.2.1, ← HMM.out] at hm
              have hl : (dataOf now (2 + M) N).length = N := dataOf_length _ _ _ (by
                have h1 := HNh.out
                have h2 := HMM.out
                have h3 := H.out.2.2.2.2.1
                have h4 : k * half ≤ 1 * half := Nat.mul_le_mul_right _ (by omega)
                omega)
              have hnm : w.heap.size + 1 ∉ fp9 := fun hm => (HF9.out _ hm).2 rfl
              refine ⟨(set3 hbr _ _ _).whole, k, A9, N, fp9, by rw [hm, hl], ?_, fun j hj => (HF9.out j hj).1, keep3 S6.old (by omega) _ _ _, fun _ => rfl, by rw [hm, hl]; exact Nat.le_refl _⟩
              rw [hm, hl]
              exact (((HRC.out.2.2.1.drew.keeps HK6.out (by simp)).set (p := ⟨w.heap.size + 1, 0, none⟩) hnm _).set (p := ⟨w.heap.size + 1, 1, none⟩) hnm _).set (p := ⟨w.heap.size + 1, 2, none⟩) hnm _
            have FIN := Lib.hid fin
            clear fin hbr hb5 hf3 S6 hrow1 hrow2 hrow3 hrow4 he1
            go_wp2_with fail
            exact ret_slot rfl (w.heap.size + 1) _ _ _ rfl (FIN.out _ rfl).1 rfl (FIN.out _ rfl).2
        · have he1 : (s0.bs == r.bs) = false := by
            simp only [beq_eq_false_iff_ne, ne_eq]
            exact fun h => heq (Sec.eq_of_bs h)
          have HEQ := Lib.hid heq
          clear heq
          go_region_law ((refine step_call _ rfl 68 #[.slice A9 N N, .int .u64 T] ?_ HRC.out.2.1 ?_
                          · (go_simp; done)
                          rintro e w6 ⟨rfl, hk6⟩
                          have hb6 := HRC.out.2.2.2.drew.keeps hk6 (by simp)
                          have hrw6 := row_of_range (by simpa using hb6.whole) r.cells_length
                          obtain ⟨hrow3, hrow4⟩ := hrw6
                          have HK6 := Lib.hid hk6
                          clear hb6 hk6
                          refine ⟨_, rfl, ?_⟩))
          all_goals
            have S6 := (HK.out.2.1.quiet ((Keeps.refl wr []).drew)).quiet HK6.out
            obtain ⟨f2, ⟨hbr, -⟩, -, -⟩ := S6.step 2 rfl
            have r0 : w6.cell? ⟨w.heap.size + 1, 0, none⟩ = some (.int .i64 0) := hbr.cell 0
            have r1 : w6.cell? ⟨w.heap.size + 1, 1, none⟩ = some (.slice none 0 0) := hbr.cell 1
            have r2 : w6.cell? ⟨w.heap.size + 1, 2, none⟩ = some (.int .u64 0) := hbr.cell 2
            have q0 := hbr.frozen 0
            have q1 := hbr.frozen 1
            have q2 := hbr.frozen 2
            have hm := holdM_bad (half := half) H.out.2.1 (by rw [← HTN.out.1, ← HTN.out.2.1, ← HMM.out, ← HRC.out.1]; exact HEQ.out)
            have fin : ∀ w', w' = ((w6.setCell ⟨w.heap.size + 1, 0, none⟩ (.int .i64 0)).setCell ⟨w.heap.size + 1, 1, none⟩ (.slice none 0 0)).setCell ⟨w.heap.size + 1, 2, none⟩ (.int .u64 0) → w'.rangeAt (w.heap.size + 1) 0 [.int .i64 0, .slice none 0 0, .int .u64 0] ∧ HoldLeft w half now k (.returned (.agg #[.int .i64 0, .slice none 0 0, .int .u64 0])) w' := by
              rintro w' rfl
              refine ⟨(set3 hbr _ _ _).whole, 0, none, 0, [], by rw [hm]; rfl, by rw [hm]; exact Reads.zero _ _ _, by simp, keep3 S6.old (by omega) _ _ _, by rw [hm]; simp, by rw [hm]; simp⟩
            have FIN := Lib.hid fin
            clear fin hbr hm S6 hrow1 hrow2 hrow3 hrow4 he1
            go_wp2_with fail
            exact ret_slot rfl (w.heap.size + 1) _ _ _ rfl (FIN.out _ rfl).1 rfl (FIN.out _ rfl).2
end

end Go.Proofs.Ytecjhaohabjkbaa
