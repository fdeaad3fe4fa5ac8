/-
  CONTRACTS: heliographref08.Store: half, slot, the, Load, Turn, Room.
-/
import Derived.Test.YtecjhaohabjkbaaP4
import Derived.Deep.RegionHeldLaw
import Derived.Deep.CutBlock
import Derived.Deep.DeepCutAuto
namespace Go.Proofs.Ytecjhaohabjkbaa
open Go.RowKit
set_option linter.unusedVariables false

/-- The document's store at block g: its device's block. -/
def RSt (w : World) (g bd : Nat) (l : List Sec) (pend : List Wr) (fp : List Nat) : Prop :=
  ∃ fd, Blk w g 114 #[.pointer (some ⟨bd, 0, none⟩)] ∧ RRep w bd l pend fd ∧ g ∉ fd ∧ fp = g :: fd
section
variable {w w' : World} {g bd : Nat} {l : List Sec} {pend : List Wr} {fp fp' : List Nat}
theorem RSt.lt (h : RSt w g bd l pend fp) : ∀ k ∈ fp, k < w.heap.size := by
  obtain ⟨fd, hb, hd, hn, rfl⟩ := h
  intro k hk
  rcases List.mem_cons.1 hk with rfl | hk
  · exact hb.lt
  · exact hd.lt k hk
theorem RSt.keeps (h : RSt w g bd l pend fp) (hk : Keeps w w' fp') (hd : ∀ k ∈ fp, k ∉ fp') : RSt w' g bd l pend fp := by
  obtain ⟨fd, hb, hr, hn, rfl⟩ := h
  exact ⟨fd, hb.keeps hk (hd g (by simp)), hr.keeps hk (fun k hm => hd k (by simp [hm])), hn, rfl⟩
theorem RSt.nil (h : RSt w g bd l pend fp) (hk : Keeps w w' []) : RSt w' g bd l pend fp := h.keeps hk (by simp)
end

theorem blk_over {w : World} {g : Nat} {t : TypeId} {z s : Sec} (h : Blk w g t z.cells.toArray) : Blk (w.setCells g 0 s.cells) g t s.cells.toArray := by
  have := h.setCells s.cells 0 _ _ (by simp [Sec.cells_length])
  rwa [show (z.cells.toArray.toList.take 0 ++ s.cells ++ z.cells.toArray.toList.drop (0 + s.cells.length)).toArray = s.cells.toArray by simp [Sec.cells_length]] at this
theorem cell_alloc_past (w : World) (o : Obj) (b i : Nat) (h : b < w.heap.size) : (w.alloc o).cell? ⟨b, i, none⟩ = w.cell? ⟨b, i, none⟩ := World.cell?_of_block (w := w) (Below.heap_alloc w o b h)
section
variable (g bd : Nat) (l : List Sec) (pend : List Wr) (fp : List Nat) (w : World)
theorem rhalf_calls (hs : RSt w g bd l pend fp) (h4 : 4 ≤ l.length) (hn : l.length ≤ 4096) :
    Calls Try.prog 72 #[.pointer (some ⟨g, 0, none⟩)] w fun e w' => e = .returned (.int .i64 ((l.length - 2) / 2 : Nat)) ∧ w = w' := by
  obtain ⟨fd, hb, hr, hg, rfl⟩ := hs
  have c0 : w.cell? ⟨g, 0, none⟩ = some (.pointer (some ⟨bd, 0, none⟩)) := hb.cell 0
  obtain ⟨L, hL⟩ : ∃ L, L = l.length := ⟨_, rfl⟩
  have hc := rsize_calls bd l pend fd w hr
  rw [← hL] at hc hn h4
  have HC := Lib.hid (And.intro hc hL)
  clear hc hL hb hr hg
  have h4i : (4 : Int) ≤ (L : Int) := by omega
  go_enter Try.func72, Try.ntmps72
  go_wp2_with fail
  refine HC.out.1.mono ?_
  rintro e w1 ⟨rfl, rfl⟩
  go_wp2_with fail
  go_ret
  refine ⟨?_, rfl⟩
  rw [← HC.out.2]
  show Ending.returned (.int .i64 (((L : Int) - 2) / 2)) = _
  have e : ((L : Int) - 2) / 2 = (((L - 2) / 2 : Nat) : Int) := by omega
  rw [e]

theorem rread_now (i : Nat) (s : Sec) (hd : RRep w bd l pend fp) (hi : (land l pend)[i]? = some s) (hn : l.length ≤ 4096) (hp : pend.length ≤ 100000) :
    Calls Try.prog 55 #[.pointer (some ⟨bd, 0, none⟩), .int .i64 i] w fun e w' => e = .returned (.tuple #[.agg s.cells.toArray, .int .i64 0]) ∧ Keeps w w' [] := by
  have hil : i < l.length := by have := (List.getElem?_eq_some_iff.1 hi).1; rwa [land_length] at this
  obtain ⟨s0, h0⟩ : ∃ s0, l[i]? = some s0 := ⟨_, List.getElem?_eq_getElem hil⟩
  have h1 := land_at pend l i s0 h0
  rw [hi] at h1
  cases h1
  exact rread_ok bd l pend fp w i s0 hd h0 hn hp

/-- what slot leaves. -/
def RSlotLeft (w : World) (half : Nat) (now : List Sec) (k : Nat) (e : Ending) (w' : World) : Prop :=
  ∃ (A : Option Addr) (c : Nat) (fr : List Nat), e = .returned (.tuple #[.slice A (holdM half now k).1.length c, .int .u64 (holdM half now k).2]) ∧ Reads w' 1 A (holdM half now k).1.length (bytes (holdM half now k).1) fr ∧
    (∀ j ∈ fr, w.heap.size ≤ j) ∧ Keeps w w' [] ∧ (holdM half now k).1.length ≤ c

theorem rnum_keep (g o n : Nat) (t : TypeId) (s : Sec) (c : Nat) (w : World) (hb : Blk w g t s.cells.toArray) (hw : s.wf) (ho : o + n ≤ 64) :
    Calls Try.prog 91 #[.slice (some ⟨g, o, none⟩) n c] w fun e w' => e = .returned (.int .u64 (rdB ((s.bs.drop o).take n))) ∧ w = w' :=
  rget_calls _ n c _ [g] w (hb.sub o n ho) ((Wf8.drop hw o).take n) (by omega)

set_option maxHeartbeats 1600000 in set_option maxRecDepth 100000 in
set_option maxRecDepth 100000 in
theorem rslot_calls (k half : Nat) (now : List Sec) (hs : RSt w g bd l pend fp) (hnow : now = land l pend) (h4 : 4 ≤ l.length) (hn : l.length ≤ 4096) (hp : pend.length ≤ 100000) (hwf : ∀ s ∈ now, s.wf) (hh : half = (l.length - 2) / 2) (hk : k < 2) :
    Calls Try.prog 84 #[.pointer (some ⟨g, 0, none⟩), .int .i64 k] w (RSlotLeft w half now k) := by
  have hnl : now.length = l.length := by rw [hnow, land_length]
  obtain ⟨r, hr⟩ : ∃ r, now[k]? = some r := ⟨_, List.getElem?_eq_getElem (by omega)⟩
  have hrw : r.wf := hwf r (List.mem_of_getElem? hr)
  have hread : ∀ (w' : World) (i : Nat) (s : Sec), Keeps w w' [] → now[i]? = some s → Calls Try.prog 55 #[.pointer (some ⟨bd, 0, none⟩), .int .i64 i] w' fun e w'' => e = .returned (.tuple #[.agg s.cells.toArray, .int .i64 0]) ∧ Keeps w' w'' [] := by
    intro w' i s hk hi
    obtain ⟨fd, hb, hr, hg, rfl⟩ := hs
    exact rread_now bd l pend fd w' i s (hr.nil hk) (by rw [← hnow]; exact hi) hn hp
  have hhalf : ∀ w', Keeps w w' [] → Calls Try.prog 72 #[.pointer (some ⟨g, 0, none⟩)] w' fun e w'' => e = .returned (.int .i64 (half : Nat)) ∧ w' = w'' := by
    intro w' hk
    rw [hh]
    exact rhalf_calls g bd l pend fp w' (hs.nil hk) h4 hn
  have hb0 : Blk w g 114 #[.pointer (some ⟨bd, 0, none⟩)] := by
    obtain ⟨fd, hb, hr, hg, rfl⟩ := hs
    exact hb
  have c0 : w.cell? ⟨g, 0, none⟩ = some (.pointer (some ⟨bd, 0, none⟩)) := hb0.cell 0
  have h2 : 2 + 2 * half ≤ now.length := by omega
  have hh47 : half ≤ 2047 := by omega
  have H := Lib.hid (And.intro hread (And.intro hr (And.intro hhalf (And.intro hwf (And.intro h2 (And.intro hrw (And.intro hb0 (And.intro hnl hn))))))))
  clear hs hnow h4 hn hp hwf hh hnl hr hrw hread hhalf hb0 h2
  go_enter Try.func84, Try.ntmps84
  go_wp2_with fail
  refine (H.out.1 w k r (Keeps.refl _ _) H.out.2.1).mono ?_
  rintro e w3 ⟨rfl, hk3⟩
  have S3 := (Star.nil w).quiet hk3
  have S4 := S3.add (Rep.blk w3.heap.size 62 r.cells.toArray) (fp := [w3.heap.size]) ⟨blk_stored w3 _ r, rfl⟩ (keeps_stored (Keeps.refl w3 []) _ Sec.zero.cells r.cells (Nat.le_refl _)) (by simp)
  have hm3 := may_new w3 62
  have HS4 := Lib.hid S4
  clear S3 S4 hk3
  go_wp2_with fail
  obtain ⟨g6, hg6⟩ : ∃ g, g = w3.heap.size := ⟨_, rfl⟩
  have S5 := HS4.out
  obtain ⟨w4, hw4⟩ : ∃ w', w' = (w3.alloc (.cells Sec.zero.cells.toArray 62)).setCells w3.heap.size 0 r.cells := ⟨_, rfl⟩
  rw [← hw4, ← hg6] at S5 ⊢
  clear hw4 hg6 hm3 HS4
  obtain ⟨f0, ⟨hb0, -⟩, -, -⟩ := S5.step 0 rfl
  have hN1 := rnum_keep g6 2 8 _ r 62 _ hb0 H.out.2.2.2.2.2.1 (by omega)
  have hN2 := rnum_keep g6 10 4 _ r 54 _ hb0 H.out.2.2.2.2.2.1 (by omega)
  have hnl : sizeOf_ r < 4294967296 := rdB_lt4 _ (by simp; omega) ((Wf8.drop H.out.2.2.2.2.2.1 10).take 4)
  obtain ⟨T, hT⟩ : ∃ T, T = turnOf r := ⟨_, rfl⟩
  obtain ⟨N, hN⟩ : ∃ N, N = sizeOf_ r := ⟨_, rfl⟩
  have hT' : rdB ((r.bs.drop 2).take 8) = T := hT.symm
  have hN' : rdB ((r.bs.drop 10).take 4) = N := hN.symm
  rw [hT'] at hN1
  rw [hN'] at hN2
  clear hT' hN'
  rw [← hN] at hnl
  have hTl : T < 18446744073709551616 := hT ▸ rdB_lt _
  have hNl : (N : Int) < 4294967296 := by omega
  have hwN : IntKind.i64.wrap (N : Int) = (N : Int) := IntWalk.i64_in _ (by omega)
  have HN1 := Lib.hid hN1
  have HN2 := Lib.hid hN2
  have HTN := Lib.hid (And.intro hT (And.intro hN hTl))
  have HS6 := Lib.hid S5
  clear S5 hb0 hN1 hN2 hT hN hTl hnl
  refine HN2.out.mono ?_
  rintro e w5 ⟨rfl, rfl⟩
  go_wp2_with fail
  refine HN1.out.mono ?_
  rintro e w5 ⟨rfl, rfl⟩
  go_wp2_with fail
  refine (H.out.2.2.1 w4 HS6.out.old).mono ?_
  rintro e w5 ⟨rfl, rfl⟩
  by_cases hout : half * 64 < N ∨ T = 0
  · have hm := holdM_out (half := half) H.out.2.1 (by rw [← HTN.out.1, ← HTN.out.2.1]; exact hout.symm)
    have HM := Lib.hid hm
    clear hm
    by_cases hN0 : half * 64 < N
    · have hb1 : decide (half * 64 < N) = true := by simpa using hN0
      have hb2 : decide ((half : Int) * 64 < (N : Int)) = true := by simp; omega
      clear hout hN0
      go_wp2_with fail
      go_ret2
      exact ⟨none, 0, [], by rw [HM.out]; rfl, by rw [HM.out]; exact Reads.zero _ _ _, by simp, HS6.out.old, by rw [HM.out]; simp⟩
    · have hb1 : decide (half * 64 < N) = false := by simpa using hN0
      have hb2 : decide ((half : Int) * 64 < (N : Int)) = false := by simp; omega
      obtain rfl : T = 0 := by omega
      clear hout hN0
      go_wp2_with fail
      go_ret2
      exact ⟨none, 0, [], by rw [HM.out]; rfl, by rw [HM.out]; exact Reads.zero _ _ _, by simp, HS6.out.old, by rw [HM.out]; simp⟩
  · have hb1 : decide (half * 64 < N) = false := by simp; omega
    have hb2 : decide ((half : Int) * 64 < (N : Int)) = false := by simp; omega
    have hTb : ((T : Int) == 0) = false := by simp; omega
    have HO := Lib.hid hout
    clear hout
    obtain ⟨M, hM⟩ : ∃ M, M = k * half := ⟨_, rfl⟩
    have hMl : M ≤ 2047 := by
      have : k * half ≤ 1 * half := Nat.mul_le_mul_right _ (by omega)
      omega
    have hmul : (k : Int) * (half : Int) = (M : Int) := by rw [hM]; simp
    have hmul2 : IntKind.i64.wrap ((k : Int) * (half : Int)) = (M : Int) := by rw [hmul]; exact IntWalk.i64_in _ (by omega)
    obtain ⟨Q, hQ⟩ : ∃ Q, Q = 2 + M := ⟨_, rfl⟩
    have hQ1 : (2 : Int) + (M : Int) = (Q : Int) := by omega
    have hQ2 : IntKind.i64.wrap (2 + (M : Int)) = (Q : Int) := by rw [hQ1]; exact IntWalk.i64_in _ (by omega)
    have hQl : Q ≤ 2049 := by omega
    have HMM := Lib.hid (And.intro hM (And.intro hQ (And.intro hmul (And.intro hmul2 (And.intro hQ1 hQ2)))))
    clear hM hQ hmul hmul2 hQ1 hQ2
    obtain ⟨i0, hi, hz0, hz1, hz2⟩ := info_parts u8Info
    have S7 := HS6.out.add (Rep.own 5 1 (.slice none 0 0) (0 * 64) (bytes (dataOf now Q (0 * 64)))) (fp := []) (by rw [Nat.zero_mul, dataOf_zero]; exact Own.bare _ _ _ _) (Keeps.refl w4 []) (by simp)
    have HS7 := Lib.hid S7
    clear S7
    go_wp2_with fail
    clear hb1 hb2 hTb hwN
    go_loopg [10, 11] (N + 64) (fun gg s10 s11 wx => ∃ j L : Nat, gg + L = N + 64 ∧ L = j * 64 ∧ s11 = .int .i64 j ∧ Star w wx [Rep.own 5 1 s10 L (bytes (dataOf now Q L)), Rep.blk g6 62 r.cells.toArray])
    case atStart => exact ⟨0, 0 * 64, by omega, rfl, rfl, HS7.out⟩
    case round =>
      obtain ⟨j, L, hg, hLj, rfl, hS⟩ := hrel
      obtain ⟨fo, ho, hge, -⟩ := hS.step 0 rfl
      obtain ⟨A9, c9, rfl, hc9, fr9, hr9, hfr9⟩ := Own.form ho
      have hfar : ∀ k ∈ fr9, w.heap.size ≤ k := fun k hk => hge k (hfr9 k hk)
      have hL : L ≤ 1000000 := by have := HO.out; omega
      have c0r : wr.cell? ⟨g, 0, none⟩ = some (.pointer (some ⟨bd, 0, none⟩)) := (H.out.2.2.2.2.2.2.1.keeps hS.old (by simp)).cell 0
      have HK := Lib.hid (And.intro hg (And.intro hS (And.intro hr9 (And.intro hLj hfar))))
      clear hg hS ho hr9 hLj hge hfr9 hfar
      by_cases hlt : L < N
      · obtain ⟨I, hI⟩ : ∃ I, I = Q + j := ⟨_, rfl⟩
        have hix : I < now.length := by
          have h1 := HO.out
          have h2 := HMM.out.1
          have h7 := HMM.out.2.1
          have h3 := H.out.2.2.2.2.1
          have h4 : k * half ≤ 1 * half := Nat.mul_le_mul_right _ (by omega)
          obtain ⟨-, -, -, h5, h6⟩ := HK.out
          omega
        obtain ⟨s, hs⟩ : ∃ s, now[I]? = some s := ⟨_, List.getElem?_eq_getElem hix⟩
        have hi64 : I < 4096 + 1 := by have := H.out.2.2.2.2.2.2.2.1; have := H.out.2.2.2.2.2.2.2.2; omega
        have hj4 : j ≤ 4096 := by omega
        have hI2 : IntKind.i64.wrap ((Q : Int) + (j : Int)) = (I : Int) := by rw [show (Q : Int) + (j : Int) = (I : Int) by omega]; exact IntWalk.i64_in _ (by omega)
        have hI1 : (Q : Int) + (j : Int) = (I : Int) := by omega
        have HSj := Lib.hid (And.intro hs (And.intro hI (And.intro hlt (And.intro hI1 hI2))))
        have hlt2 : decide (L < N) = true := by simpa using hlt
        clear hs hix hI hlt hI1 hI2
        go_upto_region 10 with (fail)
        go_cut [12] (fun s12 wx => ∃ gx : Nat, s12 = .pointer (some ⟨gx, 0, none⟩) ∧ Star w wx [Rep.blk gx 62 s.cells.toArray, Rep.own 5 1 (.slice A9 L c9) L (bytes (dataOf now Q L)), Rep.blk g6 62 r.cells.toArray])
        case first =>
          obtain ⟨-, -, -, -, hI2⟩ := HSj.out
          obtain ⟨-, -, -, hmul2, -, hQ2⟩ := HMM.out
          have hgw : g < wr.heap.size := Nat.lt_of_lt_of_le H.out.2.2.2.2.2.2.1.lt HK.out.2.1.old.size
          have hp1 := cell_alloc_past
          go_region_law ((first
              | (refine step_call _ rfl 72 #[.pointer (some ⟨g, 0, none⟩)] ?_ (H.out.2.2.1 _ (Keeps.trans (fp1 := []) HK.out.2.1.old ?_ (by simp))) ?_
                 · (go_simp; done)
                 · (repeat' (first | with_reducible assumption | with_reducible exact Keeps.refl _ _ | with_reducible apply Keeps.drew | with_reducible apply Keeps.alloc))
                 rintro e w5 ⟨rfl, rfl⟩
                 refine ⟨_, rfl, ?_⟩)
              | (refine step_call _ rfl 55 #[.pointer (some ⟨bd, 0, none⟩), .int .i64 I] ?_ (H.out.1 _ I s (Keeps.trans (fp1 := []) HK.out.2.1.old ?_ (by simp)) HSj.out.1) ?_
                 · (go_simp; done)
                 · (repeat' (first | with_reducible assumption | with_reducible exact Keeps.refl _ _ | with_reducible apply Keeps.drew | with_reducible apply Keeps.alloc))
                 rintro e w6 ⟨rfl, hk6⟩
                 have hm6 := may_new w6 62
                 try have hmB : MayRow w6 (.pointer (some ⟨wr.heap.size, 0, none⟩)) 64 := may_of_there (((Blk.new wr 62 Sec.zero.cells.toArray).drew.keeps hk6 (by simp)).there_ 0 64 (by simp [Sec.cells_length]))
                 have HK6 := Lib.hid hk6
                 clear hk6
                 refine ⟨_, rfl, ?_⟩)))
          all_goals
            go_wp2_with fail
            go_meet
            first
              | exact ⟨_, rfl, ((HK.out.2.1.quiet ((Keeps.refl wr []).drew)).quiet HK6.out).add (Rep.blk _ 62 s.cells.toArray) (fp := [w6.heap.size]) ⟨blk_stored w6 _ s, rfl⟩ (keeps_stored (Keeps.refl w6 []) _ Sec.zero.cells s.cells (Nat.le_refl _)) (by simp)⟩
              | (have S1 := HK.out.2.1.add (Rep.blk wr.heap.size 62 Sec.zero.cells.toArray) (fp := [wr.heap.size]) ⟨Blk.new wr _ _, rfl⟩ ((Keeps.refl wr []).alloc _) (by simp)
                 obtain ⟨f, ⟨hb, rfl⟩, -, back⟩ := ((S1.quiet ((Keeps.refl _ []).drew)).quiet HK6.out).step 0 rfl
                 exact ⟨_, rfl, back _ (Rep.blk wr.heap.size 62 s.cells.toArray) [wr.heap.size] ⟨blk_over hb, rfl⟩ ((Keeps.refl w6 _).setCells (.inl (by simp)) _ _) (fun k hk => .inl hk)⟩)
        case rest =>
          obtain ⟨gx, rfl, hSx⟩ := hcut
          obtain ⟨fx, fo, ⟨hbx, -⟩, ho, -, -, -, -⟩ := hSx.step2 0 1 rfl rfl (by omega)
          obtain ⟨fo2, ho2, -, back⟩ := hSx.tail.step 0 rfl
          have HX := Lib.hid (And.intro hbx (And.intro ho2 back))
          clear hSx hbx ho2 ho back
          go_wp2_with (at_builtin; refine wpList_append_mine _ rfl (.tmp 58) (.tmp 59) _ _ rfl 5 i0 _ 1 1 Try.underlying22 hi hz0 hz1 hz2 rfl _ L (bytes (dataOf now Q L)) fo2 rfl HX.out.2.1 _ 64 (bytes s.bs) rfl (HX.out.1.src Try.underlying22 64 (by simp [Sec.cells_length]) s.one) (by unfold maxLen; omega) (by omega) ?_)
          intro v8 w8 f8 ho8 hk8 hn8
          have ho8 : Own w8 5 1 v8 (L + 64) (bytes (dataOf now Q (L + 64))) f8 := by
            obtain ⟨-, -, -, h5, -⟩ := HK.out
            rw [h5, dataOf_succ now Q j s (by rw [← HSj.out.2.1]; exact HSj.out.1), bytes_append, ← h5]
            exact ho8
          have S8 := HX.out.2.2 w8 (Rep.own 5 1 v8 (L + 64) (bytes (dataOf now Q (L + 64)))) f8 ho8 hk8 hn8
          have H8 := Lib.hid S8
          clear ho8 hk8 hn8 S8 HX
          go_wp2_with fail
          go_roundg (N - L)
          case measure => have := HK.out.1; have := HSj.out.2.2.1; omega
          case rel =>
            obtain ⟨h1, -, -, h5, -⟩ := HK.out
            exact ⟨j + 1, L + 64, by have := HSj.out.2.2.1; omega, by omega, by go_num, H8.out⟩
      · have hNL : N ≤ L := by omega
        obtain ⟨fp9, hr10, hfp9⟩ := HK.out.2.2.1.take (k := N) hNL
        rw [Nat.mul_one, show (bytes (dataOf now Q L)).take N = bytes (dataOf now Q N) by rw [← dataOf_take now Q N L hNL]; simp [bytes, List.map_take]] at hr10
        have hN6 : N ≤ 1000000 := by have := HO.out; omega
        have HL := Lib.hid (And.intro hr10 (And.intro hfp9 hNL))
        clear hr10 hfp9
        go_wp2_with (at_builtin; refine wpList_append_mine _ rfl (.tmp 61) (.tmp 64) _ _ rfl 5 i0 _ 1 1 Try.underlying22 hi hz0 hz1 hz2 rfl _ 0 [] [] rfl (Own.bare _ _ _ _) _ N (bytes (dataOf now Q N)) rfl ((HL.out.1.alloc _).src Try.underlying22 (bytes_one _) _) (by unfold maxLen; omega) (by omega) ?_)
        intro v7 w7 f7 ho7 hk7 hn7
        have ho7' : Own w7 5 1 v7 N (bytes (dataOf now Q N)) f7 := by simpa using ho7
        have S7 := (HK.out.2.1.quiet ((Keeps.refl wr []).alloc (.cells #[] 5))).add (Rep.own 5 1 v7 N (bytes (dataOf now Q N))) ho7' hk7 (by simpa using hn7)
        clear ho7'
        obtain ⟨fo7, ho8, hge7, -⟩ := S7.step 0 rfl
        obtain ⟨A7, c7, rfl, hc7, fr7, hr7, hfr7⟩ := Own.form ho8
        obtain ⟨f6, ⟨hb6, -⟩, -, -⟩ := S7.step 2 rfl
        obtain ⟨s0, hs0⟩ : ∃ s, s = rootM (dataOf now Q N) T := ⟨_, rfl⟩
        have hrc := rroot_calls A7 N c7 (dataOf now Q N) fr7 T w7.drew hr7.drew (dataOf_wf H.out.2.2.2.1 _ _) hN6 HTN.out.2.2
        rw [← hs0] at hrc
        have hfar : ∀ k ∈ fr7, w.heap.size ≤ k := fun k hk => hge7 k (hfr7 k hk)
        have HRC := Lib.hid (And.intro hs0 (And.intro hrc (And.intro hr7 (And.intro hb6 (And.intro S7.old hfar)))))
        obtain ⟨hrow1, hrow2⟩ := row_of_range (by simpa using hb6.drew.whole) r.cells_length
        have HC7 := Lib.hid hc7
        clear hs0 hrc hr7 hb6 S7 ho7 hk7 hn7 ho8 hge7 hfr7 hfar hc7
        go_wp2_with fail
        by_cases heq : s0 = r
        · have he1 : (s0.bs == r.bs) = true := by rw [heq]; simp
          have HEQ := Lib.hid heq
          clear heq
          go_region_law ((refine step_call _ rfl 75 #[.slice A7 N c7, .int .u64 T] ?_ HRC.out.2.1 ?_
                          · (go_simp; done)
                          rintro e w9 ⟨rfl, hk6⟩
                          have hb9 := HRC.out.2.2.2.1.drew.keeps hk6 (by simp)
                          have hrw6 := row_of_range (by simpa using hb9.whole) r.cells_length
                          obtain ⟨hrow3, hrow4⟩ := hrw6
                          have HK6 := Lib.hid hk6
                          clear hb9 hk6
                          refine ⟨_, rfl, ?_⟩))
          all_goals
            clear hrow1 hrow2 hrow3 hrow4
            go_wp2_with fail
            go_ret2
            have hm := holdM_in (half := half) H.out.2.1 (by rw [← HTN.out.1, ← HTN.out.2.1]; exact fun h => HO.out h.symm) (by rw [← HTN.out.1, ← HTN.out.2.1, ← HMM.out.1, ← HMM.out.2.1, ← HRC.out.1]; exact HEQ.out)
            rw [← HTN.out.1, ← HTN.out.2.1, ← HMM.out.1, ← HMM.out.2.1] at hm
            have hl : (dataOf now Q N).length = N := dataOf_length _ _ _ (by
              have h1 := HO.out
              have h2 := HMM.out.1
              have h7 := HMM.out.2.1
              have h3 := H.out.2.2.2.2.1
              have h4 : k * half ≤ 1 * half := Nat.mul_le_mul_right _ (by omega)
              omega)
            refine ⟨A7, c7, fr7, by rw [hm, hl]; rfl, ?_, HRC.out.2.2.2.2.2, (HRC.out.2.2.2.2.1.drew).trans HK6.out (by simp), by rw [hm, hl]; exact HC7.out⟩
            rw [hm, hl]
            exact HRC.out.2.2.1.drew.keeps HK6.out (by simp)
        · have he1 : (s0.bs == r.bs) = false := by
            simp only [beq_eq_false_iff_ne, ne_eq]
            exact fun h => heq (Sec.eq_of_bs h)
          have HEQ := Lib.hid heq
          clear heq
          go_region_law ((refine step_call _ rfl 75 #[.slice A7 N c7, .int .u64 T] ?_ HRC.out.2.1 ?_
                          · (go_simp; done)
                          rintro e w9 ⟨rfl, hk6⟩
                          have hb9 := HRC.out.2.2.2.1.drew.keeps hk6 (by simp)
                          have hrw6 := row_of_range (by simpa using hb9.whole) r.cells_length
                          obtain ⟨hrow3, hrow4⟩ := hrw6
                          have HK6 := Lib.hid hk6
                          clear hb9 hk6
                          refine ⟨_, rfl, ?_⟩))
          all_goals
            clear hrow1 hrow2 hrow3 hrow4
            go_wp2_with fail
            go_ret2
            have hm := holdM_bad (half := half) H.out.2.1 (by rw [← HTN.out.1, ← HTN.out.2.1, ← HMM.out.1, ← HMM.out.2.1, ← HRC.out.1]; exact HEQ.out)
            exact ⟨none, 0, [], by rw [hm]; rfl, by rw [hm]; exact Reads.zero _ _ _, by simp, (HRC.out.2.2.2.2.1.drew).trans HK6.out (by simp), by rw [hm]; simp⟩
end

end Go.Proofs.Ytecjhaohabjkbaa
