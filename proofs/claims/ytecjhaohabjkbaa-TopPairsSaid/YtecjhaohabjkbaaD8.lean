/-
  CONTRACTS: Sync and Crash of the document's device; Sync of the device.
-/
import Derived.Test.YtecjhaohabjkbaaD7
namespace Go.Proofs.Ytecjhaohabjkbaa
open Go.RowKit
set_option linter.unusedVariables false

theorem rsync_ok (b : Nat) (l : List Sec) (pend : List Wr) (fp : List Nat) (w : World) (hd : RRep w b l pend fp) (hll : l.length ≤ 4096) (hlen : pend.length ≤ 100000) (hin : ∀ x ∈ pend, x.i < l.length) :
    Calls Try.prog 74 #[.pointer (some ⟨b, 0, none⟩)] w (RStep w fp (.int .i64 0) b (land l pend) []) := by
  have H := Lib.hid (rland_calls none 0 [] [] true b l pend fp w hd (Reads.zero _ _ _) hll hlen hin)
  go_enter Try.func74, Try.ntmps74
  go_wp2_with fail
  refine H.out.mono ?_
  rintro e w1 ⟨v, fp', rfl, hd1, hk1, hn1⟩
  go_wp2_with fail
  go_ret
  exact ⟨fp', rfl, hd1, hk1, hn1⟩
theorem rcrash_ok (S : Option Addr) (cS : Nat) (sv : List Bool) (fS : List Nat) (b : Nat) (l : List Sec) (pend : List Wr) (fp : List Nat) (w : World) (hd : RRep w b l pend fp) (hS : Reads w 1 S sv.length (bools sv) fS) (hll : l.length ≤ 4096) (hlen : pend.length ≤ 100000) (hin : ∀ x ∈ pend, x.i < l.length) :
    Calls Try.prog 73 #[.pointer (some ⟨b, 0, none⟩), .slice S sv.length cS] w (RStep w fp (.int .i64 0) b (land l (surv pend sv)) []) := by
  have H := Lib.hid (rland_calls S cS sv fS false b l pend fp w hd hS hll hlen hin)
  go_enter Try.func73, Try.ntmps73
  go_wp2_with fail
  refine H.out.mono ?_
  rintro e w1 ⟨v, fp', rfl, hd1, hk1, hn1⟩
  go_wp2_with fail
  go_ret
  exact ⟨fp', rfl, hd1, hk1, hn1⟩

theorem set_same {l : List Sec} {i : Nat} {s : Sec} (h : l[i]? = some s) : l.set i s = l := by
  obtain ⟨hi, h1⟩ := List.getElem?_eq_some_iff.1 h
  apply List.ext_getElem
  · simp
  · intro j h2 h3
    rw [List.getElem_set]
    split
    · rename_i e; subst e; exact h1.symm
    · rfl
theorem Sec.eq_of_bs {s t : Sec} (h : s.bs = t.bs) : s = t := by cases s; cases t; cases h; rfl

theorem sync_nil (w : World) : Calls Try.prog 49 #[.pointer none] w fun e w' => e = .returned (.int .i64 1) ∧ w = w' := by
  go_enter Try.func49, Try.ntmps49
  go_wp2_with fail
  go_ret
  exact ⟨rfl, rfl⟩

set_option maxHeartbeats 2000000 in set_option maxRecDepth 100000 in
/-- Sync: all writes last; what is read is as it was. -/
theorem sync_ok (b : Nat) (last now : List Sec) (loose : List Wr) (fp : List Nat) (w : World) (hd : DRep w b last now loose fp) (hll : last.length ≤ 4096) (hlen : loose.length ≤ 100000) (hin : ∀ x ∈ loose, x.i < last.length) :
    Calls Try.prog 49 #[.pointer (some ⟨b, 0, none⟩)] w (DStep w fp (.int .i64 0) b (land last loose) now []) := by
  obtain ⟨vL, vN, vW, fL, fN, fW, hb, hL, hN, hW, ha, rfl⟩ := hd
  obtain ⟨AW, cW, rfl, hcW, -⟩ := hW.form
  have c2 : w.cell? ⟨b, 2, none⟩ = some (.slice AW loose.length cW) := hb.cell 2
  have H := Lib.hid (And.intro hb (And.intro hL (And.intro hN (And.intro hW (And.intro ha hin)))))
  clear hb hL hN hW ha hin hcW
  go_enter Try.func49, Try.ntmps49
  go_wp2_with fail
  go_loopw [12] (fun v wr => ∃ k : Nat, k ≤ loose.length ∧ v = .int .i64 k ∧ Own wr 31 64 vL last.length (secs (land last (loose.take k))) fL ∧ Keeps w wr fL) (fun v _ => loose.length - (intOf v).toNat)
  case atStart => exact ⟨0, by omega, rfl, H.out.2.1, Keeps.refl _ _⟩
  case round =>
    obtain ⟨k, hk, rfl, hO, hK⟩ := hrel
    have hbk := H.out.1.keeps hK H.out.2.2.2.2.1.bL
    have hWk := H.out.2.2.2.1.keeps hK (fun k hk h => H.out.2.2.2.2.1.LW k h hk)
    by_cases hlt : k < loose.length
    · obtain ⟨x, hx⟩ : ∃ x, loose[k]? = some x := ⟨_, List.getElem?_eq_getElem hlt⟩
      have hxi : x.i < last.length := H.out.2.2.2.2.2 x (List.mem_of_getElem? hx)
      obtain ⟨g2, c2', hA, hfW, -, hr2, -⟩ := hWk.range Wr.cells 65 Wr.cells_length hx
      simp only [Value.slice.injEq] at hA
      obtain ⟨rfl, -, rfl⟩ := hA
      obtain ⟨y, hy⟩ : ∃ y, (land last (loose.take k))[x.i]? = some y := ⟨_, List.getElem?_eq_getElem (by rw [land_length]; exact hxi)⟩
      have hO' : Own wr 31 64 vL (land last (loose.take k)).length ((land last (loose.take k)).flatMap Sec.cells) fL := by rw [land_length]; exact hO
      obtain ⟨g, c, hvL, rfl, hcap, hrg, htg⟩ := hO'.range Sec.cells 64 Sec.cells_length hy
      rw [land_length] at hvL
      subst hvL
      have hsn : land last (loose.take (k + 1)) = (land last (loose.take k)).set x.i x.s := by
        rw [List.take_add_one, hx]
        exact land_snoc _ _ _
      obtain ⟨W2, hW2⟩ : ∃ W2, W2 = (wr.alloc (.cells Wr.zero.cells.toArray 96)).setCells wr.heap.size 0 x.cells := ⟨_, rfl⟩
      have hKW : Keeps wr W2 [] := by subst hW2; exact ((Keeps.refl wr []).alloc _).setCells (.inr (Nat.le_refl _)) _ _
      have hnz : Blk (wr.alloc (.cells Wr.zero.cells.toArray 96)) wr.heap.size 96 Wr.zero.cells.toArray := Blk.new _ _ _
      have hmay : MayRow (wr.alloc (.cells Wr.zero.cells.toArray 96)) (.pointer (some ⟨wr.heap.size, 0, none⟩)) 65 := may_of_there (hnz.there_ 0 65 (by simp [Wr.cells_length]))
      obtain ⟨r1, r2⟩ := row_of_range hr2 x.cells_length
      have hbx : Blk W2 wr.heap.size 96 x.cells.toArray := by
        subst hW2
        have hbx := hnz.setCells x.cells 0 _ _ (by simp [Wr.cells_length])
        rwa [show (Wr.zero.cells.toArray.toList.take 0 ++ x.cells ++ Wr.zero.cells.toArray.toList.drop (0 + x.cells.length)).toArray = x.cells.toArray by simp [Wr.cells_length]] at hbx
      have z0 : W2.cell? ⟨b, 0, none⟩ = some (.slice (some ⟨g, 0, none⟩) last.length c) := (hbk.keeps hKW (by simp)).cell 0
      have z1 : W2.cell? ⟨wr.heap.size, 0, none⟩ = some (.int .i64 x.i) := hbx.cell 0
      have hrs : W2.rangeAt wr.heap.size 1 x.s.cells := hbx.range 1 _ fun j u hu => by
        rw [List.getElem?_toArray, Wr.cells, show 1 + j = j + 1 by omega, List.getElem?_cons_succ]; exact hu
      have hOW := hO'.keeps hKW (by simp)
      obtain ⟨g', c', hA', hf', -, hrg2, htg2⟩ := hOW.range Sec.cells 64 Sec.cells_length hy
      simp only [Value.slice.injEq, Option.some.injEq, Addr.mk.injEq, and_true] at hA'
      obtain ⟨rfl, -, rfl⟩ := hA'
      obtain ⟨p1, p2⟩ := row_of_range hrg2 y.cells_length
      obtain ⟨p3, p4⟩ := row_of_range hrs x.s.cells_length
      have q1 : (0 : Int) ≤ (k : Int) := by omega
      have q2 : (k : Int) < (loose.length : Int) := by omega
      have y1 : (0 : Int) ≤ (x.i : Int) := by omega
      have y2 : (x.i : Int) < (last.length : Int) := by omega
      have hgw : g < w.heap.size := H.out.2.1.lt g (by simp)
      have hbw : b < w.heap.size := H.out.1.lt
      have hwrs := hK.size
      have hbg : b ≠ g := by have := H.out.2.2.2.2.1.bL; simpa using this
      have hwg : wr.heap.size ≠ g := by omega
      have hu := Try.underlying31
      have hs64 : (Try.prog.info? 31).map (·.size) = some x.s.cells.length := by rw [size_sec, x.s.cells_length]
      have hl64 := x.s.cells_length
      have hone := x.s.one
      have HH := Lib.hid (And.intro hOW (And.intro (hK.trans hKW (by simp)) (And.intro hsn (And.intro hy (And.intro hrs htg2)))))
      have q3 : MayRow W2 (.pointer (some ⟨g, x.i * 64, none⟩)) 64 := may_of_there htg2
      rw [hW2] at z0 z1 p1 p2 p3 p4 q3
      clear hO hO' hK hbk hWk hr2 hrg htg hrg2 htg2 hrs hOW hbx hnz hKW hsn hx
      by_cases he : y = x.s
      · have e1 : (y.bs == x.s.bs) = true := by rw [he]; simp
        go_wp2_with fail
        refine wp_still_drew (by kernel_rfl) (by kernel_rfl) ?_
        repeat still_step
        refine wpStill_nil ?_
        go_wp2_with fail
        rw [← hW2]
        go_roundw
        case rel =>
          obtain ⟨hOW, hK2, hsn, hy, hrs, htg⟩ := HH.out
          refine ⟨k + 1, by omega, by go_num, ?_, hK2.drew⟩
          rw [hsn, set_same (by rw [hy, he])]
          have := hOW.keeps ((Keeps.refl W2 []).drew) (by simp)
          rw [land_length] at this
          exact this
        case measure => simp [intOf]; omega
      · have e1 : (y.bs == x.s.bs) = false := by
          simp only [beq_eq_false_iff_ne, ne_eq]
          exact fun h => he (Sec.eq_of_bs h)
        go_wp2_with fail
        refine wp_still_drew (by kernel_rfl) (by kernel_rfl) ?_
        repeat still_step
        refine wpStill_nil ?_
        go_wp2_with fail
        refine wp_tail_drew 9 (by kernel_rfl) (by kernel_rfl) ?_
        simp only [List.take_succ_cons, List.take_zero, List.drop_succ_cons, List.drop_zero]
        repeat still_step
        refine wpStill_nil ?_
        go_wp2_with fail
        rw [← hW2]
        go_roundw
        case rel =>
          obtain ⟨hOW, hK2, hsn, hy, hrs, htg⟩ := HH.out
          refine ⟨k + 1, by omega, by go_num, ?_, (hK2.drew.drew).setCells (.inl (by simp)) _ _⟩
          have := (hOW.keeps (((Keeps.refl W2 []).drew).drew) (by simp)).setRange Sec.cells 64 Sec.cells_length (i := x.i) (by rw [land_length]; exact hxi) x.s rfl
          rw [← hsn, land_length] at this
          exact this
        case measure => simp [intOf]; omega
    · obtain rfl : k = loose.length := by omega
      rw [List.take_length] at hO
      have f2 := hbk.frozen 2
      have z2 : wr.cell? ⟨b, 2, none⟩ = some (.slice AW loose.length cW) := hbk.cell 2
      have HH := Lib.hid (And.intro hO (And.intro hK hbk))
      clear hO hK hbk hWk
      go_wp2_with fail
      go_ret
      obtain ⟨hO, hK, hbk⟩ := HH.out
      obtain ⟨hb, hL, hN, hW, ha, hin⟩ := H.out
      have hNk := hN.keeps hK (fun k hk h => ha.LN k h hk)
      refine ⟨b :: (fL ++ (fN ++ [])), rfl, ⟨_, _, _, fL, fN, [], hbk.set_ 2 _, ?_, hNk.set (p := ⟨b, 2, none⟩) ha.bN _, Own.bare _ _ _ _, ⟨ha.bL, ha.bN, by simp, ha.LN, by simp, by simp⟩, rfl⟩, ?_, ?_⟩
      · rw [land_length]
        exact hO.set (p := ⟨b, 2, none⟩) ha.bL _
      · exact (hK.mono (fun k _ hk => by simp [hk])).setCell (.inl (by simp)) _
      · intro k hk
        simp only [List.append_nil, List.mem_cons, List.mem_append] at hk ⊢
        rcases hk with h | h | h <;> simp [h]

end Go.Proofs.Ytecjhaohabjkbaa
