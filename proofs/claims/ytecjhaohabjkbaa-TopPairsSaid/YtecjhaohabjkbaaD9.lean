/-
  CONTRACTS: Write of the document's device.
-/
import Derived.Test.YtecjhaohabjkbaaD8
namespace Go.Proofs.Ytecjhaohabjkbaa
open Go.RowKit
set_option linter.unusedVariables false

set_option maxHeartbeats 400000 in set_option maxRecDepth 100000 in
theorem rwrite_range (b : Nat) (l : List Sec) (pend : List Wr) (fp : List Nat) (w : World) (i : Int) (s : Sec) (hd : RRep w b l pend fp) (hi : i < 0 ∨ l.length ≤ i) (hn : l.length ≤ 4096) :
    Calls Try.prog 33 #[.pointer (some ⟨b, 0, none⟩), .int .i64 i, .agg s.cells.toArray] w (RStep w fp (.int .i64 2) b l pend) := by
  have hd' := hd.nil ((Keeps.refl w []).alloc (.cells s.cells.toArray 62))
  have Hd := Lib.hid hd'
  obtain ⟨vL, vP, fL, fP, hb, hL, hP, h1, h2, h3, rfl⟩ := hd'
  obtain ⟨A, c, rfl, hc, -⟩ := hL.form
  have c0 : (w.alloc (.cells s.cells.toArray 62)).cell? ⟨b, 0, none⟩ = some (.slice A l.length c) := hb.cell 0
  clear hb hL hP h1 h2 h3
  by_cases h0 : i < 0
  · clear hi
    go_enter Try.func33, Try.ntmps33
    go_wp2_with fail
    go_ret
    exact ⟨_, rfl, Hd.out, (Keeps.refl w _).alloc _, fun k hk => .inl hk⟩
  · have h0' : 0 ≤ i := by omega
    have h1' : (l.length : Int) ≤ i := by omega
    clear hi h0
    go_enter Try.func33, Try.ntmps33
    go_wp2_with fail
    go_ret
    exact ⟨_, rfl, Hd.out, (Keeps.refl w _).alloc _, fun k hk => .inl hk⟩

theorem lit_src {w : World} {g : Nat} {t tx e' : TypeId} {x : Wr} (h : Blk w g t x.cells.toArray) (hu : Try.prog.underlying tx = some (.slice e')) : Src Try.prog 65 tx (.slice (some ⟨g, 0, none⟩) 1 1) 1 (wrs [x]) w := by
  have := h.src hu (size := 65) (n := 1) 1 (by simp [Wr.cells_length]) x.one
  simpa [wrs] using this

theorem rwrite_end {w w2 w4 : World} {b : Nat} {l : List Sec} {pend : List Wr} {x : Wr} {vL vP v4 : Value} {fL fP f4 : List Nat}
    (HH : Blk w2 b 108 #[vL, vP] ∧ Own w2 62 64 vL l.length (secs l) fL ∧ b ∉ fL ∧ Keeps w w2 [] ∧ ∀ k ∈ b :: (fL ++ fP), k < w.heap.size)
    (K4 : Keeps w2 w4 []) (hown : Own w4 110 65 v4 (pend.length + 1) (wrs pend ++ wrs [x]) f4) (nw : ∀ k ∈ f4, w2.heap.size ≤ k) :
    RStep w (b :: (fL ++ fP)) (.int .i64 0) b l (pend ++ [x]) (.returned (.int .i64 0)) (w4.setCell ⟨b, 1, none⟩ v4) := by
  obtain ⟨hb, hL, h1, hk2, hlt⟩ := HH
  have hs := hk2.size
  have hb4 : b ∉ f4 := fun h => by have := nw b h; have := hlt b (by simp); omega
  have hL4 : ∀ k ∈ fL, k ∉ f4 := fun k hk h => by have := nw k h; have := hlt k (by simp [hk]); omega
  refine ⟨b :: (fL ++ f4), rfl, ⟨_, _, fL, f4, (hb.keeps K4 (by simp)).set_ 1 _, (hL.keeps K4 (by simp)).set (p := ⟨b, 1, none⟩) h1 _, ?_, h1, hb4, hL4, rfl⟩, ?_, ?_⟩
  · have := hown.set (p := ⟨b, 1, none⟩) hb4 v4
    simpa [wrs] using this
  · exact ((hk2.trans K4 (by simp)).mono (by simp)).setCell (.inl (by simp)) _
  · intro k hk
    simp only [List.mem_cons, List.mem_append] at hk ⊢
    rcases hk with h | h | h
    · simp [h]
    · simp [h]
    · right; have := nw k h; omega

set_option maxHeartbeats 4000000 in set_option maxRecDepth 100000 in
theorem rwrite_ok (b : Nat) (l : List Sec) (pend : List Wr) (fp : List Nat) (w : World) (i : Nat) (s : Sec) (hd : RRep w b l pend fp) (hi : i < l.length) (hn : l.length ≤ 4096) (hp : pend.length ≤ 100000) :
    Calls Try.prog 33 #[.pointer (some ⟨b, 0, none⟩), .int .i64 i, .agg s.cells.toArray] w (RStep w fp (.int .i64 0) b l (pend ++ [⟨i, s⟩])) := by
  obtain ⟨w2, hw2⟩ : ∃ w2, w2 = w.alloc (.cells s.cells.toArray 62) := ⟨_, rfl⟩
  have hk2 : Keeps w w2 [] := by subst hw2; exact (Keeps.refl w []).alloc _
  have hd' := hd.nil hk2
  have hsz2 : w2.heap.size = w.heap.size + 1 := by subst hw2; simp
  have hbox : Blk w2 w.heap.size 62 s.cells.toArray := by subst hw2; exact Blk.new w _ _
  obtain ⟨r1, r2⟩ := row_of_range hbox.whole s.cells_length
  obtain ⟨r3, r4⟩ := row_of_range (hbox.alloc (.cells #[] 110)).whole s.cells_length
  have hblt := hd.lt
  obtain ⟨vL, vP, fL, fP, hb, hL, hP, h1, h2, h3, rfl⟩ := hd'
  obtain ⟨A, c, rfl, hc, -⟩ := hL.form
  obtain ⟨AP, cP, rfl, hcP, frP, hrP, hfrP⟩ := hP.form
  have c0 : w2.cell? ⟨b, 0, none⟩ = some (.slice A l.length c) := hb.cell 0
  have c1 : w2.cell? ⟨b, 1, none⟩ = some (.slice AP pend.length cP) := hb.cell 1
  have f1 := hb.frozen 1
  have hbl : b < w2.heap.size := hb.lt
  have hi0 : (0 : Int) ≤ (i : Int) := by omega
  have hi1 : (i : Int) < (l.length : Int) := by omega
  obtain ⟨i0, hi', hz0, hz1, hz2⟩ := info_parts info_rwr
  have hone := wrs_one [⟨i, s⟩]
  have hone2 := wrs_one pend
  have HA := Lib.hid (And.intro hi' (And.intro hz0 (And.intro hz1 (And.intro hz2 (And.intro hrP (And.intro hone hone2))))))
  have HH := Lib.hid (And.intro hb (And.intro hL (And.intro h1 (And.intro hk2 (And.intro hblt hbox)))))
  clear hi' hz0 hz1 hz2 hrP hone hone2 hb hL hP h1 h2 h3 hfrP hbox hk2 hd hblt
  clear hsz2
  rw [hw2] at r1 r2 r3 r4 c0 c1 f1
  go_enter Try.func33, Try.ntmps33
  go_wp2_with fail
  rw [← hw2] at r1 r2 r3 r4 c0 c1 f1 ⊢
  clear hw2
  go_region_law (first
    | (refine step_append_mine _ rfl (.tmp 23) (.tmp 27) _ _ rfl 110 i0 _ 65 72 Try.underlying106 HA.out.1 HA.out.2.1 HA.out.2.2.1 HA.out.2.2.2.1 rfl _ 0 [] [] rfl (Own.bare _ _ _ _) _ pend.length (wrs pend) rfl ?src (by unfold maxLen; omega) (by omega) ?_
       case src =>
         first
           | exact ((HA.out.2.2.2.2.1.alloc _).drew).src Try.underlying106 HA.out.2.2.2.2.2.2 cP
           | exact (((HA.out.2.2.2.2.1.alloc _).alloc _).drew).src Try.underlying106 HA.out.2.2.2.2.2.2 cP
       intro v3 w3 f3 hown3 hkeep3 hf3
       simp only [Nat.zero_add, List.nil_append] at hown3
       obtain ⟨A3, n3, rfl, -, -⟩ := hown3.form
       have K3 : Keeps w2 w3 [] := by
         refine Keeps.trans ?_ hkeep3 (by simp)
         repeat' first | with_reducible exact Keeps.refl _ _ | with_reducible apply Keeps.drew | with_reducible apply Keeps.alloc
       have d3 : w3.cell? ⟨b, 1, none⟩ = some (.slice AP pend.length cP) := (HH.out.1.keeps K3 (by simp)).cell 1
       have e3 := (HH.out.1.keeps K3 (by simp)).frozen 1
       obtain ⟨s1, s2⟩ := row_of_range (HH.out.2.2.2.2.2.keeps K3 (by simp)).whole s.cells_length)
    | (refine step_append_mine _ rfl (.tmp 28) (.tmp 32) _ _ rfl 110 i0 _ 65 72 Try.underlying106 HA.out.1 HA.out.2.1 HA.out.2.2.1 HA.out.2.2.2.1 rfl _ pend.length (wrs pend) f3 rfl ?own _ 1 (wrs [⟨i, s⟩]) rfl ?src (by unfold maxLen; omega) (by omega) ?_
       case own =>
         first
           | exact hown3
           | exact hown3.alloc _
       case src =>
         first
           | exact lit_src (Blk.new' _ (by simp) _ _) Try.underlying106
           | exact lit_src ((Blk.new' _ (by simp) _ _).keeps hkeep3.ofDrew (by simp)) Try.underlying106
           | exact lit_src (((Blk.new' _ (by simp) _ _).alloc _).keeps hkeep3.ofDrew (by simp)) Try.underlying106
       intro v4 w4 f4 hown4 hkeep4 hf4
       obtain ⟨A4, n4, rfl, -, -⟩ := hown4.form
       have K4 : Keeps w2 w4 [] := by
         refine Keeps.trans ?_ hkeep4 (fun i hi hm => by have := hf3 i hm; simp at this; omega)
         first
           | exact K3
           | exact K3.alloc _
       have d4 : w4.cell? ⟨b, 1, none⟩ = some (.slice AP pend.length cP) := (HH.out.1.keeps K4 (by simp)).cell 1
       have e4 := (HH.out.1.keeps K4 (by simp)).frozen 1))
  all_goals
    go_wp2_with fail
    go_ret
    have ks3 := K3.size
    exact rwrite_end (fP := fP) ⟨HH.out.1, HH.out.2.1, HH.out.2.2.1, HH.out.2.2.2.1, HH.out.2.2.2.2.1⟩ K4 hown4 (fun k hk => by
      rcases hf4 k hk with h | h
      · have := hf3 k h
        (try simp at this)
        omega
      · (try simp at h)
        omega)

end Go.Proofs.Ytecjhaohabjkbaa
