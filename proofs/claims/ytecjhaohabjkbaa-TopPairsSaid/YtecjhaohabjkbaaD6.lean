/-
  CONTRACTS: the document's device (heliographref07.Device): New, Size, Pending, Read, land, Sync, Crash.
-/
import Derived.Test.YtecjhaohabjkbaaD5
namespace Go.Proofs.Ytecjhaohabjkbaa
open Go.RowKit
set_option linter.unusedVariables false

/-- The document's device at block b: what lasts, the writes that do not; its blocks. -/
def RRep (w : World) (b : Nat) (l : List Sec) (pend : List Wr) (fp : List Nat) : Prop :=
  ∃ vL vP fL fP, Blk w b 108 #[vL, vP] ∧ Own w 62 64 vL l.length (secs l) fL ∧ Own w 110 65 vP pend.length (wrs pend) fP ∧
    b ∉ fL ∧ b ∉ fP ∧ (∀ k ∈ fL, k ∉ fP) ∧ fp = b :: (fL ++ fP)
section
variable {w w' : World} {b : Nat} {l : List Sec} {pend : List Wr} {fp fp' : List Nat}
theorem RRep.lt (h : RRep w b l pend fp) : ∀ k ∈ fp, k < w.heap.size := by
  obtain ⟨vL, vP, fL, fP, hb, hL, hP, -, -, -, rfl⟩ := h
  intro k hk
  simp only [List.mem_cons, List.mem_append] at hk
  rcases hk with rfl | hk | hk
  · exact hb.lt
  · exact hL.lt k hk
  · exact hP.lt k hk
theorem RRep.keeps (h : RRep w b l pend fp) (hk : Keeps w w' fp') (hd : ∀ k ∈ fp, k ∉ fp') : RRep w' b l pend fp := by
  obtain ⟨vL, vP, fL, fP, hb, hL, hP, h1, h2, h3, rfl⟩ := h
  exact ⟨vL, vP, fL, fP, hb.keeps hk (hd b (by simp)), hL.keeps hk (fun k hm => hd k (by simp [hm])), hP.keeps hk (fun k hm => hd k (by simp [hm])), h1, h2, h3, rfl⟩
theorem RRep.nil (h : RRep w b l pend fp) (hk : Keeps w w' []) : RRep w' b l pend fp := h.keeps hk (by simp)
end
/-- what a step of the document's device leaves: it answers r. -/
def RStep (w : World) (fp : List Nat) (r : Value) (b : Nat) (l : List Sec) (pend : List Wr) (e : Ending) (w' : World) : Prop :=
  ∃ fp', e = .returned r ∧ RRep w' b l pend fp' ∧ Keeps w w' fp ∧ ∀ k ∈ fp', k ∈ fp ∨ w.heap.size ≤ k
/-- What a New leaves. -/
def RNew (w : World) (n : Nat) (e : Ending) (w' : World) : Prop :=
  ∃ b fp, e = .returned (.pointer (some ⟨b, 0, none⟩)) ∧ RRep w' b (List.replicate n Sec.zero) [] fp ∧ Keeps w w' [] ∧ ∀ k ∈ fp, w.heap.size ≤ k

section
variable (b : Nat) (l : List Sec) (pend : List Wr) (fp : List Nat) (w : World)
set_option maxHeartbeats 400000 in set_option maxRecDepth 100000 in
theorem rnew_ok (n : Nat) (h1 : 1 ≤ n) (hn : n ≤ 4096) : Calls Try.prog 32 #[.int .i64 n] w (RNew w n) := by
  have hmk := make_secs 105 62 Try.underlying105 info_rsec n hn
  have g1 : (1 : Int) ≤ (n : Int) := by omega
  have g2 : (n : Int) ≤ 4096 := by omega
  go_enter Try.func32, Try.ntmps32
  go_wp2_with fail
  go_ret
  have hA := (Blk.new w 62 (secs (List.replicate n Sec.zero)).toArray).alloc (.cells #[.slice (some ⟨w.heap.size, 0, none⟩) n n, .slice none 0 0] 108)
  refine ⟨w.heap.size + 1, [w.heap.size + 1, w.heap.size], rfl, ⟨_, _, [w.heap.size], [], Blk.new' (w.alloc (.cells (secs (List.replicate n Sec.zero)).toArray 62)) (by simp) _ _, ?_, Own.bare _ _ _ _, by simp, by simp, by simp, rfl⟩, ((Keeps.refl w []).alloc _).alloc _, by simp⟩
  simpa using (own_made h1 hn hA)

theorem rsize_calls (hd : RRep w b l pend fp) : Calls Try.prog 54 #[.pointer (some ⟨b, 0, none⟩)] w fun e w' => e = .returned (.int .i64 l.length) ∧ w = w' := by
  obtain ⟨vL, vP, fL, fP, hb, hL, hP, -, -, -, rfl⟩ := hd
  obtain ⟨A, c, rfl, hc, -⟩ := hL.form
  have c1 : w.cell? ⟨b, 0, none⟩ = some (.slice A l.length c) := hb.cell 0
  go_enter Try.func54, Try.ntmps54
  go_wp2_with fail
  go_ret
  exact ⟨rfl, rfl⟩


/-- what a read says. -/
def readAt (s : Sec) (pend : List Wr) (i : Nat) : Sec := pend.foldl (fun s x => if x.i = i then x.s else s) s
theorem readAt_snoc (s : Sec) (p : List Wr) (x : Wr) (i : Nat) : readAt s (p ++ [x]) i = if x.i = i then x.s else readAt s p i := by simp [readAt]
theorem land_at (ws : List Wr) : ∀ (l : List Sec) (i : Nat) (s : Sec), l[i]? = some s → (land l ws)[i]? = some (readAt s ws i) := by
  induction ws with
  | nil => intro l i s h; exact h
  | cons x r ih =>
    intro l i s h
    have hi := (List.getElem?_eq_some_iff.1 h).1
    refine ih (l.set x.i x.s) i (if x.i = i then x.s else s) ?_
    by_cases hx : x.i = i
    · subst hx; simp [hi]
    · simp [hx, h]

set_option maxHeartbeats 1000000 in set_option maxRecDepth 100000 in
theorem rread_ok (i : Nat) (s : Sec) (hd : RRep w b l pend fp) (hi : l[i]? = some s) (hn : l.length ≤ 4096) (hp : pend.length ≤ 100000) :
    Calls Try.prog 55 #[.pointer (some ⟨b, 0, none⟩), .int .i64 i] w fun e w' => e = .returned (.tuple #[.agg (readAt s pend i).cells.toArray, .int .i64 0]) ∧ Keeps w w' [] := by
  have hil : i < l.length := (List.getElem?_eq_some_iff.1 hi).1
  have hil' : (i : Int) < (l.length : Int) := by omega
  have hi0 : (0 : Int) ≤ (i : Int) := by omega
  obtain ⟨vL, vP, fL, fP, hb, hL, hP, h1, h2, h3, rfl⟩ := hd
  obtain ⟨g, c, rfl, rfl, hc, hr, ht⟩ := hL.range Sec.cells 64 Sec.cells_length hi
  obtain ⟨A, cP, rfl, hcP, -⟩ := hP.form
  have hbl := hb.lt
  have hb1 := hb.alloc (.cells Sec.zero.cells.toArray 62)
  have c0 : (w.alloc (.cells Sec.zero.cells.toArray 62)).cell? ⟨b, 0, none⟩ = some (.slice (some ⟨g, 0, none⟩) l.length c) := hb1.cell 0
  obtain ⟨hrow1, hrow2⟩ := row_of_range (World.rangeAt_alloc hr (.cells Sec.zero.cells.toArray 62)) s.cells_length
  have hm2 := may_new (w.alloc (.cells Sec.zero.cells.toArray 62)) 62
  have hsz : (w.alloc (.cells Sec.zero.cells.toArray 62)).heap.size = w.heap.size + 1 := by simp
  rw [hsz] at hm2
  go_enter Try.func55, Try.ntmps55
  go_wp2_with fail
  have hz0 := ((Blk.new w 62 Sec.zero.cells.toArray).alloc (.cells Sec.zero.cells.toArray 62)).farCells (b := w.heap.size + 1) (by omega) 0 s.cells
  have hv0 := blk_stored (w.alloc (.cells Sec.zero.cells.toArray 62)) 62 s
  have hk0 := keeps_stored ((Keeps.refl w []).alloc (.cells Sec.zero.cells.toArray 62)) 62 Sec.zero.cells s.cells (by simp)
  rw [hsz] at hv0 hk0
  have HI := Lib.hid (And.intro hz0 (And.intro hv0 hk0))
  have HP := Lib.hid (And.intro hb (And.intro hP h2))
  clear hz0 hv0 hk0 hb hP h2 hL hr ht hb1 c0 hrow1 hrow2 hm2 h1 h3
  go_loopw [7] (fun v wr => ∃ k : Nat, k ≤ pend.length ∧ v = .int .i64 k ∧ Blk wr w.heap.size 62 Sec.zero.cells.toArray ∧ Blk wr (w.heap.size + 1) 62 (readAt s (pend.take k) i).cells.toArray ∧ Keeps w wr []) (fun v _ => pend.length - (intOf v).toNat)
  case atStart => exact ⟨0, by omega, rfl, HI.out⟩
  case round =>
    obtain ⟨k, hk, rfl, hZ, hV, hK⟩ := hrel
    have hbk := HP.out.1.keeps hK (by simp)
    have c1 : wr.cell? ⟨b, 1, none⟩ = some (.slice A pend.length cP) := hbk.cell 1
    by_cases hlt : k < pend.length
    · obtain ⟨x, hx⟩ : ∃ x, pend[k]? = some x := ⟨_, List.getElem?_eq_getElem hlt⟩
      obtain ⟨g2, c2, hA, -, -, hr2, -⟩ := (HP.out.2.1.keeps hK (by simp)).range Wr.cells 65 Wr.cells_length hx
      simp only [Value.slice.injEq] at hA
      obtain ⟨rfl, -, rfl⟩ := hA
      have q1 : (0 : Int) ≤ (k : Int) := by omega
      have q2 : (k : Int) < (pend.length : Int) := by omega
      have ci : wr.cell? ⟨g2, k * 65, none⟩ = some (.int .i64 x.i) := by simpa using hr2 0 _ rfl
      have hrs : wr.rangeAt g2 (k * 65 + 1) x.s.cells := fun j u hu => by
        have := hr2 (j + 1) u (by simpa [Wr.cells] using hu)
        rwa [show k * 65 + (j + 1) = k * 65 + 1 + j by omega] at this
      obtain ⟨r1, r2⟩ := row_of_range hrs x.s.cells_length
      have hm := may_of_there (hV.there_ 0 64 (by simp [Sec.cells_length]))
      have htk : readAt s (pend.take (k + 1)) i = if x.i = i then x.s else readAt s (pend.take k) i := by
        rw [List.take_add_one, hx]
        exact readAt_snoc _ _ _ _
      have hst : Blk (wr.setCells (w.heap.size + 1) 0 x.s.cells) (w.heap.size + 1) 62 x.s.cells.toArray := by
        have := hV.setCells x.s.cells 0 _ _ (by simp [Sec.cells_length])
        rwa [show ((readAt s (pend.take k) i).cells.toArray.toList.take 0 ++ x.s.cells ++ (readAt s (pend.take k) i).cells.toArray.toList.drop (0 + x.s.cells.length)).toArray = x.s.cells.toArray by simp [Sec.cells_length]] at this
      have HH := Lib.hid (And.intro hZ (And.intro hV (And.intro hK (And.intro htk hst))))
      clear hZ hV hK htk hst hr2 hrs hbk hx
      by_cases hxi : x.i = i
      · have e1 : ((x.i : Int) == (i : Int)) = true := by simp [hxi]
        go_wp2_with fail
        go_roundw
        case rel =>
          obtain ⟨hZ, hV, hK, htk, hst⟩ := HH.out
          refine ⟨k + 1, by omega, by go_num, hZ.farCells (by omega) _ _, ?_, hK.setCells (.inr (by omega)) _ _⟩
          rw [htk, if_pos hxi]
          exact hst
        case measure => simp [intOf]; omega
      · have e1 : ((x.i : Int) == (i : Int)) = false := by simp; omega
        go_wp2_with fail
        go_roundw
        case rel =>
          obtain ⟨hZ, hV, hK, htk, hst⟩ := HH.out
          refine ⟨k + 1, by omega, by go_num, hZ, ?_, hK⟩
          rw [htk, if_neg hxi]
          exact hV
        case measure => simp [intOf]; omega
    · obtain rfl : k = pend.length := by omega
      rw [List.take_length] at hV
      obtain ⟨r1, r2⟩ := row_of_range hV.whole (Sec.cells_length _)
      have hm := may_of_there (hZ.there_ 0 64 (by simp [Sec.cells_length]))
      have HH := Lib.hid (And.intro hZ (And.intro hV hK))
      clear hZ hV hK hbk
      go_wp2_with fail
      refine ret_rsec rfl w.heap.size (readAt s pend i) rfl ?_ rfl ⟨rfl, HH.out.2.2.setCells (.inr (Nat.le_refl _)) _ _⟩
      exact World.rangeAt_setCells_same _ _ _ _ (by rw [Sec.cells_length]; exact hm.2)

set_option maxHeartbeats 400000 in set_option maxRecDepth 100000 in
theorem rread_range (i : Int) (hd : RRep w b l pend fp) (hi : i < 0 ∨ l.length ≤ i) (hn : l.length ≤ 4096) :
    Calls Try.prog 55 #[.pointer (some ⟨b, 0, none⟩), .int .i64 i] w fun e w' => e = .returned (.tuple #[.agg Sec.zero.cells.toArray, .int .i64 2]) ∧ Keeps w w' [] := by
  obtain ⟨vL, vP, fL, fP, hb, hL, hP, h1, h2, h3, rfl⟩ := hd
  obtain ⟨A, c, rfl, hc, -⟩ := hL.form
  have c0 : (w.alloc (.cells Sec.zero.cells.toArray 62)).cell? ⟨b, 0, none⟩ = some (.slice A l.length c) := (hb.alloc _).cell 0
  have hm := may_new w 62
  have hcl : (w.alloc (.cells Sec.zero.cells.toArray 62)).there w.heap.size 0 64 := hm.2
  by_cases h0 : i < 0
  · clear hi
    go_enter Try.func55, Try.ntmps55
    go_wp2_with fail
    refine ret_rsec rfl w.heap.size Sec.zero rfl ?_ rfl ⟨rfl, ((Keeps.refl w []).alloc _).setCells (.inr (Nat.le_refl _)) _ _⟩
    exact World.rangeAt_setCells_same _ _ _ _ (by rw [Sec.cells_length]; exact hcl)
  · have h0' : 0 ≤ i := by omega
    have h1' : (l.length : Int) ≤ i := by omega
    clear hi h0
    go_enter Try.func55, Try.ntmps55
    go_wp2_with fail
    refine ret_rsec rfl w.heap.size Sec.zero rfl ?_ rfl ⟨rfl, ((Keeps.refl w []).alloc _).setCells (.inr (Nat.le_refl _)) _ _⟩
    exact World.rangeAt_setCells_same _ _ _ _ (by rw [Sec.cells_length]; exact hcl)
end

end Go.Proofs.Ytecjhaohabjkbaa
