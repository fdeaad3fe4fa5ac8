/-
  CONTRACTS: dev.Device: may, Read, Size, Pending.
-/
import Derived.Test.YtecjhaohabjkbaaDZ
import Derived.Lib.Hide
import Derived.Lib.SliceRun
import Derived.WalkLawsBesides
import Derived.WalkSpells
import Derived.IntWalk
import Derived.Outline
import Derived.LoopTactic
import Derived.Deep.RegionHeld3
import Derived.Deep.QuietTactic
import Derived.BigQuiet
import Derived.Laws.ResultCell
import Derived.Deep.RegionLaw
namespace Go.Proofs.Ytecjhaohabjkbaa
open Go.RowKit
set_option linter.unusedVariables false

def secs (l : List Sec) : List Value := l.flatMap Sec.cells
def wrs (l : List Wr) : List Value := l.flatMap Wr.cells
theorem secs_one (l : List Sec) : ∀ u ∈ secs l, u.oneCell' = true := flat_one _ Sec.one l
theorem wrs_one (l : List Wr) : ∀ u ∈ wrs l, u.oneCell' = true := flat_one _ Wr.one l

theorem cell_setCells_ne (w : World) (b o : Nat) (vs : List Value) {g : Nat} (hg : g ≠ b) (p : Nat) : (w.setCells b o vs).cell? ⟨g, p, none⟩ = w.cell? ⟨g, p, none⟩ :=
  World.cell?_setCells_out b vs o w ⟨g, p, none⟩ (fun h _ => absurd h hg)
theorem range_setCells_ne {w : World} {g p : Nat} {cs : List Value} (h : w.rangeAt g p cs) (b o : Nat) (vs : List Value) (hg : g ≠ b) : (w.setCells b o vs).rangeAt g p cs := World.rangeAt_setCells_apart h b o vs (.inl hg)
theorem range_ofDrew {w : World} {b o : Nat} {cs : List Value} (h : w.drew.rangeAt b o cs) : w.rangeAt b o cs := (World.rangeAt_drew _ _ _ _).1 h
theorem range_drew {w : World} {b o : Nat} {cs : List Value} (h : w.rangeAt b o cs) : w.drew.rangeAt b o cs := (World.rangeAt_drew _ _ _ _).2 h
theorem there_ofDrew {w : World} {b o n : Nat} (h : w.drew.there b o n) : w.there b o n := (World.there_drew _ _ _ _).1 h
theorem there_drew {w : World} {b o n : Nat} (h : w.there b o n) : w.drew.there b o n := (World.there_drew _ _ _ _).2 h
/-- four lists of blocks that share none. -/
structure Apart (b : Nat) (fL fN fW : List Nat) : Prop where
  bL : b ∉ fL
  bN : b ∉ fN
  bW : b ∉ fW
  LN : ∀ k ∈ fL, k ∉ fN
  LW : ∀ k ∈ fL, k ∉ fW
  NW : ∀ k ∈ fN, k ∉ fW

/-- The device at block b: what lasts, what is read, the writes that do not last; its blocks. -/
def DRep (w : World) (b : Nat) (last now : List Sec) (loose : List Wr) (fp : List Nat) : Prop :=
  ∃ vL vN vW fL fN fW, Blk w b 91 #[vL, vN, vW] ∧ Own w 31 64 vL last.length (secs last) fL ∧ Own w 31 64 vN now.length (secs now) fN ∧
    Own w 96 65 vW loose.length (wrs loose) fW ∧ Apart b fL fN fW ∧ fp = b :: (fL ++ (fN ++ fW))

section
variable {w w' : World} {b : Nat} {last now : List Sec} {loose : List Wr} {fp fp' : List Nat}
theorem DRep.lt (h : DRep w b last now loose fp) : ∀ k ∈ fp, k < w.heap.size := by
  obtain ⟨vL, vN, vW, fL, fN, fW, hb, hL, hN, hW, ha, rfl⟩ := h
  intro k hk
  simp only [List.mem_cons, List.mem_append] at hk
  rcases hk with rfl | hk | hk | hk
  · exact hb.lt
  · exact hL.lt k hk
  · exact hN.lt k hk
  · exact hW.lt k hk
theorem DRep.keeps (h : DRep w b last now loose fp) (hk : Keeps w w' fp') (hd : ∀ k ∈ fp, k ∉ fp') : DRep w' b last now loose fp := by
  obtain ⟨vL, vN, vW, fL, fN, fW, hb, hL, hN, hW, ha, rfl⟩ := h
  exact ⟨vL, vN, vW, fL, fN, fW, hb.keeps hk (hd b (by simp)), hL.keeps hk (fun k hm => hd k (by simp [hm])), hN.keeps hk (fun k hm => hd k (by simp [hm])), hW.keeps hk (fun k hm => hd k (by simp [hm])), ha, rfl⟩
theorem DRep.nil (h : DRep w b last now loose fp) (hk : Keeps w w' []) : DRep w' b last now loose fp := h.keeps hk (by simp)
end

section
variable (b : Nat) (last now : List Sec) (loose : List Wr) (fp : List Nat) (w : World)

theorem may_ok (i : Int) (hd : DRep w b last now loose fp) (h0 : 0 ≤ i) (hi : i < now.length) (hn : now.length ≤ 4096) :
    Calls Try.prog 50 #[.pointer (some ⟨b, 0, none⟩), .int .i64 i] w fun e w' => e = .returned (.int .i64 0) ∧ w = w' := by
  obtain ⟨vL, vN, vW, fL, fN, fW, hb, hL, hN, hW, ha, rfl⟩ := hd
  obtain ⟨A, c, rfl, hc, -⟩ := hN.form
  have c1 : w.cell? ⟨b, 1, none⟩ = some (.slice A now.length c) := hb.cell 1
  go_enter Try.func50, Try.ntmps50
  go_wp2_with fail
  go_ret
  exact ⟨rfl, rfl⟩
theorem may_range (i : Int) (hd : DRep w b last now loose fp) (hi : i < 0 ∨ now.length ≤ i) (hn : now.length ≤ 4096) :
    Calls Try.prog 50 #[.pointer (some ⟨b, 0, none⟩), .int .i64 i] w fun e w' => e = .returned (.int .i64 2) ∧ w = w' := by
  obtain ⟨vL, vN, vW, fL, fN, fW, hb, hL, hN, hW, ha, rfl⟩ := hd
  obtain ⟨A, c, rfl, hc, -⟩ := hN.form
  have c1 : w.cell? ⟨b, 1, none⟩ = some (.slice A now.length c) := hb.cell 1
  by_cases h0 : i < 0
  · go_enter Try.func50, Try.ntmps50
    go_wp2_with fail
    go_ret
    exact ⟨rfl, rfl⟩
  · have h0' : 0 ≤ i := by omega
    have h1 : (now.length : Int) ≤ i := by omega
    clear hi h0
    go_enter Try.func50, Try.ntmps50
    go_wp2_with fail
    go_ret
    exact ⟨rfl, rfl⟩
theorem may_nil (i : Int) : Calls Try.prog 50 #[.pointer none, .int .i64 i] w fun e w' => e = .returned (.int .i64 1) ∧ w = w' := by
  go_enter Try.func50, Try.ntmps50
  go_wp2_with fail
  go_ret
  exact ⟨rfl, rfl⟩

theorem size_calls (hd : DRep w b last now loose fp) : Calls Try.prog 45 #[.pointer (some ⟨b, 0, none⟩)] w fun e w' => e = .returned (.int .i64 now.length) ∧ w = w' := by
  obtain ⟨vL, vN, vW, fL, fN, fW, hb, hL, hN, hW, ha, rfl⟩ := hd
  obtain ⟨A, c, rfl, hc, -⟩ := hN.form
  have c1 : w.cell? ⟨b, 1, none⟩ = some (.slice A now.length c) := hb.cell 1
  go_enter Try.func45, Try.ntmps45
  go_wp2_with fail
  go_ret
  exact ⟨rfl, rfl⟩
theorem size_nil : Calls Try.prog 45 #[.pointer none] w fun e w' => e = .returned (.int .i64 0) ∧ w = w' := by
  go_enter Try.func45, Try.ntmps45
  go_wp2_with fail
  go_ret
  exact ⟨rfl, rfl⟩

set_option maxHeartbeats 400000 in set_option maxRecDepth 100000 in
theorem read_ok (i : Nat) (s : Sec) (hd : DRep w b last now loose fp) (hi : now[i]? = some s) (hn : now.length ≤ 4096) :
    Calls Try.prog 37 #[.pointer (some ⟨b, 0, none⟩), .int .i64 i] w fun e w' => e = .returned (.tuple #[.agg s.cells.toArray, .int .i64 0]) ∧ Keeps w w' [] := by
  have hil : i < now.length := (List.getElem?_eq_some_iff.1 hi).1
  have hil' : (i : Int) < (now.length : Int) := by omega
  have hi0 : (0 : Int) ≤ (i : Int) := by omega
  have HM := Lib.hid (may_ok b last now loose fp (w.alloc (.cells Sec.zero.cells.toArray 31)) (i : Int) (hd.nil ((Keeps.refl w []).alloc _)) hi0 hil' hn)
  obtain ⟨vL, vN, vW, fL, fN, fW, hb, hL, hN, hW, ha, rfl⟩ := hd
  obtain ⟨g, c, rfl, rfl, hc, hr, ht⟩ := hN.range Sec.cells 64 Sec.cells_length hi
  have c1 : w.cell? ⟨b, 1, none⟩ = some (.slice (some ⟨g, 0, none⟩) now.length c) := hb.cell 1
  have hbl := hb.lt
  have hrow := row_of_range (World.rangeAt_alloc hr (.cells Sec.zero.cells.toArray 31)) s.cells_length
  obtain ⟨hrow1, hrow2⟩ := hrow
  have hmay : MayRow (w.alloc (.cells Sec.zero.cells.toArray 31)) (.pointer (some ⟨w.heap.size, 0, none⟩)) 64 := may_of_there ((Blk.new w _ _).there_ 0 64 (by simp [Sec.cells_length]))
  go_enter Try.func37, Try.ntmps37
  go_wp2_with fail
  refine HM.out.mono ?_
  rintro e w1 ⟨rfl, rfl⟩
  go_wp2_with fail
  refine ret_sec rfl w.heap.size s rfl ?_ rfl ⟨rfl, ((Keeps.refl w []).alloc _).setCells (.inr (Nat.le_refl _)) _ _⟩
  exact World.rangeAt_setCells_same _ _ _ _ (by rw [s.cells_length]; exact hmay.2)

set_option maxHeartbeats 400000 in set_option maxRecDepth 100000 in
theorem read_range (i : Int) (hd : DRep w b last now loose fp) (hi : i < 0 ∨ now.length ≤ i) (hn : now.length ≤ 4096) :
    Calls Try.prog 37 #[.pointer (some ⟨b, 0, none⟩), .int .i64 i] w fun e w' => e = .returned (.tuple #[.agg Sec.zero.cells.toArray, .int .i64 2]) ∧ Keeps w w' [] := by
  have HM := Lib.hid (may_range b last now loose fp (w.alloc (.cells Sec.zero.cells.toArray 31)) i (hd.nil ((Keeps.refl w []).alloc _)) hi hn)
  clear hi
  have hmay : MayRow (w.alloc (.cells Sec.zero.cells.toArray 31)) (.pointer (some ⟨w.heap.size, 0, none⟩)) 64 := may_of_there ((Blk.new w _ _).there_ 0 64 (by simp [Sec.cells_length]))
  go_enter Try.func37, Try.ntmps37
  go_wp2_with fail
  refine HM.out.mono ?_
  rintro e w1 ⟨rfl, rfl⟩
  go_wp2_with fail
  refine ret_sec rfl w.heap.size Sec.zero rfl ?_ rfl ⟨rfl, ((Keeps.refl w []).alloc _).setCells (.inr (Nat.le_refl _)) _ _⟩
  exact World.rangeAt_setCells_same _ _ _ _ (by rw [Sec.cells_length]; exact hmay.2)
theorem read_nil (i : Int) :
    Calls Try.prog 37 #[.pointer none, .int .i64 i] w fun e w' => e = .returned (.tuple #[.agg Sec.zero.cells.toArray, .int .i64 1]) ∧ Keeps w w' [] := by
  have HM := Lib.hid (may_nil (w.alloc (.cells Sec.zero.cells.toArray 31)) i)
  have hmay : MayRow (w.alloc (.cells Sec.zero.cells.toArray 31)) (.pointer (some ⟨w.heap.size, 0, none⟩)) 64 := may_of_there ((Blk.new w _ _).there_ 0 64 (by simp [Sec.cells_length]))
  go_enter Try.func37, Try.ntmps37
  go_wp2_with fail
  refine HM.out.mono ?_
  rintro e w1 ⟨rfl, rfl⟩
  go_wp2_with fail
  refine ret_sec rfl w.heap.size Sec.zero rfl ?_ rfl ⟨rfl, ((Keeps.refl w []).alloc _).setCells (.inr (Nat.le_refl _)) _ _⟩
  exact World.rangeAt_setCells_same _ _ _ _ (by rw [Sec.cells_length]; exact hmay.2)

/-- what a step of the device leaves: it answers r. -/
def DStep (w : World) (fp : List Nat) (r : Value) (b : Nat) (last now : List Sec) (loose : List Wr) (e : Ending) (w' : World) : Prop :=
  ∃ fp', e = .returned r ∧ DRep w' b last now loose fp' ∧ Keeps w w' fp ∧ ∀ k ∈ fp', k ∈ fp ∨ w.heap.size ≤ k

set_option maxHeartbeats 800000 in set_option maxRecDepth 100000 in
theorem write_ok (i : Nat) (s : Sec) (hd : DRep w b last now loose fp) (hi : i < now.length) (hn : now.length ≤ 4096) (hl : loose.length ≤ 100000) :
    Calls Try.prog 19 #[.pointer (some ⟨b, 0, none⟩), .int .i64 i, .agg s.cells.toArray] w (DStep w fp (.int .i64 0) b last (now.set i s) (loose ++ [⟨i, s⟩])) := by
  have hil' : (i : Int) < (now.length : Int) := by omega
  have hi0 : (0 : Int) ≤ (i : Int) := by omega
  have HM := Lib.hid (may_ok b last now loose fp (w.alloc (.cells s.cells.toArray 31)) (i : Int) (hd.nil ((Keeps.refl w []).alloc _)) hi0 hil' hn)
  obtain ⟨vL, vN, vW, fL, fN, fW, hb, hL, hN, hW, ha, rfl⟩ := hd
  obtain ⟨g, c, rfl, rfl, hc, hr, ht⟩ := hN.range Sec.cells 64 Sec.cells_length (List.getElem?_eq_getElem hi)
  have hbl := hb.lt
  have c1 : w.cell? ⟨b, 1, none⟩ = some (.slice (some ⟨g, 0, none⟩) now.length c) := hb.cell 1
  have hbox : ((w.alloc (.cells s.cells.toArray 31)).rangeAt w.heap.size 0 s.cells) := by simpa using (Blk.new w _ s.cells.toArray).whole
  have htb := World.there_alloc ht (.cells s.cells.toArray 31)
  have hu := Try.underlying31
  have hs64 : (Try.prog.info? 31).map (·.size) = some s.cells.length := by rw [size_sec, s.cells_length]
  have hl64 := s.cells_length
  have h1 := s.one
  have hbg : b ≠ g := by have := ha.bN; simpa using this
  have hgs : g < w.heap.size := hN.lt g (by simp)
  have hng : w.heap.size ≠ g := by omega
  go_enter Try.func19, Try.ntmps19
  go_wp2_with fail
  refine HM.out.mono ?_
  rintro e w1 ⟨rfl, rfl⟩
  go_wp2_with fail
  go_region_held3 (fun w' => w'.cell? ⟨b, 1, none⟩ = some (.slice (some ⟨g, 0, none⟩) now.length c) ∧ w'.rangeAt w.heap.size 0 s.cells ∧ w'.there g (i * 64) 64) (first | (go_keep; done) | (go_split_ands; and_intros <;> (repeat' (first
    | with_reducible assumption
    | with_reducible apply range_drew | with_reducible apply there_drew | with_reducible apply World.rangeAt_alloc | with_reducible apply World.there_alloc | with_reducible apply World.there_setCells
    | (with_reducible refine range_setCells_ne ?_ _ _ _ (by first | assumption | omega))
    | (with_reducible refine range_ofDrew ?_; with_reducible assumption) | (with_reducible refine there_ofDrew ?_; with_reducible assumption)
    | (rw [cell_setCells_ne _ _ _ _ (by first | assumption | omega)])
    | (rw [World.frozen?_setCells])
    | (simp [World.frozen?_alloc_past, World.cell?_alloc_some, World.cell?_setCell_far, *]; done))))) (fail)
  obtain ⟨w2, hw2⟩ : ∃ w2, w2 = (w.alloc (.cells s.cells.toArray 31)).drew.setCells g (i * 64) s.cells := ⟨_, rfl⟩
  have hk2 : Keeps w w2 [g] := by subst hw2; exact ((((Keeps.refl w [g]).alloc _).drew).setCells (.inl (by simp)) _ _)
  have box2 : w2.rangeAt w.heap.size 0 s.cells := by subst hw2; exact range_setCells_ne (by simpa using hbox) _ _ _ hng
  have hsz2 : w.heap.size < w2.heap.size := by subst hw2; rw [setCells_size]; simp
  have hb2 := hb.keeps hk2 (by simpa using hbg)
  have hL2 := hL.keeps hk2 (fun k hk => by have := ha.LN k hk; simpa using this)
  have hW2 := hW.keeps hk2 (fun k hk => by simp only [List.mem_singleton]; rintro rfl; exact ha.NW k (by simp) hk)
  have hN2 : Own w2 31 64 (.slice (some ⟨g, 0, none⟩) (now.set i s).length c) (now.set i s).length (secs (now.set i s)) [g] := by
    subst hw2
    have := (hN.keeps (((Keeps.refl w []).alloc (.cells s.cells.toArray 31)).drew) (by simp)).setRange Sec.cells 64 Sec.cells_length hi s rfl
    simpa [secs] using this
  have hin : ((w.alloc (.cells s.cells.toArray 31)).drew.setCells g (i * 64) s.cells) = w2 := hw2.symm
  rw [hin]
  clear hin hw2 hbox htb
  obtain ⟨B, cw, rfl, hcw, -⟩ := hW2.form
  have d2 : w2.cell? ⟨b, 2, none⟩ = some (.slice B loose.length cw) := hb2.cell 2
  have e2 := hb2.frozen 2
  have hbl2 : (⟨b, 2, none⟩ : Addr).block < w2.heap.size := hb2.lt
  have box2d := range_drew box2
  obtain ⟨hrow1, hrow2⟩ := row_of_range box2d s.cells_length
  obtain ⟨i0, hi0, hz0, hz1, hz2⟩ := info_parts info_wr
  have hsrc : Src Try.prog 65 89 (.slice (some ⟨w2.heap.size, 0, none⟩) 1 1) 1 (wrs [⟨i, s⟩]) (w2.drew.alloc (.cells (Wr.cells ⟨i, s⟩).toArray 96)) := by
    have := (Blk.new' w2.drew (n := w2.heap.size) rfl 96 (Wr.cells ⟨i, s⟩).toArray).src Try.underlying89 (size := 65) (n := 1) 1 (by simp [Wr.cells_length]) (Wr.one ⟨i, s⟩)
    simpa [wrs] using this
  have hb3 := hb2.drew.alloc (.cells (Wr.cells ⟨i, s⟩).toArray 96)
  have hW3 := (hW2.keeps ((Keeps.refl w2 []).drew) (by simp)).alloc (.cells (Wr.cells ⟨i, s⟩).toArray 96)
  have hc1 : loose.length + 1 ≤ maxLen := by unfold maxLen; omega
  have hc2 : (loose.length + 1) * 72 ≤ 140737488355328 := by omega
  have HA := Lib.hid (And.intro hi0 (And.intro hz0 (And.intro hz1 (And.intro hz2 (And.intro hW3 (And.intro hsrc (And.intro hc1 (And.intro hc2 (And.intro hb3 ha.bW)))))))))
  have HH := Lib.hid (And.intro hb2 (And.intro hL2 (And.intro hN2 (And.intro hk2 ha))))
  clear hW2 hb2 hL2 hN2 hk2 ha hi0 hz0 hz1 hz2 hW hb hL hN hr ht h1 hs64 hu box2d hsrc hb3 hW3 hc1 hc2
  go_wp2_with fail
  go_region_law ((
                  refine step_append_mine _ rfl (.tmp 24) (.tmp 28) _ _ rfl 96 i0 _ 65 72 Try.underlying89 HA.out.1 HA.out.2.1 HA.out.2.2.1 HA.out.2.2.2.1 rfl _ loose.length (wrs loose) fW rfl HA.out.2.2.2.2.1 _ 1 (wrs [⟨i, s⟩]) rfl HA.out.2.2.2.2.2.1 HA.out.2.2.2.2.2.2.1 HA.out.2.2.2.2.2.2.2.1 ?_
                  intro v w3 f3 hown3 hkeep3 hf3
                  obtain ⟨A3, n3, rfl, -, -⟩ := hown3.form
                  have hb4 := HA.out.2.2.2.2.2.2.2.2.1.keeps hkeep3 HA.out.2.2.2.2.2.2.2.2.2
                  have d3 : w3.cell? ⟨b, 2, none⟩ = some (.slice B loose.length cw) := hb4.cell 2
                  have e3 := hb4.frozen 2))
  all_goals
    go_wp2_with fail
    go_ret
    obtain ⟨hb2, hL2, hN2, hk2, ha⟩ := HH.out
    have hk3 : Keeps w2 w3 fW := ((Keeps.refl w2 fW).drew.alloc _).trans hkeep3 (fun i _ hi => hi)
    have hsz := hk2.size
    have hb9 : b ∉ f3 := fun hm => by
      rcases hf3 b hm with h | h
      · exact ha.bW h
      · simp at h; omega
    have hg9 : g ∉ f3 := fun hm => by
      rcases hf3 g hm with h | h
      · exact ha.NW g (by simp) h
      · simp at h; omega
    have hL9 : ∀ k ∈ fL, k ∉ f3 := fun k hk hm => by
      rcases hf3 k hm with h | h
      · exact ha.LW k hk h
      · have := hL2.lt k hk
        simp at h; omega
    have hL3 := (hL2.keeps hk3 ha.LW).set (p := ⟨b, 2, none⟩) ha.bL (.slice A3 (loose.length + 1) n3)
    have hN3 := (hN2.keeps hk3 ha.NW).set (p := ⟨b, 2, none⟩) ha.bN (.slice A3 (loose.length + 1) n3)
    have hW4 := hown3.set (p := ⟨b, 2, none⟩) hb9 (.slice A3 (loose.length + 1) n3)
    refine ⟨b :: (fL ++ ([g] ++ f3)), rfl, ⟨_, _, _, fL, [g], f3, hb4.set_ 2 _, hL3, ?_, ?_, ⟨ha.bL, ha.bN, hb9, ha.LN, hL9, by simpa using hg9⟩, rfl⟩, ?_, ?_⟩
    · simpa using hN3
    · simpa [wrs] using hW4
    · exact ((hk2.mono (fun k _ hk => by simp at hk; simp [hk])).trans hk3 (fun i _ hi => by simp [hi])).setCell (.inl (by simp)) _
    · intro k hk
      simp only [List.mem_cons, List.mem_append, List.not_mem_nil, or_false] at hk ⊢
      rcases hk with h | h | h | h
      · simp [h]
      · simp [h]
      · simp [h]
      · rcases hf3 k h with h | h
        · simp [h]
        · right
          simp at h; omega

set_option maxHeartbeats 400000 in set_option maxRecDepth 100000 in
theorem write_range (i : Int) (s : Sec) (hd : DRep w b last now loose fp) (hi : i < 0 ∨ now.length ≤ i) (hn : now.length ≤ 4096) :
    Calls Try.prog 19 #[.pointer (some ⟨b, 0, none⟩), .int .i64 i, .agg s.cells.toArray] w (DStep w fp (.int .i64 2) b last now loose) := by
  have HM := Lib.hid (may_range b last now loose fp (w.alloc (.cells s.cells.toArray 31)) i (hd.nil ((Keeps.refl w []).alloc _)) hi hn)
  clear hi
  go_enter Try.func19, Try.ntmps19
  go_wp2_with fail
  refine HM.out.mono ?_
  rintro e w1 ⟨rfl, rfl⟩
  go_wp2_with fail
  go_ret
  exact ⟨fp, rfl, hd.nil ((Keeps.refl w []).alloc _), (Keeps.refl w fp).alloc _, fun k hk => .inl hk⟩
theorem write_nil (i : Int) (s : Sec) : Calls Try.prog 19 #[.pointer none, .int .i64 i, .agg s.cells.toArray] w fun e w' => e = .returned (.int .i64 1) ∧ Keeps w w' [] := by
  have HM := Lib.hid (may_nil (w.alloc (.cells s.cells.toArray 31)) i)
  go_enter Try.func19, Try.ntmps19
  go_wp2_with fail
  refine HM.out.mono ?_
  rintro e w1 ⟨rfl, rfl⟩
  go_wp2_with fail
  go_ret
  exact ⟨rfl, (Keeps.refl w []).alloc _⟩
end

end Go.Proofs.Ytecjhaohabjkbaa
