/-
  CONTRACTS: write.walk, write.Right over tokens that nest.
-/
import Derived.Test.YtbfcgiodpcchnaaW13
namespace Go.Proofs.Ytbfcgiodpcchnaa
open Go.RowKit
set_option linter.unusedVariables false
attribute [local go_sem] Oper.semAt_some

theorem walk_calls (A : Option Addr) (n c : Nat) (w : World) : Calls Try.prog 32 #[.slice A n c] w fun e w' =>
    e = .returned (.func (.func 37) #[] #[.pointer (some ⟨w.heap.size, 0, none⟩)]) ∧ w.alloc (.cells #[.slice A n c] 36) = w' := by
  go_enter Try.func32, Try.ntmps32
  go_wp2_with fail
  go_ret
  exact ⟨rfl, rfl⟩

theorem KeepsOthers.ofKeeps {w w' : World} {fp : List Nat} (h : Keeps w w' fp) (hf : ∀ k ∈ fp, ∀ o, w.heap[k]? = some o → o.isCells = true) : KeepsOthers w w' :=
  ⟨h.size, fun k o hk hc => (h.block k (Array.getElem?_eq_some_iff.1 hk).1 (fun hm => by rw [hf k hm o hk] at hc; cases hc)).trans hk⟩
def lastW (pre : List (Nat × Nat)) : Nat := match pre.getLast? with | some x => x.2 | none => 0
theorem lastW_snoc (pre : List (Nat × Nat)) (x : Nat × Nat) : lastW (pre ++ [x]) = x.2 := by simp [lastW]
theorem lastW_walk (T : List Tok) : lastW (walkL T) = (opens T T.length).length := by
  rcases Nat.eq_zero_or_pos T.length with h | h
  · rw [h, List.eq_nil_of_length_eq_zero h]
    rfl
  · have h1 : (walkL T).getLast? = some (T.length - 1, (opens T (T.length - 1 + 1)).length) := by
      rw [List.getLast?_eq_getElem?, walkL_length]
      exact walkL_at T (by omega)
    unfold lastW
    rw [h1]
    show (opens T (T.length - 1 + 1)).length = _
    congr 2
    omega

set_option maxRecDepth 100000 in
set_option maxHeartbeats 2000000 in
theorem wright_calls (A : Option Addr) (n c : Nat) (ts : List TV) (w : World) (hts : ToksAt w A n c ts) (hg : goodToks (ts.map TV.tok)) (h0 : opens (ts.map TV.tok) n = []) :
    Calls Try.prog 31 #[.slice A n c] w fun e w' => e = .returned (.bool true) ∧ Keeps w w' [] := by
  refine (callsIn_wide (n := 7)).1 ?_
  refine callsIn_of_wp_marks Try.func31 rfl trivial ?_ rfl
  simp only [Try.ntmps31, List.size_toArray, List.length_cons, List.length_nil, Nat.reduceAdd, Nat.reduceSub, Array.replicate_succ, Array.replicate_zero, List.push_toArray, List.append_toArray, List.nil_append, List.cons_append]
  have hn64 : (n : Int) ≤ 64 := by have h := hg.1; rw [List.length_map, hts.1] at h; omega
  have HH := Lib.hid (And.intro hts (And.intro hg h0))
  clear hts hg h0
  refine wpIn_wide.2 ?_
  go_wp2_with fail
  refine (walk_calls A n c _).mono ?_
  rintro e w1 ⟨rfl, rfl⟩
  go_wp2_with fail
  obtain ⟨w0, hw0⟩ : ∃ w0, w0 = ((w.alloc (.cells #[.int .i64 0] 3)).alloc (.cells #[.int .i64 0] 3)).alloc (.cells #[.slice A n c] 36) := ⟨_, rfl⟩
  have hk0 : Keeps w w0 [] := by subst hw0; exact (((Keeps.refl w []).alloc _).alloc _).alloc _
  have hs0 : w0.heap.size = w.heap.size + 3 := by subst hw0; simp
  have hN0 : Blk w0 w.heap.size 3 #[.int .i64 0] := by subst hw0; exact ((Blk.new w _ _).alloc _).alloc _
  have hN1 : Blk w0 (w.heap.size + 1) 3 #[.int .i64 0] := by subst hw0; exact (Blk.new' (w.alloc _) (by simp) _ _).alloc _
  have hbd : Blk w0 (w.heap.size + 1 + 1) 36 #[.slice A n c] := by subst hw0; exact Blk.new' ((w.alloc _).alloc _) (by simp) _ _
  have hin0 : ((w.alloc (.cells #[.int .i64 0] 3)).alloc (.cells #[.int .i64 0] 3)).alloc (.cells #[.slice A n c] 36) = w0 := hw0.symm
  rw [hin0]
  clear hin0 hw0
  obtain ⟨nb, hnb⟩ : ∃ nb, nb = w.heap.size := ⟨_, rfl⟩
  rw [← hnb] at hN0 hN1 hbd hs0 ⊢
  have hst := walk_all (nb + 1 + 1) A n c ts w0 hbd (HH.out.1.to hk0) HH.out.2.1
  refine (wpIn_wide (n := 7)).1 ?_
  have HS := Lib.hid (And.intro hs0 (And.intro hnb (And.intro hk0 (And.intro hN0 hN1))))
  refine wpIn_rangeFunc_all (F := Fence.wide) (n := 7) rfl (by omega) (gf := 37) (lb := #[.pointer (some ⟨nb + 1 + 1, 0, none⟩)]) rfl trivial (enters_of Try.func37 (by kernel_rfl) rfl)
    hst (fun h k => h.trans k) (fun W l o o' hl ho hw => TK.putObj W l o o' hl ho) (Below.refl _ _) (fun _ => rfl)
    (fun pre W => Keeps w0 W [nb, nb + 1] ∧ Blk W nb 3 #[.int .i64 (pre.length : Nat)] ∧ Blk W (nb + 1) 3 #[.int .i64 (lastW pre : Nat)])
    (fun _ _ _ => False)
    ?own
    (fun _ _ _ _ hs _ => hs)
    ⟨Keeps.refl _ _, hN0, hN1⟩
    (fun x => { tmps := #[Value.slice A n c, undef, Value.bool false, Value.pointer (some { block := nb, off := 0 }),
          Value.pointer (some { block := nb + 1, off := 0 }), undef, .int .i64 x.2, Value.slice A n c, Value.int IntKind.i64 ↑n,
          Value.bool (decide (64 < (n : Int))), Value.slice A n c,
          Value.func (Fn.func 37) #[] #[Value.pointer (some { block := nb + 1 + 1, off := 0 })], .int .i64 x.1, .int .i64 x.2, undef,
          undef, undef, undef, undef, undef, undef, undef, undef, undef, undef], defers := [] })
    ?assign ?body ?done ?stop
  case own =>
    rintro s W W' ⟨h1, h2, h3⟩ hb
    have hs0 := HS.out.1
    exact ⟨⟨hb.os.trans h1.os, hb.tape.trans h1.tape, hb.output.trans h1.output, Nat.le_trans h1.size hb.size, fun k hk hn => (hb.block k hk).trans (h1.block k hk hn)⟩, h2.to (hb.block nb (by omega)), h3.to (hb.block (nb + 1) (by omega))⟩
  case stop =>
    rintro D c pre W _ _ h _
    exact h.elim
  case assign =>
    intro l x W K hK
    unfold encW
    clear hnb hs0 hk0 hN0 hN1 hst hbd
    gi_wp2
    exact hK
  case body =>
    rintro l pre x W ⟨hKe, hB0, hB1⟩ hlt
    have z1 : W.cell? ⟨nb, 0, none⟩ = some (.int .i64 (pre.length : Nat)) := hB0.cell 0
    have z2 : W.cell? ⟨nb + 1, 0, none⟩ = some (.int .i64 (lastW pre : Nat)) := hB1.cell 0
    have z3 := hB0.frozen 0
    have z4 := hB1.frozen 0
    obtain ⟨m, hm⟩ : ∃ m, m = pre.length := ⟨_, rfl⟩
    rw [← hm] at z1
    have y1 : (m : Int) < 64 := by omega
    have y0 : (0 : Int) ≤ (m : Int) := by omega
    have HB := Lib.hid (And.intro hKe (And.intro hB0 (And.intro hB1 hm)))
    clear hKe hB0 hB1 hnb hs0 hk0 hN0 hN1 hst hbd hm
    gi_wp2
    obtain ⟨hKe, hB0, hB1, hm⟩ := HB.out
    have hkp : ∀ u v, Keeps W ((W.setCell ⟨nb, 0, none⟩ u).setCell ⟨nb + 1, 0, none⟩ v) [nb, nb + 1] := fun u v => ((Keeps.refl W [nb, nb + 1]).setCell (.inl (by simp)) u).setCell (.inl (by simp)) v
    have hty : ∀ k ∈ [nb, nb + 1], ∀ o, W.heap[k]? = some o → safeO o = false ∧ o.isCells = true := fun k hk o ho => by
      rcases List.mem_cons.1 hk with rfl | hk
      · have h4 : W.heap[k]? = some (.cells #[.int .i64 (pre.length : Nat)] 3) := hB0
        rw [h4] at ho
        cases ho
        exact ⟨rfl, rfl⟩
      · obtain rfl : k = nb + 1 := by simpa using hk
        have h4 : W.heap[nb + 1]? = some (.cells #[.int .i64 (lastW pre : Nat)] 3) := hB1
        rw [h4] at ho
        cases ho
        exact ⟨rfl, rfl⟩
    refine ⟨KeepsOthers.ofKeeps (hkp _ _) (fun k hk o ho => (hty k hk o ho).2), TK.ofKeeps (hkp _ _) (fun k hk o ho => (hty k hk o ho).1), hKe.trans (hkp _ _) (fun i _ h => h), ?_, ?_⟩
    · have h1 := (hB0.set_ 0 (.int .i64 ((m : Int) + 1))).far (p := ⟨nb + 1, 0, none⟩) (by simp) (.int .i64 x.2)
      have e : ((pre ++ [x]).length : Int) = (m : Int) + 1 := by simp [hm]
      rw [e]
      simpa using h1
    · have h1 := (hB1.far (p := ⟨nb, 0, none⟩) (by simp) (.int .i64 ((m : Int) + 1))).set_ 0 (.int .i64 x.2)
      rw [lastW_snoc]
      simpa using h1
  case done =>
    rintro D xs W hD rfl ⟨hKe, hB0, hB1⟩ hK
    have hl : (walkL (ts.map TV.tok)).length = n := by rw [walkL_length, List.length_map, HH.out.1.1]
    have hz : lastW (walkL (ts.map TV.tok)) = 0 := by
      rw [lastW_walk, List.length_map, HH.out.1.1, HH.out.2.2]
      rfl
    have z1 : W.cell? ⟨nb, 0, none⟩ = some (.int .i64 (n : Nat)) := by rw [← hl]; exact hB0.cell 0
    have z2 : W.cell? ⟨nb + 1, 0, none⟩ = some (.int .i64 0) := by have := hB1.cell 0; rw [hz] at this; exact this
    have HB := Lib.hid (And.intro hKe (And.intro hK (And.intro hk0 (And.intro hD (And.intro hs0 hnb)))))
    clear hKe hB0 hB1 hK hk0 hN0 hN1 hst hbd hs0 hnb hl hz
    go_wp2_with fail
    obtain ⟨hKe, hK, hk0, hD, hs0, hnb⟩ := HB.out
    have hg := grownBy_putObj' W D (.deferred none)
    refine ⟨by simp, .inl ⟨_, _, rfl, run_takeDeferred hK, ?_⟩⟩
    refine ⟨_, results_tmp rfl _ _ _, rfl, ?_⟩
    have hkW : Keeps w W [] := hk0.trans hKe (fun i hi h => by simp at h; omega)
    exact ⟨hg.os.trans hkW.os, hg.tape.trans hkW.tape, hg.output.trans hkW.output, Nat.le_trans hkW.size hg.size, fun k hk hn => (World.putObj_heap_other (by omega)).trans (hkW.block k hk hn)⟩

theorem results_cell_bool {fn : Func} {p : Tmp} (h : fn.results = #[.cell p 4]) (tmps : Array Value) (w : World) (b : Addr) {u : Bool} (hp : tmps.getD p undef = .pointer (some b)) (hc : w.cell? b = some (.bool u)) : (results fn tmps).run Try.prog w = .ok (.bool u) w := by
  have hp' : tmps[p]?.getD undef = .pointer (some b) := by simpa using hp
  simp only [results, h]
  simp [hp', asAddr]
  go_simp

set_option maxRecDepth 100000 in
set_option maxHeartbeats 2000000 in
theorem whole_calls (A : Option Addr) (n c : Nat) (ts : List TV) (w : World) (hts : ToksAt w A n c ts) (hg : goodToks (ts.map TV.tok)) (hn : 0 < n) (h0 : opens (ts.map TV.tok) n = []) (h1 : ∀ k, 0 < k → k < n → opens (ts.map TV.tok) k ≠ []) :
    Calls Try.prog 25 #[.slice A n c] w fun e w' => e = .returned (.bool true) ∧ Keeps w w' [] := by
  have hri := fun wx (h : ToksAt wx A n c ts) => wright_calls A n c ts wx h hg h0
  refine (callsIn_wide (n := 7)).1 ?_
  refine callsIn_of_wp_marks Try.func25 rfl trivial ?_ rfl
  simp only [Try.ntmps25, List.size_toArray, List.length_cons, List.length_nil, Nat.reduceAdd, Nat.reduceSub, Array.replicate_succ, Array.replicate_zero, List.push_toArray, List.append_toArray, List.nil_append, List.cons_append]
  have hn64 : (n : Int) ≤ 64 := by have h := hg.1; rw [List.length_map, hts.1] at h; omega
  have hn0 : (0 : Int) < (n : Int) := by omega
  have HRI := Lib.hid hri
  have HH := Lib.hid (And.intro hts (And.intro hg (And.intro h0 h1)))
  clear hts hg h0 h1 hri
  refine wpIn_wide.2 ?_
  go_wp2_with fail
  refine (HRI.out _ (HH.out.1.to (((Keeps.refl w []).alloc _).alloc _))).mono ?_
  rintro e w1 ⟨rfl, hk1⟩
  have d0 : w1.cell? ⟨w.heap.size, 0, none⟩ = some (.slice A n c) := (((Blk.new w 36 #[.slice A n c]).alloc _).keeps hk1 (by simp)).cell 0
  have hbx := (((Blk.new w 36 #[.slice A n c]).alloc (.cells #[.bool false] 4)).keeps hk1 (by simp))
  have hrc := ((Blk.new' (w.alloc (.cells #[.slice A n c] 36)) (n := w.heap.size + 1) (by simp) 4 #[.bool false]).keeps hk1 (by simp))
  have hk1' : Keeps w w1 [] := (((Keeps.refl w []).alloc _).alloc _).trans hk1 (by simp)
  have hz1 : w.heap.size + 2 ≤ w1.heap.size := by have := hk1.size; simp at this; omega
  have H1 := Lib.hid (And.intro hbx (And.intro hrc (And.intro hk1' hz1)))
  clear hbx hrc hk1' hz1 hk1
  go_wp2_with fail
  refine (walk_calls A n c _).mono ?_
  rintro e w2 ⟨rfl, hw2⟩
  subst hw2
  go_wp2_with fail
  obtain ⟨w0, hw0⟩ : ∃ w0, w0 = w1.alloc (.cells #[.slice A n c] 36) := ⟨_, rfl⟩
  have hk0 : Keeps w w0 [] := by subst hw0; exact H1.out.2.2.1.alloc _
  have hs0 : w.heap.size + 2 < w0.heap.size := by subst hw0; have := H1.out.2.2.2; simp; omega
  have hN0 : Blk w0 w.heap.size 36 #[.slice A n c] := by subst hw0; exact H1.out.1.alloc _
  have hN1 : Blk w0 (w.heap.size + 1) 4 #[.bool false] := by subst hw0; exact H1.out.2.1.alloc _
  have hbd : Blk w0 w1.heap.size 36 #[.slice A n c] := by subst hw0; exact Blk.new' w1 rfl _ _
  rw [← hw0]
  obtain ⟨nb, hnb⟩ : ∃ nb, nb = w.heap.size := ⟨_, rfl⟩
  obtain ⟨nc, hnc⟩ : ∃ nc, nc = w1.heap.size := ⟨_, rfl⟩
  rw [← hnb] at hN0 hN1 hs0 ⊢
  rw [← hnc] at hbd ⊢
  have hst := walk_all nc A n c ts w0 hbd (HH.out.1.to hk0) HH.out.2.1
  have HS := Lib.hid (And.intro hs0 (And.intro hnb (And.intro hk0 (And.intro hN0 (And.intro hN1 hst)))))
  clear hs0 hnb hk0 hN0 hN1 hst hnc hw0 hbd d0
  refine (wpIn_wide (n := 7)).1 ?_
  refine wpIn_rangeFunc_all (F := Fence.wide) (n := 7) rfl (by omega) (gf := 37) (lb := #[.pointer (some ⟨nc, 0, none⟩)]) rfl trivial (enters_of Try.func37 (by kernel_rfl) rfl)
    HS.out.2.2.2.2.2 (fun h k => h.trans k) (fun W l o o' hl ho hw => TK.putObj W l o o' hl ho) (Below.refl _ _) (fun _ => rfl)
    (fun pre W => Keeps w0 W [nb + 1] ∧ Blk W (nb + 1) 4 #[.bool false] ∧ ∀ y ∈ pre, y.2 ≠ 0)
    (fun cd pre W => cd = .ret ∧ Keeps w0 W [nb + 1] ∧ ∃ x, pre.getLast? = some x ∧ x.2 = 0 ∧ Blk W (nb + 1) 4 #[.bool ((x.1 : Int) == (n : Int) - 1)])
    ?own ?ownx
    ⟨Keeps.refl _ _, HS.out.2.2.2.2.1, by simp⟩
    (fun x => { tmps := #[Value.slice A n c, Value.pointer (some { block := nb, off := 0 }),
          Value.pointer (some { block := nb + 1, off := 0 }), .int .i64 x.1, .int .i64 x.2, Value.slice A n c,
          Value.int IntKind.i64 ↑n, Value.bool false, Value.bool false, Value.slice A n c, Value.bool true,
          Value.bool false, Value.bool false, Value.slice A n c,
          Value.func (Fn.func 37) #[] #[Value.pointer (some { block := nc, off := 0 })], .int .i64 x.1, .int .i64 x.2, undef,
          undef, undef, undef, undef, undef, undef], defers := [] })
    ?assign ?body ?done ?stop
  case own =>
    rintro s W W' ⟨h1, h2, h3⟩ hb
    have hs0 := HS.out.1
    exact ⟨⟨hb.os.trans h1.os, hb.tape.trans h1.tape, hb.output.trans h1.output, Nat.le_trans h1.size hb.size, fun k hk hn => (hb.block k hk).trans (h1.block k hk hn)⟩, h2.to (hb.block (nb + 1) (by omega)), h3⟩
  case ownx =>
    rintro cd s W W' ⟨h0, h1, x, h2, h3, h4⟩ hb
    have hs0 := HS.out.1
    exact ⟨h0, ⟨hb.os.trans h1.os, hb.tape.trans h1.tape, hb.output.trans h1.output, Nat.le_trans h1.size hb.size, fun k hk hn => (hb.block k hk).trans (h1.block k hk hn)⟩, x, h2, h3, h4.to (hb.block (nb + 1) (by omega))⟩
  case assign =>
    intro l x W K hK
    unfold encW
    gi_wp2
    exact hK
  case body =>
    rintro l pre x W ⟨hKe, hB1, hno⟩ hlt
    have hbox := HS.out.2.2.2.1.keeps hKe (by simp)
    have z1 : W.cell? ⟨nb, 0, none⟩ = some (.slice A n c) := hbox.cell 0
    have z2 : W.cell? ⟨nb + 1, 0, none⟩ = some (.bool false) := hB1.cell 0
    have z3 := hB1.frozen 0
    obtain ⟨x1, x2⟩ := x
    have HB := Lib.hid (And.intro hKe (And.intro hB1 hno))
    clear hKe hB1 hno hbox
    by_cases hx : x2 = 0
    · subst hx
      gi_wp2
      obtain ⟨hKe, hB1, hno⟩ := HB.out
      have hkp : ∀ u, Keeps W (W.setCell ⟨nb + 1, 0, none⟩ u) [nb + 1] := fun u => (Keeps.refl W [nb + 1]).setCell (.inl (by simp)) u
      refine ⟨KeepsOthers.ofKeeps (hkp _) (fun k hk o ho => ?_), rfl, hKe.trans (hkp _) (fun i _ h => h), (x1, 0), by simp, rfl, ?_⟩
      · obtain rfl : k = nb + 1 := by simpa using hk
        have h4 : W.heap[nb + 1]? = some (.cells #[.bool false] 4) := hB1
        rw [h4] at ho
        cases ho
        rfl
      · have h1 := hB1.set_ 0 (.bool ((x1 : Int) == (n : Int) - 1))
        simpa using h1
    · have hx0 : (0 : Int) < (x2 : Int) := by omega
      gi_wp2
      obtain ⟨hKe, hB1, hno⟩ := HB.out
      refine ⟨KeepsOthers.refl _, TK.refl _, hKe, hB1, ?_⟩
      intro y hy
      rcases List.mem_append.1 hy with h | h
      · exact hno y h
      · obtain rfl : y = (x1, x2) := by simpa using h
        exact hx
  case done =>
    rintro D xs W hD rfl ⟨hKe, hB1, hno⟩ hK
    exfalso
    have hl : (walkL (ts.map TV.tok)).length = n := by rw [walkL_length, List.length_map, HH.out.1.1]
    refine hno _ (List.mem_of_getElem? (walkL_at (ts.map TV.tok) (i := n - 1) (by rw [List.length_map, HH.out.1.1]; omega))) ?_
    show (opens (ts.map TV.tok) (n - 1 + 1)).length = 0
    rw [show n - 1 + 1 = n by omega, HH.out.2.2.1]
    rfl
  case stop =>
    rintro D cd pre W hD ⟨k, hkn, rfl⟩ ⟨rfl, hKe, x, hx, hx0, hB1⟩ hK
    have hTl : (ts.map TV.tok).length = n := by rw [List.length_map, HH.out.1.1]
    have hk0 : 0 < k := by
      rcases Nat.eq_zero_or_pos k with h | h
      · rw [h] at hx; simp at hx
      · exact h
    have hxe : x = (k - 1, (opens (ts.map TV.tok) (k - 1 + 1)).length) := by
      have h1 : (walkL (ts.map TV.tok))[k - 1]? = some x := by
        rw [List.getLast?_eq_getElem?, List.length_take, walkL_length, hTl, Nat.min_eq_left hkn, List.getElem?_take_of_lt (by omega)] at hx
        exact hx
      rw [walkL_at _ (by omega)] at h1
      exact (Option.some.inj h1).symm
    have hkn' : k = n := by
      rcases Nat.lt_or_ge k n with h | h
      · exfalso
        apply HH.out.2.2.2 k hk0 h
        apply List.eq_nil_of_length_eq_zero
        rw [hxe] at hx0
        rw [← hx0]
        show _ = (opens _ (k - 1 + 1)).length
        congr 2
        omega
      · omega
    have hdec : ((x.1 : Int) == (n : Int) - 1) = true := by
      rw [hxe]
      simp
      omega
    rw [hdec] at hB1
    have hs0 := HS.out.1
    have hnb := HS.out.2.1
    have hW0 := HS.out.2.2.1
    have z1 : (W.putObj D (.deferred none)).cell? ⟨nb + 1, 0, none⟩ = some (.bool true) := (hB1.to (World.putObj_heap_other (by omega))).cell 0
    have HB := Lib.hid (And.intro hKe (And.intro hK (And.intro hD (And.intro hs0 (And.intro hnb hW0)))))
    clear hKe hB1 hK hD hx hx0 hxe hdec hs0 hnb hW0
    gi_wp2
    obtain ⟨hKe, hK, hD, hs0, hnb, hW0⟩ := HB.out
    have hg := grownBy_putObj' W D (.deferred none)
    refine ⟨by simp, .inl ⟨_, _, rfl, run_takeDeferred hK, ?_⟩⟩
    refine ⟨_, results_cell_bool rfl _ _ _ rfl z1, rfl, ?_⟩
    have hkW : Keeps w W [] := hW0.trans hKe (fun i hi h => by simp at h; omega)
    exact ⟨hg.os.trans hkW.os, hg.tape.trans hkW.tape, hg.output.trans hkW.output, Nat.le_trans hkW.size hg.size, fun k hk hn => (World.putObj_heap_other (by omega)).trans (hkW.block k hk hn)⟩

end Go.Proofs.Ytbfcgiodpcchnaa
