/-
  CONTRACTS: kv's Size, Scan: ranges over the pairs in order.
-/
import Derived.Test.YtecjhaohabjkbaaK3
import Derived.Test.YtecjhaohabjkbaaCalm
namespace Go.Proofs.Ytecjhaohabjkbaa
open Go.RowKit
set_option linter.unusedVariables false
attribute [local go_sem] Oper.semAt_some

theorem sorted_calls (mb : Nat) (w : World) : Calls Try.prog 63 #[.pointer (some ⟨mb, 0, none⟩), .string ⟨#[]⟩] w fun e w' =>
    e = .returned (.func (.func 76) #[] #[.pointer (some ⟨w.heap.size, 0, none⟩), .pointer (some ⟨w.heap.size + 1, 0, none⟩)]) ∧
      (w.alloc (.cells #[.pointer (some ⟨mb, 0, none⟩)] 73)).alloc (.cells #[.string ⟨#[]⟩] 9) = w' := by
  go_enter Try.func63, Try.ntmps63
  go_wp2_with fail
  go_ret
  exact ⟨rfl, rfl⟩

/-- small pairs. -/
abbrev SP := {x : List UInt8 × List UInt8 // x.1.length ≤ 64 ∧ x.2.length ≤ 60}
theorem sorted_stops (bd bp mb bm : Nat) (ps : PL) (hn : ps.length ≤ 1000) (hsm : Small ps) (w : World)
    (hbd : Blk w bd 73 #[.pointer (some ⟨mb, 0, none⟩)]) (hbp : Blk w bp 9 #[.string ⟨#[]⟩]) (hm : KRep w mb bm ps) :
    SeqStopsK Fence.wide 6 Try.prog 76 #[.pointer (some ⟨bd, 0, none⟩), .pointer (some ⟨bp, 0, none⟩)] (fun x : SP => #[pairV x.1]) TK
      (fun xs => xs.map (·.1) = ps) (fun _ => True) ps.length w := fun l J Jx W hB hJ hJx hY h0 => by
  have hk' := TK.ofBelow hB
  refine (sorted1_in l bd bp mb bm ps hn (fun p hp => by have := hsm p hp; omega) (fun pre W => ∃ pre' : List SP, pre'.map (·.1) = pre ∧ J pre' W) (fun pre W => ∃ pre', Jx pre' W) W ?_ ?_ (hk'.blk hbd (by decide)) (hk'.blk hbp (by decide)) (hk'.krep hm) ⟨[], rfl, h0⟩).mono ?_
  · rintro pre x W1 hx ⟨pre', rfl, hj⟩ hlt
    obtain ⟨fn, tmps, assign, body, hy, hR⟩ := hY pre' ⟨x, (hsm x hx).2⟩ W1 hj (by simpa using hlt)
    refine ⟨fn, tmps, assign, body, hy, hR.mono ?_⟩
    rintro e W' (⟨rfl, h1, h2⟩ | ⟨rfl, h1⟩)
    · exact .inl ⟨rfl, ⟨_, by simp, h1⟩, h2⟩
    · exact .inr ⟨rfl, _, h1⟩
  · rintro s A B row ⟨p', rfl, hj⟩ hg hr
    exact ⟨p', rfl, hJ _ _ _ _ hj hg hr⟩
  · rintro e W' ⟨he, ⟨ys, rfl, p', hp, hj⟩ | ⟨pre, p', hj⟩⟩
    · exact ⟨he, .inl ⟨p', hp, hj⟩⟩
    · exact ⟨he, .inr ⟨p', trivial, hj⟩⟩

/-- how many bytes. -/
def sizeP (ps : PL) : Nat := (ps.map fun p => 3 + p.1.length + p.2.length).sum
theorem sizeP_snoc (ps : PL) (p : List UInt8 × List UInt8) : sizeP (ps ++ [p]) = sizeP ps + (3 + p.1.length + p.2.length) := by simp [sizeP]
theorem sizeP_le : ∀ pre : List SP, sizeP (pre.map (·.1)) ≤ 127 * pre.length
  | [] => by simp [sizeP]
  | p :: r => by
    have h := sizeP_le r
    have h2 := p.2
    simp only [sizeP, List.map_cons, List.sum_cons, List.length_cons] at h ⊢
    omega

set_option maxRecDepth 100000 in
set_option maxHeartbeats 2000000 in set_option maxRecDepth 100000 in
theorem ksize_calls (mb bm : Nat) (ps : PL) (w : World) (hm : KRep w mb bm ps) (hn : ps.length ≤ 20) (hsm : Small ps) :
    Calls Try.prog 43 #[.pointer (some ⟨mb, 0, none⟩)] w fun e w' => e = .returned (.int .i64 (sizeP ps)) ∧ Keeps w w' [] := by
  refine (callsIn_wide (n := 7)).1 ?_
  refine callsIn_of_wp_marks Try.func43 rfl trivial ?_ rfl
  simp only [Try.ntmps43, List.size_toArray, List.length_cons, List.length_nil, Nat.reduceAdd, Nat.reduceSub, Array.replicate_succ, Array.replicate_zero, List.push_toArray, List.append_toArray, List.nil_append, List.cons_append]
  refine wpIn_wide.2 ?_
  go_wp2_with fail
  refine (sorted_calls mb _).mono ?_
  rintro e w1 ⟨rfl, rfl⟩
  go_wp2_with fail
  obtain ⟨w0, hw0⟩ : ∃ w0, w0 = ((w.alloc (.cells #[.int .i64 0] 3)).alloc (.cells #[.pointer (some ⟨mb, 0, none⟩)] 73)).alloc (.cells #[.string ⟨#[]⟩] 9) := ⟨_, rfl⟩
  have hk0 : Keeps w w0 [] := by subst hw0; exact (((Keeps.refl w []).alloc _).alloc _).alloc _
  have hs0 : w0.heap.size = w.heap.size + 3 := by subst hw0; simp
  have hN0 : Blk w0 w.heap.size 3 #[.int .i64 0] := by subst hw0; exact ((Blk.new w _ _).alloc _).alloc _
  have hbd : Blk w0 (w.heap.size + 1) 73 #[.pointer (some ⟨mb, 0, none⟩)] := by subst hw0; exact (Blk.new' (w.alloc _) (by simp) _ _).alloc _
  have hbp : Blk w0 (w.heap.size + 1 + 1) 9 #[.string ⟨#[]⟩] := by subst hw0; exact Blk.new' ((w.alloc _).alloc _) (by simp) _ _
  have hin0 : ((w.alloc (.cells #[.int .i64 0] 3)).alloc (.cells #[.pointer (some ⟨mb, 0, none⟩)] 73)).alloc (.cells #[.string ⟨#[]⟩] 9) = w0 := hw0.symm
  rw [hin0]
  clear hin0 hw0
  have hm0 := hm.nil hk0
  obtain ⟨nb, hnb⟩ : ∃ nb, nb = w.heap.size := ⟨_, rfl⟩
  rw [← hnb] at hN0 hbd hbp hs0 ⊢
  have hst := sorted_stops (nb + 1) (nb + 1 + 1) mb bm ps (by omega) hsm w0 hbd hbp hm0
  refine (wpIn_wide (n := 7)).1 ?_
  refine wpIn_rangeFunc_ownH (F := Fence.wide) (n := 7) rfl (by omega) (gf := 76) (lb := #[.pointer (some ⟨nb + 1, 0, none⟩), .pointer (some ⟨nb + 1 + 1, 0, none⟩)]) rfl trivial (enters_of Try.func76 (by kernel_rfl) rfl)
    hst (fun h k => h.trans k) (fun W l o o' hl ho hc hw => TK.putObj W l o o' ho hc hw) (Below.refl _ _) (fun _ => rfl)
    (fun pre W => Keeps w0 W [nb] ∧ Blk W nb 3 #[.int .i64 (sizeP (pre.map (·.1)))])
    (fun _ _ _ => False)
    ?own
    (fun _ _ _ _ _ hs _ _ => hs)
    ⟨Keeps.refl _ _, hN0⟩
    (fun x a' W => ∃ Bx, w0.heap.size ≤ Bx ∧ Blk W Bx 76 #[.string (bstr x.1.1), .string (bstr x.1.2)] ∧ a' = { tmps := #[.pointer (some ⟨mb, 0, none⟩), undef, .int .i64 0, .pointer (some ⟨nb, 0, none⟩), .pointer (some ⟨Bx, 0, none⟩), .pointer (some ⟨mb, 0, none⟩), .func (.func 76) #[] #[.pointer (some ⟨nb + 1, 0, none⟩), .pointer (some ⟨nb + 1 + 1, 0, none⟩)], pairV x.1, undef, undef, undef, undef, undef, undef, undef, undef, undef, undef, undef], defers := [] })
    ?hAx ?assign ?body ?done ?stop
  case own =>
    rintro s W W' row ⟨h1, h2⟩ hg hr
    have hb : ∀ k, k < w0.heap.size → W'.heap[k]? = W.heap[k]? := fun k hk => hg.block k (by have := h1.size; omega) (fun e => by have := (hr k e.symm).1; omega)
    exact ⟨⟨hg.os.trans h1.os, hg.tape.trans h1.tape, hg.output.trans h1.output, Nat.le_trans h1.size hg.size, fun k hk hn => (hb k hk).trans (h1.block k hk hn)⟩, h2.to (hb nb (by omega))⟩
  case hAx =>
    rintro x a' s W W' row ⟨Bx, h1, h2, h3⟩ hg hr
    exact ⟨Bx, h1, h2.to (hg.block Bx h2.lt (fun e => by
      obtain ⟨-, o, ho, hc⟩ := hr Bx e.symm
      have h4 : W.heap[Bx]? = some (.cells #[.string (bstr x.1.1), .string (bstr x.1.2)] 76) := h2
      rw [h4] at ho
      cases ho
      cases hc)), h3⟩
  case stop =>
    rintro D c pre W _ _ h _
    exact h.elim
  case assign =>
    intro l pre x W K hI hK
    unfold pairV at *
    clear hnb hs0
    have HI := Lib.hid hI
    clear hI
    gi_wp2
    obtain ⟨h1, h2⟩ := HI.out
    refine hK _ _ ((KeepsOthers.alloc _ _).from _) (TK.ofKeeps ((Keeps.refl W []).alloc _) (by simp)) ⟨h1.alloc _, h2.alloc _⟩ ⟨W.heap.size, h1.size, Blk.new _ _ _, rfl⟩
  case body =>
    rintro l pre x a' W hl ⟨r, hr⟩ ⟨hKe, hOwn⟩ ⟨Bx, hBx, hblk, rfl⟩ hlt
    unfold pairV at *
    have z1 : W.cell? ⟨nb, 0, none⟩ = some (.int .i64 (sizeP (pre.map (·.1)))) := hOwn.cell 0
    have z2 : W.cell? ⟨Bx, 0, none⟩ = some (.string (bstr x.1.1)) := hblk.cell 0
    have z3 : W.cell? ⟨Bx, 1, none⟩ = some (.string (bstr x.1.2)) := hblk.cell 1
    have z4 := hOwn.frozen 0
    obtain ⟨s0, hs0'⟩ : ∃ s0, s0 = sizeP (pre.map (·.1)) := ⟨_, rfl⟩
    have y1 : (s0 : Int) ≤ 10000 := by have := sizeP_le pre; omega
    rw [← hs0'] at z1
    have y2 : ((bstr x.1.1).size : Int) ≤ 64 := by rw [bstr_size]; have := x.2.1; omega
    have y3 : ((bstr x.1.2).size : Int) ≤ 60 := by rw [bstr_size]; have := x.2.2; omega
    have y0 : (0 : Int) ≤ (s0 : Int) := by omega
    have HS := Lib.hid hs0'
    clear hs0'
    have HB := Lib.hid (And.intro hKe (And.intro hOwn (And.intro hBx (And.intro hblk (And.intro hr (And.intro hs0 hnb))))))
    clear hKe hOwn hBx hblk hr hm0 hbd hbp hN0 hst hm hk0 hs0 hnb
    gi_wp2
    obtain ⟨hKe, hOwn, hBx, hblk, hr, hs0, hnb⟩ := HB.out
    have hkp : ∀ v, Keeps W (W.setCell ⟨nb, 0, none⟩ v) [nb] := fun v => (Keeps.refl W [nb]).setCell (.inl (by simp)) v
    refine ⟨(KeepsOthers.setCell _ _ _).from _, TK.ofKeeps (hkp _) (fun k hk o ho => ?_), hKe.trans (hkp _) (by simp), ?_⟩
    · have : k = nb := by simpa using hk
      subst this
      have h4 : W.heap[k]? = some (.cells #[.int .i64 (sizeP (pre.map (·.1)))] 3) := hOwn
      rw [h4] at ho
      cases ho
      rfl
    · have e6 : ((s0 : Int) + (3 + ((bstr x.1.1).size : Int) + ((bstr x.1.2).size : Int))) = ((sizeP ((pre ++ [x]).map (·.1)) : Nat) : Int) := by
        rw [List.map_append, List.map_cons, List.map_nil, sizeP_snoc, ← HS.out, bstr_size, bstr_size]
        omega
      rw [e6]
      have h5 := hOwn.set_ 0 (.int .i64 ((sizeP ((pre ++ [x]).map (·.1)) : Nat) : Int))
      simpa using h5
  case done =>
    rintro D xs W hD hsx ⟨hKe, hOwn⟩ hK
    have z1 : W.cell? ⟨nb, 0, none⟩ = some (.int .i64 (sizeP ps)) := by rw [← hsx]; exact hOwn.cell 0
    have HB := Lib.hid (And.intro hKe (And.intro hOwn (And.intro hK (And.intro hk0 (And.intro hD (And.intro hs0 (And.intro hnb hsx)))))))
    clear hKe hOwn hK hm0 hbd hbp hN0 hst hm hk0 hs0 hnb hsx
    go_wp2_with fail
    obtain ⟨hKe, hOwn, hK, hk0, hD, hs0, hnb, hsx⟩ := HB.out
    have hg := grownBy_putObj' W D (.deferred none)
    refine ⟨by simp, .inl ⟨_, _, rfl, run_takeDeferred hK, ?_⟩⟩
    refine ⟨_, results_tmp rfl _ _ _, rfl, ?_⟩
    have hkW : Keeps w W [] := hk0.trans hKe (fun i hi h => by simp at h; omega)
    exact ⟨hg.os.trans hkW.os, hg.tape.trans hkW.tape, hg.output.trans hkW.output, Nat.le_trans hkW.size hg.size, fun k hk hn => (World.putObj_heap_other (by omega)).trans (hkW.block k hk hn)⟩

end Go.Proofs.Ytecjhaohabjkbaa
