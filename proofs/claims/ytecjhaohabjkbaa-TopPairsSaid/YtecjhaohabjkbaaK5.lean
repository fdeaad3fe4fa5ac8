/-
  CONTRACTS: kv's Scan.
-/
import Derived.Test.YtecjhaohabjkbaaK4
namespace Go.Proofs.Ytecjhaohabjkbaa
open Go.RowKit
set_option linter.unusedVariables false
attribute [local go_sem] Oper.semAt_some

theorem info_pair : (Try.prog.info? 76).map (fun i => (i.zero, i.size, i.bytes)) = some (some (.agg #[.string ⟨#[]⟩, .string ⟨#[]⟩]), 2, 32) := by kernel_rfl
/-- pairs in a row. -/
def pairC (p : List UInt8 × List UInt8) : List Value := [.string (bstr p.1), .string (bstr p.2)]
theorem pairC_length (p : List UInt8 × List UInt8) : (pairC p).length = 2 := rfl
def pairsC (ps : PL) : List Value := ps.flatMap pairC
theorem pairsC_snoc (ps : PL) (p : List UInt8 × List UInt8) : pairsC (ps ++ [p]) = pairsC ps ++ pairC p := by simp [pairsC]
theorem Own.typed {w : World} {e : TypeId} {size n : Nat} {v : Value} {xs : List Value} {fp : List Nat} (h : Own w e size v n xs fp) : ∀ k ∈ fp, ∃ cur, w.heap[k]? = some (.cells cur e (0, 0)) := by
  rcases h.2 with ⟨_, _, _, rfl⟩ | ⟨g, cap, cur, rfl, hp, rfl, hb, r⟩
  · simp
  · intro k hk
    have : k = g := by simpa using hk
    subst this
    exact ⟨cur, hb⟩
/-- append inside a fence. -/
theorem wpListIn_append_mine {F : Fence} {nf : Nat} {P : Program} (w : World) {ops : Array Oper} {rest : List Oper} {o : Oper} {a : Act} {Q : Exit → Act → World → Prop} (hgd : o.guard = none) (s x : Operand) (t tx : TypeId)
    (ho : o.op = .call { callee := .builtin .append, args := #[s, x], argTypes := #[t, tx] })
    (e : TypeId) (i : TypeInfo) (z : Value) (size bytes : Nat) (ht : P.underlying t = some (.slice e)) (hi : P.info? e = some i) (hz : i.zero = some z)
    (hsize : i.size = size) (hby : i.bytes = bytes) (hzs : z.cells.size = size) (v : Value) (n : Nat) (xs : List Value) (fp : List Nat) (hv : a.eval s = v) (hown : Own w e size v n xs fp)
    (y : Value) (m : Nat) (news : List Value) (hx : a.eval x = y) (hs : Src P size tx y m news w) (h63 : n + m ≤ maxLen) (hbytes : (n + m) * bytes ≤ 140737488355328)
    (h : ∀ v' w' fp', Own w' e size v' (n + m) (xs ++ news) fp' → Keeps w w' fp → (∀ k ∈ fp', k ∈ fp ∨ w.heap.size ≤ k) → wpListIn F nf P ops Q rest (a.put o.dst v') w') : wpListIn F nf P ops Q (o :: rest) a w := by
  refine wpListIn_plain hgd fun K hK => ?_
  obtain ⟨v', w', fp', hrun, h2, h3, h4⟩ := run_append_mine (P := P) w t tx o.type e i z size bytes ht hi hz hsize hby hzs v n xs fp hown y m news hs h63 hbytes
  unfold Oper.wpIn
  refine ⟨?_, ?_⟩
  · simp [Oper.about, ho, resolve, Target.leads, Sem.run_pure]
  · rw [Oper.semAt_plain F _ _ (by rw [ho]; intro c hc'; cases hc')]
    simp only [execOp, ho, resolve, invoke, builtin, Sem.run_bind, Sem.run_pure, Result.andThen_ok, List.map_toArray, List.map_cons, List.map_nil, hv, hx, hrun]
    exact hK _ _ (h v' w' fp' h2 h3 h4)
theorem KeepsOthers.ofKeeps {w w' : World} {fp : List Nat} (h : Keeps w w' fp) (hf : ∀ k ∈ fp, ∀ o, w.heap[k]? = some o → o.isCells = true) : KeepsOthers w w' :=
  ⟨h.size, fun k o hk hc => (h.block k (Array.getElem?_eq_some_iff.1 hk).1 (fun hm => by rw [hf k hm o hk] at hc; cases hc)).trans hk⟩
/-- what a Scan leaves. -/
def ScanLeft (w : World) (ps : PL) (e : Ending) (w' : World) : Prop :=
  ∃ v f, e = .returned v ∧ Own w' 76 2 v ps.length (pairsC ps) f ∧ Keeps w w' [] ∧ ∀ k ∈ f, w.heap.size ≤ k

set_option maxRecDepth 100000 in
set_option maxHeartbeats 2000000 in set_option maxRecDepth 100000 in
theorem kscan_calls (mb bm : Nat) (ps : PL) (w : World) (hm : KRep w mb bm ps) (hn : ps.length ≤ 20) (hsm : Small ps) :
    Calls Try.prog 44 #[.pointer (some ⟨mb, 0, none⟩), .string ⟨#[]⟩] w (ScanLeft w ps) := by
  obtain ⟨i0, hi, hz0, hz1, hz2⟩ := info_parts info_pair
  refine (callsIn_wide (n := 7)).1 ?_
  refine callsIn_of_wp_marks Try.func44 rfl trivial ?_ rfl
  simp only [Try.ntmps44, List.size_toArray, List.length_cons, List.length_nil, Nat.reduceAdd, Nat.reduceSub, Array.replicate_succ, Array.replicate_zero, List.push_toArray, List.append_toArray, List.nil_append, List.cons_append]
  refine wpIn_wide.2 ?_
  go_wp2_with fail
  refine (sorted_calls mb _).mono ?_
  rintro e w1 ⟨rfl, rfl⟩
  go_wp2_with fail
  obtain ⟨w0, hw0⟩ : ∃ w0, w0 = ((w.alloc (.cells #[.slice none 0 0] 72)).alloc (.cells #[.pointer (some ⟨mb, 0, none⟩)] 73)).alloc (.cells #[.string ⟨#[]⟩] 9) := ⟨_, rfl⟩
  have hk0 : Keeps w w0 [] := by subst hw0; exact (((Keeps.refl w []).alloc _).alloc _).alloc _
  have hs0 : w0.heap.size = w.heap.size + 3 := by subst hw0; simp
  have hN0 : Blk w0 w.heap.size 72 #[.slice none 0 0] := by subst hw0; exact ((Blk.new w _ _).alloc _).alloc _
  have hbd : Blk w0 (w.heap.size + 1) 73 #[.pointer (some ⟨mb, 0, none⟩)] := by subst hw0; exact (Blk.new' (w.alloc _) (by simp) _ _).alloc _
  have hbp : Blk w0 (w.heap.size + 1 + 1) 9 #[.string ⟨#[]⟩] := by subst hw0; exact Blk.new' ((w.alloc _).alloc _) (by simp) _ _
  have hin0 : ((w.alloc (.cells #[.slice none 0 0] 72)).alloc (.cells #[.pointer (some ⟨mb, 0, none⟩)] 73)).alloc (.cells #[.string ⟨#[]⟩] 9) = w0 := hw0.symm
  rw [hin0]
  clear hin0 hw0
  have hm0 := hm.nil hk0
  obtain ⟨nb, hnb⟩ : ∃ nb, nb = w.heap.size := ⟨_, rfl⟩
  rw [← hnb] at hN0 hbd hbp hs0 ⊢
  have hst := sorted_stops (nb + 1) (nb + 1 + 1) mb bm ps (by omega) hsm w0 hbd hbp hm0
  refine (wpIn_wide (n := 7)).1 ?_
  refine wpIn_rangeFunc_ownH (F := Fence.wide) (n := 7) rfl (by omega) (gf := 76) (lb := #[.pointer (some ⟨nb + 1, 0, none⟩), .pointer (some ⟨nb + 1 + 1, 0, none⟩)]) rfl trivial (enters_of Try.func76 (by kernel_rfl) rfl)
    hst (fun h k => h.trans k) (fun W l o o' hl ho hc hw => TK.putObj W l o o' ho hc hw) (Below.refl _ _) (fun _ => rfl)
    (fun pre W => ∃ v f, Keeps w0 W [nb] ∧ Blk W nb 72 #[v] ∧ Own W 76 2 v pre.length (pairsC (pre.map (·.1))) f ∧ ∀ k ∈ f, w0.heap.size ≤ k)
    (fun _ _ _ => False)
    ?own
    (fun _ _ _ _ _ hs _ _ => hs)
    ⟨_, [], Keeps.refl _ _, hN0, Own.bare _ _ _ _, by simp⟩
    (fun x a' W => ∃ Bx, w0.heap.size ≤ Bx ∧ Blk W Bx 76 #[.string (bstr x.1.1), .string (bstr x.1.2)] ∧ a' = { tmps := #[.pointer (some ⟨mb, 0, none⟩), .string ⟨#[]⟩, undef, undef, .slice none 0 0, .pointer (some ⟨nb, 0, none⟩), .pointer (some ⟨Bx, 0, none⟩), .pointer (some ⟨mb, 0, none⟩), .string ⟨#[]⟩, .func (.func 76) #[] #[.pointer (some ⟨nb + 1, 0, none⟩), .pointer (some ⟨nb + 1 + 1, 0, none⟩)], pairV x.1, undef, undef, undef, undef, undef], defers := [] })
    ?hAx ?assign ?body ?done ?stop
  case own =>
    rintro s W W' row ⟨v, f, h1, h2, h3, h4⟩ hg hr
    have hb : ∀ k, k < w0.heap.size → W'.heap[k]? = W.heap[k]? := fun k hk => hg.block k (by have := h1.size; omega) (fun e => by have := (hr k e.symm).1; omega)
    refine ⟨v, f, ⟨hg.os.trans h1.os, hg.tape.trans h1.tape, hg.output.trans h1.output, Nat.le_trans h1.size hg.size, fun k hk hn => (hb k hk).trans (h1.block k hk hn)⟩, h2.to (hb nb (by omega)), h3.to (fun k hk => hg.block k (h3.lt k hk) (fun e => ?_)), h4⟩
    obtain ⟨-, o, ho, hc⟩ := hr k e.symm
    obtain ⟨cur, h5⟩ := h3.typed k hk
    rw [h5] at ho
    cases ho
    cases hc
  case hAx =>
    rintro x a' s W W' row ⟨Bx, h1, h2, h3⟩ hg hr
    exact ⟨Bx, h1, h2.to (hg.block Bx h2.lt (fun e => by
      obtain ⟨-, o, ho, hc⟩ := hr Bx e.symm
      have h4 : W.heap[Bx]? = some (.cells #[.string (bstr x.1.1), .string (bstr x.1.2)] 76) := h2
      rw [h4] at ho
      cases ho
      cases hc)), h3⟩
  case stop =>
    rintro D c pre W _ _ h _
    exact h.elim
  case assign =>
    intro l pre x W K hI hK
    unfold pairV at *
    clear hnb hs0
    have HI := Lib.hid hI
    clear hI
    gi_wp2
    obtain ⟨v, f, h1, h2, h3, h4⟩ := HI.out
    refine hK _ _ ((KeepsOthers.alloc _ _).from _) (TK.ofKeeps ((Keeps.refl W []).alloc _) (by simp)) ⟨v, f, h1.alloc _, h2.alloc _, h3.alloc _, h4⟩ ⟨W.heap.size, h1.size, Blk.new _ _ _, rfl⟩
  case body =>
    rintro l pre x a' W hl ⟨r, hr⟩ ⟨v, f, hKe, hBv, hOwn, hf⟩ ⟨Bx, hBx, hblk, rfl⟩ hlt
    unfold pairV at *
    have z1 : W.cell? ⟨nb, 0, none⟩ = some v := hBv.cell 0
    have z2 : W.cell? ⟨Bx, 0, none⟩ = some (.string (bstr x.1.1)) := hblk.cell 0
    have z3 : W.cell? ⟨Bx, 1, none⟩ = some (.string (bstr x.1.2)) := hblk.cell 1
    have HB := Lib.hid (And.intro hKe (And.intro hBv (And.intro hBx (And.intro hblk (And.intro hr (And.intro hs0 (And.intro hnb (And.intro hf hOwn))))))))
    have HX := Lib.hid (And.intro hi (And.intro hz0 (And.intro hz1 hz2)))
    have HN : pre.length + 1 ≤ 20 := by omega
    clear hKe hBv hBx hblk hr hm0 hbd hbp hN0 hst hm hk0 hs0 hnb hf hOwn hi hz0 hz1 hz2
    obtain ⟨A0, c0, rfl, -, -⟩ := HB.out.2.2.2.2.2.2.2.2.form
    gi_wp2_with (gi_at_builtin; refine wpListIn_append_mine _ rfl (.tmp 11) (.tmp 13) _ _ rfl 76 i0 _ 2 32 Try.underlying72 HX.out.1 HX.out.2.1 HX.out.2.2.1 HX.out.2.2.2 rfl _ pre.length (pairsC (pre.map (·.1))) f rfl (HB.out.2.2.2.2.2.2.2.2.alloc _) _ 1 (pairC x.1) rfl ?src ?c1 ?c2 ?next)
    case src => exact (Blk.new' W (n := W.heap.size) rfl 76 #[.string (bstr x.1.1), .string (bstr x.1.2)]).src Try.underlying72 1 rfl (by simp [Value.oneCell'])
    case c1 => unfold maxLen; omega
    case c2 => omega
    case next =>
      intro v' W2 f' ho2 hk2 hn2
      obtain ⟨A', n', rfl, -, -⟩ := ho2.form
      obtain ⟨hKe, hBv, hBx, hblk, hr, hs0, hnb, hf, hOwn⟩ := HB.out
      have hB2 := (hBv.alloc (.cells #[.string (bstr x.1.1), .string (bstr x.1.2)] 76)).keeps hk2 (fun h => by have := hf nb h; omega)
      have z5 : W2.cell? ⟨nb, 0, none⟩ = some (.slice A0 pre.length c0) := hB2.cell 0
      have z6 := hB2.frozen 0
      have H2 := Lib.hid (And.intro ho2 (And.intro hk2 (And.intro hn2 hB2)))
      clear ho2 hk2 hn2 hB2 hKe hBv hBx hblk hr hs0 hnb hf hOwn
      gi_wp2
      obtain ⟨hKe, hBv, hBx, hblk, hr, hs0, hnb, hf, hOwn⟩ := HB.out
      obtain ⟨ho2, hk2, hn2, hB2⟩ := H2.out
      have hkp : ∀ v, Keeps W (W2.setCell ⟨nb, 0, none⟩ v) (nb :: f) := fun v => (((Keeps.refl W (nb :: f)).alloc _).trans hk2 (fun i _ hi => by simp [hi])).setCell (.inl (by simp)) v
      have hty : ∀ k ∈ nb :: f, ∀ o, W.heap[k]? = some o → safeO o = false ∧ o.isCells = true := fun k hk o ho => by
        rcases List.mem_cons.1 hk with rfl | hk
        · have h4 : W.heap[k]? = some (.cells #[.slice A0 pre.length c0] 72) := hBv
          rw [h4] at ho
          cases ho
          exact ⟨rfl, rfl⟩
        · obtain ⟨cur, h4⟩ := hOwn.typed k hk
          rw [h4] at ho
          cases ho
          exact ⟨rfl, rfl⟩
      have hfw : ∀ k ∈ f', k ∈ f ∨ W.heap.size ≤ k := fun k hk => by
        rcases hn2 k hk with h | h
        · exact .inl h
        · right; (try simp at h); omega
      have hnf : nb ∉ f' := fun h => by
        rcases hfw nb h with h | h
        · have := hf nb h; omega
        · have := hKe.size; omega
      refine ⟨(KeepsOthers.ofKeeps (hkp _) (fun k hk o ho => (hty k hk o ho).2)).from _, TK.ofKeeps (hkp _) (fun k hk o ho => (hty k hk o ho).1), _, f', ?_, hB2.set_ 0 _, ?_, ?_⟩
      · exact hKe.trans (hkp _) (fun i hi hm => by
          rcases List.mem_cons.1 hm with rfl | hm
          · simp
          · have := hf i hm; omega)
      · rw [List.map_append, List.map_cons, List.map_nil, pairsC_snoc, List.length_append]
        exact ho2.set hnf _
      · intro k hk
        rcases hfw k hk with h | h
        · exact hf k h
        · have := hKe.size; omega
  case done =>
    rintro D xs W hD hsx ⟨v, f, hKe, hBv, hOwn, hf⟩ hK
    have z1 : W.cell? ⟨nb, 0, none⟩ = some v := hBv.cell 0
    have HB := Lib.hid (And.intro hKe (And.intro hOwn (And.intro hK (And.intro hk0 (And.intro hD (And.intro hs0 (And.intro hnb (And.intro hsx hf))))))))
    obtain ⟨A0, c0, rfl, -, -⟩ := hOwn.form
    clear hKe hBv hOwn hf hK hm0 hbd hbp hN0 hst hm hk0 hs0 hnb hsx
    go_wp2_with fail
    obtain ⟨hKe, hOwn, hK, hk0, hD, hs0, hnb, hsx, hf⟩ := HB.out
    have hg := grownBy_putObj' W D (.deferred none)
    have hDW : D < W.heap.size := (Array.getElem?_eq_some_iff.1 hK).1
    refine ⟨by simp, .inl ⟨_, _, rfl, run_takeDeferred hK, ?_⟩⟩
    have hkW : Keeps w W [] := hk0.trans hKe (fun i hi h => by simp at h; omega)
    refine ⟨_, results_tmp rfl _ _ _, _, f, rfl, ?_, ⟨hg.os.trans hkW.os, hg.tape.trans hkW.tape, hg.output.trans hkW.output, Nat.le_trans hkW.size hg.size, fun k hk hn => (World.putObj_heap_other (by omega)).trans (hkW.block k hk hn)⟩, fun k hk => by have := hf k hk; omega⟩
    have h6 := hOwn.to (w' := W.putObj D (.deferred none)) (fun k hk => World.putObj_heap_other (fun e => by
      obtain ⟨cur, h5⟩ := hOwn.typed k hk
      rw [e, hK] at h5
      cases h5))
    have hl6 : ps.length = xs.length := by rw [← hsx, List.length_map]
    rw [hsx] at h6
    rw [hl6]
    exact h6

end Go.Proofs.Ytecjhaohabjkbaa
