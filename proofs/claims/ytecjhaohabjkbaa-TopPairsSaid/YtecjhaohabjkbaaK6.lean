/-
  CONTRACTS: kv's Bytes. (Printed by wip/tools/mk_k6.py.)
-/
import Derived.Test.YtecjhaohabjkbaaK5
import Derived.Test.YtecjhaohabjkbaaCalm2
namespace Go.Proofs.Ytecjhaohabjkbaa
open Go.RowKit
set_option linter.unusedVariables false
attribute [local go_sem] Oper.semAt_some

theorem byteCells_nums (x : List UInt8) : Go.byteCells (bstr x) = bytes (nums x) := by
  simp only [Go.byteCells, bytes, nums, List.map_map]
  rfl
theorem encAll_sp : ∀ pre : List SP, (encAll (pre.map (·.1))).length ≤ 127 * pre.length
  | [] => by simp [encAll]
  | p :: r => by
    have h := encAll_sp r
    have h2 := p.2
    rw [List.map_cons, encAll_cons, List.length_append, encP_length, List.length_cons]
    omega
theorem enc_rows (pre : PL) (x : List UInt8 × List UInt8) (hv : x.2.length ≤ 60) : (((bytes (encAll pre) ++ bytes [((bstr x.1).size : Int)]) ++ Go.byteCells (bstr x.1)) ++ bytes [0, ((bstr x.2).size : Int)]) ++ Go.byteCells (bstr x.2) = bytes (encAll pre ++ encP x) := by
  rw [byteCells_nums, byteCells_nums, bstr_size, bstr_size]
  have e1 : x.2.length / 256 = 0 := by omega
  have e2 : x.2.length % 256 = x.2.length := by omega
  simp only [encP, e1, e2, bytes, List.map_append, List.map_cons, List.map_nil, List.append_assoc, List.cons_append, List.nil_append]
  rfl
theorem enc_len (pre : PL) (x : List UInt8 × List UInt8) : (encAll pre).length + 1 + (bstr x.1).size + 2 + (bstr x.2).size = (encAll pre ++ encP x).length := by
  rw [List.length_append, encP_length, bstr_size, bstr_size]
  omega
/-- what Bytes leaves. -/
def BytesLeft (w : World) (ps : PL) (e : Ending) (w' : World) : Prop :=
  ∃ v f, e = .returned v ∧ Own w' 5 1 v (encAll ps).length (bytes (encAll ps)) f ∧ Keeps w w' [] ∧ ∀ k ∈ f, w.heap.size ≤ k

set_option maxRecDepth 100000 in
set_option maxHeartbeats 2000000 in set_option maxRecDepth 100000 in
theorem kbytes_calls (mb bm : Nat) (ps : PL) (w : World) (hm : KRep w mb bm ps) (hn : ps.length ≤ 20) (hsm : Small ps) :
    Calls Try.prog 40 #[.pointer (some ⟨mb, 0, none⟩)] w (BytesLeft w ps) := by
  obtain ⟨i0, hi, hz0, hz1, hz2⟩ := info_parts u8Info
  refine (callsIn_wide (n := 7)).1 ?_
  refine callsIn_of_wp_marks Try.func40 rfl trivial ?_ rfl
  simp only [Try.ntmps40, List.size_toArray, List.length_cons, List.length_nil, Nat.reduceAdd, Nat.reduceSub, Array.replicate_succ, Array.replicate_zero, List.push_toArray, List.append_toArray, List.nil_append, List.cons_append]
  refine wpIn_wide.2 ?_
  go_wp2_with fail
  refine (sorted_calls mb _).mono ?_
  rintro e w1 ⟨rfl, rfl⟩
  go_wp2_with fail
  obtain ⟨w0, hw0⟩ : ∃ w0, w0 = ((w.alloc (.cells #[.slice none 0 0] 22)).alloc (.cells #[.pointer (some ⟨mb, 0, none⟩)] 73)).alloc (.cells #[.string ⟨#[]⟩] 9) := ⟨_, rfl⟩
  have hk0 : Keeps w w0 [] := by subst hw0; exact (((Keeps.refl w []).alloc _).alloc _).alloc _
  have hs0 : w0.heap.size = w.heap.size + 3 := by subst hw0; simp
  have hN0 : Blk w0 w.heap.size 22 #[.slice none 0 0] := by subst hw0; exact ((Blk.new w _ _).alloc _).alloc _
  have hbd : Blk w0 (w.heap.size + 1) 73 #[.pointer (some ⟨mb, 0, none⟩)] := by subst hw0; exact (Blk.new' (w.alloc _) (by simp) _ _).alloc _
  have hbp : Blk w0 (w.heap.size + 1 + 1) 9 #[.string ⟨#[]⟩] := by subst hw0; exact Blk.new' ((w.alloc _).alloc _) (by simp) _ _
  have hin0 : ((w.alloc (.cells #[.slice none 0 0] 22)).alloc (.cells #[.pointer (some ⟨mb, 0, none⟩)] 73)).alloc (.cells #[.string ⟨#[]⟩] 9) = w0 := hw0.symm
  rw [hin0]
  clear hin0 hw0
  have hm0 := hm.nil hk0
  obtain ⟨nb, hnb⟩ : ∃ nb, nb = w.heap.size := ⟨_, rfl⟩
  rw [← hnb] at hN0 hbd hbp hs0 ⊢
  have hst := sorted_stops (nb + 1) (nb + 1 + 1) mb bm ps (by omega) hsm w0 hbd hbp hm0
  refine (wpIn_wide (n := 7)).1 ?_
  refine wpIn_rangeFunc_ownH (F := Fence.wide) (n := 7) rfl (by omega) (gf := 76) (lb := #[.pointer (some ⟨nb + 1, 0, none⟩), .pointer (some ⟨nb + 1 + 1, 0, none⟩)]) rfl trivial (enters_of Try.func76 (by kernel_rfl) rfl)
    hst (fun h k => h.trans k) (fun W l o o' hl ho hc hw => TK.putObj W l o o' ho hc hw) (Below.refl _ _) (fun _ => rfl)
    (fun pre W => ∃ v f, Keeps w0 W [nb] ∧ Blk W nb 22 #[v] ∧ Own W 5 1 v (encAll (pre.map (·.1))).length (bytes (encAll (pre.map (·.1)))) f ∧ ∀ k ∈ f, w0.heap.size ≤ k)
    (fun _ _ _ => False)
    ?own
    (fun _ _ _ _ _ hs _ _ => hs)
    ⟨_, [], Keeps.refl _ _, hN0, Own.bare _ _ _ _, by simp⟩
    (fun x a' W => ∃ Bx, w0.heap.size ≤ Bx ∧ Blk W Bx 76 #[.string (bstr x.1.1), .string (bstr x.1.2)] ∧ a' = { tmps := #[.pointer (some ⟨mb, 0, none⟩), undef, .slice none 0 0, .pointer (some ⟨nb, 0, none⟩), .pointer (some ⟨Bx, 0, none⟩), .pointer (some ⟨mb, 0, none⟩), .func (.func 76) #[] #[.pointer (some ⟨nb + 1, 0, none⟩), .pointer (some ⟨nb + 1 + 1, 0, none⟩)], pairV x.1, undef, undef, undef, undef, undef, undef, undef, undef, undef, undef, undef, undef, undef, undef, undef, undef, undef, undef, undef, undef, undef, undef, undef, undef, undef, undef], defers := [] })
    ?hAx ?assign ?body ?done ?stop
  case own =>
    rintro s W W' row ⟨v, f, h1, h2, h3, h4⟩ hg hr
    have hb : ∀ k, k < w0.heap.size → W'.heap[k]? = W.heap[k]? := fun k hk => hg.block k (by have := h1.size; omega) (fun e => by have := (hr k e.symm).1; omega)
    refine ⟨v, f, ⟨hg.os.trans h1.os, hg.tape.trans h1.tape, hg.output.trans h1.output, Nat.le_trans h1.size hg.size, fun k hk hn => (hb k hk).trans (h1.block k hk hn)⟩, h2.to (hb nb (by omega)), h3.to (fun k hk => hg.block k (h3.lt k hk) (fun e => ?_)), h4⟩
    obtain ⟨-, o, ho, hc⟩ := hr k e.symm
    obtain ⟨cur, h5⟩ := h3.typed k hk
    rw [h5] at ho
    cases ho
    cases hc
  case hAx =>
    rintro x a' s W W' row ⟨Bx, h1, h2, h3⟩ hg hr
    exact ⟨Bx, h1, h2.to (hg.block Bx h2.lt (fun e => by
      obtain ⟨-, o, ho, hc⟩ := hr Bx e.symm
      have h4 : W.heap[Bx]? = some (.cells #[.string (bstr x.1.1), .string (bstr x.1.2)] 76) := h2
      rw [h4] at ho
      cases ho
      cases hc)), h3⟩
  case stop =>
    rintro D c pre W _ _ h _
    exact h.elim
  case assign =>
    intro l pre x W K hI hK
    unfold pairV at *
    clear hnb hs0
    have HI := Lib.hid hI
    clear hI
    gi_wp2
    obtain ⟨v, f, h1, h2, h3, h4⟩ := HI.out
    refine hK _ _ ((KeepsOthers.alloc _ _).from _) (TK.ofKeeps ((Keeps.refl W []).alloc _) (by simp)) ⟨v, f, h1.alloc _, h2.alloc _, h3.alloc _, h4⟩ ⟨W.heap.size, h1.size, Blk.new _ _ _, rfl⟩
  case body =>
    rintro l pre x a' W hl ⟨r, hr⟩ ⟨v, f, hKe, hBv, hOwn, hf⟩ ⟨Bx, hBx, hblk, rfl⟩ hlt
    unfold pairV at *
    obtain ⟨W1, hW1⟩ : ∃ W1, W1 = W.drew := ⟨_, rfl⟩
    have hk1 : Keeps W W1 [] := by rw [hW1]; exact (Keeps.refl W []).drew
    have hBv1 := hBv.keeps hk1 (by simp)
    have hblk1 := hblk.keeps hk1 (by simp)
    have hOwn1 := hOwn.keeps hk1 (by simp)
    have z1 : W1.cell? ⟨nb, 0, none⟩ = some v := hBv1.cell 0
    have z2 : W1.cell? ⟨Bx, 0, none⟩ = some (.string (bstr x.1.1)) := hblk1.cell 0
    have z3 : W1.cell? ⟨Bx, 1, none⟩ = some (.string (bstr x.1.2)) := hblk1.cell 1
    have HX := Lib.hid (And.intro hi (And.intro hz0 (And.intro hz1 hz2)))
    have HW1 := Lib.hid hW1
    have HN : pre.length + 1 ≤ 20 := by omega
    have y2 : ((bstr x.1.1).size : Int) ≤ 64 := by rw [bstr_size]; have := x.2.1; omega
    have hLl : (encAll (pre.map (·.1))).length ≤ 2540 ∧ (bstr x.1.1).size ≤ 64 ∧ (bstr x.1.2).size ≤ 60 := ⟨by have := encAll_sp pre; omega, by rw [bstr_size]; exact x.2.1, by rw [bstr_size]; exact x.2.2⟩
    have HL := Lib.hid hLl
    have hwk : IntKind.u8.wrap ((bstr x.1.1).size : Int) = ((bstr x.1.1).size : Int) := by rw [IntKind.wrap_u8]; omega
    have hnf : nb ∉ f := fun h => by have := hf nb h; omega
    have hBf : Bx ∉ f := fun h => by
      obtain ⟨cur, h4⟩ := hOwn.typed Bx h
      have h5 : W.heap[Bx]? = some (.cells #[.string (bstr x.1.1), .string (bstr x.1.2)] 76) := hblk
      rw [h4] at h5
      cases h5
    have HF := Lib.hid (And.intro hnf hBf)
    have HNB := Lib.hid (show Bx ≠ nb by omega)
    have z1a : (W1.alloc (.cells #[.int .u8 ((bstr x.1.1).size : Int)] 5)).cell? ⟨nb, 0, none⟩ = some v := (hBv1.alloc _).cell 0
    have z2a : (W1.alloc (.cells #[.int .u8 ((bstr x.1.1).size : Int)] 5)).cell? ⟨Bx, 0, none⟩ = some (.string (bstr x.1.1)) := (hblk1.alloc _).cell 0
    have z3a : (W1.alloc (.cells #[.int .u8 ((bstr x.1.1).size : Int)] 5)).cell? ⟨Bx, 1, none⟩ = some (.string (bstr x.1.2)) := (hblk1.alloc _).cell 1
    have y3 : ((bstr x.1.2).size : Int) ≤ 60 := by rw [bstr_size]; have := x.2.2; omega
    have HB := Lib.hid (And.intro hKe (And.intro hBv (And.intro hBx (And.intro hblk (And.intro hr (And.intro hs0 (And.intro hnb (And.intro hf (And.intro hk1 (And.intro hblk1 (And.intro hOwn1 hBv1)))))))))))
    clear hKe hBv hBx hblk hr hm0 hbd hbp hN0 hst hm hk0 hs0 hnb hf hOwn hi hz0 hz1 hz2 hk1 hBv1 hblk1 hOwn1 hW1 hLl hnf hBf
    obtain ⟨A0, c0, rfl, -, -⟩ := HB.out.2.2.2.2.2.2.2.2.2.2.1.form
    gi_wp2
    rename_i K hKK
    have hcont : ∀ (A2 : Option Addr) (c2 : Nat) (A3 : Option Addr) (c3 : Nat) (W3 : World) (f3 : List Nat), Own W3 5 1 (.slice A3 ((encAll (pre.map (·.1))).length + 1 + (bstr x.1.1).size) c3) ((encAll (pre.map (·.1))).length + 1 + (bstr x.1.1).size) ((bytes (encAll (pre.map (·.1))) ++ bytes [((bstr x.1.1).size : Int)]) ++ Go.byteCells (bstr x.1.1)) f3 → Keeps W W3 f → (∀ k ∈ f3, k ∈ f ∨ W.heap.size ≤ k) → K { tmps := #[.pointer (some ⟨mb, 0, none⟩), undef, .slice none 0 0, .pointer (some ⟨nb, 0, none⟩), .pointer (some ⟨Bx, 0, none⟩), .pointer (some ⟨mb, 0, none⟩), .func (.func 76) #[] #[.pointer (some ⟨nb + 1, 0, none⟩), .pointer (some ⟨nb + 1 + 1, 0, none⟩)], .agg #[.string (bstr x.1.1), .string (bstr x.1.2)], .slice A0 (encAll (pre.map (·.1))).length c0, .pointer (some ⟨Bx, 0, none⟩), .string (bstr x.1.1), .int .i64 (bstr x.1.1).size, .int .u8 (bstr x.1.1).size, .slice (some ⟨W1.heap.size, 0, none⟩) 1 1, .slice A2 ((encAll (pre.map (·.1))).length + 1) c2, .pointer (some ⟨Bx, 0, none⟩), .string (bstr x.1.1), .slice A3 ((encAll (pre.map (·.1))).length + 1 + (bstr x.1.1).size) c3, undef, undef, undef, undef, undef, undef, undef, undef, undef, undef, undef, undef, undef, undef, undef, undef], defers := [] } (W3.setCell ⟨nb, 0, none⟩ (.slice A3 ((encAll (pre.map (·.1))).length + 1 + (bstr x.1.1).size) c3)) := by
      clear z1 z1a z2 z2a z3 z3a
      intro A2 c2 A3 c3 W3 f3 ho3 hk3 hn3
      obtain ⟨W5, hW5⟩ : ∃ W5, W5 = (W3.setCell ⟨nb, 0, none⟩ (.slice A3 ((encAll (pre.map (·.1))).length + 1 + (bstr x.1.1).size) c3)).drew := ⟨_, rfl⟩
      obtain ⟨hKe, hBv, hBx, hblk, hr, hs0, hnb, hf, -, -, hOwn, -⟩ := HB.out
      have hnf3 : nb ∉ f3 := fun h => by
        rcases hn3 _ h with h | h
        · exact HF.out.1 h
        · have := hBv.lt; omega
      have hBf3 : Bx ∉ f3 := fun h => by
        rcases hn3 _ h with h | h
        · exact HF.out.2 h
        · have := hblk.lt; omega
      have hb5 : Blk W5 Bx 76 #[.string (bstr x.1.1), .string (bstr x.1.2)] := by rw [hW5]; exact ((hblk.keeps hk3 HF.out.2).far (p := ⟨nb, 0, none⟩) HNB.out _).drew
      have hv5 : Blk W5 nb 22 #[.slice A3 ((encAll (pre.map (·.1))).length + 1 + (bstr x.1.1).size) c3] := by rw [hW5]; exact ((hBv.keeps hk3 HF.out.1).set_ 0 _).drew
      have ho5 : Own W5 5 1 (.slice A3 ((encAll (pre.map (·.1))).length + 1 + (bstr x.1.1).size) c3) ((encAll (pre.map (·.1))).length + 1 + (bstr x.1.1).size) ((bytes (encAll (pre.map (·.1))) ++ bytes [((bstr x.1.1).size : Int)]) ++ Go.byteCells (bstr x.1.1)) f3 := by rw [hW5]; exact (ho3.set (p := ⟨nb, 0, none⟩) hnf3 _).drew
      have hk5 : Keeps W W5 (nb :: f) := by rw [hW5]; exact ((hk3.mono (fun k _ h => by simp [h])).setCell (p := ⟨nb, 0, none⟩) (.inl (by simp)) _).drew
      have hn5 : ∀ k ∈ f3, k ∈ f ∨ W.heap.size ≤ k := hn3
      have HQ := Lib.hid (And.intro hb5 (And.intro hv5 (And.intro ho5 (And.intro hnf3 (And.intro hBf3 (And.intro (Keeps.refl W5 f3) (And.intro hk5 hn5)))))))
      have z1 : W5.cell? ⟨nb, 0, none⟩ = some (.slice A3 ((encAll (pre.map (·.1))).length + 1 + (bstr x.1.1).size) c3) := hv5.cell 0
      have z2 : W5.cell? ⟨Bx, 0, none⟩ = some (.string (bstr x.1.1)) := hb5.cell 0
      have z3 : W5.cell? ⟨Bx, 1, none⟩ = some (.string (bstr x.1.2)) := hb5.cell 1
      have z1a : (W5.alloc (.cells #[.int .u8 0, .int .u8 ((bstr x.1.2).size : Int)] 5)).cell? ⟨nb, 0, none⟩ = some (.slice A3 ((encAll (pre.map (·.1))).length + 1 + (bstr x.1.1).size) c3) := (hv5.alloc _).cell 0
      have z2a : (W5.alloc (.cells #[.int .u8 0, .int .u8 ((bstr x.1.2).size : Int)] 5)).cell? ⟨Bx, 0, none⟩ = some (.string (bstr x.1.1)) := (hb5.alloc _).cell 0
      have z3a : (W5.alloc (.cells #[.int .u8 0, .int .u8 ((bstr x.1.2).size : Int)] 5)).cell? ⟨Bx, 1, none⟩ = some (.string (bstr x.1.2)) := (hb5.alloc _).cell 1
      have hwv : IntKind.u8.wrap ((bstr x.1.2).size : Int) = ((bstr x.1.2).size : Int) := by rw [IntKind.wrap_u8]; omega
      have hqt : ((bstr x.1.2).size : Int).tdiv 256 = 0 := Int.tdiv_eq_zero_of_lt (by omega) (by omega)
      have hw0 : IntKind.i64.wrap 0 = 0 := by decide
      have hw1 : IntKind.u8.wrap 0 = 0 := by decide
      have hqd : ((bstr x.1.2).size : Int) / 256 = 0 := by omega
      have HW5 := Lib.hid hW5
      clear hb5 hv5 ho5 hnf3 hBf3 hk5 hn5 ho3 hk3 hn3 hKe hBv hBx hblk hr hs0 hnb hf hOwn hW5
      gi_wp2
      refine wpIn_held_drew (S := (fun w' => w'.cell? ⟨Bx, 0, none⟩ = some (.string (bstr x.1.1)) ∧ w'.cell? ⟨Bx, 1, none⟩ = some (.string (bstr x.1.2)))) (by kernel_rfl) (by kernel_rfl) ?_ ?_ (fun hHeld => ?_)
      · exact fun ⟨_, _, h⟩ => h
      · rw [← HW5.out]; exact ⟨z2, z3⟩
      rw [← HW5.out] at hHeld ⊢
      refine wpAnyH_take (i := 1) (oi := ?_) (v := ?_) (hi := ?_) (hs := ?_) (hf := ?_) (hr := ?_) (hQ := ?_) (hy := ?_) (hS := ?_) (h := ?_)
      rotate_left 2
      · (simp only [List.getElem?_toArray, List.getElem?_cons_succ, List.getElem?_cons_zero]; rfl)
      · kernel_rfl
      · kernel_rfl
      · kernel_rfl
      · exact fun _ _ _ h => h
      · (refine Or.inl ⟨by rfl, ?_⟩; intro wz hSw; obtain ⟨hs1, hs2⟩ := hSw; go_simp; (try with_reducible rfl))
      · assumption
      (try simp only [Act.put, List.setIfInBounds_toArray, List.set_cons_zero, List.set_cons_succ])
      refine wpAnyH_take (i := 2) (oi := ?_) (v := ?_) (hi := ?_) (hs := ?_) (hf := ?_) (hr := ?_) (hQ := ?_) (hy := ?_) (hS := ?_) (h := ?_)
      rotate_left 2
      · (simp only [List.getElem?_toArray, List.getElem?_cons_succ, List.getElem?_cons_zero]; rfl)
      · kernel_rfl
      · kernel_rfl
      · kernel_rfl
      · exact fun _ _ _ h => h
      · (refine Or.inl ⟨by rfl, ?_⟩; intro wz hSw; obtain ⟨hs1, hs2⟩ := hSw; go_simp; (try with_reducible rfl))
      · assumption
      (try simp only [Act.put, List.setIfInBounds_toArray, List.set_cons_zero, List.set_cons_succ])
      refine wpAnyH_take (i := 3) (oi := ?_) (v := ?_) (hi := ?_) (hs := ?_) (hf := ?_) (hr := ?_) (hQ := ?_) (hy := ?_) (hS := ?_) (h := ?_)
      rotate_left 2
      · (simp only [List.getElem?_toArray, List.getElem?_cons_succ, List.getElem?_cons_zero]; rfl)
      · kernel_rfl
      · kernel_rfl
      · kernel_rfl
      · exact fun _ _ _ h => h
      · (refine Or.inl ⟨by rfl, ?_⟩; intro wz hSw; obtain ⟨hs1, hs2⟩ := hSw; go_simp; (try with_reducible rfl))
      · assumption
      (try simp only [Act.put, List.setIfInBounds_toArray, List.set_cons_zero, List.set_cons_succ])
      refine wpAnyH_take (i := 4) (oi := ?_) (v := ?_) (hi := ?_) (hs := ?_) (hf := ?_) (hr := ?_) (hQ := ?_) (hy := ?_) (hS := ?_) (h := ?_)
      rotate_left 2
      · (simp only [List.getElem?_toArray, List.getElem?_cons_succ, List.getElem?_cons_zero]; rfl)
      · kernel_rfl
      · kernel_rfl
      · kernel_rfl
      · exact fun _ _ _ h => h
      · (refine Or.inl ⟨by rfl, ?_⟩; intro wz hSw; obtain ⟨hs1, hs2⟩ := hSw; go_simp; (try with_reducible rfl))
      · assumption
      (try simp only [Act.put, List.setIfInBounds_toArray, List.set_cons_zero, List.set_cons_succ])
      refine wpAnyH_take (i := 5) (oi := ?_) (v := ?_) (hi := ?_) (hs := ?_) (hf := ?_) (hr := ?_) (hQ := ?_) (hy := ?_) (hS := ?_) (h := ?_)
      rotate_left 2
      · (simp only [List.getElem?_toArray, List.getElem?_cons_succ, List.getElem?_cons_zero]; rfl)
      · kernel_rfl
      · kernel_rfl
      · kernel_rfl
      · exact fun _ _ _ h => h
      · (refine Or.inl ⟨by rfl, ?_⟩; intro wz hSw; obtain ⟨hs1, hs2⟩ := hSw; go_simp; (try with_reducible rfl))
      · assumption
      (try simp only [Act.put, List.setIfInBounds_toArray, List.set_cons_zero, List.set_cons_succ])
      refine wpAnyH_take (i := 6) (oi := ?_) (v := ?_) (hi := ?_) (hs := ?_) (hf := ?_) (hr := ?_) (hQ := ?_) (hy := ?_) (hS := ?_) (h := ?_)
      rotate_left 2
      · (simp only [List.getElem?_toArray, List.getElem?_cons_succ, List.getElem?_cons_zero]; rfl)
      · kernel_rfl
      · kernel_rfl
      · kernel_rfl
      · exact fun _ _ _ h => h
      · (refine Or.inl ⟨by rfl, ?_⟩; intro wz hSw; obtain ⟨hs1, hs2⟩ := hSw; go_simp; (try with_reducible rfl))
      · assumption
      (try simp only [Act.put, List.setIfInBounds_toArray, List.set_cons_zero, List.set_cons_succ])
      refine wpAnyH_take (i := 7) (oi := ?_) (v := ?_) (hi := ?_) (hs := ?_) (hf := ?_) (hr := ?_) (hQ := ?_) (hy := ?_) (hS := ?_) (h := ?_)
      rotate_left 2
      · (simp only [List.getElem?_toArray, List.getElem?_cons_succ, List.getElem?_cons_zero]; rfl)
      · kernel_rfl
      · kernel_rfl
      · kernel_rfl
      · exact fun _ _ _ h => h
      · (refine Or.inl ⟨by rfl, ?_⟩; intro wz hSw; obtain ⟨hs1, hs2⟩ := hSw; go_simp; (try with_reducible rfl))
      · assumption
      (try simp only [Act.put, List.setIfInBounds_toArray, List.set_cons_zero, List.set_cons_succ])
      refine wpAnyH_take (i := 8) (oi := ?_) (v := ?_) (hi := ?_) (hs := ?_) (hf := ?_) (hr := ?_) (hQ := ?_) (hy := ?_) (hS := ?_) (h := ?_)
      rotate_left 2
      · (simp only [List.getElem?_toArray, List.getElem?_cons_succ, List.getElem?_cons_zero]; rfl)
      · kernel_rfl
      · kernel_rfl
      · kernel_rfl
      · exact fun _ _ _ h => h
      · (refine Or.inl ⟨by rfl, ?_⟩; intro wz hSw; obtain ⟨hs1, hs2⟩ := hSw; go_simp; (try with_reducible rfl))
      · assumption
      (try simp only [Act.put, List.setIfInBounds_toArray, List.set_cons_zero, List.set_cons_succ])
      refine wpAnyH_take (i := 9) (oi := ?_) (v := ?_) (hi := ?_) (hs := ?_) (hf := ?_) (hr := ?_) (hQ := ?_) (hy := ?_) (hS := ?_) (h := ?_)
      rotate_left 2
      · (simp only [List.getElem?_toArray, List.getElem?_cons_succ, List.getElem?_cons_zero]; rfl)
      · kernel_rfl
      · kernel_rfl
      · kernel_rfl
      · exact fun _ _ _ h => h
      · (refine Or.inl ⟨by rfl, ?_⟩; intro wz hSw; obtain ⟨hs1, hs2⟩ := hSw; go_simp; (try with_reducible rfl))
      · assumption
      (try simp only [Act.put, List.setIfInBounds_toArray, List.set_cons_zero, List.set_cons_succ])
      refine wpAnyH_take (i := 12) (oi := ?_) (v := ?_) (hi := ?_) (hs := ?_) (hf := ?_) (hr := ?_) (hQ := ?_) (hy := ?_) (hS := ?_) (h := ?_)
      rotate_left 2
      · (simp only [List.getElem?_toArray, List.getElem?_cons_succ, List.getElem?_cons_zero]; rfl)
      · kernel_rfl
      · kernel_rfl
      · kernel_rfl
      · exact fun _ _ _ h => h
      · (refine Or.inl ⟨by rfl, ?_⟩; intro wz hSw; obtain ⟨hs1, hs2⟩ := hSw; go_simp; (try with_reducible rfl))
      · assumption
      (try simp only [Act.put, List.setIfInBounds_toArray, List.set_cons_zero, List.set_cons_succ])
      refine wpAnyH_take (i := 13) (oi := ?_) (v := ?_) (hi := ?_) (hs := ?_) (hf := ?_) (hr := ?_) (hQ := ?_) (hy := ?_) (hS := ?_) (h := ?_)
      rotate_left 2
      · (simp only [List.getElem?_toArray, List.getElem?_cons_succ, List.getElem?_cons_zero]; rfl)
      · kernel_rfl
      · kernel_rfl
      · kernel_rfl
      · exact fun _ _ _ h => h
      · (refine Or.inl ⟨by rfl, ?_⟩; intro wz hSw; obtain ⟨hs1, hs2⟩ := hSw; go_simp; (try with_reducible rfl))
      · assumption
      (try simp only [Act.put, List.setIfInBounds_toArray, List.set_cons_zero, List.set_cons_succ])
      refine wpAnyH_ready (rs := [0, 10]) (by kernel_rfl) (by simp) ?_
      refine AllReadyH.cons (o := ?_) (ho := ?_) (h := ?_) (hs := ?_)
      rotate_left 1
      · (simp only [List.getElem?_toArray, List.getElem?_cons_zero]; rfl)
      · intro K hK
        go_simp
        refine hK.out _ _ ?_ (fun hHeld => ?_)
        · exact ⟨z2, z3⟩
        clear hK K
        (try simp only [Act.put, List.setIfInBounds_toArray, List.set_cons_zero, List.set_cons_succ])
        refine wpAnyH_ready (rs := [10]) (by kernel_rfl) (by simp) ?_
        refine AllReadyH.cons (o := ?_) (ho := ?_) (h := ?_) (hs := AllReadyH.nil)
        rotate_left 1
        · (simp only [List.getElem?_toArray, List.getElem?_cons_succ, List.getElem?_cons_zero]; rfl)
        intro K hK
        go_simp
        refine hK.out _ _ ?_ (fun hHeld => ?_)
        · exact ⟨z2a, z3a⟩
        clear hK K
        (try simp only [Act.put, List.setIfInBounds_toArray, List.set_cons_zero, List.set_cons_succ])
        refine wpAnyH_ready (rs := [11]) (by kernel_rfl) (by simp) ?_
        refine AllReadyH.cons (o := ?_) (ho := ?_) (h := ?_) (hs := AllReadyH.nil)
        rotate_left 1
        · (simp only [List.getElem?_toArray, List.getElem?_cons_succ, List.getElem?_cons_zero]; rfl)
        intro K hK
        refine step_append_mine _ rfl (.tmp 18) (.tmp 28) _ _ rfl 5 i0 _ 1 1 Try.underlying22 HX.out.1 HX.out.2.1 HX.out.2.2.1 HX.out.2.2.2 rfl _ ((encAll (pre.map (·.1))).length + 1 + (bstr x.1.1).size) ((bytes (encAll (pre.map (·.1))) ++ bytes [((bstr x.1.1).size : Int)]) ++ Go.byteCells (bstr x.1.1)) f3 rfl (HQ.out.2.2.1.alloc _) _ 2 (bytes [0, ((bstr x.1.2).size : Int)]) rfl ((Blk.new' W5 (n := W5.heap.size) rfl 5 #[.int .u8 0, .int .u8 ((bstr x.1.2).size : Int)]).src Try.underlying22 2 rfl (by simp [Value.oneCell'])) (by have := HL.out; unfold maxLen; omega) (by have := HL.out; omega) ?_
        intro v6 W6 f6 ho6 hk6 hn6
        obtain ⟨A6, c6, rfl, -, -⟩ := ho6.form
        have hb6 := (HQ.out.1.alloc (.cells #[.int .u8 0, .int .u8 ((bstr x.1.2).size : Int)] 5)).keeps hk6 HQ.out.2.2.2.2.1
        have hv6 := (HQ.out.2.1.alloc (.cells #[.int .u8 0, .int .u8 ((bstr x.1.2).size : Int)] 5)).keeps hk6 HQ.out.2.2.2.1
        refine hK.out _ _ ?_ (fun hHeld => ?_)
        · exact ⟨hb6.cell 0, hb6.cell 1⟩
        clear hK K
        (try simp only [Act.put, List.setIfInBounds_toArray, List.set_cons_zero, List.set_cons_succ])
        refine wpAnyH_ready (rs := [14]) (by kernel_rfl) (by simp) ?_
        refine AllReadyH.cons (o := ?_) (ho := ?_) (h := ?_) (hs := AllReadyH.nil)
        rotate_left 1
        · (simp only [List.getElem?_toArray, List.getElem?_cons_succ, List.getElem?_cons_zero]; rfl)
        intro K hK
        refine step_append_mine _ rfl (.tmp 29) (.tmp 31) _ _ rfl 5 i0 _ 1 1 Try.underlying22 HX.out.1 HX.out.2.1 HX.out.2.2.1 HX.out.2.2.2 rfl _ _ _ f6 rfl ho6 _ (bstr x.1.2).size (Go.byteCells (bstr x.1.2)) rfl (Src.ofString _ Try.underlying9 _) (by have := HL.out; unfold maxLen; omega) (by have := HL.out; omega) ?_
        intro v7 W7 f7 ho7 hk7 hn7
        obtain ⟨A7, c7, rfl, -, -⟩ := ho7.form
        have hn6' : ∀ k ∈ f6, k ∈ f3 ∨ W5.heap.size ≤ k := fun k hk => by rcases hn6 k hk with h | h; exact .inl h; exact .inr (by simp at h; omega)
        have hb7 := hb6.keeps hk7 (fun h => by rcases hn6' _ h with h | h; exact HQ.out.2.2.2.2.1 h; have := HQ.out.1.lt; omega)
        have hv7 := hv6.keeps hk7 (fun h => by rcases hn6' _ h with h | h; exact HQ.out.2.2.2.1 h; have := HQ.out.2.1.lt; omega)
        have e7 : W7.cell? ⟨nb, 0, none⟩ = some (.slice A3 ((encAll (pre.map (·.1))).length + 1 + (bstr x.1.1).size) c3) := hv7.cell 0
        have e8 := hv7.frozen 0
        refine hK.out _ _ ?_ (fun hHeld => ?_)
        · exact ⟨hb7.cell 0, hb7.cell 1⟩
        clear hK K
        (try simp only [Act.put, List.setIfInBounds_toArray, List.set_cons_zero, List.set_cons_succ])
        refine wpAnyH_ready (rs := [15]) (by kernel_rfl) (by simp) ?_
        refine AllReadyH.cons (o := ?_) (ho := ?_) (h := ?_) (hs := AllReadyH.nil)
        rotate_left 1
        · (simp only [List.getElem?_toArray, List.getElem?_cons_succ, List.getElem?_cons_zero]; rfl)
        intro K hK
        go_simp
        refine hK.out _ _ ?_ (fun hHeld => ?_)
        · exact ⟨(hb7.far (p := ⟨nb, 0, none⟩) HNB.out _).cell 0, (hb7.far (p := ⟨nb, 0, none⟩) HNB.out _).cell 1⟩
        clear hK K
        (try simp only [Act.put, List.setIfInBounds_toArray, List.set_cons_zero, List.set_cons_succ])
        refine wpAnyH_done (by kernel_rfl) ?_ _
        (try simp only [Exit.inBlock])
        obtain ⟨hKe, hBv, hBx, hblk, hr, hs0, hnb, hf, -, -, hOwn, -⟩ := HB.out
        obtain ⟨-, -, -, hnf3, hBf3, -, hk5, hn5⟩ := HQ.out
        have hkp : ∀ v, Keeps W (W7.setCell ⟨nb, 0, none⟩ v) (nb :: f) := fun v => (((hk5.alloc _).trans hk6 (fun i hi h => by rcases hn5 i h with h | h; simp [h]; omega)).trans hk7 (fun i hi h => by rcases hn6' i h with h | h; (rcases hn5 i h with h | h; simp [h]; omega); have := hk5.size; omega)).setCell (.inl (by simp)) v
        have hty : ∀ k ∈ nb :: f, ∀ o, W.heap[k]? = some o → safeO o = false ∧ o.isCells = true := fun k hk o ho => by
          rcases List.mem_cons.1 hk with rfl | hk
          · have h4 : W.heap[k]? = some (.cells #[.slice A0 (encAll (pre.map (·.1))).length c0] 22) := hBv
            rw [h4] at ho
            cases ho
            exact ⟨rfl, rfl⟩
          · obtain ⟨cur, h4⟩ := hOwn.typed k hk
            rw [show W1.heap = W.heap by rw [HW1.out]; rfl] at h4
            rw [h4] at ho
            cases ho
            exact ⟨rfl, rfl⟩
        have hfw : ∀ k ∈ f7, k ∈ f ∨ W.heap.size ≤ k := fun k hk => by
          have s5 := hk5.size
          have s6 := hk6.size
          rcases hn7 k hk with h | h
          · rcases hn6' k h with h | h
            · exact hn5 k h
            · right; omega
          · right; simp at s6; omega
        have hnf7 : nb ∉ f7 := fun h => by
          rcases hfw nb h with h | h
          · have := hf nb h; omega
          · have := hKe.size; omega
        refine ⟨(KeepsOthers.ofKeeps (hkp _) (fun k hk o ho => (hty k hk o ho).2)).from _, TK.ofKeeps (hkp _) (fun k hk o ho => (hty k hk o ho).1), _, f7, ?_, hv7.set_ 0 _, ?_, ?_⟩
        · exact hKe.trans (hkp _) (fun i hi hm => by
            rcases List.mem_cons.1 hm with rfl | hm
            · simp
            · have := hf i hm; omega)
        · have h9 := ho7.set (p := ⟨nb, 0, none⟩) hnf7 (.slice A7 (((encAll (pre.map (·.1))).length + 1 + (bstr x.1.1).size) + 2 + (bstr x.1.2).size) c7)
          have e9 : encAll ((pre ++ [x]).map (·.1)) = encAll (pre.map (·.1)) ++ encP x.1 := by rw [List.map_append, List.map_cons, List.map_nil, encAll_snoc]
          rw [e9, ← enc_len, ← enc_rows _ _ x.2.2]
          exact h9
        · intro k hk
          rcases hfw k hk with h | h
          · exact hf k h
          · have := hKe.size; omega
      refine AllReadyH.cons (o := ?_) (ho := ?_) (h := ?_) (hs := AllReadyH.nil)
      rotate_left 1
      · (simp only [List.getElem?_toArray, List.getElem?_cons_succ, List.getElem?_cons_zero]; rfl)
      intro K hK
      go_simp
      refine hK.out _ _ ?_ (fun hHeld => ?_)
      · exact ⟨z2a, z3a⟩
      clear hK K
      (try simp only [Act.put, List.setIfInBounds_toArray, List.set_cons_zero, List.set_cons_succ])
      refine wpAnyH_ready (rs := [0]) (by kernel_rfl) (by simp) ?_
      refine AllReadyH.cons (o := ?_) (ho := ?_) (h := ?_) (hs := AllReadyH.nil)
      rotate_left 1
      · (simp only [List.getElem?_toArray, List.getElem?_cons_zero]; rfl)
      intro K hK
      go_simp
      refine hK.out _ _ ?_ (fun hHeld => ?_)
      · exact ⟨z2a, z3a⟩
      clear hK K
      (try simp only [Act.put, List.setIfInBounds_toArray, List.set_cons_zero, List.set_cons_succ])
      refine wpAnyH_ready (rs := [11]) (by kernel_rfl) (by simp) ?_
      refine AllReadyH.cons (o := ?_) (ho := ?_) (h := ?_) (hs := AllReadyH.nil)
      rotate_left 1
      · (simp only [List.getElem?_toArray, List.getElem?_cons_succ, List.getElem?_cons_zero]; rfl)
      intro K hK
      refine step_append_mine _ rfl (.tmp 18) (.tmp 28) _ _ rfl 5 i0 _ 1 1 Try.underlying22 HX.out.1 HX.out.2.1 HX.out.2.2.1 HX.out.2.2.2 rfl _ ((encAll (pre.map (·.1))).length + 1 + (bstr x.1.1).size) ((bytes (encAll (pre.map (·.1))) ++ bytes [((bstr x.1.1).size : Int)]) ++ Go.byteCells (bstr x.1.1)) f3 rfl (HQ.out.2.2.1.alloc _) _ 2 (bytes [0, ((bstr x.1.2).size : Int)]) rfl ((Blk.new' W5 (n := W5.heap.size) rfl 5 #[.int .u8 0, .int .u8 ((bstr x.1.2).size : Int)]).src Try.underlying22 2 rfl (by simp [Value.oneCell'])) (by have := HL.out; unfold maxLen; omega) (by have := HL.out; omega) ?_
      intro v6 W6 f6 ho6 hk6 hn6
      obtain ⟨A6, c6, rfl, -, -⟩ := ho6.form
      have hb6 := (HQ.out.1.alloc (.cells #[.int .u8 0, .int .u8 ((bstr x.1.2).size : Int)] 5)).keeps hk6 HQ.out.2.2.2.2.1
      have hv6 := (HQ.out.2.1.alloc (.cells #[.int .u8 0, .int .u8 ((bstr x.1.2).size : Int)] 5)).keeps hk6 HQ.out.2.2.2.1
      refine hK.out _ _ ?_ (fun hHeld => ?_)
      · exact ⟨hb6.cell 0, hb6.cell 1⟩
      clear hK K
      (try simp only [Act.put, List.setIfInBounds_toArray, List.set_cons_zero, List.set_cons_succ])
      refine wpAnyH_ready (rs := [14]) (by kernel_rfl) (by simp) ?_
      refine AllReadyH.cons (o := ?_) (ho := ?_) (h := ?_) (hs := AllReadyH.nil)
      rotate_left 1
      · (simp only [List.getElem?_toArray, List.getElem?_cons_succ, List.getElem?_cons_zero]; rfl)
      intro K hK
      refine step_append_mine _ rfl (.tmp 29) (.tmp 31) _ _ rfl 5 i0 _ 1 1 Try.underlying22 HX.out.1 HX.out.2.1 HX.out.2.2.1 HX.out.2.2.2 rfl _ _ _ f6 rfl ho6 _ (bstr x.1.2).size (Go.byteCells (bstr x.1.2)) rfl (Src.ofString _ Try.underlying9 _) (by have := HL.out; unfold maxLen; omega) (by have := HL.out; omega) ?_
      intro v7 W7 f7 ho7 hk7 hn7
      obtain ⟨A7, c7, rfl, -, -⟩ := ho7.form
      have hn6' : ∀ k ∈ f6, k ∈ f3 ∨ W5.heap.size ≤ k := fun k hk => by rcases hn6 k hk with h | h; exact .inl h; exact .inr (by simp at h; omega)
      have hb7 := hb6.keeps hk7 (fun h => by rcases hn6' _ h with h | h; exact HQ.out.2.2.2.2.1 h; have := HQ.out.1.lt; omega)
      have hv7 := hv6.keeps hk7 (fun h => by rcases hn6' _ h with h | h; exact HQ.out.2.2.2.1 h; have := HQ.out.2.1.lt; omega)
      have e7 : W7.cell? ⟨nb, 0, none⟩ = some (.slice A3 ((encAll (pre.map (·.1))).length + 1 + (bstr x.1.1).size) c3) := hv7.cell 0
      have e8 := hv7.frozen 0
      refine hK.out _ _ ?_ (fun hHeld => ?_)
      · exact ⟨hb7.cell 0, hb7.cell 1⟩
      clear hK K
      (try simp only [Act.put, List.setIfInBounds_toArray, List.set_cons_zero, List.set_cons_succ])
      refine wpAnyH_ready (rs := [15]) (by kernel_rfl) (by simp) ?_
      refine AllReadyH.cons (o := ?_) (ho := ?_) (h := ?_) (hs := AllReadyH.nil)
      rotate_left 1
      · (simp only [List.getElem?_toArray, List.getElem?_cons_succ, List.getElem?_cons_zero]; rfl)
      intro K hK
      go_simp
      refine hK.out _ _ ?_ (fun hHeld => ?_)
      · exact ⟨(hb7.far (p := ⟨nb, 0, none⟩) HNB.out _).cell 0, (hb7.far (p := ⟨nb, 0, none⟩) HNB.out _).cell 1⟩
      clear hK K
      (try simp only [Act.put, List.setIfInBounds_toArray, List.set_cons_zero, List.set_cons_succ])
      refine wpAnyH_done (by kernel_rfl) ?_ _
      (try simp only [Exit.inBlock])
      obtain ⟨hKe, hBv, hBx, hblk, hr, hs0, hnb, hf, -, -, hOwn, -⟩ := HB.out
      obtain ⟨-, -, -, hnf3, hBf3, -, hk5, hn5⟩ := HQ.out
      have hkp : ∀ v, Keeps W (W7.setCell ⟨nb, 0, none⟩ v) (nb :: f) := fun v => (((hk5.alloc _).trans hk6 (fun i hi h => by rcases hn5 i h with h | h; simp [h]; omega)).trans hk7 (fun i hi h => by rcases hn6' i h with h | h; (rcases hn5 i h with h | h; simp [h]; omega); have := hk5.size; omega)).setCell (.inl (by simp)) v
      have hty : ∀ k ∈ nb :: f, ∀ o, W.heap[k]? = some o → safeO o = false ∧ o.isCells = true := fun k hk o ho => by
        rcases List.mem_cons.1 hk with rfl | hk
        · have h4 : W.heap[k]? = some (.cells #[.slice A0 (encAll (pre.map (·.1))).length c0] 22) := hBv
          rw [h4] at ho
          cases ho
          exact ⟨rfl, rfl⟩
        · obtain ⟨cur, h4⟩ := hOwn.typed k hk
          rw [show W1.heap = W.heap by rw [HW1.out]; rfl] at h4
          rw [h4] at ho
          cases ho
          exact ⟨rfl, rfl⟩
      have hfw : ∀ k ∈ f7, k ∈ f ∨ W.heap.size ≤ k := fun k hk => by
        have s5 := hk5.size
        have s6 := hk6.size
        rcases hn7 k hk with h | h
        · rcases hn6' k h with h | h
          · exact hn5 k h
          · right; omega
        · right; simp at s6; omega
      have hnf7 : nb ∉ f7 := fun h => by
        rcases hfw nb h with h | h
        · have := hf nb h; omega
        · have := hKe.size; omega
      refine ⟨(KeepsOthers.ofKeeps (hkp _) (fun k hk o ho => (hty k hk o ho).2)).from _, TK.ofKeeps (hkp _) (fun k hk o ho => (hty k hk o ho).1), _, f7, ?_, hv7.set_ 0 _, ?_, ?_⟩
      · exact hKe.trans (hkp _) (fun i hi hm => by
          rcases List.mem_cons.1 hm with rfl | hm
          · simp
          · have := hf i hm; omega)
      · have h9 := ho7.set (p := ⟨nb, 0, none⟩) hnf7 (.slice A7 (((encAll (pre.map (·.1))).length + 1 + (bstr x.1.1).size) + 2 + (bstr x.1.2).size) c7)
        have e9 : encAll ((pre ++ [x]).map (·.1)) = encAll (pre.map (·.1)) ++ encP x.1 := by rw [List.map_append, List.map_cons, List.map_nil, encAll_snoc]
        rw [e9, ← enc_len, ← enc_rows _ _ x.2.2]
        exact h9
      · intro k hk
        rcases hfw k hk with h | h
        · exact hf k h
        · have := hKe.size; omega
    refine wpIn_held_drew (S := (fun w' => w'.cell? ⟨Bx, 0, none⟩ = some (.string (bstr x.1.1)) ∧ w'.cell? ⟨Bx, 1, none⟩ = some (.string (bstr x.1.2)))) (by kernel_rfl) (by kernel_rfl) ?_ ?_ (fun hHeld => ?_)
    · exact fun ⟨_, _, h⟩ => h
    · rw [← HW1.out]; exact ⟨z2, z3⟩
    rw [← HW1.out] at hHeld ⊢
    refine wpAnyH_take (i := 1) (oi := ?_) (v := ?_) (hi := ?_) (hs := ?_) (hf := ?_) (hr := ?_) (hQ := ?_) (hy := ?_) (hS := ?_) (h := ?_)
    rotate_left 2
    · (simp only [List.getElem?_toArray, List.getElem?_cons_succ, List.getElem?_cons_zero]; rfl)
    · kernel_rfl
    · kernel_rfl
    · kernel_rfl
    · exact fun _ _ _ h => h
    · (refine Or.inl ⟨by rfl, ?_⟩; intro wz hSw; obtain ⟨hs1, hs2⟩ := hSw; go_simp; (try with_reducible rfl))
    · assumption
    (try simp only [Act.put, List.setIfInBounds_toArray, List.set_cons_zero, List.set_cons_succ])
    refine wpAnyH_take (i := 2) (oi := ?_) (v := ?_) (hi := ?_) (hs := ?_) (hf := ?_) (hr := ?_) (hQ := ?_) (hy := ?_) (hS := ?_) (h := ?_)
    rotate_left 2
    · (simp only [List.getElem?_toArray, List.getElem?_cons_succ, List.getElem?_cons_zero]; rfl)
    · kernel_rfl
    · kernel_rfl
    · kernel_rfl
    · exact fun _ _ _ h => h
    · (refine Or.inl ⟨by rfl, ?_⟩; intro wz hSw; obtain ⟨hs1, hs2⟩ := hSw; go_simp; (try with_reducible rfl))
    · assumption
    (try simp only [Act.put, List.setIfInBounds_toArray, List.set_cons_zero, List.set_cons_succ])
    refine wpAnyH_take (i := 3) (oi := ?_) (v := ?_) (hi := ?_) (hs := ?_) (hf := ?_) (hr := ?_) (hQ := ?_) (hy := ?_) (hS := ?_) (h := ?_)
    rotate_left 2
    · (simp only [List.getElem?_toArray, List.getElem?_cons_succ, List.getElem?_cons_zero]; rfl)
    · kernel_rfl
    · kernel_rfl
    · kernel_rfl
    · exact fun _ _ _ h => h
    · (refine Or.inl ⟨by rfl, ?_⟩; intro wz hSw; obtain ⟨hs1, hs2⟩ := hSw; go_simp; (try with_reducible rfl))
    · assumption
    (try simp only [Act.put, List.setIfInBounds_toArray, List.set_cons_zero, List.set_cons_succ])
    refine wpAnyH_take (i := 4) (oi := ?_) (v := ?_) (hi := ?_) (hs := ?_) (hf := ?_) (hr := ?_) (hQ := ?_) (hy := ?_) (hS := ?_) (h := ?_)
    rotate_left 2
    · (simp only [List.getElem?_toArray, List.getElem?_cons_succ, List.getElem?_cons_zero]; rfl)
    · kernel_rfl
    · kernel_rfl
    · kernel_rfl
    · exact fun _ _ _ h => h
    · (refine Or.inl ⟨by rfl, ?_⟩; intro wz hSw; obtain ⟨hs1, hs2⟩ := hSw; go_simp; (try with_reducible rfl))
    · assumption
    (try simp only [Act.put, List.setIfInBounds_toArray, List.set_cons_zero, List.set_cons_succ])
    refine wpAnyH_take (i := 7) (oi := ?_) (v := ?_) (hi := ?_) (hs := ?_) (hf := ?_) (hr := ?_) (hQ := ?_) (hy := ?_) (hS := ?_) (h := ?_)
    rotate_left 2
    · (simp only [List.getElem?_toArray, List.getElem?_cons_succ, List.getElem?_cons_zero]; rfl)
    · kernel_rfl
    · kernel_rfl
    · kernel_rfl
    · exact fun _ _ _ h => h
    · (refine Or.inl ⟨by rfl, ?_⟩; intro wz hSw; obtain ⟨hs1, hs2⟩ := hSw; go_simp; (try with_reducible rfl))
    · assumption
    (try simp only [Act.put, List.setIfInBounds_toArray, List.set_cons_zero, List.set_cons_succ])
    refine wpAnyH_take (i := 8) (oi := ?_) (v := ?_) (hi := ?_) (hs := ?_) (hf := ?_) (hr := ?_) (hQ := ?_) (hy := ?_) (hS := ?_) (h := ?_)
    rotate_left 2
    · (simp only [List.getElem?_toArray, List.getElem?_cons_succ, List.getElem?_cons_zero]; rfl)
    · kernel_rfl
    · kernel_rfl
    · kernel_rfl
    · exact fun _ _ _ h => h
    · (refine Or.inl ⟨by rfl, ?_⟩; intro wz hSw; obtain ⟨hs1, hs2⟩ := hSw; go_simp; (try with_reducible rfl))
    · assumption
    (try simp only [Act.put, List.setIfInBounds_toArray, List.set_cons_zero, List.set_cons_succ])
    refine wpAnyH_ready (rs := [0, 5]) (by kernel_rfl) (by simp) ?_
    refine AllReadyH.cons (o := ?_) (ho := ?_) (h := ?_) (hs := ?_)
    rotate_left 1
    · (simp only [List.getElem?_toArray, List.getElem?_cons_zero]; rfl)
    · intro K hK
      go_simp
      refine hK.out _ _ ?_ (fun hHeld => ?_)
      · exact ⟨z2, z3⟩
      clear hK K
      (try simp only [Act.put, List.setIfInBounds_toArray, List.set_cons_zero, List.set_cons_succ])
      refine wpAnyH_ready (rs := [5]) (by kernel_rfl) (by simp) ?_
      refine AllReadyH.cons (o := ?_) (ho := ?_) (h := ?_) (hs := AllReadyH.nil)
      rotate_left 1
      · (simp only [List.getElem?_toArray, List.getElem?_cons_succ, List.getElem?_cons_zero]; rfl)
      intro K hK
      go_simp
      refine hK.out _ _ ?_ (fun hHeld => ?_)
      · exact ⟨z2a, z3a⟩
      clear hK K
      (try simp only [Act.put, List.setIfInBounds_toArray, List.set_cons_zero, List.set_cons_succ])
      refine wpAnyH_ready (rs := [6]) (by kernel_rfl) (by simp) ?_
      refine AllReadyH.cons (o := ?_) (ho := ?_) (h := ?_) (hs := AllReadyH.nil)
      rotate_left 1
      · (simp only [List.getElem?_toArray, List.getElem?_cons_succ, List.getElem?_cons_zero]; rfl)
      intro K hK
      refine step_append_mine _ rfl (.tmp 8) (.tmp 13) _ _ rfl 5 i0 _ 1 1 Try.underlying22 HX.out.1 HX.out.2.1 HX.out.2.2.1 HX.out.2.2.2 rfl _ (encAll (pre.map (·.1))).length (bytes (encAll (pre.map (·.1)))) f rfl (HB.out.2.2.2.2.2.2.2.2.2.2.1.alloc _) _ 1 (bytes [((bstr x.1.1).size : Int)]) rfl ((Blk.new' W1 (n := W1.heap.size) rfl 5 #[.int .u8 ((bstr x.1.1).size : Int)]).src Try.underlying22 1 rfl (by simp [Value.oneCell'])) (by have := HL.out; unfold maxLen; omega) (by have := HL.out; omega) ?_
      intro v2 W2 f2 ho2 hk2 hn2
      obtain ⟨A2, c2, rfl, -, -⟩ := ho2.form
      have hb2 := (HB.out.2.2.2.2.2.2.2.2.2.1.alloc (.cells #[.int .u8 ((bstr x.1.1).size : Int)] 5)).keeps hk2 HF.out.2
      have hv2 := (HB.out.2.2.2.2.2.2.2.2.2.2.2.alloc (.cells #[.int .u8 ((bstr x.1.1).size : Int)] 5)).keeps hk2 HF.out.1
      refine hK.out _ _ ?_ (fun hHeld => ?_)
      · exact ⟨hb2.cell 0, hb2.cell 1⟩
      clear hK K
      (try simp only [Act.put, List.setIfInBounds_toArray, List.set_cons_zero, List.set_cons_succ])
      refine wpAnyH_ready (rs := [9]) (by kernel_rfl) (by simp) ?_
      refine AllReadyH.cons (o := ?_) (ho := ?_) (h := ?_) (hs := AllReadyH.nil)
      rotate_left 1
      · (simp only [List.getElem?_toArray, List.getElem?_cons_succ, List.getElem?_cons_zero]; rfl)
      intro K hK
      refine step_append_mine _ rfl (.tmp 14) (.tmp 16) _ _ rfl 5 i0 _ 1 1 Try.underlying22 HX.out.1 HX.out.2.1 HX.out.2.2.1 HX.out.2.2.2 rfl _ _ _ f2 rfl ho2 _ (bstr x.1.1).size (Go.byteCells (bstr x.1.1)) rfl (Src.ofString _ Try.underlying9 _) (by have := HL.out; unfold maxLen; omega) (by have := HL.out; omega) ?_
      intro v3 W3 f3 ho3 hk3 hn3
      obtain ⟨A3, c3, rfl, -, -⟩ := ho3.form
      have hn2' : ∀ k ∈ f2, k ∈ f ∨ W1.heap.size ≤ k := fun k hk => by rcases hn2 k hk with h | h; exact .inl h; exact .inr (by simp at h; omega)
      have hb3 := hb2.keeps hk3 (fun h => by rcases hn2' _ h with h | h; exact HF.out.2 h; have := HB.out.2.2.2.2.2.2.2.2.2.1.lt; omega)
      have hv3 := hv2.keeps hk3 (fun h => by rcases hn2' _ h with h | h; exact HF.out.1 h; have := HB.out.2.2.2.2.2.2.2.2.2.2.2.lt; omega)
      have e5 : W3.cell? ⟨nb, 0, none⟩ = some (.slice A0 (encAll (pre.map (·.1))).length c0) := hv3.cell 0
      have e6 := hv3.frozen 0
      refine hK.out _ _ ?_ (fun hHeld => ?_)
      · exact ⟨hb3.cell 0, hb3.cell 1⟩
      clear hK K
      (try simp only [Act.put, List.setIfInBounds_toArray, List.set_cons_zero, List.set_cons_succ])
      refine wpAnyH_ready (rs := [10]) (by kernel_rfl) (by simp) ?_
      refine AllReadyH.cons (o := ?_) (ho := ?_) (h := ?_) (hs := AllReadyH.nil)
      rotate_left 1
      · (simp only [List.getElem?_toArray, List.getElem?_cons_succ, List.getElem?_cons_zero]; rfl)
      intro K hK
      go_simp
      refine hK.out _ _ ?_ (fun hHeld => ?_)
      · exact ⟨(hb3.far (p := ⟨nb, 0, none⟩) HNB.out _).cell 0, (hb3.far (p := ⟨nb, 0, none⟩) HNB.out _).cell 1⟩
      clear hK K
      (try simp only [Act.put, List.setIfInBounds_toArray, List.set_cons_zero, List.set_cons_succ])
      refine wpAnyH_done (by kernel_rfl) ?_ _
      have hkW3 : Keeps W W3 f := ((((HB.out.2.2.2.2.2.2.2.2.1.mono (by simp)).alloc _).trans hk2 (fun i _ h => h)).trans hk3 (fun i hi h => by rcases hn2' i h with h | h; exact h; have := HB.out.2.2.2.2.2.2.2.2.1.size; omega))
      exact hcont A2 c2 A3 c3 W3 f3 ho3 hkW3 (fun k hk => by rcases hn3 k hk with h | h; (rcases hn2' k h with h | h; exact .inl h; exact .inr (by have := HB.out.2.2.2.2.2.2.2.2.1.size; omega)); exact .inr (by have := hkW3.size; have := hk3.size; have := hk2.size; have := HB.out.2.2.2.2.2.2.2.2.1.size; simp at *; omega))
    refine AllReadyH.cons (o := ?_) (ho := ?_) (h := ?_) (hs := AllReadyH.nil)
    rotate_left 1
    · (simp only [List.getElem?_toArray, List.getElem?_cons_succ, List.getElem?_cons_zero]; rfl)
    intro K hK
    go_simp
    refine hK.out _ _ ?_ (fun hHeld => ?_)
    · exact ⟨z2a, z3a⟩
    clear hK K
    (try simp only [Act.put, List.setIfInBounds_toArray, List.set_cons_zero, List.set_cons_succ])
    refine wpAnyH_ready (rs := [0]) (by kernel_rfl) (by simp) ?_
    refine AllReadyH.cons (o := ?_) (ho := ?_) (h := ?_) (hs := AllReadyH.nil)
    rotate_left 1
    · (simp only [List.getElem?_toArray, List.getElem?_cons_zero]; rfl)
    intro K hK
    go_simp
    refine hK.out _ _ ?_ (fun hHeld => ?_)
    · exact ⟨z2a, z3a⟩
    clear hK K
    (try simp only [Act.put, List.setIfInBounds_toArray, List.set_cons_zero, List.set_cons_succ])
    refine wpAnyH_ready (rs := [6]) (by kernel_rfl) (by simp) ?_
    refine AllReadyH.cons (o := ?_) (ho := ?_) (h := ?_) (hs := AllReadyH.nil)
    rotate_left 1
    · (simp only [List.getElem?_toArray, List.getElem?_cons_succ, List.getElem?_cons_zero]; rfl)
    intro K hK
    refine step_append_mine _ rfl (.tmp 8) (.tmp 13) _ _ rfl 5 i0 _ 1 1 Try.underlying22 HX.out.1 HX.out.2.1 HX.out.2.2.1 HX.out.2.2.2 rfl _ (encAll (pre.map (·.1))).length (bytes (encAll (pre.map (·.1)))) f rfl (HB.out.2.2.2.2.2.2.2.2.2.2.1.alloc _) _ 1 (bytes [((bstr x.1.1).size : Int)]) rfl ((Blk.new' W1 (n := W1.heap.size) rfl 5 #[.int .u8 ((bstr x.1.1).size : Int)]).src Try.underlying22 1 rfl (by simp [Value.oneCell'])) (by have := HL.out; unfold maxLen; omega) (by have := HL.out; omega) ?_
    intro v2 W2 f2 ho2 hk2 hn2
    obtain ⟨A2, c2, rfl, -, -⟩ := ho2.form
    have hb2 := (HB.out.2.2.2.2.2.2.2.2.2.1.alloc (.cells #[.int .u8 ((bstr x.1.1).size : Int)] 5)).keeps hk2 HF.out.2
    have hv2 := (HB.out.2.2.2.2.2.2.2.2.2.2.2.alloc (.cells #[.int .u8 ((bstr x.1.1).size : Int)] 5)).keeps hk2 HF.out.1
    refine hK.out _ _ ?_ (fun hHeld => ?_)
    · exact ⟨hb2.cell 0, hb2.cell 1⟩
    clear hK K
    (try simp only [Act.put, List.setIfInBounds_toArray, List.set_cons_zero, List.set_cons_succ])
    refine wpAnyH_ready (rs := [9]) (by kernel_rfl) (by simp) ?_
    refine AllReadyH.cons (o := ?_) (ho := ?_) (h := ?_) (hs := AllReadyH.nil)
    rotate_left 1
    · (simp only [List.getElem?_toArray, List.getElem?_cons_succ, List.getElem?_cons_zero]; rfl)
    intro K hK
    refine step_append_mine _ rfl (.tmp 14) (.tmp 16) _ _ rfl 5 i0 _ 1 1 Try.underlying22 HX.out.1 HX.out.2.1 HX.out.2.2.1 HX.out.2.2.2 rfl _ _ _ f2 rfl ho2 _ (bstr x.1.1).size (Go.byteCells (bstr x.1.1)) rfl (Src.ofString _ Try.underlying9 _) (by have := HL.out; unfold maxLen; omega) (by have := HL.out; omega) ?_
    intro v3 W3 f3 ho3 hk3 hn3
    obtain ⟨A3, c3, rfl, -, -⟩ := ho3.form
    have hn2' : ∀ k ∈ f2, k ∈ f ∨ W1.heap.size ≤ k := fun k hk => by rcases hn2 k hk with h | h; exact .inl h; exact .inr (by simp at h; omega)
    have hb3 := hb2.keeps hk3 (fun h => by rcases hn2' _ h with h | h; exact HF.out.2 h; have := HB.out.2.2.2.2.2.2.2.2.2.1.lt; omega)
    have hv3 := hv2.keeps hk3 (fun h => by rcases hn2' _ h with h | h; exact HF.out.1 h; have := HB.out.2.2.2.2.2.2.2.2.2.2.2.lt; omega)
    have e5 : W3.cell? ⟨nb, 0, none⟩ = some (.slice A0 (encAll (pre.map (·.1))).length c0) := hv3.cell 0
    have e6 := hv3.frozen 0
    refine hK.out _ _ ?_ (fun hHeld => ?_)
    · exact ⟨hb3.cell 0, hb3.cell 1⟩
    clear hK K
    (try simp only [Act.put, List.setIfInBounds_toArray, List.set_cons_zero, List.set_cons_succ])
    refine wpAnyH_ready (rs := [10]) (by kernel_rfl) (by simp) ?_
    refine AllReadyH.cons (o := ?_) (ho := ?_) (h := ?_) (hs := AllReadyH.nil)
    rotate_left 1
    · (simp only [List.getElem?_toArray, List.getElem?_cons_succ, List.getElem?_cons_zero]; rfl)
    intro K hK
    go_simp
    refine hK.out _ _ ?_ (fun hHeld => ?_)
    · exact ⟨(hb3.far (p := ⟨nb, 0, none⟩) HNB.out _).cell 0, (hb3.far (p := ⟨nb, 0, none⟩) HNB.out _).cell 1⟩
    clear hK K
    (try simp only [Act.put, List.setIfInBounds_toArray, List.set_cons_zero, List.set_cons_succ])
    refine wpAnyH_done (by kernel_rfl) ?_ _
    have hkW3 : Keeps W W3 f := ((((HB.out.2.2.2.2.2.2.2.2.1.mono (by simp)).alloc _).trans hk2 (fun i _ h => h)).trans hk3 (fun i hi h => by rcases hn2' i h with h | h; exact h; have := HB.out.2.2.2.2.2.2.2.2.1.size; omega))
    exact hcont A2 c2 A3 c3 W3 f3 ho3 hkW3 (fun k hk => by rcases hn3 k hk with h | h; (rcases hn2' k h with h | h; exact .inl h; exact .inr (by have := HB.out.2.2.2.2.2.2.2.2.1.size; omega)); exact .inr (by have := hkW3.size; have := hk3.size; have := hk2.size; have := HB.out.2.2.2.2.2.2.2.2.1.size; simp at *; omega))
  case done =>
    rintro D xs W hD hsx ⟨v, f, hKe, hBv, hOwn, hf⟩ hK
    have z1 : W.cell? ⟨nb, 0, none⟩ = some v := hBv.cell 0
    have HB := Lib.hid (And.intro hKe (And.intro hOwn (And.intro hK (And.intro hk0 (And.intro hD (And.intro hs0 (And.intro hnb (And.intro hsx hf))))))))
    obtain ⟨A0, c0, rfl, -, -⟩ := hOwn.form
    clear hKe hBv hOwn hf hK hm0 hbd hbp hN0 hst hm hk0 hs0 hnb hsx
    go_wp2_with fail
    obtain ⟨hKe, hOwn, hK, hk0, hD, hs0, hnb, hsx, hf⟩ := HB.out
    have hg := grownBy_putObj' W D (.deferred none)
    have hDW : D < W.heap.size := (Array.getElem?_eq_some_iff.1 hK).1
    refine ⟨by simp, .inl ⟨_, _, rfl, run_takeDeferred hK, ?_⟩⟩
    have hkW : Keeps w W [] := hk0.trans hKe (fun i hi h => by simp at h; omega)
    refine ⟨_, results_tmp rfl _ _ _, _, f, rfl, ?_, ⟨hg.os.trans hkW.os, hg.tape.trans hkW.tape, hg.output.trans hkW.output, Nat.le_trans hkW.size hg.size, fun k hk hn => (World.putObj_heap_other (by omega)).trans (hkW.block k hk hn)⟩, fun k hk => by have := hf k hk; omega⟩
    have h6 := hOwn.to (w' := W.putObj D (.deferred none)) (fun k hk => World.putObj_heap_other (fun e => by
      obtain ⟨cur, h5⟩ := hOwn.typed k hk
      rw [e, hK] at h5
      cases h5))
    rw [← hsx]
    exact h6

end Go.Proofs.Ytecjhaohabjkbaa
