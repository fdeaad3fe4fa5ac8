/-
  SlotsRaw: two devices written alike; a Save on any stores; two pairs that came in.
-/
import Derived.Test.YtecjhaohabjkbaaP21
import Derived.Test.YtecjhaohabjkbaaSkip
namespace Go.Proofs.Ytecjhaohabjkbaa
open Go.ChangeShapes Go.WideShapes Go.Deep Go.RowKit
set_option linter.unusedVariables false

def Z12 : List Sec := List.replicate 12 Sec.zero
theorem Z12_length : Z12.length = 12 := by simp [Z12]
/-- both devices hold the same writes; all that is theirs is new since w0. -/
def RawI (w0 wr : World) (bd br : Nat) (m : Nat) (fd fr : List Nat) : Prop :=
  ∃ pend, DRep wr bd Z12 (land Z12 pend) pend fd ∧ RRep wr br Z12 pend fr ∧ (∀ k ∈ fd, k ∉ fr) ∧ (∀ x ∈ pend, x.s.wf ∧ x.i < 12) ∧ pend.length ≤ m ∧ Keeps w0 wr [] ∧ ∀ k, k ∈ fd ∨ k ∈ fr → w0.heap.size ≤ k
theorem RawI.nil {w0 wr w' : World} {bd br m : Nat} {fd fr : List Nat} (h : RawI w0 wr bd br m fd fr) (hk : Keeps wr w' []) : RawI w0 w' bd br m fd fr := by
  obtain ⟨pend, h1, h2, h3, h4, h5, h6, h7⟩ := h
  exact ⟨pend, h1.nil hk, h2.nil hk, h3, h4, h5, h6.trans hk (by simp), h7⟩
theorem RawI.mono {w0 wr : World} {bd br m m' : Nat} {fd fr : List Nat} (h : RawI w0 wr bd br m fd fr) (hm : m ≤ m') : RawI w0 wr bd br m' fd fr := by
  obtain ⟨pend, h1, h2, h3, h4, h5, h6, h7⟩ := h
  exact ⟨pend, h1, h2, h3, h4, by omega, h6, h7⟩
theorem RawI.old {w0 wr : World} {bd br m : Nat} {fd fr : List Nat} (h : RawI w0 wr bd br m fd fr) : Keeps w0 wr [] := by
  obtain ⟨pend, h1, h2, h3, h4, h5, h6, h7⟩ := h
  exact h6
theorem RawI.lt {w0 wr : World} {bd br m : Nat} {fd fr : List Nat} (h : RawI w0 wr bd br m fd fr) : (∀ k ∈ fd, k < wr.heap.size) ∧ ∀ k ∈ fr, k < wr.heap.size := by
  obtain ⟨pend, h1, h2, -⟩ := h
  exact ⟨h1.lt, h2.lt⟩
/-- the same is written to both. -/
theorem RawI.writes {w0 wr : World} {bd br m : Nat} {fd fr : List Nat} (h : RawI w0 wr bd br m fd fr) (hm : m ≤ 1000) (i : Nat) (hi : i < 12) (s : Sec) (hs : s.wf) :
    Calls Try.prog 19 #[.pointer (some ⟨bd, 0, none⟩), .int .i64 i, .agg s.cells.toArray] wr fun e w1 => e = .returned (.int .i64 0) ∧ Keeps wr w1 fd ∧
      Calls Try.prog 33 #[.pointer (some ⟨br, 0, none⟩), .int .i64 i, .agg s.cells.toArray] w1 fun e w2 => e = .returned (.int .i64 0) ∧ Keeps w1 w2 fr ∧ ∃ fd' fr', RawI w0 w2 bd br (m + 1) fd' fr' := by
  obtain ⟨pend, h1, h2, h3, h4, h5, h6, h7⟩ := h
  have hlt1 := h1.lt
  have hlt2 := h2.lt
  refine (write_ok bd Z12 (land Z12 pend) pend fd wr i s h1 (by rw [land_length, Z12_length]; exact hi) (by rw [land_length, Z12_length]; omega) (by omega)).mono ?_
  rintro e w1 ⟨fd', rfl, d1, k1, n1⟩
  refine ⟨rfl, k1, ?_⟩
  have hr1 : RRep w1 br Z12 pend fr := h2.keeps k1 (fun k a b => h3 k b a)
  refine (rwrite_ok br Z12 pend fr w1 i s hr1 (by rw [Z12_length]; exact hi) (by rw [Z12_length]; omega) (by omega)).mono ?_
  rintro e w2 ⟨fr', rfl, r2, k2, n2⟩
  have hdis1 : ∀ k ∈ fd', k ∉ fr := fun k a b => by
    rcases n1 k a with h | h
    · exact h3 k h b
    · have := hlt2 k b; omega
  have hdl := d1.lt
  refine ⟨rfl, k2, fd', fr', pend ++ [⟨i, s⟩], ?_, r2, fun k a b => ?_, fun x hx => ?_, by simp; omega, (h6.trans k1 (fun k a b => by have := h7 k (.inl b); omega)).trans k2 (fun k a b => by have := h7 k (.inr b); omega), fun k hk => ?_⟩
  · rw [land_append]
    exact d1.keeps k2 hdis1
  · rcases n2 k b with h | h
    · exact hdis1 k a h
    · have := hdl k a; omega
  · rcases List.mem_append.1 hx with h | h
    · exact h4 x h
    · simp only [List.mem_singleton] at h
      subst h
      exact ⟨hs, hi⟩
  · have s1 := k1.size
    have s0 := h6.size
    rcases hk with hk | hk
    · rcases n1 k hk with h | h
      · exact h7 k (.inl h)
      · omega
    · rcases n2 k hk with h | h
      · exact h7 k (.inr h)
      · omega

theorem hold_turn_lt (half : Nat) (now : List Sec) (k : Nat) : (holdM half now k).2 < 18446744073709551616 := by
  unfold holdM
  split
  · show 0 < _; omega
  · split
    · exact rdB_lt _
    · show 0 < _; omega
theorem best_turn_lt (half : Nat) (now : List Sec) (h : 2 ≤ now.length) : (bestM half now).2.2 < 18446744073709551616 := by
  unfold bestM
  split
  · exact hold_turn_lt half now 1
  · exact hold_turn_lt half now 0

/-- a Save on either of two stores that hold the same, whatever it is. -/
theorem save_raw {l : List Sec} {pend : List Wr} (hf : Fit 100 l pend) (A : Option Addr) (n c : Nat) (b : List Int) (hlen : b.length = n) (hwf : Wf8 b) (hc : n ≤ c) (hn : n ≤ 1000000) :
    ∃ (code : Int) (l' : List Sec) (pend' : List Wr), Fit 50000 l' pend' ∧ (code = 4 ∨ (code = 0 ∧ (bestM (halfOf l') (land l' pend')).2.1 = b)) ∧
      (∀ g bd fp wx fb, St wx g bd l pend fp → Reads wx 1 A n (bytes b) fb → (∀ k ∈ fb, k ∉ fp) → Calls Try.prog 17 #[.pointer (some ⟨g, 0, none⟩), .slice A n c] wx fun e w' => e = .returned (.int .i64 code) ∧ SS wx fp g bd l' pend' w') ∧
      (∀ g bd fp wx fb, RSt wx g bd l pend fp → Reads wx 1 A n (bytes b) fb → (∀ k ∈ fb, k ∉ fp) → Calls Try.prog 36 #[.pointer (some ⟨g, 0, none⟩), .slice A n c] wx fun e w' => e = .returned (.int .i64 code) ∧ RSS wx fp g bd l' pend' w') := by
  by_cases h : halfOf l * 64 < n
  · refine ⟨4, l, pend, hf.mono (by omega), .inl rfl, fun g bd fp wx fb hs hr hd => ?_, fun g bd fp wx fb hs hr hd => ?_⟩
    · refine Calls.mono (saveM_full g bd l pend fp wx A n c hs (hf.mono (by omega)) (by unfold maxLen; omega) h) ?_
      rintro e w' ⟨rfl, rfl⟩
      exact ⟨rfl, SS.start hs⟩
    · refine Calls.mono (rsaveM_full g bd l pend fp wx A n c hs (hf.mono (by omega)) hn h) ?_
      rintro e w' ⟨rfl, hk⟩
      exact ⟨rfl, (RSS.start hs).nil hk⟩
  · have hbl := best_turn_lt (halfOf l) (land l pend) (by rw [land_length]; have := hf.four; omega)
    by_cases ht : (bestM (halfOf l) (land l pend)).2.2 + 1 < 18446744073709551616
    · have hfit := hf.saved hwf (by rw [hlen]; omega) none
      have hl1 : (saveTo l pend b none).1.length = l.length := saveTo_length _ _ _ _
      have hh : halfOf (saveTo l pend b none).1 = halfOf l := by unfold halfOf; rw [hl1]
      refine ⟨0, (saveTo l pend b none).1, (saveTo l pend b none).2, hfit.mono (by omega), .inr ⟨rfl, ?_⟩, fun g bd fp wx fb hs hr hd => ?_, fun g bd fp wx fb hs hr hd => ?_⟩
      · rw [hh]
        show (bestM (halfOf l) (land (saveTo l pend b none).1 [])).2.1 = b
        rw [show land (saveTo l pend b none).1 [] = (saveTo l pend b none).1 from rfl, raw_best hf hwf (by rw [hlen]; omega) ht]
      · exact saveM_ok g bd l pend fp wx A n c b fb hs (hf.mono (by omega)) hr hwf hd (by omega) hc ht
      · exact rsaveM_ok g bd l pend fp wx A n c b fb hs (hf.mono (by omega)) hr hwf hd (by omega) ht
    · refine ⟨4, l, pend, hf.mono (by omega), .inl rfl, fun g bd fp wx fb hs hr hd => ?_, fun g bd fp wx fb hs hr hd => ?_⟩
      · refine Calls.mono (saveM_max g bd l pend fp wx A n c hs (hf.mono (by omega)) (by omega) (by omega)) ?_
        rintro e w' ⟨rfl, hk⟩
        exact ⟨rfl, (SS.start hs).nil hk⟩
      · refine Calls.mono (rsaveM_max g bd l pend fp wx A n c hs (hf.mono (by omega)) (by omega) (by omega)) ?_
        rintro e w' ⟨rfl, hk⟩
        exact ⟨rfl, (RSS.start hs).nil hk⟩

/-! ## what came in -/
/-- two slices of bytes. -/
structure BPair where
  A0 : Option Addr
  b0 : List Int
  c0 : Nat
  A1 : Option Addr
  b1 : List Int
  c1 : Nat
def BPair.cells (x : BPair) : List Value := [.slice x.A0 x.b0.length x.c0, .slice x.A1 x.b1.length x.c1]
def BPair.val (x : BPair) : Value := .agg #[.slice x.A0 x.b0.length x.c0, .slice x.A1 x.b1.length x.c1]
structure BPair.good (w : World) (x : BPair) : Prop where
  wf0 : Wf8 x.b0
  wf1 : Wf8 x.b1
  cap0 : x.b0.length ≤ x.c0
  cap1 : x.b1.length ≤ x.c1
  capm0 : x.c0 ≤ maxLen
  capm1 : x.c1 ≤ maxLen
  reads0 : ∃ f, Reads w 1 x.A0 x.b0.length (bytes x.b0) f
  reads1 : ∃ f, Reads w 1 x.A1 x.b1.length (bytes x.b1) f
section
variable {H : Type} {enc : TypeId × Value → H} {w : World} {base : Nat} {held : Bool}
theorem open_pair2 {P : Program} {t e : TypeId} {r : Reach} {b0 : Nat} {v : Value} {d : DataW H} {p : List MemPlace} (ht : P.underlying t = some (.array 2 e)) (hc : P.cellsOf t = 2) (he : P.cellsOf e = 1)
    (hv : Value.okWide P w r b0 t v) (h : DataW.Trod enc P w base (fun _ => true) held t v d p) :
    ∃ (v0 v1 : Value) (y0 y1 : DataW H × List MemPlace) (n : Nat), v = .agg #[v0, v1] ∧ DataW.trod enc P w base (fun _ => true) held n e [v0] = some y0 ∧ DataW.trod enc P w base (fun _ => true) held n e [v1] = some y1 := by
  obtain ⟨cs, rfl, hsz⟩ : ∃ cs, v = .agg cs ∧ cs.size = P.cellsOf t := by
    unfold Value.okWide at hv
    rw [ht] at hv
    obtain ⟨cs, h1, h2, -⟩ := hv
    exact ⟨cs, h1, h2⟩
  rw [hc] at hsz
  obtain ⟨fuel, hf⟩ := h
  obtain ⟨xs, n', rfl, hxx, hcl, hxl, hat⟩ := DataW.trod_array ht hf
  rw [he] at hat
  obtain ⟨l, rfl⟩ : ∃ l : List Value, cs = l.toArray := ⟨cs.toList, by simp⟩
  match l, hsz with
  | [u0, u1], _ =>
    have t0 := (hat 0 (by omega)).trans (List.getElem?_eq_getElem (by omega))
    have t1 := (hat 1 (by omega)).trans (List.getElem?_eq_getElem (by omega))
    simp only [Value.cells, Nat.zero_mul, List.drop_zero, List.take_succ_cons, List.take_zero, Nat.one_mul, List.drop_succ_cons] at t0 t1
    exact ⟨u0, u1, _, _, n', rfl, t0, t1⟩
set_option maxRecDepth 100000 in
theorem open_bpair {r : Reach} {b0 : Nat} {v : Value} {d : DataW H} {p : List MemPlace} (hv : Value.okWide Try.prog w r b0 57 v) (h : DataW.Trod enc Try.prog w base (fun _ => true) held 57 v d p) :
    ∃ x : BPair, v = x.val ∧ x.good w := by
  obtain ⟨v0, v1, y0, y1, n, rfl, t0, t1⟩ := open_pair2 Try.underlying57 (by kernel_rfl) (by kernel_rfl) hv h
  have shape : ∀ {v y}, DataW.trod enc Try.prog w base (fun _ => true) held n 22 [v] = some y → ∃ B m1 c1, v = .slice B m1 c1 := fun {v y} t => by
    rcases open_ints Try.underlying22 Try.underlying5 (by kernel_rfl) t with ⟨h9, -⟩ | ⟨a3, l3, k3, B3, h9, -⟩
    · simp at h9; exact ⟨_, _, _, h9⟩
    · simp at h9; exact ⟨_, _, _, h9⟩
  obtain ⟨B0, m0, c0, rfl⟩ := shape t0
  obtain ⟨B1, m1, c1, rfl⟩ := shape t1
  obtain ⟨l0, f0, h0, e0, w0, k0, x0⟩ := open_bytes8 Try.underlying22 Try.underlying5 (by kernel_rfl) t0
  obtain ⟨l1, f1, h1, e1, w1, k1, x1⟩ := open_bytes8 Try.underlying22 Try.underlying5 (by kernel_rfl) t1
  subst e0 e1
  exact ⟨⟨B0, l0, c0, B1, l1, c1⟩, rfl, ⟨w0, w1, k0, k1, x0, x1, ⟨f0, h0⟩, ⟨f1, h1⟩⟩⟩
set_option maxRecDepth 100000 in
theorem open_u64pair {r : Reach} {b0 : Nat} {v : Value} {d : DataW H} {p : List MemPlace} (hv : Value.okWide Try.prog w r b0 58 v) (h : DataW.Trod enc Try.prog w base (fun _ => true) held 58 v d p) :
    ∃ x : Nat × Nat, v = .agg #[.int .u64 x.1, .int .u64 x.2] ∧ x.1 < 18446744073709551616 ∧ x.2 < 18446744073709551616 := by
  obtain ⟨v0, v1, y0, y1, n, rfl, t0, t1⟩ := open_pair2 Try.underlying58 (by kernel_rfl) (by kernel_rfl) hv h
  obtain ⟨z0, e0, w0⟩ := DataW.trod_int Try.underlying34 t0
  obtain ⟨z1, e1, w1⟩ := DataW.trod_int Try.underlying34 t1
  simp only [List.cons.injEq, and_true] at e0 e1
  subst e0 e1
  have b0 := bounds_u64 w0.2
  have b1 := bounds_u64 w1.2
  refine ⟨(z0.toNat, z1.toNat), ?_, by show z0.toNat < _; omega, by show z1.toNat < _; omega⟩
  simp only
  rw [Int.toNat_of_nonneg b0.1, Int.toNat_of_nonneg b1.1]
end

end Go.Proofs.Ytecjhaohabjkbaa
