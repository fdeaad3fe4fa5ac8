/-
  CONTRACTS: kv's iterator over the pairs in order.
-/
import Derived.RangeFuncNested
import Derived.RangeFuncBound
import Derived.RangeFuncCalls
import Derived.RangeFuncLeaves
import Derived.RangeFuncFrom
import Derived.Shelf.Abstract
import Derived.WalkKit
import Derived.OwnWalkIn
import Derived.TacticsInMore
import Derived.LoopNIn
import Derived.LoopIn
import Derived.Test.YtecjhaohabjkbaaK2
import Derived.Test.YtecjhaohabjkbaaShelf
namespace Go.Proofs.Ytecjhaohabjkbaa
open Go.RowKit
set_option linter.unusedVariables false
attribute [local go_sem] Oper.semAt_some

/-- what the iterator leans on: texts, the map's pointer, its block, the map. -/
def safeT (t : TypeId) : Bool := t == 9 || t == 73 || t == 118
def safeO : Obj → Bool
  | .cells _ t _ => safeT t
  | .map _ _ => true
  | _ => false
/-- all that the iterator leans on lies as it lay. -/
structure TK (w w' : World) : Prop where
  os : w'.os = w.os
  tape : w'.tape = w.tape
  output : w'.output = w.output
  size : w.heap.size ≤ w'.heap.size
  same : ∀ (k : Nat) (o : Obj), w.heap[k]? = some o → safeO o = true → w'.heap[k]? = some o
theorem TK.refl (w : World) : TK w w := ⟨rfl, rfl, rfl, Nat.le_refl _, fun _ _ h _ => h⟩
theorem TK.trans {a b c : World} (h : TK a b) (k : TK b c) : TK a c := ⟨k.os.trans h.os, k.tape.trans h.tape, k.output.trans h.output, Nat.le_trans h.size k.size, fun i o hi ho => k.same i o (h.same i o hi ho) ho⟩
theorem TK.ofKeeps {w w' : World} {fp : List Nat} (h : Keeps w w' fp) (hf : ∀ k ∈ fp, ∀ o, w.heap[k]? = some o → safeO o = false) : TK w w' :=
  ⟨h.os, h.tape, h.output, h.size, fun k o hk ho => (h.block k (Array.getElem?_eq_some_iff.1 hk).1 (fun hm => by rw [hf k hm o hk] at ho; cases ho)).trans hk⟩
theorem TK.putObj (W : World) (l : Nat) (o o' : Obj) (h : W.heap[l]? = some o) (hc : o.isCells = false) (hw : o.isWalk = false) : TK W (W.putObj l o') := by
  have hg := grownBy_putObj' W l o'
  refine ⟨hg.os, hg.tape, hg.output, hg.size, fun k q hk hq => ?_⟩
  by_cases e : k = l
  · subst e
    rw [h] at hk
    cases hk
    cases o <;> simp_all [safeO, Obj.isCells, Obj.isWalk]
  · exact (World.putObj_heap_other e).trans hk
theorem TK.blk {w w' : World} (h : TK w w') {g : Nat} {t : TypeId} {cs : Array Value} (hb : Blk w g t cs) (hs : safeT t = true) : Blk w' g t cs := h.same g _ hb hs
theorem TK.owns {w w' : World} (h : TK w w') {b n : Nat} {D : DataW Unit} (ho : w.ownsMap Try.prog 9 (plainElem (H := Unit) Try.prog 9) b n D) : w'.ownsMap Try.prog 9 (plainElem (H := Unit) Try.prog 9) b n D := by
  obtain ⟨es, clock, hb, F, hs, hD⟩ := ho
  exact ⟨es, clock, h.same b _ hb rfl, F, hs, hD⟩
theorem TK.krep {w w' : World} (h : TK w w') {mb bm : Nat} {ps : PL} (hk : KRep w mb bm ps) : KRep w' mb bm ps := ⟨h.blk hk.1 (by decide), h.owns hk.2.1, hk.2.2⟩

theorem hasPrefix_calls (s : ByteArray) (w : World) : Calls Try.prog 79 #[.string s, .string ⟨#[]⟩] w fun e w' => e = .returned (.bool true) ∧ w' = w := by
  have h1 : Calls Try.prog 90 #[.string s, .string ⟨#[]⟩] w fun e w' => e = .returned (.bool true) ∧ w' = w := by
    go_enter Try.func90, Try.ntmps90
    go_wp2_with fail
    go_ret
    exact ⟨rfl, rfl⟩
  have H := Lib.hid h1
  clear h1
  go_enter Try.func79, Try.ntmps79
  go_wp2_with fail
  refine H.out.mono ?_
  rintro e w1 ⟨rfl, rfl⟩
  go_wp2_with fail
  go_ret
  exact ⟨rfl, rfl⟩

/-- the keys, in order, in a row of their own. -/
def KeysAt (w : World) (A : Option Addr) (ps : PL) : Prop := ∀ (j : Nat) (p : List UInt8 × List UInt8), ps[j]? = some p → ∃ g cur, A = some ⟨g, 0, none⟩ ∧ Blk w g 9 cur ∧ cur[j]? = some (.string (bstr p.1))
theorem TK.keys {w w' : World} (h : TK w w') {A : Option Addr} {ps : PL} (hk : KeysAt w A ps) : KeysAt w' A ps := fun j p hj => by
  obtain ⟨g, cur, h1, h2, h3⟩ := hk j p hj
  exact ⟨g, cur, h1, h.blk h2 (by decide), h3⟩
theorem keys_sorted (bm mb : Nat) (ps : PL) (W : World) (hm : KRep W mb bm ps) (hn : ps.length ≤ 1000) :
    CallsIn Fence.wide 5 Try.prog 77 #[.func (.func 89) #[] #[.pointer (some ⟨W.heap.size, 0, none⟩)]] (W.alloc (.cells #[.map (some bm)] 116)) fun e w' =>
      ∃ A c, e = .returned (.slice A ps.length c) ∧ ps.length ≤ c ∧ KeysAt w' A ps ∧ Below W.heap.size W w' := by
  refine (Try.slices_Sorted_keys_77_78 bm ps.length (KD ps) (plainElem (H := Unit) Try.prog 9) W hm.2.1 (by rw [KD_size]; unfold maxLen; omega) (by rw [KD_size]; omega)).mono ?_
  rintro e w' ⟨v, ss, rfl, hS, hrow, hnil, hb⟩
  rw [KD_keys] at hS
  have hl : ss.length = ps.length := by rw [hS.length_eq, List.length_map]
  rw [sort_keys ps hm.sorted ss hS, hl] at hrow
  have hbel : Below W.heap.size W w' := ((Below.refl _ W).alloc (Nat.le_refl _) _).trans (hb.mono (by simp))
  obtain ⟨hlen, ⟨rfl, h0⟩ | ⟨g, cap, cur, rfl, hg1, hg2, hg3, hg4, hg5, hg6⟩⟩ := hrow
  · refine ⟨none, 0, by rw [h0], by omega, fun j p hj => ?_, hbel⟩
    have := (List.getElem?_eq_some_iff.1 hj).1
    omega
  · refine ⟨some ⟨g, 0, none⟩, cap, rfl, hg3, fun j p hj => ⟨g, cur, rfl, hg2, ?_⟩, hbel⟩
    have hj1 := (List.getElem?_eq_some_iff.1 hj).1
    have : (cur.toList.take (ps.length * 1))[j]? = some (.string (bstr p.1)) := by
      rw [hg6, List.map_map, List.getElem?_map, hj]
      rfl
    rw [List.getElem?_take_of_lt (by omega)] at this
    simpa using this
theorem Below.grown {w w' : World} (h : Below w.heap.size w w') : w.grownBy w' none := ⟨h.os, h.tape, h.output, h.size, fun k hk _ => h.block k hk⟩
theorem TK.ofBelow {w w' : World} (h : Below w.heap.size w w') : TK w w' := TK.ofKeeps (Keeps.ofBelow h []) (by simp)

def pairV (x : List UInt8 × List UInt8) : Value := .agg #[.string (bstr x.1), .string (bstr x.2)]

set_option maxRecDepth 100000 in
set_option maxHeartbeats 2000000 in set_option maxRecDepth 100000 in
theorem sorted1_in (l bd bp mb bm : Nat) (ps : PL) (hn : ps.length ≤ 1000) (hk : ∀ p ∈ ps, p.1.length ≤ 1000)
    (J Jx : PL → World → Prop) (W : World)
    (hY : ∀ pre x W1, x ∈ ps → J pre W1 → pre.length < ps.length → YieldAt Fence.wide 5 Try.prog l #[pairV x] W1 fun e W' =>
      (e = .returned (.bool true) ∧ J (pre ++ [x]) W' ∧ TK W1 W') ∨ (e = .returned (.bool false) ∧ Jx (pre ++ [x]) W'))
    (hJ : AbidesFrom W.heap.size J)
    (hbd : Blk W bd 73 #[.pointer (some ⟨mb, 0, none⟩)]) (hbp : Blk W bp 9 #[.string ⟨#[]⟩]) (hm : KRep W mb bm ps) (h0 : J [] W) :
    CallsIn Fence.wide 6 Try.prog 76 #[.func (.yield l) #[] #[], .pointer (some ⟨bd, 0, none⟩), .pointer (some ⟨bp, 0, none⟩)] W fun e W' => (∃ v, e = .returned v) ∧
      ((∃ ys, ys = ps ∧ J ys W') ∨ (∃ pre, Jx pre W')) := by
  have d0 := hbd.cell 0
  have d1 := hbp.cell 0
  have d2 := hm.1.cell 0
  simp at d0 d1 d2
  have hs1 := keys_sorted bm mb ps W hm hn
  have hK1 := Try.maps_Keys_78 (some bm) W
  have hfK : Fence.wide.fn 78 := trivial
  have hfS : Fence.wide.fn 77 := trivial
  have H := Lib.hid (And.intro hbd (And.intro hbp (And.intro hm (And.intro h0 (And.intro hJ hY)))))
  have HS := Lib.hid hs1
  have HK := Lib.hid hK1
  clear hbd hbp hm h0 hJ hY hs1 hK1
  refine callsIn_of_wp Try.func76 rfl trivial ?_ rfl
  simp only [Try.ntmps76, List.size_toArray, List.length_cons, List.length_nil, Nat.reduceAdd, Nat.reduceSub, Array.replicate_succ, Array.replicate_zero, List.push_toArray, List.append_toArray, List.nil_append, List.cons_append]
  gi_wp2_with (first
    | (gi_at_call 78; refine HK.out.mono ?_; rintro e w' ⟨rfl, rfl⟩)
    | (gi_at_call 77; refine HS.out.mono ?_; rintro e w2 ⟨A, c, rfl, hc, hks, hb⟩; have HB := Lib.hid (And.intro hc (And.intro hks hb)); clear hc hks hb))
  have hJ2 : J [] w2 := H.out.2.2.2.2.1 [] W w2 none H.out.2.2.2.1 (Below.grown HB.out.2.2) (fun r e => by cases e)
  have HJ := Lib.hid (And.intro hJ2 (TK.ofBelow HB.out.2.2))
  clear hJ2
  obtain ⟨n, hnn⟩ : ∃ n, n = ps.length := ⟨_, rfl⟩
  rw [← hnn]
  have HN := Lib.hid hnn
  clear hnn
  gi_loopw [15] (fun i wr => ∃ k : Nat, k ≤ n ∧ i = .int .i64 k ∧ J (ps.take k) wr ∧ TK w2 wr) (fun i _ => n - (intOf i).toNat)
  case atStart => exact ⟨0, Nat.zero_le _, rfl, HJ.out.1, TK.refl _⟩
  case round =>
    obtain ⟨k, hkn, rfl, hJs, hnx⟩ := hrel
    by_cases hlt : k < n
    · obtain ⟨x, hx⟩ : ∃ x, ps[k]? = some x := ⟨_, List.getElem?_eq_getElem (by rw [← HN.out]; exact hlt)⟩
      obtain ⟨g, cur, rfl, hbg, hcx⟩ := HB.out.2.1 k x hx
      have hbgr := hnx.blk hbg (by decide)
      have hcell : wr.cell? ⟨g, k, none⟩ = some (.string (bstr x.1)) := by rw [hbgr.cell]; exact hcx
      have htk := HJ.out.2.trans hnx
      have e0 : wr.cell? ⟨bd, 0, none⟩ = some (.pointer (some ⟨mb, 0, none⟩)) := (htk.blk H.out.1 (by decide)).cell 0
      have e1 : wr.cell? ⟨bp, 0, none⟩ = some (.string ⟨#[]⟩) := (htk.blk H.out.2.1 (by decide)).cell 0
      have hmr := htk.krep H.out.2.2.1
      have e2 : wr.cell? ⟨mb, 0, none⟩ = some (.map (some bm)) := hmr.1.cell 0
      have hget := krep_get hmr.2.1 x (List.mem_of_getElem? hx) (by have := hk x (List.mem_of_getElem? hx); unfold maxLen; omega)
      have hpf := (callsIn_wide (n := 5)).2 (hasPrefix_calls (bstr x.1) wr)
      obtain ⟨fn, tmps, assign, body, hy, hR⟩ := H.out.2.2.2.2.2 _ x wr (List.mem_of_getElem? hx) hJs (by rw [List.length_take]; have := HN.out; omega)
      have HR := Lib.hid hR
      have HPF := Lib.hid hpf
      have hkc : (k : Int) < (c : Int) := by have := HB.out.1; have := HN.out; omega
      have hk0 : (0 : Int) ≤ (k : Int) := by omega
      have hkb : (k : Int) < 1000 := by have := HN.out; omega
      have HX := Lib.hid (And.intro hx (And.intro hnx hlt))
      unfold pairV at hy
      clear hx hnx hbg hcx hbgr htk hmr hR hpf hJs
      gi_wp2
      refine ⟨trivial, HPF.out.mono ?_⟩
      rintro e w5 ⟨rfl, rfl⟩
      gi_wp2
      refine HR.out.mono ?_
      rintro e W3 (⟨rfl, hJ3, hk3⟩ | ⟨rfl, hJx3⟩)
      · gi_wp2
        go_roundw
        case rel =>
          refine ⟨k + 1, by have := HX.out.2.2; omega, by go_num, ?_, HX.out.2.1.trans hk3⟩
          rw [List.take_add_one, HX.out.1]
          exact hJ3
        case measure => have := HX.out.2.2; simp [intOf]; omega
      · gi_wp2
        refine bodyPost_ret (results_none rfl _ _ _) rfl ?_
        exact ⟨⟨_, rfl⟩, .inr ⟨_, hJx3⟩⟩
    · obtain rfl : k = n := by omega
      gi_wp2
      go_end0
      exact ⟨⟨_, rfl⟩, .inl ⟨_, rfl, by rw [List.take_of_length_le (by rw [← HN.out]; exact Nat.le_refl _)] at hJs; exact hJs⟩⟩

end Go.Proofs.Ytecjhaohabjkbaa
