/-
  CONTRACTS: kv.New, Put, Len.
-/
import Derived.Test.YtecjhaohabjkbaaK1
import Derived.Test.YtecjhaohabjkbaaP18
import Derived.StringKeys
import Derived.Maps.StringElems
namespace Go.Proofs.Ytecjhaohabjkbaa
open Go.RowKit
open Go.Maps (Keyed)
set_option linter.unusedVariables false

theorem not_empty (s : ByteArray) (h : 0 < s.size) : s.toList.isEmpty = false := by
  rw [ByteArray.toList_eq, List.isEmpty_eq_false_iff]
  intro e
  have : s.data.toList.length = 0 := by rw [e]; rfl
  have h2 : s.data.toList.length = s.size := rfl
  omega
theorem str_keyed : Keyed Try.prog 9 := Maps.string_keyed Try.underlying9
def bstr (x : List UInt8) : ByteArray := ⟨x.toArray⟩
theorem bstr_data (x : List UInt8) : (bstr x).data.toList = x := rfl
theorem bstr_of (s : ByteArray) : bstr s.data.toList = s := rfl
theorem bstr_size (x : List UInt8) : (bstr x).size = x.length := by show x.toArray.size = _; simp
/-- A map of texts, at its pointer. -/
def KRep (w : World) (mb bm : Nat) (ps : PL) : Prop := Blk w mb 118 #[.map (some bm)] ∧ w.ownsMap Try.prog 9 (plainElem (H := Unit) Try.prog 9) bm ps.length (KD ps) ∧ mb ≠ bm
theorem owns_norm {w : World} {b n : Nat} {ps : PL} (h : w.ownsMap Try.prog 9 (plainElem (H := Unit) Try.prog 9) b n (KD ps)) : w.ownsMap Try.prog 9 (plainElem (H := Unit) Try.prog 9) b ps.length (KD ps) := by
  obtain ⟨es, clock, hb, F, hs, hD⟩ := h
  refine ⟨es, clock, hb, F, ?_, hD⟩
  have h1 : Maps.size (KD ps) = es.size := by
    rw [hD]
    simp [Maps.size, length_sorted]
  rw [KD_size] at h1
  omega
theorem owns_sorted {w : World} {b n : Nat} {ps : PL} (h : w.ownsMap Try.prog 9 (plainElem (H := Unit) Try.prog 9) b n (KD ps)) : Sorted ps := by
  obtain ⟨es, clock, hb, F, hs, hD⟩ := h
  have hr := Maps.fit_rising str_keyed F
  rw [← DataW.map.inj hD] at hr
  exact sorted_of_rising ps hr
theorem owns_keeps {w w' : World} {b n : Nat} {D : DataW Unit} {fp : List Nat} (h : w.ownsMap Try.prog 9 (plainElem (H := Unit) Try.prog 9) b n D) (hk : Keeps w w' fp) (hn : b ∉ fp) : w'.ownsMap Try.prog 9 (plainElem (H := Unit) Try.prog 9) b n D := by
  have hlt := World.ownsMap.lt h
  obtain ⟨es, clock, hb, F, hs, hD⟩ := h
  exact ⟨es, clock, (hk.block b hlt hn).trans hb, F, hs, hD⟩
theorem KRep.keeps {w w' : World} {mb bm : Nat} {ps : PL} {fp : List Nat} (h : KRep w mb bm ps) (hk : Keeps w w' fp) (h1 : mb ∉ fp) (h2 : bm ∉ fp) : KRep w' mb bm ps := ⟨h.1.keeps hk h1, owns_keeps h.2.1 hk h2, h.2.2⟩
theorem KRep.nil {w w' : World} {mb bm : Nat} {ps : PL} (h : KRep w mb bm ps) (hk : Keeps w w' []) : KRep w' mb bm ps := h.keeps hk (by simp) (by simp)
theorem KRep.lt {w : World} {mb bm : Nat} {ps : PL} (h : KRep w mb bm ps) : mb < w.heap.size ∧ bm < w.heap.size := ⟨h.1.lt, World.ownsMap.lt h.2.1⟩
theorem KRep.sorted {w : World} {mb bm : Nat} {ps : PL} (h : KRep w mb bm ps) : Sorted ps := owns_sorted h.2.1
theorem Keeps.ofGrown {w w' : World} {b : Nat} (h : w.grownBy w' (some b)) : Keeps w w' [b] :=
  ⟨h.os, h.tape, h.output, h.size, fun k hk hn => h.block k hk (fun e => hn (by simpa using e))⟩
theorem plain_string {H : Type} {P : Program} {e : TypeId} {v : Value} {z : DataW H × List MemPlace} (he : P.underlying e = some .string) (h : plainElem P e v = some z) : ∃ s, v = .string s := by
  unfold plainElem at h
  rw [he] at h
  cases v <;> simp at h
  exact ⟨_, rfl⟩
/-- 'm[k]' with and without 'ok'. -/
theorem krep_look {w : World} {bm n : Nat} {ps : PL} (h : w.ownsMap Try.prog 9 (plainElem (H := Unit) Try.prog 9) bm n (KD ps)) (k : ByteArray) (hk : k.size ≤ maxLen) :
    ∃ s : ByteArray, (Instr.lookup 116 (.map (some bm)) (.string k) true).run Try.prog w = .ok (.tuple #[.string s, .bool (ps.any (fun p => p.1 == k.data.toList))]) w := by
  have hz : (zeroValue 9).run Try.prog w = .ok (.string ⟨#[]⟩) w := by kernel_rfl
  obtain ⟨v, pl, hrun, hv⟩ := World.ownsMap.look_ok h str_keyed Try.underlying116 hz (plainElem_string Try.underlying9 (s := ⟨#[]⟩) (by decide)) (WideMaps.keyOf_string_mk Try.underlying9 hk)
  obtain ⟨s, rfl⟩ := plain_string Try.underlying9 hv
  rw [KD_has] at hrun
  exact ⟨s, hrun⟩
theorem krep_get {w : World} {bm n : Nat} {ps : PL} (h : w.ownsMap Try.prog 9 (plainElem (H := Unit) Try.prog 9) bm n (KD ps)) (p : List UInt8 × List UInt8) (hp : p ∈ ps) (hk : p.1.length ≤ maxLen) :
    (Instr.lookup 116 (.map (some bm)) (.string (bstr p.1)) false).run Try.prog w = .ok (.string (bstr p.2)) w := by
  have hz : (zeroValue 9).run Try.prog w = .ok (.string ⟨#[]⟩) w := by kernel_rfl
  obtain ⟨v, pl, hrun, hv⟩ := World.ownsMap.lookup h str_keyed Try.underlying116 hz (plainElem_string Try.underlying9 (s := ⟨#[]⟩) (by decide)) (WideMaps.keyOf_string_mk Try.underlying9 (s := bstr p.1) (by rw [bstr_size]; exact hk))
  obtain ⟨s, rfl, hs, -⟩ := plainElem_string_inv Try.underlying9 hv
  rw [show (Lit.string (bstr p.1).data.toList) = .string p.1 from rfl, KD_at ps (owns_sorted h) p hp] at hs
  have : p.2 = s.data.toList := by
    simp at hs
    exact hs.1
  rw [hrun, this, bstr_of]

theorem new_calls (w : World) : Calls Try.prog 38 #[] w fun e w' => e = .returned (.pointer (some ⟨w.heap.size + 1, 0, none⟩)) ∧ KRep w' (w.heap.size + 1) w.heap.size [] ∧ Keeps w w' [] := by
  have hmk := run_makeMap (P := Try.prog) 116 w
  have o0 := World.ownsMap_made w Try.prog 9 (plainElem (H := Unit) Try.prog 9)
  have hs : (w.alloc (.map #[] 0)).heap.size = w.heap.size + 1 := by simp
  have H : KRep ((w.alloc (.map #[] 0)).alloc (.cells #[.map (some w.heap.size)] 118)) (w.heap.size + 1) w.heap.size [] :=
    ⟨Blk.new' _ hs _ _, World.ownsMap.alloc o0 _, by omega⟩
  have HH := Lib.hid H
  clear H o0
  go_enter Try.func38, Try.ntmps38
  go_wp2_with fail
  go_ret
  exact ⟨rfl, HH.out, ((Keeps.refl w []).alloc _).alloc _⟩

set_option maxHeartbeats 1600000 in set_option maxRecDepth 100000 in
theorem put_calls (mb bm : Nat) (ps : PL) (k v : ByteArray) (w : World) (h : KRep w mb bm ps) (hn : ps.length < 128) (hv : v.size ≤ 4096) (hk0 : 0 < k.size) (hk : k.size ≤ 64) :
    Calls Try.prog 39 #[.pointer (some ⟨mb, 0, none⟩), .string k, .string v] w fun e w' => e = .returned (.int .i64 0) ∧ KRep w' mb bm (putP ps k.data.toList v.data.toList) ∧ Keeps w w' [bm] := by
  obtain ⟨sv, hlk⟩ := krep_look h.2.1 k (by unfold maxLen; omega)
  obtain ⟨w1, hup, ho1, hg1⟩ := World.ownsMap.update h.2.1 str_keyed Try.underlying116 (by unfold maxLen; omega) (WideMaps.keyOf_string_mk Try.underlying9 (s := k) (by unfold maxLen; omega)) (plainElem_string Try.underlying9 (s := v) (by unfold maxLen; omega))
  rw [KD_put] at ho1
  have hln := fun ty => World.ownsMap.len h.2.1 Try.underlying116 ty
  rw [KD_size] at hln
  have c0 := h.1.cell 0
  have hne := not_empty k hk0
  have hki : (k.size : Int) ≤ 64 := by omega
  have hvi : (v.size : Int) ≤ 4096 := by omega
  have hni : (ps.length : Int) < 128 := by omega
  have HH := Lib.hid (show KRep w1 mb bm (putP ps k.data.toList v.data.toList) ∧ Keeps w w1 [bm] from ⟨⟨h.1.keeps (Keeps.ofGrown hg1) (by simpa using h.2.2), owns_norm ho1, h.2.2⟩, Keeps.ofGrown hg1⟩)
  obtain ⟨m, hm⟩ : ∃ m, m = ps.length := ⟨_, rfl⟩
  rw [← hm] at hln hni
  obtain ⟨q, hq⟩ : ∃ q, q = ps.any (fun p => p.1 == k.data.toList) := ⟨_, rfl⟩
  rw [← hq] at hlk
  clear h ho1 hg1 hn hv hk0 hk hm hq
  simp at c0
  cases q
  · go_enter Try.func39, Try.ntmps39
    go_wp2_with fail
    go_ret
    exact ⟨rfl, HH.out⟩
  · go_enter Try.func39, Try.ntmps39
    go_wp2_with fail
    go_ret
    exact ⟨rfl, HH.out⟩

set_option maxHeartbeats 1600000 in set_option maxRecDepth 100000 in
theorem put_refused (mb : Nat) (k v : ByteArray) (w : World) (hk : k.size = 0 ∨ 64 < k.size) (hv : v.size ≤ 4096) :
    Calls Try.prog 39 #[.pointer (some ⟨mb, 0, none⟩), .string k, .string v] w fun e w' => e = .returned (.int .i64 2) ∧ w = w' := by
  have hvi : (v.size : Int) ≤ 4096 := by omega
  rcases hk with hk | hk
  · obtain rfl : k = ⟨#[]⟩ := by
      obtain ⟨d⟩ := k
      have : d.size = 0 := hk
      rw [Array.eq_empty_of_size_eq_zero this]
    go_enter Try.func39, Try.ntmps39
    go_wp2_with fail
    go_ret
    exact ⟨rfl, rfl⟩
  · have hne := not_empty k (by omega)
    have hki : 64 < (k.size : Int) := by omega
    go_enter Try.func39, Try.ntmps39
    go_wp2_with fail
    go_ret
    exact ⟨rfl, rfl⟩

set_option maxHeartbeats 1600000 in set_option maxRecDepth 100000 in
theorem len_calls (mb bm : Nat) (ps : PL) (w : World) (h : KRep w mb bm ps) :
    Calls Try.prog 42 #[.pointer (some ⟨mb, 0, none⟩)] w fun e w' => e = .returned (.int .i64 ps.length) ∧ w = w' := by
  have hln := fun ty => World.ownsMap.len h.2.1 Try.underlying116 ty
  rw [KD_size] at hln
  have c0 := h.1.cell 0
  simp at c0
  clear h
  go_enter Try.func42, Try.ntmps42
  go_wp2_with fail
  go_ret
  exact ⟨rfl, rfl⟩

end Go.Proofs.Ytecjhaohabjkbaa
