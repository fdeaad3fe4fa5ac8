/-
  CONTRACTS: stanza.tokens of an iq all of whose fields are there.
-/
import Derived.Deep.RegionHeldLaw
import Derived.Test.YtbfcgiodpcchnaaW16
namespace Go.Proofs.Ytbfcgiodpcchnaa
open Go.RowKit
set_option linter.unusedVariables false
attribute [local go_sem] Oper.semAt_some

def headL (ty f t id : ByteArray) : AL := [(⟨#[116, 121, 112, 101]⟩, ty), (⟨#[102, 114, 111, 109]⟩, f), (⟨#[116, 111]⟩, t), (⟨#[105, 100]⟩, id)]
def stanzaC (ty f t id : ByteArray) (A : Option Addr) (n c : Nat) : Array Value := #[.int .u8 1, .string ty, .string f, .string t, .string id, .slice A n c]

theorem attr4_index (ty f t id : ByteArray) (w : World) (i : Nat) (p : ByteArray × ByteArray) (h : (headL ty f t id)[i]? = some p) :
    (Instr.index 75 (.agg #[.string ⟨#[116, 121, 112, 101]⟩, .string ty, .string ⟨#[102, 114, 111, 109]⟩, .string f, .string ⟨#[116, 111]⟩, .string t, .string ⟨#[105, 100]⟩, .string id]) (.int .i64 (i : Int))).run Try.prog w = .ok (.agg #[.string p.1, .string p.2]) w := by
  rcases i with _ | _ | _ | _ | i
  · obtain rfl : _ = p := by simpa [headL] using h
    kernel_rfl
  · obtain rfl : _ = p := by simpa [headL] using h
    kernel_rfl
  · obtain rfl : _ = p := by simpa [headL] using h
    kernel_rfl
  · obtain rfl : _ = p := by simpa [headL] using h
    kernel_rfl
  · simp [headL] at h
theorem headL_ne {ty f t id : ByteArray} (s1 : 0 < ty.size) (s2 : 0 < f.size) (s3 : 0 < t.size) (s4 : 0 < id.size) : ∀ p ∈ headL ty f t id, 0 < p.2.size := by
  intro p hp
  simp [headL] at hp
  rcases hp with rfl | rfl | rfl | rfl <;> assumption
theorem attrsC_snoc (l : AL) (p : ByteArray × ByteArray) : attrsC (l ++ [p]) = attrsC l ++ attrC p := by simp [attrsC]

set_option maxHeartbeats 3200000 in
set_option maxRecDepth 100000 in
theorem stoks_calls (ty f t id : ByteArray) (A : Option Addr) (n c : Nat) (ts : List TV) (w : World) (h : ToksAt w A n c ts) (hn : n ≤ 60) (hts : ∀ t ∈ ts, t.attrs.length ≤ 8)
    (s1 : 0 < ty.size) (s2 : 0 < f.size) (s3 : 0 < t.size) (s4 : 0 < id.size) :
    Calls Try.prog 26 #[.agg #[.int .u8 1, .string ty, .string f, .string t, .string id, .slice A n c]] w (NewToks w (⟨1, iqT, headL ty f t id, ⟨#[]⟩⟩ :: (ts.map TV.tok ++ [⟨2, iqT, [], ⟨#[]⟩⟩]))) := by
  obtain ⟨i0, hi, hz0, hz1, hz2⟩ := info_parts info_attr
  have hne := headL_ne s1 s2 s3 s4
  obtain ⟨L, hL⟩ : ∃ L, L = headL ty f t id := ⟨_, rfl⟩
  have hL4 : L.length = 4 := by rw [hL]; rfl
  have hix := fun wx i p => attr4_index ty f t id wx i p
  rw [← hL] at hne hix
  have HI := Lib.hid (And.intro hi (And.intro hz0 (And.intro hz1 hz2)))
  have H := Lib.hid (And.intro h (And.intro hn (And.intro hts (And.intro hne (And.intro hL4 (And.intro hix hL))))))
  clear h hn hts s1 s2 s3 s4 hi hz0 hz1 hz2 hne hix hL hL4
  go_enter Try.func26, Try.ntmps26
  go_wp2_with fail
  obtain ⟨w0, hw0⟩ : ∃ w0, w0 = w.alloc (.cells #[.int .u8 1, .string ty, .string f, .string t, .string id, .slice A n c] 38) := ⟨_, rfl⟩
  have hk0 : Keeps w w0 [] := by rw [hw0]; exact (Keeps.refl w []).alloc _
  have hb0 : Blk w0 w.heap.size 38 #[.int .u8 1, .string ty, .string f, .string t, .string id, .slice A n c] := by rw [hw0]; exact Blk.new _ _ _
  rw [← hw0]
  clear hw0
  have H0 := Lib.hid (And.intro hk0 hb0)
  clear hk0 hb0
  go_loopg [19, 3] 4 (fun gg s v wr => ∃ (i : Nat) (fp : List Nat), gg + i = 4 ∧ s = .int .i64 i ∧ Own wr 56 2 v i (attrsC (L.take i)) fp ∧ (∀ k ∈ fp, w0.heap.size ≤ k) ∧ Keeps w0 wr [])
  case atStart => exact ⟨0, [], by omega, rfl, Own.bare _ _ _ _, by simp, Keeps.refl _ _⟩
  case round =>
    obtain ⟨i, fp, hgi, rfl, hown, hfp, hK⟩ := hrel
    by_cases hlt : i < 4
    · obtain ⟨p, hp⟩ : ∃ p, L[i]? = some p := ⟨_, List.getElem?_eq_getElem (by rw [H.out.2.2.2.2.1]; exact hlt)⟩
      have hpe := not_empty p.2 (H.out.2.2.2.1 p (List.mem_of_getElem? hp))
      have hxi := H.out.2.2.2.2.2.1 wr i p hp
      obtain ⟨A0, c0, rfl, -, -⟩ := hown.form
      have x0 : (i : Int) < 4 := by omega
      have x1 : (0 : Int) ≤ (i : Int) := by omega
      have HR := Lib.hid (And.intro hgi (And.intro hown (And.intro hfp (And.intro hK (And.intro hlt hp)))))
      clear hgi hown hfp hK hlt hp
      go_wp2_with (at_builtin; refine wpList_append_mine _ rfl (.tmp 25) (.tmp 27) _ _ rfl 56 i0 _ 2 32 Try.underlying57 HI.out.1 HI.out.2.1 HI.out.2.2.1 HI.out.2.2.2 rfl _ i (attrsC (L.take i)) fp rfl ((HR.out.2.1.alloc _).alloc _) _ 1 (attrC p) rfl ?src ?c1 ?c2 ?next)
      case src => exact (Blk.new' (wr.alloc (.cells #[.string p.1, .string p.2] 56)) (n := wr.heap.size + 1) (by simp) 56 #[.string p.1, .string p.2]).src Try.underlying57 1 rfl (by simp [Value.oneCell'])
      case c1 => unfold maxLen; omega
      case c2 => omega
      case next =>
        intro v5 w5 f5 ho5 hk5 hn5
        obtain ⟨hgi, hown, hfp, hK, hlt, hp⟩ := HR.out
        have e5 : attrsC (L.take (i + 1)) = attrsC (L.take i) ++ attrC p := by rw [List.take_add_one, hp]; exact attrsC_snoc _ _
        rw [← e5] at ho5
        have hk5' : Keeps w0 w5 [] := ((hK.alloc _).alloc _).trans hk5 (fun k hk h => by have := hfp k h; omega)
        have hf5 : ∀ k ∈ f5, w0.heap.size ≤ k := fun k hk => by
          rcases hn5 k hk with h | h
          · exact hfp k h
          · have := hK.size; (try simp at h); omega
        have H5 := Lib.hid (And.intro ho5 (And.intro hf5 hk5'))
        clear ho5 hk5 hn5 hgi hown hfp hK hlt hp e5 hk5' hf5
        go_wp2_with fail
        go_roundg (4 - (i + 1))
        case measure => have := HR.out.1; have := HR.out.2.2.2.2.1; omega
        case rel => exact ⟨i + 1, f5, by have := HR.out.2.2.2.2.1; omega, by go_num, H5.out.1, H5.out.2.1, H5.out.2.2⟩
    · obtain rfl : i = 4 := by omega
      have hb1 := H0.out.2.keeps hK (by simp)
      have z0 : wr.drew.cell? ⟨w.heap.size, 0, none⟩ = some (.int .u8 1) := hb1.cell 0
      have z5 : wr.drew.cell? ⟨w.heap.size, 5, none⟩ = some (.slice A n c) := hb1.cell 5
      obtain ⟨A0, c0, rfl, hc0, -⟩ := hown.form
      have hL4 : L.take 4 = headL ty f t id := by rw [List.take_of_length_le (by rw [H.out.2.2.2.2.1]; exact Nat.le_refl _)]; exact H.out.2.2.2.2.2.2
      have hkw : Keeps w wr.drew [] := H0.out.1.trans hK.drew (by simp)
      have hown' : Own wr.drew 56 2 (.slice A0 (headL ty f t id).length c0) (headL ty f t id).length (attrsC (headL ty f t id)) fp := by have := hown.drew; rw [hL4] at this; exact this
      have hel := element_calls ⟨#[105, 113]⟩ A0 c0 (headL ty f t id) A n c ts wr.drew (AttrsAt.ofOwn hown') (H.out.1.to hkw) (by have := H.out.2.1; omega) (by show 4 ≤ 8; omega) H.out.2.2.1
      obtain ⟨T6, hT6⟩ : ∃ T6, T6 = (⟨1, iqT, headL ty f t id, ⟨#[]⟩⟩ :: (ts.map TV.tok ++ [⟨2, iqT, [], ⟨#[]⟩⟩]) : List Tok) := ⟨_, rfl⟩
      have hel' : Calls Try.prog 20 #[.string ⟨#[105, 113]⟩, .slice A0 4 c0, .slice A n c] wr.drew (NewToks wr.drew T6) := by rw [hT6]; exact hel
      obtain ⟨N6, hN6⟩ : ∃ N6, N6 = T6.length := ⟨_, rfl⟩
      have HE := Lib.hid hel'
      have HT := Lib.hid (And.intro hT6 hN6)
      have HK := Lib.hid (And.intro hkw hb1)
      clear hgi hown hfp hK hlt hb1 hL4 hkw hown' hel hel' hc0 hT6 hN6
      go_wp2_with fail
      go_region_held_law (fun w' => w'.cell? ⟨w.heap.size, 0, none⟩ = some (.int .u8 1) ∧ w'.cell? ⟨w.heap.size, 5, none⟩ = some (.slice A n c)) (first | exact ⟨z0, z5⟩ | exact ⟨k0, k5⟩)
        (first
          | (go_at_call 33
             refine (name_iq _).mono ?_
             rintro e w5 ⟨rfl, rfl⟩)
          | (go_at_call 20
             refine Calls.mono HE.out ?_
             rintro e w6 ⟨A6, c6, t6, he, ht6, hm6, hk6⟩
             rw [← HT.out.2] at he ht6
             subst he
             have k0 : w6.cell? ⟨w.heap.size, 0, none⟩ = some (.int .u8 1) := (HK.out.2.drew.keeps hk6 (by simp)).cell 0
             have k5 : w6.cell? ⟨w.heap.size, 5, none⟩ = some (.slice A n c) := (HK.out.2.drew.keeps hk6 (by simp)).cell 5
             have H6 := Lib.hid (And.intro ht6 (And.intro hm6 hk6))
             clear ht6 hm6 hk6))
      all_goals
        go_wp2_with fail
        go_ret
        have hfin : NewToks w T6 (.returned (.slice A6 N6 c6)) w6 := ⟨A6, c6, t6, by rw [HT.out.2], by rw [← HT.out.2]; exact H6.out.1, H6.out.2.1, HK.out.1.trans H6.out.2.2 (by simp)⟩
        rw [HT.out.1] at hfin
        exact hfin

end Go.Proofs.Ytbfcgiodpcchnaa
