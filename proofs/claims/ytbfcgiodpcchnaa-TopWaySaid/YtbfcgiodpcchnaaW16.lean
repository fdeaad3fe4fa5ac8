/-
  CONTRACTS: write.Element, slices.Clone of tokens, stanza.inside.
-/
import Derived.Laws.MakeOwn
import Derived.Test.YtbfcgiodpcchnaaW14
import Derived.Test.YtbfcgiodpcchnaaW15
namespace Go.Proofs.Ytbfcgiodpcchnaa
open Go.RowKit
set_option linter.unusedVariables false
attribute [local go_sem] Oper.semAt_some

/-- a token that is built. -/
theorem tok_src (w : World) (k : Nat) (nm : ByteArray) (A : Option Addr) (n c : Nat) : Src Try.prog 4 36 (.slice (some ⟨w.heap.size, 0, none⟩) 1 1) 1 [.int .u8 k, .string nm, .slice A n c, .string ⟨#[]⟩] (w.alloc (.cells #[.int .u8 k, .string nm, .slice A n c, .string ⟨#[]⟩] 66)) :=
  (Blk.new' w (n := w.heap.size) rfl 66 #[.int .u8 k, .string nm, .slice A n c, .string ⟨#[]⟩]).src Try.underlying36 1 rfl (by simp [Value.oneCell'])

set_option maxHeartbeats 3200000 in
set_option maxRecDepth 100000 in
theorem element_calls (nm : ByteArray) (A1 : Option Addr) (c1 : Nat) (l : AL) (A2 : Option Addr) (n2 c2 : Nat) (ts : List TV) (w : World) (h1 : AttrsAt w A1 c1 l) (h2 : ToksAt w A2 n2 c2 ts) (hn : n2 ≤ 64) (hl : l.length ≤ 8) (hts : ∀ t ∈ ts, t.attrs.length ≤ 8) :
    Calls Try.prog 20 #[.string nm, .slice A1 l.length c1, .slice A2 n2 c2] w (NewToks w (⟨1, nm, l, ⟨#[]⟩⟩ :: (ts.map TV.tok ++ [⟨2, nm, [], ⟨#[]⟩⟩]))) := by
  obtain ⟨i0, hi, hz0, hz1, hz2⟩ := info_parts info_token2
  have hmk := run_make (P := Try.prog) w 36 66 i0 _ Try.underlying36 hi hz0 .i64 .i64 0 ((n2 : Int) + 2) (by omega) (by omega) (by rw [hz2]; omega) (by omega)
  obtain ⟨W1, hW1⟩ : ∃ W1, W1 = w.alloc (.cells (madeCells (Value.agg #[.int .u8 0, .string ⟨#[]⟩, .slice none 0 0, .string ⟨#[]⟩]).cells (((n2 : Int) + 2).toNat * i0.size)) 66) := ⟨_, rfl⟩
  rw [← hW1] at hmk
  have e2 : ((n2 : Int) + 2).toNat = n2 + 2 := by omega
  rw [e2] at hmk hW1
  rw [hz1] at hW1
  have hk1 : Keeps w W1 [] := by rw [hW1]; exact (Keeps.refl w []).alloc _
  have ho1 : Own W1 66 4 (.slice (some ⟨w.heap.size, 0, none⟩) 0 (n2 + 2)) 0 [] [w.heap.size] := by
    rw [hW1]
    exact ⟨rfl, .inr ⟨w.heap.size, n2 + 2, _, rfl, by omega, rfl, Blk.new _ _ _, by omega, by unfold maxLen; omega, by rw [size_madeCells], rfl⟩⟩
  have y0 : (n2 : Int) ≤ 64 := by omega
  have y1 : (0 : Int) ≤ (n2 : Int) := by omega
  have HI := Lib.hid (And.intro hi (And.intro hz0 (And.intro hz1 hz2)))
  have H := Lib.hid (And.intro h1 (And.intro h2 (And.intro hk1 (And.intro ho1 (And.intro hl hts)))))
  have hsz1 := hk1.size
  clear hi hz0 hz1 hz2 h1 h2 hk1 ho1 hW1 e2 hn hl hts
  simp only [Int.toNat_zero] at hmk
  go_enter Try.func20, Try.ntmps20
  go_wp2_with (at_builtin; refine wpList_append_mine _ rfl (.tmp 13) (.tmp 17) _ _ rfl 66 i0 _ 4 64 Try.underlying36 HI.out.1 HI.out.2.1 HI.out.2.2.1 HI.out.2.2.2 rfl _ 0 [] [w.heap.size] rfl (H.out.2.2.2.1.alloc _) _ 1 [.int .u8 1, .string nm, .slice A1 l.length c1, .string ⟨#[]⟩] rfl ?src ?c1 ?c2 ?next)
  case src => exact tok_src W1 1 nm A1 l.length c1
  case c1 => unfold maxLen; omega
  case c2 => omega
  case next =>
    intro v2 w2 f2 ho2 hk2 hn2
    obtain ⟨bt, hbt⟩ : ∃ bt : TV, bt = ⟨1, nm, A1, c1, l, ⟨#[]⟩⟩ := ⟨_, rfl⟩
    obtain ⟨et, het⟩ : ∃ et : TV, et = ⟨2, nm, none, 0, [], ⟨#[]⟩⟩ := ⟨_, rfl⟩
    have ho2' : Own w2 66 4 v2 1 (tvsC [bt]) f2 := by rw [hbt]; exact ho2
    have hk2' : Keeps w w2 [] := (H.out.2.2.1.alloc _).trans hk2 (fun k hk h => by simp at h; omega)
    have hf2 : ∀ k ∈ f2, w.heap.size ≤ k := fun k hk => by
      rcases hn2 k hk with h | h
      · (try simp at h); omega
      · (try simp at h); omega
    have h22 := H.out.2.1.to hk2'
    obtain ⟨fr, hr, -⟩ := h22.reads
    obtain ⟨Av, cv, rfl, -, -⟩ := ho2'.form
    have H2 := Lib.hid (And.intro ho2' (And.intro hk2' (And.intro hf2 (And.intro hr (And.intro hbt het)))))
    clear ho2 hk2 hn2 ho2' hk2' hf2 h22 hr hbt het
    go_wp2_with (at_builtin; refine wpList_append_mine _ rfl (.tmp 19) (.tmp 20) _ _ rfl 66 i0 _ 4 64 Try.underlying36 HI.out.1 HI.out.2.1 HI.out.2.2.1 HI.out.2.2.2 rfl _ 1 (tvsC [bt]) f2 rfl H2.out.1 _ n2 (tvsC ts) rfl ?src ?c1 ?c2 ?next)
    case src => exact H2.out.2.2.2.1.src Try.underlying36 (tvsC_one ts) c2
    case c1 => unfold maxLen; omega
    case c2 => omega
    case next =>
      intro v3 w3 f3 ho3 hk3 hn3
      have hk3' : Keeps w w3 [] := H2.out.2.1.trans hk3 (fun k hk h => by have := H2.out.2.2.1 k h; omega)
      have hf3 : ∀ k ∈ f3, w.heap.size ≤ k := fun k hk => by
        rcases hn3 k hk with h | h
        · exact H2.out.2.2.1 k h
        · have := H2.out.2.1.size; omega
      obtain ⟨Av3, cv3, rfl, -, -⟩ := ho3.form
      have H3 := Lib.hid (And.intro ho3 (And.intro hk3' hf3))
      clear ho3 hk3 hn3 hk3' hf3
      go_wp2_with (at_builtin; refine wpList_append_mine _ rfl (.tmp 21) (.tmp 24) _ _ rfl 66 i0 _ 4 64 Try.underlying36 HI.out.1 HI.out.2.1 HI.out.2.2.1 HI.out.2.2.2 rfl _ (1 + n2) (tvsC [bt] ++ tvsC ts) f3 rfl (H3.out.1.alloc _) _ 1 ([.int .u8 2, .string nm, .slice none 0 0, .string ⟨#[]⟩]) rfl ?src ?c1 ?c2 ?next)
      case src => exact tok_src w3 2 nm none 0 0
      case c1 => unfold maxLen; omega
      case c2 => omega
      case next =>
        intro v4 w4 f4 ho4 hk4 hn4
        have hk4' : Keeps w w4 [] := (H3.out.2.1.alloc _).trans hk4 (fun k hk h => by have := H3.out.2.2 k h; omega)
        have hf4 : ∀ k ∈ f4, w.heap.size ≤ k := fun k hk => by
          rcases hn4 k hk with h | h
          · exact H3.out.2.2 k h
          · have := H3.out.2.1.size; (try simp at h); omega
        obtain ⟨N, hN⟩ : ∃ N, N = 1 + n2 + 1 := ⟨_, rfl⟩
        obtain ⟨T, hT⟩ : ∃ T, T = (⟨1, nm, l, ⟨#[]⟩⟩ :: (ts.map TV.tok ++ [⟨2, nm, [], ⟨#[]⟩⟩]) : List Tok) := ⟨_, rfl⟩
        rw [← hT]
        have ho4' : Own w4 66 4 v4 N (tvsC (bt :: (ts ++ [et]))) f4 := by
          rw [hN]
          have e : tvsC (bt :: (ts ++ [et])) = tvsC [bt] ++ tvsC ts ++ [.int .u8 2, .string nm, .slice none 0 0, .string ⟨#[]⟩] := by
            rw [H2.out.2.2.2.2.2]
            simp [tvsC, TV.cells]
          rw [e]
          exact ho4
        obtain ⟨A4, c4, rfl, hN4, -⟩ := ho4'.form
        have ht0 : ToksAt w4 A4 N c4 (bt :: (ts ++ [et])) := ToksAt.ofOwn ho4' (fun t ht => by
          rcases List.mem_cons.1 ht with rfl | ht
          · rw [H2.out.2.2.2.2.1]; exact H.out.1.to hk4'
          · rcases List.mem_append.1 ht with ht | ht
            · exact (H.out.2.1.to hk4').2.2.2 t ht
            · obtain rfl : t = et := by simpa using ht
              rw [H2.out.2.2.2.2.2]; exact AttrsAt.nil _ _ _)
        have hfr : ∀ b, A4 = some ⟨b, 0, none⟩ → w.heap.size ≤ b := fun b hb => by
          rcases ho4'.2 with ⟨A', hv, h0, -⟩ | ⟨g, cap, cur, hv, hp, hf, -⟩
          · omega
          · simp only [Value.slice.injEq] at hv
            rw [hb] at hv
            have : b = g := by simpa using hv.1
            exact hf4 b (by rw [hf, this]; simp)
        have hTm : (bt :: (ts ++ [et])).map TV.tok = T := by
          rw [hT, H2.out.2.2.2.2.1, H2.out.2.2.2.2.2]
          simp [TV.tok]
        have hT8 : ∀ t ∈ T, t.attrs.length ≤ 8 := fun t ht => by
          rw [hT] at ht
          rcases List.mem_cons.1 ht with rfl | ht
          · exact H.out.2.2.2.2.1
          · rcases List.mem_append.1 ht with ht | ht
            · obtain ⟨t', h1, rfl⟩ := List.mem_map.1 ht
              exact H.out.2.2.2.2.2 t' h1
            · obtain rfl : t = ⟨2, nm, [], ⟨#[]⟩⟩ := by simpa using ht
              exact Nat.zero_le _
        have hTl : T.length = N := by rw [← hTm, List.length_map, ht0.1]
        have y4 : (N : Int) ≤ 66 := by omega
        have y5 : (N : Int) ≤ (c4 : Int) := by omega
        have H4 := Lib.hid (And.intro ht0 (And.intro hfr (And.intro hTm (And.intro hT8 (And.intro hTl hk4')))))
        have HTT := Lib.hid hT
        clear ho4 hk4 hn4 hk4' hf4 ho4' ht0 hfr hTm hT8 hTl hT hN
        go_wp2_with fail
        go_loopg [28] N (fun gg s wr => ∃ (i : Nat) (tl : List TV), gg + i = N ∧ s = .int .i64 i ∧ ToksAt wr A4 N c4 tl ∧ tl.map TV.tok = T ∧ Keeps w wr [])
        case atStart => exact ⟨0, _, by omega, rfl, H4.out.1, H4.out.2.2.1, H4.out.2.2.2.2.2⟩
        case round =>
          obtain ⟨i, tl, hgi, rfl, htk, hmp, hK⟩ := hrel
          by_cases hlt : i < N
          · obtain ⟨t, ht⟩ : ∃ t, tl[i]? = some t := ⟨_, List.getElem?_eq_getElem (by rw [htk.1]; exact hlt)⟩
            obtain ⟨b, rfl, hbs, g0, g1, g2, g3⟩ := htk.at_ ht
            have hat := htk.2.2.2 t (List.mem_of_getElem? ht)
            obtain ⟨fr, hr⟩ := hat.reads
            have ht8 : t.attrs.length ≤ 8 := H4.out.2.2.2.1 t.tok (by rw [← hmp]; exact List.mem_map.2 ⟨t, List.mem_of_getElem? ht, rfl⟩)
            have hcl := clone_attrs t.A t.c t.attrs fr wr hr (by omega)
            have x0 : (i : Int) < (N : Int) := by omega
            have x1 : (0 : Int) ≤ (i : Int) := by omega
            have hfz := htk.froz (by omega) (i * 4 + 2)
            have HR := Lib.hid (And.intro hgi (And.intro htk (And.intro hmp (And.intro hK (And.intro hlt (And.intro ht (H4.out.2.1 b rfl)))))))
            have HC := Lib.hid hcl
            clear hgi htk hmp hK hlt ht hat hr ht8 hcl
            go_wp2_with fail
            refine HC.out.mono ?_
            rintro e w5 ⟨v5, f5, rfl, ho5, hk5, hf5⟩
            obtain ⟨A5, c5, rfl, -, -⟩ := ho5.form
            have htk5 := HR.out.2.1.to hk5
            have k2 : w5.cell? ⟨b, i * 4 + 2, none⟩ = some (.slice t.A t.attrs.length t.c) := by
              obtain ⟨b', hb', -, -, -, k2, -⟩ := htk5.at_ HR.out.2.2.2.2.2.1
              obtain rfl : b = b' := by simpa using hb'
              exact k2
            have k4 := htk5.froz (by have := HR.out.2.2.2.2.1; omega) (i * 4 + 2)
            have hput := htk5.put HR.out.2.2.2.2.2.1 (AttrsAt.ofOwn ho5)
            have H5 := Lib.hid (And.intro hput hk5)
            clear htk5 hput ho5 hk5 hf5
            go_wp2_with fail
            go_roundg (N - (i + 1))
            case measure => have := HR.out.1; have := HR.out.2.2.2.2.1; omega
            case rel =>
              obtain ⟨hgi, htk, hmp, hK, hlt, ht, hfb⟩ := HR.out
              refine ⟨i + 1, _, by omega, by go_num, H5.out.1, ?_, (hK.trans H5.out.2 (by simp)).setCell (.inr hfb) _⟩
              rw [map_tok_set _ _ _ _ _ ht]
              exact hmp
          · obtain rfl : i = N := by omega
            have HR := Lib.hid (And.intro htk (And.intro hmp hK))
            clear hgi htk hmp hK hlt
            go_wp2_with fail
            go_ret
            have hfin : NewToks w T (.returned (.slice A4 i c4)) wr := ⟨A4, c4, tl, by rw [H4.out.2.2.2.2.1], by rw [H4.out.2.2.2.2.1]; exact HR.out.1, HR.out.2⟩
            rw [HTT.out] at hfin
            exact hfin

/-- what a Clone of tokens leaves. -/
def NewRow (w : World) (A : Option Addr) (n c : Nat) (ts : List TV) (e : Ending) (w' : World) : Prop :=
  ∃ v fv, e = .returned v ∧ Own w' 66 4 v n (tvsC ts) fv ∧ Keeps w w' [] ∧ ∀ k ∈ fv, w.heap.size ≤ k
set_option maxHeartbeats 400000 in
theorem clone_toks (A : Option Addr) (n c : Nat) (ts : List TV) (w : World) (h : ToksAt w A n c ts) (hn : n ≤ 64) :
    Calls Try.prog 34 #[.slice A n c] w (NewRow w A n c ts) := by
  obtain ⟨i0, hi, hz0, hz1, hz2⟩ := info_parts info_token2
  have heq := fun (w : World) (a : Option Addr) (n c : Nat) => Lib.run_eql_slice_nil (P := Try.prog) w 36 66 a n c 0 0 Try.underlying36
  obtain ⟨fr, hr, -⟩ := h.reads
  cases A with
  | none =>
    obtain rfl : n = 0 := by
      rcases h.2.2.1 with h0 | ⟨b, cur, he, -⟩
      · exact h0
      · cases he
    obtain rfl : ts = [] := List.eq_nil_of_length_eq_zero h.1
    clear h hr
    go_enter Try.func34, Try.ntmps34
    go_wp2_with fail
    go_ret
    exact ⟨_, [], rfl, Own.bare _ _ _ _, Keeps.refl _ _, by simp⟩
  | some ad =>
    clear h
    have HR := Lib.hid hr
    clear hr
    go_enter Try.func34, Try.ntmps34
    go_wp2_with (at_builtin; refine wpList_append_mine _ rfl (.tmp 5) (.tmp 6) _ _ rfl 66 i0 _ 4 64 Try.underlying36 hi hz0 hz1 hz2 rfl _ 0 [] [] rfl (Own.bare _ _ _ _) _ n (tvsC ts) rfl ?src ?c1 ?c2 ?next)
    case src => exact (HR.out.to (by simp) (fun k hk => Below.heap_alloc _ _ _ (HR.out.lt k hk))).src Try.underlying36 (tvsC_one ts) c
    case c1 => unfold maxLen; omega
    case c2 => omega
    case next =>
      intro v w1 fv hown hkeep hfv
      go_wp2_with fail
      go_ret
      refine ⟨_, fv, rfl, by simpa using hown, ((Keeps.refl w []).alloc _).trans hkeep (by simp), fun k hk => ?_⟩
      have := hfv k hk
      omega

set_option maxHeartbeats 3200000 in
set_option maxRecDepth 100000 in
theorem inside_calls (A : Option Addr) (N c : Nat) (ts : List TV) (w : World) (h : ToksAt w A N c ts) (hn : N ≤ 64) (hts : ∀ t ∈ ts, t.attrs.length ≤ 8) :
    Calls Try.prog 28 #[.slice A N c] w (NewToks w (ts.map TV.tok)) := by
  have HCT := Lib.hid (clone_toks A N c ts w h hn)
  have H := Lib.hid (And.intro h hts)
  have y4 : (N : Int) ≤ 66 := by omega
  clear h hn hts
  go_enter Try.func28, Try.ntmps28
  go_wp2_with fail
  refine HCT.out.mono ?_
  rintro e w4 ⟨v4, f4, rfl, ho4', hk4', hf4⟩
  obtain ⟨T, hT⟩ : ∃ T, T = ts.map TV.tok := ⟨_, rfl⟩
  rw [← hT]
  obtain ⟨A4, c4, rfl, hN4, -⟩ := ho4'.form
  have ht0 : ToksAt w4 A4 N c4 ts := ToksAt.ofOwn ho4' (H.out.1.to hk4').2.2.2
  have hfr : ∀ b, A4 = some ⟨b, 0, none⟩ → 0 < N → w.heap.size ≤ b := fun b hb hN => by
    rcases ho4'.2 with ⟨A', hv, h0, -⟩ | ⟨g, cap, cur, hv, hp, hf, -⟩
    · omega
    · simp only [Value.slice.injEq] at hv
      rw [hb] at hv
      have : b = g := by simpa using hv.1
      exact hf4 b (by rw [hf, this]; simp)
  have hT8 : ∀ t ∈ T, t.attrs.length ≤ 8 := fun t ht => by
    rw [hT] at ht
    obtain ⟨t', h1, rfl⟩ := List.mem_map.1 ht
    exact H.out.2 t' h1
  have hTl : T.length = N := by rw [hT, List.length_map, ht0.1]
  have y5 : (N : Int) ≤ (c4 : Int) := by omega
  have H4 := Lib.hid (And.intro ht0 (And.intro hfr (And.intro hT.symm (And.intro hT8 (And.intro hTl hk4')))))
  have HTT := Lib.hid hT
  clear hk4' hf4 ho4' ht0 hfr hT8 hTl hT
  go_wp2_with fail
  go_loopg [9] N (fun gg s wr => ∃ (i : Nat) (tl : List TV), gg + i = N ∧ s = .int .i64 i ∧ ToksAt wr A4 N c4 tl ∧ tl.map TV.tok = T ∧ Keeps w wr [])
  case atStart => exact ⟨0, _, by omega, rfl, H4.out.1, H4.out.2.2.1, H4.out.2.2.2.2.2⟩
  case round =>
    obtain ⟨i, tl, hgi, rfl, htk, hmp, hK⟩ := hrel
    by_cases hlt : i < N
    · obtain ⟨t, ht⟩ : ∃ t, tl[i]? = some t := ⟨_, List.getElem?_eq_getElem (by rw [htk.1]; exact hlt)⟩
      obtain ⟨b, rfl, hbs, g0, g1, g2, g3⟩ := htk.at_ ht
      have hat := htk.2.2.2 t (List.mem_of_getElem? ht)
      obtain ⟨fr, hr⟩ := hat.reads
      have ht8 : t.attrs.length ≤ 8 := H4.out.2.2.2.1 t.tok (by rw [← hmp]; exact List.mem_map.2 ⟨t, List.mem_of_getElem? ht, rfl⟩)
      have hcl := clone_attrs t.A t.c t.attrs fr wr hr (by omega)
      have x0 : (i : Int) < (N : Int) := by omega
      have x1 : (0 : Int) ≤ (i : Int) := by omega
      have hfz := htk.froz (by omega) (i * 4 + 2)
      have HR := Lib.hid (And.intro hgi (And.intro htk (And.intro hmp (And.intro hK (And.intro hlt (And.intro ht (H4.out.2.1 b rfl (by omega))))))))
      have HC := Lib.hid hcl
      clear hgi htk hmp hK hlt ht hat hr ht8 hcl
      go_wp2_with fail
      refine HC.out.mono ?_
      rintro e w5 ⟨v5, f5, rfl, ho5, hk5, hf5⟩
      obtain ⟨A5, c5, rfl, -, -⟩ := ho5.form
      have htk5 := HR.out.2.1.to hk5
      have k2 : w5.cell? ⟨b, i * 4 + 2, none⟩ = some (.slice t.A t.attrs.length t.c) := by
        obtain ⟨b', hb', -, -, -, k2, -⟩ := htk5.at_ HR.out.2.2.2.2.2.1
        obtain rfl : b = b' := by simpa using hb'
        exact k2
      have k4 := htk5.froz (by have := HR.out.2.2.2.2.1; omega) (i * 4 + 2)
      have hput := htk5.put HR.out.2.2.2.2.2.1 (AttrsAt.ofOwn ho5)
      have H5 := Lib.hid (And.intro hput hk5)
      clear htk5 hput ho5 hk5 hf5
      go_wp2_with fail
      go_roundg (N - (i + 1))
      case measure => have := HR.out.1; have := HR.out.2.2.2.2.1; omega
      case rel =>
        obtain ⟨hgi, htk, hmp, hK, hlt, ht, hfb⟩ := HR.out
        refine ⟨i + 1, _, by omega, by go_num, H5.out.1, ?_, (hK.trans H5.out.2 (by simp)).setCell (.inr hfb) _⟩
        rw [map_tok_set _ _ _ _ _ ht]
        exact hmp
    · obtain rfl : i = N := by omega
      have HR := Lib.hid (And.intro htk (And.intro hmp hK))
      clear hgi htk hmp hK hlt
      go_wp2_with fail
      go_ret
      have hfin : NewToks w T (.returned (.slice A4 i c4)) wr := ⟨A4, c4, tl, by rw [H4.out.2.2.2.2.1], by rw [H4.out.2.2.2.2.1]; exact HR.out.1, HR.out.2⟩
      rw [HTT.out] at hfin
      exact hfin

end Go.Proofs.Ytbfcgiodpcchnaa
