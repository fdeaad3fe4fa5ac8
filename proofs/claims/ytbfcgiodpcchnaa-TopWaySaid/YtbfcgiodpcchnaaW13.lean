/-
  CONTRACT: write.walk's iterator over tokens of kinds 1 and 2 that nest.
-/
import Derived.Deep.QuietTactic
import Derived.BigQuiet
import Derived.Test.YtbfcgiodpcchnaaW12
namespace Go.Proofs.Ytbfcgiodpcchnaa
open Go.RowKit
set_option linter.unusedVariables false
attribute [local go_sem] Oper.semAt_some

theorem info_str : (Try.prog.info? 9).map (fun i => (i.zero, i.size, i.bytes)) = some (some (.string ⟨#[]⟩), 1, 16) := by kernel_rfl
def encW (x : Nat × Nat) : Array Value := #[.int .i64 x.1, .int .i64 x.2]
theorem AttrsAt.to {w w' : World} {A : Option Addr} {c : Nat} {l : AL} (h : AttrsAt w A c l) (k : Keeps w w' []) : AttrsAt w' A c l := h.tk (TK.ofKeeps k (by simp))
theorem ToksAt.to {w w' : World} {A : Option Addr} {n c : Nat} {l : List TV} (h : ToksAt w A n c l) (k : Keeps w w' []) : ToksAt w' A n c l := h.tk (TK.ofKeeps k (by simp))
/-- the last of a stack. -/
theorem Own.last {w : World} {e : TypeId} {n : Nat} {A : Option Addr} {c : Nat} {xs : List Value} {fp : List Nat} {u : Value} (h : Own w e 1 (.slice A (n + 1) c) (n + 1) xs fp) (hu : xs.getLast? = some u) : ∃ g, A = some ⟨g, 0, none⟩ ∧ w.cell? ⟨g, n, none⟩ = some u := by
  obtain ⟨hl, h⟩ := h
  rcases h with ⟨_, _, h0, _⟩ | ⟨g, cap, cur, hv, hp, rfl, hb, hn, hm, hc, ht⟩
  · omega
  · simp only [Value.slice.injEq] at hv
    obtain ⟨rfl, -, rfl⟩ := hv
    refine ⟨g, rfl, ?_⟩
    rw [hb.cell]
    rw [List.getLast?_eq_getElem?, hl] at hu
    rw [← ht, List.getElem?_take] at hu
    split at hu
    · simpa using hu
    · cases hu

theorem Own.tk {w w' : World} {n : Nat} {v : Value} {xs : List Value} {fp : List Nat} (h : Own w 9 1 v n xs fp) (k : TK w w') : Own w' 9 1 v n xs fp := h.to fun j hj => by
  obtain ⟨cur, h1⟩ := h.typed j hj
  exact (k.same j _ h1 rfl).trans h1.symm

set_option maxRecDepth 100000 in
set_option maxHeartbeats 3200000 in
theorem walk_all (bd : Nat) (A : Option Addr) (n c : Nat) (ts : List TV) (w : World) (hbd : Blk w bd 36 #[.slice A n c]) (hts : ToksAt w A n c ts) (hg : goodToks (ts.map TV.tok)) :
    SeqAll Fence.wide 6 Try.prog 37 #[.pointer (some ⟨bd, 0, none⟩)] encW TK (fun xs => xs = walkL (ts.map TV.tok)) (fun pre => ∃ k, k ≤ n ∧ pre = (walkL (ts.map TV.tok)).take k) n w := by
  intro l J Jx W hB hJ hJx hY h0
  have hK := Keeps.ofBelow hB []
  obtain ⟨T, hT⟩ : ∃ T, T = ts.map TV.tok := ⟨_, rfl⟩
  rw [← hT] at hg ⊢
  have hTl : T.length = n := by rw [hT, List.length_map, hts.1]
  have hn64 : n ≤ 64 := by rw [← hTl]; exact hg.1
  have hbd := hbd.keeps hK (by simp)
  have hts := hts.to hK
  have hnc := hts.2.1
  have d0 := hbd.cell 0
  simp at d0
  obtain ⟨ij, hj, hz0, hz1, hz2⟩ := info_parts info_str
  have H := Lib.hid (And.intro hbd (And.intro hts (And.intro hJ (And.intro hY (And.intro hT (And.intro hTl (And.intro hg (And.intro hn64 (And.intro h0 (And.intro hnc (And.intro hj (And.intro hz0 (And.intro hz1 hz2)))))))))))))
  have HJX := Lib.hid hJx
  clear hbd hts hJ hY hT hTl hg hn64 h0 hnc hj hz0 hz1 hz2 hJx hK hB
  refine callsIn_of_wp Try.func37 rfl trivial ?_ rfl
  simp only [Try.ntmps37, List.size_toArray, List.length_cons, List.length_nil, Nat.reduceAdd, Nat.reduceSub, Array.replicate_succ, Array.replicate_zero, List.push_toArray, List.append_toArray, List.nil_append, List.cons_append]
  gi_wp2
  gi_loopw [9, 3] (fun i v wr => ∃ k : Nat, k ≤ n ∧ i = .int .i64 k ∧ J ((walkL T).take k) wr ∧ TKB W.heap.size W wr ∧ ∃ fp, Own wr 9 1 v (opens T k).length ((opens T k).map .string) fp ∧ ∀ j ∈ fp, W.heap.size ≤ j) (fun i _ _ => n - (intOf i).toNat)
  case atStart => exact ⟨0, Nat.zero_le _, rfl, H.out.2.2.2.2.2.2.2.2.1, TKB.refl _ _, [], Own.bare _ _ _ _, by simp⟩
  case round =>
    obtain ⟨k, hkn, rfl, hJs, hnx, fp, hown, hfp⟩ := hrel
    by_cases hlt : k < n
    · obtain ⟨t, ht⟩ : ∃ t, ts[k]? = some t := ⟨_, List.getElem?_eq_getElem (by rw [H.out.2.1.1]; exact hlt)⟩
      have htT : T[k]? = some t.tok := by rw [H.out.2.2.2.2.1, List.getElem?_map, ht]; rfl
      obtain ⟨hgt, hgk⟩ := H.out.2.2.2.2.2.2.1.2 k t.tok htT
      have hta := H.out.2.1.tkb hnx
      obtain ⟨b, rfl, hbs, g0, g1, g2, g3⟩ := hta.at_ ht
      have hat := hta.2.2.2 t (List.mem_of_getElem? ht)
      obtain ⟨W1, hW1⟩ : ∃ W1, W1 = wr.alloc (.cells #[.int .u8 t.kind, .string t.name, .slice t.A t.attrs.length t.c, .string t.text] 66) := ⟨_, rfl⟩
      have hk1 : Keeps wr W1 [] := by rw [hW1]; exact (Keeps.refl wr []).alloc _
      have hb1 : Blk W1 wr.heap.size 66 #[.int .u8 t.kind, .string t.name, .slice t.A t.attrs.length t.c, .string t.text] := by rw [hW1]; exact Blk.new _ _ _
      have hrt := (callsIn_wide (n := 5)).2 (right_tok t W1 hgt (hat.to hk1))
      have hnm : t.text = ⟨#[]⟩ := hgt.2.1
      obtain ⟨d, hd⟩ : ∃ d, d = (opens T k).length := ⟨_, rfl⟩
      rw [← hd] at hown
      have hd64 : d ≤ 64 := by have := opens_le T k; have := H.out.2.2.2.2.2.2.2.1; omega
      obtain ⟨A0, c0, rfl, hdc, -⟩ := hown.form
      have HRT := Lib.hid hrt
      have y0 : (0 : Int) ≤ (k : Int) := by omega
      have y1 : (k : Int) < (n : Int) := by omega
      have y2 : (n : Int) ≤ (c : Int) := by have := H.out.2.2.2.2.2.2.2.2.2.1; omega
      have y3 : (k : Int) ≤ 64 := by have := H.out.2.2.2.2.2.2.2.1; omega
      have y4 : (d : Int) ≤ (c0 : Int) := by omega
      obtain ⟨K, nm, At, ca, la, tx⟩ := t
      dsimp only [TV.tok] at hgk hgt htT hnm
      dsimp only at g0 g1 g2 g3 hW1 hb1 HRT
      subst hnm
      have HX := Lib.hid (And.intro ht (And.intro htT (And.intro hgt (And.intro hJs (And.intro hnx (And.intro hown (And.intro hfp (And.intro hlt (And.intro hk1 (And.intro hb1 (And.intro hd (And.intro hd64 (And.intro hbs hW1)))))))))))))
      clear ht htT hgt hJs hnx hown hfp hlt hk1 hb1 hd hd64 hbs hta hat hrt hdc
      rcases hgk with ⟨rfl, hgd⟩ | ⟨rfl, hgl⟩
      · have y5 : (d : Int) < 8 := by have := HX.out.2.2.2.2.2.2.2.2.2.2.1; omega
        clear hgd
        rw [HX.out.2.2.2.2.2.2.2.2.2.2.2.2.2] at HRT
        gi_wp2
        refine ⟨trivial, HRT.out.mono ?_⟩
        rintro e W2 ⟨rfl, hk2⟩
        rw [← HX.out.2.2.2.2.2.2.2.2.2.2.2.2.2] at hk2
        have p0 : W2.cell? ⟨wr.heap.size, 0, none⟩ = some (.int .u8 1) := (HX.out.2.2.2.2.2.2.2.2.2.1.keeps hk2 (by simp)).cell 0
        have p1 : W2.cell? ⟨wr.heap.size, 1, none⟩ = some (.string nm) := (HX.out.2.2.2.2.2.2.2.2.2.1.keeps hk2 (by simp)).cell 1
        have hk2' := HX.out.2.2.2.2.2.2.2.2.1.trans hk2 (by simp)
        have HK := Lib.hid hk2'
        clear hk2 hk2'
        gi_wp2_with (gi_at_builtin; refine wpListIn_append_mine _ rfl (.tmp 28) (.tmp 31) _ _ rfl 9 ij _ 1 16 Try.underlying78 H.out.2.2.2.2.2.2.2.2.2.2.1 H.out.2.2.2.2.2.2.2.2.2.2.2.1 H.out.2.2.2.2.2.2.2.2.2.2.2.2.1 H.out.2.2.2.2.2.2.2.2.2.2.2.2.2 rfl _ d ((opens T k).map .string) fp rfl ((HX.out.2.2.2.2.2.1.keeps HK.out (by simp)).alloc _) _ 1 [.string nm] rfl ?src ?c1 ?c2 ?next)
        case src => exact (Blk.new' W2 (n := W2.heap.size) rfl 9 #[.string nm]).src Try.underlying78 1 rfl (by simp [Value.oneCell'])
        case c1 => unfold maxLen; omega
        case c2 => omega
        case next =>
          intro v' W3 f' ho3 hk3 hn3
          obtain ⟨A', c', rfl, hdc', -⟩ := ho3.form
          have hkall : Keeps wr W3 fp := ((HK.out.mono (by simp)).alloc _).trans hk3 (fun i _ hi => hi)
          have hf3 : ∀ j ∈ f', W.heap.size ≤ j := fun j hj => by
            rcases hn3 j hj with h | h
            · exact HX.out.2.2.2.2.2.2.1 j h
            · have h1 := HX.out.2.2.2.2.1.size
              have h2 := HK.out.size
              (try simp at h)
              omega
          have hO : opens T (k + 1) = opens T k ++ [nm] := opens_begin T k _ HX.out.2.1 rfl
          have hl : d + 1 = (opens T (k + 1)).length := by rw [hO, List.length_append, ← HX.out.2.2.2.2.2.2.2.2.2.2.1]; rfl
          have ho3' : Own W3 9 1 (.slice A' (d + 1) c') (d + 1) ((opens T (k + 1)).map .string) f' := by
            rw [hO, List.map_append]
            exact ho3
          have hJ3 := H.out.2.2.1 _ wr W3 HX.out.2.2.2.1 (hkall.below HX.out.2.2.2.2.1.size HX.out.2.2.2.2.2.2.1)
          have hTK3 := HX.out.2.2.2.2.1.trans (hkall.b HX.out.2.2.2.2.1.size HX.out.2.2.2.2.2.2.1)
          obtain ⟨fn, tmps, assign, body, hy, hR⟩ := H.out.2.2.2.1 ((walkL T).take k) (k, d + 1) W3 hJ3 (by rw [List.length_take, walkL_length, H.out.2.2.2.2.2.1]; have := HX.out.2.2.2.2.2.2.2.1; omega)
          unfold encW at hy
          dsimp only at hy
          push_cast at hy
          have hwk : (walkL T).take (k + 1) = (walkL T).take k ++ [(k, d + 1)] := by
            rw [List.take_add_one, walkL_at T (by rw [H.out.2.2.2.2.2.1]; exact HX.out.2.2.2.2.2.2.2.1), ← hl]
            rfl
          have HT := Lib.hid (And.intro hR (And.intro hwk (And.intro hTK3 (And.intro ho3' (And.intro hf3 (And.intro hl hkall))))))
          clear hR hwk hTK3 ho3' hf3 hl hJ3 hkall ho3 hk3 hn3 hdc'
          gi_wp2
          refine HT.out.1.mono ?_
          rintro e W4 (⟨rfl, hJ4, hk4⟩ | ⟨rfl, hJx4⟩)
          · gi_wp2
            go_roundw
            case rel =>
              refine ⟨k + 1, by have := HX.out.2.2.2.2.2.2.2.1; omega, by go_num, ?_, HT.out.2.2.1.trans (hk4.b _), f', ?_, HT.out.2.2.2.2.1⟩
              · rw [HT.out.2.1]
                exact hJ4
              · have := HT.out.2.2.2.1.tk hk4
                rw [← HT.out.2.2.2.2.2.1]
                exact this
            case measure => have := HX.out.2.2.2.2.2.2.2.1; simp [intOf]; omega
          · gi_wp2
            refine bodyPost_ret (results_none rfl _ _ _) rfl ?_
            exact ⟨⟨_, rfl⟩, .inr ⟨_, ⟨k + 1, by have := HX.out.2.2.2.2.2.2.2.1; omega, HT.out.2.1.symm⟩, hJx4⟩⟩
      · obtain ⟨d0, rfl⟩ : ∃ d0, d = d0 + 1 := by
          rcases Nat.eq_zero_or_pos d with h0 | h0
          · have h1 := HX.out.2.2.2.2.2.2.2.2.2.2.1
            rw [h0] at h1
            have h2 := List.eq_nil_of_length_eq_zero h1.symm
            rw [h2] at hgl
            cases hgl
          · exact ⟨d - 1, by omega⟩
        have hgl' : ((opens T k).map Value.string).getLast? = some (.string nm) := by rw [List.getLast?_map, hgl]; rfl
        clear hgl
        rw [HX.out.2.2.2.2.2.2.2.2.2.2.2.2.2] at HRT
        have z5 : (0 : Int) ≤ (d0 : Int) := by omega
        have z6 : (d0 : Int) ≤ 64 := by have := HX.out.2.2.2.2.2.2.2.2.2.2.2.1; omega
        have HG := Lib.hid hgl'
        clear hgl'
        gi_wp2
        refine ⟨trivial, HRT.out.mono ?_⟩
        rintro e W2 ⟨rfl, hk2⟩
        rw [← HX.out.2.2.2.2.2.2.2.2.2.2.2.2.2] at hk2
        have p0 : W2.cell? ⟨wr.heap.size, 0, none⟩ = some (.int .u8 2) := (HX.out.2.2.2.2.2.2.2.2.2.1.keeps hk2 (by simp)).cell 0
        have p1 : W2.cell? ⟨wr.heap.size, 1, none⟩ = some (.string nm) := (HX.out.2.2.2.2.2.2.2.2.2.1.keeps hk2 (by simp)).cell 1
        have hk2' := HX.out.2.2.2.2.2.2.2.2.1.trans hk2 (by simp)
        obtain ⟨gg, rfl, p2⟩ := (HX.out.2.2.2.2.2.1.keeps hk2' (by simp)).last HG.out
        have HK := Lib.hid hk2'
        clear hk2 hk2'
        gi_wp2
        refine wpIn_wide.2 ?_
        go_quiet (fail)
        obtain ⟨W3, hW3⟩ : ∃ W3, W3 = W2.drewN nq := ⟨_, rfl⟩
        have hkall : Keeps wr W3 fp := by rw [hW3]; exact (HK.out.mono (by simp)).drewN nq
        have hf3 := HX.out.2.2.2.2.2.2.1
        have hO : opens T (k + 1) = (opens T k).dropLast := opens_end T k _ HX.out.2.1 rfl
        have hl : d0 = (opens T (k + 1)).length := by rw [hO, List.length_dropLast, ← HX.out.2.2.2.2.2.2.2.2.2.2.1]; rfl
        have ho3' : Own W3 9 1 (.slice (some ⟨gg, 0, none⟩) d0 c0) d0 ((opens T (k + 1)).map .string) fp := by
          rw [hO, List.map_dropLast, hW3]
          exact ((HX.out.2.2.2.2.2.1.keeps HK.out (by simp)).drewN nq).pop
        rw [← hW3]
        clear hW3
        have hJ3 := H.out.2.2.1 _ wr W3 HX.out.2.2.2.1 (hkall.below HX.out.2.2.2.2.1.size HX.out.2.2.2.2.2.2.1)
        have hTK3 := HX.out.2.2.2.2.1.trans (hkall.b HX.out.2.2.2.2.1.size HX.out.2.2.2.2.2.2.1)
        obtain ⟨fn, tmps, assign, body, hy, hR⟩ := H.out.2.2.2.1 ((walkL T).take k) (k, d0) W3 hJ3 (by rw [List.length_take, walkL_length, H.out.2.2.2.2.2.1]; have := HX.out.2.2.2.2.2.2.2.1; omega)
        unfold encW at hy
        dsimp only at hy
        push_cast at hy
        have hwk : (walkL T).take (k + 1) = (walkL T).take k ++ [(k, d0)] := by
          rw [List.take_add_one, walkL_at T (by rw [H.out.2.2.2.2.2.1]; exact HX.out.2.2.2.2.2.2.2.1), ← hl]
          rfl
        have HT := Lib.hid (And.intro hR (And.intro hwk (And.intro hTK3 (And.intro ho3' (And.intro hf3 (And.intro hl hkall))))))
        clear hR hwk hTK3 ho3' hf3 hl hJ3 hkall
        gi_wp2
        refine HT.out.1.mono ?_
        rintro e W4 (⟨rfl, hJ4, hk4⟩ | ⟨rfl, hJx4⟩)
        · gi_wp2
          go_roundw
          case rel =>
            refine ⟨k + 1, by have := HX.out.2.2.2.2.2.2.2.1; omega, by go_num, ?_, HT.out.2.2.1.trans (hk4.b _), fp, ?_, HT.out.2.2.2.2.1⟩
            · rw [HT.out.2.1]
              exact hJ4
            · have := HT.out.2.2.2.1.tk hk4
              rw [← HT.out.2.2.2.2.2.1]
              exact this
          case measure => have := HX.out.2.2.2.2.2.2.2.1; simp [intOf]; omega
        · gi_wp2
          refine bodyPost_ret (results_none rfl _ _ _) rfl ?_
          exact ⟨⟨_, rfl⟩, .inr ⟨_, ⟨k + 1, by have := HX.out.2.2.2.2.2.2.2.1; omega, HT.out.2.1.symm⟩, hJx4⟩⟩
    · obtain rfl : k = n := by omega
      gi_wp2
      go_end0
      exact ⟨⟨_, rfl⟩, .inl ⟨_, rfl, by rw [List.take_of_length_le (by rw [walkL_length, H.out.2.2.2.2.2.1]; exact Nat.le_refl _)] at hJs; exact hJs⟩⟩

end Go.Proofs.Ytbfcgiodpcchnaa
