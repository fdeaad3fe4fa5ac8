/-
  CONTRACT: heliographtop.TopWay of two right addresses.
-/
import Derived.Lib.SmallJoins
import Derived.Test.YtbfcgiodpcchnaaW22
namespace Go.Proofs.Ytbfcgiodpcchnaa
open Go.RowKit
set_option linter.unusedVariables false
attribute [local go_sem] Oper.semAt_some

abbrev sevenT : ByteArray := ⟨#[55]⟩
theorem one_err {ty f t id nm kd : ByteArray} {P : List Tok} (hP : P = errT nm kd) (h1 : plainT ty) (h2 : plainT f) (h3 : plainT t) (h4 : plainT id) (h5 : isName nm) (h6 : plainT kd) : oneElement (stanzaT ty f t id P) := by
  subst hP
  exact one_six h1 h2 h3 h4 h5 h6
theorem one_none {ty f t id : ByteArray} {P : List Tok} (hP : P = []) (h1 : plainT ty) (h2 : plainT f) (h3 : plainT t) (h4 : plainT id) : oneElement (stanzaT ty f t id P) := by
  subst hP
  exact one_two h1 h2 h3 h4
theorem attrs8 {ts : List TV} {P : List Tok} (h : ts.map TV.tok = P) (hP : ∀ t ∈ P, t.attrs.length ≤ 8) : ∀ t ∈ ts, t.attrs.length ≤ 8 := fun t ht => hP t.tok (by rw [← h]; exact List.mem_map.2 ⟨t, ht, rfl⟩)
theorem err8 (nm kd : ByteArray) : ∀ t ∈ errT nm kd, t.attrs.length ≤ 8 := by
  intro t ht
  simp [errT] at ht
  rcases ht with rfl | rfl | rfl | rfl <;> simp

set_option maxHeartbeats 3200000 in
set_option maxRecDepth 100000 in
theorem way_right (l1 d1 r1 l2 d2 r2 : ByteArray) (z : Nat) (w : World) (hz : z < 256) (m : l1.size ≤ maxLen ∧ d1.size ≤ maxLen ∧ r1.size ≤ maxLen) (m' : l2.size ≤ maxLen ∧ d2.size ≤ maxLen ∧ r2.size ≤ maxLen)
    (h1 : isRight l1 d1 r1) (h2 : isRight l2 d2 r2) :
    Calls Try.prog 4 #[.agg #[.string l1, .string d1, .string r1], .agg #[.string l2, .string d2, .string r2], .int .u8 z] w fun e w' => e = .returned (.bool true) ∧ Keeps w w' [] := by
  obtain ⟨mm, hm⟩ : ∃ mm, mm = z % 10 := ⟨_, rfl⟩
  have hme : (z : Int) % 10 = (mm : Int) := by omega
  have hz0 : (0 : Int) ≤ (z : Int) := by omega
  have hz1 : (z : Int) < 256 := by omega
  obtain ⟨cd, hc⟩ : ∃ cd, cd = mm + 1 := ⟨_, rfl⟩
  have hce : (mm : Int) + 1 = (cd : Int) := by omega
  have hm10 : (mm : Int) < 10 := by omega
  have hgd := cond_good cd (by omega) (by omega)
  have hpa := fun wx => print_right l1 d1 r1 wx m.1 m.2.1 m.2.2 h1
  have hpb := fun wx => print_right l2 d2 r2 wx m'.1 m'.2.1 m'.2.2 h2
  have herr := fun wx => error_calls ⟨#[115, 101, 116]⟩ (joinB l1 d1 r1) (joinB l2 d2 r2) ⟨#[55]⟩ none 0 0 cd (by omega) (by omega) wx
  have hres := fun A0 n0 c0 wx => result_calls ⟨#[101, 114, 114, 111, 114]⟩ (joinB l2 d2 r2) (joinB l1 d1 r1) ⟨#[55]⟩ A0 n0 c0 wx
  have px := plain_join h1
  have py := plain_join h2
  have hs1 := fun wx => sright_calls ⟨#[115, 101, 116]⟩ l1 d1 r1 l2 d2 r2 none 0 0 [] wx (ToksAt.nil _ _ _) (by omega) (by simp) typed_set (by decide) h1 h2 (one_two plain_consts.1 px py plain_consts.2.2.2)
  have hs2 := fun A n c ts wx (ht : ToksAt wx A n c ts) (hm : ts.map TV.tok = errT (condName cd) (condType cd)) (hn : n ≤ 60) => sright_calls ⟨#[101, 114, 114, 111, 114]⟩ l2 d2 r2 l1 d1 r1 A n c ts wx ht hn (attrs8 hm (err8 _ _)) typed_error (by decide) h2 h1 (one_err hm plain_consts.2.1 py px plain_consts.2.2.2 hgd.1 hgd.2)
  have hs3 := fun A n c ts wx (ht : ToksAt wx A n c ts) (hm : ts.map TV.tok = []) (hn : n ≤ 60) => sright_calls ⟨#[114, 101, 115, 117, 108, 116]⟩ l1 d1 r1 l2 d2 r2 A n c ts wx ht hn (attrs8 hm (by simp)) typed_result (by decide) h1 h2 (one_none hm plain_consts.2.2.1 px py plain_consts.2.2.2)
  obtain ⟨x, hx⟩ : ∃ x, x = joinB l1 d1 r1 := ⟨_, rfl⟩
  obtain ⟨y, hy⟩ : ∃ y, y = joinB l2 d2 r2 := ⟨_, rfl⟩
  simp only [← hx, ← hy] at hpa hpb herr hres hs1 hs2 hs3
  simp only [errorT] at herr
  simp only [resultT] at hres
  have H := Lib.hid (And.intro hpa (And.intro hpb (And.intro herr (And.intro hres (And.intro hs1 (And.intro hs2 hs3))))))
  clear hpa hpb herr hres hs1 hs2 hs3 h1 h2 m m' px py hgd hm hc hz hx hy
  go_enter Try.func4, Try.ntmps4
  go_wp2_with fail
  refine (H.out.1 _).mono ?_
  rintro e w1 ⟨rfl, hk1⟩
  have hb1 := (Blk.new' (w.alloc (.cells #[.string l1, .string d1, .string r1] 30)) (n := w.heap.size + 1) (by simp) 30 #[.string l2, .string d2, .string r2]).keeps hk1 (by simp)
  have z0 : w1.cell? ⟨w.heap.size + 1, 0, none⟩ = some (.string l2) := hb1.cell 0
  have z1 : w1.cell? ⟨w.heap.size + 1, 1, none⟩ = some (.string d2) := hb1.cell 1
  have z2 : w1.cell? ⟨w.heap.size + 1, 2, none⟩ = some (.string r2) := hb1.cell 2
  have HK1 := Lib.hid ((((Keeps.refl w []).alloc _).alloc _).trans hk1 (by simp))
  clear hk1 hb1
  go_wp2_with fail
  refine (H.out.2.1 _).mono ?_
  rintro e w2 ⟨rfl, hk2⟩
  have HK2 := Lib.hid (HK1.out.trans hk2 (by simp))
  clear hk2 z0 z1 z2
  go_wp2_with fail
  refine (H.out.2.2.1 _).mono ?_
  rintro e w3 ⟨A3, n3, c3, t3, rfl, ht3, hm3, hk3⟩
  have hn3 : n3 = 4 := by rw [← ht3.1, ← List.length_map (f := TV.tok), hm3]; rfl
  have hs3 := (Blk.new w2 38 #[.int .u8 1, .string ⟨#[115, 101, 116]⟩, .string x, .string y, .string ⟨#[55]⟩, .slice none 0 0]).keeps hk3 (by simp)
  have HK3 := Lib.hid (And.intro ((HK2.out.alloc _).trans hk3 (by simp)) (And.intro hs3 (And.intro ht3 (And.intro hm3 hn3))))
  clear ht3 hm3 hk3 hn3 hs3
  go_wp2_with fail
  refine (H.out.2.2.2.1 _ _ _ _).mono ?_
  rintro e w4 ⟨A4, n4, c4, t4, rfl, ht4, hm4, hk4⟩
  have hn4 : n4 = 0 := by rw [← ht4.1, ← List.length_map (f := TV.tok), hm4]; rfl
  have hr4 := (Blk.new w3 38 #[.int .u8 1, .string ⟨#[101, 114, 114, 111, 114]⟩, .string y, .string x, .string ⟨#[55]⟩, .slice A3 n3 c3]).keeps hk4 (by simp)
  have hk34 := (((Keeps.refl w3 []).alloc (.cells #[.int .u8 1, .string ⟨#[101, 114, 114, 111, 114]⟩, .string y, .string x, .string ⟨#[55]⟩, .slice A3 n3 c3] 38)).trans hk4 (by simp)).alloc (.cells #[.int .u8 1, .string ⟨#[114, 101, 115, 117, 108, 116]⟩, .string x, .string y, .string ⟨#[55]⟩, .slice A4 n4 c4] 38)
  obtain ⟨w5, hw5⟩ : ∃ w5, w5 = w4.alloc (.cells #[.int .u8 1, .string ⟨#[114, 101, 115, 117, 108, 116]⟩, .string x, .string y, .string ⟨#[55]⟩, .slice A4 n4 c4] 38) := ⟨_, rfl⟩
  rw [← hw5] at hk34
  have hs5 := HK3.out.2.1.keeps hk34 (by simp)
  have hr5 : Blk w5 w3.heap.size 38 #[.int .u8 1, .string ⟨#[101, 114, 114, 111, 114]⟩, .string y, .string x, .string ⟨#[55]⟩, .slice A3 n3 c3] := by rw [hw5]; exact hr4.alloc _
  have hb5 : Blk w5 w4.heap.size 38 #[.int .u8 1, .string ⟨#[114, 101, 115, 117, 108, 116]⟩, .string x, .string y, .string ⟨#[55]⟩, .slice A4 n4 c4] := by rw [hw5]; exact Blk.new _ _ _
  have ht35 := HK3.out.2.2.1.to hk34
  have ht45 : ToksAt w5 A4 n4 c4 t4 := by rw [hw5]; exact ht4.to ((Keeps.refl w4 []).alloc _)
  have hkw5 := HK3.out.1.trans hk34 (by simp)
  have s0 : w5.cell? ⟨w2.heap.size, 0, none⟩ = some (.int .u8 1) := hs5.cell 0
  have s1 : w5.cell? ⟨w2.heap.size, 1, none⟩ = some (.string ⟨#[115, 101, 116]⟩) := hs5.cell 1
  have s2 : w5.cell? ⟨w2.heap.size, 2, none⟩ = some (.string x) := hs5.cell 2
  have s3 : w5.cell? ⟨w2.heap.size, 3, none⟩ = some (.string y) := hs5.cell 3
  have s4 : w5.cell? ⟨w2.heap.size, 4, none⟩ = some (.string ⟨#[55]⟩) := hs5.cell 4
  have s5 : w5.cell? ⟨w2.heap.size, 5, none⟩ = some (.slice none 0 0) := hs5.cell 5
  rw [hw5] at s0 s1 s2 s3 s4 s5
  have H5 := Lib.hid (And.intro hr5 (And.intro hb5 (And.intro ht35 (And.intro ht45 (And.intro hkw5 (And.intro hm4 hn4))))))
  have HW5 := Lib.hid hw5
  clear ht4 hm4 hk4 hn4 hr4 hk34 hs5 hr5 hb5 ht35 ht45 hkw5 hw5
  go_wp2_with fail
  rw [← HW5.out]
  clear s0 s1 s2 s3 s4 s5
  refine (H.out.2.2.2.2.1 _).mono ?_
  rintro e w6 ⟨rfl, hk6⟩
  have hr6 := H5.out.1.keeps hk6 (by simp)
  have hb6 := H5.out.2.1.keeps hk6 (by simp)
  have q0 : w6.cell? ⟨w3.heap.size, 0, none⟩ = some (.int .u8 1) := hr6.cell 0
  have q1 : w6.cell? ⟨w3.heap.size, 1, none⟩ = some (.string ⟨#[101, 114, 114, 111, 114]⟩) := hr6.cell 1
  have q2 : w6.cell? ⟨w3.heap.size, 2, none⟩ = some (.string y) := hr6.cell 2
  have q3 : w6.cell? ⟨w3.heap.size, 3, none⟩ = some (.string x) := hr6.cell 3
  have q4 : w6.cell? ⟨w3.heap.size, 4, none⟩ = some (.string ⟨#[55]⟩) := hr6.cell 4
  have q5 : w6.cell? ⟨w3.heap.size, 5, none⟩ = some (.slice A3 n3 c3) := hr6.cell 5
  have hrc := H.out.2.2.2.2.2.1 A3 n3 c3 t3 w6 (H5.out.2.2.1.to hk6) HK3.out.2.2.2.1 (by have := HK3.out.2.2.2.2; omega)
  have H6 := Lib.hid (And.intro hrc (And.intro hr6 (And.intro hb6 hk6)))
  clear hrc hr6 hb6 hk6
  go_wp2_with fail
  refine H6.out.1.mono ?_
  rintro e w7 ⟨rfl, hk7⟩
  clear q0 q1 q2 q3 q4 q5
  have hr7 := H6.out.2.1.keeps hk7 (by simp)
  have hb7 := H6.out.2.2.1.keeps hk7 (by simp)
  have q2 : w7.cell? ⟨w3.heap.size, 2, none⟩ = some (.string y) := hr7.cell 2
  have q3 : w7.cell? ⟨w3.heap.size, 3, none⟩ = some (.string x) := hr7.cell 3
  have b0 : w7.cell? ⟨w4.heap.size, 0, none⟩ = some (.int .u8 1) := hb7.cell 0
  have b1 : w7.cell? ⟨w4.heap.size, 1, none⟩ = some (.string ⟨#[114, 101, 115, 117, 108, 116]⟩) := hb7.cell 1
  have b2 : w7.cell? ⟨w4.heap.size, 2, none⟩ = some (.string x) := hb7.cell 2
  have b3 : w7.cell? ⟨w4.heap.size, 3, none⟩ = some (.string y) := hb7.cell 3
  have b4 : w7.cell? ⟨w4.heap.size, 4, none⟩ = some (.string ⟨#[55]⟩) := hb7.cell 4
  have b5 : w7.cell? ⟨w4.heap.size, 5, none⟩ = some (.slice A4 n4 c4) := hb7.cell 5
  have hk67 := H6.out.2.2.2.trans hk7 (by simp)
  have hbc := H.out.2.2.2.2.2.2 A4 n4 c4 t4 w7 (H5.out.2.2.2.1.to hk67) H5.out.2.2.2.2.2.1 (by have := H5.out.2.2.2.2.2.2; omega)
  have H7 := Lib.hid (And.intro hbc hk67)
  clear hbc hr7 hb7 hk7 hk67
  go_wp2_with fail
  refine H7.out.1.mono ?_
  rintro e w8 ⟨rfl, hk8⟩
  go_wp2_with fail
  go_ret
  exact ⟨rfl, (H5.out.2.2.2.2.1.trans H7.out.2 (by simp)).trans hk8 (by simp)⟩

end Go.Proofs.Ytbfcgiodpcchnaa
