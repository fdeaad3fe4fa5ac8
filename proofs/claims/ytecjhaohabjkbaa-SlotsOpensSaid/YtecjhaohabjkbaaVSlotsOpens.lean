/-
  For every number, every list of deeds and one deed more: Open of the store's device is the store: heliographlaw08.SlotsOpens answers true, and the deeds read as before. No condition.
-/
import Derived.Test.YtecjhaohabjkbaaRows
import Derived.ProofKit
import Derived.OpenShut
import Derived.ShutString
import Derived.ChangeOld
import Derived.Carry
import Derived.Test.YtecjhaohabjkbaaP18
namespace Go.Proofs.Ytecjhaohabjkbaa.vSlotsOpens
open Go.ChangeShapes Go.WideShapes Go.ChangeAt Go.RowKit
open Go.ChangeMaps (open_string shut_string)
set_option linter.unusedVariables false

set_option maxHeartbeats 1000000 in set_option maxRecDepth 100000 in
set_option maxRecDepth 100000 in
theorem walk (x : Int) (A : Option Addr) (n c : Nat) (ds : List SDeed) (d : SDeed) (w : World) (hx : (Lit.int .u8 x).wf = true) (hd : SDeeds w A n ds) (hg : d.good w) :
    Calls Try.prog 9 #[.int .u8 x, .slice A n c, d.val] w fun e w' => e = .returned (.bool true) ∧ Below w.heap.size w w' := by
  obtain ⟨z, rfl, hz⟩ := u8_nat hx
  clear hx
  obtain ⟨m, hm⟩ : ∃ m, m = z % 16 + 4 := ⟨_, rfl⟩
  have hbox := Blk.new w 50 d.cells.toArray
  have hk0 : Keeps w (w.alloc (.cells d.cells.toArray 50)) [] := (Keeps.refl w []).alloc _
  have H0 := Lib.hid (And.intro (pplay_calls z hz A n c ds _ (hd.keeps hk0)) (And.intro hbox (And.intro hg hk0)))
  rw [← hm] at H0
  clear hd hm hbox hk0 hg hz
  obtain ⟨kind, B, b, cB, W, S, sv, cS⟩ := d
  simp only [SDeed.val, SDeed.cells] at H0 ⊢
  obtain ⟨w0, hw0⟩ : ∃ w0, w0 = w.alloc (.cells [Value.int .i64 kind, .slice B b.length cB, .int .i64 W, .slice S sv.length cS].toArray 50) := ⟨_, rfl⟩
  rw [← hw0] at H0
  go_enter Try.func9, Try.ntmps9
  go_wp2_with fail
  have hw0' : w.alloc (.cells #[Value.int .i64 kind, .slice B b.length cB, .int .i64 W, .slice S sv.length cS] 50) = w0 := hw0.symm
  rw [hw0']
  clear hw0 hw0'
  refine H0.out.1.mono ?_
  rintro e w1 ⟨gs, bs, gr, br, rfl, hF⟩
  have H1 := Lib.hid hF; clear hF
  go_wp2_with fail
  refine (live_calls w1).mono ?_
  rintro e w2 ⟨rfl, hk2⟩
  obtain ⟨l, cb, ct, fs, fr, hB, hl, hct, hK, hN⟩ := H1.out.nil hk2
  have H2 := Lib.hid (And.intro hB (And.intro hK (And.intro hct hN))); clear hB hK hk2 hN H1
  go_wp2_with fail
  refine Calls.mono (device_ok gs bs l [] fs w2 H2.out.1.s (H2.out.1.good.fit.mono (by omega))) ?_
  rintro e w3 ⟨b3, f3, rfl, hd3, hk3, hn3⟩
  have H3 := Lib.hid (And.intro hd3 (And.intro hk3 hn3)); clear hd3 hk3 hn3
  go_wp2_with fail
  refine Calls.mono (open_ok b3 l [] w3 f3 H3.out.1 (H2.out.1.good.fit.mono (by omega))) ?_
  rintro e w4 ⟨g, bd, fp, rfl, hs4, hk4, hn4⟩
  have hK4 : Keeps w0 w4 [] := (H2.out.2.1.trans (fp1 := []) H3.out.2.1 (by simp)).trans (fp1 := []) hk4 (by simp)
  have hk24 : Keeps w2 w4 [] := H3.out.2.1.trans (fp1 := []) hk4 (by simp)
  have hsz3 := (H2.out.2.1.trans (fp1 := []) H3.out.2.1 (by simp)).size
  have hboth : SBoth w4 g bd gr br l cb ct fp fr := ⟨hs4, H2.out.1.r.nil hk24, H2.out.1.good, fun k h1 h2 => by
    have := hn4 k h1
    have := H2.out.1.r.lt k h2
    have := H3.out.2.1.size
    omega⟩
  have hb4 := H0.out.2.1.keeps hK4 (by simp)
  have c0 : w4.cell? ⟨w.heap.size, 0, none⟩ = some (.int .i64 kind) := hb4.cell 0
  have c1 : w4.cell? ⟨w.heap.size, 1, none⟩ = some (.slice B b.length cB) := hb4.cell 1
  have c2 : w4.cell? ⟨w.heap.size, 2, none⟩ = some (.int .i64 W) := hb4.cell 2
  have c3 : w4.cell? ⟨w.heap.size, 3, none⟩ = some (.slice S sv.length cS) := hb4.cell 3
  have hkw4 := H0.out.2.2.2.trans (fp1 := []) hK4 (by simp)
  have hnew : ∀ k ∈ fp ++ fr, w.heap.size ≤ k := fun k hk => by
    have h0 := H0.out.2.2.2.size
    rcases List.mem_append.1 hk with h | h
    · have := hn4 k h; omega
    · have := H2.out.2.2.2 k (by simp [h]); omega
  obtain ⟨fB, hrB⟩ := H0.out.2.2.1.reads
  obtain ⟨fS, hrS⟩ := H0.out.2.2.1.reads2
  have hdo := pdo_calls g bd gr br l cb ct fp fr ⟨kind, B, b, cB, W, S, sv, cS⟩ w4 hboth (H0.out.2.2.1.keeps hkw4) fB fS (hrB.keeps hkw4 (by simp)) (fun k h1 h2 => by have := hrB.lt k h1; have := hnew k h2; omega) (hrS.keeps hkw4 (by simp)) (fun k h1 h2 => by have := hrS.lt k h1; have := hnew k h2; omega) (by have := H2.out.2.2.1; omega)
  have H4 := Lib.hid (And.intro hdo (And.intro hkw4 hnew))
  clear hs4 hk4 hn4 hK4 hk24 hsz3 hboth hb4 hkw4 hnew hrB hrS hdo
  go_wp2_with fail
  refine H4.out.1.mono ?_
  rintro e w5 ⟨l5, cb5, ct5, f5, f6, rfl, hb5, -, -, hk5, -⟩
  have H5 := Lib.hid (And.intro hb5 (H4.out.2.1.trans hk5 (fun k hk hm => by have := H4.out.2.2 k hm; omega)))
  clear hb5 hk5
  go_wp2_with fail
  refine (psame_calls g bd gr br l5 cb5 ct5 f5 f6 w5 H5.out.1).mono ?_
  rintro e w6 ⟨rfl, hk6⟩
  have H6 := Lib.hid (H5.out.2.trans (fp1 := []) hk6 (by simp)); clear hk6
  go_wp2_with fail
  go_ret
  exact ⟨rfl, H6.out.below (Nat.le_refl _) (by simp)⟩

/-! ### the row (its frame is printed by gen.py; the walk is above) -/
theorem own : ownKnob Try.prog.godebug = none := by kernel_rfl
theorem laidOut : laidOutB Try.prog = true := by kernel_rfl
set_option maxRecDepth 100000 in
theorem lifted (os : Os) (started : os.Started) (H : Type) (enc : TypeId × Value → H) :
    ReturnsInHanded {} Try.checked os 9 .any (Rows.slotsOpensSpec.pre6 enc Try.prog Try.f9 Rows.slotsOpensRow.domain false) (Rows.slotsOpensSpec.post enc Try.prog Try.f9 false true false false) := by
  refine returnsInHanded_of_change (C := Try.checked) own started (by kernel_rfl) Try.func9
    (ChangeSpec.witness6 (enc := enc) (C := Try.checked) false ⟨#[], #[.int .u8 0, .slice none 0 0, .agg #[.int .i64 0, .slice none 0 0, .int .i64 0, .slice none 0 0]], []⟩ 8 (by kernel_rfl) (by kernel_rfl) (by kernel_rfl) (by kernel_rfl)) ?_
  intro W base args ds gs before hval0 hW hcnd _
  have hval : ∀ (j : Nat) t v, Try.f9.params[j]? = some t → args[j]? = some v → Value.okWide Try.prog W .any base t v := hval0
  have hW' := hW
  obtain ⟨p, q, hA0, hV, rfl, hfz, hnd⟩ := hW
  have hA : DataW.TrodAll enc Try.prog W 0 (fun _ => true) true Try.f9.params.toList args.toList ds p := hA0
  rw [Try.params9] at hA hval
  obtain ⟨v0, vs0, d0, ds0, p0, q0, hargs, rfl, rfl, h0, r0⟩ := trodAll_cons hA
  obtain ⟨v1, vs1, d1, ds1, p1, q1, rfl, rfl, rfl, h1, r1⟩ := trodAll_cons r0
  obtain ⟨v2, vs2, d2, ds2, p2, q2, rfl, rfl, rfl, h2, r2⟩ := trodAll_cons r1
  obtain ⟨rfl, rfl, rfl⟩ := trodAll_nil r2
  obtain rfl : args = #[v0, v1, v2] := by cases args; simp_all
  obtain ⟨rfl, rfl⟩ := trodVars_none hV
  have k0 := h0
  have lt0 : ∀ x ∈ p0, x.block < W.heap.size := by obtain ⟨m, hm⟩ := k0; exact DataW.trod_lt m _ _ _ hm
  obtain ⟨x0, rfl, rfl, rfl, w0⟩ := open_int Try.underlying5 (hval 0 5 v0 rfl rfl) h0
  have k1 := h1
  have lt1 : ∀ x ∈ p1, x.block < W.heap.size := by obtain ⟨m, hm⟩ := k1; exact DataW.trod_lt m _ _ _ hm
  obtain ⟨a1, len1, cap1, rfl⟩ := okWide_slice Try.underlying42 (hval 1 42 v1 rfl rfl)
  obtain ⟨fuel1, hf1⟩ := h1
  obtain ⟨x1, w1⟩ := open_sdeeds (by simpa [Value.cells] using hf1)
  have k2 := h2
  have lt2 : ∀ x ∈ p2, x.block < W.heap.size := by obtain ⟨m, hm⟩ := k2; exact DataW.trod_lt m _ _ _ hm
  obtain ⟨x2, rfl, w2⟩ := open_sdeed (hval 2 50 v2 rfl rfl) h2
  clear hA0 hval0
  refine (walk x0 a1 len1 cap1 x1 x2 W w0 w1 w2).mono fun e W' ⟨he, bel⟩ => ?_
  subst he
  exact ⟨_, rfl, _, _, _, [], _, [], hW', trodAll_mk1 (shut_bool Try.underlying4 _), (trodAll_cons_mk (Below.trod laidOut (by kernel_rfl) (of_decide_eq_true (by kernel_rfl)) k0 bel lt0) (trodAll_cons_mk (Below.trod laidOut (by kernel_rfl) (of_decide_eq_true (by kernel_rfl)) k1 bel lt1) (trodAll_cons_mk (Below.trod laidOut (by kernel_rfl) (of_decide_eq_true (by kernel_rfl)) k2 bel lt2) trodAll_mk0))), rfl, bel.frame _, fun h => by cases h⟩

theorem over : Rows.slotsOpensRow.holds Try.pinned (OpenSpec.ofChange Rows.slotsOpensSpec) :=
  OpenClaim.holds_of_wide 9 Try.f9 rfl rfl rfl rfl rfl rfl rfl ⟨rfl, rfl, rfl, rfl, rfl⟩ rfl rfl rfl rfl rfl (by kernel_rfl) Try.func9 (by kernel_rfl)
    (of_decide_eq_true (by kernel_rfl)) (by unfold Func.isWrapper; first | (rw [if_pos (by decide +kernel)]; kernel_rfl) | (rw [if_neg (by decide +kernel)]; exact ⟨rfl, rfl⟩))
    (fun os started H enc _ => lifted os started H enc)

theorem proved : Rows.SlotsOpensSaid := over
#print axioms proved
end Go.Proofs.Ytecjhaohabjkbaa.vSlotsOpens
