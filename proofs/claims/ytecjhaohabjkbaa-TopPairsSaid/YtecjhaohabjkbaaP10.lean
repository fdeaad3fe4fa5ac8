/-
  CONTRACTS: slots.Store: Load, Turn, Room, Open, Device, Fork.
-/
import Derived.Test.YtecjhaohabjkbaaP5
import Derived.Test.YtecjhaohabjkbaaP9
namespace Go.Proofs.Ytecjhaohabjkbaa
open Go.RowKit
set_option linter.unusedVariables false

/-- The store at block g: its device's block. -/
def St (w : World) (g bd : Nat) (l : List Sec) (pend : List Wr) (fp : List Nat) : Prop :=
  ∃ fd, Blk w g 87 #[.pointer (some ⟨bd, 0, none⟩), .int .i64 (halfOf l)] ∧ DRep w bd l (land l pend) pend fd ∧ g ∉ fd ∧ fp = g :: fd
section
variable {w w' : World} {g bd : Nat} {l : List Sec} {pend : List Wr} {fp fp' : List Nat}
theorem St.lt (h : St w g bd l pend fp) : ∀ k ∈ fp, k < w.heap.size := by
  obtain ⟨fd, hb, hd, hn, rfl⟩ := h
  intro k hk
  rcases List.mem_cons.1 hk with rfl | hk
  · exact hb.lt
  · exact hd.lt k hk
theorem St.keeps (h : St w g bd l pend fp) (hk : Keeps w w' fp') (hd : ∀ k ∈ fp, k ∉ fp') : St w' g bd l pend fp := by
  obtain ⟨fd, hb, hr, hn, rfl⟩ := h
  exact ⟨fd, hb.keeps hk (hd g (by simp)), hr.keeps hk (fun k hm => hd k (by simp [hm])), hn, rfl⟩
theorem St.nil (h : St w g bd l pend fp) (hk : Keeps w w' []) : St w' g bd l pend fp := h.keeps hk (by simp)
end
/-- the store has been turned since w (there its blocks were fp). -/
def SS (w : World) (fp : List Nat) (g bd : Nat) (l : List Sec) (pend : List Wr) (w' : World) : Prop :=
  ∃ fp', St w' g bd l pend fp' ∧ Keeps w w' fp ∧ ∀ k ∈ fp', k ∈ fp ∨ w.heap.size ≤ k
section
variable {w w' w'' : World} {fp : List Nat} {g bd : Nat} {l l' : List Sec} {pend pend' : List Wr}
theorem SS.start (h : St w g bd l pend fp) : SS w fp g bd l pend w := ⟨fp, h, Keeps.refl _ _, fun k hk => .inl hk⟩
theorem SS.nil (h : SS w fp g bd l pend w') (hk : Keeps w' w'' []) : SS w fp g bd l pend w'' := by
  obtain ⟨fp', h1, h2, h3⟩ := h
  exact ⟨fp', h1.nil hk, h2.trans hk (by simp), h3⟩
theorem SS.first {w0 : World} (hk : Keeps w0 w []) (h : SS w fp g bd l pend w') : SS w0 fp g bd l pend w' := by
  obtain ⟨fp', h1, h2, h3⟩ := h
  exact ⟨fp', h1, (hk.mono (fp1 := fp) (by simp)).trans h2 (fun _ _ h => h), fun k hm => by
    rcases h3 k hm with h | h
    · exact .inl h
    · right; have := hk.size; omega⟩
/-- the device is turned; its number of sectors stays. -/
theorem SS.dev (h : SS w fp g bd l pend w') : ∃ fd, DRep w' bd l (land l pend) pend fd ∧ (∀ k ∈ fd, k ∈ fp ∨ w.heap.size ≤ k) ∧ w'.cell? ⟨g, 0, none⟩ = some (.pointer (some ⟨bd, 0, none⟩)) ∧ w'.cell? ⟨g, 1, none⟩ = some (.int .i64 (halfOf l)) ∧
    ∀ (r : Value) (e : Ending) (w'' : World) (l' : List Sec) (pend' : List Wr), l'.length = l.length → DStep w' fd r bd l' (land l' pend') pend' e w'' → e = .returned r ∧ SS w fp g bd l' pend' w'' := by
  obtain ⟨fp', ⟨fd, hb, hr, hg, rfl⟩, h2, h3⟩ := h
  refine ⟨fd, hr, fun k hk => h3 k (by simp [hk]), hb.cell 0, hb.cell 1, fun r e w'' l' pend' hl ⟨f, he, hr', hk, hn⟩ => ⟨he, g :: f, ⟨f, ?_, hr', ?_, rfl⟩, h2.trans hk (fun i hi hm => ?_), fun k hk => ?_⟩⟩
  · have := hb.keeps hk hg
    unfold halfOf at this ⊢
    rw [hl]; exact this
  · intro hm
    rcases hn g hm with h | h
    · exact hg h
    · have := hb.lt; omega
  · rcases h3 i (by simp [hm]) with h | h
    · exact h
    · omega
  · rcases List.mem_cons.1 hk with rfl | hk
    · exact h3 k (by simp)
    · rcases hn k hk with h | h
      · exact h3 k (by simp [h])
      · right; have := h2.size; omega
end

theorem slot_field1 (w : World) (a : Int) (A : Option Addr) (n c : Nat) (u : Int) : (Instr.field 98 (.agg #[.int .i64 a, .slice A n c, .int .u64 u]) 1).run Try.prog w = .ok (.slice A n c) w := by kernel_rfl
theorem slot_field2 (w : World) (a : Int) (A : Option Addr) (n c : Nat) (u : Int) : (Instr.field 98 (.agg #[.int .i64 a, .slice A n c, .int .u64 u]) 2).run Try.prog w = .ok (.int .u64 u) w := by kernel_rfl

section
variable (g bd : Nat) (l : List Sec) (pend : List Wr) (fp : List Nat) (w : World)
theorem fit_two {c : Nat} (hf : Fit c l pend) : 2 + 2 * halfOf l ≤ (land l pend).length := by
  rw [land_length]
  have := hf.four
  unfold halfOf; omega
theorem sbest (fd : List Nat) (hd : DRep w bd l (land l pend) pend fd) (hf : Fit 100000 l pend) :
    Calls Try.prog 51 #[.agg #[.pointer (some ⟨bd, 0, none⟩), .int .i64 (halfOf l)]] w (BestLeft w (halfOf l) (land l pend)) :=
  best_calls bd l (land l pend) pend fd w (halfOf l) hd (by rw [land_length]; exact hf.len) hf.now (fit_two l pend hf)
set_option maxRecDepth 100000 in
theorem load_calls (hs : St w g bd l pend fp) (hf : Fit 100000 l pend) :
    Calls Try.prog 20 #[.pointer (some ⟨g, 0, none⟩)] w (LoadLeft w (bestM (halfOf l) (land l pend)).2.1) := by
  obtain ⟨fd, hb, hd, -, -⟩ := hs
  have c0 : w.cell? ⟨g, 0, none⟩ = some (.pointer (some ⟨bd, 0, none⟩)) := hb.cell 0
  have c1 : w.cell? ⟨g, 1, none⟩ = some (.int .i64 (halfOf l)) := hb.cell 1
  have H := Lib.hid (sbest bd l pend w fd hd hf)
  have hf1 := slot_field1
  have hf2 := slot_field2
  clear hb hd hf
  go_enter Try.func20, Try.ntmps20
  go_wp2_with fail
  refine Calls.mono H.out ?_
  rintro e w1 ⟨a, A, c, fr, rfl, hr, hf, hk, ha, hc⟩
  have HK := Lib.hid (And.intro hr (And.intro hf hk))
  clear hr hf hk hc ha
  go_wp2_with fail
  go_ret
  exact ⟨A, c, fr, rfl, HK.out.1, HK.out.2.1, HK.out.2.2⟩
set_option maxRecDepth 100000 in
theorem turn_calls (hs : St w g bd l pend fp) (hf : Fit 100000 l pend) :
    Calls Try.prog 21 #[.pointer (some ⟨g, 0, none⟩)] w fun e w' => e = .returned (.int .u64 (bestM (halfOf l) (land l pend)).2.2) ∧ Keeps w w' [] := by
  obtain ⟨fd, hb, hd, -, -⟩ := hs
  have c0 : w.cell? ⟨g, 0, none⟩ = some (.pointer (some ⟨bd, 0, none⟩)) := hb.cell 0
  have c1 : w.cell? ⟨g, 1, none⟩ = some (.int .i64 (halfOf l)) := hb.cell 1
  have H := Lib.hid (sbest bd l pend w fd hd hf)
  have hf1 := slot_field1
  have hf2 := slot_field2
  clear hb hd hf
  go_enter Try.func21, Try.ntmps21
  go_wp2_with fail
  refine Calls.mono H.out ?_
  rintro e w1 ⟨a, A, c, fr, rfl, hr, hf, hk, ha, hc⟩
  have HK := Lib.hid (And.intro hr (And.intro hf hk))
  clear hr hf hk hc ha
  go_wp2_with fail
  go_ret
  exact ⟨rfl, HK.out.2.2⟩
theorem room_calls (hs : St w g bd l pend fp) (hf : Fit 100000 l pend) :
    Calls Try.prog 27 #[.pointer (some ⟨g, 0, none⟩)] w fun e w' => e = .returned (.int .i64 (halfOf l * 64 : Nat)) ∧ w = w' := by
  obtain ⟨fd, hb, hd, -, -⟩ := hs
  obtain ⟨h, hh⟩ : ∃ h, h = halfOf l := ⟨_, rfl⟩
  have hl : h ≤ 2047 := by have := hf.len; rw [hh]; unfold halfOf; omega
  have c1 : w.cell? ⟨g, 1, none⟩ = some (.int .i64 h) := by rw [hh]; exact hb.cell 1
  rw [← hh]
  clear hb hd hf hh
  go_enter Try.func27, Try.ntmps27
  go_wp2_with fail
  go_ret
  exact ⟨by simp, rfl⟩
theorem device_ok (hs : St w g bd l pend fp) (hf : Fit 100000 l pend) :
    Calls Try.prog 18 #[.pointer (some ⟨g, 0, none⟩)] w (DForked w l (land l pend) pend) := by
  obtain ⟨fd, hb, hd, hg, rfl⟩ := hs
  have c0 : w.cell? ⟨g, 0, none⟩ = some (.pointer (some ⟨bd, 0, none⟩)) := hb.cell 0
  have H := Lib.hid (fork_ok bd l (land l pend) pend fd w hd hf.len (by rw [land_length]; exact hf.len) hf.few)
  clear hb hd hg hf
  go_enter Try.func18, Try.ntmps18
  go_wp2_with fail
  refine Calls.mono H.out ?_
  rintro e w1 ⟨b1, f1, rfl, h1⟩
  have H1 := Lib.hid h1
  clear h1
  go_wp2_with fail
  go_ret
  exact ⟨b1, f1, rfl, H1.out⟩
/-- what Open or Fork leaves: a store on a new device that holds the same. -/
def Opened (w : World) (l : List Sec) (pend : List Wr) (e : Ending) (w' : World) : Prop :=
  ∃ g bd fp, e = .returned (.pointer (some ⟨g, 0, none⟩)) ∧ St w' g bd l pend fp ∧ Keeps w w' [] ∧ ∀ k ∈ fp, w.heap.size ≤ k
theorem opened_mk {w w1 : World} {l : List Sec} {pend : List Wr} {b1 : Nat} {f1 : List Nat} (hr1 : DRep w1 b1 l (land l pend) pend f1) (hk1 : Keeps w w1 []) (hn1 : ∀ k ∈ f1, w.heap.size ≤ k) :
    Opened w l pend (.returned (.pointer (some ⟨w1.heap.size, 0, none⟩))) (w1.alloc (.cells #[.pointer (some ⟨b1, 0, none⟩), .int .i64 (halfOf l)] 87)) := by
  refine ⟨w1.heap.size, b1, w1.heap.size :: f1, rfl, ⟨f1, Blk.new w1 _ _, hr1.nil ((Keeps.refl w1 []).alloc _), fun hm => by have := hr1.lt _ hm; omega, rfl⟩, hk1.alloc _, fun k hk => ?_⟩
  rcases List.mem_cons.1 hk with rfl | hk
  · exact hk1.size
  · exact hn1 k hk
set_option maxHeartbeats 800000 in set_option maxRecDepth 100000 in
set_option maxRecDepth 100000 in
theorem open_ok (fd : List Nat) (hd : DRep w bd l (land l pend) pend fd) (hf : Fit 100000 l pend) :
    Calls Try.prog 15 #[.pointer (some ⟨bd, 0, none⟩)] w (Opened w l pend) := by
  have hsz := size_calls bd l (land l pend) pend fd w hd
  rw [land_length] at hsz
  have hfk := fork_ok bd l (land l pend) pend fd w hd hf.len (by rw [land_length]; exact hf.len) hf.few
  have hsz2 := fun (w' : World) (hk : Keeps w w' []) => size_calls bd l (land l pend) pend fd w' (hd.nil hk)
  simp only [land_length] at hsz2
  obtain ⟨L, hL⟩ : ∃ L, L = l.length := ⟨_, rfl⟩
  rw [← hL] at hsz
  simp only [← hL] at hsz2
  have h4 : (4 : Int) ≤ (L : Int) := by have := hf.four; omega
  have hLl : L ≤ 4096 := by have := hf.len; omega
  have H := Lib.hid (And.intro hsz (And.intro hfk (And.intro hsz2 hL)))
  clear hd hf hsz hfk hsz2 hL
  go_enter Try.func15, Try.ntmps15
  go_wp2_with fail
  refine Calls.mono H.out.1 ?_
  rintro e w1 ⟨rfl, rfl⟩
  go_wp2_with fail
  refine Calls.mono H.out.2.1 ?_
  rintro e w1 ⟨b1, f1, rfl, hr1, hk1, hn1⟩
  have H1 := Lib.hid (And.intro hr1 (And.intro hk1 hn1))
  clear hr1 hk1 hn1
  go_wp2_with fail
  refine Calls.mono (H.out.2.2.1 w1 H1.out.2.1) ?_
  rintro e w2 ⟨rfl, rfl⟩
  have hd2 : (L : Int) / 2 - 1 = (halfOf l : Nat) := by unfold halfOf; have := H.out.2.2.2; omega
  have HD := Lib.hid hd2
  clear hd2
  go_wp2_with fail
  go_ret
  have := opened_mk H1.out.1 H1.out.2.1 H1.out.2.2
  rw [← HD.out] at this
  exact this
end

end Go.Proofs.Ytecjhaohabjkbaa
