/-
  CONTRACTS: slices.Clone of sectors and of writes; those; Crash of the device.
-/
import Derived.Test.YtecjhaohabjkbaaD3
import Derived.Test.YtecjhaohabjkbaaCalm
namespace Go.Proofs.Ytecjhaohabjkbaa
open Go.RowKit
set_option linter.unusedVariables false
attribute [local go_sem] Oper.semAt_some


/-- what a call that makes a new row leaves. -/
def NewSec (w : World) (l : List Sec) (e : Ending) (w' : World) : Prop :=
  ∃ v fv, e = .returned v ∧ Own w' 31 64 v l.length (secs l) fv ∧ Keeps w w' [] ∧ ∀ k ∈ fv, w.heap.size ≤ k

set_option maxHeartbeats 400000 in set_option maxRecDepth 100000 in
theorem clone_Sec (A : Option Addr) (c : Nat) (l : List Sec) (fp : List Nat) (w : World) (hr : Reads w 64 A l.length (secs l) fp) (hn : l.length ≤ 100000) :
    Calls Try.prog 65 #[.slice A l.length c] w (NewSec w l) := by
  obtain ⟨i0, hi, hz0, hz1, hz2⟩ := info_parts info_sec
  have heq := fun (w : World) (a : Option Addr) (n c : Nat) => Lib.run_eql_slice_nil (P := Try.prog) w 88 31 a n c 0 0 Try.underlying88
  cases A with
  | none =>
    obtain rfl : l = [] := by
      rcases hr.2 with ⟨h, _⟩ | ⟨ad, h, _⟩
      · exact List.eq_nil_of_length_eq_zero h
      · cases h
    go_enter Try.func65, Try.ntmps65
    go_wp2_with fail
    go_ret
    exact ⟨_, [], rfl, Own.bare _ _ _ _, Keeps.refl _ _, by simp⟩
  | some ad =>
    go_enter Try.func65, Try.ntmps65
    go_wp2_with (at_builtin; refine wpList_append_mine _ rfl (.tmp 5) (.tmp 6) _ _ rfl 31 i0 _ 64 64 Try.underlying88 hi hz0 hz1 hz2 rfl _ 0 [] [] rfl (Own.bare _ _ _ _) _ l.length (secs l) rfl ?src ?c1 ?c2 ?next)
    case src => exact (hr.to (by simp) (fun k hk => Below.heap_alloc _ _ _ (hr.lt k hk))).src Try.underlying88 (secs_one l) c
    case c1 => unfold maxLen; omega
    case c2 => omega
    case next =>
      intro v w1 fv hown hkeep hfv
      go_wp2_with fail
      go_ret
      refine ⟨_, fv, rfl, by simpa using hown, ((Keeps.refl w []).alloc _).trans hkeep (by simp), fun k hk => ?_⟩
      have := hfv k hk
      omega

/-- what a call that makes a new row leaves. -/
def NewWr (w : World) (l : List Wr) (e : Ending) (w' : World) : Prop :=
  ∃ v fv, e = .returned v ∧ Own w' 96 65 v l.length (wrs l) fv ∧ Keeps w w' [] ∧ ∀ k ∈ fv, w.heap.size ≤ k

set_option maxHeartbeats 400000 in set_option maxRecDepth 100000 in
theorem clone_Wr (A : Option Addr) (c : Nat) (l : List Wr) (fp : List Nat) (w : World) (hr : Reads w 65 A l.length (wrs l) fp) (hn : l.length ≤ 100000) :
    Calls Try.prog 66 #[.slice A l.length c] w (NewWr w l) := by
  obtain ⟨i0, hi, hz0, hz1, hz2⟩ := info_parts info_wr
  have heq := fun (w : World) (a : Option Addr) (n c : Nat) => Lib.run_eql_slice_nil (P := Try.prog) w 89 96 a n c 0 0 Try.underlying89
  cases A with
  | none =>
    obtain rfl : l = [] := by
      rcases hr.2 with ⟨h, _⟩ | ⟨ad, h, _⟩
      · exact List.eq_nil_of_length_eq_zero h
      · cases h
    go_enter Try.func66, Try.ntmps66
    go_wp2_with fail
    go_ret
    exact ⟨_, [], rfl, Own.bare _ _ _ _, Keeps.refl _ _, by simp⟩
  | some ad =>
    go_enter Try.func66, Try.ntmps66
    go_wp2_with (at_builtin; refine wpList_append_mine _ rfl (.tmp 5) (.tmp 6) _ _ rfl 96 i0 _ 65 72 Try.underlying89 hi hz0 hz1 hz2 rfl _ 0 [] [] rfl (Own.bare _ _ _ _) _ l.length (wrs l) rfl ?src ?c1 ?c2 ?next)
    case src => exact (hr.to (by simp) (fun k hk => Below.heap_alloc _ _ _ (hr.lt k hk))).src Try.underlying89 (wrs_one l) c
    case c1 => unfold maxLen; omega
    case c2 => omega
    case next =>
      intro v w1 fv hown hkeep hfv
      go_wp2_with fail
      go_ret
      refine ⟨_, fv, rfl, by simpa using hown, ((Keeps.refl w []).alloc _).trans hkeep (by simp), fun k hk => ?_⟩
      have := hfv k hk
      omega

theorem those_calls (b : Nat) (S : Option Addr) (m c : Nat) (w : World) : Calls Try.prog 70 #[.pointer (some ⟨b, 0, none⟩), .slice S m c] w fun e w' =>
    e = .returned (.func (.func 83) #[] #[.pointer (some ⟨w.heap.size, 0, none⟩), .pointer (some ⟨w.heap.size + 1, 0, none⟩)]) ∧
      (w.alloc (.cells #[.pointer (some ⟨b, 0, none⟩)] 25)).alloc (.cells #[.slice S m c] 48) = w' := by
  go_enter Try.func70, Try.ntmps70
  go_wp2_with fail
  go_ret
  exact ⟨rfl, rfl⟩

theorem those_stops (L : Nat) (bd bs b : Nat) (vL vN : Value) (A S : Option Addr) (cA cS : Nat) (loose : List Wr) (sv : List Bool) (fL fW fS : List Nat) (n₀ : Nat) (hlen : loose.length ≤ 100000) (hsl : sv.length ≤ maxLen) (hin : ∀ x ∈ loose, x.i < L) (w : World)
    (hbd : Blk w bd 25 #[.pointer (some ⟨b, 0, none⟩)]) (hbs : Blk w bs 48 #[.slice S sv.length cS]) (hb : Blk w b 91 #[vL, vN, .slice A loose.length cA])
    (hW : Own w 96 65 (.slice A loose.length cA) loose.length (wrs loose) fW) (hS : Reads w 1 S sv.length (bools sv) fS)
    (hl : bd < n₀ ∧ bs < n₀ ∧ b < n₀ ∧ (∀ k ∈ fW, k < n₀) ∧ ∀ k ∈ fS, k < n₀) (hd : bd ∉ fL ∧ bs ∉ fL ∧ b ∉ fL ∧ (∀ k ∈ fW, k ∉ fL) ∧ ∀ k ∈ fS, k ∉ fL) (hn : n₀ ≤ w.heap.size) :
    SeqStopsK Fence.wide 3 Try.prog 83 #[.pointer (some ⟨bd, 0, none⟩), .pointer (some ⟨bs, 0, none⟩)] (fun x : {x : Wr // x.i < L} => #[.agg x.1.cells.toArray]) (Low n₀ fL)
      (fun xs => xs.map (·.1) = surv loose sv) (fun _ => True) loose.length w := fun l J Jx W hB hJ hJx hY h0 => by
  have hk := Keeps.ofBelow hB []
  refine (those1_in l bd bs b vL vN A S cA cS loose sv fL fW fS n₀ hlen hsl (fun pre W => ∃ pre', pre'.map (·.1) = pre ∧ J pre' W) (fun pre W => ∃ pre', Jx pre' W) W ?_ ?_ (hbd.keeps hk (by simp)) (hbs.keeps hk (by simp)) (hb.keeps hk (by simp)) (hW.keeps hk (by simp)) (hS.keeps hk (by simp)) hl hd (Nat.le_trans hn hB.size) ⟨[], rfl, h0⟩).mono ?_
  · rintro pre x W1 hx ⟨pre', rfl, hj⟩ hlt
    obtain ⟨fn, tmps, assign, body, hy, hR⟩ := hY pre' ⟨x, hin x hx⟩ W1 hj (by simpa using hlt)
    refine ⟨fn, tmps, assign, body, hy, hR.mono ?_⟩
    rintro e W' (⟨rfl, h1, h2⟩ | ⟨rfl, h1⟩)
    · exact .inl ⟨rfl, ⟨_, by simp, h1⟩, h2⟩
    · exact .inr ⟨rfl, _, h1⟩
  · rintro s A B row ⟨p', rfl, hj⟩ hg hr
    exact ⟨p', rfl, hJ _ _ _ _ hj hg hr⟩
  · rintro e W' ⟨he, ⟨ys, rfl, p', hp, hj⟩ | ⟨pre, p', hj⟩⟩
    · exact ⟨he, .inl ⟨p', hp, hj⟩⟩
    · exact ⟨he, .inr ⟨p', trivial, hj⟩⟩

/-- writes, one behind the other. -/
def land (l : List Sec) (ws : List Wr) : List Sec := ws.foldl (fun l x => l.set x.i x.s) l
theorem land_length (ws : List Wr) : ∀ l, (land l ws).length = l.length := by
  induction ws with
  | nil => intro l; rfl
  | cons x r ih => intro l; exact (ih _).trans (by simp)
theorem land_snoc (l : List Sec) (ws : List Wr) (x : Wr) : land l (ws ++ [x]) = (land l ws).set x.i x.s := by simp [land]

theorem OwnFrom.lows {β : Type} (n : Nat) (fL : List Nat) (w0 : World) (e : TypeId) (size m : Nat) (v : Value) (xs : β → List Value) (hf : ∀ k ∈ fL, k < n) (hn0 : n ≤ w0.heap.size) :
    OwnFrom n (fun s W => Low n fL w0 W ∧ Own W e size v m (xs s) fL) := by
  rintro s W W' row ⟨h1, h2⟩ hg hr
  have hb : ∀ k, k < n → k < W.heap.size → W'.heap[k]? = W.heap[k]? := fun k hk hk2 => hg.block k hk2 (fun e => by have := (hr k e.symm).1; omega)
  refine ⟨⟨hg.os.trans h1.os, hg.tape.trans h1.tape, hg.output.trans h1.output, Nat.le_trans h1.size hg.size, fun k hk hn => ?_⟩, h2.to fun k hk => hb k (hf k hk) (h2.lt k hk)⟩
  by_cases h3 : k < W.heap.size
  · exact (hb k hk h3).trans (h1.block k hk hn)
  · by_cases h4 : k < w0.heap.size
    · have := h1.size; omega
    · omega

theorem keepsOthers_setCells (b : Nat) : ∀ (vs : List Value) (o : Nat) (w : World), KeepsOthers w (w.setCells b o vs)
  | [], _, w => KeepsOthers.refl w
  | v :: r, o, w => by rw [World.setCells]; exact (KeepsOthers.setCell _ _ _).trans (keepsOthers_setCells b r _ _)

set_option maxRecDepth 100000 in
set_option maxHeartbeats 2000000 in set_option maxRecDepth 100000 in
theorem crash_ok (S : Option Addr) (cS : Nat) (sv : List Bool) (fS : List Nat) (b : Nat) (last now : List Sec) (loose : List Wr) (fp : List Nat) (w : World) (hd : DRep w b last now loose fp) (hS : Reads w 1 S sv.length (bools sv) fS) (hsl : sv.length ≤ maxLen) (hdis : ∀ k ∈ fS, k ∉ fp)
    (hll : last.length ≤ 4096) (hlen : loose.length ≤ 100000) (hin : ∀ x ∈ loose, x.i < last.length) :
    Calls Try.prog 52 #[.pointer (some ⟨b, 0, none⟩), .slice S sv.length cS] w (DStep w fp (.int .i64 0) b (land last (surv loose sv)) (land last (surv loose sv)) []) := by
  obtain ⟨vL, vN, vW, fL, fN, fW, hb, hL, hN, hW, ha, rfl⟩ := hd
  obtain ⟨A, cA, rfl, -, -⟩ := hW.form
  refine (callsIn_wide (n := 4)).1 ?_
  refine callsIn_of_wp_marks Try.func52 rfl trivial ?_ rfl
  simp only [Try.ntmps52, List.size_toArray, List.length_cons, List.length_nil, Nat.reduceAdd, Nat.reduceSub, Array.replicate_succ, Array.replicate_zero, List.push_toArray, List.append_toArray, List.nil_append, List.cons_append]
  refine wpIn_wide.2 ?_
  go_wp2_with fail
  refine (those_calls b S sv.length cS _).mono ?_
  rintro e w1 ⟨rfl, rfl⟩
  go_wp2_with fail
  obtain ⟨w0, hw0⟩ : ∃ w0, w0 = ((w.alloc (.cells #[.pointer (some ⟨b, 0, none⟩)] 25)).alloc (.cells #[.pointer (some ⟨b, 0, none⟩)] 25)).alloc (.cells #[.slice S sv.length cS] 48) := ⟨_, rfl⟩
  have hk0 : Keeps w w0 [] := by subst hw0; exact (((Keeps.refl w []).alloc _).alloc _).alloc _
  have hs0 : w0.heap.size = w.heap.size + 3 := by subst hw0; simp
  have hbd0 : Blk w0 w.heap.size 25 #[.pointer (some ⟨b, 0, none⟩)] := by subst hw0; exact ((Blk.new w _ _).alloc _).alloc _
  have hbd : Blk w0 (w.heap.size + 1) 25 #[.pointer (some ⟨b, 0, none⟩)] := by subst hw0; exact (Blk.new' (w.alloc _) (by simp) _ _).alloc _
  have hbs : Blk w0 (w.heap.size + 1 + 1) 48 #[.slice S sv.length cS] := by subst hw0; exact Blk.new' ((w.alloc _).alloc _) (by simp) _ _
  have hin0 : ((w.alloc (.cells #[.pointer (some ⟨b, 0, none⟩)] 25)).alloc (.cells #[.pointer (some ⟨b, 0, none⟩)] 25)).alloc (.cells #[.slice S sv.length cS] 48) = w0 := hw0.symm
  rw [hin0]
  clear hin0 hw0
  have hb0 := hb.keeps hk0 (by simp)
  have hL0 := hL.keeps hk0 (by simp)
  have hN0 := hN.keeps hk0 (by simp)
  have hW0 := hW.keeps hk0 (by simp)
  have hS0 := hS.keeps hk0 (by simp)
  have hlt1 : ∀ k ∈ fL, k < w.heap.size := hL.lt
  have hlt2 : ∀ k ∈ fW, k < w.heap.size := hW.lt
  have hlt3 : ∀ k ∈ fS, k < w.heap.size := hS.lt
  have hblt := hb.lt
  have hst := those_stops last.length (w.heap.size + 1) (w.heap.size + 1 + 1) b vL vN A S cA cS loose sv fL fW fS w0.heap.size hlen hsl hin w0 hbd hbs hb0 hW0 hS0
    ⟨by omega, by omega, by omega, fun k hk => by have := hlt2 k hk; omega, fun k hk => by have := hlt3 k hk; omega⟩
    ⟨fun h => by have := hlt1 _ h; omega, fun h => by have := hlt1 _ h; omega, ha.bL, fun k hk h => ha.LW k h hk, fun k hk h => hdis k hk (by simp [h])⟩ (Nat.le_refl _)
  refine (wpIn_wide (n := 4)).1 ?_
  refine wpIn_rangeFunc_ownH (F := Fence.wide) (n := 4) rfl (by omega) (gf := 83) (lb := #[.pointer (some ⟨w.heap.size + 1, 0, none⟩), .pointer (some ⟨w.heap.size + 1 + 1, 0, none⟩)]) rfl trivial (enters_of Try.func83 (by kernel_rfl) rfl)
    hst (fun h k => h.trans k) (fun W l o o' hl ho _ _ => Low.putObj W l o o' hl ho) (Below.refl _ _) (fun _ => rfl)
    (fun pre W => Low w0.heap.size fL w0 W ∧ Own W 31 64 vL last.length (secs (land last (pre.map (·.1)))) fL)
    (fun _ _ _ => False)
    (OwnFrom.lows w0.heap.size fL w0 _ _ _ _ _ (fun k hk => by have := hlt1 k hk; omega) (Nat.le_refl _))
    (fun _ _ _ _ _ hs _ _ => hs)
    ⟨Low.refl _ _ _, hL0⟩
    (fun x a' W => ∃ Bx, w0.heap.size ≤ Bx ∧ Blk W Bx 96 x.1.cells.toArray ∧ a' = { tmps := #[.pointer (some ⟨b, 0, none⟩), .slice S sv.length cS, .pointer (some ⟨w.heap.size, 0, none⟩), undef, .int .i64 0, .pointer (some ⟨Bx, 0, none⟩), .pointer (some ⟨b, 0, none⟩), .bool false, .pointer (some ⟨b, 0, none⟩), .slice S sv.length cS, .func (.func 83) #[] #[.pointer (some ⟨w.heap.size + 1, 0, none⟩), .pointer (some ⟨w.heap.size + 1 + 1, 0, none⟩)], .agg x.1.cells.toArray, undef, undef, undef, undef, undef, undef, undef, undef, undef, undef, undef, undef, undef, undef, undef, undef, undef, undef, undef, undef], defers := [] })
    ?hAx ?assign ?body ?done ?stop
  case hAx =>
    rintro x a' s W W' row ⟨Bx, h1, h2, h3⟩ hg hr
    exact ⟨Bx, h1, h2.to (hg.block Bx h2.lt (fun e => by
      obtain ⟨-, o, ho, hc⟩ := hr Bx e.symm
      have h4 : W.heap[Bx]? = some (.cells x.1.cells.toArray 96) := h2
      rw [h4] at ho
      cases ho
      cases hc)), h3⟩
  case stop =>
    rintro D c pre W _ _ h _
    exact h.elim
  case assign =>
    intro l pre x W K hI hK
    have hnz : Blk (W.alloc (.cells Wr.zero.cells.toArray 96)) W.heap.size 96 Wr.zero.cells.toArray := Blk.new _ _ _
    have hmay : MayRow (W.alloc (.cells Wr.zero.cells.toArray 96)) (.pointer (some ⟨W.heap.size, 0, none⟩)) 65 := may_of_there (hnz.there_ 0 65 (by simp [Wr.cells_length]))
    gi_wp2
    have hkp : Keeps W ((W.alloc (.cells Wr.zero.cells.toArray 96)).setCells W.heap.size 0 x.val.cells) [] := ((Keeps.refl W []).alloc _).setCells (.inr (Nat.le_refl _)) _ _
    have hlw : Low w0.heap.size fL W _ := Low.ofKeeps (hkp.mono (by simp)) hI.1.size
    have hbx := hnz.setCells x.val.cells 0 _ _ (by simp [Wr.cells_length])
    refine hK _ _ (((KeepsOthers.alloc _ _).trans (keepsOthers_setCells _ _ _ _)).from _) hlw ⟨hI.1.trans hlw, hI.2.keeps hkp (by simp)⟩ ⟨W.heap.size, hI.1.size, ?_, rfl⟩
    rwa [show (Wr.zero.cells.toArray.toList.take 0 ++ x.val.cells ++ Wr.zero.cells.toArray.toList.drop (0 + x.val.cells.length)).toArray = x.val.cells.toArray by simp [Wr.cells_length]] at hbx
  case body =>
    rintro l pre x a' W hl ⟨r, hr⟩ ⟨hLow, hOwn⟩ ⟨Bx, hBx, hblk, rfl⟩ hlt
    have hxi := x.2
    obtain ⟨y, hy⟩ : ∃ y, (land last (pre.map (·.1)))[x.1.i]? = some y := ⟨_, List.getElem?_eq_getElem (by rw [land_length]; exact hxi)⟩
    have hOwn' : Own W 31 64 vL (land last (pre.map (·.1))).length ((land last (pre.map (·.1))).flatMap Sec.cells) fL := by rw [land_length]; exact hOwn
    obtain ⟨g, c, rfl, rfl, hcap, hrg, htg⟩ := hOwn'.range Sec.cells 64 Sec.cells_length hy
    have hbdW := (hLow.blk hbd0 (by omega) (fun h => by have := hlt1 _ h; omega)).drew
    have hbW := (hLow.blk hb0 (by omega) ha.bL).drew
    have z1 : W.drew.cell? ⟨w.heap.size, 0, none⟩ = some (.pointer (some ⟨b, 0, none⟩)) := hbdW.cell 0
    have z2 : W.drew.cell? ⟨b, 0, none⟩ = some (.slice (some ⟨g, 0, none⟩) (land last (pre.map (·.1))).length c) := hbW.cell 0
    have z3 : W.drew.cell? ⟨Bx, 0, none⟩ = some (.int .i64 x.1.i) := hblk.drew.cell 0
    have hrx : W.drew.rangeAt Bx 1 x.1.s.cells := hblk.drew.range 1 _ fun j u hu => by
      rw [List.getElem?_toArray, Wr.cells, show 1 + j = j + 1 by omega, List.getElem?_cons_succ]; exact hu
    obtain ⟨q1, q2⟩ := row_of_range hrx x.1.s.cells_length
    have q3 : MayRow W.drew (.pointer (some ⟨g, x.1.i * 64, none⟩)) 64 := may_of_there (there_drew htg)
    rw [land_length] at z2
    have y1 : (0 : Int) ≤ (x.1.i : Int) := by omega
    have y2 : (x.1.i : Int) < (last.length : Int) := by omega
    have HB := Lib.hid (And.intro hLow (And.intro hOwn' hr))
    clear hLow hOwn hOwn' hr hrg htg hbdW hbW hrx hblk hb hL hN hW hbd0 hbd hbs hb0 hL0 hN0 hW0 hS0 hst ha hS hlt1 hlt2 hlt3
    refine wpIn_block ?_
    refine wpIn_calm_tail 9 (by kernel_rfl) (by kernel_rfl) (by kernel_rfl) (fun ⟨_, _, h⟩ => h) ?_
    simp only [List.take_succ_cons, List.take_zero, List.drop_succ_cons, List.drop_zero]
    repeat still_step
    refine wpStill_nil ?_
    go_wp2_with fail
    obtain ⟨hLow, hOwn', hr⟩ := HB.out
    have hkp : Keeps W (W.drew.setCells g (x.val.i * 64) x.val.s.cells) [g] := ((Keeps.refl W [g]).drew).setCells (.inl (by simp)) _ _
    have hszW := hLow.size
    have hlw : Low (w.heap.size + 3) [g] W (W.drew.setCells g (x.val.i * 64) x.val.s.cells) := Low.ofKeeps hkp (by omega)
    rw [hs0] at hLow
    refine ⟨((KeepsOthers.drew W).trans (keepsOthers_setCells _ _ _ _)).from _, hlw, hLow.trans hlw, ?_⟩
    have hset := (hOwn'.keeps ((Keeps.refl W []).drew) (by simp)).setRange Sec.cells 64 Sec.cells_length (i := x.1.i) (by rw [land_length]; exact hxi) x.1.s rfl
    rw [← land_snoc, land_length] at hset
    have e1 : land last ((pre ++ [x]).map (·.1)) = land last (pre.map (·.1) ++ [x.1]) := by simp
    show Own _ _ _ _ _ (secs (land last ((pre ++ [x]).map (·.1)))) _
    rw [e1]
    simpa [secs, land_length] using hset
  case done =>
    rintro D xs W hD hsx ⟨hLow, hOwn⟩ hK
    have hlen9 : (land last (surv loose sv)).length = last.length := land_length _ _
    rw [hsx] at hOwn
    obtain ⟨AL, cL, rfl, hcL, frL, hrL, hfrL⟩ := hOwn.form
    have hbdW := hLow.blk hbd0 (by omega) (fun h => by have := hlt1 _ h; omega)
    have hbW := hLow.blk hb0 (by omega) ha.bL
    have hNW := hLow.own hN0 (fun k hk => by have := hN.lt k hk; omega) (fun k hk h => ha.LN k h hk)
    have z1 : W.cell? ⟨w.heap.size, 0, none⟩ = some (.pointer (some ⟨b, 0, none⟩)) := hbdW.cell 0
    have z2 : W.cell? ⟨b, 0, none⟩ = some (.slice AL last.length cL) := hbW.cell 0
    have z4 := hbW.frozen 1
    have z5 := hbW.frozen 2
    obtain ⟨ln, hln⟩ : ∃ ln, ln = land last (surv loose sv) := ⟨_, rfl⟩
    rw [← hln] at hOwn hrL hlen9 ⊢
    have HC := Lib.hid (clone_Sec AL cL ln frL W.drew (by rw [hlen9]; exact hrL.drew) (by omega))
    rw [hlen9] at HC
    have HW := Lib.hid (And.intro hbW (And.intro hbdW (And.intro hOwn (And.intro hLow (And.intro hK hD)))))
    clear hLow hOwn hK hD hbdW hbW hNW hrL hcL hst
    go_wp2_with fail
    go_region_held3 (fun w' => w'.cell? ⟨w.heap.size, 0, none⟩ = some (.pointer (some ⟨b, 0, none⟩)) ∧ w'.cell? ⟨b, 0, none⟩ = some (.slice AL last.length cL) ∧ w'.frozen? ⟨b, 1, none⟩ = false ∧ w'.frozen? ⟨b, 2, none⟩ = false) ((first | (go_keep; done) | (go_split_ands; and_intros <;> first
          | assumption
          | (rw [World.frozen?_setCell]; assumption)
          | (rw [World.cell?_setCell_other _ _ _ _ (by first | (simp; done) | (simp; omega))]; assumption)
          | (simp [*]; done))))
      ((go_at_call 65
        refine HC.out.mono ?_
        rintro e w3 ⟨v, fv, rfl, hown3, hkp3, hfv3⟩
        obtain ⟨A3, n3, rfl, -, -⟩ := hown3.form
        have hb3 := HW.out.1.drew.keeps hkp3 (by simp)
        have y0 : w3.cell? ⟨w.heap.size, 0, none⟩ = some (.pointer (some ⟨b, 0, none⟩)) := (HW.out.2.1.drew.keeps hkp3 (by simp)).cell 0
        have y1 : w3.cell? ⟨b, 0, none⟩ = some (.slice AL last.length cL) := hb3.cell 0
        have y2 : w3.cell? ⟨b, 1, none⟩ = some vN := hb3.cell 1
        have y3 : w3.cell? ⟨b, 2, none⟩ = some (.slice A loose.length cA) := hb3.cell 2
        have y4 := hb3.frozen 1
        have y5 := hb3.frozen 2))
    all_goals
      go_wp2_with fail
      subst hln
      obtain ⟨hbW, hbdW, hOwn, hLow, hK, hD⟩ := HW.out
      have hszW := hLow.size
      have hDW : D < W.heap.size := (Array.getElem?_eq_some_iff.1 hK).1
      have hDb : D ≠ b := by omega
      have hkW3 : Keeps W w3 [] := hkp3.ofDrew
      have hK9 : ∀ u1 u2, ((w3.setCell ⟨b, 1, none⟩ u1).setCell ⟨b, 2, none⟩ u2).heap[D]? = some (.deferred (some [])) := fun u1 u2 =>
        (Below.heap_setCell _ _ _ _ hDb).trans ((Below.heap_setCell _ _ _ _ hDb).trans ((hkW3.block D hDW (by simp)).trans hK))
      refine ⟨by simp, .inl ⟨_, _, rfl, run_takeDeferred (hK9 _ _), ?_⟩⟩
      refine ⟨_, results_tmp rfl _ _ _, ?_⟩
      have hkW : Keeps w W (b :: (fL ++ fv)) := by
        refine ⟨hLow.os.trans hk0.os, hLow.tape.trans hk0.tape, hLow.output.trans hk0.output, by omega, fun k hk hn => ?_⟩
        exact (hLow.block k (by omega) (fun h => hn (by simp [h]))).trans (hk0.block k hk (by simp))
      have hfv4 : ∀ k ∈ fv, W.heap.size ≤ k := hfv3
      have hbfv : b ∉ fv := fun h => by have := hfv4 b h; omega
      have hkF := ((hkW.mono (fp1 := b :: (fL ++ (fN ++ fW))) (fun k hk h => by
        rcases List.mem_cons.1 h with rfl | h
        · simp
        · rcases List.mem_append.1 h with h | h
          · simp [h]
          · have := hfv4 k h; omega)).trans hkW3 (by simp)).setCell (p := ⟨b, 1, none⟩) (.inl (by simp)) (.slice A3 (land last (surv loose sv)).length n3) |>.setCell (p := ⟨b, 2, none⟩) (.inl (by simp)) (.slice none 0 0)
      have hDfv : D ∉ fv := fun h => by have := hfv4 D h; omega
      have hDfL : D ∉ fL := fun h => by have := hlt1 D h; omega
      have hput : ∀ (W' : World) k, k ≠ D → (W'.putObj D (.deferred none)).heap[k]? = W'.heap[k]? := fun W' k hk => World.putObj_heap_other hk
      have hg := grownBy_putObj' ((w3.setCell ⟨b, 1, none⟩ (.slice A3 (land last (surv loose sv)).length n3)).setCell ⟨b, 2, none⟩ (.slice none 0 0)) D (.deferred none)
      refine ⟨b :: (fL ++ (fv ++ [])), rfl, ⟨_, _, _, fL, fv, [], ((hb3.set_ 1 _).set_ 2 _).to (hput _ b (fun h => hDb h.symm)), ?_, ?_, Own.bare _ _ _ _, ⟨ha.bL, hbfv, by simp, fun k hk h => by have := hfv4 k h; have := hlt1 k hk; omega, by simp, by simp⟩, rfl⟩, ?_, ?_⟩
      · have := (((hOwn.keeps hkW3 (by simp)).set (p := ⟨b, 1, none⟩) ha.bL (.slice A3 (land last (surv loose sv)).length n3)).set (p := ⟨b, 2, none⟩) ha.bL (.slice none 0 0)).to (fun k hk => hput _ k (fun h => hDfL (h ▸ hk)))
        have h9 : ∀ (W9 : World) n, n = last.length → Own W9 31 64 (.slice AL last.length cL) last.length (secs (land last (surv loose sv))) fL → Own W9 31 64 (.slice AL last.length cL) n (secs (land last (surv loose sv))) fL := by rintro W9 _ rfl h; exact h
        exact h9 _ _ hlen9 this
      · exact ((hown3.set (p := ⟨b, 1, none⟩) hbfv (.slice A3 (land last (surv loose sv)).length n3)).set (p := ⟨b, 2, none⟩) hbfv (.slice none 0 0)).to (fun k hk => hput _ k (fun h => hDfv (h ▸ hk)))
      · exact ⟨hg.os.trans hkF.os, hg.tape.trans hkF.tape, hg.output.trans hkF.output, Nat.le_trans hkF.size hg.size, fun k hk hn => (hput _ k (by omega)).trans (hkF.block k hk hn)⟩
      · intro k hk
        simp only [List.append_nil, List.mem_cons, List.mem_append] at hk ⊢
        rcases hk with h | h | h
        · simp [h]
        · simp [h]
        · right
          have := hfv4 k h
          omega

theorem crash_nil (S : Option Addr) (m c : Nat) (w : World) : Calls Try.prog 52 #[.pointer none, .slice S m c] w fun e w' => e = .returned (.int .i64 1) ∧ Keeps w w' [] := by
  go_enter Try.func52, Try.ntmps52
  go_wp2_with fail
  go_ret
  exact ⟨rfl, (Keeps.refl w []).alloc _⟩

end Go.Proofs.Ytecjhaohabjkbaa
