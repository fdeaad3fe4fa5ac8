/-
  CONTRACTS: text.Base64.
-/
import Derived.Test.YtbfcgiodpcchnaaDoorS3
import Derived.Test.YtbfcgiodpcchnaaDoorSec
import Derived.Laws.CopyOwn
import Derived.Laws.MakeOwn
import Derived.Laws.ShiftsVarLaws
import Derived.Laws.BitsAllLaws
import Derived.Deep.LoopGhost
namespace Go.Proofs.YtbfcgiodpcchnaaDoor
open Go.RowKit
set_option linter.unusedVariables false

/-- copy of a string's head onto the head of a row that is known whole. -/
theorem run_copy_str {P : Program} (w : World) (dT sT ty elem : TypeId) (hu : P.underlying dT = some (.slice elem)) (hz : ∀ w, (sizeOf elem).run P w = .ok 1 w) (g dLen dCap : Nat) (t : TypeId) (cur : Array Value) (hg : Blk w g t cur) (hd : dLen ≤ cur.size) (s : ByteArray) :
    ∃ w', (Builtin.copy_ #[dT, sT] ty #[.slice (some ⟨g, 0, none⟩) dLen dCap, .string s]).run P w = .ok (goInt (min s.size dLen : Nat)) w' ∧ Blk w' g t (((ofStr s).take dLen).map (Value.int .u8) ++ cur.toList.drop (min s.size dLen)).toArray ∧ Keeps w w' [g] := by
  have hl : (((ofStr s).take dLen).map (Value.int .u8)).length = min s.size dLen := by rw [List.length_map, List.length_take, ofStr_length, Nat.min_comm]
  have hm : ((s.data.toList.map fun x : UInt8 => Value.int .u8 (x.toNat : Int)).take (Nat.min s.size dLen)) = ((ofStr s).take dLen).map (Value.int .u8) := by
    unfold ofStr
    rw [← List.map_take, ← List.map_take, List.map_map]
    have : s.data.toList.take (Nat.min s.size dLen) = s.data.toList.take dLen := by
      rw [List.take_eq_take_iff]
      show min (min s.size dLen) s.size = min dLen s.size
      omega
    rw [this]
    rfl
  have hst := run_storeCells_cells (P := P) g 0 (((ofStr s).take dLen).map (Value.int .u8)) 0 w
    (by
      intro j hj
      rw [hl] at hj
      rw [hg.cell]
      rw [Array.getElem?_eq_getElem (by omega)]
      rfl)
    (by intro j hj; exact hg.frozen _)
    (by
      intro v hv
      obtain ⟨x, _, rfl⟩ := List.mem_map.1 hv
      rfl)
  obtain ⟨vs, hvs⟩ : ∃ vs, vs = ((ofStr s).take dLen).map (Value.int .u8) := ⟨_, rfl⟩
  rw [← hvs] at hm hst hl ⊢
  refine ⟨w.setCells g 0 vs, ?_, ?_, (Keeps.refl w [g]).setCells (.inl (by simp)) 0 vs⟩
  · simp [Builtin.copy_, run_underlying hu, Builtin.lenOf, Builtin.firstCells, hz]
    rw [hm, hst]
    rfl
  · have := hg.setCells vs 0 _ _ (by rw [hl]; omega)
    rw [hl] at this
    simpa using this
theorem wpList_copy_str {P : Program} (w : World) {ops : Array Oper} {rest : List Oper} {o : Oper} {a : Act} {Q : Exit → Act → World → Prop} (hgd : o.guard = none) (d x : Operand) (dT sT : TypeId)
    (ho : o.op = .call { callee := .builtin .copy, args := #[d, x], argTypes := #[dT, sT] }) (elem : TypeId) (hu : P.underlying dT = some (.slice elem)) (hz : ∀ w, (sizeOf elem).run P w = .ok 1 w) (g dLen dCap : Nat) (t : TypeId) (cur : Array Value)
    (hdv : a.eval d = .slice (some ⟨g, 0, none⟩) dLen dCap) (hg : Blk w g t cur) (hd : dLen ≤ cur.size) (s : ByteArray) (hsv : a.eval x = .string s)
    (h : ∀ w', Blk w' g t (((ofStr s).take dLen).map (Value.int .u8) ++ cur.toList.drop (min s.size dLen)).toArray → Keeps w w' [g] → wpList P ops Q rest (a.put o.dst (goInt (min s.size dLen : Nat))) w') : wpList P ops Q (o :: rest) a w := by
  refine wpList_plain hgd fun K hK => ?_
  obtain ⟨w', hrun, hb, hk⟩ := run_copy_str (P := P) w dT sT o.type elem hu hz g dLen dCap t cur hg hd s
  unfold Oper.wp execOp
  simp only [ho, resolve, invoke, builtin, Sem.run_bind, Sem.run_pure, Result.andThen_ok, List.map_toArray, List.map_cons, List.map_nil, hdv, hsv, hrun]
  exact hK _ _ (h w' hb hk)

theorem or_grp (x0 x1 x2 : Nat) (h0 : x0 < 256) (h1 : x1 < 256) (h2 : x2 < 256) : bits .or .u32 (bits .or .u32 ((x0 : Int) * 65536) ((x1 : Int) * 256)) (x2 : Int) = ((x0 * 65536 + x1 * 256 + x2 : Nat) : Int) := by
  have e0 : (x0 : Int) * 65536 = ((x0 * 65536 : Nat) : Int) := by omega
  have e1 : (x1 : Int) * 256 = ((x1 * 256 : Nat) : Int) := by omega
  have a1 : x0 * 65536 ||| x1 * 256 = x0 * 65536 + x1 * 256 := by
    have := Nat.two_pow_add_eq_or_of_lt (i := 16) (b := x1 * 256) (by omega) x0
    rw [Nat.mul_comm] at this
    exact this.symm
  have a2 : (x0 * 65536 + x1 * 256) ||| x2 = x0 * 65536 + x1 * 256 + x2 := by
    have := Nat.two_pow_add_eq_or_of_lt (i := 8) (b := x2) (by omega) (x0 * 256 + x1)
    have e : 2 ^ 8 * (x0 * 256 + x1) = x0 * 65536 + x1 * 256 := by omega
    rw [e] at this
    exact this.symm
  rw [e0, e1, u32_or_nat _ _ (by omega) (by omega), a1, u32_or_nat _ _ (by omega) (by omega), a2]
theorem grp_cell (r : ByteArray) (i : Nat) (hi : i < 3) : (((ofStr r).take 3).map (Value.int .u8) ++ (#[Value.int .u8 0, Value.int .u8 0, Value.int .u8 0] : Array Value).toList.drop (min r.size 3)).toArray[i]? = some (.int .u8 (byteAt r i)) := by
  have hl : (((ofStr r).take 3).map (Value.int .u8)).length = min 3 r.size := by rw [List.length_map, List.length_take, ofStr_length]
  rw [List.getElem?_toArray]
  by_cases h : i < r.size
  · rw [List.getElem?_append_left (by omega), List.getElem?_map, List.getElem?_take_of_lt hi, ofStr_at r i h]
    rfl
  · rw [List.getElem?_append_right (by omega), byteAt_beyond r i (by omega), hl, List.getElem?_drop]
    rw [show min r.size 3 + (i - min 3 r.size) = i by omega]
    rcases (show i = 0 ∨ i = 1 ∨ i = 2 by omega) with rfl | rfl | rfl <;> rfl

theorem rest_law (s r : ByteArray) (k a : Nat) (hrs : r.size = s.size - 3 * k) (hra : ∀ i, byteAt r i = byteAt s (3 * k + i)) (ha : a = min 3 r.size) :
    (r.extract a r.size).size = s.size - 3 * (k + 1) ∧ ∀ i, byteAt (r.extract a r.size) i = byteAt s (3 * (k + 1) + i) := by
  have hs : (r.extract a r.size).size = r.size - a := by rw [ByteArray.size_extract]; omega
  refine ⟨by omega, fun i => ?_⟩
  by_cases h : i < r.size - a
  · rw [byteAt_eq _ i (by omega), ByteArray.getElem_extract, ← byteAt_eq _ (a + i) (by omega), hra]
    congr 1
    omega
  · rw [byteAt_beyond _ i (by omega), byteAt_beyond _ _ (by omega)]
theorem alph_at : ∀ z, z < 64 → ∀ h : z < (ByteArray.mk #[65,66,67,68,69,70,71,72,73,74,75,76,77,78,79,80,81,82,83,84,85,86,87,88,89,90,97,98,99,100,101,102,103,104,105,106,107,108,109,110,111,112,113,114,115,116,117,118,119,120,121,122,48,49,50,51,52,53,54,55,56,57,43,47]).size, ((ByteArray.mk #[65,66,67,68,69,70,71,72,73,74,75,76,77,78,79,80,81,82,83,84,85,86,87,88,89,90,97,98,99,100,101,102,103,104,105,106,107,108,109,110,111,112,113,114,115,116,117,118,119,120,121,122,48,49,50,51,52,53,54,55,56,57,43,47])[z]'h).toNat = alpha z := by decide +kernel
theorem grp_and (V i : Nat) (hV : V < 16777216) : bits .and .u32 ((V : Int) / 2 ^ (18 - 6 * i)) 63 = ((V / 2 ^ (18 - 6 * i) % 64 : Nat) : Int) := by
  have e : (V : Int) / 2 ^ (18 - 6 * i) = ((V / 2 ^ (18 - 6 * i) : Nat) : Int) := by
    rw [Int.natCast_ediv]; norm_cast
  have hl : V / 2 ^ (18 - 6 * i) ≤ V := Nat.div_le_self _ _
  have e3 : (63 : Int) = ((63 : Nat) : Int) := rfl
  rw [e, e3, u32_and_nat _ _ (by omega) (by omega), Nat.and_two_pow_sub_one_eq_mod _ 6]
theorem grp_enc (s r : ByteArray) (k i m x0 x1 x2 V : Nat) (hi : i < 4) (hrs : r.size = s.size - 3 * k) (hra : ∀ i, byteAt r i = byteAt s (3 * k + i)) (hm : m = min r.size 3) (h0 : x0 = byteAt r 0) (h1 : x1 = byteAt r 1) (h2 : x2 = byteAt r 2)
    (hV : V = x0 * 65536 + x1 * 256 + x2) : encC s (4 * k + i) = if i ≤ m then alpha ((V / 2 ^ (18 - 6 * i)) % 64) else 61 := by
  have e1 : (4 * k + i) % 4 = i := by omega
  have e2 : (4 * k + i) / 4 = k := by omega
  have e3 : inGroup s k = m := by unfold inGroup; omega
  have l0 := byteAt_lt r 0
  have l1 := byteAt_lt r 1
  have l2 := byteAt_lt r 2
  unfold encC
  rw [e1, e2, e3]
  have hc : code s (4 * k + i) = (V / 2 ^ (18 - 6 * i)) % 64 := by
    unfold code
    rw [e1, e2, ← hra 1, ← hra 2, show byteAt s (3 * k) = byteAt r 0 from (hra 0).symm, ← h0, ← h1, ← h2]
    rw [← h0] at l0
    rw [← h1] at l1
    rw [← h2] at l2
    rcases (show i = 0 ∨ i = 1 ∨ i = 2 ∨ i = 3 by omega) with rfl | rfl | rfl | rfl
    · show x0 / 4 = V / 262144 % 64; omega
    · show x0 % 4 * 16 + x1 / 16 = V / 4096 % 64; omega
    · show x1 % 16 * 4 + x2 / 64 = V / 64 % 64; omega
    · show x2 % 64 = V / 1 % 64; omega
  rw [hc]

set_option maxHeartbeats 3200000 in
set_option maxRecDepth 100000 in
theorem base64_calls (s : ByteArray) (w : World) (h : s.size ≤ 1000) (h0 : 0 < s.size) : Calls Tryd.prog 5 #[.string s] w fun e w' => e = .returned (.string (b64 s)) ∧ Keeps w w' [] := by
  obtain ⟨i0, hi, hz0, hz1, hz2⟩ := info_parts info_byte
  obtain ⟨q, hq⟩ : ∃ q, q = (s.size + 2) / 3 := ⟨_, rfl⟩
  have hqi : ((s.size : Int) + 2) / 3 = (q : Int) := by omega
  obtain ⟨c, hc⟩ : ∃ c, c = 4 * q := ⟨_, rfl⟩
  have hci : (q : Int) * 4 = (c : Int) := by omega
  have hmk := run_make (P := Tryd.prog) w 28 5 i0 _ Tryd.underlying28 hi hz0 .i64 .i64 0 (c : Int) (by omega) (by omega) (by rw [hz2]; omega) (by omega)
  rw [hz1, Int.toNat_natCast, Int.toNat_zero, Nat.mul_one] at hmk
  have hq400 : (q : Int) ≤ 400 := by omega
  have HQ := Lib.hid (And.intro hq (And.intro hc (And.intro hi (And.intro hz0 (And.intro hz1 hz2)))))
  clear hq hc hi hz0 hz1 hz2
  go_enter Tryd.func5, Tryd.ntmps5
  go_wp2_with fail
  have hown0 : Own (w.alloc (.cells (madeCells (Value.int .u8 0).cells c) 5)) 5 1 (.slice (some ⟨w.heap.size, 0, none⟩) 0 c) 0 [] [w.heap.size] := by
    obtain ⟨hq, hc, -⟩ := HQ.out
    exact ⟨rfl, .inr ⟨w.heap.size, c, _, rfl, by omega, rfl, Blk.new w _ _, by omega, by unfold maxLen; omega, by rw [size_madeCells]; simp, by simp⟩⟩
  have HO0 := Lib.hid hown0
  clear hown0 hmk hqi hci
  go_loopg [0, 3] q (fun gg s0 s3 wx => ∃ (k : Nat) (r : ByteArray) (fo : List Nat), gg + k = q ∧ s0 = .string r ∧ r.size = s.size - 3 * k ∧ (∀ i, byteAt r i = byteAt s (3 * k + i)) ∧ Own wx 5 1 s3 (4 * k) (bytes (encTo s (4 * k))) fo ∧ Keeps w wx [] ∧ ∀ j ∈ fo, w.heap.size ≤ j)
  case atStart => exact ⟨0, s, [w.heap.size], by omega, rfl, by omega, fun i => by rw [Nat.mul_zero, Nat.zero_add], HO0.out, (Keeps.refl w []).alloc _, by simp⟩
  case round =>
    obtain ⟨k, r, fo, hgk, rfl, hrs, hra, hO, hK, hN⟩ := hrel
    obtain ⟨Ao, co, rfl, -, -⟩ := hO.form
    by_cases hlt : 0 < r.size
    · have hlti : (0 : Int) < (r.size : Int) := by omega
      have hz : ∀ w, (sizeOf 5).run Tryd.prog w = .ok 1 w := by intro w; kernel_rfl
      obtain ⟨gx, hgx⟩ : ∃ g, g = wr.heap.size := ⟨_, rfl⟩
      have hb0 : Blk (wr.alloc (.cells #[.int .u8 0, .int .u8 0, .int .u8 0] 29)) wr.heap.size 29 #[.int .u8 0, .int .u8 0, .int .u8 0] := Blk.new wr _ _
      have HR := Lib.hid (And.intro hgk (And.intro hrs (And.intro hra (And.intro hO (And.intro hK (And.intro hN (And.intro hlt hb0)))))))
      obtain ⟨w2, hrun, hb2, hk2⟩ := run_copy_str (P := Tryd.prog) (wr.alloc (.cells #[.int .u8 0, .int .u8 0, .int .u8 0] 29)) 28 9 3 5 Tryd.underlying28 hz wr.heap.size 3 3 29 _ hb0 (by simp) r
      clear hgk hrs hra hO hK hN hb0 hgx
      have c0 : w2.cell? ⟨wr.heap.size, 0, none⟩ = some (.int .u8 (byteAt r 0)) := by rw [hb2.cell]; exact grp_cell r 0 (by omega)
      have c1 : w2.cell? ⟨wr.heap.size, 1, none⟩ = some (.int .u8 (byteAt r 1)) := by rw [hb2.cell]; exact grp_cell r 1 (by omega)
      have c2 : w2.cell? ⟨wr.heap.size, 2, none⟩ = some (.int .u8 (byteAt r 2)) := by rw [hb2.cell]; exact grp_cell r 2 (by omega)
      obtain ⟨m, hm⟩ : ∃ m, m = min r.size 3 := ⟨_, rfl⟩
      rw [← hm] at hrun
      have HM := Lib.hid (And.intro hm hk2)
      clear hm hb2 hk2
      obtain ⟨x0, hx0⟩ : ∃ x, x = byteAt r 0 := ⟨_, rfl⟩
      obtain ⟨x1, hx1⟩ : ∃ x, x = byteAt r 1 := ⟨_, rfl⟩
      obtain ⟨x2, hx2⟩ : ∃ x, x = byteAt r 2 := ⟨_, rfl⟩
      rw [← hx0] at c0
      rw [← hx1] at c1
      rw [← hx2] at c2
      have l0 : (x0 : Int) < 256 := by have := byteAt_lt r 0; omega
      have l1 : (x1 : Int) < 256 := by have := byteAt_lt r 1; omega
      have l2 : (x2 : Int) < 256 := by have := byteAt_lt r 2; omega
      have HXX := Lib.hid (And.intro hx0 (And.intro hx1 hx2))
      clear hx0 hx1 hx2
      go_wp2_with (rw [hrun])
      obtain ⟨V, hV⟩ : ∃ V : Nat, V = x0 * 65536 + x1 * 256 + x2 := ⟨_, rfl⟩
      rw [or_grp x0 x1 x2 (by omega) (by omega) (by omega), ← hV]
      have hVb : V < 16777216 := by omega
      have HV := Lib.hid (And.intro hV hVb)
      clear hV c0 c1 c2 l0 l1 l2 hrun hVb
      go_loopg [39, 3] 4 (fun gg s39 s3 wx => ∃ (i : Nat) (fo : List Nat), gg + i = 4 ∧ s39 = .int .i64 i ∧ Own wx 5 1 s3 (4 * k + i) (bytes (encTo s (4 * k + i))) fo ∧ Keeps w wx [] ∧ ∀ j ∈ fo, w.heap.size ≤ j)
      case atStart =>
        obtain ⟨hgk, hrs, hra, hO, hK, hN, hlt⟩ := HR.out
        exact ⟨0, fo, rfl, rfl, (hO.alloc _).keeps HM.out.2 (fun j hj hm => by simp at hm; have := hO.lt j hj; omega), (hK.alloc _).trans HM.out.2 (fun j hj hm => by simp at hm; have := hK.size; omega), hN⟩
      case round =>
        obtain ⟨i, fo2, hgi, rfl, hO2, hK2, hN2⟩ := hrel
        obtain ⟨A2, n2, rfl, -, -⟩ := hO2.form
        have HI := Lib.hid (And.intro hgi (And.intro hO2 (And.intro hK2 hN2)))
        have hi4 : (i : Int) ≤ 4 := by omega
        have hi0 : (0 : Int) ≤ i := by omega
        clear hgi hO2 hK2 hN2
        by_cases hlt4 : i < 4
        · obtain ⟨y, hy⟩ : ∃ y : Nat, y = encC s (4 * k + i) := ⟨_, rfl⟩
          have hsm : 4 * k + i ≤ 4000 := by have h1 := HQ.out.1; have h2 := HR.out.1; omega
          have HB := Lib.hid (And.intro hy hsm)
          have hen : encC s (4 * k + i) = if i ≤ m then alpha ((V / 2 ^ (18 - 6 * i)) % 64) else 61 := by
            obtain ⟨hgk, hrs, hra, -⟩ := HR.out
            obtain ⟨hx0, hx1, hx2⟩ := HXX.out
            exact grp_enc s r k i m x0 x1 x2 V hlt4 hrs hra HM.out.1 hx0 hx1 hx2 HV.out.1
          clear hsm
          by_cases him : i ≤ m
          · rw [if_pos him, ← hy] at hen
            obtain ⟨z, hz⟩ : ∃ z : Nat, z = (V / 2 ^ (18 - 6 * i)) % 64 := ⟨_, rfl⟩
            rw [← hz] at hen
            have hand : bits .and .u32 ((V : Int) / 2 ^ (18 - 6 * i)) 63 = (z : Int) := by rw [hz]; exact grp_and V i HV.out.2
            have hz64 : z < 64 := by omega
            have hzi : (z : Int) < 64 := by omega
            have hyz : ∀ h : z < (ByteArray.mk #[65,66,67,68,69,70,71,72,73,74,75,76,77,78,79,80,81,82,83,84,85,86,87,88,89,90,97,98,99,100,101,102,103,104,105,106,107,108,109,110,111,112,113,114,115,116,117,118,119,120,121,122,48,49,50,51,52,53,54,55,56,57,43,47]).size, ((ByteArray.mk #[65,66,67,68,69,70,71,72,73,74,75,76,77,78,79,80,81,82,83,84,85,86,87,88,89,90,97,98,99,100,101,102,103,104,105,106,107,108,109,110,111,112,113,114,115,116,117,118,119,120,121,122,48,49,50,51,52,53,54,55,56,57,43,47])[z]'h).toNat = y := by
              intro h
              rw [hen]
              exact alph_at z hz64 h
            have HE := Lib.hid (show bytes (encTo s (4 * k + i)) ++ bytes [(y : Int)] = bytes (encTo s (4 * k + i + 1)) by rw [encTo_succ, bytes_append, hy])
            clear hen hz hy hz64
            go_wp2_with (at_builtin; refine wpList_append_mine _ rfl (.tmp 52) (.tmp 54) _ _ rfl 5 i0 _ 1 1 Tryd.underlying28 HQ.out.2.2.1 HQ.out.2.2.2.1 HQ.out.2.2.2.2.1 HQ.out.2.2.2.2.2 rfl _ (4 * k + i) (bytes (encTo s (4 * k + i))) fo2 rfl (HI.out.2.1.alloc _) _ 1 (bytes [(y : Int)]) rfl ?_ ?_ ?_ ?_)
            · exact (Blk.new' wr (n := wr.heap.size) rfl 5 #[.int .u8 y]).src Tryd.underlying28 1 rfl (by simp [Value.oneCell'])
            · have := HB.out.2; unfold maxLen; omega
            · have := HB.out.2; omega
            intro v1 w5 f9 hown9 hk9 hn9
            obtain ⟨A9, n9, rfl, -, -⟩ := hown9.form
            rw [HE.out] at hown9
            have H9 := Lib.hid (And.intro hown9 (And.intro hk9 hn9))
            clear hown9 hk9 hn9
            go_wp2_with fail
            go_roundg (4 - (i + 1))
            case measure => have := HI.out.1; omega
            case rel =>
              obtain ⟨hown9, hk9, hn9⟩ := H9.out
              obtain ⟨hgi, hO2, hK2, hN2⟩ := HI.out
              exact ⟨i + 1, f9, by omega, by go_num, hown9, (hK2.alloc _).trans hk9 (fun j hj hm => by have := hN2 j hm; omega), fun j hj => by
                rcases hn9 j hj with h | h
                · exact hN2 j h
                · have := hK2.size; (try simp at h); omega⟩
          · rw [if_neg him, ← hy] at hen
            have HE := Lib.hid (show bytes (encTo s (4 * k + i)) ++ bytes [61] = bytes (encTo s (4 * k + i + 1)) by rw [encTo_succ, bytes_append, ← hy, hen]; rfl)
            clear hy hen
            go_wp2_with (at_builtin; refine wpList_append_mine _ rfl (.tmp 52) (.tmp 54) _ _ rfl 5 i0 _ 1 1 Tryd.underlying28 HQ.out.2.2.1 HQ.out.2.2.2.1 HQ.out.2.2.2.2.1 HQ.out.2.2.2.2.2 rfl _ (4 * k + i) (bytes (encTo s (4 * k + i))) fo2 rfl (HI.out.2.1.alloc _) _ 1 (bytes [61]) rfl ?_ ?_ ?_ ?_)
            · exact (Blk.new' wr (n := wr.heap.size) rfl 5 #[.int .u8 61]).src Tryd.underlying28 1 rfl (by simp [Value.oneCell'])
            · have := HB.out.2; unfold maxLen; omega
            · have := HB.out.2; omega
            intro v1 w5 f9 hown9 hk9 hn9
            obtain ⟨A9, n9, rfl, -, -⟩ := hown9.form
            rw [HE.out] at hown9
            have H9 := Lib.hid (And.intro hown9 (And.intro hk9 hn9))
            clear hown9 hk9 hn9
            go_wp2_with fail
            go_roundg (4 - (i + 1))
            case measure => have := HI.out.1; omega
            case rel =>
              obtain ⟨hown9, hk9, hn9⟩ := H9.out
              obtain ⟨hgi, hO2, hK2, hN2⟩ := HI.out
              exact ⟨i + 1, f9, by omega, by go_num, hown9, (hK2.alloc _).trans hk9 (fun j hj hm => by have := hN2 j hm; omega), fun j hj => by
                rcases hn9 j hj with h | h
                · exact hN2 j h
                · have := hK2.size; (try simp at h); omega⟩
        · obtain rfl : i = 4 := by omega
          obtain ⟨a, ha⟩ : ∃ a, a = min 3 r.size := ⟨_, rfl⟩
          have hrest := rest_law s r k a HR.out.2.1 HR.out.2.2.1 ha
          have HT := Lib.hid hrest
          have hIf := HI.out
          have HF := Lib.hid (show Own wr 5 1 (.slice A2 (4 * k + 4) n2) (4 * (k + 1)) (bytes (encTo s (4 * (k + 1)))) fo2 ∧ Keeps w wr [] ∧ ∀ j ∈ fo2, w.heap.size ≤ j from by rw [show 4 * (k + 1) = 4 * k + 4 by omega]; exact hIf.2)
          clear hrest hIf
          by_cases h3 : 3 ≤ r.size
          · obtain rfl : a = 3 := by omega
            have h3i : (3 : Int) ≤ (r.size : Int) := by omega
            clear ha
            go_wp2_with fail
            go_roundg (q - (k + 1))
            case measure => have h1 := HQ.out.1; have h2 := HR.out.1; have h4 := HR.out.2.1; omega
            case rel =>
              have h1 := HQ.out.1; have h2 := HR.out.1; have h4 := HR.out.2.1
              exact ⟨k + 1, _, fo2, by omega, rfl, HT.out.1, HT.out.2, HF.out.1, HF.out.2.1, HF.out.2.2⟩
          · obtain rfl : a = r.size := by omega
            have he : r.extract r.size r.size = ByteArray.empty := by simp
            rw [he] at HT
            have h3i : (r.size : Int) < 3 := by omega
            clear ha
            go_wp2_with fail
            go_roundg (q - (k + 1))
            case measure => have h1 := HQ.out.1; have h2 := HR.out.1; have h4 := HR.out.2.1; omega
            case rel =>
              have h1 := HQ.out.1; have h2 := HR.out.1; have h4 := HR.out.2.1
              exact ⟨k + 1, _, fo2, by omega, rfl, HT.out.1, HT.out.2, HF.out.1, HF.out.2.1, HF.out.2.2⟩
    · obtain hz0 : r.size = 0 := by omega
      have hkq : k = q := by have h1 := HQ.out.1; omega
      have hx := hO
      have hlen : 4 * k = lenB s := by have h1 := HQ.out.1; unfold lenB; omega
      obtain ⟨A8, n8, hf8, -, fS, hRS, -⟩ := hx.form
      simp only [Value.slice.injEq] at hf8
      have kx := str_reads wr A8 (4 * k) n8 _ fS hRS
      rw [← hf8.1, ← hf8.2.2, hlen, show strB (encTo s (lenB s)) = b64 s from rfl, ← hlen] at kx
      have HK := Lib.hid hK
      clear hO hK hN hRS hx hf8 hkq hlen hgk hrs hra
      go_wp2_with fail
      go_ret
      exact ⟨rfl, HK.out⟩

end Go.Proofs.YtbfcgiodpcchnaaDoor
