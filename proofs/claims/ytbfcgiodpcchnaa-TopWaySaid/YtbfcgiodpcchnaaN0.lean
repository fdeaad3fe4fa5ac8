/-
  BYTES AND TEXTS: bytes in memory, a text's bytes, the conversions between them.
-/
import Derived.Test.YtbfcgiodpcchnaaProg
import Derived.Test.YtbfcgiodpcchnaaMem
import Derived.Laws.BytesArg
import Derived.Lib.ConvBytes
import Derived.Lib.Hide
import Derived.Lib.SliceRun
import Derived.WalkLawsBesides
import Derived.WalkSpells
import Derived.IntWalk
import Derived.Outline
import Derived.LoopTactic
namespace Go.Proofs.Ytbfcgiodpcchnaa
open Go.RowKit
set_option linter.unusedVariables false

def bytes (l : List Int) : List Value := l.map (Value.int .u8)
theorem bytes_length (l : List Int) : (bytes l).length = l.length := by simp [bytes]
theorem bytes_append (l m : List Int) : bytes (l ++ m) = bytes l ++ bytes m := by simp [bytes]
def Wf8 (l : List Int) : Prop := ∀ z ∈ l, 0 ≤ z ∧ z < 256
/-- bytes as a text. -/
def strB (l : List Int) : ByteArray := strOfNums l
theorem str_reads (w : World) (A : Option Addr) (n c : Nat) (l : List Int) (fr : List Nat) (hr : Reads w 1 A n (bytes l) fr) :
    (convert 50 9 (.slice A n c)).run Try.prog w = .ok (.string (strB l)) w := by
  have hlen : l.length = n := by have := hr.1; rw [bytes_length, Nat.mul_one] at this; exact this
  rcases Nat.eq_zero_or_pos n with h0 | h0
  · subst h0
    obtain rfl : l = [] := List.eq_nil_of_length_eq_zero hlen
    cases A with
    | none => exact run_convert_bytes_nil w 50 5 Try.underlying50 Try.underlying5 0 c _ Try.underlying9
    | some ad =>
      rw [run_convert_bytes_string w 50 9 5 (some ad) 0 c Try.underlying50 Try.underlying5 Try.underlying9]
      have h1 := run_loadCells_list (P := Try.prog) w ad [] (by simp)
      rw [run_bytesToString w ad 0 c [] h1]
      rfl
  · obtain ⟨b, o, u, rfl, -, -, -, -⟩ := hr.cellAt h0
    refine run_convert_bytes_arg w 50 5 Try.underlying50 Try.underlying5 b o n c l hlen (fun i hi => ?_) _ Try.underlying9
    obtain ⟨b', o', u', e, -, -, hx, hc⟩ := hr.cellAt hi
    simp only [Option.some.injEq, Addr.mk.injEq, and_true] at e
    obtain ⟨rfl, rfl⟩ := e
    have hil : i < l.length := by omega
    have hu : u' = .int .u8 l[i] := by
      simp [bytes, List.getElem?_eq_getElem hil] at hx
      exact hx.symm
    rw [hc, hu]
    simp [List.getD, List.getElem?_eq_getElem hil]
/-- a string's bytes. -/
def ofStr (s : ByteArray) : List Int := s.data.toList.map fun b => (b.toNat : Int)
theorem ofStr_length (s : ByteArray) : (ofStr s).length = s.size := by
  unfold ofStr
  rw [List.length_map]
  rfl
theorem ofStr_wf (s : ByteArray) : Wf8 (ofStr s) := fun z hz => by
  obtain ⟨b, -, rfl⟩ := List.mem_map.1 hz
  have := b.toNat_lt
  omega
theorem strB_ofStr (s : ByteArray) : strB (ofStr s) = s := by
  unfold strB strOfNums ofStr
  rw [List.map_map]
  have hid : ((fun n : Int => UInt8.ofNat n.toNat) ∘ fun b : UInt8 => (b.toNat : Int)) = id := by
    funext b
    simp
  rw [hid, List.map_id]
/-- byte i of a string. -/
def byteAt (s : ByteArray) (i : Nat) : Nat := (s.data.toList.getD i 0).toNat
theorem byteAt_eq (s : ByteArray) (k : Nat) (h : k < s.size) : byteAt s k = s[k].toNat := by
  unfold byteAt
  rw [List.getD_eq_getElem?_getD, List.getElem?_eq_getElem (by simpa using h)]
  simp
  rfl
theorem byteAt_lt (s : ByteArray) (k : Nat) : byteAt s k < 256 := UInt8.toNat_lt _
theorem ofStr_at (s : ByteArray) (k : Nat) (h : k < s.size) : (ofStr s)[k]? = some (byteAt s k : Int) := by
  have h1 : k < s.data.toList.length := h
  unfold ofStr byteAt
  rw [List.getElem?_map, List.getElem?_eq_getElem h1, List.getD_eq_getElem?_getD, List.getElem?_eq_getElem h1]
  rfl
theorem ofStr_take_succ (s : ByteArray) (k : Nat) (h : k < s.size) : (ofStr s).take (k + 1) = (ofStr s).take k ++ [(byteAt s k : Int)] := by
  rw [List.take_add_one, ofStr_at s k h]
  rfl
theorem not_empty (s : ByteArray) (h : 0 < s.size) : s.toList.isEmpty = false := by
  rw [ByteArray.toList_eq, List.isEmpty_eq_false_iff]
  intro e
  have : s.data.toList.length = 0 := by rw [e]; rfl
  have h2 : s.data.toList.length = s.size := rfl
  omega
theorem info_byte : (Try.prog.info? 5).map (fun i => (i.zero, i.size, i.bytes)) = some (some (.int .u8 0), 1, 1) := by kernel_rfl

end Go.Proofs.Ytbfcgiodpcchnaa
