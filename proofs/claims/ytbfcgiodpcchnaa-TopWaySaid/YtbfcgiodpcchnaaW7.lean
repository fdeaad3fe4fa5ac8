/-
  CONTRACTS: stanza.typed, stanza.name of an iq.
-/
import Derived.Test.YtbfcgiodpcchnaaW6
namespace Go.Proofs.Ytbfcgiodpcchnaa
open Go.RowKit
set_option linter.unusedVariables false

def setT : ByteArray := ⟨#[115, 101, 116]⟩
def errorT : ByteArray := ⟨#[101, 114, 114, 111, 114]⟩
def resultT : ByteArray := ⟨#[114, 101, 115, 117, 108, 116]⟩
def iqT : ByteArray := ⟨#[105, 113]⟩
theorem typed_set (w : World) : Calls Try.prog 23 #[.int .u8 1, .string ⟨#[115, 101, 116]⟩] w fun e w' => e = .returned (.bool true) ∧ w = w' := by
  go_enter Try.func23, Try.ntmps23
  go_wp2_with fail
  go_ret
  exact ⟨rfl, rfl⟩
theorem typed_error (w : World) : Calls Try.prog 23 #[.int .u8 1, .string ⟨#[101, 114, 114, 111, 114]⟩] w fun e w' => e = .returned (.bool true) ∧ w = w' := by
  go_enter Try.func23, Try.ntmps23
  go_wp2_with fail
  go_ret
  exact ⟨rfl, rfl⟩
theorem typed_result (w : World) : Calls Try.prog 23 #[.int .u8 1, .string ⟨#[114, 101, 115, 117, 108, 116]⟩] w fun e w' => e = .returned (.bool true) ∧ w = w' := by
  go_enter Try.func23, Try.ntmps23
  go_wp2_with fail
  go_ret
  exact ⟨rfl, rfl⟩
theorem name_index (w : World) : (Instr.index 80 (.agg #[.string ⟨#[]⟩, .string ⟨#[105, 113]⟩, .string ⟨#[109, 101, 115, 115, 97, 103, 101]⟩, .string ⟨#[112, 114, 101, 115, 101, 110, 99, 101]⟩]) (.int .u8 (min 1 3))).run Try.prog w = .ok (.string ⟨#[105, 113]⟩) w := by kernel_rfl
theorem name_iq (w : World) : Calls Try.prog 33 #[.int .u8 1] w fun e w' => e = .returned (.string ⟨#[105, 113]⟩) ∧ w = w' := by
  go_enter Try.func33, Try.ntmps33
  go_wp2_with fail
  rw [name_index w]
  simp only [Result.andThen]
  rw [Oper.upon_value]
  go_wp2_with fail
  go_ret
  exact ⟨rfl, rfl⟩

/-! ## tokens in memory -/
/-- a token, and where its attributes lie. -/
structure TV where
  kind : Nat
  name : ByteArray
  A : Option Addr
  c : Nat
  attrs : AL
  text : ByteArray
def TV.cells (t : TV) : List Value := [.int .u8 t.kind, .string t.name, .slice t.A t.attrs.length t.c, .string t.text]
theorem TV.cells_length (t : TV) : t.cells.length = 4 := rfl
def tvsC (l : List TV) : List Value := l.flatMap TV.cells
theorem tvsC_one (l : List TV) : ∀ v ∈ tvsC l, v.oneCell' = true := by
  intro v hv
  obtain ⟨p, _, h⟩ := List.mem_flatMap.1 hv
  simp [TV.cells] at h
  rcases h with rfl | rfl | rfl | rfl <;> rfl
/-- its attributes read so. -/
def TV.reads (w : World) (t : TV) (fp : List Nat) : Prop := Reads w 2 t.A t.attrs.length (attrsC t.attrs) fp
/-- what a token says. -/
structure Tok where
  kind : Nat
  name : ByteArray
  attrs : AL
  text : ByteArray
def TV.tok (t : TV) : Tok := ⟨t.kind, t.name, t.attrs, t.text⟩
theorem info_token : (Try.prog.info? 66).map (fun i => (i.size, i.bytes)) = some (4, 64) := by kernel_rfl

end Go.Proofs.Ytbfcgiodpcchnaa
