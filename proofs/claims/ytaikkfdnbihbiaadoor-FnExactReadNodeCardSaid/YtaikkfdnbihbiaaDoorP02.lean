/- Plain names and paths. -/
import Derived.Test.YtaikkfdnbihbiaaDoorP01
namespace Go.AK
set_option linter.unusedVariables false
set_option linter.unusedSimpArgs false
open Go Go.RowKit
theorem bnt {b : Bool} (h : (!b) = true) : b = false := by cases b <;> simp_all
theorem bnf {b : Bool} (h : (!b) = false) : b = true := by cases b <;> simp_all
def nameC (x : Int) : Bool := (decide (97 ≤ x) && decide (x ≤ 122)) || (decide (65 ≤ x) && decide (x ≤ 90)) || (decide (48 ≤ x) && decide (x ≤ 57)) || decide (x = 46) || decide (x = 95) || decide (x = 45)
def nameFrom (s : ByteArray) (i : Nat) : Bool := if i < s.size then nameC (bt s i) && nameFrom s (i + 1) else true
termination_by s.size - i
def nameOk (s : ByteArray) : Bool := nameFrom s 0 && (decide ((1 : Int) ≤ s.size) && decide ((s.size : Int) ≤ 20)) && !decide (s = ⟨#[46]⟩) && !decide (s = ⟨#[46, 46]⟩)
def namesOf (s : ByteArray) : Option (List ByteArray) := if 168 < s.size then none else if 8 < (splitC s 47).length then none else if (splitC s 47).all nameOk then some (splitC s 47) else none
def pathOk (s : ByteArray) : Bool := (namesOf s).isSome
theorem splitAt_ne (s : ByteArray) (c : Int) (f i : Nat) : splitAt s c f i ≠ [] := by
  unfold splitAt
  split
  · split
    · simp
    · exact splitAt_ne s c f (i + 1)
  · simp
termination_by s.size - i
theorem extract_size_le (s : ByteArray) (a b : Nat) : (s.extract a b).size ≤ s.size := by
  rw [ByteArray.size_extract]; omega
theorem splitAt_size (s : ByteArray) (c : Int) (f i : Nat) : ∀ x ∈ splitAt s c f i, x.size ≤ s.size := by
  intro x hx
  unfold splitAt at hx
  split at hx
  · split at hx
    · rcases List.mem_cons.1 hx with rfl | hx
      · exact extract_size_le _ _ _
      · exact splitAt_size s c (i + 1) (i + 1) x hx
    · exact splitAt_size s c f (i + 1) x hx
  · rw [List.mem_singleton] at hx; subst hx; exact extract_size_le _ _ _
termination_by s.size - i
theorem strRow_get (l : List ByteArray) (i : Nat) (h : i < l.length) : (strRow l)[i]? = some [.string l[i]] := by
  simp [strRow, h]
theorem namesOf_len (s : ByteArray) : decide ((0 : Int) < (((namesOf s).map strRow).getD []).length) = pathOk s := by
  unfold pathOk namesOf
  have := splitAt_ne s 47 0 0
  have : 0 < (splitC s 47).length := List.length_pos_iff.2 this
  split
  · rfl
  · split
    · rfl
    · split
      · simp [strRow]; exact this
      · rfl
theorem u8_small {n : Int} (h : 0 ≤ n) (h1 : n < 256) : IntKind.u8.wrap n = n := by
  simp [IntKind.wrap, IntKind.bits, IntKind.signed] <;> omega
/-! ### digits of bytes -/
def hexDig (n : Int) : Int := bt ⟨#[48, 49, 50, 51, 52, 53, 54, 55, 56, 57, 97, 98, 99, 100, 101, 102]⟩ n.toNat
/-- the digits of a text's first n bytes -/
def hexUp (s : ByteArray) : Nat → List Int
  | 0 => []
  | n + 1 => hexUp s n ++ [hexDig ((bt s n).tdiv 16), hexDig ((bt s n).tmod 16)]
def bRow (l : List Int) : List (List Value) := l.map fun n => [.int .u8 n]
def ofInts (l : List Int) : ByteArray := ⟨(l.map fun n => UInt8.ofNat n.toNat).toArray⟩
def hexS (s : ByteArray) : ByteArray := ofInts (hexUp s s.size)
theorem hexUp_len (s : ByteArray) (n : Nat) : (hexUp s n).length = 2 * n := by
  induction n with
  | zero => rfl
  | succ n ih => simp [hexUp, ih]; omega
theorem bRow_app (a b : List Int) : bRow (a ++ b) = bRow a ++ bRow b := by simp [bRow]
theorem bRow_len (a : List Int) : (bRow a).length = a.length := by simp [bRow]
theorem byteOf_row (l : List Int) : (bRow l).mapM byteOf = some (l.map fun n => UInt8.ofNat n.toNat) := by
  induction l with
  | nil => rfl
  | cons a l ih =>
    have : bRow (a :: l) = [.int .u8 a] :: bRow l := rfl
    rw [this, List.mapM_cons, ih]; rfl
theorem convA_bytes {P : Program} {H : AHeap} {src dst el : TypeId} {v : Value} {l : List Int} (h1 : kind P src = some (.slice el)) (h2 : kind P el = some (.int .u8)) (h3 : kind P dst = some .string) (hv : elems H 1 v = some (bRow l)) :
    convA P H src dst v = some (.string (ofInts l), H) := by
  unfold convA
  rw [h1, h3]
  simp only [h2, hv, convA.bytesOf, byteOf_row, Option.map_some, if_true]
  rfl
end Go.AK
