/- Plain nodes; rows of what can be told back. -/
import Derived.Test.YtaikkfdnbihbiaaDoorP02
import Derived.Test.YtaikkfdnbihbiaaDoorAKI
namespace Go.AK
set_option linter.unusedVariables false
set_option linter.unusedSimpArgs false
open Go Go.RowKit
theorem mapM_dec {α : Type} {dec : List Value → Option α} {enc : α → List Value} (h : ∀ cs x, dec cs = some x → cs = enc x) : ∀ {es : List (List Value)} {l : List α}, es.mapM dec = some l → es = l.map enc
  | [], l, hm => by simp at hm; subst hm; rfl
  | cs :: es, l, hm => by
    rw [List.mapM_cons] at hm
    cases hx : dec cs with
    | none => rw [hx] at hm; cases hm
    | some b =>
      rw [hx] at hm
      cases hr : es.mapM dec with
      | none => rw [hr] at hm; cases hm
      | some l2 =>
        rw [hr] at hm
        have hm : some (b :: l2) = some l := hm
        cases hm
        rw [h cs b hx, mapM_dec h hr]; rfl
theorem mapM_enc {α : Type} {dec : List Value → Option α} {enc : α → List Value} (h : ∀ x, dec (enc x) = some x) : ∀ l : List α, (l.map enc).mapM dec = some l
  | [] => rfl
  | a :: l => by rw [List.map_cons, List.mapM_cons, h, mapM_enc h l]; rfl
theorem map_flatC {α : Type} {enc : α → List Value} (h : ∀ x, ∀ v ∈ enc x, clc v = true) (l : List α) : flatC (l.map enc) := by
  intro cs hc x hx
  obtain ⟨a, _, rfl⟩ := List.mem_map.1 hc
  exact h a x hx
theorem map_flatS {α : Type} {enc : α → List Value} (h : ∀ x, ∀ v ∈ enc x, scal v = true) (l : List α) : flatS (l.map enc) := by
  intro cs hc x hx
  obtain ⟨a, _, rfl⟩ := List.mem_map.1 hc
  exact h a x hx
/-! ### a node -/
structure Nd where
  path : ByteArray
  kind : Int
  mode : Int
  time : Int
  data : ByteArray
  target : ByteArray
  group : Int
@[reducible] def ndC (n : Nd) : List Value := [.string n.path, .int .i64 n.kind, .int .i64 n.mode, .int .i64 n.time, .string n.data, .string n.target, .int .i64 n.group]
def decNd : List Value → Option Nd
  | [.string a, .int .i64 b, .int .i64 c, .int .i64 d, .string e, .string f, .int .i64 g] => some ⟨a, b, c, d, e, f, g⟩
  | _ => none
theorem decNd_some {cs : List Value} {n : Nd} (h : decNd cs = some n) : cs = ndC n := by
  unfold decNd at h
  split at h
  · cases h; rfl
  · cases h
theorem decNd_enc (n : Nd) : decNd (ndC n) = some n := rfl
def ndRow (l : List Nd) : List (List Value) := l.map ndC
def decNds (es : List (List Value)) : Option (List Nd) := es.mapM decNd
theorem decNds_some {es : List (List Value)} {l : List Nd} (h : decNds es = some l) : es = ndRow l := mapM_dec (fun _ _ h => decNd_some h) h
@[go_sem] theorem decNds_enc (l : List Nd) : decNds (ndRow l) = some l := mapM_enc decNd_enc l
theorem ndC_scal (n : Nd) : ∀ v ∈ ndC n, scal v = true := by intro v hv; simp at hv; rcases hv with rfl | rfl | rfl | rfl | rfl | rfl | rfl <;> rfl
theorem ndRow_flat (l : List Nd) : flatS (ndRow l) := map_flatS ndC_scal l
theorem ndRow_flatC (l : List Nd) : flatC (ndRow l) := (ndRow_flat l).c
theorem ndRow_len (l : List Nd) : (ndRow l).length = l.length := by simp [ndRow]
theorem ndRow_app (a b : List Nd) : ndRow (a ++ b) = ndRow a ++ ndRow b := by simp [ndRow]
theorem ndRow_get (l : List Nd) (i : Nat) (h : i < l.length) : (ndRow l)[i]? = some (ndC l[i]) := by simp [ndRow, h]
/-- the plain law of a right node -/
abbrev inR (n a b : Int) : Bool := decide (a ≤ n) && decide (n ≤ b)
abbrev hasB (s : ByteArray) (c : UInt8) : Bool := decide (0 ≤ Lib.indexByte s.data.toList c)
def nodeOk (n : Nd) : Bool :=
  if (!pathOk n.path || !inR n.mode 0 511 || !inR n.time 0 1000000000) = true then false
  else if decide (n.kind = 0) = true then decide (n.data = ⟨#[]⟩) && decide (n.target = ⟨#[]⟩) && decide (n.group = 0)
  else if decide (n.kind = 1) = true then decide ((n.data.size : Int) ≤ 20000) && decide (n.target = ⟨#[]⟩) && inR n.group 0 200
  else if decide (n.kind = 2) = true then decide (n.data = ⟨#[]⟩) && decide (n.mode = 0) && decide (n.group = 0) && inR n.target.size 1 60 && !hasB n.target 10
  else false
theorem bnot_t (b : Bool) : ((!b) = true) = (b = false) := by cases b <;> simp
theorem bnot_f (b : Bool) : ((!b) = false) = (b = true) := by cases b <;> simp
/-! ### digits read -/
abbrev hexVal (x : Int) : Int := Lib.indexByte [48, 49, 50, 51, 52, 53, 54, 55, 56, 57, 97, 98, 99, 100, 101, 102] x.toNat.toUInt8
theorem indexByte_lt (l : List UInt8) (c : UInt8) : Lib.indexByte l c < l.length ∨ Lib.indexByte l c < 0 := by
  induction l with
  | nil => right; simp [Lib.indexByte]
  | cons a l ih =>
    unfold Lib.indexByte
    split
    · left; simp
    · split
      · right; decide
      · rename_i h1
        have := Lib.indexByte_ge l c
        have h1' : ¬ Lib.indexByte l c = -1 := by simpa using h1
        left; simp only [List.length_cons]; omega
theorem hexVal_lt (x : Int) : hexVal x < 16 := by
  unfold hexVal
  have := indexByte_lt [48, 49, 50, 51, 52, 53, 54, 55, 56, 57, 97, 98, 99, 100, 101, 102] x.toNat.toUInt8
  simp only [List.length_cons, List.length_nil] at this
  omega
/-- the bytes of the digits from i on -/
def unhexFrom (s : ByteArray) (i : Nat) : Option (List Int) :=
  if i + 1 < s.size then
    (if (decide (hexVal (bt s i) < 0) || decide (hexVal (bt s (i + 1)) < 0)) = true then none
    else (unhexFrom s (i + 2)).map ((16 * hexVal (bt s i) + hexVal (bt s (i + 1))) :: ·))
  else some []
termination_by s.size - i
def unhex (s : ByteArray) : Option ByteArray := if ((s.size : Int).tmod 2 = 0) ∧ s.size ≤ 40000 then (unhexFrom s 0).map ofInts else none
end Go.AK
