/- The reference's reading of a line, plainly. -/
import Derived.Test.YtaikkfdnbihbiaaDoorP06
namespace Go.AK
set_option linter.unusedVariables false
set_option linter.unusedSimpArgs false
open Go Go.RowKit
def iRow (l : List Int) : List (List Value) := l.map fun n => [.int .i64 n]
@[go_sem] theorem iRow_nil : iRow [] = [] := id rfl
@[go_sem] theorem iRow_cons (n : Int) (l : List Int) : iRow (n :: l) = [.int .i64 n] :: iRow l := id rfl
theorem iRow_len (l : List Int) : (iRow l).length = l.length := by simp [iRow]
theorem iRow_app (a b : List Int) : iRow (a ++ b) = iRow a ++ iRow b := by simp [iRow]
def numsV (W : List ByteArray) : List Int := W.map fun w => (decNum w 1000000000).1
theorem numsV_len (W : List ByteArray) : (numsV W).length = W.length := by simp [numsV]
def unH (s : ByteArray) : ByteArray := if decide (s = ⟨#[45]⟩) = true then ⟨#[]⟩ else (unhex s).getD ⟨#[]⟩
def nth (W : List ByteArray) (k : Nat) : ByteArray := (W[k]?).getD ⟨#[]⟩
def nthI (l : List Int) (k : Nat) : Int := (l[k]?).getD 0
/-- the node that the words of a line tell -/
def nodeS (W : List ByteArray) : Nd :=
  if (decide ((W.length : Int) = 4) && decide (hd W = ⟨#[100]⟩)) = true then ⟨nth W 1, 0, nthI (numsV W) 2, nthI (numsV W) 3, ⟨#[]⟩, ⟨#[]⟩, 0⟩
  else if (decide ((W.length : Int) = 6) && decide (hd W = ⟨#[102]⟩)) = true then ⟨nth W 1, 1, nthI (numsV W) 2, nthI (numsV W) 3, unH (nth W 5), ⟨#[]⟩, nthI (numsV W) 4⟩
  else if (decide ((W.length : Int) = 4) && decide (hd W = ⟨#[108]⟩)) = true then ⟨nth W 1, 2, 0, nthI (numsV W) 2, ⟨#[]⟩, unH (nth W 3), 0⟩
  else nd0
def readS (s : ByteArray) : Option Nd :=
  if (decide (s = ⟨#[]⟩) || !decide ((if nodeOk (nodeS (splitC s 32)) = true then showN (nodeS (splitC s 32)) else ⟨#[]⟩) = s)) = true then none else some (nodeS (splitC s 32))
theorem digFrom_le (s : ByteArray) (i a : Nat) (ha : a < 10 ^ i) (h : s.size ≤ 14) (hi : i ≤ 14) : ∀ b, digFrom s i a = some b → b < 100000000000000 := by
  intro b hb
  unfold digFrom at hb
  split at hb
  · split at hb
    · cases hb
    · rename_i hd
      simp only [Bool.not_eq_true, Bool.not_eq_false', Bool.and_eq_true, decide_eq_true_eq] at hd
      exact digFrom_le s (i + 1) _ (by rw [pow10_step]; omega) h (by omega) b hb
  · cases hb
    have := pow10_le hi
    omega
termination_by s.size - i
theorem decNum_64 (s : ByteArray) (m : Int) : I64 (decNum s m).1 := by
  unfold decNum
  split
  · exact i64_0
  · rename_i h0
    have h0 := Bool.eq_false_iff.2 h0
    simp only [Bool.or_eq_false_iff, decide_eq_false_iff_not] at h0
    have fin : ∀ n : Int, I64 n → I64 (decFin s m n).1 := fun n hn => by unfold decFin; split; exact i64_0; exact hn
    split
    · cases hd : digFrom s 1 0 with
      | none => exact i64_0
      | some a => have := digFrom_le s 1 0 (by decide) (by omega) (by decide) a hd; exact fin _ ⟨by omega, by omega⟩
    · cases hd : digFrom s 0 0 with
      | none => exact i64_0
      | some a => have := digFrom_le s 0 0 (by decide) (by omega) (by decide) a hd; exact fin _ ⟨by omega, by omega⟩
theorem unH_size {s : ByteArray} (h : Small s) : (unH s).size ≤ 1099511627776 := by
  unfold unH
  split
  · exact sz_0
  · cases hu : unhex s with
    | none => exact sz_0
    | some t => exact Nat.le_trans (unhex_size hu) h
def ndEq (a b : Nd) : Bool := decide (a.path = b.path) && decide (a.kind = b.kind) && decide (a.mode = b.mode) && decide (a.time = b.time) && decide (a.data = b.data) && decide (a.target = b.target) && decide (a.group = b.group)
theorem ndEq_refl (a : Nd) : ndEq a a = true := by simp [ndEq]
@[go_sem] theorem numsV_nil : numsV [] = [] := id rfl
@[go_sem] theorem numsV_cons (w : ByteArray) (W : List ByteArray) : numsV (w :: W) = (decNum w 1000000000).1 :: numsV W := id rfl
theorem cast_4 : ((4 : Nat) : Int) = 4 := rfl
theorem cast_6 : ((6 : Nat) : Int) = 6 := rfl
theorem len4 {α : Type} {W : List α} (h : W.length = 4) : ∃ a b c d, W = [a, b, c, d] := by
  match W, h with
  | [a, b, c, d], _ => exact ⟨a, b, c, d, rfl⟩
theorem len6 {α : Type} {W : List α} (h : W.length = 6) : ∃ a b c d e f, W = [a, b, c, d, e, f] := by
  match W, h with
  | [a, b, c, d, e, f], _ => exact ⟨a, b, c, d, e, f, rfl⟩
theorem numsV_take (W : List ByteArray) (i : Nat) (h : i < W.length) : iRow ((numsV W).take (i + 1)) = iRow ((numsV W).take i) ++ [[.int .i64 (decNum W[i] 1000000000).1]] := by
  have h2 : i < (numsV W).length := by rw [numsV_len]; exact h
  rw [List.take_succ_eq_append_getElem h2, iRow_app]
  simp [numsV, iRow]
end Go.AK
