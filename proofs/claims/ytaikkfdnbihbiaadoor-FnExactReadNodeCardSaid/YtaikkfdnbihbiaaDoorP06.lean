/- Plain decimals and digits, as the reference makes and reads them. -/
import Derived.Test.YtaikkfdnbihbiaaDoorP05
namespace Go.AK
set_option linter.unusedVariables false
set_option linter.unusedSimpArgs false
open Go Go.RowKit
@[go_sem] theorem un_neg (P : Program) (k : IntKind) (n : Int) : un P .neg (.int k n) = some (.int k (k.wrap (-n))) := by
  simp [un, scalD, scal, res, Op.unary, pureRun_pure, pureRun_bind, Op.intArith]
def absV : Value → Nat
  | .int _ n => n.natAbs
  | _ => 0
@[go_sem] theorem absV_int (k : IntKind) (n : Int) : absV (.int k n) = n.natAbs := id rfl
/-! ### DecText -/
def dsN (u : Nat) : List UInt8 := if u = 0 then [] else Lib.decDigits u
theorem dsN_step {u : Nat} (h : u ≠ 0) : dsN u = dsN (u / 10) ++ [UInt8.ofNat (48 + u % 10)] := by
  unfold dsN
  rw [if_neg h]
  by_cases h10 : u < 10
  · rw [if_pos (by omega), Lib.decDigits, dif_pos h10, List.nil_append]
    congr 2; omega
  · rw [if_neg (by omega)]
    conv => lhs; rw [Lib.decDigits, dif_neg h10]
theorem dsN_len (u : Nat) (h : u < 18446744073709551616) : (dsN u).length ≤ 20 := by
  unfold dsN
  split
  · simp
  · rw [Lib.decDigits_length]; exact Lib.nDigits_le20 u h
theorem dig_piece {d : Int} (h0 : 0 ≤ d) (h1 : d < 10) : (⟨#[48, 49, 50, 51, 52, 53, 54, 55, 56, 57]⟩ : ByteArray).extract d.toNat (d + 1).toNat = ⟨#[UInt8.ofNat (48 + d.toNat)]⟩ := by
  have : d = 0 ∨ d = 1 ∨ d = 2 ∨ d = 3 ∨ d = 4 ∨ d = 5 ∨ d = 6 ∨ d = 7 ∨ d = 8 ∨ d = 9 := by omega
  rcases this with rfl | rfl | rfl | rfl | rfl | rfl | rfl | rfl | rfl | rfl <;> rfl
theorem data_toList_append (a b : ByteArray) : (a ++ b).data.toList = a.data.toList ++ b.data.toList := by simp
theorem ba_ext {a b : ByteArray} (h : a.data.toList = b.data.toList) : a = b := by
  cases a; cases b
  simp only at h
  congr 1
  exact Array.toList_inj.1 h
theorem itoaS_list (n : Int) : (itoaS n).data.toList = Lib.itoa n := by simp [itoaS]
theorem dsN_out {u v : Nat} {out : ByteArray} (h : dsN u ++ out.data.toList = dsN v) (hv : v < 18446744073709551616) : out.size ≤ 20 := by
  have h1 := congrArg List.length h
  rw [List.length_append] at h1
  have h2 := dsN_len v hv
  have h3 : out.data.toList.length = out.data.size := Array.length_toList
  show out.data.size ≤ 20
  omega
/-! ### DecNum -/
/-- the number of the digits from i on, behind those that make a -/
def digFrom (s : ByteArray) (i a : Nat) : Option Nat :=
  if i < s.size then (if (!inR (bt s i - 48) 0 9) = true then none else digFrom s (i + 1) (10 * a + (bt s i - 48).toNat)) else some a
termination_by s.size - i
def decFin (s : ByteArray) (most n : Int) : Int × Bool := if (!decide (itoaS n = s) || decide (most < n) || decide (n < -most)) = true then (0, false) else (n, true)
def decNum (s : ByteArray) (most : Int) : Int × Bool :=
  if (!inR most 0 1000000000000 || decide ((s.size : Int) = 0) || decide (14 < (s.size : Int))) = true then (0, false)
  else if decide (bt s 0 = 45) = true then (match digFrom s 1 0 with
    | none => (0, false)
    | some a => decFin s most (-(a : Int)))
  else (match digFrom s 0 0 with
    | none => (0, false)
    | some a => decFin s most a)
theorem pow10_step (i : Nat) : 10 ^ (i + 1) = 10 * 10 ^ i := by rw [Nat.pow_succ]; omega
theorem pow10_le {i : Nat} (h : i ≤ 14) : 10 ^ i ≤ 100000000000000 := Nat.pow_le_pow_right (by decide) h
/-! ### digits of bytes -/
def dig16 (x : Int) : Int := if (decide (48 ≤ x) && decide (x ≤ 57)) = true then x - 48 else if (decide (97 ≤ x) && decide (x ≤ 102)) = true then x - 87 else -1
set_option maxRecDepth 100000 in
theorem dig16_all : ∀ n : Fin 256, dig16 (n.val : Int) = hexVal (n.val : Int) := by decide +kernel
theorem dig16_eq {x : Int} (h0 : 0 ≤ x) (h1 : x < 256) : dig16 x = hexVal x := by
  have := dig16_all ⟨x.toNat, by omega⟩
  simp only [Int.toNat_of_nonneg h0] at this
  exact this
theorem strElems_get (s : ByteArray) (i : Nat) (h : i < s.size) : (strElems s)[i]? = some [.int .u8 (bt s i)] := by
  have hlt : i < s.data.size := h
  have h1 : s.data[i]? = some s.data[i] := Array.getElem?_eq_getElem hlt
  have h2 : s.data.toList[i]? = some s.data[i] := by rw [Array.getElem?_toList]; exact h1
  simp only [strElems, List.getElem?_map, h2, Option.map_some, bt, h1, Option.getD_some]
theorem bRow_strElems (l : List Int) (h : ∀ x ∈ l, 0 ≤ x ∧ x < 256) : bRow l = strElems (ofInts l) := by
  unfold bRow strElems ofInts
  simp only [List.map_map]
  refine List.map_congr_left fun x hx => ?_
  have := h x hx
  simp only [Function.comp_apply, List.cons.injEq, and_true, Value.int.injEq, true_and]
  rw [UInt8.toNat_ofNat']
  omega
theorem nodeOk_parts {n : Nd} (h : nodeOk n = true) : pathOk n.path = true ∧ (0 ≤ n.mode ∧ n.mode ≤ 511) ∧ (0 ≤ n.time ∧ n.time ≤ 1000000000) ∧
    ((n.kind = 0 ∧ n.data = ⟨#[]⟩ ∧ n.target = ⟨#[]⟩ ∧ n.group = 0) ∨ (n.kind = 1 ∧ n.data.size ≤ 20000 ∧ n.target = ⟨#[]⟩ ∧ 0 ≤ n.group ∧ n.group ≤ 200) ∨
     (n.kind = 2 ∧ n.data = ⟨#[]⟩ ∧ n.mode = 0 ∧ n.group = 0 ∧ 1 ≤ n.target.size ∧ n.target.size ≤ 60 ∧ hasB n.target 10 = false)) := by
  unfold nodeOk at h
  split at h
  · cases h
  · rename_i h0
    have h0 := Bool.eq_false_iff.2 h0
    simp only [Bool.or_eq_false_iff, Bool.not_eq_false', Bool.and_eq_true, decide_eq_true_eq] at h0
    refine ⟨h0.1.1, h0.1.2, h0.2, ?_⟩
    split at h
    · rename_i hk
      simp only [Bool.and_eq_true, decide_eq_true_eq] at h hk
      exact .inl ⟨hk, h.1.1, h.1.2, h.2⟩
    · split at h
      · rename_i hk
        simp only [Bool.and_eq_true, decide_eq_true_eq] at h hk
        exact .inr (.inl ⟨hk, by omega, h.1.2, h.2⟩)
      · split at h
        · rename_i hk
          have hk := of_decide_eq_true hk
          rw [Bool.and_eq_true, Bool.and_eq_true, Bool.and_eq_true, Bool.and_eq_true] at h
          obtain ⟨⟨⟨⟨a1, a2⟩, a3⟩, a4⟩, a5⟩ := h
          have a4 : (decide ((1 : Int) ≤ n.target.size) && decide ((n.target.size : Int) ≤ 60)) = true := a4
          simp only [Bool.and_eq_true, decide_eq_true_eq] at a4
          exact .inr (.inr ⟨hk, of_decide_eq_true a1, of_decide_eq_true a2, of_decide_eq_true a3, by omega, by omega, bnt a5⟩)
        · cases h
theorem nodeOk_file {n : Nd} (h : nodeOk n = true) (k : n.kind = 1) : n.data.size ≤ 20000 := by
  rcases (nodeOk_parts h).2.2.2 with h | h | h <;> omega
theorem nodeOk_link {n : Nd} (h : nodeOk n = true) (k0 : n.kind ≠ 0) (k1 : n.kind ≠ 1) : n.target.size ≤ 20000 := by
  rcases (nodeOk_parts h).2.2.2 with h | h | h <;> omega
theorem hexO_ref {s : ByteArray} (h : s.size ≤ 20000) : (if decide (s = ⟨#[]⟩) = true then ⟨#[45]⟩ else if decide (20000 < (s.size : Int)) = true then ⟨#[]⟩ else hexS s : ByteArray) = hexO s := by
  unfold hexO
  have : decide ((20000 : Int) < s.size) = false := by simp; omega
  rw [this]
  by_cases e : s = ⟨#[]⟩
  · simp [e]
  · simp [e]
/-! ### lines, put together -/
theorem join4 (a b c d : ByteArray) : joinS [a, b, c, d] ⟨#[32]⟩ = a ++ ⟨#[32]⟩ ++ b ++ ⟨#[32]⟩ ++ c ++ ⟨#[32]⟩ ++ d := by
  apply ba_ext
  simp [joinS, Lib.join, List.intercalate, List.intersperse]
theorem join6 (a b c d e f : ByteArray) : joinS [a, b, c, d, e, f] ⟨#[32]⟩ = a ++ ⟨#[32]⟩ ++ b ++ ⟨#[32]⟩ ++ c ++ ⟨#[32]⟩ ++ d ++ ⟨#[32]⟩ ++ e ++ ⟨#[32]⟩ ++ f := by
  apply ba_ext
  simp [joinS, Lib.join, List.intercalate, List.intersperse]
end Go.AK
