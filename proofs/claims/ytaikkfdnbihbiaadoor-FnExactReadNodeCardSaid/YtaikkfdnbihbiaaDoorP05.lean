/- Plain names, again: as the reference tells them. -/
import Derived.Test.YtaikkfdnbihbiaaDoorP04
namespace Go.AK
set_option linter.unusedVariables false
set_option linter.unusedSimpArgs false
open Go Go.RowKit
/-- all parts with the bytes between them are the text -/
theorem splitAt_total (s : ByteArray) (c : Int) (f i : Nat) (h1 : f ≤ i) (h2 : i ≤ s.size) : ((splitAt s c f i).map (·.size)).sum + (splitAt s c f i).length = s.size - f + 1 := by
  unfold splitAt
  split
  · split
    · have := splitAt_total s c (i + 1) (i + 1) (Nat.le_refl _) (by omega)
      simp only [List.map_cons, List.sum_cons, List.length_cons, ByteArray.size_extract]
      omega
    · exact splitAt_total s c f (i + 1) (by omega) (by omega)
  · simp only [List.map_cons, List.map_nil, List.sum_cons, List.sum_nil, List.length_cons, List.length_nil, ByteArray.size_extract]; omega
termination_by s.size - i
theorem nameOk_size {s : ByteArray} (h : nameOk s = true) : s.size ≤ 20 := by
  unfold nameOk at h
  simp only [Bool.and_eq_true, decide_eq_true_eq] at h
  omega
theorem sum_le (l : List ByteArray) (h : l.all nameOk = true) : (l.map (·.size)).sum ≤ 20 * l.length := by
  induction l with
  | nil => simp
  | cons a l ih =>
    simp only [List.all_cons, Bool.and_eq_true] at h
    have := ih h.2
    have := nameOk_size h.1
    simp only [List.map_cons, List.sum_cons, List.length_cons]; omega
/-- the reference's right path -/
def pathOkS (s : ByteArray) : Bool := if decide (200 < (s.size : Int)) = true then false else if (splitC s 47).all nameOk = true then decide (((splitC s 47).length : Int) ≤ 8) else false
theorem pathOkS_eq (s : ByteArray) : pathOkS s = pathOk s := by
  unfold pathOkS pathOk namesOf
  by_cases h1 : (200 : Int) < s.size
  · rw [if_pos (decide_eq_true h1), if_pos (by omega)]; rfl
  · rw [if_neg (by simpa using h1)]
    by_cases h2 : (splitC s 47).all nameOk = true
    · rw [if_pos h2, if_pos h2]
      have ht := splitAt_total s 47 0 0 (Nat.le_refl _) (Nat.zero_le _)
      have hs := sum_le _ h2
      unfold splitC at *
      by_cases h3 : 8 < (splitAt s 47 0 0).length
      · rw [if_pos h3]
        have : decide (((splitAt s 47 0 0).length : Int) ≤ 8) = false := by simp; omega
        rw [this]; split <;> rfl
      · rw [if_neg h3, if_neg (by omega)]
        have : decide (((splitAt s 47 0 0).length : Int) ≤ 8) = true := by simp; omega
        rw [this]; rfl
    · rw [if_neg h2, if_neg h2]
      split
      · rfl
      · split <;> rfl
theorem names_of_ok {s : ByteArray} (h : pathOk s = true) : (namesOf s).getD [] = splitC s 47 := by
  unfold pathOk at h
  unfold namesOf at h ⊢
  split at h
  · cases h
  · split at h
    · cases h
    · rename_i h1 h2
      rw [if_neg h1, if_neg h2]
      split at h
      · rename_i h3; rw [if_pos h3]; rfl
      · cases h
theorem names_of_not {s : ByteArray} (h : pathOk s = false) : (namesOf s).getD [] = [] := by
  unfold pathOk at h
  cases hn : namesOf s with
  | none => rfl
  | some l => rw [hn] at h; cases h
/-- a byte is in a text -/
theorem hasB_iff (s : ByteArray) (c : UInt8) : hasB s c = true ↔ ∃ i, i < s.size ∧ bt s i = c.toNat := by
  have hb : ∀ i, i < s.size → bt s i = ((s.data.toList[i]?).getD 0).toNat := fun i hi => by simp [bt]
  have hlen : s.data.toList.length = s.size := by rw [Array.length_toList]; rfl
  constructor
  · intro h
    have h0 : 0 ≤ Lib.indexByte s.data.toList c := of_decide_eq_true h
    obtain ⟨o, ho⟩ := Int.eq_ofNat_of_zero_le h0
    obtain ⟨h1, _⟩ := Lib.indexByte_some ho
    have hlt : o < s.size := by rw [← hlen]; exact (List.getElem?_eq_some_iff.1 h1).1
    exact ⟨o, hlt, by rw [hb o hlt, h1]; rfl⟩
  · rintro ⟨i, hi, he⟩
    refine decide_eq_true ?_
    have hge := Lib.indexByte_ge s.data.toList c
    by_cases hm : Lib.indexByte s.data.toList c = -1
    · exfalso
      have hi' : i < s.data.toList.length := by rw [hlen]; exact hi
      refine Lib.indexByte_none hm i ?_
      rw [List.getElem?_eq_getElem hi']
      rw [hb i hi, List.getElem?_eq_getElem hi'] at he
      simp only [Option.getD_some] at he
      congr 1
      exact UInt8.toNat_inj.1 (by omega)
    · omega
theorem hasB_not {s : ByteArray} {c : UInt8} (h : ∀ i, i < s.size → bt s i ≠ c.toNat) : hasB s c = false := by
  cases hh : hasB s c with
  | false => rfl
  | true => obtain ⟨i, h1, h2⟩ := (hasB_iff s c).1 hh; exact absurd h2 (h i h1)
end Go.AK
