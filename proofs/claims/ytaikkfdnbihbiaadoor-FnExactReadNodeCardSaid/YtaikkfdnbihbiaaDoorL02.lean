/- l01, l02 of the program: the walks. -/
import Derived.Test.YtaikkfdnbihbiaaDoorLLB
import Derived.Test.YtaikkfdnbihbiaaDoorL01
import Derived.Test.YtaikkfdnbihbiaaDoorP02
namespace Go.Proofs.YtaikkfdnbihbiaaDoor
set_option linter.unusedVariables false
set_option linter.unusedSimpArgs false
set_option maxRecDepth 4000
open Go Go.AK Go.RowKit
def F_impl_within : List Value → AHeap → Option (Value × AHeap)
  | [.int .i64 n, .int .i64 low, .int .i64 high], H => some (.bool (decide (low ≤ n) && decide (n ≤ high)), H)
  | _, _ => none
@[go_sem] theorem F_impl_within_at (H : AHeap) (n : Int) (low : Int) (high : Int)   : F_impl_within [.int .i64 n, .int .i64 low, .int .i64 high] H = some (.bool (decide (low ≤ n) && decide (n ≤ high)), H) := id rfl
abbrev C_impl_within : Prop := ∀ (H : AHeap) (n : Int) (low : Int) (high : Int)  , ACall Tryd.prog 49 [.int .i64 n, .int .i64 low, .int .i64 high] H fun v H2 => v = (.bool (decide (low ≤ n) && decide (n ≤ high)) : Value) ∧ H2 = H
theorem ok_impl_within (cc_ : C_impl_within) : FOk Tryd.prog 49 F_impl_within := by
  intro args H x H2 h
  unfold F_impl_within at h
  split at h
  · rename_i n low high
    cases h
    exact cc_ H n low high
  · cases h
theorem c_impl_within : C_impl_within := by
  intro H n low high
  refine ACall.body Tryd.func49 rfl rfl (rs := [.tmp 6]) rfl (n := 15) rfl (by decide) (by simp) ?_
  refine awp_rseq GB_ok (by simp only [go_sem, Nat.reduceBEq, ↓reduceIte, Bool.false_eq_true, Nat.reduceAdd, Nat.reduceMul, Nat.reduceLeDiff]; try rfl) ?_
  refine awp_rseq GB_ok (by simp (contextual := true) only [go_sem, Nat.reduceBEq, ↓reduceIte, Bool.false_eq_true, Nat.reduceAdd, Nat.reduceMul, Nat.reduceLeDiff]; try rfl) ?_
  refine awp_ret ⟨_, (by simp only [go_sem, Nat.reduceBEq, ↓reduceIte, Bool.false_eq_true, Nat.reduceAdd, Nat.reduceMul, Nat.reduceLeDiff]; try rfl), ?_⟩
  exact ⟨rfl, rfl⟩
def F_impl_DecText : List Value → AHeap → Option (Value × AHeap)
  | [.int .i64 n], H => if -9223372036854775808 ≤ n ∧ n ≤ 9223372036854775807 then some (.string (itoaS n), H) else none
  | _, _ => none
@[go_sem] theorem F_impl_DecText_at (H : AHeap) (n : Int)   (hc : -9223372036854775808 ≤ n ∧ n ≤ 9223372036854775807) : F_impl_DecText [.int .i64 n] H = some (.string (itoaS n), H) := by simp only [F_impl_DecText, if_pos hc, Option.bind_some]
abbrev C_impl_DecText : Prop := ∀ (H : AHeap) (n : Int)   (hc : -9223372036854775808 ≤ n ∧ n ≤ 9223372036854775807), ACall Tryd.prog 41 [.int .i64 n] H fun v H2 => v = (.string (itoaS n) : Value) ∧ H2 = H
theorem ok_impl_DecText (cc_ : C_impl_DecText) : FOk Tryd.prog 41 F_impl_DecText := by
  intro args H x H2 h
  unfold F_impl_DecText at h
  split at h
  · rename_i n
    by_cases hc : -9223372036854775808 ≤ n ∧ n ≤ 9223372036854775807
    · simp only [if_pos hc, Option.some.injEq, Prod.mk.injEq] at h
      obtain ⟨rfl, rfl⟩ := h
      exact cc_ H n hc
    · simp only [if_neg hc, reduceCtorEq] at h
  · cases h
theorem c_impl_DecText : C_impl_DecText := by
  intro H n hc
  refine ACall.body Tryd.func41 rfl rfl (rs := [.tmp 2]) rfl (n := 5) rfl (by decide) (by simp) ?_
  refine awp_rseq GB_ok (by simp only [go_sem, Nat.reduceBEq, ↓reduceIte, Bool.false_eq_true, Nat.reduceAdd, Nat.reduceMul, Nat.reduceLeDiff]; try rfl) ?_
  refine awp_rseq GB_ok (by simp only [go_sem, Nat.reduceBEq, ↓reduceIte, Bool.false_eq_true, Nat.reduceAdd, Nat.reduceMul, Nat.reduceLeDiff, F_strconv_Itoa_at _ _ hc]; try rfl) ?_
  refine awp_ret ⟨_, (by simp only [go_sem, Nat.reduceBEq, ↓reduceIte, Bool.false_eq_true, Nat.reduceAdd, Nat.reduceMul, Nat.reduceLeDiff]; try rfl), ?_⟩
  exact ⟨rfl, rfl⟩
def G2 : Gam := fun g args H => match g with
  | 49 => F_impl_within args H
  | 41 => F_impl_DecText args H
  | 43 => F_spec_l01In args H
  | 22 => F_spec_l01Split args H
  | _ => GB g args H
theorem G2_ok : GOk Tryd.prog G2 := by
  intro g args H x H2 h
  unfold G2 at h
  split at h
  · exact ok_impl_within c_impl_within _ _ _ _ h
  · exact ok_impl_DecText c_impl_DecText _ _ _ _ h
  · exact ok_spec_l01In c_spec_l01In _ _ _ _ h
  · exact ok_spec_l01Split c_spec_l01Split _ _ _ _ h
  · exact GB_ok _ _ _ _ _ h
@[go_sem] theorem G2_40 (args : List Value) (H : AHeap) : G2 40 args H = F_strings_Join args H := id rfl
@[go_sem] theorem G2_25 (args : List Value) (H : AHeap) : G2 25 args H = F_strings_Split args H := id rfl
@[go_sem] theorem G2_64 (args : List Value) (H : AHeap) : G2 64 args H = F_strconv_Atoi args H := id rfl
@[go_sem] theorem G2_65 (args : List Value) (H : AHeap) : G2 65 args H = F_strings_IndexByte args H := id rfl
@[go_sem] theorem G2_50 (args : List Value) (H : AHeap) : G2 50 args H = F_strings_Contains args H := id rfl
@[go_sem] theorem G2_63 (args : List Value) (H : AHeap) : G2 63 args H = F_strings_Index args H := id rfl
@[go_sem] theorem G2_62 (args : List Value) (H : AHeap) : G2 62 args H = F_strings_Count args H := id rfl
@[go_sem] theorem G2_70 (args : List Value) (H : AHeap) : G2 70 args H = F_strings_Compare args H := id rfl
@[go_sem] theorem G2_58 (args : List Value) (H : AHeap) : G2 58 args H = F_strconv_Itoa args H := id rfl
@[go_sem] theorem G2_49 (args : List Value) (H : AHeap) : G2 49 args H = F_impl_within args H := id rfl
@[go_sem] theorem G2_41 (args : List Value) (H : AHeap) : G2 41 args H = F_impl_DecText args H := id rfl
@[go_sem] theorem G2_43 (args : List Value) (H : AHeap) : G2 43 args H = F_spec_l01In args H := id rfl
@[go_sem] theorem G2_22 (args : List Value) (H : AHeap) : G2 22 args H = F_spec_l01Split args H := id rfl
def F_impl_NameOk : List Value → AHeap → Option (Value × AHeap)
  | [.string s], H => if Small s then some (.bool (nameOk s), H) else none
  | _, _ => none
@[go_sem] theorem F_impl_NameOk_at (H : AHeap) (s : ByteArray)   (hc : Small s) : F_impl_NameOk [.string s] H = some (.bool (nameOk s), H) := by simp only [F_impl_NameOk, if_pos hc, Option.bind_some]
abbrev C_impl_NameOk : Prop := ∀ (H : AHeap) (s : ByteArray)   (hc : Small s), ACall Tryd.prog 71 [.string s] H fun v H2 => v = (.bool (nameOk s) : Value) ∧ H2 = H
theorem ok_impl_NameOk (cc_ : C_impl_NameOk) : FOk Tryd.prog 71 F_impl_NameOk := by
  intro args H x H2 h
  unfold F_impl_NameOk at h
  split at h
  · rename_i s
    by_cases hc : Small s
    · simp only [if_pos hc, Option.some.injEq, Prod.mk.injEq] at h
      obtain ⟨rfl, rfl⟩ := h
      exact cc_ H s hc
    · simp only [if_neg hc, reduceCtorEq] at h
  · cases h
theorem c_impl_NameOk : C_impl_NameOk := by
  intro H s hs
  refine ACall.body Tryd.func71 rfl rfl (rs := [.tmp 2]) rfl (n := 60) rfl (by decide) (by simp) ?_
  refine awp_rseq G2_ok (by simp only [go_sem, Nat.reduceBEq, ↓reduceIte, Bool.false_eq_true, Nat.reduceAdd, Nat.reduceMul, Nat.reduceLeDiff]; try rfl) ?_
  refine awp_assoc ?_
  refine awp_rseq G2_ok (by simp only [go_sem, Nat.reduceBEq, ↓reduceIte, Bool.false_eq_true, Nat.reduceAdd, Nat.reduceMul, Nat.reduceLeDiff]; try rfl) ?_
  refine awp_sblock ?_
  refine awp_loop (fun e H' => e 0 = .string s ∧ e 6 = .int .i64 s.size ∧ ∃ i : Nat, e 7 = .int .i64 i ∧ i ≤ s.size ∧ H' = H ∧ nameFrom s 0 = nameFrom s i) (fun e _ => gap s.size (e 7)) ?_ ?_
  · refine ⟨(by simp only [go_sem, Nat.reduceBEq, ↓reduceIte, Bool.false_eq_true, Nat.reduceAdd, Nat.reduceMul, Nat.reduceLeDiff]; try rfl), (by simp only [go_sem, Nat.reduceBEq, ↓reduceIte, Bool.false_eq_true, Nat.reduceAdd, Nat.reduceMul, Nat.reduceLeDiff]; try rfl), 0, (by simp only [go_sem, Nat.reduceBEq, ↓reduceIte, Bool.false_eq_true, Nat.reduceAdd, Nat.reduceMul, Nat.reduceLeDiff]; try rfl), Nat.zero_le _, rfl, rfl⟩
  · rintro e H' ⟨h0, h6, i, h7, hi, rfl, hn⟩
    refine awp_rseq G2_ok (by simp only [go_sem, Nat.reduceBEq, ↓reduceIte, Bool.false_eq_true, Nat.reduceAdd, Nat.reduceMul, Nat.reduceLeDiff, h6, h7]; try rfl) ?_
    refine awp_scond (by simp only [go_sem, Nat.reduceBEq, ↓reduceIte, Bool.false_eq_true, Nat.reduceAdd, Nat.reduceMul, Nat.reduceLeDiff]; try rfl) (fun ht => awp_sskip ?_) (fun ht => awp_sexitL ?_)
    · have hlt : (i : Int) < s.size := of_decide_eq_true ht
      have w1 : IntKind.i64.wrap ((i : Int) + 1) = ((i + 1 : Nat) : Int) := int_wrap _ (by omega) (by unfold Small at hs; omega)
      refine awp_sblock ?_
      refine awp_rseq G2_ok (by simp only [go_sem, Nat.reduceBEq, ↓reduceIte, Bool.false_eq_true, Nat.reduceAdd, Nat.reduceMul, Nat.reduceLeDiff, h7]; try rfl) ?_
      refine awp_rseq G2_ok (by simp only [go_sem, Nat.reduceBEq, ↓reduceIte, Bool.false_eq_true, Nat.reduceAdd, Nat.reduceMul, Nat.reduceLeDiff, h0, idx_str un9 _ _ _ (Int.natCast_nonneg i) hlt]; try rfl) ?_
      refine awp_rseq G2_ok (by simp (contextual := true) only [go_sem, Nat.reduceBEq, ↓reduceIte, Bool.false_eq_true, Nat.reduceAdd, Nat.reduceMul, Nat.reduceLeDiff]; try rfl) ?_
      refine awp_cond (by simp only [go_sem, Nat.reduceBEq, ↓reduceIte, Bool.false_eq_true, Nat.reduceAdd, Nat.reduceMul, Nat.reduceLeDiff]; try rfl) (fun ht => ?_) (fun ht => awp_skipB ?_)
      · refine awp_rseq G2_ok (by simp only [go_sem, Nat.reduceBEq, ↓reduceIte, Bool.false_eq_true, Nat.reduceAdd, Nat.reduceMul, Nat.reduceLeDiff]; try rfl) ?_
        refine awp_ret ⟨_, (by simp only [go_sem, Nat.reduceBEq, ↓reduceIte, Bool.false_eq_true, Nat.reduceAdd, Nat.reduceMul, Nat.reduceLeDiff]; try rfl), ?_⟩
        have hc : nameC (bt s i) = false := bnt ht
        have : nameOk s = false := by
          unfold nameOk
          rw [hn]
          unfold nameFrom
          rw [if_pos (by omega), hc]; rfl
        rw [this]; exact ⟨rfl, rfl⟩
      · have hc : nameC (bt s i) = true := bnf ht
        refine awp_reg G2_ok (by simp only [go_sem, Nat.reduceBEq, ↓reduceIte, Bool.false_eq_true, Nat.reduceAdd, Nat.reduceMul, Nat.reduceLeDiff, h7, w1]; try rfl) ?_
        refine ⟨⟨(by simp only [go_sem, Nat.reduceBEq, ↓reduceIte, Bool.false_eq_true, Nat.reduceAdd, Nat.reduceMul, Nat.reduceLeDiff, h0]; try rfl), (by simp only [go_sem, Nat.reduceBEq, ↓reduceIte, Bool.false_eq_true, Nat.reduceAdd, Nat.reduceMul, Nat.reduceLeDiff, h6]; try rfl), i + 1, (by simp only [go_sem, Nat.reduceBEq, ↓reduceIte, Bool.false_eq_true, Nat.reduceAdd, Nat.reduceMul, Nat.reduceLeDiff]; try rfl), by omega, rfl, ?_⟩, ?_⟩
        · rw [hn]
          conv => lhs; unfold nameFrom
          rw [if_pos (by omega), hc]; rfl
        · simp only [go_sem, Nat.reduceBEq, ↓reduceIte, Bool.false_eq_true, Nat.reduceAdd, Nat.reduceMul, Nat.reduceLeDiff, h7]; omega
    · have hie : i = s.size := by have := of_decide_eq_false ht; omega
      have hall : nameFrom s 0 = true := by
        rw [hn]; unfold nameFrom; rw [if_neg (by omega)]
      refine awp_rseq G2_ok (by simp (contextual := true) only [go_sem, Nat.reduceBEq, ↓reduceIte, Bool.false_eq_true, Nat.reduceAdd, Nat.reduceMul, Nat.reduceLeDiff, h0]; try rfl) ?_
      refine awp_ret ⟨_, (by simp only [go_sem, Nat.reduceBEq, ↓reduceIte, Bool.false_eq_true, Nat.reduceAdd, Nat.reduceMul, Nat.reduceLeDiff]; try rfl), ?_⟩
      refine ⟨?_, rfl⟩
      simp [nameOk, hall, one]
def G3 : Gam := fun g args H => match g with
  | 71 => F_impl_NameOk args H
  | _ => G2 g args H
theorem G3_ok : GOk Tryd.prog G3 := by
  intro g args H x H2 h
  unfold G3 at h
  split at h
  · exact ok_impl_NameOk c_impl_NameOk _ _ _ _ h
  · exact G2_ok _ _ _ _ _ h
@[go_sem] theorem G3_40 (args : List Value) (H : AHeap) : G3 40 args H = F_strings_Join args H := id rfl
@[go_sem] theorem G3_25 (args : List Value) (H : AHeap) : G3 25 args H = F_strings_Split args H := id rfl
@[go_sem] theorem G3_64 (args : List Value) (H : AHeap) : G3 64 args H = F_strconv_Atoi args H := id rfl
@[go_sem] theorem G3_65 (args : List Value) (H : AHeap) : G3 65 args H = F_strings_IndexByte args H := id rfl
@[go_sem] theorem G3_50 (args : List Value) (H : AHeap) : G3 50 args H = F_strings_Contains args H := id rfl
@[go_sem] theorem G3_63 (args : List Value) (H : AHeap) : G3 63 args H = F_strings_Index args H := id rfl
@[go_sem] theorem G3_62 (args : List Value) (H : AHeap) : G3 62 args H = F_strings_Count args H := id rfl
@[go_sem] theorem G3_70 (args : List Value) (H : AHeap) : G3 70 args H = F_strings_Compare args H := id rfl
@[go_sem] theorem G3_58 (args : List Value) (H : AHeap) : G3 58 args H = F_strconv_Itoa args H := id rfl
@[go_sem] theorem G3_49 (args : List Value) (H : AHeap) : G3 49 args H = F_impl_within args H := id rfl
@[go_sem] theorem G3_41 (args : List Value) (H : AHeap) : G3 41 args H = F_impl_DecText args H := id rfl
@[go_sem] theorem G3_43 (args : List Value) (H : AHeap) : G3 43 args H = F_spec_l01In args H := id rfl
@[go_sem] theorem G3_22 (args : List Value) (H : AHeap) : G3 22 args H = F_spec_l01Split args H := id rfl
@[go_sem] theorem G3_71 (args : List Value) (H : AHeap) : G3 71 args H = F_impl_NameOk args H := id rfl
def F_impl_Names : List Value → AHeap → Option (Value × AHeap)
  | [.string s], H => some (slV H ((namesOf s).map strRow), slH H 1 ((namesOf s).map strRow))
  | _, _ => none
@[go_sem] theorem F_impl_Names_at (H : AHeap) (s : ByteArray)   : F_impl_Names [.string s] H = some (slV H ((namesOf s).map strRow), slH H 1 ((namesOf s).map strRow)) := id rfl
abbrev C_impl_Names : Prop := ∀ (H : AHeap) (s : ByteArray)  , ACall Tryd.prog 55 [.string s] H fun v H2 => v = (slV H ((namesOf s).map strRow) : Value) ∧ H2 = slH H 1 ((namesOf s).map strRow)
theorem ok_impl_Names (cc_ : C_impl_Names) : FOk Tryd.prog 55 F_impl_Names := by
  intro args H x H2 h
  unfold F_impl_Names at h
  split at h
  · rename_i s
    cases h
    exact cc_ H s
  · cases h
theorem c_impl_Names : C_impl_Names := by
  intro H s
  refine ACall.wf fun wf => ACall.slv _ (fun es h => by obtain ⟨l, _, rfl⟩ := Option.map_eq_some_iff.1 h; exact (strRow_flat _).c) ?_
  refine ACall.body Tryd.func55 rfl rfl (rs := [.tmp 2]) rfl (n := 25) rfl (by decide) (by simp) ?_
  refine awp_rseq G3_ok (by simp only [go_sem, Nat.reduceBEq, ↓reduceIte, Bool.false_eq_true, Nat.reduceAdd, Nat.reduceMul, Nat.reduceLeDiff]; try rfl) ?_
  refine awp_assoc ?_
  refine awp_rseq G3_ok (by simp only [go_sem, Nat.reduceBEq, ↓reduceIte, Bool.false_eq_true, Nat.reduceAdd, Nat.reduceMul, Nat.reduceLeDiff]; try rfl) ?_
  refine awp_scond (by simp only [go_sem, Nat.reduceBEq, ↓reduceIte, Bool.false_eq_true, Nat.reduceAdd, Nat.reduceMul, Nat.reduceLeDiff]; try rfl) (fun ht => ?_) (fun ht => awp_sskip ?_)
  · have hgt : 168 < s.size := by have := of_decide_eq_true ht; omega
    refine awp_assoc ?_
    refine awp_rseq G3_ok (by simp only [go_sem, Nat.reduceBEq, ↓reduceIte, Bool.false_eq_true, Nat.reduceAdd, Nat.reduceMul, Nat.reduceLeDiff]; try rfl) ?_
    refine awp_sret ⟨_, (by simp only [go_sem, Nat.reduceBEq, ↓reduceIte, Bool.false_eq_true, Nat.reduceAdd, Nat.reduceMul, Nat.reduceLeDiff]; try rfl), ?_⟩
    have hn : namesOf s = none := by unfold namesOf; rw [if_pos hgt]
    rw [hn]
    exact ⟨rfl, Ext.refl _⟩
  have hle : ¬ 168 < s.size := by have := of_decide_eq_false ht; omega
  have hsz : s.size < 4294967281 := by omega
  refine awp_rseq G3_ok (by simp only [go_sem, Nat.reduceBEq, ↓reduceIte, Bool.false_eq_true, Nat.reduceAdd, Nat.reduceMul, Nat.reduceLeDiff, F_strings_Split_at _ _ _ hsz]; try rfl) ?_
  refine awp_assoc ?_
  refine awp_rseq G3_ok (by simp only [go_sem, Nat.reduceBEq, ↓reduceIte, Bool.false_eq_true, Nat.reduceAdd, Nat.reduceMul, Nat.reduceLeDiff, lenA_sl kd51 (slLen_mk _ _ _)]; try rfl) ?_
  refine awp_scond (by simp only [go_sem, Nat.reduceBEq, ↓reduceIte, Bool.false_eq_true, Nat.reduceAdd, Nat.reduceMul, Nat.reduceLeDiff]; try rfl) (fun ht => ?_) (fun ht => awp_sskip ?_)
  · have hgt : 8 < (splitC s 47).length := by have := of_decide_eq_true ht; rw [strRow_len] at this; simp at this; omega
    refine awp_assoc ?_
    refine awp_rseq G3_ok (by simp only [go_sem, Nat.reduceBEq, ↓reduceIte, Bool.false_eq_true, Nat.reduceAdd, Nat.reduceMul, Nat.reduceLeDiff]; try rfl) ?_
    refine awp_sret ⟨_, (by simp only [go_sem, Nat.reduceBEq, ↓reduceIte, Bool.false_eq_true, Nat.reduceAdd, Nat.reduceMul, Nat.reduceLeDiff]; try rfl), ?_⟩
    have hn : namesOf s = none := by unfold namesOf; rw [if_neg hle, if_pos hgt]
    rw [hn]
    exact ⟨rfl, (Ext.refl _).push wf _⟩
  have hle2 : ¬ 8 < (splitC s 47).length := by have := of_decide_eq_false ht; rw [strRow_len] at this; simp at this; omega
  refine awp_assoc ?_
  refine awp_rseq G3_ok (by simp only [go_sem, Nat.reduceBEq, ↓reduceIte, Bool.false_eq_true, Nat.reduceAdd, Nat.reduceMul, Nat.reduceLeDiff, lenA_sl kd51 (slLen_mk _ _ _)]; try rfl) ?_
  have hsm : ∀ x ∈ splitC s 47, x.size ≤ 168 := fun x hx => Nat.le_trans (splitAt_size s 47 0 0 x hx) (by omega)
  have hno : namesOf s = if (splitC s 47).all nameOk then some (splitC s 47) else none := by unfold namesOf; rw [if_neg hle, if_neg hle2]
  have h47 : ((47 : UInt8).toNat : Int) = 47 := rfl
  simp only [h47]
  generalize splitC s 47 = l at *
  rw [hno]
  refine awp_sblock ?_
  refine awp_loop (fun e H' => e 3 = .slice (some ⟨H.next, 0, none⟩) (strRow l).length 1 ∧ e 14 = .slice (some ⟨H.next, 0, none⟩) (strRow l).length 1 ∧ e 15 = .int .i64 (strRow l).length ∧
    ∃ i : Nat, e 16 = .int .i64 i ∧ i ≤ l.length ∧ H' = H.push (.row 1 (strRow l) true) ∧ (l.take i).all nameOk = true) (fun e _ => gap l.length (e 16)) ?_ ?_
  · refine ⟨(by simp only [go_sem, Nat.reduceBEq, ↓reduceIte, Bool.false_eq_true, Nat.reduceAdd, Nat.reduceMul, Nat.reduceLeDiff]; try rfl), (by simp only [go_sem, Nat.reduceBEq, ↓reduceIte, Bool.false_eq_true, Nat.reduceAdd, Nat.reduceMul, Nat.reduceLeDiff]; try rfl), (by simp only [go_sem, Nat.reduceBEq, ↓reduceIte, Bool.false_eq_true, Nat.reduceAdd, Nat.reduceMul, Nat.reduceLeDiff]; try rfl), 0, (by simp only [go_sem, Nat.reduceBEq, ↓reduceIte, Bool.false_eq_true, Nat.reduceAdd, Nat.reduceMul, Nat.reduceLeDiff]; try rfl), Nat.zero_le _, rfl, rfl⟩
  · rintro e H' ⟨h3, h14, h15, i, h16, hi, rfl, hall⟩
    refine awp_rseq G3_ok (by simp only [go_sem, Nat.reduceBEq, ↓reduceIte, Bool.false_eq_true, Nat.reduceAdd, Nat.reduceMul, Nat.reduceLeDiff, h15, h16]; try rfl) ?_
    refine awp_scond (by simp only [go_sem, Nat.reduceBEq, ↓reduceIte, Bool.false_eq_true, Nat.reduceAdd, Nat.reduceMul, Nat.reduceLeDiff]; try rfl) (fun ht => awp_sskip ?_) (fun ht => awp_sexitL ?_)
    · have hlt : i < l.length := by have := of_decide_eq_true ht; rw [strRow_len] at this; omega
      have w1 : IntKind.i64.wrap ((i : Int) + 1) = ((i + 1 : Nat) : Int) := int_wrap _ (by omega) (by omega)
      have hix := idxA_row sl51 (c := 1) (o := 0) (push_at H (.row 1 (strRow l) true)) (Int.natCast_nonneg i) (n := (strRow l).length) (by rw [strRow_len]; omega)
      have hld := loadA_one ty9 rfl (push_at H (.row 1 (strRow l) true)) (i := 0 + i) (j := 0) (by rw [Nat.zero_add]; exact strRow_get l i hlt) rfl
      have hs1 : Small l[i] := Nat.le_trans (hsm _ (List.getElem_mem hlt)) (by decide)
      have htk : (l.take (i + 1)).all nameOk = ((l.take i).all nameOk && nameOk l[i]) := by rw [List.take_succ_eq_append_getElem hlt, List.all_append]; simp only [List.all_cons, List.all_nil, Bool.and_true]
      refine awp_sblock ?_
      refine awp_rseq G3_ok (by simp only [go_sem, Nat.reduceBEq, ↓reduceIte, Bool.false_eq_true, Nat.reduceAdd, Nat.reduceMul, Nat.reduceLeDiff, h14, h16, ixA_int, hix, strRow_get l i hlt]; try rfl) ?_
      refine awp_rseq G3_ok (by simp only [go_sem, Nat.reduceBEq, ↓reduceIte, Bool.false_eq_true, Nat.reduceAdd, Nat.reduceMul, Nat.reduceLeDiff, F_impl_NameOk_at _ _ hs1]; try rfl) ?_
      refine awp_cond (by simp only [go_sem, Nat.reduceBEq, ↓reduceIte, Bool.false_eq_true, Nat.reduceAdd, Nat.reduceMul, Nat.reduceLeDiff]; try rfl) (fun ht => ?_) (fun ht => awp_skipB ?_)
      · have hb := bnt ht
        refine awp_rseq G3_ok (by simp only [go_sem, Nat.reduceBEq, ↓reduceIte, Bool.false_eq_true, Nat.reduceAdd, Nat.reduceMul, Nat.reduceLeDiff]; try rfl) ?_
        refine awp_ret ⟨_, (by simp only [go_sem, Nat.reduceBEq, ↓reduceIte, Bool.false_eq_true, Nat.reduceAdd, Nat.reduceMul, Nat.reduceLeDiff]; try rfl), ?_⟩
        have : l.all nameOk = false := by
          rw [List.all_eq_false]
          exact ⟨l[i], List.getElem_mem hlt, by rw [hb]; simp⟩
        rw [this]
        exact ⟨rfl, (Ext.refl _).push wf _⟩
      · have hb := bnf ht
        refine awp_reg G3_ok (by simp only [go_sem, Nat.reduceBEq, ↓reduceIte, Bool.false_eq_true, Nat.reduceAdd, Nat.reduceMul, Nat.reduceLeDiff, h16, w1]; try rfl) ?_
        refine ⟨⟨(by simp only [go_sem, Nat.reduceBEq, ↓reduceIte, Bool.false_eq_true, Nat.reduceAdd, Nat.reduceMul, Nat.reduceLeDiff, h3]; try rfl), (by simp only [go_sem, Nat.reduceBEq, ↓reduceIte, Bool.false_eq_true, Nat.reduceAdd, Nat.reduceMul, Nat.reduceLeDiff, h14]; try rfl), (by simp only [go_sem, Nat.reduceBEq, ↓reduceIte, Bool.false_eq_true, Nat.reduceAdd, Nat.reduceMul, Nat.reduceLeDiff, h15]; try rfl), i + 1, (by simp only [go_sem, Nat.reduceBEq, ↓reduceIte, Bool.false_eq_true, Nat.reduceAdd, Nat.reduceMul, Nat.reduceLeDiff]; try rfl), by omega, rfl, by rw [htk, hall, hb]; rfl⟩, ?_⟩
        simp only [go_sem, Nat.reduceBEq, ↓reduceIte, Bool.false_eq_true, Nat.reduceAdd, Nat.reduceMul, Nat.reduceLeDiff, h16]; omega
    · have hie : i = l.length := by have := of_decide_eq_false ht; rw [strRow_len] at this; omega
      refine awp_rseq G3_ok (by simp only [go_sem, Nat.reduceBEq, ↓reduceIte, Bool.false_eq_true, Nat.reduceAdd, Nat.reduceMul, Nat.reduceLeDiff, h3]; try rfl) ?_
      refine awp_ret ⟨_, (by simp only [go_sem, Nat.reduceBEq, ↓reduceIte, Bool.false_eq_true, Nat.reduceAdd, Nat.reduceMul, Nat.reduceLeDiff]; try rfl), ?_⟩
      have : l.all nameOk = true := by rw [hie, List.take_length] at hall; exact hall
      rw [this]
      exact Buf.fresh wf wf (Ext.refl _) 1 _ rfl 1
def G4 : Gam := fun g args H => match g with
  | 55 => F_impl_Names args H
  | _ => G3 g args H
theorem G4_ok : GOk Tryd.prog G4 := by
  intro g args H x H2 h
  unfold G4 at h
  split at h
  · exact ok_impl_Names c_impl_Names _ _ _ _ h
  · exact G3_ok _ _ _ _ _ h
@[go_sem] theorem G4_40 (args : List Value) (H : AHeap) : G4 40 args H = F_strings_Join args H := id rfl
@[go_sem] theorem G4_25 (args : List Value) (H : AHeap) : G4 25 args H = F_strings_Split args H := id rfl
@[go_sem] theorem G4_64 (args : List Value) (H : AHeap) : G4 64 args H = F_strconv_Atoi args H := id rfl
@[go_sem] theorem G4_65 (args : List Value) (H : AHeap) : G4 65 args H = F_strings_IndexByte args H := id rfl
@[go_sem] theorem G4_50 (args : List Value) (H : AHeap) : G4 50 args H = F_strings_Contains args H := id rfl
@[go_sem] theorem G4_63 (args : List Value) (H : AHeap) : G4 63 args H = F_strings_Index args H := id rfl
@[go_sem] theorem G4_62 (args : List Value) (H : AHeap) : G4 62 args H = F_strings_Count args H := id rfl
@[go_sem] theorem G4_70 (args : List Value) (H : AHeap) : G4 70 args H = F_strings_Compare args H := id rfl
@[go_sem] theorem G4_58 (args : List Value) (H : AHeap) : G4 58 args H = F_strconv_Itoa args H := id rfl
@[go_sem] theorem G4_49 (args : List Value) (H : AHeap) : G4 49 args H = F_impl_within args H := id rfl
@[go_sem] theorem G4_41 (args : List Value) (H : AHeap) : G4 41 args H = F_impl_DecText args H := id rfl
@[go_sem] theorem G4_43 (args : List Value) (H : AHeap) : G4 43 args H = F_spec_l01In args H := id rfl
@[go_sem] theorem G4_22 (args : List Value) (H : AHeap) : G4 22 args H = F_spec_l01Split args H := id rfl
@[go_sem] theorem G4_71 (args : List Value) (H : AHeap) : G4 71 args H = F_impl_NameOk args H := id rfl
@[go_sem] theorem G4_55 (args : List Value) (H : AHeap) : G4 55 args H = F_impl_Names args H := id rfl
theorem slH_ext {H : AHeap} (wf : WF H) (z : Nat) (o : Option (List (List Value))) : Ext H (slH H z o) := by
  cases o with
  | none => exact Ext.refl _
  | some es => exact (Ext.refl _).push wf _
def F_impl_PathOk : List Value → AHeap → Option (Value × AHeap)
  | [.string s], H => some (.bool (pathOk s), H)
  | _, _ => none
@[go_sem] theorem F_impl_PathOk_at (H : AHeap) (s : ByteArray)   : F_impl_PathOk [.string s] H = some (.bool (pathOk s), H) := id rfl
abbrev C_impl_PathOk : Prop := ∀ (H : AHeap) (s : ByteArray)  , ACall Tryd.prog 48 [.string s] H fun v H2 => v = (.bool (pathOk s) : Value) ∧ H2 = H
theorem ok_impl_PathOk (cc_ : C_impl_PathOk) : FOk Tryd.prog 48 F_impl_PathOk := by
  intro args H x H2 h
  unfold F_impl_PathOk at h
  split at h
  · rename_i s
    cases h
    exact cc_ H s
  · cases h
theorem c_impl_PathOk : C_impl_PathOk := by
  intro H s
  refine ACall.wf fun wf => ACall.quiet rfl ?_
  refine ACall.body Tryd.func48 rfl rfl (rs := [.tmp 2]) rfl (n := 7) rfl (by decide) (by simp) ?_
  refine awp_rseq G4_ok (by simp only [go_sem, Nat.reduceBEq, ↓reduceIte, Bool.false_eq_true, Nat.reduceAdd, Nat.reduceMul, Nat.reduceLeDiff]; try rfl) ?_
  refine awp_rseq G4_ok (by simp only [go_sem, Nat.reduceBEq, ↓reduceIte, Bool.false_eq_true, Nat.reduceAdd, Nat.reduceMul, Nat.reduceLeDiff, lenA_sl kd51 (slV_len _ _)]; try rfl) ?_
  refine awp_ret ⟨_, (by simp only [go_sem, Nat.reduceBEq, ↓reduceIte, Bool.false_eq_true, Nat.reduceAdd, Nat.reduceMul, Nat.reduceLeDiff]; try rfl), ?_⟩
  rw [namesOf_len]
  exact ⟨rfl, slH_ext wf _ _⟩
theorem un_err : Tryd.prog.underlying 46 = some (.interface #[("Error", 50)]) := by kernel_rfl
theorem atoiN_bounds (s : ByteArray) : -9223372036854775808 ≤ atoiN s ∧ atoiN s ≤ 9223372036854775807 := by
  unfold atoiN
  split
  · rename_i v h; exact Lib.atoiAll_bounds h
  · exact Lib.atoiSat_bounds _
  · decide
def F_impl_decimal : List Value → AHeap → Option (Value × AHeap)
  | [.string s], H => if s.size ≤ 281474976710656 then some (.tuple [.int .i64 (atoiN s), .bool (atoiOk s && decide (itoaS (atoiN s) = s))].toArray, H) else none
  | _, _ => none
@[go_sem] theorem F_impl_decimal_at (H : AHeap) (s : ByteArray)   (hc : s.size ≤ 281474976710656) : F_impl_decimal [.string s] H = some (.tuple [.int .i64 (atoiN s), .bool (atoiOk s && decide (itoaS (atoiN s) = s))].toArray, H) := by simp only [F_impl_decimal, if_pos hc, Option.bind_some]
abbrev C_impl_decimal : Prop := ∀ (H : AHeap) (s : ByteArray)   (hc : s.size ≤ 281474976710656), ACall Tryd.prog 46 [.string s] H fun v H2 => v = (.tuple [.int .i64 (atoiN s), .bool (atoiOk s && decide (itoaS (atoiN s) = s))].toArray : Value) ∧ H2 = H
theorem ok_impl_decimal (cc_ : C_impl_decimal) : FOk Tryd.prog 46 F_impl_decimal := by
  intro args H x H2 h
  unfold F_impl_decimal at h
  split at h
  · rename_i s
    by_cases hc : s.size ≤ 281474976710656
    · simp only [if_pos hc, Option.some.injEq, Prod.mk.injEq] at h
      obtain ⟨rfl, rfl⟩ := h
      exact cc_ H s hc
    · simp only [if_neg hc, reduceCtorEq] at h
  · cases h
theorem c_impl_decimal : C_impl_decimal := by
  intro H s hc
  refine ACall.body Tryd.func46 rfl rfl (rs := [.tmp 2, .tmp 3]) rfl (n := 20) rfl (by decide) (by simp) ?_
  refine awp_rseq G4_ok (by simp only [go_sem, Nat.reduceBEq, ↓reduceIte, Bool.false_eq_true, Nat.reduceAdd, Nat.reduceMul, Nat.reduceLeDiff]; try rfl) ?_
  refine awp_rseq G4_ok (by simp only [go_sem, Nat.reduceBEq, ↓reduceIte, Bool.false_eq_true, Nat.reduceAdd, Nat.reduceMul, Nat.reduceLeDiff, F_strconv_Atoi_at _ _ hc]; try rfl) ?_
  cases hok : atoiOk s with
  | true =>
    refine awp_rseq G4_ok (by simp (contextual := true) only [go_sem, Nat.reduceBEq, ↓reduceIte, Bool.false_eq_true, Nat.reduceAdd, Nat.reduceMul, Nat.reduceLeDiff, hok, errV, bin_eql_nilIface _ _ _ _ un_err, F_strconv_Itoa_at _ _ (atoiN_bounds s)]; try rfl) ?_
    refine awp_ret ⟨_, (by simp only [go_sem, Nat.reduceBEq, ↓reduceIte, Bool.false_eq_true, Nat.reduceAdd, Nat.reduceMul, Nat.reduceLeDiff]; try rfl), ?_⟩
    exact ⟨rfl, rfl⟩
  | false =>
    refine awp_rseq G4_ok (by simp (contextual := true) only [go_sem, Nat.reduceBEq, ↓reduceIte, Bool.false_eq_true, Nat.reduceAdd, Nat.reduceMul, Nat.reduceLeDiff, hok, errV, bin_eql_iface _ _ _ _ _ _ un_err]; try rfl) ?_
    refine awp_ret ⟨_, (by simp only [go_sem, Nat.reduceBEq, ↓reduceIte, Bool.false_eq_true, Nat.reduceAdd, Nat.reduceMul, Nat.reduceLeDiff]; try rfl), ?_⟩
    exact ⟨rfl, rfl⟩
end Go.Proofs.YtaikkfdnbihbiaaDoor
