/- l01, l20 of the reference, further: the walks. -/
import Derived.Test.YtaikkfdnbihbiaaDoorL08
namespace Go.Proofs.YtaikkfdnbihbiaaDoor
set_option linter.unusedVariables false
set_option linter.unusedSimpArgs false
set_option maxRecDepth 8000
open Go Go.AK Go.RowKit
def G17 : Gam := fun g args H => match g with
  | 33 => F_spec_DecText args H
  | _ => G16 g args H
theorem G17_ok : GOk Tryd.prog G17 := by
  intro g args H x H2 h
  unfold G17 at h
  split at h
  · exact ok_spec_DecText c_spec_DecText _ _ _ _ h
  · exact G16_ok _ _ _ _ _ h
@[go_sem] theorem G17_40 (args : List Value) (H : AHeap) : G17 40 args H = F_strings_Join args H := id rfl
@[go_sem] theorem G17_64 (args : List Value) (H : AHeap) : G17 64 args H = F_strconv_Atoi args H := id rfl
@[go_sem] theorem G17_65 (args : List Value) (H : AHeap) : G17 65 args H = F_strings_IndexByte args H := id rfl
@[go_sem] theorem G17_50 (args : List Value) (H : AHeap) : G17 50 args H = F_strings_Contains args H := id rfl
@[go_sem] theorem G17_63 (args : List Value) (H : AHeap) : G17 63 args H = F_strings_Index args H := id rfl
@[go_sem] theorem G17_62 (args : List Value) (H : AHeap) : G17 62 args H = F_strings_Count args H := id rfl
@[go_sem] theorem G17_70 (args : List Value) (H : AHeap) : G17 70 args H = F_strings_Compare args H := id rfl
@[go_sem] theorem G17_58 (args : List Value) (H : AHeap) : G17 58 args H = F_strconv_Itoa args H := id rfl
@[go_sem] theorem G17_49 (args : List Value) (H : AHeap) : G17 49 args H = F_impl_within args H := id rfl
@[go_sem] theorem G17_41 (args : List Value) (H : AHeap) : G17 41 args H = F_impl_DecText args H := id rfl
@[go_sem] theorem G17_43 (args : List Value) (H : AHeap) : G17 43 args H = F_spec_l01In args H := id rfl
@[go_sem] theorem G17_22 (args : List Value) (H : AHeap) : G17 22 args H = F_spec_l01Split args H := id rfl
@[go_sem] theorem G17_71 (args : List Value) (H : AHeap) : G17 71 args H = F_impl_NameOk args H := id rfl
@[go_sem] theorem G17_55 (args : List Value) (H : AHeap) : G17 55 args H = F_impl_Names args H := id rfl
@[go_sem] theorem G17_48 (args : List Value) (H : AHeap) : G17 48 args H = F_impl_PathOk args H := id rfl
@[go_sem] theorem G17_46 (args : List Value) (H : AHeap) : G17 46 args H = F_impl_decimal args H := id rfl
@[go_sem] theorem G17_59 (args : List Value) (H : AHeap) : G17 59 args H = F_impl_hexText args H := id rfl
@[go_sem] theorem G17_42 (args : List Value) (H : AHeap) : G17 42 args H = F_impl_hexOf args H := id rfl
@[go_sem] theorem G17_29 (args : List Value) (H : AHeap) : G17 29 args H = F_impl_NodeOk args H := id rfl
@[go_sem] theorem G17_47 (args : List Value) (H : AHeap) : G17 47 args H = F_impl_readHex args H := id rfl
@[go_sem] theorem G17_19 (args : List Value) (H : AHeap) : G17 19 args H = F_impl_showNode args H := id rfl
@[go_sem] theorem G17_26 (args : List Value) (H : AHeap) : G17 26 args H = F_impl_words_next args H := id rfl
@[go_sem] theorem G17_27 (args : List Value) (H : AHeap) : G17 27 args H = F_impl_words_number args H := id rfl
@[go_sem] theorem G17_28 (args : List Value) (H : AHeap) : G17 28 args H = F_impl_words_bytes args H := id rfl
@[go_sem] theorem G17_25 (args : List Value) (H : AHeap) : G17 25 args H = F_strings_Split_inl args H := id rfl
@[go_sem] theorem G17_11 (args : List Value) (H : AHeap) : G17 11 args H = F_impl_ReadNode args H := id rfl
@[go_sem] theorem G17_67 (args : List Value) (H : AHeap) : G17 67 args H = F_spec_NameOk args H := id rfl
@[go_sem] theorem G17_51 (args : List Value) (H : AHeap) : G17 51 args H = F_spec_PathOk args H := id rfl
@[go_sem] theorem G17_52 (args : List Value) (H : AHeap) : G17 52 args H = F_spec_Names_inl args H := id rfl
@[go_sem] theorem G17_66 (args : List Value) (H : AHeap) : G17 66 args H = F_spec_l02Names_inl args H := id rfl
@[go_sem] theorem G17_30 (args : List Value) (H : AHeap) : G17 30 args H = F_spec_NodeOk args H := id rfl
@[go_sem] theorem G17_33 (args : List Value) (H : AHeap) : G17 33 args H = F_spec_DecText args H := id rfl
def F_spec_DecNum : List Value → AHeap → Option (Value × AHeap)
  | [.string s, .int .i64 most], H => some (.tuple [.int .i64 (decNum s most).1, .bool (decNum s most).2].toArray, H)
  | _, _ => none
@[go_sem] theorem F_spec_DecNum_at (H : AHeap) (s : ByteArray) (most : Int)   : F_spec_DecNum [.string s, .int .i64 most] H = some (.tuple [.int .i64 (decNum s most).1, .bool (decNum s most).2].toArray, H) := id rfl
abbrev C_spec_DecNum : Prop := ∀ (H : AHeap) (s : ByteArray) (most : Int)  , ACall Tryd.prog 23 [.string s, .int .i64 most] H fun v H2 => v = (.tuple [.int .i64 (decNum s most).1, .bool (decNum s most).2].toArray : Value) ∧ H2 = H
theorem ok_spec_DecNum (cc_ : C_spec_DecNum) : FOk Tryd.prog 23 F_spec_DecNum := by
  intro args H x H2 h
  unfold F_spec_DecNum at h
  split at h
  · rename_i s most
    cases h
    exact cc_ H s most
  · cases h
theorem c_spec_DecNum : C_spec_DecNum := by
  intro H s most
  refine ACall.body Tryd.func23 rfl rfl (rs := [.tmp 4, .tmp 5]) rfl (n := 65) rfl (by decide) (by simp) ?_
  refine awp_rseq G17_ok (by simp only [go_sem, Nat.reduceBEq, ↓reduceIte, Bool.false_eq_true, Nat.reduceAdd, Nat.reduceMul, Nat.reduceLeDiff]; try rfl) ?_
  refine awp_assoc ?_
  refine awp_rseq G17_ok (by simp (contextual := true) only [go_sem, Nat.reduceBEq, ↓reduceIte, Bool.false_eq_true, Nat.reduceAdd, Nat.reduceMul, Nat.reduceLeDiff]; try rfl) ?_
  refine awp_scond (by simp only [go_sem, Nat.reduceBEq, ↓reduceIte, Bool.false_eq_true, Nat.reduceAdd, Nat.reduceMul, Nat.reduceLeDiff]; try rfl) (fun ht0 => ?_) (fun ht0 => ?_)
  · refine awp_assoc ?_
    refine awp_rseq G17_ok (by simp only [go_sem, Nat.reduceBEq, ↓reduceIte, Bool.false_eq_true, Nat.reduceAdd, Nat.reduceMul, Nat.reduceLeDiff]; try rfl) ?_
    refine awp_sret ⟨_, (by simp only [go_sem, Nat.reduceBEq, ↓reduceIte, Bool.false_eq_true, Nat.reduceAdd, Nat.reduceMul, Nat.reduceLeDiff]; try rfl), ?_⟩
    refine ⟨?_, rfl⟩
    have hd : decNum s most = (0, false) := by unfold decNum; rw [if_pos ht0]
    rw [hd]; rfl
  · refine awp_sskip ?_
    have hr := ht0
    simp only [Bool.or_eq_false_iff, Bool.not_eq_false', Bool.and_eq_true, decide_eq_true_eq, decide_eq_false_iff_not] at hr
    obtain ⟨⟨⟨hm0, hm1⟩, hz⟩, hs14⟩ := hr
    have hs14 : s.size ≤ 14 := by omega
    have hx0 := idx_str un9 .i64 s 0 (Int.le_refl 0) (by omega)
    refine awp_rseq G17_ok (by simp only [go_sem, Nat.reduceBEq, ↓reduceIte, Bool.false_eq_true, Nat.reduceAdd, Nat.reduceMul, Nat.reduceLeDiff]; try rfl) ?_
    refine awp_assoc ?_
    refine awp_rseq G17_ok (by simp only [go_sem, Nat.reduceBEq, ↓reduceIte, Bool.false_eq_true, Nat.reduceAdd, Nat.reduceMul, Nat.reduceLeDiff, hx0]; try rfl) ?_
    refine awp_scond (by simp only [go_sem, Nat.reduceBEq, ↓reduceIte, Bool.false_eq_true, Nat.reduceAdd, Nat.reduceMul, Nat.reduceLeDiff]; try rfl) (fun ht1 => ?_) (fun ht1 => ?_)
    · refine awp_rseq G17_ok (by simp only [go_sem, Nat.reduceBEq, ↓reduceIte, Bool.false_eq_true, Nat.reduceAdd, Nat.reduceMul, Nat.reduceLeDiff]; try rfl) ?_
      refine awp_rseq G17_ok (by simp only [go_sem, Nat.reduceBEq, ↓reduceIte, Bool.false_eq_true, Nat.reduceAdd, Nat.reduceMul, Nat.reduceLeDiff]; try rfl) ?_
      refine awp_assoc ?_
      refine awp_rseq G17_ok (by simp only [go_sem, Nat.reduceBEq, ↓reduceIte, Bool.false_eq_true, Nat.reduceAdd, Nat.reduceMul, Nat.reduceLeDiff]; try rfl) ?_
      refine awp_sblock ?_
      refine awp_loop (fun e H' => e 0 = .string s ∧ e 1 = .int .i64 most ∧ e 6 = .int .i64 1 ∧ ∃ i : Nat, ∃ a : Nat, e 8 = .int .i64 i ∧ e 7 = .int .i64 a ∧ (H' = H) ∧ (i ≤ s.size) ∧ (a < 10 ^ i) ∧ (digFrom s 1 0 = digFrom s i a)) (fun e H' => gap s.size (e 8)) ?_ ?_
      · refine ⟨(by simp only [go_sem, Nat.reduceBEq, ↓reduceIte, Bool.false_eq_true, Nat.reduceAdd, Nat.reduceMul, Nat.reduceLeDiff]; try rfl), (by simp only [go_sem, Nat.reduceBEq, ↓reduceIte, Bool.false_eq_true, Nat.reduceAdd, Nat.reduceMul, Nat.reduceLeDiff]; try rfl), (by simp only [go_sem, Nat.reduceBEq, ↓reduceIte, Bool.false_eq_true, Nat.reduceAdd, Nat.reduceMul, Nat.reduceLeDiff]; try rfl), 1, 0, (by simp only [go_sem, Nat.reduceBEq, ↓reduceIte, Bool.false_eq_true, Nat.reduceAdd, Nat.reduceMul, Nat.reduceLeDiff]; try rfl), (by simp only [go_sem, Nat.reduceBEq, ↓reduceIte, Bool.false_eq_true, Nat.reduceAdd, Nat.reduceMul, Nat.reduceLeDiff]; try rfl), ?_⟩
        exact ⟨rfl, by omega, by decide, rfl⟩
      · rintro e H' ⟨c0_0, c1_0, c6_0, i, a, v8_0, v7_0, rfl, hi, ha, hq⟩
        have h14 : s.size ≤ 14 := hs14
        refine awp_assoc ?_
        refine awp_rseq G17_ok (by simp only [go_sem, Nat.reduceBEq, ↓reduceIte, Bool.false_eq_true, Nat.reduceAdd, Nat.reduceMul, Nat.reduceLeDiff, c0_0, c1_0, c6_0, v8_0, v7_0]; try rfl) ?_
        refine awp_scond (by simp only [go_sem, Nat.reduceBEq, ↓reduceIte, Bool.false_eq_true, Nat.reduceAdd, Nat.reduceMul, Nat.reduceLeDiff, c0_0, c1_0, c6_0, v8_0, v7_0]; try rfl) (fun ht2 => ?_) (fun ht2 => ?_)
        · refine awp_sskip ?_
          refine awp_sblock ?_
          have hlt : (i : Int) < s.size := of_decide_eq_true (by assumption)
          have b0 := bt_lo s i
          have b1 := bt_hi s i
          have hp := pow10_le (i := i) (by omega)
          have wc : IntKind.i64.wrap (bt s i) = bt s i := int_wrap _ (by omega) (by omega)
          have wd : IntKind.i64.wrap (bt s i - 48) = bt s i - 48 := int_wrap _ (by omega) (by omega)
          have wi : IntKind.i64.wrap ((i : Int) + 1) = ((i + 1 : Nat) : Int) := int_wrap _ (by omega) (by omega)
          have hx := idx_str un9 .i64 s i (Int.natCast_nonneg i) hlt
          refine awp_rseq G17_ok (by simp only [go_sem, Nat.reduceBEq, ↓reduceIte, Bool.false_eq_true, Nat.reduceAdd, Nat.reduceMul, Nat.reduceLeDiff, wc, wd, hx, c0_0, c1_0, c6_0, v8_0, v7_0]; try rfl) ?_
          refine awp_assoc ?_
          refine awp_rseq G17_ok (by simp only [go_sem, Nat.reduceBEq, ↓reduceIte, Bool.false_eq_true, Nat.reduceAdd, Nat.reduceMul, Nat.reduceLeDiff, c0_0, c1_0, c6_0, v8_0, v7_0]; try rfl) ?_
          refine awp_scond (by simp only [go_sem, Nat.reduceBEq, ↓reduceIte, Bool.false_eq_true, Nat.reduceAdd, Nat.reduceMul, Nat.reduceLeDiff, c0_0, c1_0, c6_0, v8_0, v7_0]; try rfl) (fun ht3 => ?_) (fun ht3 => ?_)
          · refine awp_assoc ?_
            refine awp_rseq G17_ok (by simp only [go_sem, Nat.reduceBEq, ↓reduceIte, Bool.false_eq_true, Nat.reduceAdd, Nat.reduceMul, Nat.reduceLeDiff, c0_0, c1_0, c6_0, v8_0, v7_0]; try rfl) ?_
            refine awp_sret ⟨_, (by simp only [go_sem, Nat.reduceBEq, ↓reduceIte, Bool.false_eq_true, Nat.reduceAdd, Nat.reduceMul, Nat.reduceLeDiff, c0_0, c1_0, c6_0, v8_0, v7_0]; try rfl), ?_⟩
            refine ⟨?_, rfl⟩
            have hd : decNum s most = (0, false) := by
              unfold decNum
              rw [if_neg (by rw [ht0]; decide)]
              rw [if_pos (show decide (bt s 0 = 45) = true from ht1)]
              have hnone : digFrom s 1 0 = none := by rw [hq]; unfold digFrom; rw [if_pos (by omega), if_pos ht3]
              rw [hnone]
            rw [hd]; rfl
          · refine awp_sskip ?_
            have hdig : 0 ≤ bt s i - 48 ∧ bt s i - 48 ≤ 9 := by
              first
                | (have hh := ht8
                   simp only [Bool.not_eq_false', Bool.and_eq_true, decide_eq_true_eq] at hh
                   exact hh)
                | (have hh := ht3
                   simp only [Bool.not_eq_false', Bool.and_eq_true, decide_eq_true_eq] at hh
                   exact hh)
            have wa : IntKind.i64.wrap (10 * (a : Int)) = 10 * (a : Int) := int_wrap _ (by omega) (by omega)
            have wb : IntKind.i64.wrap (10 * (a : Int) + (bt s i - 48)) = ((10 * a + (bt s i - 48).toNat : Nat) : Int) := by rw [int_wrap _ (by omega) (by omega)]; omega
            refine awp_reg G17_ok (by simp only [go_sem, Nat.reduceBEq, ↓reduceIte, Bool.false_eq_true, Nat.reduceAdd, Nat.reduceMul, Nat.reduceLeDiff, wa, wb, c0_0, c1_0, c6_0, v8_0, v7_0]; try rfl) ?_
            show awp _ _ _ _ _ _
            refine awp_reg G17_ok (by simp only [go_sem, Nat.reduceBEq, ↓reduceIte, Bool.false_eq_true, Nat.reduceAdd, Nat.reduceMul, Nat.reduceLeDiff, wi, c0_0, c1_0, c6_0, v8_0, v7_0]; try rfl) ?_
            refine ⟨⟨(by simp only [go_sem, Nat.reduceBEq, ↓reduceIte, Bool.false_eq_true, Nat.reduceAdd, Nat.reduceMul, Nat.reduceLeDiff, c0_0, c1_0, c6_0, v8_0, v7_0]; try rfl), (by simp only [go_sem, Nat.reduceBEq, ↓reduceIte, Bool.false_eq_true, Nat.reduceAdd, Nat.reduceMul, Nat.reduceLeDiff, c0_0, c1_0, c6_0, v8_0, v7_0]; try rfl), (by simp only [go_sem, Nat.reduceBEq, ↓reduceIte, Bool.false_eq_true, Nat.reduceAdd, Nat.reduceMul, Nat.reduceLeDiff, c0_0, c1_0, c6_0, v8_0, v7_0]; try rfl), i + 1, 10 * a + (bt s i - 48).toNat, (by simp only [go_sem, Nat.reduceBEq, ↓reduceIte, Bool.false_eq_true, Nat.reduceAdd, Nat.reduceMul, Nat.reduceLeDiff, c0_0, c1_0, c6_0, v8_0, v7_0]; try rfl), (by simp only [go_sem, Nat.reduceBEq, ↓reduceIte, Bool.false_eq_true, Nat.reduceAdd, Nat.reduceMul, Nat.reduceLeDiff, c0_0, c1_0, c6_0, v8_0, v7_0]; try rfl), ?_⟩, ?_⟩
            · refine ⟨rfl, by omega, by rw [pow10_step]; omega, ?_⟩
              rw [hq]
              conv => lhs; unfold digFrom
              rw [if_pos (by omega), if_neg (by rw [ht3]; decide)]
            · simp only [go_sem, Nat.reduceBEq, ↓reduceIte, Bool.false_eq_true, Nat.reduceAdd, Nat.reduceMul, Nat.reduceLeDiff, c0_0, c1_0, c6_0, v8_0, v7_0]; omega
        · refine awp_sexitL ?_
          have hge : ¬ (i : Int) < s.size := of_decide_eq_false ht2
          have hp := pow10_le (i := i) (by omega)
          have hfin : digFrom s 1 0 = some a := by rw [hq]; unfold digFrom; rw [if_neg (by omega)]
          have wneg : IntKind.i64.wrap (-(a : Int)) = -(a : Int) := int_wrap _ (by omega) (by omega)
          have wmost : IntKind.i64.wrap (-most) = -most := int_wrap _ (by omega) (by omega)
          have hda : I64 (a : Int) := ⟨by omega, by omega⟩
          have hdn : I64 (-(a : Int)) := ⟨by omega, by omega⟩
          show awp _ _ _ _ _ _
          refine awp_assoc ?_
          refine awp_rseq G17_ok (by simp only [go_sem, Nat.reduceBEq, ↓reduceIte, Bool.false_eq_true, Nat.reduceAdd, Nat.reduceMul, Nat.reduceLeDiff, c0_0, c1_0, c6_0, v8_0, v7_0]; try rfl) ?_
          refine awp_scond (by simp only [go_sem, Nat.reduceBEq, ↓reduceIte, Bool.false_eq_true, Nat.reduceAdd, Nat.reduceMul, Nat.reduceLeDiff, c0_0, c1_0, c6_0, v8_0, v7_0]; try rfl) (fun ht4 => ?_) (fun ht4 => ?_)
          · refine awp_rseq G17_ok (by simp only [go_sem, Nat.reduceBEq, ↓reduceIte, Bool.false_eq_true, Nat.reduceAdd, Nat.reduceMul, Nat.reduceLeDiff, wneg, c0_0, c1_0, c6_0, v8_0, v7_0]; try rfl) ?_
            refine awp_assoc ?_
            refine awp_rseq G17_ok (by simp (contextual := true) only [go_sem, Nat.reduceBEq, ↓reduceIte, Bool.false_eq_true, Nat.reduceAdd, Nat.reduceMul, Nat.reduceLeDiff, wmost, F_spec_DecText_at _ _ hda, F_spec_DecText_at _ _ hdn, c0_0, c1_0, c6_0, v8_0, v7_0]; try rfl) ?_
            refine awp_scond (by simp only [go_sem, Nat.reduceBEq, ↓reduceIte, Bool.false_eq_true, Nat.reduceAdd, Nat.reduceMul, Nat.reduceLeDiff, c0_0, c1_0, c6_0, v8_0, v7_0]; try rfl) (fun ht5 => ?_) (fun ht5 => ?_)
            · refine awp_assoc ?_
              refine awp_rseq G17_ok (by simp only [go_sem, Nat.reduceBEq, ↓reduceIte, Bool.false_eq_true, Nat.reduceAdd, Nat.reduceMul, Nat.reduceLeDiff, c0_0, c1_0, c6_0, v8_0, v7_0]; try rfl) ?_
              refine awp_sret ⟨_, (by simp only [go_sem, Nat.reduceBEq, ↓reduceIte, Bool.false_eq_true, Nat.reduceAdd, Nat.reduceMul, Nat.reduceLeDiff, c0_0, c1_0, c6_0, v8_0, v7_0]; try rfl), ?_⟩
              refine ⟨?_, rfl⟩
              have hd : decNum s most = (0, false) := by
                unfold decNum
                rw [if_neg (by rw [ht0]; decide)]
                rw [if_pos (show decide (bt s 0 = 45) = true from ht1)]
                rw [hfin]
                exact if_pos ht5
              rw [hd]; rfl
            · refine awp_sskip ?_
              refine awp_rseq G17_ok (by simp only [go_sem, Nat.reduceBEq, ↓reduceIte, Bool.false_eq_true, Nat.reduceAdd, Nat.reduceMul, Nat.reduceLeDiff, c0_0, c1_0, c6_0, v8_0, v7_0]; try rfl) ?_
              refine awp_ret ⟨_, (by simp only [go_sem, Nat.reduceBEq, ↓reduceIte, Bool.false_eq_true, Nat.reduceAdd, Nat.reduceMul, Nat.reduceLeDiff, c0_0, c1_0, c6_0, v8_0, v7_0]; try rfl), ?_⟩
              refine ⟨?_, rfl⟩
              have hd : decNum s most = (-(a : Int), true) := by
                unfold decNum
                rw [if_neg (by rw [ht0]; decide)]
                rw [if_pos (show decide (bt s 0 = 45) = true from ht1)]
                rw [hfin]
                exact if_neg fun hh => Bool.noConfusion (ht5.symm.trans hh)
              rw [hd]; rfl
          · refine awp_sskip ?_
            refine awp_assoc ?_
            refine awp_rseq G17_ok (by simp (contextual := true) only [go_sem, Nat.reduceBEq, ↓reduceIte, Bool.false_eq_true, Nat.reduceAdd, Nat.reduceMul, Nat.reduceLeDiff, wmost, F_spec_DecText_at _ _ hda, F_spec_DecText_at _ _ hdn, c0_0, c1_0, c6_0, v8_0, v7_0]; try rfl) ?_
            refine awp_scond (by simp only [go_sem, Nat.reduceBEq, ↓reduceIte, Bool.false_eq_true, Nat.reduceAdd, Nat.reduceMul, Nat.reduceLeDiff, c0_0, c1_0, c6_0, v8_0, v7_0]; try rfl) (fun ht6 => ?_) (fun ht6 => ?_)
            · refine awp_assoc ?_
              refine awp_rseq G17_ok (by simp only [go_sem, Nat.reduceBEq, ↓reduceIte, Bool.false_eq_true, Nat.reduceAdd, Nat.reduceMul, Nat.reduceLeDiff, c0_0, c1_0, c6_0, v8_0, v7_0]; try rfl) ?_
              refine awp_sret ⟨_, (by simp only [go_sem, Nat.reduceBEq, ↓reduceIte, Bool.false_eq_true, Nat.reduceAdd, Nat.reduceMul, Nat.reduceLeDiff, c0_0, c1_0, c6_0, v8_0, v7_0]; try rfl), ?_⟩
              exact absurd ht4 (by decide)
            · refine awp_sskip ?_
              refine awp_rseq G17_ok (by simp only [go_sem, Nat.reduceBEq, ↓reduceIte, Bool.false_eq_true, Nat.reduceAdd, Nat.reduceMul, Nat.reduceLeDiff, c0_0, c1_0, c6_0, v8_0, v7_0]; try rfl) ?_
              refine awp_ret ⟨_, (by simp only [go_sem, Nat.reduceBEq, ↓reduceIte, Bool.false_eq_true, Nat.reduceAdd, Nat.reduceMul, Nat.reduceLeDiff, c0_0, c1_0, c6_0, v8_0, v7_0]; try rfl), ?_⟩
              exact absurd ht4 (by decide)
    · refine awp_sskip ?_
      refine awp_rseq G17_ok (by simp only [go_sem, Nat.reduceBEq, ↓reduceIte, Bool.false_eq_true, Nat.reduceAdd, Nat.reduceMul, Nat.reduceLeDiff]; try rfl) ?_
      refine awp_assoc ?_
      refine awp_rseq G17_ok (by simp only [go_sem, Nat.reduceBEq, ↓reduceIte, Bool.false_eq_true, Nat.reduceAdd, Nat.reduceMul, Nat.reduceLeDiff]; try rfl) ?_
      refine awp_sblock ?_
      refine awp_loop (fun e H' => e 0 = .string s ∧ e 1 = .int .i64 most ∧ e 6 = .int .i64 0 ∧ ∃ i : Nat, ∃ a : Nat, e 8 = .int .i64 i ∧ e 7 = .int .i64 a ∧ (H' = H) ∧ (i ≤ s.size) ∧ (a < 10 ^ i) ∧ (digFrom s 0 0 = digFrom s i a)) (fun e H' => gap s.size (e 8)) ?_ ?_
      · refine ⟨(by simp only [go_sem, Nat.reduceBEq, ↓reduceIte, Bool.false_eq_true, Nat.reduceAdd, Nat.reduceMul, Nat.reduceLeDiff]; try rfl), (by simp only [go_sem, Nat.reduceBEq, ↓reduceIte, Bool.false_eq_true, Nat.reduceAdd, Nat.reduceMul, Nat.reduceLeDiff]; try rfl), (by simp only [go_sem, Nat.reduceBEq, ↓reduceIte, Bool.false_eq_true, Nat.reduceAdd, Nat.reduceMul, Nat.reduceLeDiff]; try rfl), 0, 0, (by simp only [go_sem, Nat.reduceBEq, ↓reduceIte, Bool.false_eq_true, Nat.reduceAdd, Nat.reduceMul, Nat.reduceLeDiff]; try rfl), (by simp only [go_sem, Nat.reduceBEq, ↓reduceIte, Bool.false_eq_true, Nat.reduceAdd, Nat.reduceMul, Nat.reduceLeDiff]; try rfl), ?_⟩
        exact ⟨rfl, by omega, by decide, rfl⟩
      · rintro e H' ⟨c0_1, c1_1, c6_1, i, a, v8_1, v7_1, rfl, hi, ha, hq⟩
        have h14 : s.size ≤ 14 := hs14
        refine awp_assoc ?_
        refine awp_rseq G17_ok (by simp only [go_sem, Nat.reduceBEq, ↓reduceIte, Bool.false_eq_true, Nat.reduceAdd, Nat.reduceMul, Nat.reduceLeDiff, c0_1, c1_1, c6_1, v8_1, v7_1]; try rfl) ?_
        refine awp_scond (by simp only [go_sem, Nat.reduceBEq, ↓reduceIte, Bool.false_eq_true, Nat.reduceAdd, Nat.reduceMul, Nat.reduceLeDiff, c0_1, c1_1, c6_1, v8_1, v7_1]; try rfl) (fun ht7 => ?_) (fun ht7 => ?_)
        · refine awp_sskip ?_
          refine awp_sblock ?_
          have hlt : (i : Int) < s.size := of_decide_eq_true (by assumption)
          have b0 := bt_lo s i
          have b1 := bt_hi s i
          have hp := pow10_le (i := i) (by omega)
          have wc : IntKind.i64.wrap (bt s i) = bt s i := int_wrap _ (by omega) (by omega)
          have wd : IntKind.i64.wrap (bt s i - 48) = bt s i - 48 := int_wrap _ (by omega) (by omega)
          have wi : IntKind.i64.wrap ((i : Int) + 1) = ((i + 1 : Nat) : Int) := int_wrap _ (by omega) (by omega)
          have hx := idx_str un9 .i64 s i (Int.natCast_nonneg i) hlt
          refine awp_rseq G17_ok (by simp only [go_sem, Nat.reduceBEq, ↓reduceIte, Bool.false_eq_true, Nat.reduceAdd, Nat.reduceMul, Nat.reduceLeDiff, wc, wd, hx, c0_1, c1_1, c6_1, v8_1, v7_1]; try rfl) ?_
          refine awp_assoc ?_
          refine awp_rseq G17_ok (by simp only [go_sem, Nat.reduceBEq, ↓reduceIte, Bool.false_eq_true, Nat.reduceAdd, Nat.reduceMul, Nat.reduceLeDiff, c0_1, c1_1, c6_1, v8_1, v7_1]; try rfl) ?_
          refine awp_scond (by simp only [go_sem, Nat.reduceBEq, ↓reduceIte, Bool.false_eq_true, Nat.reduceAdd, Nat.reduceMul, Nat.reduceLeDiff, c0_1, c1_1, c6_1, v8_1, v7_1]; try rfl) (fun ht8 => ?_) (fun ht8 => ?_)
          · refine awp_assoc ?_
            refine awp_rseq G17_ok (by simp only [go_sem, Nat.reduceBEq, ↓reduceIte, Bool.false_eq_true, Nat.reduceAdd, Nat.reduceMul, Nat.reduceLeDiff, c0_1, c1_1, c6_1, v8_1, v7_1]; try rfl) ?_
            refine awp_sret ⟨_, (by simp only [go_sem, Nat.reduceBEq, ↓reduceIte, Bool.false_eq_true, Nat.reduceAdd, Nat.reduceMul, Nat.reduceLeDiff, c0_1, c1_1, c6_1, v8_1, v7_1]; try rfl), ?_⟩
            refine ⟨?_, rfl⟩
            have hd : decNum s most = (0, false) := by
              unfold decNum
              rw [if_neg (by rw [ht0]; decide)]
              rw [if_neg (show ¬ decide (bt s 0 = 45) = true from fun h => Bool.noConfusion ((show decide (bt s 0 = 45) = false from ht1).symm.trans h))]
              have hnone : digFrom s 0 0 = none := by rw [hq]; unfold digFrom; rw [if_pos (by omega), if_pos ht8]
              rw [hnone]
            rw [hd]; rfl
          · refine awp_sskip ?_
            have hdig : 0 ≤ bt s i - 48 ∧ bt s i - 48 ≤ 9 := by
              first
                | (have hh := ht8
                   simp only [Bool.not_eq_false', Bool.and_eq_true, decide_eq_true_eq] at hh
                   exact hh)
                | (have hh := ht3
                   simp only [Bool.not_eq_false', Bool.and_eq_true, decide_eq_true_eq] at hh
                   exact hh)
            have wa : IntKind.i64.wrap (10 * (a : Int)) = 10 * (a : Int) := int_wrap _ (by omega) (by omega)
            have wb : IntKind.i64.wrap (10 * (a : Int) + (bt s i - 48)) = ((10 * a + (bt s i - 48).toNat : Nat) : Int) := by rw [int_wrap _ (by omega) (by omega)]; omega
            refine awp_reg G17_ok (by simp only [go_sem, Nat.reduceBEq, ↓reduceIte, Bool.false_eq_true, Nat.reduceAdd, Nat.reduceMul, Nat.reduceLeDiff, wa, wb, c0_1, c1_1, c6_1, v8_1, v7_1]; try rfl) ?_
            show awp _ _ _ _ _ _
            refine awp_reg G17_ok (by simp only [go_sem, Nat.reduceBEq, ↓reduceIte, Bool.false_eq_true, Nat.reduceAdd, Nat.reduceMul, Nat.reduceLeDiff, wi, c0_1, c1_1, c6_1, v8_1, v7_1]; try rfl) ?_
            refine ⟨⟨(by simp only [go_sem, Nat.reduceBEq, ↓reduceIte, Bool.false_eq_true, Nat.reduceAdd, Nat.reduceMul, Nat.reduceLeDiff, c0_1, c1_1, c6_1, v8_1, v7_1]; try rfl), (by simp only [go_sem, Nat.reduceBEq, ↓reduceIte, Bool.false_eq_true, Nat.reduceAdd, Nat.reduceMul, Nat.reduceLeDiff, c0_1, c1_1, c6_1, v8_1, v7_1]; try rfl), (by simp only [go_sem, Nat.reduceBEq, ↓reduceIte, Bool.false_eq_true, Nat.reduceAdd, Nat.reduceMul, Nat.reduceLeDiff, c0_1, c1_1, c6_1, v8_1, v7_1]; try rfl), i + 1, 10 * a + (bt s i - 48).toNat, (by simp only [go_sem, Nat.reduceBEq, ↓reduceIte, Bool.false_eq_true, Nat.reduceAdd, Nat.reduceMul, Nat.reduceLeDiff, c0_1, c1_1, c6_1, v8_1, v7_1]; try rfl), (by simp only [go_sem, Nat.reduceBEq, ↓reduceIte, Bool.false_eq_true, Nat.reduceAdd, Nat.reduceMul, Nat.reduceLeDiff, c0_1, c1_1, c6_1, v8_1, v7_1]; try rfl), ?_⟩, ?_⟩
            · refine ⟨rfl, by omega, by rw [pow10_step]; omega, ?_⟩
              rw [hq]
              conv => lhs; unfold digFrom
              rw [if_pos (by omega), if_neg (by rw [ht8]; decide)]
            · simp only [go_sem, Nat.reduceBEq, ↓reduceIte, Bool.false_eq_true, Nat.reduceAdd, Nat.reduceMul, Nat.reduceLeDiff, c0_1, c1_1, c6_1, v8_1, v7_1]; omega
        · refine awp_sexitL ?_
          have hge : ¬ (i : Int) < s.size := of_decide_eq_false ht7
          have hp := pow10_le (i := i) (by omega)
          have hfin : digFrom s 0 0 = some a := by rw [hq]; unfold digFrom; rw [if_neg (by omega)]
          have wneg : IntKind.i64.wrap (-(a : Int)) = -(a : Int) := int_wrap _ (by omega) (by omega)
          have wmost : IntKind.i64.wrap (-most) = -most := int_wrap _ (by omega) (by omega)
          have hda : I64 (a : Int) := ⟨by omega, by omega⟩
          have hdn : I64 (-(a : Int)) := ⟨by omega, by omega⟩
          show awp _ _ _ _ _ _
          refine awp_assoc ?_
          refine awp_rseq G17_ok (by simp only [go_sem, Nat.reduceBEq, ↓reduceIte, Bool.false_eq_true, Nat.reduceAdd, Nat.reduceMul, Nat.reduceLeDiff, c0_1, c1_1, c6_1, v8_1, v7_1]; try rfl) ?_
          refine awp_scond (by simp only [go_sem, Nat.reduceBEq, ↓reduceIte, Bool.false_eq_true, Nat.reduceAdd, Nat.reduceMul, Nat.reduceLeDiff, c0_1, c1_1, c6_1, v8_1, v7_1]; try rfl) (fun ht9 => ?_) (fun ht9 => ?_)
          · refine awp_rseq G17_ok (by simp only [go_sem, Nat.reduceBEq, ↓reduceIte, Bool.false_eq_true, Nat.reduceAdd, Nat.reduceMul, Nat.reduceLeDiff, wneg, c0_1, c1_1, c6_1, v8_1, v7_1]; try rfl) ?_
            refine awp_assoc ?_
            refine awp_rseq G17_ok (by simp (contextual := true) only [go_sem, Nat.reduceBEq, ↓reduceIte, Bool.false_eq_true, Nat.reduceAdd, Nat.reduceMul, Nat.reduceLeDiff, wmost, F_spec_DecText_at _ _ hda, F_spec_DecText_at _ _ hdn, c0_1, c1_1, c6_1, v8_1, v7_1]; try rfl) ?_
            refine awp_scond (by simp only [go_sem, Nat.reduceBEq, ↓reduceIte, Bool.false_eq_true, Nat.reduceAdd, Nat.reduceMul, Nat.reduceLeDiff, c0_1, c1_1, c6_1, v8_1, v7_1]; try rfl) (fun ht10 => ?_) (fun ht10 => ?_)
            · refine awp_assoc ?_
              refine awp_rseq G17_ok (by simp only [go_sem, Nat.reduceBEq, ↓reduceIte, Bool.false_eq_true, Nat.reduceAdd, Nat.reduceMul, Nat.reduceLeDiff, c0_1, c1_1, c6_1, v8_1, v7_1]; try rfl) ?_
              refine awp_sret ⟨_, (by simp only [go_sem, Nat.reduceBEq, ↓reduceIte, Bool.false_eq_true, Nat.reduceAdd, Nat.reduceMul, Nat.reduceLeDiff, c0_1, c1_1, c6_1, v8_1, v7_1]; try rfl), ?_⟩
              exact absurd ht9 (by decide)
            · refine awp_sskip ?_
              refine awp_rseq G17_ok (by simp only [go_sem, Nat.reduceBEq, ↓reduceIte, Bool.false_eq_true, Nat.reduceAdd, Nat.reduceMul, Nat.reduceLeDiff, c0_1, c1_1, c6_1, v8_1, v7_1]; try rfl) ?_
              refine awp_ret ⟨_, (by simp only [go_sem, Nat.reduceBEq, ↓reduceIte, Bool.false_eq_true, Nat.reduceAdd, Nat.reduceMul, Nat.reduceLeDiff, c0_1, c1_1, c6_1, v8_1, v7_1]; try rfl), ?_⟩
              exact absurd ht9 (by decide)
          · refine awp_sskip ?_
            refine awp_assoc ?_
            refine awp_rseq G17_ok (by simp (contextual := true) only [go_sem, Nat.reduceBEq, ↓reduceIte, Bool.false_eq_true, Nat.reduceAdd, Nat.reduceMul, Nat.reduceLeDiff, wmost, F_spec_DecText_at _ _ hda, F_spec_DecText_at _ _ hdn, c0_1, c1_1, c6_1, v8_1, v7_1]; try rfl) ?_
            refine awp_scond (by simp only [go_sem, Nat.reduceBEq, ↓reduceIte, Bool.false_eq_true, Nat.reduceAdd, Nat.reduceMul, Nat.reduceLeDiff, c0_1, c1_1, c6_1, v8_1, v7_1]; try rfl) (fun ht11 => ?_) (fun ht11 => ?_)
            · refine awp_assoc ?_
              refine awp_rseq G17_ok (by simp only [go_sem, Nat.reduceBEq, ↓reduceIte, Bool.false_eq_true, Nat.reduceAdd, Nat.reduceMul, Nat.reduceLeDiff, c0_1, c1_1, c6_1, v8_1, v7_1]; try rfl) ?_
              refine awp_sret ⟨_, (by simp only [go_sem, Nat.reduceBEq, ↓reduceIte, Bool.false_eq_true, Nat.reduceAdd, Nat.reduceMul, Nat.reduceLeDiff, c0_1, c1_1, c6_1, v8_1, v7_1]; try rfl), ?_⟩
              refine ⟨?_, rfl⟩
              have hd : decNum s most = (0, false) := by
                unfold decNum
                rw [if_neg (by rw [ht0]; decide)]
                rw [if_neg (show ¬ decide (bt s 0 = 45) = true from fun h => Bool.noConfusion ((show decide (bt s 0 = 45) = false from ht1).symm.trans h))]
                rw [hfin]
                exact if_pos ht11
              rw [hd]; rfl
            · refine awp_sskip ?_
              refine awp_rseq G17_ok (by simp only [go_sem, Nat.reduceBEq, ↓reduceIte, Bool.false_eq_true, Nat.reduceAdd, Nat.reduceMul, Nat.reduceLeDiff, c0_1, c1_1, c6_1, v8_1, v7_1]; try rfl) ?_
              refine awp_ret ⟨_, (by simp only [go_sem, Nat.reduceBEq, ↓reduceIte, Bool.false_eq_true, Nat.reduceAdd, Nat.reduceMul, Nat.reduceLeDiff, c0_1, c1_1, c6_1, v8_1, v7_1]; try rfl), ?_⟩
              refine ⟨?_, rfl⟩
              have hd : decNum s most = ((a : Int), true) := by
                unfold decNum
                rw [if_neg (by rw [ht0]; decide)]
                rw [if_neg (show ¬ decide (bt s 0 = 45) = true from fun h => Bool.noConfusion ((show decide (bt s 0 = 45) = false from ht1).symm.trans h))]
                rw [hfin]
                exact if_neg fun hh => Bool.noConfusion (ht11.symm.trans hh)
              rw [hd]; rfl
end Go.Proofs.YtaikkfdnbihbiaaDoor
