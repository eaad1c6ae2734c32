/- l01, l20 of the reference: the walks. -/
import Derived.Test.YtaikkfdnbihbiaaDoorL07
import Derived.Test.YtaikkfdnbihbiaaDoorP06
namespace Go.Proofs.YtaikkfdnbihbiaaDoor
set_option linter.unusedVariables false
set_option linter.unusedSimpArgs false
set_option maxRecDepth 8000
open Go Go.AK Go.RowKit
def G16 : Gam := fun g args H => match g with
  | 30 => F_spec_NodeOk args H
  | _ => G15 g args H
theorem G16_ok : GOk Tryd.prog G16 := by
  intro g args H x H2 h
  unfold G16 at h
  split at h
  · exact ok_spec_NodeOk c_spec_NodeOk _ _ _ _ h
  · exact G15_ok _ _ _ _ _ h
@[go_sem] theorem G16_40 (args : List Value) (H : AHeap) : G16 40 args H = F_strings_Join args H := id rfl
@[go_sem] theorem G16_64 (args : List Value) (H : AHeap) : G16 64 args H = F_strconv_Atoi args H := id rfl
@[go_sem] theorem G16_65 (args : List Value) (H : AHeap) : G16 65 args H = F_strings_IndexByte args H := id rfl
@[go_sem] theorem G16_50 (args : List Value) (H : AHeap) : G16 50 args H = F_strings_Contains args H := id rfl
@[go_sem] theorem G16_63 (args : List Value) (H : AHeap) : G16 63 args H = F_strings_Index args H := id rfl
@[go_sem] theorem G16_62 (args : List Value) (H : AHeap) : G16 62 args H = F_strings_Count args H := id rfl
@[go_sem] theorem G16_70 (args : List Value) (H : AHeap) : G16 70 args H = F_strings_Compare args H := id rfl
@[go_sem] theorem G16_58 (args : List Value) (H : AHeap) : G16 58 args H = F_strconv_Itoa args H := id rfl
@[go_sem] theorem G16_49 (args : List Value) (H : AHeap) : G16 49 args H = F_impl_within args H := id rfl
@[go_sem] theorem G16_41 (args : List Value) (H : AHeap) : G16 41 args H = F_impl_DecText args H := id rfl
@[go_sem] theorem G16_43 (args : List Value) (H : AHeap) : G16 43 args H = F_spec_l01In args H := id rfl
@[go_sem] theorem G16_22 (args : List Value) (H : AHeap) : G16 22 args H = F_spec_l01Split args H := id rfl
@[go_sem] theorem G16_71 (args : List Value) (H : AHeap) : G16 71 args H = F_impl_NameOk args H := id rfl
@[go_sem] theorem G16_55 (args : List Value) (H : AHeap) : G16 55 args H = F_impl_Names args H := id rfl
@[go_sem] theorem G16_48 (args : List Value) (H : AHeap) : G16 48 args H = F_impl_PathOk args H := id rfl
@[go_sem] theorem G16_46 (args : List Value) (H : AHeap) : G16 46 args H = F_impl_decimal args H := id rfl
@[go_sem] theorem G16_59 (args : List Value) (H : AHeap) : G16 59 args H = F_impl_hexText args H := id rfl
@[go_sem] theorem G16_42 (args : List Value) (H : AHeap) : G16 42 args H = F_impl_hexOf args H := id rfl
@[go_sem] theorem G16_29 (args : List Value) (H : AHeap) : G16 29 args H = F_impl_NodeOk args H := id rfl
@[go_sem] theorem G16_47 (args : List Value) (H : AHeap) : G16 47 args H = F_impl_readHex args H := id rfl
@[go_sem] theorem G16_19 (args : List Value) (H : AHeap) : G16 19 args H = F_impl_showNode args H := id rfl
@[go_sem] theorem G16_26 (args : List Value) (H : AHeap) : G16 26 args H = F_impl_words_next args H := id rfl
@[go_sem] theorem G16_27 (args : List Value) (H : AHeap) : G16 27 args H = F_impl_words_number args H := id rfl
@[go_sem] theorem G16_28 (args : List Value) (H : AHeap) : G16 28 args H = F_impl_words_bytes args H := id rfl
@[go_sem] theorem G16_25 (args : List Value) (H : AHeap) : G16 25 args H = F_strings_Split_inl args H := id rfl
@[go_sem] theorem G16_11 (args : List Value) (H : AHeap) : G16 11 args H = F_impl_ReadNode args H := id rfl
@[go_sem] theorem G16_67 (args : List Value) (H : AHeap) : G16 67 args H = F_spec_NameOk args H := id rfl
@[go_sem] theorem G16_51 (args : List Value) (H : AHeap) : G16 51 args H = F_spec_PathOk args H := id rfl
@[go_sem] theorem G16_52 (args : List Value) (H : AHeap) : G16 52 args H = F_spec_Names_inl args H := id rfl
@[go_sem] theorem G16_66 (args : List Value) (H : AHeap) : G16 66 args H = F_spec_l02Names_inl args H := id rfl
@[go_sem] theorem G16_30 (args : List Value) (H : AHeap) : G16 30 args H = F_spec_NodeOk args H := id rfl
def F_spec_DecText : List Value → AHeap → Option (Value × AHeap)
  | [.int .i64 n], H => if I64 n then some (.string (itoaS n), H) else none
  | _, _ => none
@[go_sem] theorem F_spec_DecText_at (H : AHeap) (n : Int)   (hc : I64 n) : F_spec_DecText [.int .i64 n] H = some (.string (itoaS n), H) := by simp only [F_spec_DecText, if_pos hc, Option.bind_some]
abbrev C_spec_DecText : Prop := ∀ (H : AHeap) (n : Int)   (hc : I64 n), ACall Tryd.prog 33 [.int .i64 n] H fun v H2 => v = (.string (itoaS n) : Value) ∧ H2 = H
theorem ok_spec_DecText (cc_ : C_spec_DecText) : FOk Tryd.prog 33 F_spec_DecText := by
  intro args H x H2 h
  unfold F_spec_DecText at h
  split at h
  · rename_i n
    by_cases hc : I64 n
    · simp only [if_pos hc, Option.some.injEq, Prod.mk.injEq] at h
      obtain ⟨rfl, rfl⟩ := h
      exact cc_ H n hc
    · simp only [if_neg hc, reduceCtorEq] at h
  · cases h
theorem c_spec_DecText : C_spec_DecText := by
  intro H n hn
  refine ACall.body Tryd.func33 rfl rfl (rs := [.tmp 2]) rfl (n := 30) rfl (by decide) (by simp) ?_
  refine awp_rseq G16_ok (by simp only [go_sem, Nat.reduceBEq, ↓reduceIte, Bool.false_eq_true, Nat.reduceAdd, Nat.reduceMul, Nat.reduceLeDiff]; try rfl) ?_
  refine awp_assoc ?_
  refine awp_rseq G16_ok (by simp only [go_sem, Nat.reduceBEq, ↓reduceIte, Bool.false_eq_true, Nat.reduceAdd, Nat.reduceMul, Nat.reduceLeDiff]; try rfl) ?_
  refine awp_scond (by simp only [go_sem, Nat.reduceBEq, ↓reduceIte, Bool.false_eq_true, Nat.reduceAdd, Nat.reduceMul, Nat.reduceLeDiff]; try rfl) (fun ht0 => ?_) (fun ht0 => ?_)
  · refine awp_assoc ?_
    refine awp_rseq G16_ok (by simp only [go_sem, Nat.reduceBEq, ↓reduceIte, Bool.false_eq_true, Nat.reduceAdd, Nat.reduceMul, Nat.reduceLeDiff]; try rfl) ?_
    refine awp_sret ⟨_, (by simp only [go_sem, Nat.reduceBEq, ↓reduceIte, Bool.false_eq_true, Nat.reduceAdd, Nat.reduceMul, Nat.reduceLeDiff]; try rfl), ?_⟩
    refine ⟨?_, rfl⟩
    have : n = 0 := of_decide_eq_true ht0
    subst this
    have : itoaS 0 = ⟨#[48]⟩ := ba_ext (by rw [itoaS_list, Lib.itoa, if_neg (by decide), Lib.decDigits, dif_pos (by decide)]; rfl)
    rw [this]; rfl
  · refine awp_sskip ?_
    refine awp_rseq G16_ok (by simp only [go_sem, Nat.reduceBEq, ↓reduceIte, Bool.false_eq_true, Nat.reduceAdd, Nat.reduceMul, Nat.reduceLeDiff]; try rfl) ?_
    refine awp_rseq G16_ok (by simp only [go_sem, Nat.reduceBEq, ↓reduceIte, Bool.false_eq_true, Nat.reduceAdd, Nat.reduceMul, Nat.reduceLeDiff]; try rfl) ?_
    refine awp_sblock ?_
    refine awp_loop (fun e H' => e 0 = .int .i64 n ∧ ∃ m : Int, ∃ out : ByteArray, e 4 = .int .i64 m ∧ e 3 = .string out ∧ (H' = H) ∧ (I64 m) ∧ ((0 ≤ n → 0 ≤ m) ∧ (n < 0 → m ≤ 0)) ∧ (dsN m.natAbs ++ out.data.toList = dsN n.natAbs)) (fun e H' => absV (e 4)) ?_ ?_
    · refine ⟨(by simp only [go_sem, Nat.reduceBEq, ↓reduceIte, Bool.false_eq_true, Nat.reduceAdd, Nat.reduceMul, Nat.reduceLeDiff]; try rfl), n, ⟨#[]⟩, (by simp only [go_sem, Nat.reduceBEq, ↓reduceIte, Bool.false_eq_true, Nat.reduceAdd, Nat.reduceMul, Nat.reduceLeDiff]; try rfl), (by simp only [go_sem, Nat.reduceBEq, ↓reduceIte, Bool.false_eq_true, Nat.reduceAdd, Nat.reduceMul, Nat.reduceLeDiff]; try rfl), ?_⟩
      exact ⟨rfl, hn, ⟨fun h => h, fun h => by omega⟩, by simp⟩
    · rintro e H' ⟨c0_0, m, out, v4_0, v3_0, rfl, hm, hsg, hq⟩
      refine awp_assoc ?_
      refine awp_rseq G16_ok (by simp only [go_sem, Nat.reduceBEq, ↓reduceIte, Bool.false_eq_true, Nat.reduceAdd, Nat.reduceMul, Nat.reduceLeDiff, c0_0, v4_0, v3_0]; try rfl) ?_
      refine awp_scond (by simp only [go_sem, Nat.reduceBEq, ↓reduceIte, Bool.false_eq_true, Nat.reduceAdd, Nat.reduceMul, Nat.reduceLeDiff, c0_0, v4_0, v3_0]; try rfl) (fun ht1 => ?_) (fun ht1 => ?_)
      · refine awp_sskip ?_
        refine awp_block ?_
        have hm0 : m ≠ 0 := by have := ht1; simp only [Bool.not_eq_true', decide_eq_false_iff_not] at this; exact this
        have r10 := fun (x y : Operand) (t : TypeId) (P : Program) => bin_rem P t x y .i64 m 10 (show (10 : Int) ≠ 0 by decide)
        have q10 := fun (x y : Operand) (t : TypeId) (P : Program) => bin_quo P t x y .i64 m 10 (show (10 : Int) ≠ 0 by decide)
        have e1 : m.tmod 10 = if 0 ≤ m then ((m.natAbs % 10 : Nat) : Int) else -((m.natAbs % 10 : Nat) : Int) := by
          split
          · rw [Int.tmod_eq_emod_of_nonneg (by omega)]; omega
          · have h1 : m = -((m.natAbs : Nat) : Int) := by omega
            rw [h1, Int.neg_tmod, Int.tmod_eq_emod_of_nonneg (by omega)]; omega
        have e2 : m.tdiv 10 = if 0 ≤ m then ((m.natAbs / 10 : Nat) : Int) else -((m.natAbs / 10 : Nat) : Int) := by
          split
          · rw [Int.tdiv_eq_ediv_of_nonneg (by omega)]; omega
          · have h1 : m = -((m.natAbs : Nat) : Int) := by omega
            rw [h1, Int.neg_tdiv, Int.tdiv_eq_ediv_of_nonneg (by omega)]; omega
        have wq : IntKind.i64.wrap (m.tdiv 10) = m.tdiv 10 := int_wrap _ (by rw [e2]; split <;> omega) (by rw [e2]; split <;> omega)
        have hst : dsN m.natAbs = dsN (m.natAbs / 10) ++ [UInt8.ofNat (48 + m.natAbs % 10)] := dsN_step (by omega)
        have hlen := dsN_out hq (by omega)
        refine awp_rseq G16_ok (by simp only [go_sem, Nat.reduceBEq, ↓reduceIte, Bool.false_eq_true, Nat.reduceAdd, Nat.reduceMul, Nat.reduceLeDiff, r10, c0_0, v4_0, v3_0]; try rfl) ?_
        refine awp_assoc ?_
        refine awp_rseq G16_ok (by simp only [go_sem, Nat.reduceBEq, ↓reduceIte, Bool.false_eq_true, Nat.reduceAdd, Nat.reduceMul, Nat.reduceLeDiff, c0_0, v4_0, v3_0]; try rfl) ?_
        refine awp_scond (by simp only [go_sem, Nat.reduceBEq, ↓reduceIte, Bool.false_eq_true, Nat.reduceAdd, Nat.reduceMul, Nat.reduceLeDiff, c0_0, v4_0, v3_0]; try rfl) (fun ht2 => ?_) (fun ht2 => ?_)
        · have hneg : m.tmod 10 < 0 := of_decide_eq_true ht2
          have wn : IntKind.i64.wrap (-(m.tmod 10)) = ((m.natAbs % 10 : Nat) : Int) := by rw [int_wrap _ (by rw [e1]; split <;> omega) (by rw [e1]; split <;> omega)]; rw [e1] at hneg ⊢; split <;> omega
          refine awp_rseq G16_ok (by simp only [go_sem, Nat.reduceBEq, ↓reduceIte, Bool.false_eq_true, Nat.reduceAdd, Nat.reduceMul, Nat.reduceLeDiff, wn, c0_0, v4_0, v3_0]; try rfl) ?_
          have hd0 : (0 : Int) ≤ ((m.natAbs % 10 : Nat) : Int) := by omega
          have hd1 : ((m.natAbs % 10 : Nat) : Int) ≤ ((m.natAbs % 10 : Nat) : Int) + 1 := by omega
          have hd2 : ((m.natAbs % 10 : Nat) : Int) + 1 ≤ ((⟨#[48, 49, 50, 51, 52, 53, 54, 55, 56, 57]⟩ : ByteArray).size : Int) := by
            show ((m.natAbs % 10 : Nat) : Int) + 1 ≤ 10
            omega
          have hd3 : ((m.natAbs % 10 : Nat) : Int) < 10 := by omega
          have wd : IntKind.i64.wrap (((m.natAbs % 10 : Nat) : Int) + 1) = ((m.natAbs % 10 : Nat) : Int) + 1 := int_wrap _ (by omega) (by omega)
          have hsl := strSl_lo_hi un9 .i64 .i64 (⟨#[48, 49, 50, 51, 52, 53, 54, 55, 56, 57]⟩ : ByteArray) _ _ hd0 hd1 hd2
          rw [dig_piece hd0 hd3, Int.toNat_natCast] at hsl
          have hadd : (⟨#[UInt8.ofNat (48 + m.natAbs % 10)]⟩ : ByteArray).size + out.size ≤ 9223372036854775807 := by
            show 1 + out.size ≤ _
            omega
          refine awp_rseq G16_ok (by simp only [go_sem, Nat.reduceBEq, ↓reduceIte, Bool.false_eq_true, Nat.reduceAdd, Nat.reduceMul, Nat.reduceLeDiff, hsl, wd, bin_add_str _ _ _ _ _ _ hadd, c0_0, v4_0, v3_0]; try rfl) ?_
          refine awp_reg G16_ok (by simp only [go_sem, Nat.reduceBEq, ↓reduceIte, Bool.false_eq_true, Nat.reduceAdd, Nat.reduceMul, Nat.reduceLeDiff, q10, wq, c0_0, v4_0, v3_0]; try rfl) ?_
          refine ⟨⟨(by simp only [go_sem, Nat.reduceBEq, ↓reduceIte, Bool.false_eq_true, Nat.reduceAdd, Nat.reduceMul, Nat.reduceLeDiff, c0_0, v4_0, v3_0]; try rfl), m.tdiv 10, ⟨#[UInt8.ofNat (48 + m.natAbs % 10)]⟩ ++ out, (by simp only [go_sem, Nat.reduceBEq, ↓reduceIte, Bool.false_eq_true, Nat.reduceAdd, Nat.reduceMul, Nat.reduceLeDiff, c0_0, v4_0, v3_0]; try rfl), (by simp only [go_sem, Nat.reduceBEq, ↓reduceIte, Bool.false_eq_true, Nat.reduceAdd, Nat.reduceMul, Nat.reduceLeDiff, c0_0, v4_0, v3_0]; try rfl), ?_⟩, ?_⟩
          · refine ⟨rfl, ⟨by rw [e2]; split <;> omega, by rw [e2]; split <;> omega⟩, ⟨fun h => by have := hsg.1 h; rw [e2, if_pos this]; omega, fun h => by have := hsg.2 h; rw [e2]; split <;> omega⟩, ?_⟩
            have : (m.tdiv 10).natAbs = m.natAbs / 10 := by rw [e2]; split <;> omega
            rw [this, data_toList_append, ← hq, hst]
            simp
          · simp only [go_sem, Nat.reduceBEq, ↓reduceIte, Bool.false_eq_true, Nat.reduceAdd, Nat.reduceMul, Nat.reduceLeDiff, v4_0]; omega
        · have hneg : ¬ m.tmod 10 < 0 := of_decide_eq_false ht2
          have wt : m.tmod 10 = ((m.natAbs % 10 : Nat) : Int) := by rw [e1] at hneg ⊢; split <;> (try omega)
          rw [wt]
          refine awp_sskip ?_
          have hd0 : (0 : Int) ≤ ((m.natAbs % 10 : Nat) : Int) := by omega
          have hd1 : ((m.natAbs % 10 : Nat) : Int) ≤ ((m.natAbs % 10 : Nat) : Int) + 1 := by omega
          have hd2 : ((m.natAbs % 10 : Nat) : Int) + 1 ≤ ((⟨#[48, 49, 50, 51, 52, 53, 54, 55, 56, 57]⟩ : ByteArray).size : Int) := by
            show ((m.natAbs % 10 : Nat) : Int) + 1 ≤ 10
            omega
          have hd3 : ((m.natAbs % 10 : Nat) : Int) < 10 := by omega
          have wd : IntKind.i64.wrap (((m.natAbs % 10 : Nat) : Int) + 1) = ((m.natAbs % 10 : Nat) : Int) + 1 := int_wrap _ (by omega) (by omega)
          have hsl := strSl_lo_hi un9 .i64 .i64 (⟨#[48, 49, 50, 51, 52, 53, 54, 55, 56, 57]⟩ : ByteArray) _ _ hd0 hd1 hd2
          rw [dig_piece hd0 hd3, Int.toNat_natCast] at hsl
          have hadd : (⟨#[UInt8.ofNat (48 + m.natAbs % 10)]⟩ : ByteArray).size + out.size ≤ 9223372036854775807 := by
            show 1 + out.size ≤ _
            omega
          refine awp_rseq G16_ok (by simp only [go_sem, Nat.reduceBEq, ↓reduceIte, Bool.false_eq_true, Nat.reduceAdd, Nat.reduceMul, Nat.reduceLeDiff, hsl, wd, bin_add_str _ _ _ _ _ _ hadd, c0_0, v4_0, v3_0]; try rfl) ?_
          refine awp_reg G16_ok (by simp only [go_sem, Nat.reduceBEq, ↓reduceIte, Bool.false_eq_true, Nat.reduceAdd, Nat.reduceMul, Nat.reduceLeDiff, q10, wq, c0_0, v4_0, v3_0]; try rfl) ?_
          refine ⟨⟨(by simp only [go_sem, Nat.reduceBEq, ↓reduceIte, Bool.false_eq_true, Nat.reduceAdd, Nat.reduceMul, Nat.reduceLeDiff, c0_0, v4_0, v3_0]; try rfl), m.tdiv 10, ⟨#[UInt8.ofNat (48 + m.natAbs % 10)]⟩ ++ out, (by simp only [go_sem, Nat.reduceBEq, ↓reduceIte, Bool.false_eq_true, Nat.reduceAdd, Nat.reduceMul, Nat.reduceLeDiff, c0_0, v4_0, v3_0]; try rfl), (by simp only [go_sem, Nat.reduceBEq, ↓reduceIte, Bool.false_eq_true, Nat.reduceAdd, Nat.reduceMul, Nat.reduceLeDiff, c0_0, v4_0, v3_0]; try rfl), ?_⟩, ?_⟩
          · refine ⟨rfl, ⟨by rw [e2]; split <;> omega, by rw [e2]; split <;> omega⟩, ⟨fun h => by have := hsg.1 h; rw [e2, if_pos this]; omega, fun h => by have := hsg.2 h; rw [e2]; split <;> omega⟩, ?_⟩
            have : (m.tdiv 10).natAbs = m.natAbs / 10 := by rw [e2]; split <;> omega
            rw [this, data_toList_append, ← hq, hst]
            simp
          · simp only [go_sem, Nat.reduceBEq, ↓reduceIte, Bool.false_eq_true, Nat.reduceAdd, Nat.reduceMul, Nat.reduceLeDiff, v4_0]; omega
      · refine awp_sexitL ?_
        have hm0 : m = 0 := by have := ht1; simp only [Bool.not_eq_false', decide_eq_true_eq] at this; exact this
        subst hm0
        have hlen := dsN_out hq (by omega)
        have hadd : (⟨#[45]⟩ : ByteArray).size + out.size ≤ 9223372036854775807 := by
          show 1 + out.size ≤ _
          omega
        have hn0 : n ≠ 0 := of_decide_eq_false ht0
        have ho : out.data.toList = Lib.decDigits n.natAbs := by
          have : dsN (0 : Int).natAbs = [] := rfl
          rw [this, List.nil_append] at hq
          rw [hq]; unfold dsN; rw [if_neg (by omega)]
        show awp _ _ _ _ _ _
        refine awp_assoc ?_
        refine awp_rseq G16_ok (by simp only [go_sem, Nat.reduceBEq, ↓reduceIte, Bool.false_eq_true, Nat.reduceAdd, Nat.reduceMul, Nat.reduceLeDiff, c0_0, v4_0, v3_0]; try rfl) ?_
        refine awp_scond (by simp only [go_sem, Nat.reduceBEq, ↓reduceIte, Bool.false_eq_true, Nat.reduceAdd, Nat.reduceMul, Nat.reduceLeDiff, c0_0, v4_0, v3_0]; try rfl) (fun ht3 => ?_) (fun ht3 => ?_)
        · refine awp_assoc ?_
          refine awp_rseq G16_ok (by simp only [go_sem, Nat.reduceBEq, ↓reduceIte, Bool.false_eq_true, Nat.reduceAdd, Nat.reduceMul, Nat.reduceLeDiff, bin_add_str _ _ _ _ _ _ hadd, c0_0, v4_0, v3_0]; try rfl) ?_
          refine awp_sret ⟨_, (by simp only [go_sem, Nat.reduceBEq, ↓reduceIte, Bool.false_eq_true, Nat.reduceAdd, Nat.reduceMul, Nat.reduceLeDiff, c0_0, v4_0, v3_0]; try rfl), ?_⟩
          refine ⟨?_, rfl⟩
          have hneg : n < 0 := of_decide_eq_true ht3
          have : itoaS n = ⟨#[45]⟩ ++ out := ba_ext (by rw [itoaS_list, Lib.itoa, if_pos hneg, data_toList_append, ho]; rfl)
          rw [this]; rfl
        · refine awp_sskip ?_
          refine awp_rseq G16_ok (by simp only [go_sem, Nat.reduceBEq, ↓reduceIte, Bool.false_eq_true, Nat.reduceAdd, Nat.reduceMul, Nat.reduceLeDiff, c0_0, v4_0, v3_0]; try rfl) ?_
          refine awp_ret ⟨_, (by simp only [go_sem, Nat.reduceBEq, ↓reduceIte, Bool.false_eq_true, Nat.reduceAdd, Nat.reduceMul, Nat.reduceLeDiff, c0_0, v4_0, v3_0]; try rfl), ?_⟩
          refine ⟨?_, rfl⟩
          have hneg : ¬ n < 0 := of_decide_eq_false ht3
          have : itoaS n = out := ba_ext (by rw [itoaS_list, Lib.itoa, if_neg hneg, ho]; congr 1; omega)
          rw [this]; rfl
end Go.Proofs.YtaikkfdnbihbiaaDoor
