/- digits and lines of the reference: the walks. -/
import Derived.Test.YtaikkfdnbihbiaaDoorL09
namespace Go.Proofs.YtaikkfdnbihbiaaDoor
set_option linter.unusedVariables false
set_option linter.unusedSimpArgs false
set_option maxRecDepth 8000
open Go Go.AK Go.RowKit
def G18 : Gam := fun g args H => match g with
  | 23 => F_spec_DecNum args H
  | _ => G17 g args H
theorem G18_ok : GOk Tryd.prog G18 := by
  intro g args H x H2 h
  unfold G18 at h
  split at h
  · exact ok_spec_DecNum c_spec_DecNum _ _ _ _ h
  · exact G17_ok _ _ _ _ _ h
@[go_sem] theorem G18_40 (args : List Value) (H : AHeap) : G18 40 args H = F_strings_Join args H := id rfl
@[go_sem] theorem G18_64 (args : List Value) (H : AHeap) : G18 64 args H = F_strconv_Atoi args H := id rfl
@[go_sem] theorem G18_65 (args : List Value) (H : AHeap) : G18 65 args H = F_strings_IndexByte args H := id rfl
@[go_sem] theorem G18_50 (args : List Value) (H : AHeap) : G18 50 args H = F_strings_Contains args H := id rfl
@[go_sem] theorem G18_63 (args : List Value) (H : AHeap) : G18 63 args H = F_strings_Index args H := id rfl
@[go_sem] theorem G18_62 (args : List Value) (H : AHeap) : G18 62 args H = F_strings_Count args H := id rfl
@[go_sem] theorem G18_70 (args : List Value) (H : AHeap) : G18 70 args H = F_strings_Compare args H := id rfl
@[go_sem] theorem G18_58 (args : List Value) (H : AHeap) : G18 58 args H = F_strconv_Itoa args H := id rfl
@[go_sem] theorem G18_49 (args : List Value) (H : AHeap) : G18 49 args H = F_impl_within args H := id rfl
@[go_sem] theorem G18_41 (args : List Value) (H : AHeap) : G18 41 args H = F_impl_DecText args H := id rfl
@[go_sem] theorem G18_43 (args : List Value) (H : AHeap) : G18 43 args H = F_spec_l01In args H := id rfl
@[go_sem] theorem G18_22 (args : List Value) (H : AHeap) : G18 22 args H = F_spec_l01Split args H := id rfl
@[go_sem] theorem G18_71 (args : List Value) (H : AHeap) : G18 71 args H = F_impl_NameOk args H := id rfl
@[go_sem] theorem G18_55 (args : List Value) (H : AHeap) : G18 55 args H = F_impl_Names args H := id rfl
@[go_sem] theorem G18_48 (args : List Value) (H : AHeap) : G18 48 args H = F_impl_PathOk args H := id rfl
@[go_sem] theorem G18_46 (args : List Value) (H : AHeap) : G18 46 args H = F_impl_decimal args H := id rfl
@[go_sem] theorem G18_59 (args : List Value) (H : AHeap) : G18 59 args H = F_impl_hexText args H := id rfl
@[go_sem] theorem G18_42 (args : List Value) (H : AHeap) : G18 42 args H = F_impl_hexOf args H := id rfl
@[go_sem] theorem G18_29 (args : List Value) (H : AHeap) : G18 29 args H = F_impl_NodeOk args H := id rfl
@[go_sem] theorem G18_47 (args : List Value) (H : AHeap) : G18 47 args H = F_impl_readHex args H := id rfl
@[go_sem] theorem G18_19 (args : List Value) (H : AHeap) : G18 19 args H = F_impl_showNode args H := id rfl
@[go_sem] theorem G18_26 (args : List Value) (H : AHeap) : G18 26 args H = F_impl_words_next args H := id rfl
@[go_sem] theorem G18_27 (args : List Value) (H : AHeap) : G18 27 args H = F_impl_words_number args H := id rfl
@[go_sem] theorem G18_28 (args : List Value) (H : AHeap) : G18 28 args H = F_impl_words_bytes args H := id rfl
@[go_sem] theorem G18_25 (args : List Value) (H : AHeap) : G18 25 args H = F_strings_Split_inl args H := id rfl
@[go_sem] theorem G18_11 (args : List Value) (H : AHeap) : G18 11 args H = F_impl_ReadNode args H := id rfl
@[go_sem] theorem G18_67 (args : List Value) (H : AHeap) : G18 67 args H = F_spec_NameOk args H := id rfl
@[go_sem] theorem G18_51 (args : List Value) (H : AHeap) : G18 51 args H = F_spec_PathOk args H := id rfl
@[go_sem] theorem G18_52 (args : List Value) (H : AHeap) : G18 52 args H = F_spec_Names_inl args H := id rfl
@[go_sem] theorem G18_66 (args : List Value) (H : AHeap) : G18 66 args H = F_spec_l02Names_inl args H := id rfl
@[go_sem] theorem G18_30 (args : List Value) (H : AHeap) : G18 30 args H = F_spec_NodeOk args H := id rfl
@[go_sem] theorem G18_33 (args : List Value) (H : AHeap) : G18 33 args H = F_spec_DecText args H := id rfl
@[go_sem] theorem G18_23 (args : List Value) (H : AHeap) : G18 23 args H = F_spec_DecNum args H := id rfl
def F_spec_HexText : List Value → AHeap → Option (Value × AHeap)
  | [v_b], H => ((elems H 1 v_b).bind decBytes).bind fun (b : ByteArray) => if b.size ≤ 1099511627776 then some (.string (if decide (20000 < (b.size : Int)) = true then ⟨#[]⟩ else hexS b), H) else none
  | _, _ => none
@[go_sem] theorem F_spec_HexText_ob (H : AHeap) (v_b : Value) : F_spec_HexText [v_b] H = ((elems H 1 v_b).bind decBytes).bind fun (b : ByteArray) => if b.size ≤ 1099511627776 then some (.string (if decide (20000 < (b.size : Int)) = true then ⟨#[]⟩ else hexS b), H) else none := by simp only [F_spec_HexText, List.toList_toArray]
theorem F_spec_HexText_in (H : AHeap) (b : ByteArray) {c_b : Nat} (hc : b.size ≤ 1099511627776) : F_spec_HexText [inl 1 c_b (strElems b)] H = some (.string (if decide (20000 < (b.size : Int)) = true then ⟨#[]⟩ else hexS b), H) := by simp only [F_spec_HexText, elems_inl, Option.bind_some, List.toList_toArray, decBytes_enc, if_pos hc]
abbrev B_spec_HexText : Prop := ∀ (H : AHeap) (b : ByteArray) (hc : b.size ≤ 1099511627776), ACall Tryd.prog 53 [inl 1 1 (strElems b)] H fun v H2 => v = (.string (if decide (20000 < (b.size : Int)) = true then ⟨#[]⟩ else hexS b) : Value) ∧ H2 = H
theorem F_spec_HexText_at (H : AHeap) (b : ByteArray) {v_b : Value} (h_b : elems H 1 v_b = some (strElems b)) (hc : b.size ≤ 1099511627776) : F_spec_HexText [v_b] H = some (.string (if decide (20000 < (b.size : Int)) = true then ⟨#[]⟩ else hexS b), H) := by simp only [F_spec_HexText, h_b, decBytes_enc, List.toList_toArray, if_pos hc, Option.bind_some]
abbrev C_spec_HexText : Prop := ∀ (H : AHeap) (b : ByteArray) {v_b : Value} (h_b : elems H 1 v_b = some (strElems b)) (hc : b.size ≤ 1099511627776), ACall Tryd.prog 53 [v_b] H fun v H2 => v = (.string (if decide (20000 < (b.size : Int)) = true then ⟨#[]⟩ else hexS b) : Value) ∧ H2 = H
theorem ok_spec_HexText (cc_ : C_spec_HexText) : FOk Tryd.prog 53 F_spec_HexText := by
  intro args H x H2 h
  unfold F_spec_HexText at h
  split at h
  · rename_i v_b
    have hz := bind_some h
    clear h
    obtain ⟨b, hb_b, h⟩ := hz
    obtain ⟨e_b, he_b, hd_b⟩ := bind_some hb_b
    have hq_b := decBytes_some hd_b
    subst hq_b
    by_cases hc : b.size ≤ 1099511627776
    · simp only [if_pos hc, Option.some.injEq, Prod.mk.injEq] at h
      obtain ⟨rfl, rfl⟩ := h
      exact cc_ H b he_b hc
    · simp only [if_neg hc, reduceCtorEq] at h
  · cases h
theorem b_spec_HexText : B_spec_HexText := by
  intro H s hs
  refine ACall.wf fun wf => ACall.quiet (by first | rfl | simp [clT, clD, clc, scal]) ?_
  refine ACall.body Tryd.func53 rfl rfl (rs := [.tmp 2]) rfl (n := 32) rfl (by decide) (by simp) ?_
  refine awp_rseq G18_ok (by simp only [go_sem, Nat.reduceBEq, ↓reduceIte, Bool.false_eq_true, Nat.reduceAdd, Nat.reduceMul, Nat.reduceLeDiff, strElems_len]; try rfl) ?_
  refine awp_rseq G18_ok (by simp only [go_sem, Nat.reduceBEq, ↓reduceIte, Bool.false_eq_true, Nat.reduceAdd, Nat.reduceMul, Nat.reduceLeDiff, strElems_len]; try rfl) ?_
  refine awp_assoc ?_
  refine awp_rseq G18_ok (by simp only [go_sem, Nat.reduceBEq, ↓reduceIte, Bool.false_eq_true, Nat.reduceAdd, Nat.reduceMul, Nat.reduceLeDiff, strElems_len]; try rfl) ?_
  refine awp_scond (by simp only [go_sem, Nat.reduceBEq, ↓reduceIte, Bool.false_eq_true, Nat.reduceAdd, Nat.reduceMul, Nat.reduceLeDiff, strElems_len]; try rfl) (fun ht0 => ?_) (fun ht0 => ?_)
  · refine awp_assoc ?_
    refine awp_rseq G18_ok (by simp only [go_sem, Nat.reduceBEq, ↓reduceIte, Bool.false_eq_true, Nat.reduceAdd, Nat.reduceMul, Nat.reduceLeDiff, strElems_len]; try rfl) ?_
    refine awp_sret ⟨_, (by simp only [go_sem, Nat.reduceBEq, ↓reduceIte, Bool.false_eq_true, Nat.reduceAdd, Nat.reduceMul, Nat.reduceLeDiff, strElems_len]; try rfl), ?_⟩
    refine ⟨by rw [if_pos ht0]; rfl, ?_⟩
    repeat (first | exact Ext.refl _ | assumption | apply Ext.push | apply WF.push)
  · refine awp_sskip ?_
    refine awp_assoc ?_
    refine awp_rseq G18_ok (by simp only [go_sem, Nat.reduceBEq, ↓reduceIte, Bool.false_eq_true, Nat.reduceAdd, Nat.reduceMul, Nat.reduceLeDiff, strElems_len]; try rfl) ?_
    refine awp_sblock ?_
    refine awp_loop (fun e H' => e 0 = inl 1 1 (strElems s) ∧ ∃ i : Nat, e 4 = .int .i64 i ∧ (Buf H 1 false (bRow (hexUp s i)) (e 3) H') ∧ (i ≤ s.size)) (fun e H' => gap s.size (e 4)) ?_ ?_
    · refine ⟨(by simp only [go_sem, Nat.reduceBEq, ↓reduceIte, Bool.false_eq_true, Nat.reduceAdd, Nat.reduceMul, Nat.reduceLeDiff, strElems_len]; try rfl), 0, (by simp only [go_sem, Nat.reduceBEq, ↓reduceIte, Bool.false_eq_true, Nat.reduceAdd, Nat.reduceMul, Nat.reduceLeDiff, strElems_len]; try rfl), ?_⟩
      refine ⟨?_, Nat.zero_le _⟩
      simp only [go_sem, Nat.reduceBEq, ↓reduceIte, Bool.false_eq_true, Nat.reduceAdd, Nat.reduceMul, Nat.reduceLeDiff]
      exact Buf.fresh wf wf (Ext.refl _) 1 [] rfl 1
    · rintro e H' ⟨c0_0, i, v4_0, hb, hi⟩
      refine awp_assoc ?_
      refine awp_rseq G18_ok (by simp only [go_sem, Nat.reduceBEq, ↓reduceIte, Bool.false_eq_true, Nat.reduceAdd, Nat.reduceMul, Nat.reduceLeDiff, strElems_len, c0_0, v4_0]; try rfl) ?_
      refine awp_scond (by simp only [go_sem, Nat.reduceBEq, ↓reduceIte, Bool.false_eq_true, Nat.reduceAdd, Nat.reduceMul, Nat.reduceLeDiff, strElems_len, c0_0, v4_0]; try rfl) (fun ht1 => ?_) (fun ht1 => ?_)
      · refine awp_sskip ?_
        refine awp_sblock ?_
        have hlt : (i : Int) < s.size := of_decide_eq_true ht1
        have b0 := bt_lo s i
        have b1 := bt_hi s i
        have hix := ixI_nd (strElems s) i (strElems_get s i (by omega))
        have q0 : 0 ≤ (bt s i).tdiv 16 := Int.tdiv_nonneg b0 (by decide)
        have q1 : (bt s i).tdiv 16 < 16 := by rw [Int.tdiv_eq_ediv_of_nonneg b0]; omega
        have m0 : 0 ≤ (bt s i).tmod 16 := Int.tmod_nonneg _ b0
        have m1 : (bt s i).tmod 16 < 16 := by rw [Int.tmod_eq_emod_of_nonneg b0]; omega
        have wq : IntKind.u8.wrap ((bt s i).tdiv 16) = (bt s i).tdiv 16 := u8_small q0 (by omega)
        have hq := idx_str un9 .u8 ⟨#[48, 49, 50, 51, 52, 53, 54, 55, 56, 57, 97, 98, 99, 100, 101, 102]⟩ _ q0 q1
        have hm := idx_str un9 .u8 ⟨#[48, 49, 50, 51, 52, 53, 54, 55, 56, 57, 97, 98, 99, 100, 101, 102]⟩ _ m0 m1
        have wi : IntKind.i64.wrap ((i : Int) + 1) = ((i + 1 : Nat) : Int) := int_wrap _ (by omega) (by omega)
        refine awp_drawnE mixed G18_ok [13, 14] (by decide) (by decide) (by decide) ?_
        refine evalE_quiet 13 (by simp only [go_sem, Nat.reduceBEq, ↓reduceIte, Bool.false_eq_true, Nat.reduceAdd, Nat.reduceMul, Nat.reduceLeDiff, strElems_len, hix, wq, hq, hm, bin_quo _ _ _ _ _ _ _ (show (16 : Int) ≠ 0 by decide), bin_rem _ _ _ _ _ _ _ (show (16 : Int) ≠ 0 by decide), c0_0, v4_0]; try rfl) ?_
        refine evalE_eff (by simp only [go_sem, Nat.reduceBEq, ↓reduceIte, Bool.false_eq_true, Nat.reduceAdd, Nat.reduceMul, Nat.reduceLeDiff, strElems_len, hix, wq, hq, hm, bin_quo _ _ _ _ _ _ _ (show (16 : Int) ≠ 0 by decide), bin_rem _ _ _ _ _ _ _ (show (16 : Int) ≠ 0 by decide), c0_0, v4_0]; try rfl) (by decide) ?_
        refine evalE_append sl42 sl42 (by simp only [go_sem, Nat.reduceBEq, ↓reduceIte, Bool.false_eq_true, Nat.reduceAdd, Nat.reduceMul, Nat.reduceLeDiff, strElems_len, hix, wq, hq, hm, bin_quo _ _ _ _ _ _ _ (show (16 : Int) ≠ 0 by decide), bin_rem _ _ _ _ _ _ _ (show (16 : Int) ≠ 0 by decide), c0_0, v4_0]; try rfl) (hb.push _) (by simp only [go_sem, Nat.reduceBEq, ↓reduceIte, Bool.false_eq_true, Nat.reduceAdd, Nat.reduceMul, Nat.reduceLeDiff, strElems_len, hix, wq, hq, hm, bin_quo _ _ _ _ _ _ _ (show (16 : Int) ≠ 0 by decide), bin_rem _ _ _ _ _ _ _ (show (16 : Int) ≠ 0 by decide), c0_0, v4_0]; try rfl) (elems_push _ 1 _ 1 true) (by rw [bRow_len, hexUp_len]; simp; omega) (by rw [bRow_len, hexUp_len]; simp; omega) (by decide) (fun v_7 H_7 hb_7 => ?_)
        refine evalE_quiet 1 (by simp only [go_sem, Nat.reduceBEq, ↓reduceIte, Bool.false_eq_true, Nat.reduceAdd, Nat.reduceMul, Nat.reduceLeDiff, strElems_len, hix, wq, hq, hm, bin_quo _ _ _ _ _ _ _ (show (16 : Int) ≠ 0 by decide), bin_rem _ _ _ _ _ _ _ (show (16 : Int) ≠ 0 by decide), c0_0, v4_0]; try rfl) ?_
        refine evalE_nil ?_
        show awp _ _ _ _ _ _
        refine awp_reg G18_ok (by simp only [go_sem, Nat.reduceBEq, ↓reduceIte, Bool.false_eq_true, Nat.reduceAdd, Nat.reduceMul, Nat.reduceLeDiff, strElems_len, wi, c0_0, v4_0]; try rfl) ?_
        refine ⟨⟨(by simp only [go_sem, Nat.reduceBEq, ↓reduceIte, Bool.false_eq_true, Nat.reduceAdd, Nat.reduceMul, Nat.reduceLeDiff, strElems_len, c0_0, v4_0]; try rfl), i + 1, (by simp only [go_sem, Nat.reduceBEq, ↓reduceIte, Bool.false_eq_true, Nat.reduceAdd, Nat.reduceMul, Nat.reduceLeDiff, strElems_len, c0_0, v4_0]; try rfl), ?_⟩, ?_⟩
        · refine ⟨?_, by omega⟩
          simp only [go_sem, Nat.reduceBEq, ↓reduceIte, Bool.false_eq_true, Nat.reduceAdd, Nat.reduceMul, Nat.reduceLeDiff]
          have : bRow (hexUp s (i + 1)) = bRow (hexUp s i) ++ [[.int .u8 (hexDig ((bt s i).tdiv 16))], [.int .u8 (hexDig ((bt s i).tmod 16))]] := by simp [hexUp, bRow]
          rw [this]; exact hb_7
        · simp only [go_sem, Nat.reduceBEq, ↓reduceIte, Bool.false_eq_true, Nat.reduceAdd, Nat.reduceMul, Nat.reduceLeDiff, strElems_len, c0_0, v4_0]; omega
      · refine awp_sexitL ?_
        show awp _ _ _ _ _ _
        refine awp_rseq G18_ok (by simp only [go_sem, Nat.reduceBEq, ↓reduceIte, Bool.false_eq_true, Nat.reduceAdd, Nat.reduceMul, Nat.reduceLeDiff, strElems_len, convA_bytes kd42 kd5 kd9 hb.elems, c0_0, v4_0]; try rfl) ?_
        refine awp_ret ⟨_, (by simp only [go_sem, Nat.reduceBEq, ↓reduceIte, Bool.false_eq_true, Nat.reduceAdd, Nat.reduceMul, Nat.reduceLeDiff, strElems_len, c0_0, v4_0]; try rfl), ?_⟩
        have hge : ¬ (i : Int) < s.size := of_decide_eq_false ht1
        have hie : i = s.size := by omega
        subst hie
        exact ⟨by rw [if_neg (by rw [ht0]; decide)]; rfl, hb.ext⟩
theorem c_spec_HexText : C_spec_HexText := fun H b _ h_b hc => ACall.lend (by first | rfl | simp [scT, scalD, scal]) (.cons (.row (by decide) h_b (strElems_flatC _)) (.nil)) (fun H => b_spec_HexText H b hc)
def G19 : Gam := fun g args H => match g with
  | 53 => F_spec_HexText args H
  | _ => G18 g args H
theorem G19_ok : GOk Tryd.prog G19 := by
  intro g args H x H2 h
  unfold G19 at h
  split at h
  · exact ok_spec_HexText c_spec_HexText _ _ _ _ h
  · exact G18_ok _ _ _ _ _ h
@[go_sem] theorem G19_40 (args : List Value) (H : AHeap) : G19 40 args H = F_strings_Join args H := id rfl
@[go_sem] theorem G19_64 (args : List Value) (H : AHeap) : G19 64 args H = F_strconv_Atoi args H := id rfl
@[go_sem] theorem G19_65 (args : List Value) (H : AHeap) : G19 65 args H = F_strings_IndexByte args H := id rfl
@[go_sem] theorem G19_50 (args : List Value) (H : AHeap) : G19 50 args H = F_strings_Contains args H := id rfl
@[go_sem] theorem G19_63 (args : List Value) (H : AHeap) : G19 63 args H = F_strings_Index args H := id rfl
@[go_sem] theorem G19_62 (args : List Value) (H : AHeap) : G19 62 args H = F_strings_Count args H := id rfl
@[go_sem] theorem G19_70 (args : List Value) (H : AHeap) : G19 70 args H = F_strings_Compare args H := id rfl
@[go_sem] theorem G19_58 (args : List Value) (H : AHeap) : G19 58 args H = F_strconv_Itoa args H := id rfl
@[go_sem] theorem G19_49 (args : List Value) (H : AHeap) : G19 49 args H = F_impl_within args H := id rfl
@[go_sem] theorem G19_41 (args : List Value) (H : AHeap) : G19 41 args H = F_impl_DecText args H := id rfl
@[go_sem] theorem G19_43 (args : List Value) (H : AHeap) : G19 43 args H = F_spec_l01In args H := id rfl
@[go_sem] theorem G19_22 (args : List Value) (H : AHeap) : G19 22 args H = F_spec_l01Split args H := id rfl
@[go_sem] theorem G19_71 (args : List Value) (H : AHeap) : G19 71 args H = F_impl_NameOk args H := id rfl
@[go_sem] theorem G19_55 (args : List Value) (H : AHeap) : G19 55 args H = F_impl_Names args H := id rfl
@[go_sem] theorem G19_48 (args : List Value) (H : AHeap) : G19 48 args H = F_impl_PathOk args H := id rfl
@[go_sem] theorem G19_46 (args : List Value) (H : AHeap) : G19 46 args H = F_impl_decimal args H := id rfl
@[go_sem] theorem G19_59 (args : List Value) (H : AHeap) : G19 59 args H = F_impl_hexText args H := id rfl
@[go_sem] theorem G19_42 (args : List Value) (H : AHeap) : G19 42 args H = F_impl_hexOf args H := id rfl
@[go_sem] theorem G19_29 (args : List Value) (H : AHeap) : G19 29 args H = F_impl_NodeOk args H := id rfl
@[go_sem] theorem G19_47 (args : List Value) (H : AHeap) : G19 47 args H = F_impl_readHex args H := id rfl
@[go_sem] theorem G19_19 (args : List Value) (H : AHeap) : G19 19 args H = F_impl_showNode args H := id rfl
@[go_sem] theorem G19_26 (args : List Value) (H : AHeap) : G19 26 args H = F_impl_words_next args H := id rfl
@[go_sem] theorem G19_27 (args : List Value) (H : AHeap) : G19 27 args H = F_impl_words_number args H := id rfl
@[go_sem] theorem G19_28 (args : List Value) (H : AHeap) : G19 28 args H = F_impl_words_bytes args H := id rfl
@[go_sem] theorem G19_25 (args : List Value) (H : AHeap) : G19 25 args H = F_strings_Split_inl args H := id rfl
@[go_sem] theorem G19_11 (args : List Value) (H : AHeap) : G19 11 args H = F_impl_ReadNode args H := id rfl
@[go_sem] theorem G19_67 (args : List Value) (H : AHeap) : G19 67 args H = F_spec_NameOk args H := id rfl
@[go_sem] theorem G19_51 (args : List Value) (H : AHeap) : G19 51 args H = F_spec_PathOk args H := id rfl
@[go_sem] theorem G19_52 (args : List Value) (H : AHeap) : G19 52 args H = F_spec_Names_inl args H := id rfl
@[go_sem] theorem G19_66 (args : List Value) (H : AHeap) : G19 66 args H = F_spec_l02Names_inl args H := id rfl
@[go_sem] theorem G19_30 (args : List Value) (H : AHeap) : G19 30 args H = F_spec_NodeOk args H := id rfl
@[go_sem] theorem G19_33 (args : List Value) (H : AHeap) : G19 33 args H = F_spec_DecText args H := id rfl
@[go_sem] theorem G19_23 (args : List Value) (H : AHeap) : G19 23 args H = F_spec_DecNum args H := id rfl
@[go_sem] theorem G19_53 (args : List Value) (H : AHeap) : G19 53 args H = F_spec_HexText args H := id rfl
def F_spec_l20Hex : List Value → AHeap → Option (Value × AHeap)
  | [.string s], H => if s.size ≤ 1099511627776 then some (.string (if decide (s = ⟨#[]⟩) = true then ⟨#[45]⟩ else if decide (20000 < (s.size : Int)) = true then ⟨#[]⟩ else hexS s), H) else none
  | _, _ => none
@[go_sem] theorem F_spec_l20Hex_at (H : AHeap) (s : ByteArray)   (hc : s.size ≤ 1099511627776) : F_spec_l20Hex [.string s] H = some (.string (if decide (s = ⟨#[]⟩) = true then ⟨#[45]⟩ else if decide (20000 < (s.size : Int)) = true then ⟨#[]⟩ else hexS s), H) := by simp only [F_spec_l20Hex, if_pos hc, Option.bind_some]
abbrev C_spec_l20Hex : Prop := ∀ (H : AHeap) (s : ByteArray)   (hc : s.size ≤ 1099511627776), ACall Tryd.prog 34 [.string s] H fun v H2 => v = (.string (if decide (s = ⟨#[]⟩) = true then ⟨#[45]⟩ else if decide (20000 < (s.size : Int)) = true then ⟨#[]⟩ else hexS s) : Value) ∧ H2 = H
theorem ok_spec_l20Hex (cc_ : C_spec_l20Hex) : FOk Tryd.prog 34 F_spec_l20Hex := by
  intro args H x H2 h
  unfold F_spec_l20Hex at h
  split at h
  · rename_i s
    by_cases hc : s.size ≤ 1099511627776
    · simp only [if_pos hc, Option.some.injEq, Prod.mk.injEq] at h
      obtain ⟨rfl, rfl⟩ := h
      exact cc_ H s hc
    · simp only [if_neg hc, reduceCtorEq] at h
  · cases h
theorem c_spec_l20Hex : C_spec_l20Hex := by
  intro H s hs
  refine ACall.wf fun wf => ACall.quiet (by first | rfl | simp [clT, clD, clc, scal]) ?_
  refine ACall.body Tryd.func34 rfl rfl (rs := [.tmp 2]) rfl (n := 8) rfl (by decide) (by simp) ?_
  refine awp_rseq G19_ok (by simp only [go_sem, Nat.reduceBEq, ↓reduceIte, Bool.false_eq_true, Nat.reduceAdd, Nat.reduceMul, Nat.reduceLeDiff, decBytes_enc, hs]; try rfl) ?_
  refine awp_assoc ?_
  refine awp_rseq G19_ok (by simp only [go_sem, Nat.reduceBEq, ↓reduceIte, Bool.false_eq_true, Nat.reduceAdd, Nat.reduceMul, Nat.reduceLeDiff, decBytes_enc, hs]; try rfl) ?_
  refine awp_scond (by simp only [go_sem, Nat.reduceBEq, ↓reduceIte, Bool.false_eq_true, Nat.reduceAdd, Nat.reduceMul, Nat.reduceLeDiff, decBytes_enc, hs]; try rfl) (fun ht0 => ?_) (fun ht0 => ?_)
  · refine awp_assoc ?_
    refine awp_rseq G19_ok (by simp only [go_sem, Nat.reduceBEq, ↓reduceIte, Bool.false_eq_true, Nat.reduceAdd, Nat.reduceMul, Nat.reduceLeDiff, decBytes_enc, hs]; try rfl) ?_
    refine awp_sret ⟨_, (by simp only [go_sem, Nat.reduceBEq, ↓reduceIte, Bool.false_eq_true, Nat.reduceAdd, Nat.reduceMul, Nat.reduceLeDiff, decBytes_enc, hs]; try rfl), ?_⟩
    exact ⟨by rw [if_pos ht0]; rfl, Ext.refl _⟩
  · refine awp_sskip ?_
    refine awp_rseq G19_ok (by simp only [go_sem, Nat.reduceBEq, ↓reduceIte, Bool.false_eq_true, Nat.reduceAdd, Nat.reduceMul, Nat.reduceLeDiff, decBytes_enc, hs, elO_all (strElems_len s).symm]; try rfl) ?_
    refine awp_ret ⟨_, (by simp only [go_sem, Nat.reduceBEq, ↓reduceIte, Bool.false_eq_true, Nat.reduceAdd, Nat.reduceMul, Nat.reduceLeDiff, decBytes_enc, hs]; try rfl), ?_⟩
    exact ⟨by simp only [ht0, Bool.false_eq_true, if_false]; rfl, (Ext.refl _).push wf _⟩
def F_spec_l01Digit : List Value → AHeap → Option (Value × AHeap)
  | [.int .u8 c], H => if 0 ≤ c ∧ c < 256 then some (.int .i64 (dig16 c), H) else none
  | _, _ => none
@[go_sem] theorem F_spec_l01Digit_at (H : AHeap) (c : Int)   (hc : 0 ≤ c ∧ c < 256) : F_spec_l01Digit [.int .u8 c] H = some (.int .i64 (dig16 c), H) := by simp only [F_spec_l01Digit, if_pos hc, Option.bind_some]
abbrev C_spec_l01Digit : Prop := ∀ (H : AHeap) (c : Int)   (hc : 0 ≤ c ∧ c < 256), ACall Tryd.prog 60 [.int .u8 c] H fun v H2 => v = (.int .i64 (dig16 c) : Value) ∧ H2 = H
theorem ok_spec_l01Digit (cc_ : C_spec_l01Digit) : FOk Tryd.prog 60 F_spec_l01Digit := by
  intro args H x H2 h
  unfold F_spec_l01Digit at h
  split at h
  · rename_i c
    by_cases hc : 0 ≤ c ∧ c < 256
    · simp only [if_pos hc, Option.some.injEq, Prod.mk.injEq] at h
      obtain ⟨rfl, rfl⟩ := h
      exact cc_ H c hc
    · simp only [if_neg hc, reduceCtorEq] at h
  · cases h
theorem c_spec_l01Digit : C_spec_l01Digit := by
  intro H c hc
  obtain ⟨h0, h1⟩ := hc
  have wc : IntKind.i64.wrap c = c := int_wrap _ (by omega) (by omega)
  have wa : IntKind.i64.wrap (c - 48) = c - 48 := int_wrap _ (by omega) (by omega)
  have wb : IntKind.i64.wrap (c - 87) = c - 87 := int_wrap _ (by omega) (by omega)
  refine ACall.body Tryd.func60 rfl rfl (rs := [.tmp 2]) rfl (n := 15) rfl (by decide) (by simp) ?_
  refine awp_rseq G19_ok (by simp only [go_sem, Nat.reduceBEq, ↓reduceIte, Bool.false_eq_true, Nat.reduceAdd, Nat.reduceMul, Nat.reduceLeDiff, wc, wa, wb]; try rfl) ?_
  refine awp_assoc ?_
  refine awp_rseq G19_ok (by simp only [go_sem, Nat.reduceBEq, ↓reduceIte, Bool.false_eq_true, Nat.reduceAdd, Nat.reduceMul, Nat.reduceLeDiff, wc, wa, wb]; try rfl) ?_
  refine awp_scond (by simp only [go_sem, Nat.reduceBEq, ↓reduceIte, Bool.false_eq_true, Nat.reduceAdd, Nat.reduceMul, Nat.reduceLeDiff, wc, wa, wb]; try rfl) (fun ht0 => ?_) (fun ht0 => ?_)
  · refine awp_assoc ?_
    refine awp_rseq G19_ok (by simp only [go_sem, Nat.reduceBEq, ↓reduceIte, Bool.false_eq_true, Nat.reduceAdd, Nat.reduceMul, Nat.reduceLeDiff, wc, wa, wb]; try rfl) ?_
    refine awp_sret ⟨_, (by simp only [go_sem, Nat.reduceBEq, ↓reduceIte, Bool.false_eq_true, Nat.reduceAdd, Nat.reduceMul, Nat.reduceLeDiff, wc, wa, wb]; try rfl), ?_⟩
    exact ⟨by unfold dig16; rw [if_pos ht0]; rfl, rfl⟩
  · refine awp_sskip ?_
    refine awp_assoc ?_
    refine awp_rseq G19_ok (by simp only [go_sem, Nat.reduceBEq, ↓reduceIte, Bool.false_eq_true, Nat.reduceAdd, Nat.reduceMul, Nat.reduceLeDiff, wc, wa, wb]; try rfl) ?_
    refine awp_scond (by simp only [go_sem, Nat.reduceBEq, ↓reduceIte, Bool.false_eq_true, Nat.reduceAdd, Nat.reduceMul, Nat.reduceLeDiff, wc, wa, wb]; try rfl) (fun ht1 => ?_) (fun ht1 => ?_)
    · refine awp_assoc ?_
      refine awp_rseq G19_ok (by simp only [go_sem, Nat.reduceBEq, ↓reduceIte, Bool.false_eq_true, Nat.reduceAdd, Nat.reduceMul, Nat.reduceLeDiff, wc, wa, wb]; try rfl) ?_
      refine awp_sret ⟨_, (by simp only [go_sem, Nat.reduceBEq, ↓reduceIte, Bool.false_eq_true, Nat.reduceAdd, Nat.reduceMul, Nat.reduceLeDiff, wc, wa, wb]; try rfl), ?_⟩
      exact ⟨by unfold dig16; rw [if_neg (by rw [ht0]; decide), if_pos ht1]; rfl, rfl⟩
    · refine awp_sskip ?_
      refine awp_rseq G19_ok (by simp only [go_sem, Nat.reduceBEq, ↓reduceIte, Bool.false_eq_true, Nat.reduceAdd, Nat.reduceMul, Nat.reduceLeDiff, wc, wa, wb]; try rfl) ?_
      refine awp_ret ⟨_, (by simp only [go_sem, Nat.reduceBEq, ↓reduceIte, Bool.false_eq_true, Nat.reduceAdd, Nat.reduceMul, Nat.reduceLeDiff, wc, wa, wb]; try rfl), ?_⟩
      exact ⟨by unfold dig16; rw [if_neg (by rw [ht0]; decide), if_neg (by rw [ht1]; decide)]; rfl, rfl⟩
def G20 : Gam := fun g args H => match g with
  | 34 => F_spec_l20Hex args H
  | 60 => F_spec_l01Digit args H
  | _ => G19 g args H
theorem G20_ok : GOk Tryd.prog G20 := by
  intro g args H x H2 h
  unfold G20 at h
  split at h
  · exact ok_spec_l20Hex c_spec_l20Hex _ _ _ _ h
  · exact ok_spec_l01Digit c_spec_l01Digit _ _ _ _ h
  · exact G19_ok _ _ _ _ _ h
@[go_sem] theorem G20_40 (args : List Value) (H : AHeap) : G20 40 args H = F_strings_Join args H := id rfl
@[go_sem] theorem G20_64 (args : List Value) (H : AHeap) : G20 64 args H = F_strconv_Atoi args H := id rfl
@[go_sem] theorem G20_65 (args : List Value) (H : AHeap) : G20 65 args H = F_strings_IndexByte args H := id rfl
@[go_sem] theorem G20_50 (args : List Value) (H : AHeap) : G20 50 args H = F_strings_Contains args H := id rfl
@[go_sem] theorem G20_63 (args : List Value) (H : AHeap) : G20 63 args H = F_strings_Index args H := id rfl
@[go_sem] theorem G20_62 (args : List Value) (H : AHeap) : G20 62 args H = F_strings_Count args H := id rfl
@[go_sem] theorem G20_70 (args : List Value) (H : AHeap) : G20 70 args H = F_strings_Compare args H := id rfl
@[go_sem] theorem G20_58 (args : List Value) (H : AHeap) : G20 58 args H = F_strconv_Itoa args H := id rfl
@[go_sem] theorem G20_49 (args : List Value) (H : AHeap) : G20 49 args H = F_impl_within args H := id rfl
@[go_sem] theorem G20_41 (args : List Value) (H : AHeap) : G20 41 args H = F_impl_DecText args H := id rfl
@[go_sem] theorem G20_43 (args : List Value) (H : AHeap) : G20 43 args H = F_spec_l01In args H := id rfl
@[go_sem] theorem G20_22 (args : List Value) (H : AHeap) : G20 22 args H = F_spec_l01Split args H := id rfl
@[go_sem] theorem G20_71 (args : List Value) (H : AHeap) : G20 71 args H = F_impl_NameOk args H := id rfl
@[go_sem] theorem G20_55 (args : List Value) (H : AHeap) : G20 55 args H = F_impl_Names args H := id rfl
@[go_sem] theorem G20_48 (args : List Value) (H : AHeap) : G20 48 args H = F_impl_PathOk args H := id rfl
@[go_sem] theorem G20_46 (args : List Value) (H : AHeap) : G20 46 args H = F_impl_decimal args H := id rfl
@[go_sem] theorem G20_59 (args : List Value) (H : AHeap) : G20 59 args H = F_impl_hexText args H := id rfl
@[go_sem] theorem G20_42 (args : List Value) (H : AHeap) : G20 42 args H = F_impl_hexOf args H := id rfl
@[go_sem] theorem G20_29 (args : List Value) (H : AHeap) : G20 29 args H = F_impl_NodeOk args H := id rfl
@[go_sem] theorem G20_47 (args : List Value) (H : AHeap) : G20 47 args H = F_impl_readHex args H := id rfl
@[go_sem] theorem G20_19 (args : List Value) (H : AHeap) : G20 19 args H = F_impl_showNode args H := id rfl
@[go_sem] theorem G20_26 (args : List Value) (H : AHeap) : G20 26 args H = F_impl_words_next args H := id rfl
@[go_sem] theorem G20_27 (args : List Value) (H : AHeap) : G20 27 args H = F_impl_words_number args H := id rfl
@[go_sem] theorem G20_28 (args : List Value) (H : AHeap) : G20 28 args H = F_impl_words_bytes args H := id rfl
@[go_sem] theorem G20_25 (args : List Value) (H : AHeap) : G20 25 args H = F_strings_Split_inl args H := id rfl
@[go_sem] theorem G20_11 (args : List Value) (H : AHeap) : G20 11 args H = F_impl_ReadNode args H := id rfl
@[go_sem] theorem G20_67 (args : List Value) (H : AHeap) : G20 67 args H = F_spec_NameOk args H := id rfl
@[go_sem] theorem G20_51 (args : List Value) (H : AHeap) : G20 51 args H = F_spec_PathOk args H := id rfl
@[go_sem] theorem G20_52 (args : List Value) (H : AHeap) : G20 52 args H = F_spec_Names_inl args H := id rfl
@[go_sem] theorem G20_66 (args : List Value) (H : AHeap) : G20 66 args H = F_spec_l02Names_inl args H := id rfl
@[go_sem] theorem G20_30 (args : List Value) (H : AHeap) : G20 30 args H = F_spec_NodeOk args H := id rfl
@[go_sem] theorem G20_33 (args : List Value) (H : AHeap) : G20 33 args H = F_spec_DecText args H := id rfl
@[go_sem] theorem G20_23 (args : List Value) (H : AHeap) : G20 23 args H = F_spec_DecNum args H := id rfl
@[go_sem] theorem G20_53 (args : List Value) (H : AHeap) : G20 53 args H = F_spec_HexText args H := id rfl
@[go_sem] theorem G20_34 (args : List Value) (H : AHeap) : G20 34 args H = F_spec_l20Hex args H := id rfl
@[go_sem] theorem G20_60 (args : List Value) (H : AHeap) : G20 60 args H = F_spec_l01Digit args H := id rfl
def F_spec_ShowNode : List Value → AHeap → Option (Value × AHeap)
  | [.agg a_n], H => (decNd a_n.toList).bind fun (n : Nd) => if NdW n then some (.string (if nodeOk n = true then showN n else ⟨#[]⟩), H) else none
  | _, _ => none
@[go_sem] theorem F_spec_ShowNode_ob (H : AHeap) (cs_n : List Value) : F_spec_ShowNode [.agg cs_n.toArray] H = (decNd cs_n).bind fun (n : Nd) => if NdW n then some (.string (if nodeOk n = true then showN n else ⟨#[]⟩), H) else none := by simp only [F_spec_ShowNode, List.toList_toArray]
theorem F_spec_ShowNode_at (H : AHeap) (n : Nd)   (hc : NdW n) : F_spec_ShowNode [.agg (ndC n).toArray] H = some (.string (if nodeOk n = true then showN n else ⟨#[]⟩), H) := by simp only [F_spec_ShowNode, decNd_enc, List.toList_toArray, if_pos hc, Option.bind_some]
abbrev C_spec_ShowNode : Prop := ∀ (H : AHeap) (n : Nd)   (hc : NdW n), ACall Tryd.prog 15 [.agg (ndC n).toArray] H fun v H2 => v = (.string (if nodeOk n = true then showN n else ⟨#[]⟩) : Value) ∧ H2 = H
theorem ok_spec_ShowNode (cc_ : C_spec_ShowNode) : FOk Tryd.prog 15 F_spec_ShowNode := by
  intro args H x H2 h
  unfold F_spec_ShowNode at h
  split at h
  · rename_i a_n
    have hz := bind_some h
    clear h
    obtain ⟨n, hb_n, h⟩ := hz
    have hq_n := decNd_some hb_n
    by_cases hc : NdW n
    · simp only [if_pos hc, Option.some.injEq, Prod.mk.injEq] at h
      have hr_n : a_n = (ndC n).toArray := by rw [← hq_n]
      subst hr_n
      obtain ⟨rfl, rfl⟩ := h
      exact cc_ H n hc
    · simp only [if_neg hc, reduceCtorEq] at h
  · cases h
theorem c_spec_ShowNode : C_spec_ShowNode := by
  intro H n hw
  refine ACall.wf fun wf => ACall.quiet rfl ?_
  obtain ⟨s1, s2, s3, s4, s5, s6⟩ := NdW_sizes hw
  obtain ⟨g1, g2, g3, g4, g5, g6, g7⟩ := hw
  have zd : (⟨#[100, 32]⟩ : ByteArray).size = 2 := rfl
  have zf : (⟨#[102, 32]⟩ : ByteArray).size = 2 := rfl
  have zl : (⟨#[108, 32]⟩ : ByteArray).size = 2 := rfl
  have zs : (⟨#[32]⟩ : ByteArray).size = 1 := rfl
  have hsm : Small n.path ∧ Small n.target := ⟨g5, g7⟩
  refine ACall.body Tryd.func15 rfl rfl (rs := [.tmp 2]) rfl (n := 61) rfl (by decide) (by simp) ?_
  refine awp_rseq G20_ok (by simp only [go_sem, Nat.reduceBEq, ↓reduceIte, Bool.false_eq_true, Nat.reduceAdd, Nat.reduceMul, Nat.reduceLeDiff]; try rfl) ?_
  refine awp_assoc ?_
  refine awp_rseq G20_ok (by simp only [go_sem, Nat.reduceBEq, ↓reduceIte, Bool.false_eq_true, Nat.reduceAdd, Nat.reduceMul, Nat.reduceLeDiff, F_spec_NodeOk_at _ _ hsm, g5, g7]; try rfl) ?_
  refine awp_scond (by simp only [go_sem, Nat.reduceBEq, ↓reduceIte, Bool.false_eq_true, Nat.reduceAdd, Nat.reduceMul, Nat.reduceLeDiff]; try rfl) (fun ht0 => ?_) (fun ht0 => ?_)
  · refine awp_assoc ?_
    refine awp_rseq G20_ok (by simp only [go_sem, Nat.reduceBEq, ↓reduceIte, Bool.false_eq_true, Nat.reduceAdd, Nat.reduceMul, Nat.reduceLeDiff]; try rfl) ?_
    refine awp_sret ⟨_, (by simp only [go_sem, Nat.reduceBEq, ↓reduceIte, Bool.false_eq_true, Nat.reduceAdd, Nat.reduceMul, Nat.reduceLeDiff]; try rfl), ?_⟩
    exact ⟨by rw [if_neg (by rw [bnt ht0]; decide)]; rfl, (Ext.refl _).push wf _⟩
  · refine awp_sskip ?_
    refine awp_assoc ?_
    refine awp_rseq G20_ok (by simp only [go_sem, Nat.reduceBEq, ↓reduceIte, Bool.false_eq_true, Nat.reduceAdd, Nat.reduceMul, Nat.reduceLeDiff]; try rfl) ?_
    refine awp_sblock ?_
    refine awp_rseq G20_ok (by simp only [go_sem, Nat.reduceBEq, ↓reduceIte, Bool.false_eq_true, Nat.reduceAdd, Nat.reduceMul, Nat.reduceLeDiff]; try rfl) ?_
    refine awp_cond (by simp only [go_sem, Nat.reduceBEq, ↓reduceIte, Bool.false_eq_true, Nat.reduceAdd, Nat.reduceMul, Nat.reduceLeDiff]; try rfl) (fun ht1 => ?_) (fun ht1 => ?_)
    · have ad0 : ((⟨#[100, 32]⟩ : ByteArray) : ByteArray).size + (n.path : ByteArray).size ≤ 9223372036854775807 := by simp only [ByteArray.size_append, zd, zf, zl, zs]; omega
      have ad1 : ((⟨#[100, 32]⟩ : ByteArray) ++ n.path : ByteArray).size + (⟨#[32]⟩ : ByteArray).size ≤ 9223372036854775807 := by simp only [ByteArray.size_append, zd, zf, zl, zs]; omega
      have ad2 : ((⟨#[100, 32]⟩ : ByteArray) ++ n.path ++ ⟨#[32]⟩ : ByteArray).size + (itoaS n.mode : ByteArray).size ≤ 9223372036854775807 := by simp only [ByteArray.size_append, zd, zf, zl, zs]; omega
      have ad3 : ((⟨#[100, 32]⟩ : ByteArray) ++ n.path ++ ⟨#[32]⟩ ++ itoaS n.mode : ByteArray).size + (⟨#[32]⟩ : ByteArray).size ≤ 9223372036854775807 := by simp only [ByteArray.size_append, zd, zf, zl, zs]; omega
      have ad4 : ((⟨#[100, 32]⟩ : ByteArray) ++ n.path ++ ⟨#[32]⟩ ++ itoaS n.mode ++ ⟨#[32]⟩ : ByteArray).size + (itoaS n.time : ByteArray).size ≤ 9223372036854775807 := by simp only [ByteArray.size_append, zd, zf, zl, zs]; omega
      refine awp_sdrawnQ mixed G20_ok (by simp only [go_sem, Nat.reduceBEq, ↓reduceIte, Bool.false_eq_true, Nat.reduceAdd, Nat.reduceMul, Nat.reduceLeDiff, F_spec_DecText_at _ _ g2, F_spec_DecText_at _ _ g3, bin_add_str _ _ _ _ _ _ ad0, bin_add_str _ _ _ _ _ _ ad1, bin_add_str _ _ _ _ _ _ ad2, bin_add_str _ _ _ _ _ _ ad3, bin_add_str _ _ _ _ _ _ ad4]; try rfl) (by decide) (by decide) ?_
      refine awp_ret ⟨_, (by simp only [go_sem, Nat.reduceBEq, ↓reduceIte, Bool.false_eq_true, Nat.reduceAdd, Nat.reduceMul, Nat.reduceLeDiff]; try rfl), ?_⟩
      refine ⟨?_, (Ext.refl _).push wf _⟩
      rw [if_pos (bnf ht0)]
      unfold showN; rw [if_pos ht1, join4]; rfl
    · refine awp_rseq G20_ok (by simp only [go_sem, Nat.reduceBEq, ↓reduceIte, Bool.false_eq_true, Nat.reduceAdd, Nat.reduceMul, Nat.reduceLeDiff]; try rfl) ?_
      refine awp_cond (by simp only [go_sem, Nat.reduceBEq, ↓reduceIte, Bool.false_eq_true, Nat.reduceAdd, Nat.reduceMul, Nat.reduceLeDiff]; try rfl) (fun ht2 => ?_) (fun ht2 => ?_)
      · have ad0 : ((⟨#[102, 32]⟩ : ByteArray) : ByteArray).size + (n.path : ByteArray).size ≤ 9223372036854775807 := by simp only [ByteArray.size_append, zd, zf, zl, zs]; omega
        have ad1 : ((⟨#[102, 32]⟩ : ByteArray) ++ n.path : ByteArray).size + (⟨#[32]⟩ : ByteArray).size ≤ 9223372036854775807 := by simp only [ByteArray.size_append, zd, zf, zl, zs]; omega
        have ad2 : ((⟨#[102, 32]⟩ : ByteArray) ++ n.path ++ ⟨#[32]⟩ : ByteArray).size + (itoaS n.mode : ByteArray).size ≤ 9223372036854775807 := by simp only [ByteArray.size_append, zd, zf, zl, zs]; omega
        have ad3 : ((⟨#[102, 32]⟩ : ByteArray) ++ n.path ++ ⟨#[32]⟩ ++ itoaS n.mode : ByteArray).size + (⟨#[32]⟩ : ByteArray).size ≤ 9223372036854775807 := by simp only [ByteArray.size_append, zd, zf, zl, zs]; omega
        have ad4 : ((⟨#[102, 32]⟩ : ByteArray) ++ n.path ++ ⟨#[32]⟩ ++ itoaS n.mode ++ ⟨#[32]⟩ : ByteArray).size + (itoaS n.time : ByteArray).size ≤ 9223372036854775807 := by simp only [ByteArray.size_append, zd, zf, zl, zs]; omega
        have ad5 : ((⟨#[102, 32]⟩ : ByteArray) ++ n.path ++ ⟨#[32]⟩ ++ itoaS n.mode ++ ⟨#[32]⟩ ++ itoaS n.time : ByteArray).size + (⟨#[32]⟩ : ByteArray).size ≤ 9223372036854775807 := by simp only [ByteArray.size_append, zd, zf, zl, zs]; omega
        have ad6 : ((⟨#[102, 32]⟩ : ByteArray) ++ n.path ++ ⟨#[32]⟩ ++ itoaS n.mode ++ ⟨#[32]⟩ ++ itoaS n.time ++ ⟨#[32]⟩ : ByteArray).size + (itoaS n.group : ByteArray).size ≤ 9223372036854775807 := by simp only [ByteArray.size_append, zd, zf, zl, zs]; omega
        have ad7 : ((⟨#[102, 32]⟩ : ByteArray) ++ n.path ++ ⟨#[32]⟩ ++ itoaS n.mode ++ ⟨#[32]⟩ ++ itoaS n.time ++ ⟨#[32]⟩ ++ itoaS n.group : ByteArray).size + (⟨#[32]⟩ : ByteArray).size ≤ 9223372036854775807 := by simp only [ByteArray.size_append, zd, zf, zl, zs]; omega
        have ad8 : ((⟨#[102, 32]⟩ : ByteArray) ++ n.path ++ ⟨#[32]⟩ ++ itoaS n.mode ++ ⟨#[32]⟩ ++ itoaS n.time ++ ⟨#[32]⟩ ++ itoaS n.group ++ ⟨#[32]⟩ : ByteArray).size + (hexO n.data : ByteArray).size ≤ 9223372036854775807 := by simp only [ByteArray.size_append, zd, zf, zl, zs]; omega
        have hF : ∀ H, F_spec_l20Hex [.string n.data] H = some (.string (hexO n.data), H) := fun H => (F_spec_l20Hex_at H _ g6).trans (by rw [hexO_ref (nodeOk_file (bnf ht0) (of_decide_eq_true ht2))])
        refine awp_sdrawnQ mixed G20_ok (by simp only [go_sem, Nat.reduceBEq, ↓reduceIte, Bool.false_eq_true, Nat.reduceAdd, Nat.reduceMul, Nat.reduceLeDiff, F_spec_DecText_at _ _ g2, F_spec_DecText_at _ _ g3, F_spec_DecText_at _ _ g4, hF, bin_add_str _ _ _ _ _ _ ad0, bin_add_str _ _ _ _ _ _ ad1, bin_add_str _ _ _ _ _ _ ad2, bin_add_str _ _ _ _ _ _ ad3, bin_add_str _ _ _ _ _ _ ad4, bin_add_str _ _ _ _ _ _ ad5, bin_add_str _ _ _ _ _ _ ad6, bin_add_str _ _ _ _ _ _ ad7, bin_add_str _ _ _ _ _ _ ad8]; try rfl) (by decide) (by decide) ?_
        refine awp_ret ⟨_, (by simp only [go_sem, Nat.reduceBEq, ↓reduceIte, Bool.false_eq_true, Nat.reduceAdd, Nat.reduceMul, Nat.reduceLeDiff]; try rfl), ?_⟩
        refine ⟨?_, (Ext.refl _).push wf _⟩
        rw [if_pos (bnf ht0)]
        unfold showN; rw [if_neg (by rw [ht1]; decide), if_pos ht2, join6]; rfl
      · have ad0 : ((⟨#[108, 32]⟩ : ByteArray) : ByteArray).size + (n.path : ByteArray).size ≤ 9223372036854775807 := by simp only [ByteArray.size_append, zd, zf, zl, zs]; omega
        have ad1 : ((⟨#[108, 32]⟩ : ByteArray) ++ n.path : ByteArray).size + (⟨#[32]⟩ : ByteArray).size ≤ 9223372036854775807 := by simp only [ByteArray.size_append, zd, zf, zl, zs]; omega
        have ad2 : ((⟨#[108, 32]⟩ : ByteArray) ++ n.path ++ ⟨#[32]⟩ : ByteArray).size + (itoaS n.time : ByteArray).size ≤ 9223372036854775807 := by simp only [ByteArray.size_append, zd, zf, zl, zs]; omega
        have ad3 : ((⟨#[108, 32]⟩ : ByteArray) ++ n.path ++ ⟨#[32]⟩ ++ itoaS n.time : ByteArray).size + (⟨#[32]⟩ : ByteArray).size ≤ 9223372036854775807 := by simp only [ByteArray.size_append, zd, zf, zl, zs]; omega
        have ad4 : ((⟨#[108, 32]⟩ : ByteArray) ++ n.path ++ ⟨#[32]⟩ ++ itoaS n.time ++ ⟨#[32]⟩ : ByteArray).size + (hexO n.target : ByteArray).size ≤ 9223372036854775807 := by simp only [ByteArray.size_append, zd, zf, zl, zs]; omega
        have hF : ∀ H, F_spec_l20Hex [.string n.target] H = some (.string (hexO n.target), H) := fun H => (F_spec_l20Hex_at H _ g7).trans (by rw [hexO_ref (nodeOk_link (bnf ht0) (of_decide_eq_false ht1) (of_decide_eq_false ht2))])
        refine awp_skip ?_
        show awp _ _ _ _ _ _
        refine awp_sdrawnQ mixed G20_ok (by simp only [go_sem, Nat.reduceBEq, ↓reduceIte, Bool.false_eq_true, Nat.reduceAdd, Nat.reduceMul, Nat.reduceLeDiff, F_spec_DecText_at _ _ g3, hF, bin_add_str _ _ _ _ _ _ ad0, bin_add_str _ _ _ _ _ _ ad1, bin_add_str _ _ _ _ _ _ ad2, bin_add_str _ _ _ _ _ _ ad3, bin_add_str _ _ _ _ _ _ ad4]; try rfl) (by decide) (by decide) ?_
        refine awp_ret ⟨_, (by simp only [go_sem, Nat.reduceBEq, ↓reduceIte, Bool.false_eq_true, Nat.reduceAdd, Nat.reduceMul, Nat.reduceLeDiff]; try rfl), ?_⟩
        refine ⟨?_, (Ext.refl _).push wf _⟩
        rw [if_pos (bnf ht0)]
        unfold showN; rw [if_neg (by rw [ht1]; decide), if_neg (by rw [ht2]; decide), join4]; rfl
end Go.Proofs.YtaikkfdnbihbiaaDoor
