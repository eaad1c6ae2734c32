/- The reference's ReadNode, the law. -/
import Derived.Test.YtaikkfdnbihbiaaDoorL10
import Derived.Test.YtaikkfdnbihbiaaDoorP07
namespace Go.Proofs.YtaikkfdnbihbiaaDoor
set_option linter.unusedVariables false
set_option linter.unusedSimpArgs false
set_option maxRecDepth 8000
open Go Go.AK Go.RowKit
def G21 : Gam := fun g args H => match g with
  | 15 => F_spec_ShowNode args H
  | _ => G20 g args H
theorem G21_ok : GOk Tryd.prog G21 := by
  intro g args H x H2 h
  unfold G21 at h
  split at h
  · exact ok_spec_ShowNode c_spec_ShowNode _ _ _ _ h
  · exact G20_ok _ _ _ _ _ h
@[go_sem] theorem G21_40 (args : List Value) (H : AHeap) : G21 40 args H = F_strings_Join args H := id rfl
@[go_sem] theorem G21_64 (args : List Value) (H : AHeap) : G21 64 args H = F_strconv_Atoi args H := id rfl
@[go_sem] theorem G21_65 (args : List Value) (H : AHeap) : G21 65 args H = F_strings_IndexByte args H := id rfl
@[go_sem] theorem G21_50 (args : List Value) (H : AHeap) : G21 50 args H = F_strings_Contains args H := id rfl
@[go_sem] theorem G21_63 (args : List Value) (H : AHeap) : G21 63 args H = F_strings_Index args H := id rfl
@[go_sem] theorem G21_62 (args : List Value) (H : AHeap) : G21 62 args H = F_strings_Count args H := id rfl
@[go_sem] theorem G21_70 (args : List Value) (H : AHeap) : G21 70 args H = F_strings_Compare args H := id rfl
@[go_sem] theorem G21_58 (args : List Value) (H : AHeap) : G21 58 args H = F_strconv_Itoa args H := id rfl
@[go_sem] theorem G21_49 (args : List Value) (H : AHeap) : G21 49 args H = F_impl_within args H := id rfl
@[go_sem] theorem G21_41 (args : List Value) (H : AHeap) : G21 41 args H = F_impl_DecText args H := id rfl
@[go_sem] theorem G21_43 (args : List Value) (H : AHeap) : G21 43 args H = F_spec_l01In args H := id rfl
@[go_sem] theorem G21_22 (args : List Value) (H : AHeap) : G21 22 args H = F_spec_l01Split args H := id rfl
@[go_sem] theorem G21_71 (args : List Value) (H : AHeap) : G21 71 args H = F_impl_NameOk args H := id rfl
@[go_sem] theorem G21_55 (args : List Value) (H : AHeap) : G21 55 args H = F_impl_Names args H := id rfl
@[go_sem] theorem G21_48 (args : List Value) (H : AHeap) : G21 48 args H = F_impl_PathOk args H := id rfl
@[go_sem] theorem G21_46 (args : List Value) (H : AHeap) : G21 46 args H = F_impl_decimal args H := id rfl
@[go_sem] theorem G21_59 (args : List Value) (H : AHeap) : G21 59 args H = F_impl_hexText args H := id rfl
@[go_sem] theorem G21_42 (args : List Value) (H : AHeap) : G21 42 args H = F_impl_hexOf args H := id rfl
@[go_sem] theorem G21_29 (args : List Value) (H : AHeap) : G21 29 args H = F_impl_NodeOk args H := id rfl
@[go_sem] theorem G21_47 (args : List Value) (H : AHeap) : G21 47 args H = F_impl_readHex args H := id rfl
@[go_sem] theorem G21_19 (args : List Value) (H : AHeap) : G21 19 args H = F_impl_showNode args H := id rfl
@[go_sem] theorem G21_26 (args : List Value) (H : AHeap) : G21 26 args H = F_impl_words_next args H := id rfl
@[go_sem] theorem G21_27 (args : List Value) (H : AHeap) : G21 27 args H = F_impl_words_number args H := id rfl
@[go_sem] theorem G21_28 (args : List Value) (H : AHeap) : G21 28 args H = F_impl_words_bytes args H := id rfl
@[go_sem] theorem G21_25 (args : List Value) (H : AHeap) : G21 25 args H = F_strings_Split_inl args H := id rfl
@[go_sem] theorem G21_11 (args : List Value) (H : AHeap) : G21 11 args H = F_impl_ReadNode args H := id rfl
@[go_sem] theorem G21_67 (args : List Value) (H : AHeap) : G21 67 args H = F_spec_NameOk args H := id rfl
@[go_sem] theorem G21_51 (args : List Value) (H : AHeap) : G21 51 args H = F_spec_PathOk args H := id rfl
@[go_sem] theorem G21_52 (args : List Value) (H : AHeap) : G21 52 args H = F_spec_Names_inl args H := id rfl
@[go_sem] theorem G21_66 (args : List Value) (H : AHeap) : G21 66 args H = F_spec_l02Names_inl args H := id rfl
@[go_sem] theorem G21_30 (args : List Value) (H : AHeap) : G21 30 args H = F_spec_NodeOk args H := id rfl
@[go_sem] theorem G21_33 (args : List Value) (H : AHeap) : G21 33 args H = F_spec_DecText args H := id rfl
@[go_sem] theorem G21_23 (args : List Value) (H : AHeap) : G21 23 args H = F_spec_DecNum args H := id rfl
@[go_sem] theorem G21_53 (args : List Value) (H : AHeap) : G21 53 args H = F_spec_HexText args H := id rfl
@[go_sem] theorem G21_34 (args : List Value) (H : AHeap) : G21 34 args H = F_spec_l20Hex args H := id rfl
@[go_sem] theorem G21_60 (args : List Value) (H : AHeap) : G21 60 args H = F_spec_l01Digit args H := id rfl
@[go_sem] theorem G21_15 (args : List Value) (H : AHeap) : G21 15 args H = F_spec_ShowNode args H := id rfl
def F_spec_HexBytes_inl : List Value → AHeap → Option (Value × AHeap)
  | [.string s], H => if Small s then some (.tuple [inl 1 1 (strElems ((unhex s).getD ⟨#[]⟩)), .bool (unhex s).isSome].toArray, H) else none
  | _, _ => none
@[go_sem] theorem F_spec_HexBytes_inl_at (H : AHeap) (s : ByteArray)   (hc : Small s) : F_spec_HexBytes_inl [.string s] H = some (.tuple [inl 1 1 (strElems ((unhex s).getD ⟨#[]⟩)), .bool (unhex s).isSome].toArray, H) := by simp only [F_spec_HexBytes_inl, if_pos hc, Option.bind_some]
abbrev C_spec_HexBytes_inl : Prop := ∀ (H : AHeap) (s : ByteArray)   (hc : Small s), ACall Tryd.prog 44 [.string s] H fun v H2 => v = (.tuple [inl 1 1 (strElems ((unhex s).getD ⟨#[]⟩)), .bool (unhex s).isSome].toArray : Value) ∧ H2 = H
theorem ok_spec_HexBytes_inl (cc_ : C_spec_HexBytes_inl) : FOk Tryd.prog 44 F_spec_HexBytes_inl := by
  intro args H x H2 h
  unfold F_spec_HexBytes_inl at h
  split at h
  · rename_i s
    by_cases hc : Small s
    · simp only [if_pos hc, Option.some.injEq, Prod.mk.injEq] at h
      obtain ⟨rfl, rfl⟩ := h
      exact cc_ H s hc
    · simp only [if_neg hc, reduceCtorEq] at h
  · cases h
theorem c_spec_HexBytes_inl : C_spec_HexBytes_inl := by
  intro H s hs
  refine ACall.wf fun wf => ACall.toInl2 (nl := false) rfl (strElems_flatC _) ?_
  refine ACall.body Tryd.func44 rfl rfl (rs := [.tmp 2, .tmp 3]) rfl (n := 50) rfl (by decide) (by simp) ?_
  refine awp_rseq G21_ok (by simp only [go_sem, Nat.reduceBEq, ↓reduceIte, Bool.false_eq_true, Nat.reduceAdd, Nat.reduceMul, Nat.reduceLeDiff]; try rfl) ?_
  refine awp_rseq G21_ok (by simp only [go_sem, Nat.reduceBEq, ↓reduceIte, Bool.false_eq_true, Nat.reduceAdd, Nat.reduceMul, Nat.reduceLeDiff]; try rfl) ?_
  refine awp_assoc ?_
  refine awp_rseq G21_ok (by simp (contextual := true) only [go_sem, Nat.reduceBEq, ↓reduceIte, Bool.false_eq_true, Nat.reduceAdd, Nat.reduceMul, Nat.reduceLeDiff, bin_rem _ _ _ _ _ _ _ (show (2 : Int) ≠ 0 by decide)]; try rfl) ?_
  refine awp_scond (by simp only [go_sem, Nat.reduceBEq, ↓reduceIte, Bool.false_eq_true, Nat.reduceAdd, Nat.reduceMul, Nat.reduceLeDiff]; try rfl) (fun ht0 => ?_) (fun ht0 => ?_)
  · simp only [Bool.or_eq_true, Bool.or_eq_false_iff, decide_eq_true_eq, decide_eq_false_iff_not, bnot_t, bnot_f] at ht0
    refine awp_assoc ?_
    refine awp_rseq G21_ok (by simp only [go_sem, Nat.reduceBEq, ↓reduceIte, Bool.false_eq_true, Nat.reduceAdd, Nat.reduceMul, Nat.reduceLeDiff]; try rfl) ?_
    refine awp_sret ⟨_, (by simp only [go_sem, Nat.reduceBEq, ↓reduceIte, Bool.false_eq_true, Nat.reduceAdd, Nat.reduceMul, Nat.reduceLeDiff]; try rfl), ?_⟩
    have : unhex s = none := by unfold unhex; rw [if_neg (by intro h; rcases ht0 with h1 | h1 <;> omega)]
    rw [this]
    exact ⟨_, rfl, Buf.fresh wf wf (Ext.refl _) 1 [] rfl 1⟩
  · simp only [Bool.or_eq_true, Bool.or_eq_false_iff, decide_eq_true_eq, decide_eq_false_iff_not, bnot_t, bnot_f] at ht0
    refine awp_sskip ?_
    refine awp_assoc ?_
    have hev : s.size % 2 = 0 := by have := ht0.1; rw [Int.tmod_eq_emod_of_nonneg (by omega)] at this; omega
    have huh : unhex s = (unhexFrom s 0).map ofInts := by unfold unhex; rw [if_pos ⟨ht0.1, by omega⟩]
    refine awp_rseq G21_ok (by simp only [go_sem, Nat.reduceBEq, ↓reduceIte, Bool.false_eq_true, Nat.reduceAdd, Nat.reduceMul, Nat.reduceLeDiff]; try rfl) ?_
    refine awp_sblock ?_
    refine awp_loop (fun e H' => e 0 = .string s ∧ ∃ i : Nat, ∃ out : List Int, e 5 = .int .i64 i ∧ (Buf H 1 false (bRow out) (e 4) H') ∧ (i ≤ s.size) ∧ (i % 2 = 0) ∧ (out.length ≤ i) ∧ (unhexFrom s 0 = (unhexFrom s i).map (out ++ ·)) ∧ (∀ x ∈ out, 0 ≤ x ∧ x < 256)) (fun e H' => gap s.size (e 5)) ?_ ?_
    · refine ⟨(by simp only [go_sem, Nat.reduceBEq, ↓reduceIte, Bool.false_eq_true, Nat.reduceAdd, Nat.reduceMul, Nat.reduceLeDiff]; try rfl), 0, [], (by simp only [go_sem, Nat.reduceBEq, ↓reduceIte, Bool.false_eq_true, Nat.reduceAdd, Nat.reduceMul, Nat.reduceLeDiff]; try rfl), ?_⟩
      refine ⟨?_, Nat.zero_le _, rfl, Nat.le_refl _, ?_, by simp⟩
      · simp only [go_sem, Nat.reduceBEq, ↓reduceIte, Bool.false_eq_true, Nat.reduceAdd, Nat.reduceMul, Nat.reduceLeDiff]; exact Buf.fresh wf wf (Ext.refl _) 1 [] rfl 1
      · simp only [List.nil_append, Option.map_id']
    · rintro e H' ⟨c0_0, i, out, v5_0, hb, hi, hie, ho, hq, hall⟩
      refine awp_assoc ?_
      refine awp_rseq G21_ok (by simp only [go_sem, Nat.reduceBEq, ↓reduceIte, Bool.false_eq_true, Nat.reduceAdd, Nat.reduceMul, Nat.reduceLeDiff, c0_0, v5_0]; try rfl) ?_
      refine awp_scond (by simp only [go_sem, Nat.reduceBEq, ↓reduceIte, Bool.false_eq_true, Nat.reduceAdd, Nat.reduceMul, Nat.reduceLeDiff, c0_0, v5_0]; try rfl) (fun ht1 => ?_) (fun ht1 => ?_)
      · refine awp_sskip ?_
        refine awp_sblock ?_
        have hlt : (i : Int) < s.size := of_decide_eq_true ht1
        have hlt2 : ((i + 1 : Nat) : Int) < s.size := by omega
        have b0 := bt_lo s i
        have b1 := bt_hi s i
        have b2 := bt_lo s (i + 1)
        have b3 := bt_hi s (i + 1)
        have d1 := dig16_eq b0 b1
        have d2 := dig16_eq b2 b3
        have wi : IntKind.i64.wrap ((i : Int) + 1) = ((i + 1 : Nat) : Int) := int_wrap _ (by omega) (by omega)
        have wi2 : IntKind.i64.wrap ((i : Int) + 2) = ((i + 2 : Nat) : Int) := int_wrap _ (by omega) (by omega)
        refine awp_sdrawnQ mixed G21_ok (by simp only [go_sem, Nat.reduceBEq, ↓reduceIte, Bool.false_eq_true, Nat.reduceAdd, Nat.reduceMul, Nat.reduceLeDiff, wi, idx_str un9 _ _ _ (Int.natCast_nonneg i) hlt, idx_str un9 _ _ _ (Int.natCast_nonneg (i+1)) hlt2, F_spec_l01Digit_at _ _ ⟨b0, b1⟩, F_spec_l01Digit_at _ _ ⟨b2, b3⟩, d1, d2, c0_0, v5_0]; try rfl) (by decide) (by decide) ?_
        refine awp_assoc ?_
        refine awp_rseq G21_ok (by simp (contextual := true) only [go_sem, Nat.reduceBEq, ↓reduceIte, Bool.false_eq_true, Nat.reduceAdd, Nat.reduceMul, Nat.reduceLeDiff, c0_0, v5_0]; try rfl) ?_
        refine awp_scond (by simp only [go_sem, Nat.reduceBEq, ↓reduceIte, Bool.false_eq_true, Nat.reduceAdd, Nat.reduceMul, Nat.reduceLeDiff, c0_0, v5_0]; try rfl) (fun ht2 => ?_) (fun ht2 => ?_)
        · refine awp_assoc ?_
          refine awp_rseq G21_ok (by simp only [go_sem, Nat.reduceBEq, ↓reduceIte, Bool.false_eq_true, Nat.reduceAdd, Nat.reduceMul, Nat.reduceLeDiff, c0_0, v5_0]; try rfl) ?_
          refine awp_sret ⟨_, (by simp only [go_sem, Nat.reduceBEq, ↓reduceIte, Bool.false_eq_true, Nat.reduceAdd, Nat.reduceMul, Nat.reduceLeDiff, c0_0, v5_0]; try rfl), ?_⟩
          have : unhex s = none := by
            rw [huh, hq]; unfold unhexFrom; rw [if_pos (by omega), if_pos ht2]; rfl
          rw [this]
          exact ⟨_, rfl, Buf.fresh wf hb.wf hb.ext 1 [] rfl 1⟩
        · refine awp_sskip ?_
          have hn1 : 0 ≤ hexVal (bt s i) := by have := ht2; simp only [Bool.or_eq_false_iff, decide_eq_false_iff_not] at this; unfold hexVal at *; omega
          have hn2 : 0 ≤ hexVal (bt s (i + 1)) := by have := ht2; simp only [Bool.or_eq_false_iff, decide_eq_false_iff_not] at this; unfold hexVal at *; omega
          have hm1 := hexVal_lt (bt s i)
          have hm2 := hexVal_lt (bt s (i + 1))
          have wa : IntKind.i64.wrap (16 * hexVal (bt s i)) = 16 * hexVal (bt s i) := int_wrap _ (by omega) (by omega)
          have wb : IntKind.i64.wrap (16 * hexVal (bt s i) + hexVal (bt s (i + 1))) = 16 * hexVal (bt s i) + hexVal (bt s (i + 1)) := int_wrap _ (by omega) (by omega)
          have wc : IntKind.u8.wrap (16 * hexVal (bt s i) + hexVal (bt s (i + 1))) = 16 * hexVal (bt s i) + hexVal (bt s (i + 1)) := u8_small (by omega) (by omega)
          refine awp_regs ?_
          refine rwp_eval G21_ok 7 (by simp only [go_sem, Nat.reduceBEq, ↓reduceIte, Bool.false_eq_true, Nat.reduceAdd, Nat.reduceMul, Nat.reduceLeDiff, wa, wb, wc, c0_0, v5_0]; try rfl) ?_
          refine rwp_append sl42 sl42 (by simp only [go_sem, Nat.reduceBEq, ↓reduceIte, Bool.false_eq_true, Nat.reduceAdd, Nat.reduceMul, Nat.reduceLeDiff, wa, wb, wc, c0_0, v5_0]; try rfl) (hb.push _) (by simp only [go_sem, Nat.reduceBEq, ↓reduceIte, Bool.false_eq_true, Nat.reduceAdd, Nat.reduceMul, Nat.reduceLeDiff, wa, wb, wc, c0_0, v5_0]; try rfl) (elems_push _ 1 _ 1 true) (by rw [bRow_len]; simp; omega) (by rw [bRow_len]; simp; omega) (fun v_10 H_10 hb_10 => ?_)
          refine rwp_eval G21_ok 1 (by simp only [go_sem, Nat.reduceBEq, ↓reduceIte, Bool.false_eq_true, Nat.reduceAdd, Nat.reduceMul, Nat.reduceLeDiff, wa, wb, wc, c0_0, v5_0]; try rfl) ?_
          show awp _ _ _ _ _ _
          refine awp_reg G21_ok (by simp only [go_sem, Nat.reduceBEq, ↓reduceIte, Bool.false_eq_true, Nat.reduceAdd, Nat.reduceMul, Nat.reduceLeDiff, wi2, c0_0, v5_0]; try rfl) ?_
          refine ⟨⟨(by simp only [go_sem, Nat.reduceBEq, ↓reduceIte, Bool.false_eq_true, Nat.reduceAdd, Nat.reduceMul, Nat.reduceLeDiff, c0_0, v5_0]; try rfl), i + 2, out ++ [16 * hexVal (bt s i) + hexVal (bt s (i + 1))], (by simp only [go_sem, Nat.reduceBEq, ↓reduceIte, Bool.false_eq_true, Nat.reduceAdd, Nat.reduceMul, Nat.reduceLeDiff, c0_0, v5_0]; try rfl), ?_⟩, ?_⟩
          · refine ⟨?_, by omega, by omega, by simp only [List.length_append, List.length_cons, List.length_nil]; omega, ?_, ?_⟩
            · simp only [go_sem, Nat.reduceBEq, ↓reduceIte, Bool.false_eq_true, Nat.reduceAdd, Nat.reduceMul, Nat.reduceLeDiff]; rw [bRow_app]; exact hb_10
            · rw [hq]; conv => lhs; unfold unhexFrom
              rw [if_pos (by omega), if_neg (by rw [ht2]; decide), Option.map_map]
              congr 1; funext x; simp
            · intro x hx
              rcases List.mem_append.1 hx with hx | hx
              · exact hall x hx
              · rw [List.mem_singleton] at hx; subst hx; omega
          · simp only [go_sem, Nat.reduceBEq, ↓reduceIte, Bool.false_eq_true, Nat.reduceAdd, Nat.reduceMul, Nat.reduceLeDiff, c0_0, v5_0]; omega
      · refine awp_sexitL ?_
        show awp _ _ _ _ _ _
        refine awp_rseq G21_ok (by simp only [go_sem, Nat.reduceBEq, ↓reduceIte, Bool.false_eq_true, Nat.reduceAdd, Nat.reduceMul, Nat.reduceLeDiff, c0_0, v5_0]; try rfl) ?_
        refine awp_ret ⟨_, (by simp only [go_sem, Nat.reduceBEq, ↓reduceIte, Bool.false_eq_true, Nat.reduceAdd, Nat.reduceMul, Nat.reduceLeDiff, c0_0, v5_0]; try rfl), ?_⟩
        have hge : ¬ (i : Int) < s.size := of_decide_eq_false ht1
        have : unhex s = some (ofInts out) := by
          rw [huh, hq]; unfold unhexFrom; rw [if_neg (by omega)]; simp
        rw [this]
        refine ⟨_, rfl, ?_⟩
        show Buf H 1 false (strElems (ofInts out)) _ _
        rw [← bRow_strElems out hall]; exact hb
def G22 : Gam := fun g args H => match g with
  | 44 => F_spec_HexBytes_inl args H
  | _ => G21 g args H
theorem G22_ok : GOk Tryd.prog G22 := by
  intro g args H x H2 h
  unfold G22 at h
  split at h
  · exact ok_spec_HexBytes_inl c_spec_HexBytes_inl _ _ _ _ h
  · exact G21_ok _ _ _ _ _ h
@[go_sem] theorem G22_40 (args : List Value) (H : AHeap) : G22 40 args H = F_strings_Join args H := id rfl
@[go_sem] theorem G22_64 (args : List Value) (H : AHeap) : G22 64 args H = F_strconv_Atoi args H := id rfl
@[go_sem] theorem G22_65 (args : List Value) (H : AHeap) : G22 65 args H = F_strings_IndexByte args H := id rfl
@[go_sem] theorem G22_50 (args : List Value) (H : AHeap) : G22 50 args H = F_strings_Contains args H := id rfl
@[go_sem] theorem G22_63 (args : List Value) (H : AHeap) : G22 63 args H = F_strings_Index args H := id rfl
@[go_sem] theorem G22_62 (args : List Value) (H : AHeap) : G22 62 args H = F_strings_Count args H := id rfl
@[go_sem] theorem G22_70 (args : List Value) (H : AHeap) : G22 70 args H = F_strings_Compare args H := id rfl
@[go_sem] theorem G22_58 (args : List Value) (H : AHeap) : G22 58 args H = F_strconv_Itoa args H := id rfl
@[go_sem] theorem G22_49 (args : List Value) (H : AHeap) : G22 49 args H = F_impl_within args H := id rfl
@[go_sem] theorem G22_41 (args : List Value) (H : AHeap) : G22 41 args H = F_impl_DecText args H := id rfl
@[go_sem] theorem G22_43 (args : List Value) (H : AHeap) : G22 43 args H = F_spec_l01In args H := id rfl
@[go_sem] theorem G22_22 (args : List Value) (H : AHeap) : G22 22 args H = F_spec_l01Split args H := id rfl
@[go_sem] theorem G22_71 (args : List Value) (H : AHeap) : G22 71 args H = F_impl_NameOk args H := id rfl
@[go_sem] theorem G22_55 (args : List Value) (H : AHeap) : G22 55 args H = F_impl_Names args H := id rfl
@[go_sem] theorem G22_48 (args : List Value) (H : AHeap) : G22 48 args H = F_impl_PathOk args H := id rfl
@[go_sem] theorem G22_46 (args : List Value) (H : AHeap) : G22 46 args H = F_impl_decimal args H := id rfl
@[go_sem] theorem G22_59 (args : List Value) (H : AHeap) : G22 59 args H = F_impl_hexText args H := id rfl
@[go_sem] theorem G22_42 (args : List Value) (H : AHeap) : G22 42 args H = F_impl_hexOf args H := id rfl
@[go_sem] theorem G22_29 (args : List Value) (H : AHeap) : G22 29 args H = F_impl_NodeOk args H := id rfl
@[go_sem] theorem G22_47 (args : List Value) (H : AHeap) : G22 47 args H = F_impl_readHex args H := id rfl
@[go_sem] theorem G22_19 (args : List Value) (H : AHeap) : G22 19 args H = F_impl_showNode args H := id rfl
@[go_sem] theorem G22_26 (args : List Value) (H : AHeap) : G22 26 args H = F_impl_words_next args H := id rfl
@[go_sem] theorem G22_27 (args : List Value) (H : AHeap) : G22 27 args H = F_impl_words_number args H := id rfl
@[go_sem] theorem G22_28 (args : List Value) (H : AHeap) : G22 28 args H = F_impl_words_bytes args H := id rfl
@[go_sem] theorem G22_25 (args : List Value) (H : AHeap) : G22 25 args H = F_strings_Split_inl args H := id rfl
@[go_sem] theorem G22_11 (args : List Value) (H : AHeap) : G22 11 args H = F_impl_ReadNode args H := id rfl
@[go_sem] theorem G22_67 (args : List Value) (H : AHeap) : G22 67 args H = F_spec_NameOk args H := id rfl
@[go_sem] theorem G22_51 (args : List Value) (H : AHeap) : G22 51 args H = F_spec_PathOk args H := id rfl
@[go_sem] theorem G22_52 (args : List Value) (H : AHeap) : G22 52 args H = F_spec_Names_inl args H := id rfl
@[go_sem] theorem G22_66 (args : List Value) (H : AHeap) : G22 66 args H = F_spec_l02Names_inl args H := id rfl
@[go_sem] theorem G22_30 (args : List Value) (H : AHeap) : G22 30 args H = F_spec_NodeOk args H := id rfl
@[go_sem] theorem G22_33 (args : List Value) (H : AHeap) : G22 33 args H = F_spec_DecText args H := id rfl
@[go_sem] theorem G22_23 (args : List Value) (H : AHeap) : G22 23 args H = F_spec_DecNum args H := id rfl
@[go_sem] theorem G22_53 (args : List Value) (H : AHeap) : G22 53 args H = F_spec_HexText args H := id rfl
@[go_sem] theorem G22_34 (args : List Value) (H : AHeap) : G22 34 args H = F_spec_l20Hex args H := id rfl
@[go_sem] theorem G22_60 (args : List Value) (H : AHeap) : G22 60 args H = F_spec_l01Digit args H := id rfl
@[go_sem] theorem G22_15 (args : List Value) (H : AHeap) : G22 15 args H = F_spec_ShowNode args H := id rfl
@[go_sem] theorem G22_44 (args : List Value) (H : AHeap) : G22 44 args H = F_spec_HexBytes_inl args H := id rfl
def F_spec_l20Unhex : List Value → AHeap → Option (Value × AHeap)
  | [.string s], H => if Small s then some (.string (unH s), H) else none
  | _, _ => none
@[go_sem] theorem F_spec_l20Unhex_at (H : AHeap) (s : ByteArray)   (hc : Small s) : F_spec_l20Unhex [.string s] H = some (.string (unH s), H) := by simp only [F_spec_l20Unhex, if_pos hc, Option.bind_some]
abbrev C_spec_l20Unhex : Prop := ∀ (H : AHeap) (s : ByteArray)   (hc : Small s), ACall Tryd.prog 24 [.string s] H fun v H2 => v = (.string (unH s) : Value) ∧ H2 = H
theorem ok_spec_l20Unhex (cc_ : C_spec_l20Unhex) : FOk Tryd.prog 24 F_spec_l20Unhex := by
  intro args H x H2 h
  unfold F_spec_l20Unhex at h
  split at h
  · rename_i s
    by_cases hc : Small s
    · simp only [if_pos hc, Option.some.injEq, Prod.mk.injEq] at h
      obtain ⟨rfl, rfl⟩ := h
      exact cc_ H s hc
    · simp only [if_neg hc, reduceCtorEq] at h
  · cases h
theorem c_spec_l20Unhex : C_spec_l20Unhex := by
  intro H s hs
  refine ACall.body Tryd.func24 rfl rfl (rs := [.tmp 2]) rfl (n := 14) rfl (by decide) (by simp) ?_
  refine awp_rseq G22_ok (by simp only [go_sem, Nat.reduceBEq, ↓reduceIte, Bool.false_eq_true, Nat.reduceAdd, Nat.reduceMul, Nat.reduceLeDiff, F_spec_HexBytes_inl_at _ _ hs]; try rfl) ?_
  refine awp_assoc ?_
  refine awp_rseq G22_ok (by simp only [go_sem, Nat.reduceBEq, ↓reduceIte, Bool.false_eq_true, Nat.reduceAdd, Nat.reduceMul, Nat.reduceLeDiff, F_spec_HexBytes_inl_at _ _ hs]; try rfl) ?_
  refine awp_scond (by simp only [go_sem, Nat.reduceBEq, ↓reduceIte, Bool.false_eq_true, Nat.reduceAdd, Nat.reduceMul, Nat.reduceLeDiff, F_spec_HexBytes_inl_at _ _ hs]; try rfl) (fun ht0 => ?_) (fun ht0 => ?_)
  · refine awp_assoc ?_
    refine awp_rseq G22_ok (by simp only [go_sem, Nat.reduceBEq, ↓reduceIte, Bool.false_eq_true, Nat.reduceAdd, Nat.reduceMul, Nat.reduceLeDiff, F_spec_HexBytes_inl_at _ _ hs]; try rfl) ?_
    refine awp_sret ⟨_, (by simp only [go_sem, Nat.reduceBEq, ↓reduceIte, Bool.false_eq_true, Nat.reduceAdd, Nat.reduceMul, Nat.reduceLeDiff, F_spec_HexBytes_inl_at _ _ hs]; try rfl), ?_⟩
    exact ⟨by unfold unH; rw [if_pos ht0]; rfl, rfl⟩
  · refine awp_sskip ?_
    refine awp_rseq G22_ok (by simp only [go_sem, Nat.reduceBEq, ↓reduceIte, Bool.false_eq_true, Nat.reduceAdd, Nat.reduceMul, Nat.reduceLeDiff, F_spec_HexBytes_inl_at _ _ hs]; try rfl) ?_
    refine awp_rseq G22_ok (by simp only [go_sem, Nat.reduceBEq, ↓reduceIte, Bool.false_eq_true, Nat.reduceAdd, Nat.reduceMul, Nat.reduceLeDiff, F_spec_HexBytes_inl_at _ _ hs]; try rfl) ?_
    refine awp_ret ⟨_, (by simp only [go_sem, Nat.reduceBEq, ↓reduceIte, Bool.false_eq_true, Nat.reduceAdd, Nat.reduceMul, Nat.reduceLeDiff, F_spec_HexBytes_inl_at _ _ hs]; try rfl), ?_⟩
    exact ⟨by unfold unH; rw [if_neg (by rw [ht0]; decide)]; rfl, rfl⟩
def F_spec_l01Split_inl : List Value → AHeap → Option (Value × AHeap)
  | [.string s], H => if Small s then some (inl 1 1 (strRow (splitC s 32)), H) else none
  | _, _ => none
@[go_sem] theorem F_spec_l01Split_inl_at (H : AHeap) (s : ByteArray)   (hc : Small s) : F_spec_l01Split_inl [.string s] H = some (inl 1 1 (strRow (splitC s 32)), H) := by simp only [F_spec_l01Split_inl, if_pos hc, Option.bind_some]
abbrev C_spec_l01Split_inl : Prop := ∀ (H : AHeap) (s : ByteArray)   (hc : Small s), ACall Tryd.prog 22 [.string s] H fun v H2 => v = (inl 1 1 (strRow (splitC s 32)) : Value) ∧ H2 = H
theorem ok_spec_l01Split_inl (cc_ : C_spec_l01Split_inl) : FOk Tryd.prog 22 F_spec_l01Split_inl := by
  intro args H x H2 h
  unfold F_spec_l01Split_inl at h
  split at h
  · rename_i s
    by_cases hc : Small s
    · simp only [if_pos hc, Option.some.injEq, Prod.mk.injEq] at h
      obtain ⟨rfl, rfl⟩ := h
      exact cc_ H s hc
    · simp only [if_neg hc, reduceCtorEq] at h
  · cases h
theorem c_spec_l01Split_inl : C_spec_l01Split_inl := fun H s hc => ACall.rowInl (strRow_flatC _) rfl (c_spec_l01Split H s hc)
def G23 : Gam := fun g args H => match g with
  | 24 => F_spec_l20Unhex args H
  | 22 => F_spec_l01Split_inl args H
  | _ => G22 g args H
theorem G23_ok : GOk Tryd.prog G23 := by
  intro g args H x H2 h
  unfold G23 at h
  split at h
  · exact ok_spec_l20Unhex c_spec_l20Unhex _ _ _ _ h
  · exact ok_spec_l01Split_inl c_spec_l01Split_inl _ _ _ _ h
  · exact G22_ok _ _ _ _ _ h
@[go_sem] theorem G23_40 (args : List Value) (H : AHeap) : G23 40 args H = F_strings_Join args H := id rfl
@[go_sem] theorem G23_64 (args : List Value) (H : AHeap) : G23 64 args H = F_strconv_Atoi args H := id rfl
@[go_sem] theorem G23_65 (args : List Value) (H : AHeap) : G23 65 args H = F_strings_IndexByte args H := id rfl
@[go_sem] theorem G23_50 (args : List Value) (H : AHeap) : G23 50 args H = F_strings_Contains args H := id rfl
@[go_sem] theorem G23_63 (args : List Value) (H : AHeap) : G23 63 args H = F_strings_Index args H := id rfl
@[go_sem] theorem G23_62 (args : List Value) (H : AHeap) : G23 62 args H = F_strings_Count args H := id rfl
@[go_sem] theorem G23_70 (args : List Value) (H : AHeap) : G23 70 args H = F_strings_Compare args H := id rfl
@[go_sem] theorem G23_58 (args : List Value) (H : AHeap) : G23 58 args H = F_strconv_Itoa args H := id rfl
@[go_sem] theorem G23_49 (args : List Value) (H : AHeap) : G23 49 args H = F_impl_within args H := id rfl
@[go_sem] theorem G23_41 (args : List Value) (H : AHeap) : G23 41 args H = F_impl_DecText args H := id rfl
@[go_sem] theorem G23_43 (args : List Value) (H : AHeap) : G23 43 args H = F_spec_l01In args H := id rfl
@[go_sem] theorem G23_71 (args : List Value) (H : AHeap) : G23 71 args H = F_impl_NameOk args H := id rfl
@[go_sem] theorem G23_55 (args : List Value) (H : AHeap) : G23 55 args H = F_impl_Names args H := id rfl
@[go_sem] theorem G23_48 (args : List Value) (H : AHeap) : G23 48 args H = F_impl_PathOk args H := id rfl
@[go_sem] theorem G23_46 (args : List Value) (H : AHeap) : G23 46 args H = F_impl_decimal args H := id rfl
@[go_sem] theorem G23_59 (args : List Value) (H : AHeap) : G23 59 args H = F_impl_hexText args H := id rfl
@[go_sem] theorem G23_42 (args : List Value) (H : AHeap) : G23 42 args H = F_impl_hexOf args H := id rfl
@[go_sem] theorem G23_29 (args : List Value) (H : AHeap) : G23 29 args H = F_impl_NodeOk args H := id rfl
@[go_sem] theorem G23_47 (args : List Value) (H : AHeap) : G23 47 args H = F_impl_readHex args H := id rfl
@[go_sem] theorem G23_19 (args : List Value) (H : AHeap) : G23 19 args H = F_impl_showNode args H := id rfl
@[go_sem] theorem G23_26 (args : List Value) (H : AHeap) : G23 26 args H = F_impl_words_next args H := id rfl
@[go_sem] theorem G23_27 (args : List Value) (H : AHeap) : G23 27 args H = F_impl_words_number args H := id rfl
@[go_sem] theorem G23_28 (args : List Value) (H : AHeap) : G23 28 args H = F_impl_words_bytes args H := id rfl
@[go_sem] theorem G23_25 (args : List Value) (H : AHeap) : G23 25 args H = F_strings_Split_inl args H := id rfl
@[go_sem] theorem G23_11 (args : List Value) (H : AHeap) : G23 11 args H = F_impl_ReadNode args H := id rfl
@[go_sem] theorem G23_67 (args : List Value) (H : AHeap) : G23 67 args H = F_spec_NameOk args H := id rfl
@[go_sem] theorem G23_51 (args : List Value) (H : AHeap) : G23 51 args H = F_spec_PathOk args H := id rfl
@[go_sem] theorem G23_52 (args : List Value) (H : AHeap) : G23 52 args H = F_spec_Names_inl args H := id rfl
@[go_sem] theorem G23_66 (args : List Value) (H : AHeap) : G23 66 args H = F_spec_l02Names_inl args H := id rfl
@[go_sem] theorem G23_30 (args : List Value) (H : AHeap) : G23 30 args H = F_spec_NodeOk args H := id rfl
@[go_sem] theorem G23_33 (args : List Value) (H : AHeap) : G23 33 args H = F_spec_DecText args H := id rfl
@[go_sem] theorem G23_23 (args : List Value) (H : AHeap) : G23 23 args H = F_spec_DecNum args H := id rfl
@[go_sem] theorem G23_53 (args : List Value) (H : AHeap) : G23 53 args H = F_spec_HexText args H := id rfl
@[go_sem] theorem G23_34 (args : List Value) (H : AHeap) : G23 34 args H = F_spec_l20Hex args H := id rfl
@[go_sem] theorem G23_60 (args : List Value) (H : AHeap) : G23 60 args H = F_spec_l01Digit args H := id rfl
@[go_sem] theorem G23_15 (args : List Value) (H : AHeap) : G23 15 args H = F_spec_ShowNode args H := id rfl
@[go_sem] theorem G23_44 (args : List Value) (H : AHeap) : G23 44 args H = F_spec_HexBytes_inl args H := id rfl
@[go_sem] theorem G23_24 (args : List Value) (H : AHeap) : G23 24 args H = F_spec_l20Unhex args H := id rfl
@[go_sem] theorem G23_22 (args : List Value) (H : AHeap) : G23 22 args H = F_spec_l01Split_inl args H := id rfl
def F_laws_eqNode : List Value → AHeap → Option (Value × AHeap)
  | [.agg a_a, .agg a_b], H => (decNd a_a.toList).bind fun (a : Nd) => (decNd a_b.toList).bind fun (b : Nd) => some (.bool (ndEq a b), H)
  | _, _ => none
@[go_sem] theorem F_laws_eqNode_ob (H : AHeap) (cs_a : List Value) (cs_b : List Value) : F_laws_eqNode [.agg cs_a.toArray, .agg cs_b.toArray] H = (decNd cs_a).bind fun (a : Nd) => (decNd cs_b).bind fun (b : Nd) => some (.bool (ndEq a b), H) := by simp only [F_laws_eqNode, List.toList_toArray]
theorem F_laws_eqNode_at (H : AHeap) (a : Nd) (b : Nd)   : F_laws_eqNode [.agg (ndC a).toArray, .agg (ndC b).toArray] H = some (.bool (ndEq a b), H) := by simp only [F_laws_eqNode, decNd_enc, List.toList_toArray, decNd_enc, List.toList_toArray, Option.bind_some]
abbrev C_laws_eqNode : Prop := ∀ (H : AHeap) (a : Nd) (b : Nd)  , ACall Tryd.prog 12 [.agg (ndC a).toArray, .agg (ndC b).toArray] H fun v H2 => v = (.bool (ndEq a b) : Value) ∧ H2 = H
theorem ok_laws_eqNode (cc_ : C_laws_eqNode) : FOk Tryd.prog 12 F_laws_eqNode := by
  intro args H x H2 h
  unfold F_laws_eqNode at h
  split at h
  · rename_i a_a a_b
    have hz := bind_some h
    clear h
    obtain ⟨a, hb_a, h⟩ := hz
    have hq_a := decNd_some hb_a
    have hz := bind_some h
    clear h
    obtain ⟨b, hb_b, h⟩ := hz
    have hq_b := decNd_some hb_b
    have hr_a : a_a = (ndC a).toArray := by rw [← hq_a]
    subst hr_a
    have hr_b : a_b = (ndC b).toArray := by rw [← hq_b]
    subst hr_b
    cases h
    exact cc_ H a b
  · cases h
theorem c_laws_eqNode : C_laws_eqNode := by
  intro H a b
  refine ACall.wf fun wf => ACall.quiet (by first | rfl | simp [clT, clD, clc, scal]) ?_
  refine ACall.body Tryd.func12 rfl rfl (rs := [.tmp 4]) rfl (n := 40) rfl (by decide) (by simp) ?_
  refine awp_rseq G23_ok (by simp only [go_sem, Nat.reduceBEq, ↓reduceIte, Bool.false_eq_true, Nat.reduceAdd, Nat.reduceMul, Nat.reduceLeDiff]; try rfl) ?_
  refine awp_assoc ?_
  refine awp_rseq G23_ok (by simp only [go_sem, Nat.reduceBEq, ↓reduceIte, Bool.false_eq_true, Nat.reduceAdd, Nat.reduceMul, Nat.reduceLeDiff]; try rfl) ?_
  refine awp_scond (by simp only [go_sem, Nat.reduceBEq, ↓reduceIte, Bool.false_eq_true, Nat.reduceAdd, Nat.reduceMul, Nat.reduceLeDiff]; try rfl) (fun ht0 => ?_) (fun ht0 => ?_)
  · refine awp_assoc ?_
    refine awp_rseq G23_ok (by simp only [go_sem, Nat.reduceBEq, ↓reduceIte, Bool.false_eq_true, Nat.reduceAdd, Nat.reduceMul, Nat.reduceLeDiff]; try rfl) ?_
    refine awp_sret ⟨_, (by simp only [go_sem, Nat.reduceBEq, ↓reduceIte, Bool.false_eq_true, Nat.reduceAdd, Nat.reduceMul, Nat.reduceLeDiff]; try rfl), ?_⟩
    refine ⟨?_, ((Ext.refl _).push wf _).push (wf.push _) _⟩
    simp only [Bool.not_eq_true', Bool.not_eq_false', decide_eq_true_eq, decide_eq_false_iff_not] at *
    simp [one, ndEq, *]
  · refine awp_sskip ?_
    refine awp_assoc ?_
    refine awp_rseq G23_ok (by simp only [go_sem, Nat.reduceBEq, ↓reduceIte, Bool.false_eq_true, Nat.reduceAdd, Nat.reduceMul, Nat.reduceLeDiff]; try rfl) ?_
    refine awp_scond (by simp only [go_sem, Nat.reduceBEq, ↓reduceIte, Bool.false_eq_true, Nat.reduceAdd, Nat.reduceMul, Nat.reduceLeDiff]; try rfl) (fun ht1 => ?_) (fun ht1 => ?_)
    · refine awp_assoc ?_
      refine awp_rseq G23_ok (by simp only [go_sem, Nat.reduceBEq, ↓reduceIte, Bool.false_eq_true, Nat.reduceAdd, Nat.reduceMul, Nat.reduceLeDiff]; try rfl) ?_
      refine awp_sret ⟨_, (by simp only [go_sem, Nat.reduceBEq, ↓reduceIte, Bool.false_eq_true, Nat.reduceAdd, Nat.reduceMul, Nat.reduceLeDiff]; try rfl), ?_⟩
      refine ⟨?_, ((Ext.refl _).push wf _).push (wf.push _) _⟩
      simp only [Bool.not_eq_true', Bool.not_eq_false', decide_eq_true_eq, decide_eq_false_iff_not] at *
      simp [one, ndEq, *]
    · refine awp_sskip ?_
      refine awp_assoc ?_
      refine awp_rseq G23_ok (by simp only [go_sem, Nat.reduceBEq, ↓reduceIte, Bool.false_eq_true, Nat.reduceAdd, Nat.reduceMul, Nat.reduceLeDiff]; try rfl) ?_
      refine awp_scond (by simp only [go_sem, Nat.reduceBEq, ↓reduceIte, Bool.false_eq_true, Nat.reduceAdd, Nat.reduceMul, Nat.reduceLeDiff]; try rfl) (fun ht2 => ?_) (fun ht2 => ?_)
      · refine awp_assoc ?_
        refine awp_rseq G23_ok (by simp only [go_sem, Nat.reduceBEq, ↓reduceIte, Bool.false_eq_true, Nat.reduceAdd, Nat.reduceMul, Nat.reduceLeDiff]; try rfl) ?_
        refine awp_sret ⟨_, (by simp only [go_sem, Nat.reduceBEq, ↓reduceIte, Bool.false_eq_true, Nat.reduceAdd, Nat.reduceMul, Nat.reduceLeDiff]; try rfl), ?_⟩
        refine ⟨?_, ((Ext.refl _).push wf _).push (wf.push _) _⟩
        simp only [Bool.not_eq_true', Bool.not_eq_false', decide_eq_true_eq, decide_eq_false_iff_not] at *
        simp [one, ndEq, *]
      · refine awp_sskip ?_
        refine awp_assoc ?_
        refine awp_rseq G23_ok (by simp only [go_sem, Nat.reduceBEq, ↓reduceIte, Bool.false_eq_true, Nat.reduceAdd, Nat.reduceMul, Nat.reduceLeDiff]; try rfl) ?_
        refine awp_scond (by simp only [go_sem, Nat.reduceBEq, ↓reduceIte, Bool.false_eq_true, Nat.reduceAdd, Nat.reduceMul, Nat.reduceLeDiff]; try rfl) (fun ht3 => ?_) (fun ht3 => ?_)
        · refine awp_assoc ?_
          refine awp_rseq G23_ok (by simp only [go_sem, Nat.reduceBEq, ↓reduceIte, Bool.false_eq_true, Nat.reduceAdd, Nat.reduceMul, Nat.reduceLeDiff]; try rfl) ?_
          refine awp_sret ⟨_, (by simp only [go_sem, Nat.reduceBEq, ↓reduceIte, Bool.false_eq_true, Nat.reduceAdd, Nat.reduceMul, Nat.reduceLeDiff]; try rfl), ?_⟩
          refine ⟨?_, ((Ext.refl _).push wf _).push (wf.push _) _⟩
          simp only [Bool.not_eq_true', Bool.not_eq_false', decide_eq_true_eq, decide_eq_false_iff_not] at *
          simp [one, ndEq, *]
        · refine awp_sskip ?_
          refine awp_assoc ?_
          refine awp_rseq G23_ok (by simp only [go_sem, Nat.reduceBEq, ↓reduceIte, Bool.false_eq_true, Nat.reduceAdd, Nat.reduceMul, Nat.reduceLeDiff]; try rfl) ?_
          refine awp_scond (by simp only [go_sem, Nat.reduceBEq, ↓reduceIte, Bool.false_eq_true, Nat.reduceAdd, Nat.reduceMul, Nat.reduceLeDiff]; try rfl) (fun ht4 => ?_) (fun ht4 => ?_)
          · refine awp_assoc ?_
            refine awp_rseq G23_ok (by simp only [go_sem, Nat.reduceBEq, ↓reduceIte, Bool.false_eq_true, Nat.reduceAdd, Nat.reduceMul, Nat.reduceLeDiff]; try rfl) ?_
            refine awp_sret ⟨_, (by simp only [go_sem, Nat.reduceBEq, ↓reduceIte, Bool.false_eq_true, Nat.reduceAdd, Nat.reduceMul, Nat.reduceLeDiff]; try rfl), ?_⟩
            refine ⟨?_, ((Ext.refl _).push wf _).push (wf.push _) _⟩
            simp only [Bool.not_eq_true', Bool.not_eq_false', decide_eq_true_eq, decide_eq_false_iff_not] at *
            simp [one, ndEq, *]
          · refine awp_sskip ?_
            refine awp_assoc ?_
            refine awp_rseq G23_ok (by simp only [go_sem, Nat.reduceBEq, ↓reduceIte, Bool.false_eq_true, Nat.reduceAdd, Nat.reduceMul, Nat.reduceLeDiff]; try rfl) ?_
            refine awp_scond (by simp only [go_sem, Nat.reduceBEq, ↓reduceIte, Bool.false_eq_true, Nat.reduceAdd, Nat.reduceMul, Nat.reduceLeDiff]; try rfl) (fun ht5 => ?_) (fun ht5 => ?_)
            · refine awp_assoc ?_
              refine awp_rseq G23_ok (by simp only [go_sem, Nat.reduceBEq, ↓reduceIte, Bool.false_eq_true, Nat.reduceAdd, Nat.reduceMul, Nat.reduceLeDiff]; try rfl) ?_
              refine awp_sret ⟨_, (by simp only [go_sem, Nat.reduceBEq, ↓reduceIte, Bool.false_eq_true, Nat.reduceAdd, Nat.reduceMul, Nat.reduceLeDiff]; try rfl), ?_⟩
              refine ⟨?_, ((Ext.refl _).push wf _).push (wf.push _) _⟩
              simp only [Bool.not_eq_true', Bool.not_eq_false', decide_eq_true_eq, decide_eq_false_iff_not] at *
              simp [one, ndEq, *]
            · refine awp_sskip ?_
              refine awp_assoc ?_
              refine awp_rseq G23_ok (by simp only [go_sem, Nat.reduceBEq, ↓reduceIte, Bool.false_eq_true, Nat.reduceAdd, Nat.reduceMul, Nat.reduceLeDiff]; try rfl) ?_
              refine awp_scond (by simp only [go_sem, Nat.reduceBEq, ↓reduceIte, Bool.false_eq_true, Nat.reduceAdd, Nat.reduceMul, Nat.reduceLeDiff]; try rfl) (fun ht6 => ?_) (fun ht6 => ?_)
              · refine awp_assoc ?_
                refine awp_rseq G23_ok (by simp only [go_sem, Nat.reduceBEq, ↓reduceIte, Bool.false_eq_true, Nat.reduceAdd, Nat.reduceMul, Nat.reduceLeDiff]; try rfl) ?_
                refine awp_sret ⟨_, (by simp only [go_sem, Nat.reduceBEq, ↓reduceIte, Bool.false_eq_true, Nat.reduceAdd, Nat.reduceMul, Nat.reduceLeDiff]; try rfl), ?_⟩
                refine ⟨?_, ((Ext.refl _).push wf _).push (wf.push _) _⟩
                simp only [Bool.not_eq_true', Bool.not_eq_false', decide_eq_true_eq, decide_eq_false_iff_not] at *
                simp [one, ndEq, *]
              · refine awp_sskip ?_
                refine awp_rseq G23_ok (by simp only [go_sem, Nat.reduceBEq, ↓reduceIte, Bool.false_eq_true, Nat.reduceAdd, Nat.reduceMul, Nat.reduceLeDiff]; try rfl) ?_
                refine awp_ret ⟨_, (by simp only [go_sem, Nat.reduceBEq, ↓reduceIte, Bool.false_eq_true, Nat.reduceAdd, Nat.reduceMul, Nat.reduceLeDiff]; try rfl), ?_⟩
                refine ⟨?_, ((Ext.refl _).push wf _).push (wf.push _) _⟩
                simp only [Bool.not_eq_true', Bool.not_eq_false', decide_eq_true_eq, decide_eq_false_iff_not] at *
                simp [one, ndEq, *]
def F_spec_ReadNode : List Value → AHeap → Option (Value × AHeap)
  | [.string s], H => if Small s then some (.tuple [.agg (ndC ((readS s).getD nd0)).toArray, .bool (readS s).isSome].toArray, H) else none
  | _, _ => none
@[go_sem] theorem F_spec_ReadNode_at (H : AHeap) (s : ByteArray)   (hc : Small s) : F_spec_ReadNode [.string s] H = some (.tuple [.agg (ndC ((readS s).getD nd0)).toArray, .bool (readS s).isSome].toArray, H) := by simp only [F_spec_ReadNode, if_pos hc, Option.bind_some]
abbrev C_spec_ReadNode : Prop := ∀ (H : AHeap) (s : ByteArray)   (hc : Small s), ACall Tryd.prog 10 [.string s] H fun v H2 => v = (.tuple [.agg (ndC ((readS s).getD nd0)).toArray, .bool (readS s).isSome].toArray : Value) ∧ H2 = H
theorem ok_spec_ReadNode (cc_ : C_spec_ReadNode) : FOk Tryd.prog 10 F_spec_ReadNode := by
  intro args H x H2 h
  unfold F_spec_ReadNode at h
  split at h
  · rename_i s
    by_cases hc : Small s
    · simp only [if_pos hc, Option.some.injEq, Prod.mk.injEq] at h
      obtain ⟨rfl, rfl⟩ := h
      exact cc_ H s hc
    · simp only [if_neg hc, reduceCtorEq] at h
  · cases h
theorem c_spec_ReadNode : C_spec_ReadNode := by
  intro H s hs
  refine ACall.wf fun wf => ACall.quiet (by simp [clT, clD, clc, scal]) ?_
  have hne : splitC s 32 ≠ [] := splitAt_ne s 32 0 0
  have hsm : ∀ x ∈ splitC s 32, Small x := fun x hx => Nat.le_trans (splitAt_size s 32 0 0 x hx) hs
  have hlen : (splitC s 32).length ≤ s.size + 1 := splitAt_len s 32 0 0
  have hrd : readS s = if (decide (s = ⟨#[]⟩) || !decide ((if nodeOk (nodeS (splitC s 32)) = true then showN (nodeS (splitC s 32)) else ⟨#[]⟩) = s)) = true then none else some (nodeS (splitC s 32)) := rfl
  have hSp : ∀ H, F_spec_l01Split_inl [.string s] H = some (inl 1 1 (strRow (splitC s 32)), H) := fun H => F_spec_l01Split_inl_at H s hs
  generalize splitC s 32 = W at *
  have hix0 : ixI (strRow W) 0 = some (inp [.string (hd W)] 0) := by
    obtain ⟨a, W, rfl⟩ := List.exists_cons_of_ne_nil hne
    exact ixI_cons0 _ _
  refine ACall.body Tryd.func10 rfl rfl (rs := [.cell 2 31, .tmp 3]) rfl (n := 110) rfl (by decide) (by simp) ?_
  refine awp_rseq G23_ok (by simp only [go_sem, Nat.reduceBEq, ↓reduceIte, Bool.false_eq_true, Nat.reduceAdd, Nat.reduceMul, Nat.reduceLeDiff, hSp, strRow_len]; try rfl) ?_
  refine awp_rseq G23_ok (by simp only [go_sem, Nat.reduceBEq, ↓reduceIte, Bool.false_eq_true, Nat.reduceAdd, Nat.reduceMul, Nat.reduceLeDiff, hSp, strRow_len]; try rfl) ?_
  refine awp_rseq G23_ok (by simp only [go_sem, Nat.reduceBEq, ↓reduceIte, Bool.false_eq_true, Nat.reduceAdd, Nat.reduceMul, Nat.reduceLeDiff, hSp, strRow_len]; try rfl) ?_
  refine awp_assoc ?_
  refine awp_rseq G23_ok (by simp only [go_sem, Nat.reduceBEq, ↓reduceIte, Bool.false_eq_true, Nat.reduceAdd, Nat.reduceMul, Nat.reduceLeDiff, hSp, strRow_len]; try rfl) ?_
  refine awp_sblock ?_
  refine awp_loop (fun e H' => e 0 = .string s ∧ e 4 = inl 1 1 (strRow W) ∧ e 2 = .pointer (some ⟨H.next, 0, some 0⟩) ∧ ∃ i : Nat, e 6 = .int .i64 i ∧ (Buf (H.push (.row 7 [ndC nd0] true)) 1 false (iRow ((numsV W).take i)) (e 5) H') ∧ (i ≤ W.length)) (fun e H' => gap W.length (e 6)) ?_ ?_
  · refine ⟨(by simp only [go_sem, Nat.reduceBEq, ↓reduceIte, Bool.false_eq_true, Nat.reduceAdd, Nat.reduceMul, Nat.reduceLeDiff, hSp, strRow_len]; try rfl), (by simp only [go_sem, Nat.reduceBEq, ↓reduceIte, Bool.false_eq_true, Nat.reduceAdd, Nat.reduceMul, Nat.reduceLeDiff, hSp, strRow_len]; try rfl), (by simp only [go_sem, Nat.reduceBEq, ↓reduceIte, Bool.false_eq_true, Nat.reduceAdd, Nat.reduceMul, Nat.reduceLeDiff, hSp, strRow_len]; try rfl), 0, (by simp only [go_sem, Nat.reduceBEq, ↓reduceIte, Bool.false_eq_true, Nat.reduceAdd, Nat.reduceMul, Nat.reduceLeDiff, hSp, strRow_len]; try rfl), ?_⟩
    refine ⟨?_, Nat.zero_le _⟩
    simp only [go_sem, Nat.reduceBEq, ↓reduceIte, Bool.false_eq_true, Nat.reduceAdd, Nat.reduceMul, Nat.reduceLeDiff]
    exact Buf.fresh (wf.push _) (wf.push _) (Ext.refl _) 1 [] rfl 1
  · rintro e H' ⟨c0_0, c4_0, c2_0, i, v6_0, hb, hi⟩
    refine awp_assoc ?_
    refine awp_rseq G23_ok (by simp only [go_sem, Nat.reduceBEq, ↓reduceIte, Bool.false_eq_true, Nat.reduceAdd, Nat.reduceMul, Nat.reduceLeDiff, hSp, strRow_len, c0_0, c4_0, c2_0, v6_0]; try rfl) ?_
    refine awp_scond (by simp only [go_sem, Nat.reduceBEq, ↓reduceIte, Bool.false_eq_true, Nat.reduceAdd, Nat.reduceMul, Nat.reduceLeDiff, hSp, strRow_len, c0_0, c4_0, c2_0, v6_0]; try rfl) (fun ht0 => ?_) (fun ht0 => ?_)
    · refine awp_sskip ?_
      refine awp_sblock ?_
      have hlt : i < W.length := by have := of_decide_eq_true ht0; omega
      have hix := ixI_nd (strRow W) i (strRow_get W i hlt)
      have wi : IntKind.i64.wrap ((i : Int) + 1) = ((i + 1 : Nat) : Int) := int_wrap _ (by omega) (by unfold Small at hs; omega)
      refine awp_rseq G23_ok (by simp only [go_sem, Nat.reduceBEq, ↓reduceIte, Bool.false_eq_true, Nat.reduceAdd, Nat.reduceMul, Nat.reduceLeDiff, hSp, strRow_len, hix, c0_0, c4_0, c2_0, v6_0]; try rfl) ?_
      refine awp_regs ?_
      refine rwp_eval G23_ok 3 (by simp only [go_sem, Nat.reduceBEq, ↓reduceIte, Bool.false_eq_true, Nat.reduceAdd, Nat.reduceMul, Nat.reduceLeDiff, hSp, strRow_len, c0_0, c4_0, c2_0, v6_0]; try rfl) ?_
      refine rwp_append sl53 sl53 (by simp only [go_sem, Nat.reduceBEq, ↓reduceIte, Bool.false_eq_true, Nat.reduceAdd, Nat.reduceMul, Nat.reduceLeDiff, hSp, strRow_len, c0_0, c4_0, c2_0, v6_0]; try rfl) (hb.push _) (by simp only [go_sem, Nat.reduceBEq, ↓reduceIte, Bool.false_eq_true, Nat.reduceAdd, Nat.reduceMul, Nat.reduceLeDiff, hSp, strRow_len, c0_0, c4_0, c2_0, v6_0]; try rfl) (elems_push _ 1 _ 1 true) (by rw [iRow_len, List.length_take]; unfold Small at hs; simp; omega) (by rw [iRow_len, List.length_take]; unfold Small at hs; simp; omega) (fun v_7 H_7 hb_7 => ?_)
      refine rwp_eval G23_ok 1 (by simp only [go_sem, Nat.reduceBEq, ↓reduceIte, Bool.false_eq_true, Nat.reduceAdd, Nat.reduceMul, Nat.reduceLeDiff, hSp, strRow_len, c0_0, c4_0, c2_0, v6_0]; try rfl) ?_
      show awp _ _ _ _ _ _
      refine awp_reg G23_ok (by simp only [go_sem, Nat.reduceBEq, ↓reduceIte, Bool.false_eq_true, Nat.reduceAdd, Nat.reduceMul, Nat.reduceLeDiff, hSp, strRow_len, wi, c0_0, c4_0, c2_0, v6_0]; try rfl) ?_
      refine ⟨⟨(by simp only [go_sem, Nat.reduceBEq, ↓reduceIte, Bool.false_eq_true, Nat.reduceAdd, Nat.reduceMul, Nat.reduceLeDiff, hSp, strRow_len, c0_0, c4_0, c2_0, v6_0]; try rfl), (by simp only [go_sem, Nat.reduceBEq, ↓reduceIte, Bool.false_eq_true, Nat.reduceAdd, Nat.reduceMul, Nat.reduceLeDiff, hSp, strRow_len, c0_0, c4_0, c2_0, v6_0]; try rfl), (by simp only [go_sem, Nat.reduceBEq, ↓reduceIte, Bool.false_eq_true, Nat.reduceAdd, Nat.reduceMul, Nat.reduceLeDiff, hSp, strRow_len, c0_0, c4_0, c2_0, v6_0]; try rfl), i + 1, (by simp only [go_sem, Nat.reduceBEq, ↓reduceIte, Bool.false_eq_true, Nat.reduceAdd, Nat.reduceMul, Nat.reduceLeDiff, hSp, strRow_len, c0_0, c4_0, c2_0, v6_0]; try rfl), ?_⟩, ?_⟩
      · refine ⟨?_, by omega⟩
        simp only [go_sem, Nat.reduceBEq, ↓reduceIte, Bool.false_eq_true, Nat.reduceAdd, Nat.reduceMul, Nat.reduceLeDiff]
        rw [numsV_take W i hlt]; exact hb_7
      · simp only [go_sem, Nat.reduceBEq, ↓reduceIte, Bool.false_eq_true, Nat.reduceAdd, Nat.reduceMul, Nat.reduceLeDiff, hSp, strRow_len, c0_0, c4_0, c2_0, v6_0]; omega
    · refine awp_sexitL ?_
      have hie : i = W.length := by have := of_decide_eq_false ht0; omega
      have htk : (numsV W).take i = numsV W := by rw [hie, ← numsV_len, List.take_length]
      rw [htk] at hb
      have hE0 : Ext H H' := ((Ext.refl _).push wf _).trans hb.ext
      have hr := hb.ext.old _ _ (push_at H (.row 7 [ndC nd0] true))
      have hlt0 : H.next < H'.next := Nat.lt_of_lt_of_le (Nat.lt_succ_self _) hb.ext.nx
      have hn0 : H.obj H.next = none := wf _ (Nat.le_refl _)
      have hrk := hb.wf.at hr
      have hr0 : (H.next == H'.next) = false := hrk 0
      obtain ⟨l, cc, h5, ho, hl⟩ : ∃ l c, e 5 = .slice (some ⟨l, 0, none⟩) (iRow (numsV W)).length c ∧ H'.obj l = some (.row 1 (iRow (numsV W)) true) ∧ H.next + 1 ≤ l := by
        rcases hb.at_ with ⟨h, _⟩ | ⟨l, c, _, h1, h2, h3⟩
        · cases h
        · exact ⟨l, c, h1, h2, h3⟩
      have hlk := hb.wf.at ho
      have hl0 : (l == H'.next) = false := hlk 0
      have hlr : (l == H.next) = false := by simp; omega
      have hrl : (H.next == l) = false := by simp; omega
      show awp _ _ _ _ _ _
      refine awp_rseq G23_ok (by simp only [go_sem, Nat.reduceBEq, ↓reduceIte, Bool.false_eq_true, Nat.reduceAdd, Nat.reduceMul, Nat.reduceLeDiff, hSp, strRow_len, hr, hrk, hr0, c0_0, c4_0, c2_0, v6_0]; try rfl) ?_
      refine awp_sblock ?_
      refine awp_rseq G23_ok (by simp (contextual := true) only [go_sem, Nat.reduceBEq, ↓reduceIte, Bool.false_eq_true, Nat.reduceAdd, Nat.reduceMul, Nat.reduceLeDiff, hSp, strRow_len, hix0, c0_0, c4_0, c2_0, v6_0]; try rfl) ?_
      refine awp_cond (by simp only [go_sem, Nat.reduceBEq, ↓reduceIte, Bool.false_eq_true, Nat.reduceAdd, Nat.reduceMul, Nat.reduceLeDiff, hSp, strRow_len, c0_0, c4_0, c2_0, v6_0]; try rfl) (fun ht1 => ?_) (fun ht1 => ?_)
      · have h4 : W.length = 4 := by have := ht1; simp only [Bool.and_eq_true, decide_eq_true_eq] at this; omega
        obtain ⟨a, b, c, d, rfl⟩ := len4 h4
        have hx1 : ixI ([[.string a], [.string b], [.string c], [.string d]] : List (List Value)) 1 = some (inp [.string b] 0) := by simp [ixI]
        have hN : NdW ⟨b, 0, (decNum c 1000000000).1, (decNum d 1000000000).1, ⟨#[]⟩, ⟨#[]⟩, 0⟩ := NdW_mk i64_0 (decNum_64 c _) (decNum_64 d _) i64_0 (hsm b (by simp)) sz_0 sz_0
        have hnd : nodeS [a, b, c, d] = ⟨b, 0, (decNum c 1000000000).1, (decNum d 1000000000).1, ⟨#[]⟩, ⟨#[]⟩, 0⟩ := by unfold nodeS; rw [if_pos ht1]; rfl
        refine awp_drawnE mixed G23_ok [10] (by decide) (by decide) (by decide) ?_
        refine evalE_quiet 10 (by simp only [go_sem, Nat.reduceBEq, ↓reduceIte, Bool.false_eq_true, Nat.reduceAdd, Nat.reduceMul, Nat.reduceLeDiff, hSp, strRow_len, h5, ho, hlk, hl0, hr, hrk, hr0, hx1, cast_4, cast_6, Int.reduceLT, Int.reduceLE, Int.reduceToNat, Nat.reduceLT, c0_0, c4_0, c2_0, v6_0]; try rfl) ?_
        refine evalE_eff (by simp only [go_sem, Nat.reduceBEq, ↓reduceIte, Bool.false_eq_true, Nat.reduceAdd, Nat.reduceMul, Nat.reduceLeDiff, hSp, strRow_len, h5, ho, hlk, hl0, hr, hrk, hr0, hx1, cast_4, cast_6, Int.reduceLT, Int.reduceLE, Int.reduceToNat, Nat.reduceLT, c0_0, c4_0, c2_0, v6_0]; try rfl) (by decide) ?_
        refine evalE_nil ?_
        show awp _ _ _ _ _ _
        refine awp_assoc ?_
        refine awp_rseq G23_ok (by simp (contextual := true) only [go_sem, Nat.reduceBEq, ↓reduceIte, Bool.false_eq_true, Nat.reduceAdd, Nat.reduceMul, Nat.reduceLeDiff, hSp, strRow_len, hN, hr, hrk, hr0, c0_0, c4_0, c2_0, v6_0]; try rfl) ?_
        refine awp_scond (by simp only [go_sem, Nat.reduceBEq, ↓reduceIte, Bool.false_eq_true, Nat.reduceAdd, Nat.reduceMul, Nat.reduceLeDiff, hSp, strRow_len, c0_0, c4_0, c2_0, v6_0]; try rfl) (fun ht2 => ?_) (fun ht2 => ?_)
        · refine awp_assoc ?_
          refine awp_rseq G23_ok (by simp only [go_sem, Nat.reduceBEq, ↓reduceIte, Bool.false_eq_true, Nat.reduceAdd, Nat.reduceMul, Nat.reduceLeDiff, hSp, strRow_len, hr, hrk, hr0, c0_0, c4_0, c2_0, v6_0]; try rfl) ?_
          refine awp_sret ⟨_, (by simp only [go_sem, Nat.reduceBEq, ↓reduceIte, Bool.false_eq_true, Nat.reduceAdd, Nat.reduceMul, Nat.reduceLeDiff, hSp, strRow_len, c0_0, c4_0, c2_0, v6_0, hr, hrk, hr0]; try rfl), ?_⟩
          refine ⟨?_, ?_⟩
          · have hr : readS s = none := by rw [hrd, hnd]; exact if_pos ht2
            rw [hr]; rfl
          · repeat (first | exact hE0 | exact hb.wf | exact hlt0 | exact hn0 | apply Ext.push | apply Ext.set | apply WF.push | apply WF.set)
        · refine awp_sskip ?_
          refine awp_rseq G23_ok (by simp only [go_sem, Nat.reduceBEq, ↓reduceIte, Bool.false_eq_true, Nat.reduceAdd, Nat.reduceMul, Nat.reduceLeDiff, hSp, strRow_len, hr, hrk, hr0, c0_0, c4_0, c2_0, v6_0]; try rfl) ?_
          refine awp_ret ⟨_, (by simp only [go_sem, Nat.reduceBEq, ↓reduceIte, Bool.false_eq_true, Nat.reduceAdd, Nat.reduceMul, Nat.reduceLeDiff, hSp, strRow_len, c0_0, c4_0, c2_0, v6_0, hr, hrk, hr0]; try rfl), ?_⟩
          refine ⟨?_, ?_⟩
          · have hr : readS s = some ⟨b, 0, (decNum c 1000000000).1, (decNum d 1000000000).1, ⟨#[]⟩, ⟨#[]⟩, 0⟩ := by rw [hrd, hnd]; exact if_neg fun hh => Bool.noConfusion (ht2.symm.trans hh)
            rw [hr]; rfl
          · repeat (first | exact hE0 | exact hb.wf | exact hlt0 | exact hn0 | apply Ext.push | apply Ext.set | apply WF.push | apply WF.set)
      · refine awp_rseq G23_ok (by simp (contextual := true) only [go_sem, Nat.reduceBEq, ↓reduceIte, Bool.false_eq_true, Nat.reduceAdd, Nat.reduceMul, Nat.reduceLeDiff, hSp, strRow_len, hix0, c0_0, c4_0, c2_0, v6_0]; try rfl) ?_
        refine awp_cond (by simp only [go_sem, Nat.reduceBEq, ↓reduceIte, Bool.false_eq_true, Nat.reduceAdd, Nat.reduceMul, Nat.reduceLeDiff, hSp, strRow_len, c0_0, c4_0, c2_0, v6_0]; try rfl) (fun ht3 => ?_) (fun ht3 => ?_)
        · have h4 : W.length = 6 := by have := ht3; simp only [Bool.and_eq_true, decide_eq_true_eq] at this; omega
          obtain ⟨a, b, c, d, g, f, rfl⟩ := len6 h4
          have hx1 : ixI ([[.string a], [.string b], [.string c], [.string d], [.string g], [.string f]] : List (List Value)) 1 = some (inp [.string b] 0) := by simp [ixI]
          have hx5 : ixI ([[.string a], [.string b], [.string c], [.string d], [.string g], [.string f]] : List (List Value)) 5 = some (inp [.string f] 0) := by simp [ixI]
          have hN : NdW ⟨b, 1, (decNum c 1000000000).1, (decNum d 1000000000).1, unH f, ⟨#[]⟩, (decNum g 1000000000).1⟩ := NdW_mk i64_1 (decNum_64 c _) (decNum_64 d _) (decNum_64 g _) (hsm b (by simp)) (unH_size (hsm f (by simp))) sz_0
          have hnd : nodeS [a, b, c, d, g, f] = ⟨b, 1, (decNum c 1000000000).1, (decNum d 1000000000).1, unH f, ⟨#[]⟩, (decNum g 1000000000).1⟩ := by unfold nodeS; rw [if_neg (by rw [ht1]; decide), if_pos ht3]; rfl
          have hsf : Small f := hsm f (by simp)
          refine awp_drawnE mixed G23_ok [17] (by decide) (by decide) (by decide) ?_
          refine evalE_quiet 17 (by simp only [go_sem, Nat.reduceBEq, ↓reduceIte, Bool.false_eq_true, Nat.reduceAdd, Nat.reduceMul, Nat.reduceLeDiff, hSp, strRow_len, h5, ho, hlk, hl0, hr, hrk, hr0, hx1, hx5, cast_4, cast_6, Int.reduceLT, Int.reduceLE, Int.reduceToNat, Nat.reduceLT, F_spec_l20Unhex_at _ _ hsf, c0_0, c4_0, c2_0, v6_0]; try rfl) ?_
          refine evalE_eff (by simp only [go_sem, Nat.reduceBEq, ↓reduceIte, Bool.false_eq_true, Nat.reduceAdd, Nat.reduceMul, Nat.reduceLeDiff, hSp, strRow_len, h5, ho, hlk, hl0, hr, hrk, hr0, hx1, hx5, cast_4, cast_6, Int.reduceLT, Int.reduceLE, Int.reduceToNat, Nat.reduceLT, F_spec_l20Unhex_at _ _ hsf, c0_0, c4_0, c2_0, v6_0]; try rfl) (by decide) ?_
          refine evalE_nil ?_
          show awp _ _ _ _ _ _
          refine awp_assoc ?_
          refine awp_rseq G23_ok (by simp (contextual := true) only [go_sem, Nat.reduceBEq, ↓reduceIte, Bool.false_eq_true, Nat.reduceAdd, Nat.reduceMul, Nat.reduceLeDiff, hSp, strRow_len, hN, hr, hrk, hr0, c0_0, c4_0, c2_0, v6_0]; try rfl) ?_
          refine awp_scond (by simp only [go_sem, Nat.reduceBEq, ↓reduceIte, Bool.false_eq_true, Nat.reduceAdd, Nat.reduceMul, Nat.reduceLeDiff, hSp, strRow_len, c0_0, c4_0, c2_0, v6_0]; try rfl) (fun ht4 => ?_) (fun ht4 => ?_)
          · refine awp_assoc ?_
            refine awp_rseq G23_ok (by simp only [go_sem, Nat.reduceBEq, ↓reduceIte, Bool.false_eq_true, Nat.reduceAdd, Nat.reduceMul, Nat.reduceLeDiff, hSp, strRow_len, hr, hrk, hr0, c0_0, c4_0, c2_0, v6_0]; try rfl) ?_
            refine awp_sret ⟨_, (by simp only [go_sem, Nat.reduceBEq, ↓reduceIte, Bool.false_eq_true, Nat.reduceAdd, Nat.reduceMul, Nat.reduceLeDiff, hSp, strRow_len, c0_0, c4_0, c2_0, v6_0, hr, hrk, hr0]; try rfl), ?_⟩
            refine ⟨?_, ?_⟩
            · have hr : readS s = none := by rw [hrd, hnd]; exact if_pos ht4
              rw [hr]; rfl
            · repeat (first | exact hE0 | exact hb.wf | exact hlt0 | exact hn0 | apply Ext.push | apply Ext.set | apply WF.push | apply WF.set)
          · refine awp_sskip ?_
            refine awp_rseq G23_ok (by simp only [go_sem, Nat.reduceBEq, ↓reduceIte, Bool.false_eq_true, Nat.reduceAdd, Nat.reduceMul, Nat.reduceLeDiff, hSp, strRow_len, hr, hrk, hr0, c0_0, c4_0, c2_0, v6_0]; try rfl) ?_
            refine awp_ret ⟨_, (by simp only [go_sem, Nat.reduceBEq, ↓reduceIte, Bool.false_eq_true, Nat.reduceAdd, Nat.reduceMul, Nat.reduceLeDiff, hSp, strRow_len, c0_0, c4_0, c2_0, v6_0, hr, hrk, hr0]; try rfl), ?_⟩
            refine ⟨?_, ?_⟩
            · have hr : readS s = some ⟨b, 1, (decNum c 1000000000).1, (decNum d 1000000000).1, unH f, ⟨#[]⟩, (decNum g 1000000000).1⟩ := by rw [hrd, hnd]; exact if_neg fun hh => Bool.noConfusion (ht4.symm.trans hh)
              rw [hr]; rfl
            · repeat (first | exact hE0 | exact hb.wf | exact hlt0 | exact hn0 | apply Ext.push | apply Ext.set | apply WF.push | apply WF.set)
        · refine awp_rseq G23_ok (by simp (contextual := true) only [go_sem, Nat.reduceBEq, ↓reduceIte, Bool.false_eq_true, Nat.reduceAdd, Nat.reduceMul, Nat.reduceLeDiff, hSp, strRow_len, hix0, c0_0, c4_0, c2_0, v6_0]; try rfl) ?_
          refine awp_cond (by simp only [go_sem, Nat.reduceBEq, ↓reduceIte, Bool.false_eq_true, Nat.reduceAdd, Nat.reduceMul, Nat.reduceLeDiff, hSp, strRow_len, c0_0, c4_0, c2_0, v6_0]; try rfl) (fun ht5 => ?_) (fun ht5 => ?_)
          · have h4 : W.length = 4 := by have := ht5; simp only [Bool.and_eq_true, decide_eq_true_eq] at this; omega
            obtain ⟨a, b, c, d, rfl⟩ := len4 h4
            have hx1 : ixI ([[.string a], [.string b], [.string c], [.string d]] : List (List Value)) 1 = some (inp [.string b] 0) := by simp [ixI]
            have hx3 : ixI ([[.string a], [.string b], [.string c], [.string d]] : List (List Value)) 3 = some (inp [.string d] 0) := by simp [ixI]
            have hN : NdW ⟨b, 2, 0, (decNum c 1000000000).1, ⟨#[]⟩, unH d, 0⟩ := NdW_mk i64_2 i64_0 (decNum_64 c _) i64_0 (hsm b (by simp)) sz_0 (unH_size (hsm d (by simp)))
            have hnd : nodeS [a, b, c, d] = ⟨b, 2, 0, (decNum c 1000000000).1, ⟨#[]⟩, unH d, 0⟩ := by unfold nodeS; rw [if_neg (by rw [ht1]; decide), if_neg (by rw [ht3]; decide), if_pos ht5]; rfl
            have hsf : Small d := hsm d (by simp)
            refine awp_drawnE mixed G23_ok [11] (by decide) (by decide) (by decide) ?_
            refine evalE_quiet 11 (by simp only [go_sem, Nat.reduceBEq, ↓reduceIte, Bool.false_eq_true, Nat.reduceAdd, Nat.reduceMul, Nat.reduceLeDiff, hSp, strRow_len, h5, ho, hlk, hl0, hr, hrk, hr0, hx1, hx3, cast_4, cast_6, Int.reduceLT, Int.reduceLE, Int.reduceToNat, Nat.reduceLT, F_spec_l20Unhex_at _ _ hsf, c0_0, c4_0, c2_0, v6_0]; try rfl) ?_
            refine evalE_eff (by simp only [go_sem, Nat.reduceBEq, ↓reduceIte, Bool.false_eq_true, Nat.reduceAdd, Nat.reduceMul, Nat.reduceLeDiff, hSp, strRow_len, h5, ho, hlk, hl0, hr, hrk, hr0, hx1, hx3, cast_4, cast_6, Int.reduceLT, Int.reduceLE, Int.reduceToNat, Nat.reduceLT, F_spec_l20Unhex_at _ _ hsf, c0_0, c4_0, c2_0, v6_0]; try rfl) (by decide) ?_
            refine evalE_nil ?_
            show awp _ _ _ _ _ _
            refine awp_assoc ?_
            refine awp_rseq G23_ok (by simp (contextual := true) only [go_sem, Nat.reduceBEq, ↓reduceIte, Bool.false_eq_true, Nat.reduceAdd, Nat.reduceMul, Nat.reduceLeDiff, hSp, strRow_len, hN, hr, hrk, hr0, c0_0, c4_0, c2_0, v6_0]; try rfl) ?_
            refine awp_scond (by simp only [go_sem, Nat.reduceBEq, ↓reduceIte, Bool.false_eq_true, Nat.reduceAdd, Nat.reduceMul, Nat.reduceLeDiff, hSp, strRow_len, c0_0, c4_0, c2_0, v6_0]; try rfl) (fun ht6 => ?_) (fun ht6 => ?_)
            · refine awp_assoc ?_
              refine awp_rseq G23_ok (by simp only [go_sem, Nat.reduceBEq, ↓reduceIte, Bool.false_eq_true, Nat.reduceAdd, Nat.reduceMul, Nat.reduceLeDiff, hSp, strRow_len, hr, hrk, hr0, c0_0, c4_0, c2_0, v6_0]; try rfl) ?_
              refine awp_sret ⟨_, (by simp only [go_sem, Nat.reduceBEq, ↓reduceIte, Bool.false_eq_true, Nat.reduceAdd, Nat.reduceMul, Nat.reduceLeDiff, hSp, strRow_len, c0_0, c4_0, c2_0, v6_0, hr, hrk, hr0]; try rfl), ?_⟩
              refine ⟨?_, ?_⟩
              · have hr : readS s = none := by rw [hrd, hnd]; exact if_pos ht6
                rw [hr]; rfl
              · repeat (first | exact hE0 | exact hb.wf | exact hlt0 | exact hn0 | apply Ext.push | apply Ext.set | apply WF.push | apply WF.set)
            · refine awp_sskip ?_
              refine awp_rseq G23_ok (by simp only [go_sem, Nat.reduceBEq, ↓reduceIte, Bool.false_eq_true, Nat.reduceAdd, Nat.reduceMul, Nat.reduceLeDiff, hSp, strRow_len, hr, hrk, hr0, c0_0, c4_0, c2_0, v6_0]; try rfl) ?_
              refine awp_ret ⟨_, (by simp only [go_sem, Nat.reduceBEq, ↓reduceIte, Bool.false_eq_true, Nat.reduceAdd, Nat.reduceMul, Nat.reduceLeDiff, hSp, strRow_len, c0_0, c4_0, c2_0, v6_0, hr, hrk, hr0]; try rfl), ?_⟩
              refine ⟨?_, ?_⟩
              · have hr : readS s = some ⟨b, 2, 0, (decNum c 1000000000).1, ⟨#[]⟩, unH d, 0⟩ := by rw [hrd, hnd]; exact if_neg fun hh => Bool.noConfusion (ht6.symm.trans hh)
                rw [hr]; rfl
              · repeat (first | exact hE0 | exact hb.wf | exact hlt0 | exact hn0 | apply Ext.push | apply Ext.set | apply WF.push | apply WF.set)
          · have hN : NdW ⟨⟨#[]⟩, 0, 0, 0, ⟨#[]⟩, ⟨#[]⟩, 0⟩ := NdW_mk i64_0 i64_0 i64_0 i64_0 sz_0 sz_0 sz_0
            have hnd : nodeS W = ⟨⟨#[]⟩, 0, 0, 0, ⟨#[]⟩, ⟨#[]⟩, 0⟩ := by unfold nodeS; rw [if_neg (by rw [ht1]; decide), if_neg (by rw [ht3]; decide), if_neg (by rw [ht5]; decide)]; rfl
            refine awp_skip ?_
            show awp _ _ _ _ _ _
            refine awp_assoc ?_
            refine awp_rseq G23_ok (by simp (contextual := true) only [go_sem, Nat.reduceBEq, ↓reduceIte, Bool.false_eq_true, Nat.reduceAdd, Nat.reduceMul, Nat.reduceLeDiff, hSp, strRow_len, hN, hr, hrk, hr0, c0_0, c4_0, c2_0, v6_0]; try rfl) ?_
            refine awp_scond (by simp only [go_sem, Nat.reduceBEq, ↓reduceIte, Bool.false_eq_true, Nat.reduceAdd, Nat.reduceMul, Nat.reduceLeDiff, hSp, strRow_len, c0_0, c4_0, c2_0, v6_0]; try rfl) (fun ht7 => ?_) (fun ht7 => ?_)
            · refine awp_assoc ?_
              refine awp_rseq G23_ok (by simp only [go_sem, Nat.reduceBEq, ↓reduceIte, Bool.false_eq_true, Nat.reduceAdd, Nat.reduceMul, Nat.reduceLeDiff, hSp, strRow_len, hr, hrk, hr0, c0_0, c4_0, c2_0, v6_0]; try rfl) ?_
              refine awp_sret ⟨_, (by simp only [go_sem, Nat.reduceBEq, ↓reduceIte, Bool.false_eq_true, Nat.reduceAdd, Nat.reduceMul, Nat.reduceLeDiff, hSp, strRow_len, c0_0, c4_0, c2_0, v6_0, hr, hrk, hr0]; try rfl), ?_⟩
              refine ⟨?_, ?_⟩
              · have hr : readS s = none := by rw [hrd, hnd]; exact if_pos ht7
                rw [hr]; rfl
              · repeat (first | exact hE0 | exact hb.wf | exact hlt0 | exact hn0 | apply Ext.push | apply Ext.set | apply WF.push | apply WF.set)
            · refine awp_sskip ?_
              refine awp_rseq G23_ok (by simp only [go_sem, Nat.reduceBEq, ↓reduceIte, Bool.false_eq_true, Nat.reduceAdd, Nat.reduceMul, Nat.reduceLeDiff, hSp, strRow_len, hr, hrk, hr0, c0_0, c4_0, c2_0, v6_0]; try rfl) ?_
              refine awp_ret ⟨_, (by simp only [go_sem, Nat.reduceBEq, ↓reduceIte, Bool.false_eq_true, Nat.reduceAdd, Nat.reduceMul, Nat.reduceLeDiff, hSp, strRow_len, c0_0, c4_0, c2_0, v6_0, hr, hrk, hr0]; try rfl), ?_⟩
              refine ⟨?_, ?_⟩
              · have hr : readS s = some ⟨⟨#[]⟩, 0, 0, 0, ⟨#[]⟩, ⟨#[]⟩, 0⟩ := by rw [hrd, hnd]; exact if_neg fun hh => Bool.noConfusion (ht7.symm.trans hh)
                rw [hr]; rfl
              · repeat (first | exact hE0 | exact hb.wf | exact hlt0 | exact hn0 | apply Ext.push | apply Ext.set | apply WF.push | apply WF.set)
end Go.Proofs.YtaikkfdnbihbiaaDoor
