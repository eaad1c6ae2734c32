/- l02, l10 of the reference: the walks. -/
import Derived.Test.YtaikkfdnbihbiaaDoorL06
import Derived.Test.YtaikkfdnbihbiaaDoorP05
namespace Go.Proofs.YtaikkfdnbihbiaaDoor
set_option linter.unusedVariables false
set_option linter.unusedSimpArgs false
set_option maxRecDepth 8000
open Go Go.AK Go.RowKit
def G12 : Gam := fun g args H => match g with
  | 11 => F_impl_ReadNode args H
  | _ => G11 g args H
theorem G12_ok : GOk Tryd.prog G12 := by
  intro g args H x H2 h
  unfold G12 at h
  split at h
  · exact ok_impl_ReadNode c_impl_ReadNode _ _ _ _ h
  · exact G11_ok _ _ _ _ _ h
@[go_sem] theorem G12_40 (args : List Value) (H : AHeap) : G12 40 args H = F_strings_Join args H := id rfl
@[go_sem] theorem G12_64 (args : List Value) (H : AHeap) : G12 64 args H = F_strconv_Atoi args H := id rfl
@[go_sem] theorem G12_65 (args : List Value) (H : AHeap) : G12 65 args H = F_strings_IndexByte args H := id rfl
@[go_sem] theorem G12_50 (args : List Value) (H : AHeap) : G12 50 args H = F_strings_Contains args H := id rfl
@[go_sem] theorem G12_63 (args : List Value) (H : AHeap) : G12 63 args H = F_strings_Index args H := id rfl
@[go_sem] theorem G12_62 (args : List Value) (H : AHeap) : G12 62 args H = F_strings_Count args H := id rfl
@[go_sem] theorem G12_70 (args : List Value) (H : AHeap) : G12 70 args H = F_strings_Compare args H := id rfl
@[go_sem] theorem G12_58 (args : List Value) (H : AHeap) : G12 58 args H = F_strconv_Itoa args H := id rfl
@[go_sem] theorem G12_49 (args : List Value) (H : AHeap) : G12 49 args H = F_impl_within args H := id rfl
@[go_sem] theorem G12_41 (args : List Value) (H : AHeap) : G12 41 args H = F_impl_DecText args H := id rfl
@[go_sem] theorem G12_43 (args : List Value) (H : AHeap) : G12 43 args H = F_spec_l01In args H := id rfl
@[go_sem] theorem G12_22 (args : List Value) (H : AHeap) : G12 22 args H = F_spec_l01Split args H := id rfl
@[go_sem] theorem G12_71 (args : List Value) (H : AHeap) : G12 71 args H = F_impl_NameOk args H := id rfl
@[go_sem] theorem G12_55 (args : List Value) (H : AHeap) : G12 55 args H = F_impl_Names args H := id rfl
@[go_sem] theorem G12_48 (args : List Value) (H : AHeap) : G12 48 args H = F_impl_PathOk args H := id rfl
@[go_sem] theorem G12_46 (args : List Value) (H : AHeap) : G12 46 args H = F_impl_decimal args H := id rfl
@[go_sem] theorem G12_59 (args : List Value) (H : AHeap) : G12 59 args H = F_impl_hexText args H := id rfl
@[go_sem] theorem G12_42 (args : List Value) (H : AHeap) : G12 42 args H = F_impl_hexOf args H := id rfl
@[go_sem] theorem G12_29 (args : List Value) (H : AHeap) : G12 29 args H = F_impl_NodeOk args H := id rfl
@[go_sem] theorem G12_47 (args : List Value) (H : AHeap) : G12 47 args H = F_impl_readHex args H := id rfl
@[go_sem] theorem G12_19 (args : List Value) (H : AHeap) : G12 19 args H = F_impl_showNode args H := id rfl
@[go_sem] theorem G12_26 (args : List Value) (H : AHeap) : G12 26 args H = F_impl_words_next args H := id rfl
@[go_sem] theorem G12_27 (args : List Value) (H : AHeap) : G12 27 args H = F_impl_words_number args H := id rfl
@[go_sem] theorem G12_28 (args : List Value) (H : AHeap) : G12 28 args H = F_impl_words_bytes args H := id rfl
@[go_sem] theorem G12_25 (args : List Value) (H : AHeap) : G12 25 args H = F_strings_Split_inl args H := id rfl
@[go_sem] theorem G12_11 (args : List Value) (H : AHeap) : G12 11 args H = F_impl_ReadNode args H := id rfl
def F_spec_l02Names : List Value → AHeap → Option (Value × AHeap)
  | [.string s], H => if Small s then some (.slice (some ⟨H.next, 0, none⟩) (strRow (splitC s 47)).length 1, H.push (.row 1 (strRow (splitC s 47)) true)) else none
  | _, _ => none
@[go_sem] theorem F_spec_l02Names_at (H : AHeap) (s : ByteArray)   (hc : Small s) : F_spec_l02Names [.string s] H = some (.slice (some ⟨H.next, 0, none⟩) (strRow (splitC s 47)).length 1, H.push (.row 1 (strRow (splitC s 47)) true)) := by simp only [F_spec_l02Names, if_pos hc, Option.bind_some]
abbrev C_spec_l02Names : Prop := ∀ (H : AHeap) (s : ByteArray)   (hc : Small s), ACall Tryd.prog 66 [.string s] H fun v H2 => v = (.slice (some ⟨H.next, 0, none⟩) (strRow (splitC s 47)).length 1 : Value) ∧ H2 = H.push (.row 1 (strRow (splitC s 47)) true)
theorem ok_spec_l02Names (cc_ : C_spec_l02Names) : FOk Tryd.prog 66 F_spec_l02Names := by
  intro args H x H2 h
  unfold F_spec_l02Names at h
  split at h
  · rename_i s
    by_cases hc : Small s
    · simp only [if_pos hc, Option.some.injEq, Prod.mk.injEq] at h
      obtain ⟨rfl, rfl⟩ := h
      exact cc_ H s hc
    · simp only [if_neg hc, reduceCtorEq] at h
  · cases h
theorem c_spec_l02Names : C_spec_l02Names := by
  intro H s hs
  refine ACall.wf fun wf => ACall.fresh (strRow_flat _).c ?_
  refine ACall.body Tryd.func66 rfl rfl (rs := [.tmp 2]) rfl (n := 32) rfl (by decide) (by simp) ?_
  refine awp_rseq G12_ok (by simp only [go_sem, Nat.reduceBEq, ↓reduceIte, Bool.false_eq_true, Nat.reduceAdd, Nat.reduceMul, Nat.reduceLeDiff]; try rfl) ?_
  refine awp_rseq G12_ok (by simp only [go_sem, Nat.reduceBEq, ↓reduceIte, Bool.false_eq_true, Nat.reduceAdd, Nat.reduceMul, Nat.reduceLeDiff]; try rfl) ?_
  refine awp_rseq G12_ok (by simp only [go_sem, Nat.reduceBEq, ↓reduceIte, Bool.false_eq_true, Nat.reduceAdd, Nat.reduceMul, Nat.reduceLeDiff]; try rfl) ?_
  refine awp_join (fun e H' => e 0 = .string s ∧ ∃ out : List ByteArray, ∃ f : Nat, Buf H 1 false (strRow out) (e 3) H' ∧ e 4 = .int .i64 (f : Nat) ∧ f ≤ s.size ∧ out ++ [s.extract f s.size] = splitC s 47) ?_ ?_
  · refine awp_rseq G12_ok (by simp only [go_sem, Nat.reduceBEq, ↓reduceIte, Bool.false_eq_true, Nat.reduceAdd, Nat.reduceMul, Nat.reduceLeDiff]; try rfl) ?_
    refine awp_block ?_
    refine awp_loop (fun e H' => e 0 = .string s ∧ ∃ out : List ByteArray, ∃ f i : Nat, Buf H 1 false (strRow out) (e 3) H' ∧ e 4 = .int .i64 f ∧ e 5 = .int .i64 i ∧ f ≤ i ∧ i ≤ s.size ∧ out.length ≤ i ∧ out ++ splitAt s 47 f i = splitC s 47)
      (fun e _ => gap s.size (e 5)) ?_ ?_
    · refine ⟨(by simp only [go_sem, Nat.reduceBEq, ↓reduceIte, Bool.false_eq_true, Nat.reduceAdd, Nat.reduceMul, Nat.reduceLeDiff]; try rfl), [], 0, 0, ?_, (by simp only [go_sem, Nat.reduceBEq, ↓reduceIte, Bool.false_eq_true, Nat.reduceAdd, Nat.reduceMul, Nat.reduceLeDiff]; try rfl), (by simp only [go_sem, Nat.reduceBEq, ↓reduceIte, Bool.false_eq_true, Nat.reduceAdd, Nat.reduceMul, Nat.reduceLeDiff]; try rfl), Nat.le_refl _, Nat.zero_le _, Nat.zero_le _, rfl⟩
      simp only [go_sem, Nat.reduceBEq, ↓reduceIte, Bool.false_eq_true, Nat.reduceAdd, Nat.reduceMul, Nat.reduceLeDiff]
      exact Buf.fresh wf wf (Ext.refl _) 1 [] rfl 1
    · rintro e H' ⟨h0, out, f, i, hb, h4, h5, hfi, his, hol, hsp⟩
      refine awp_assoc ?_
      refine awp_rseq G12_ok (by simp only [go_sem, Nat.reduceBEq, ↓reduceIte, Bool.false_eq_true, Nat.reduceAdd, Nat.reduceMul, Nat.reduceLeDiff, h0, h5]; try rfl) ?_
      refine awp_scond (by simp only [go_sem, Nat.reduceBEq, ↓reduceIte, Bool.false_eq_true, Nat.reduceAdd, Nat.reduceMul, Nat.reduceLeDiff]; try rfl) (fun ht => awp_sskip ?_) (fun ht => awp_sexit ?_)
      · have hi : (i : Int) < s.size := of_decide_eq_true ht
        have w1 : IntKind.i64.wrap ((i : Int) + 1) = ((i + 1 : Nat) : Int) := int_wrap _ (by omega) (by unfold Small at hs; omega)
        refine awp_join (fun e H' => e 0 = .string s ∧ e 5 = .int .i64 i ∧ ∃ out : List ByteArray, ∃ f : Nat, Buf H 1 false (strRow out) (e 3) H' ∧ e 4 = .int .i64 f ∧ f ≤ i + 1 ∧ out.length ≤ i + 1 ∧ out ++ splitAt s 47 f (i + 1) = splitC s 47) ?_ ?_
        · refine awp_block ?_
          refine awp_rseq G12_ok (by simp only [go_sem, Nat.reduceBEq, ↓reduceIte, Bool.false_eq_true, Nat.reduceAdd, Nat.reduceMul, Nat.reduceLeDiff, h0, h5, idx_str un9 _ _ _ (Int.natCast_nonneg i) hi]; try rfl) ?_
          refine awp_cond (by simp only [go_sem, Nat.reduceBEq, ↓reduceIte, Bool.false_eq_true, Nat.reduceAdd, Nat.reduceMul, Nat.reduceLeDiff]; try rfl) (fun ht => ?_) (fun ht => awp_skip ?_)
          · have hc : bt s i = 47 := of_decide_eq_true ht
            refine awp_rseqs ?_
            refine rwp_eval G12_ok 6 (by simp only [go_sem, Nat.reduceBEq, ↓reduceIte, Bool.false_eq_true, Nat.reduceAdd, Nat.reduceMul, Nat.reduceLeDiff, h0, h4, h5, strSl_lo_hi un9 _ _ _ _ _ (Int.natCast_nonneg f) (Int.ofNat_le.2 hfi) (Int.le_of_lt hi)]; try rfl) ?_
            refine rwp_append sl51 sl51 (by simp only [go_sem, Nat.reduceBEq, ↓reduceIte, Bool.false_eq_true, Nat.reduceAdd, Nat.reduceMul, Nat.reduceLeDiff]; try rfl) (hb.push _) (by simp only [go_sem, Nat.reduceBEq, ↓reduceIte, Bool.false_eq_true, Nat.reduceAdd, Nat.reduceMul, Nat.reduceLeDiff]; try rfl) (elems_push _ 1 _ 1 true) (by rw [strRow_len]; unfold Small at hs; simp; omega) (by rw [strRow_len]; unfold Small at hs; simp; omega) (fun v' H2 hb2 => ?_)
            refine rwp_eval G12_ok 1 (by simp only [go_sem, Nat.reduceBEq, ↓reduceIte, Bool.false_eq_true, Nat.reduceAdd, Nat.reduceMul, Nat.reduceLeDiff]; try rfl) ?_
            refine awp_reg G12_ok (by simp only [go_sem, Nat.reduceBEq, ↓reduceIte, Bool.false_eq_true, Nat.reduceAdd, Nat.reduceMul, Nat.reduceLeDiff, h5, w1]; try rfl) ?_
            refine ⟨(by simp only [go_sem, Nat.reduceBEq, ↓reduceIte, Bool.false_eq_true, Nat.reduceAdd, Nat.reduceMul, Nat.reduceLeDiff, h0]; try rfl), (by simp only [go_sem, Nat.reduceBEq, ↓reduceIte, Bool.false_eq_true, Nat.reduceAdd, Nat.reduceMul, Nat.reduceLeDiff, h5]; try rfl), out ++ [s.extract f i], i + 1, ?_, (by simp only [go_sem, Nat.reduceBEq, ↓reduceIte, Bool.false_eq_true, Nat.reduceAdd, Nat.reduceMul, Nat.reduceLeDiff]; try rfl), Nat.le_refl _, ?_, ?_⟩
            · simp only [go_sem, Nat.reduceBEq, ↓reduceIte, Bool.false_eq_true, Nat.reduceAdd, Nat.reduceMul, Nat.reduceLeDiff]
              rw [strRow_app]; exact hb2
            · simp only [List.length_append, List.length_cons, List.length_nil]; omega
            · rw [← hsp]
              conv => rhs; unfold splitAt
              rw [if_pos (by omega), if_pos hc, List.append_assoc]; rfl
          · have hc : ¬ bt s i = 47 := of_decide_eq_false ht
            refine ⟨(by simp only [go_sem, Nat.reduceBEq, ↓reduceIte, Bool.false_eq_true, Nat.reduceAdd, Nat.reduceMul, Nat.reduceLeDiff, h0]; try rfl), (by simp only [go_sem, Nat.reduceBEq, ↓reduceIte, Bool.false_eq_true, Nat.reduceAdd, Nat.reduceMul, Nat.reduceLeDiff, h5]; try rfl), out, f, ?_, (by simp only [go_sem, Nat.reduceBEq, ↓reduceIte, Bool.false_eq_true, Nat.reduceAdd, Nat.reduceMul, Nat.reduceLeDiff, h4]; try rfl), by omega, by omega, ?_⟩
            · simp only [go_sem, Nat.reduceBEq, ↓reduceIte, Bool.false_eq_true, Nat.reduceAdd, Nat.reduceMul, Nat.reduceLeDiff]; exact hb
            · rw [← hsp]
              conv => rhs; unfold splitAt
              rw [if_pos (by omega), if_neg hc]
        · rintro e2 H2 ⟨g0, g5, out, f, hb, g4, hfi, hol, hsp⟩
          refine awp_reg G12_ok (by simp only [go_sem, Nat.reduceBEq, ↓reduceIte, Bool.false_eq_true, Nat.reduceAdd, Nat.reduceMul, Nat.reduceLeDiff, g5, w1]; try rfl) ?_
          refine ⟨⟨(by simp only [go_sem, Nat.reduceBEq, ↓reduceIte, Bool.false_eq_true, Nat.reduceAdd, Nat.reduceMul, Nat.reduceLeDiff, g0]; try rfl), out, f, i + 1, ?_, (by simp only [go_sem, Nat.reduceBEq, ↓reduceIte, Bool.false_eq_true, Nat.reduceAdd, Nat.reduceMul, Nat.reduceLeDiff, g4]; try rfl), (by simp only [go_sem, Nat.reduceBEq, ↓reduceIte, Bool.false_eq_true, Nat.reduceAdd, Nat.reduceMul, Nat.reduceLeDiff]; try rfl), hfi, by omega, hol, hsp⟩, ?_⟩
          · simp only [go_sem, Nat.reduceBEq, ↓reduceIte, Bool.false_eq_true, Nat.reduceAdd, Nat.reduceMul, Nat.reduceLeDiff]; exact hb
          · simp only [go_sem, Nat.reduceBEq, ↓reduceIte, Bool.false_eq_true, Nat.reduceAdd, Nat.reduceMul, Nat.reduceLeDiff, h5]; omega
      · have hi : ¬ (i : Int) < s.size := of_decide_eq_false ht
        have hie : i = s.size := by omega
        refine ⟨(by simp only [go_sem, Nat.reduceBEq, ↓reduceIte, Bool.false_eq_true, Nat.reduceAdd, Nat.reduceMul, Nat.reduceLeDiff, h0]; try rfl), out, f, ?_, (by simp only [go_sem, Nat.reduceBEq, ↓reduceIte, Bool.false_eq_true, Nat.reduceAdd, Nat.reduceMul, Nat.reduceLeDiff, h4]; try rfl), by omega, ?_⟩
        · simp only [go_sem, Nat.reduceBEq, ↓reduceIte, Bool.false_eq_true, Nat.reduceAdd, Nat.reduceMul, Nat.reduceLeDiff]; exact hb
        · rw [← hsp]
          conv => rhs; unfold splitAt
          rw [if_neg (by omega)]
  · rintro e H' ⟨h0, out, f, hb, h4, hf, hsp⟩
    refine awp_rseqs ?_
    refine rwp_eval G12_ok 5 (by simp only [go_sem, Nat.reduceBEq, ↓reduceIte, Bool.false_eq_true, Nat.reduceAdd, Nat.reduceMul, Nat.reduceLeDiff, h0, h4, strSl_lo_none un9 _ _ _ (Int.natCast_nonneg f) (Int.ofNat_le.2 hf)]; try rfl) ?_
    refine rwp_append sl51 sl51 (by simp only [go_sem, Nat.reduceBEq, ↓reduceIte, Bool.false_eq_true, Nat.reduceAdd, Nat.reduceMul, Nat.reduceLeDiff]; try rfl) (hb.push _) (by simp only [go_sem, Nat.reduceBEq, ↓reduceIte, Bool.false_eq_true, Nat.reduceAdd, Nat.reduceMul, Nat.reduceLeDiff]; try rfl) (elems_push _ 1 _ 1 true) ?_ ?_ (fun v' H2 hb2 => ?_)
    · rw [strRow_len]; have := congrArg List.length hsp; have := splitAt_len s 47 0 0; unfold Small at hs; simp [splitC] at *; omega
    · rw [strRow_len]; have := congrArg List.length hsp; have := splitAt_len s 47 0 0; unfold Small at hs; simp [splitC] at *; omega
    refine rwp_eval G12_ok 1 (by simp only [go_sem, Nat.reduceBEq, ↓reduceIte, Bool.false_eq_true, Nat.reduceAdd, Nat.reduceMul, Nat.reduceLeDiff]; try rfl) ?_
    refine awp_ret ⟨_, (by simp only [go_sem, Nat.reduceBEq, ↓reduceIte, Bool.false_eq_true, Nat.reduceAdd, Nat.reduceMul, Nat.reduceLeDiff]; try rfl), ?_⟩
    refine ?_
    rw [← hsp, strRow_app]; exact hb2
def F_spec_NameOk : List Value → AHeap → Option (Value × AHeap)
  | [.string s], H => if Small s then some (.bool (nameOk s), H) else none
  | _, _ => none
@[go_sem] theorem F_spec_NameOk_at (H : AHeap) (s : ByteArray)   (hc : Small s) : F_spec_NameOk [.string s] H = some (.bool (nameOk s), H) := by simp only [F_spec_NameOk, if_pos hc, Option.bind_some]
abbrev C_spec_NameOk : Prop := ∀ (H : AHeap) (s : ByteArray)   (hc : Small s), ACall Tryd.prog 67 [.string s] H fun v H2 => v = (.bool (nameOk s) : Value) ∧ H2 = H
theorem ok_spec_NameOk (cc_ : C_spec_NameOk) : FOk Tryd.prog 67 F_spec_NameOk := by
  intro args H x H2 h
  unfold F_spec_NameOk at h
  split at h
  · rename_i s
    by_cases hc : Small s
    · simp only [if_pos hc, Option.some.injEq, Prod.mk.injEq] at h
      obtain ⟨rfl, rfl⟩ := h
      exact cc_ H s hc
    · simp only [if_neg hc, reduceCtorEq] at h
  · cases h
theorem c_spec_NameOk : C_spec_NameOk := by
  intro H s hs
  refine ACall.body Tryd.func67 rfl rfl (rs := [.tmp 2]) rfl (n := 58) rfl (by decide) (by simp) ?_
  refine awp_rseq G12_ok (by simp only [go_sem, Nat.reduceBEq, ↓reduceIte, Bool.false_eq_true, Nat.reduceAdd, Nat.reduceMul, Nat.reduceLeDiff]; try rfl) ?_
  refine awp_assoc ?_
  refine awp_rseq G12_ok (by simp (contextual := true) only [go_sem, Nat.reduceBEq, ↓reduceIte, Bool.false_eq_true, Nat.reduceAdd, Nat.reduceMul, Nat.reduceLeDiff]; try rfl) ?_
  refine awp_scond (by simp only [go_sem, Nat.reduceBEq, ↓reduceIte, Bool.false_eq_true, Nat.reduceAdd, Nat.reduceMul, Nat.reduceLeDiff]; try rfl) (fun ht0 => ?_) (fun ht0 => ?_)
  · refine awp_assoc ?_
    refine awp_rseq G12_ok (by simp only [go_sem, Nat.reduceBEq, ↓reduceIte, Bool.false_eq_true, Nat.reduceAdd, Nat.reduceMul, Nat.reduceLeDiff]; try rfl) ?_
    refine awp_sret ⟨_, (by simp only [go_sem, Nat.reduceBEq, ↓reduceIte, Bool.false_eq_true, Nat.reduceAdd, Nat.reduceMul, Nat.reduceLeDiff]; try rfl), ?_⟩
    refine ⟨?_, rfl⟩
    have : nameOk s = false := by
      unfold nameOk
      revert ht0
      generalize decide ((1 : Int) ≤ s.size) = a
      generalize decide ((s.size : Int) ≤ 20) = b
      cases a <;> cases b <;> cases decide (s = ⟨#[46]⟩) <;> cases decide (s = ⟨#[46, 46]⟩) <;> simp
    rw [this]; rfl
  · refine awp_sskip ?_
    refine awp_assoc ?_
    refine awp_rseq G12_ok (by simp only [go_sem, Nat.reduceBEq, ↓reduceIte, Bool.false_eq_true, Nat.reduceAdd, Nat.reduceMul, Nat.reduceLeDiff]; try rfl) ?_
    refine awp_sblock ?_
    refine awp_loop (fun e H' => e 0 = .string s ∧ ∃ i : Nat, e 3 = .int .i64 i ∧ (H' = H) ∧ (i ≤ s.size) ∧ (nameFrom s 0 = nameFrom s i)) (fun e H' => gap s.size (e 3)) ?_ ?_
    · refine ⟨(by simp only [go_sem, Nat.reduceBEq, ↓reduceIte, Bool.false_eq_true, Nat.reduceAdd, Nat.reduceMul, Nat.reduceLeDiff]; try rfl), 0, (by simp only [go_sem, Nat.reduceBEq, ↓reduceIte, Bool.false_eq_true, Nat.reduceAdd, Nat.reduceMul, Nat.reduceLeDiff]; try rfl), ?_⟩
      exact ⟨rfl, Nat.zero_le _, rfl⟩
    · rintro e H' ⟨c0_0, i, v3_0, rfl, hi, hn⟩
      refine awp_assoc ?_
      refine awp_rseq G12_ok (by simp only [go_sem, Nat.reduceBEq, ↓reduceIte, Bool.false_eq_true, Nat.reduceAdd, Nat.reduceMul, Nat.reduceLeDiff, c0_0, v3_0]; try rfl) ?_
      refine awp_scond (by simp only [go_sem, Nat.reduceBEq, ↓reduceIte, Bool.false_eq_true, Nat.reduceAdd, Nat.reduceMul, Nat.reduceLeDiff, c0_0, v3_0]; try rfl) (fun ht1 => ?_) (fun ht1 => ?_)
      · refine awp_sskip ?_
        refine awp_sblock ?_
        have hlt : (i : Int) < s.size := of_decide_eq_true ht1
        have b0 := bt_lo s i
        have b1 := bt_hi s i
        have wc : IntKind.i64.wrap (bt s i) = bt s i := int_wrap _ (by omega) (by omega)
        have wi : IntKind.i64.wrap ((i : Int) + 1) = ((i + 1 : Nat) : Int) := int_wrap _ (by omega) (by unfold Small at hs; omega)
        have hx := idx_str un9 .i64 s i (Int.natCast_nonneg i) hlt
        refine awp_rseq G12_ok (by simp only [go_sem, Nat.reduceBEq, ↓reduceIte, Bool.false_eq_true, Nat.reduceAdd, Nat.reduceMul, Nat.reduceLeDiff, wc, hx, c0_0, v3_0]; try rfl) ?_
        refine awp_rseq G12_ok (by simp (contextual := true) only [go_sem, Nat.reduceBEq, ↓reduceIte, Bool.false_eq_true, Nat.reduceAdd, Nat.reduceMul, Nat.reduceLeDiff, hx, c0_0, v3_0]; try rfl) ?_
        refine awp_cond (by simp only [go_sem, Nat.reduceBEq, ↓reduceIte, Bool.false_eq_true, Nat.reduceAdd, Nat.reduceMul, Nat.reduceLeDiff, c0_0, v3_0]; try rfl) (fun ht2 => ?_) (fun ht2 => ?_)
        · refine awp_rseq G12_ok (by simp only [go_sem, Nat.reduceBEq, ↓reduceIte, Bool.false_eq_true, Nat.reduceAdd, Nat.reduceMul, Nat.reduceLeDiff, c0_0, v3_0]; try rfl) ?_
          refine awp_ret ⟨_, (by simp only [go_sem, Nat.reduceBEq, ↓reduceIte, Bool.false_eq_true, Nat.reduceAdd, Nat.reduceMul, Nat.reduceLeDiff, c0_0, v3_0]; try rfl), ?_⟩
          refine ⟨?_, rfl⟩
          have hc : nameC (bt s i) = false := by
            have := ht2
            revert this
            unfold nameC
            generalize bt s i = x
            cases decide (97 ≤ x) <;> cases decide (x ≤ 122) <;> cases decide (65 ≤ x) <;> cases decide (x ≤ 90) <;> cases decide (48 ≤ x) <;> cases decide (x ≤ 57) <;> cases decide (x = 46) <;> cases decide (x = 95) <;> cases decide (x = 45) <;> decide
          have : nameOk s = false := by
            unfold nameOk
            rw [hn]
            unfold nameFrom
            rw [if_pos (by omega), hc]; rfl
          rw [this]; rfl
        · have hc : nameC (bt s i) = true := by
            have := ht2
            revert this
            unfold nameC
            generalize bt s i = x
            cases decide (97 ≤ x) <;> cases decide (x ≤ 122) <;> cases decide (65 ≤ x) <;> cases decide (x ≤ 90) <;> cases decide (48 ≤ x) <;> cases decide (x ≤ 57) <;> cases decide (x = 46) <;> cases decide (x = 95) <;> cases decide (x = 45) <;> decide
          refine awp_skip ?_
          show awp _ _ _ _ _ _
          refine awp_reg G12_ok (by simp only [go_sem, Nat.reduceBEq, ↓reduceIte, Bool.false_eq_true, Nat.reduceAdd, Nat.reduceMul, Nat.reduceLeDiff, wi, c0_0, v3_0]; try rfl) ?_
          refine ⟨⟨(by simp only [go_sem, Nat.reduceBEq, ↓reduceIte, Bool.false_eq_true, Nat.reduceAdd, Nat.reduceMul, Nat.reduceLeDiff, c0_0, v3_0]; try rfl), i + 1, (by simp only [go_sem, Nat.reduceBEq, ↓reduceIte, Bool.false_eq_true, Nat.reduceAdd, Nat.reduceMul, Nat.reduceLeDiff, c0_0, v3_0]; try rfl), ?_⟩, ?_⟩
          · refine ⟨rfl, by omega, ?_⟩
            rw [hn]
            conv => lhs; unfold nameFrom
            rw [if_pos (by omega), hc]; rfl
          · simp only [go_sem, Nat.reduceBEq, ↓reduceIte, Bool.false_eq_true, Nat.reduceAdd, Nat.reduceMul, Nat.reduceLeDiff, c0_0, v3_0]; omega
      · refine awp_sexitL ?_
        show awp _ _ _ _ _ _
        refine awp_rseq G12_ok (by simp only [go_sem, Nat.reduceBEq, ↓reduceIte, Bool.false_eq_true, Nat.reduceAdd, Nat.reduceMul, Nat.reduceLeDiff, c0_0, v3_0]; try rfl) ?_
        refine awp_ret ⟨_, (by simp only [go_sem, Nat.reduceBEq, ↓reduceIte, Bool.false_eq_true, Nat.reduceAdd, Nat.reduceMul, Nat.reduceLeDiff, c0_0, v3_0]; try rfl), ?_⟩
        refine ⟨?_, rfl⟩
        have hge : ¬ (i : Int) < s.size := of_decide_eq_false ht1
        have : nameOk s = true := by
          unfold nameOk
          rw [hn]
          unfold nameFrom
          rw [if_neg (by omega)]
          revert ht0
          generalize decide ((1 : Int) ≤ s.size) = a
          generalize decide ((s.size : Int) ≤ 20) = b
          cases a <;> cases b <;> cases decide (s = ⟨#[46]⟩) <;> cases decide (s = ⟨#[46, 46]⟩) <;> simp
        rw [this]; rfl
def F_spec_l02Names_inl : List Value → AHeap → Option (Value × AHeap)
  | [.string s], H => if Small s then some (inl 1 1 (strRow (splitC s 47)), H) else none
  | _, _ => none
@[go_sem] theorem F_spec_l02Names_inl_at (H : AHeap) (s : ByteArray)   (hc : Small s) : F_spec_l02Names_inl [.string s] H = some (inl 1 1 (strRow (splitC s 47)), H) := by simp only [F_spec_l02Names_inl, if_pos hc, Option.bind_some]
abbrev C_spec_l02Names_inl : Prop := ∀ (H : AHeap) (s : ByteArray)   (hc : Small s), ACall Tryd.prog 66 [.string s] H fun v H2 => v = (inl 1 1 (strRow (splitC s 47)) : Value) ∧ H2 = H
theorem ok_spec_l02Names_inl (cc_ : C_spec_l02Names_inl) : FOk Tryd.prog 66 F_spec_l02Names_inl := by
  intro args H x H2 h
  unfold F_spec_l02Names_inl at h
  split at h
  · rename_i s
    by_cases hc : Small s
    · simp only [if_pos hc, Option.some.injEq, Prod.mk.injEq] at h
      obtain ⟨rfl, rfl⟩ := h
      exact cc_ H s hc
    · simp only [if_neg hc, reduceCtorEq] at h
  · cases h
theorem c_spec_l02Names_inl : C_spec_l02Names_inl := fun H s hc => ACall.rowInl (strRow_flatC _) rfl (c_spec_l02Names H s hc)
def G13 : Gam := fun g args H => match g with
  | 67 => F_spec_NameOk args H
  | 66 => F_spec_l02Names_inl args H
  | _ => G12 g args H
theorem G13_ok : GOk Tryd.prog G13 := by
  intro g args H x H2 h
  unfold G13 at h
  split at h
  · exact ok_spec_NameOk c_spec_NameOk _ _ _ _ h
  · exact ok_spec_l02Names_inl c_spec_l02Names_inl _ _ _ _ h
  · exact G12_ok _ _ _ _ _ h
@[go_sem] theorem G13_40 (args : List Value) (H : AHeap) : G13 40 args H = F_strings_Join args H := id rfl
@[go_sem] theorem G13_64 (args : List Value) (H : AHeap) : G13 64 args H = F_strconv_Atoi args H := id rfl
@[go_sem] theorem G13_65 (args : List Value) (H : AHeap) : G13 65 args H = F_strings_IndexByte args H := id rfl
@[go_sem] theorem G13_50 (args : List Value) (H : AHeap) : G13 50 args H = F_strings_Contains args H := id rfl
@[go_sem] theorem G13_63 (args : List Value) (H : AHeap) : G13 63 args H = F_strings_Index args H := id rfl
@[go_sem] theorem G13_62 (args : List Value) (H : AHeap) : G13 62 args H = F_strings_Count args H := id rfl
@[go_sem] theorem G13_70 (args : List Value) (H : AHeap) : G13 70 args H = F_strings_Compare args H := id rfl
@[go_sem] theorem G13_58 (args : List Value) (H : AHeap) : G13 58 args H = F_strconv_Itoa args H := id rfl
@[go_sem] theorem G13_49 (args : List Value) (H : AHeap) : G13 49 args H = F_impl_within args H := id rfl
@[go_sem] theorem G13_41 (args : List Value) (H : AHeap) : G13 41 args H = F_impl_DecText args H := id rfl
@[go_sem] theorem G13_43 (args : List Value) (H : AHeap) : G13 43 args H = F_spec_l01In args H := id rfl
@[go_sem] theorem G13_22 (args : List Value) (H : AHeap) : G13 22 args H = F_spec_l01Split args H := id rfl
@[go_sem] theorem G13_71 (args : List Value) (H : AHeap) : G13 71 args H = F_impl_NameOk args H := id rfl
@[go_sem] theorem G13_55 (args : List Value) (H : AHeap) : G13 55 args H = F_impl_Names args H := id rfl
@[go_sem] theorem G13_48 (args : List Value) (H : AHeap) : G13 48 args H = F_impl_PathOk args H := id rfl
@[go_sem] theorem G13_46 (args : List Value) (H : AHeap) : G13 46 args H = F_impl_decimal args H := id rfl
@[go_sem] theorem G13_59 (args : List Value) (H : AHeap) : G13 59 args H = F_impl_hexText args H := id rfl
@[go_sem] theorem G13_42 (args : List Value) (H : AHeap) : G13 42 args H = F_impl_hexOf args H := id rfl
@[go_sem] theorem G13_29 (args : List Value) (H : AHeap) : G13 29 args H = F_impl_NodeOk args H := id rfl
@[go_sem] theorem G13_47 (args : List Value) (H : AHeap) : G13 47 args H = F_impl_readHex args H := id rfl
@[go_sem] theorem G13_19 (args : List Value) (H : AHeap) : G13 19 args H = F_impl_showNode args H := id rfl
@[go_sem] theorem G13_26 (args : List Value) (H : AHeap) : G13 26 args H = F_impl_words_next args H := id rfl
@[go_sem] theorem G13_27 (args : List Value) (H : AHeap) : G13 27 args H = F_impl_words_number args H := id rfl
@[go_sem] theorem G13_28 (args : List Value) (H : AHeap) : G13 28 args H = F_impl_words_bytes args H := id rfl
@[go_sem] theorem G13_25 (args : List Value) (H : AHeap) : G13 25 args H = F_strings_Split_inl args H := id rfl
@[go_sem] theorem G13_11 (args : List Value) (H : AHeap) : G13 11 args H = F_impl_ReadNode args H := id rfl
@[go_sem] theorem G13_67 (args : List Value) (H : AHeap) : G13 67 args H = F_spec_NameOk args H := id rfl
@[go_sem] theorem G13_66 (args : List Value) (H : AHeap) : G13 66 args H = F_spec_l02Names_inl args H := id rfl
def F_spec_PathOk : List Value → AHeap → Option (Value × AHeap)
  | [.string s], H => if Small s then some (.bool (pathOk s), H) else none
  | _, _ => none
@[go_sem] theorem F_spec_PathOk_at (H : AHeap) (s : ByteArray)   (hc : Small s) : F_spec_PathOk [.string s] H = some (.bool (pathOk s), H) := by simp only [F_spec_PathOk, if_pos hc, Option.bind_some]
abbrev C_spec_PathOk : Prop := ∀ (H : AHeap) (s : ByteArray)   (hc : Small s), ACall Tryd.prog 51 [.string s] H fun v H2 => v = (.bool (pathOk s) : Value) ∧ H2 = H
theorem ok_spec_PathOk (cc_ : C_spec_PathOk) : FOk Tryd.prog 51 F_spec_PathOk := by
  intro args H x H2 h
  unfold F_spec_PathOk at h
  split at h
  · rename_i s
    by_cases hc : Small s
    · simp only [if_pos hc, Option.some.injEq, Prod.mk.injEq] at h
      obtain ⟨rfl, rfl⟩ := h
      exact cc_ H s hc
    · simp only [if_neg hc, reduceCtorEq] at h
  · cases h
theorem c_spec_PathOk : C_spec_PathOk := by
  intro H s hs
  rw [← pathOkS_eq]
  refine ACall.body Tryd.func51 rfl rfl (rs := [.tmp 2]) rfl (n := 25) rfl (by decide) (by simp) ?_
  refine awp_rseq G13_ok (by simp only [go_sem, Nat.reduceBEq, ↓reduceIte, Bool.false_eq_true, Nat.reduceAdd, Nat.reduceMul, Nat.reduceLeDiff]; try rfl) ?_
  refine awp_assoc ?_
  refine awp_rseq G13_ok (by simp only [go_sem, Nat.reduceBEq, ↓reduceIte, Bool.false_eq_true, Nat.reduceAdd, Nat.reduceMul, Nat.reduceLeDiff]; try rfl) ?_
  refine awp_scond (by simp only [go_sem, Nat.reduceBEq, ↓reduceIte, Bool.false_eq_true, Nat.reduceAdd, Nat.reduceMul, Nat.reduceLeDiff]; try rfl) (fun ht0 => ?_) (fun ht0 => ?_)
  · refine awp_assoc ?_
    refine awp_rseq G13_ok (by simp only [go_sem, Nat.reduceBEq, ↓reduceIte, Bool.false_eq_true, Nat.reduceAdd, Nat.reduceMul, Nat.reduceLeDiff]; try rfl) ?_
    refine awp_sret ⟨_, (by simp only [go_sem, Nat.reduceBEq, ↓reduceIte, Bool.false_eq_true, Nat.reduceAdd, Nat.reduceMul, Nat.reduceLeDiff]; try rfl), ?_⟩
    refine ⟨?_, rfl⟩
    unfold pathOkS; rw [if_pos ht0]; rfl
  · refine awp_sskip ?_
    refine awp_rseq G13_ok (by simp only [go_sem, Nat.reduceBEq, ↓reduceIte, Bool.false_eq_true, Nat.reduceAdd, Nat.reduceMul, Nat.reduceLeDiff, F_spec_l02Names_inl_at _ _ hs]; try rfl) ?_
    refine awp_assoc ?_
    have hsm : ∀ x ∈ splitC s 47, Small x := fun x hx => Nat.le_trans (splitAt_size s 47 0 0 x hx) hs
    have hlen : (splitC s 47).length ≤ s.size + 1 := splitAt_len s 47 0 0
    have hp : pathOkS s = if (splitC s 47).all nameOk = true then decide (((splitC s 47).length : Int) ≤ 8) else false := by unfold pathOkS; rw [if_neg (by rw [ht0]; decide)]
    generalize splitC s 47 = W at *
    refine awp_rseq G13_ok (by simp only [go_sem, Nat.reduceBEq, ↓reduceIte, Bool.false_eq_true, Nat.reduceAdd, Nat.reduceMul, Nat.reduceLeDiff]; try rfl) ?_
    refine awp_sblock ?_
    refine awp_loop (fun e H' => e 3 = inl 1 1 (strRow W) ∧ ∃ i : Nat, e 4 = .int .i64 i ∧ (H' = H) ∧ (i ≤ W.length) ∧ ((W.take i).all nameOk = true)) (fun e H' => gap W.length (e 4)) ?_ ?_
    · refine ⟨(by simp only [go_sem, Nat.reduceBEq, ↓reduceIte, Bool.false_eq_true, Nat.reduceAdd, Nat.reduceMul, Nat.reduceLeDiff]; try rfl), 0, (by simp only [go_sem, Nat.reduceBEq, ↓reduceIte, Bool.false_eq_true, Nat.reduceAdd, Nat.reduceMul, Nat.reduceLeDiff]; try rfl), ?_⟩
      exact ⟨rfl, Nat.zero_le _, rfl⟩
    · rintro e H' ⟨c3_0, i, v4_0, rfl, hi, ha⟩
      refine awp_assoc ?_
      skip
      refine awp_rseq G13_ok (by simp only [go_sem, Nat.reduceBEq, ↓reduceIte, Bool.false_eq_true, Nat.reduceAdd, Nat.reduceMul, Nat.reduceLeDiff, strRow_len, c3_0, v4_0]; try rfl) ?_
      refine awp_scond (by simp only [go_sem, Nat.reduceBEq, ↓reduceIte, Bool.false_eq_true, Nat.reduceAdd, Nat.reduceMul, Nat.reduceLeDiff, c3_0, v4_0]; try rfl) (fun ht1 => ?_) (fun ht1 => ?_)
      · refine awp_sskip ?_
        refine awp_sblock ?_
        have hlt : i < W.length := by have := of_decide_eq_true ht1; omega
        have hix := ixI_nd (strRow W) i (strRow_get W i hlt)
        have hsi : Small W[i] := hsm _ (List.getElem_mem hlt)
        have wi : IntKind.i64.wrap ((i : Int) + 1) = ((i + 1 : Nat) : Int) := int_wrap _ (by omega) (by unfold Small at hs; omega)
        have htk : (W.take (i + 1)).all nameOk = ((W.take i).all nameOk && nameOk W[i]) := by rw [List.take_succ_eq_append_getElem hlt, List.all_append]; simp only [List.all_cons, List.all_nil, Bool.and_true]
        refine awp_rseq G13_ok (by simp only [go_sem, Nat.reduceBEq, ↓reduceIte, Bool.false_eq_true, Nat.reduceAdd, Nat.reduceMul, Nat.reduceLeDiff, hix, F_spec_NameOk_at _ _ hsi, c3_0, v4_0]; try rfl) ?_
        refine awp_cond (by simp only [go_sem, Nat.reduceBEq, ↓reduceIte, Bool.false_eq_true, Nat.reduceAdd, Nat.reduceMul, Nat.reduceLeDiff, c3_0, v4_0]; try rfl) (fun ht2 => ?_) (fun ht2 => ?_)
        · refine awp_rseq G13_ok (by simp only [go_sem, Nat.reduceBEq, ↓reduceIte, Bool.false_eq_true, Nat.reduceAdd, Nat.reduceMul, Nat.reduceLeDiff, c3_0, v4_0]; try rfl) ?_
          refine awp_ret ⟨_, (by simp only [go_sem, Nat.reduceBEq, ↓reduceIte, Bool.false_eq_true, Nat.reduceAdd, Nat.reduceMul, Nat.reduceLeDiff, c3_0, v4_0]; try rfl), ?_⟩
          refine ⟨?_, rfl⟩
          have : W.all nameOk = false := by
            rw [List.all_eq_false]
            exact ⟨W[i], List.getElem_mem hlt, by rw [bnt ht2]; simp⟩
          rw [hp, if_neg (by rw [this]; decide)]; rfl
        · refine awp_skip ?_
          show awp _ _ _ _ _ _
          refine awp_reg G13_ok (by simp only [go_sem, Nat.reduceBEq, ↓reduceIte, Bool.false_eq_true, Nat.reduceAdd, Nat.reduceMul, Nat.reduceLeDiff, wi, c3_0, v4_0]; try rfl) ?_
          refine ⟨⟨(by simp only [go_sem, Nat.reduceBEq, ↓reduceIte, Bool.false_eq_true, Nat.reduceAdd, Nat.reduceMul, Nat.reduceLeDiff, c3_0, v4_0]; try rfl), i + 1, (by simp only [go_sem, Nat.reduceBEq, ↓reduceIte, Bool.false_eq_true, Nat.reduceAdd, Nat.reduceMul, Nat.reduceLeDiff, c3_0, v4_0]; try rfl), ?_⟩, ?_⟩
          · exact ⟨rfl, by omega, by rw [htk, ha, bnf ht2]; rfl⟩
          · simp only [go_sem, Nat.reduceBEq, ↓reduceIte, Bool.false_eq_true, Nat.reduceAdd, Nat.reduceMul, Nat.reduceLeDiff, c3_0, v4_0]; omega
      · refine awp_sexitL ?_
        show awp _ _ _ _ _ _
        refine awp_rseq G13_ok (by simp only [go_sem, Nat.reduceBEq, ↓reduceIte, Bool.false_eq_true, Nat.reduceAdd, Nat.reduceMul, Nat.reduceLeDiff, strRow_len, c3_0, v4_0]; try rfl) ?_
        refine awp_ret ⟨_, (by simp only [go_sem, Nat.reduceBEq, ↓reduceIte, Bool.false_eq_true, Nat.reduceAdd, Nat.reduceMul, Nat.reduceLeDiff, c3_0, v4_0]; try rfl), ?_⟩
        refine ⟨?_, rfl⟩
        have hge : ¬ (i : Int) < W.length := of_decide_eq_false ht1
        have hie : i = W.length := by omega
        rw [hie, List.take_length] at ha
        rw [hp, if_pos ha]; rfl
def G14 : Gam := fun g args H => match g with
  | 51 => F_spec_PathOk args H
  | 66 => F_spec_l02Names args H
  | _ => G13 g args H
theorem G14_ok : GOk Tryd.prog G14 := by
  intro g args H x H2 h
  unfold G14 at h
  split at h
  · exact ok_spec_PathOk c_spec_PathOk _ _ _ _ h
  · exact ok_spec_l02Names c_spec_l02Names _ _ _ _ h
  · exact G13_ok _ _ _ _ _ h
@[go_sem] theorem G14_40 (args : List Value) (H : AHeap) : G14 40 args H = F_strings_Join args H := id rfl
@[go_sem] theorem G14_64 (args : List Value) (H : AHeap) : G14 64 args H = F_strconv_Atoi args H := id rfl
@[go_sem] theorem G14_65 (args : List Value) (H : AHeap) : G14 65 args H = F_strings_IndexByte args H := id rfl
@[go_sem] theorem G14_50 (args : List Value) (H : AHeap) : G14 50 args H = F_strings_Contains args H := id rfl
@[go_sem] theorem G14_63 (args : List Value) (H : AHeap) : G14 63 args H = F_strings_Index args H := id rfl
@[go_sem] theorem G14_62 (args : List Value) (H : AHeap) : G14 62 args H = F_strings_Count args H := id rfl
@[go_sem] theorem G14_70 (args : List Value) (H : AHeap) : G14 70 args H = F_strings_Compare args H := id rfl
@[go_sem] theorem G14_58 (args : List Value) (H : AHeap) : G14 58 args H = F_strconv_Itoa args H := id rfl
@[go_sem] theorem G14_49 (args : List Value) (H : AHeap) : G14 49 args H = F_impl_within args H := id rfl
@[go_sem] theorem G14_41 (args : List Value) (H : AHeap) : G14 41 args H = F_impl_DecText args H := id rfl
@[go_sem] theorem G14_43 (args : List Value) (H : AHeap) : G14 43 args H = F_spec_l01In args H := id rfl
@[go_sem] theorem G14_22 (args : List Value) (H : AHeap) : G14 22 args H = F_spec_l01Split args H := id rfl
@[go_sem] theorem G14_71 (args : List Value) (H : AHeap) : G14 71 args H = F_impl_NameOk args H := id rfl
@[go_sem] theorem G14_55 (args : List Value) (H : AHeap) : G14 55 args H = F_impl_Names args H := id rfl
@[go_sem] theorem G14_48 (args : List Value) (H : AHeap) : G14 48 args H = F_impl_PathOk args H := id rfl
@[go_sem] theorem G14_46 (args : List Value) (H : AHeap) : G14 46 args H = F_impl_decimal args H := id rfl
@[go_sem] theorem G14_59 (args : List Value) (H : AHeap) : G14 59 args H = F_impl_hexText args H := id rfl
@[go_sem] theorem G14_42 (args : List Value) (H : AHeap) : G14 42 args H = F_impl_hexOf args H := id rfl
@[go_sem] theorem G14_29 (args : List Value) (H : AHeap) : G14 29 args H = F_impl_NodeOk args H := id rfl
@[go_sem] theorem G14_47 (args : List Value) (H : AHeap) : G14 47 args H = F_impl_readHex args H := id rfl
@[go_sem] theorem G14_19 (args : List Value) (H : AHeap) : G14 19 args H = F_impl_showNode args H := id rfl
@[go_sem] theorem G14_26 (args : List Value) (H : AHeap) : G14 26 args H = F_impl_words_next args H := id rfl
@[go_sem] theorem G14_27 (args : List Value) (H : AHeap) : G14 27 args H = F_impl_words_number args H := id rfl
@[go_sem] theorem G14_28 (args : List Value) (H : AHeap) : G14 28 args H = F_impl_words_bytes args H := id rfl
@[go_sem] theorem G14_25 (args : List Value) (H : AHeap) : G14 25 args H = F_strings_Split_inl args H := id rfl
@[go_sem] theorem G14_11 (args : List Value) (H : AHeap) : G14 11 args H = F_impl_ReadNode args H := id rfl
@[go_sem] theorem G14_67 (args : List Value) (H : AHeap) : G14 67 args H = F_spec_NameOk args H := id rfl
@[go_sem] theorem G14_51 (args : List Value) (H : AHeap) : G14 51 args H = F_spec_PathOk args H := id rfl
@[go_sem] theorem G14_66 (args : List Value) (H : AHeap) : G14 66 args H = F_spec_l02Names args H := id rfl
def F_spec_Names_inl : List Value → AHeap → Option (Value × AHeap)
  | [.string s], H => if Small s then some (inl 1 1 (strRow ((namesOf s).getD [])), H) else none
  | _, _ => none
@[go_sem] theorem F_spec_Names_inl_at (H : AHeap) (s : ByteArray)   (hc : Small s) : F_spec_Names_inl [.string s] H = some (inl 1 1 (strRow ((namesOf s).getD [])), H) := by simp only [F_spec_Names_inl, if_pos hc, Option.bind_some]
abbrev C_spec_Names_inl : Prop := ∀ (H : AHeap) (s : ByteArray)   (hc : Small s), ACall Tryd.prog 52 [.string s] H fun v H2 => v = (inl 1 1 (strRow ((namesOf s).getD [])) : Value) ∧ H2 = H
theorem ok_spec_Names_inl (cc_ : C_spec_Names_inl) : FOk Tryd.prog 52 F_spec_Names_inl := by
  intro args H x H2 h
  unfold F_spec_Names_inl at h
  split at h
  · rename_i s
    by_cases hc : Small s
    · simp only [if_pos hc, Option.some.injEq, Prod.mk.injEq] at h
      obtain ⟨rfl, rfl⟩ := h
      exact cc_ H s hc
    · simp only [if_neg hc, reduceCtorEq] at h
  · cases h
theorem c_spec_Names_inl : C_spec_Names_inl := by
  intro H s hs
  refine ACall.wf fun wf => ACall.toInl (nl := false) (strRow_flatC _) ?_
  refine ACall.body Tryd.func52 rfl rfl (rs := [.tmp 2]) rfl (n := 9) rfl (by decide) (by simp) ?_
  refine awp_rseq G14_ok (by simp only [go_sem, Nat.reduceBEq, ↓reduceIte, Bool.false_eq_true, Nat.reduceAdd, Nat.reduceMul, Nat.reduceLeDiff, F_spec_PathOk_at _ _ hs, F_spec_l02Names_at _ _ hs]; try rfl) ?_
  refine awp_assoc ?_
  refine awp_rseq G14_ok (by simp only [go_sem, Nat.reduceBEq, ↓reduceIte, Bool.false_eq_true, Nat.reduceAdd, Nat.reduceMul, Nat.reduceLeDiff, F_spec_PathOk_at _ _ hs, F_spec_l02Names_at _ _ hs]; try rfl) ?_
  refine awp_scond (by simp only [go_sem, Nat.reduceBEq, ↓reduceIte, Bool.false_eq_true, Nat.reduceAdd, Nat.reduceMul, Nat.reduceLeDiff, F_spec_PathOk_at _ _ hs, F_spec_l02Names_at _ _ hs]; try rfl) (fun ht0 => ?_) (fun ht0 => ?_)
  · refine awp_assoc ?_
    refine awp_rseq G14_ok (by simp only [go_sem, Nat.reduceBEq, ↓reduceIte, Bool.false_eq_true, Nat.reduceAdd, Nat.reduceMul, Nat.reduceLeDiff, F_spec_PathOk_at _ _ hs, F_spec_l02Names_at _ _ hs]; try rfl) ?_
    refine awp_sret ⟨_, (by simp only [go_sem, Nat.reduceBEq, ↓reduceIte, Bool.false_eq_true, Nat.reduceAdd, Nat.reduceMul, Nat.reduceLeDiff, F_spec_PathOk_at _ _ hs, F_spec_l02Names_at _ _ hs]; try rfl), ?_⟩
    rw [names_of_not (bnt ht0)]
    exact Buf.fresh wf wf (Ext.refl _) 1 _ rfl 1
  · refine awp_sskip ?_
    refine awp_rseq G14_ok (by simp only [go_sem, Nat.reduceBEq, ↓reduceIte, Bool.false_eq_true, Nat.reduceAdd, Nat.reduceMul, Nat.reduceLeDiff, F_spec_PathOk_at _ _ hs, F_spec_l02Names_at _ _ hs]; try rfl) ?_
    refine awp_ret ⟨_, (by simp only [go_sem, Nat.reduceBEq, ↓reduceIte, Bool.false_eq_true, Nat.reduceAdd, Nat.reduceMul, Nat.reduceLeDiff, F_spec_PathOk_at _ _ hs, F_spec_l02Names_at _ _ hs]; try rfl), ?_⟩
    rw [names_of_ok (bnf ht0)]
    exact Buf.fresh wf wf (Ext.refl _) 1 _ rfl 1
def G15 : Gam := fun g args H => match g with
  | 52 => F_spec_Names_inl args H
  | 66 => F_spec_l02Names_inl args H
  | _ => G14 g args H
theorem G15_ok : GOk Tryd.prog G15 := by
  intro g args H x H2 h
  unfold G15 at h
  split at h
  · exact ok_spec_Names_inl c_spec_Names_inl _ _ _ _ h
  · exact ok_spec_l02Names_inl c_spec_l02Names_inl _ _ _ _ h
  · exact G14_ok _ _ _ _ _ h
@[go_sem] theorem G15_40 (args : List Value) (H : AHeap) : G15 40 args H = F_strings_Join args H := id rfl
@[go_sem] theorem G15_64 (args : List Value) (H : AHeap) : G15 64 args H = F_strconv_Atoi args H := id rfl
@[go_sem] theorem G15_65 (args : List Value) (H : AHeap) : G15 65 args H = F_strings_IndexByte args H := id rfl
@[go_sem] theorem G15_50 (args : List Value) (H : AHeap) : G15 50 args H = F_strings_Contains args H := id rfl
@[go_sem] theorem G15_63 (args : List Value) (H : AHeap) : G15 63 args H = F_strings_Index args H := id rfl
@[go_sem] theorem G15_62 (args : List Value) (H : AHeap) : G15 62 args H = F_strings_Count args H := id rfl
@[go_sem] theorem G15_70 (args : List Value) (H : AHeap) : G15 70 args H = F_strings_Compare args H := id rfl
@[go_sem] theorem G15_58 (args : List Value) (H : AHeap) : G15 58 args H = F_strconv_Itoa args H := id rfl
@[go_sem] theorem G15_49 (args : List Value) (H : AHeap) : G15 49 args H = F_impl_within args H := id rfl
@[go_sem] theorem G15_41 (args : List Value) (H : AHeap) : G15 41 args H = F_impl_DecText args H := id rfl
@[go_sem] theorem G15_43 (args : List Value) (H : AHeap) : G15 43 args H = F_spec_l01In args H := id rfl
@[go_sem] theorem G15_22 (args : List Value) (H : AHeap) : G15 22 args H = F_spec_l01Split args H := id rfl
@[go_sem] theorem G15_71 (args : List Value) (H : AHeap) : G15 71 args H = F_impl_NameOk args H := id rfl
@[go_sem] theorem G15_55 (args : List Value) (H : AHeap) : G15 55 args H = F_impl_Names args H := id rfl
@[go_sem] theorem G15_48 (args : List Value) (H : AHeap) : G15 48 args H = F_impl_PathOk args H := id rfl
@[go_sem] theorem G15_46 (args : List Value) (H : AHeap) : G15 46 args H = F_impl_decimal args H := id rfl
@[go_sem] theorem G15_59 (args : List Value) (H : AHeap) : G15 59 args H = F_impl_hexText args H := id rfl
@[go_sem] theorem G15_42 (args : List Value) (H : AHeap) : G15 42 args H = F_impl_hexOf args H := id rfl
@[go_sem] theorem G15_29 (args : List Value) (H : AHeap) : G15 29 args H = F_impl_NodeOk args H := id rfl
@[go_sem] theorem G15_47 (args : List Value) (H : AHeap) : G15 47 args H = F_impl_readHex args H := id rfl
@[go_sem] theorem G15_19 (args : List Value) (H : AHeap) : G15 19 args H = F_impl_showNode args H := id rfl
@[go_sem] theorem G15_26 (args : List Value) (H : AHeap) : G15 26 args H = F_impl_words_next args H := id rfl
@[go_sem] theorem G15_27 (args : List Value) (H : AHeap) : G15 27 args H = F_impl_words_number args H := id rfl
@[go_sem] theorem G15_28 (args : List Value) (H : AHeap) : G15 28 args H = F_impl_words_bytes args H := id rfl
@[go_sem] theorem G15_25 (args : List Value) (H : AHeap) : G15 25 args H = F_strings_Split_inl args H := id rfl
@[go_sem] theorem G15_11 (args : List Value) (H : AHeap) : G15 11 args H = F_impl_ReadNode args H := id rfl
@[go_sem] theorem G15_67 (args : List Value) (H : AHeap) : G15 67 args H = F_spec_NameOk args H := id rfl
@[go_sem] theorem G15_51 (args : List Value) (H : AHeap) : G15 51 args H = F_spec_PathOk args H := id rfl
@[go_sem] theorem G15_52 (args : List Value) (H : AHeap) : G15 52 args H = F_spec_Names_inl args H := id rfl
@[go_sem] theorem G15_66 (args : List Value) (H : AHeap) : G15 66 args H = F_spec_l02Names_inl args H := id rfl
def F_spec_NodeOk : List Value → AHeap → Option (Value × AHeap)
  | [.agg a_n], H => (decNd a_n.toList).bind fun (n : Nd) => if Small n.path ∧ Small n.target then some (.bool (nodeOk n), H) else none
  | _, _ => none
@[go_sem] theorem F_spec_NodeOk_ob (H : AHeap) (cs_n : List Value) : F_spec_NodeOk [.agg cs_n.toArray] H = (decNd cs_n).bind fun (n : Nd) => if Small n.path ∧ Small n.target then some (.bool (nodeOk n), H) else none := by simp only [F_spec_NodeOk, List.toList_toArray]
theorem F_spec_NodeOk_at (H : AHeap) (n : Nd)   (hc : Small n.path ∧ Small n.target) : F_spec_NodeOk [.agg (ndC n).toArray] H = some (.bool (nodeOk n), H) := by simp only [F_spec_NodeOk, decNd_enc, List.toList_toArray, if_pos hc, Option.bind_some]
abbrev C_spec_NodeOk : Prop := ∀ (H : AHeap) (n : Nd)   (hc : Small n.path ∧ Small n.target), ACall Tryd.prog 30 [.agg (ndC n).toArray] H fun v H2 => v = (.bool (nodeOk n) : Value) ∧ H2 = H
theorem ok_spec_NodeOk (cc_ : C_spec_NodeOk) : FOk Tryd.prog 30 F_spec_NodeOk := by
  intro args H x H2 h
  unfold F_spec_NodeOk at h
  split at h
  · rename_i a_n
    have hz := bind_some h
    clear h
    obtain ⟨n, hb_n, h⟩ := hz
    have hq_n := decNd_some hb_n
    by_cases hc : Small n.path ∧ Small n.target
    · simp only [if_pos hc, Option.some.injEq, Prod.mk.injEq] at h
      have hr_n : a_n = (ndC n).toArray := by rw [← hq_n]
      subst hr_n
      obtain ⟨rfl, rfl⟩ := h
      exact cc_ H n hc
    · simp only [if_neg hc, reduceCtorEq] at h
  · cases h
theorem c_spec_NodeOk : C_spec_NodeOk := by
  intro H n hs
  refine ACall.wf fun wf => ACall.quiet (by first | rfl | simp [clT, clD, clc, scal]) ?_
  refine ACall.body Tryd.func30 rfl rfl (rs := [.tmp 2]) rfl (n := 87) rfl (by decide) (by simp) ?_
  refine awp_rseq G15_ok (by simp only [go_sem, Nat.reduceBEq, ↓reduceIte, Bool.false_eq_true, Nat.reduceAdd, Nat.reduceMul, Nat.reduceLeDiff, F_spec_PathOk_at _ _ hs.1]; try rfl) ?_
  refine awp_assoc ?_
  refine awp_rseq G15_ok (by simp (contextual := true) only [go_sem, Nat.reduceBEq, ↓reduceIte, Bool.false_eq_true, Nat.reduceAdd, Nat.reduceMul, Nat.reduceLeDiff, F_spec_PathOk_at _ _ hs.1]; try rfl) ?_
  refine awp_scond (by simp only [go_sem, Nat.reduceBEq, ↓reduceIte, Bool.false_eq_true, Nat.reduceAdd, Nat.reduceMul, Nat.reduceLeDiff, F_spec_PathOk_at _ _ hs.1]; try rfl) (fun ht0 => ?_) (fun ht0 => ?_)
  · refine awp_assoc ?_
    refine awp_rseq G15_ok (by simp only [go_sem, Nat.reduceBEq, ↓reduceIte, Bool.false_eq_true, Nat.reduceAdd, Nat.reduceMul, Nat.reduceLeDiff, F_spec_PathOk_at _ _ hs.1]; try rfl) ?_
    refine awp_sret ⟨_, (by simp only [go_sem, Nat.reduceBEq, ↓reduceIte, Bool.false_eq_true, Nat.reduceAdd, Nat.reduceMul, Nat.reduceLeDiff, F_spec_PathOk_at _ _ hs.1]; try rfl), ?_⟩
    refine ⟨?_, ?_⟩
    · first | rfl | (simp only [one, nodeOk, *, if_true, if_false, Bool.false_eq_true, reduceIte]; try rfl)
    · first | rfl | (repeat (first | exact Ext.refl _ | assumption | apply Ext.push | apply WF.push))
  · refine awp_sskip ?_
    refine awp_assoc ?_
    refine awp_rseq G15_ok (by simp only [go_sem, Nat.reduceBEq, ↓reduceIte, Bool.false_eq_true, Nat.reduceAdd, Nat.reduceMul, Nat.reduceLeDiff, F_spec_PathOk_at _ _ hs.1]; try rfl) ?_
    refine awp_sblock ?_
    refine awp_rseq G15_ok (by simp only [go_sem, Nat.reduceBEq, ↓reduceIte, Bool.false_eq_true, Nat.reduceAdd, Nat.reduceMul, Nat.reduceLeDiff, F_spec_PathOk_at _ _ hs.1]; try rfl) ?_
    refine awp_cond (by simp only [go_sem, Nat.reduceBEq, ↓reduceIte, Bool.false_eq_true, Nat.reduceAdd, Nat.reduceMul, Nat.reduceLeDiff, F_spec_PathOk_at _ _ hs.1]; try rfl) (fun ht1 => ?_) (fun ht1 => ?_)
    · refine awp_rseq G15_ok (by simp (contextual := true) only [go_sem, Nat.reduceBEq, ↓reduceIte, Bool.false_eq_true, Nat.reduceAdd, Nat.reduceMul, Nat.reduceLeDiff, F_spec_PathOk_at _ _ hs.1]; try rfl) ?_
      refine awp_ret ⟨_, (by simp only [go_sem, Nat.reduceBEq, ↓reduceIte, Bool.false_eq_true, Nat.reduceAdd, Nat.reduceMul, Nat.reduceLeDiff, F_spec_PathOk_at _ _ hs.1]; try rfl), ?_⟩
      refine ⟨?_, ?_⟩
      · first | rfl | (simp only [one, nodeOk, *, if_true, if_false, Bool.false_eq_true, reduceIte]; try rfl)
      · first | rfl | (repeat (first | exact Ext.refl _ | assumption | apply Ext.push | apply WF.push))
    · refine awp_rseq G15_ok (by simp only [go_sem, Nat.reduceBEq, ↓reduceIte, Bool.false_eq_true, Nat.reduceAdd, Nat.reduceMul, Nat.reduceLeDiff, F_spec_PathOk_at _ _ hs.1]; try rfl) ?_
      refine awp_cond (by simp only [go_sem, Nat.reduceBEq, ↓reduceIte, Bool.false_eq_true, Nat.reduceAdd, Nat.reduceMul, Nat.reduceLeDiff, F_spec_PathOk_at _ _ hs.1]; try rfl) (fun ht2 => ?_) (fun ht2 => ?_)
      · refine awp_rseq G15_ok (by simp (contextual := true) only [go_sem, Nat.reduceBEq, ↓reduceIte, Bool.false_eq_true, Nat.reduceAdd, Nat.reduceMul, Nat.reduceLeDiff, F_spec_PathOk_at _ _ hs.1]; try rfl) ?_
        refine awp_ret ⟨_, (by simp only [go_sem, Nat.reduceBEq, ↓reduceIte, Bool.false_eq_true, Nat.reduceAdd, Nat.reduceMul, Nat.reduceLeDiff, F_spec_PathOk_at _ _ hs.1]; try rfl), ?_⟩
        refine ⟨?_, ?_⟩
        · first | rfl | (simp only [one, nodeOk, *, if_true, if_false, Bool.false_eq_true, reduceIte]; try rfl)
        · first | rfl | (repeat (first | exact Ext.refl _ | assumption | apply Ext.push | apply WF.push))
      · refine awp_rseq G15_ok (by simp only [go_sem, Nat.reduceBEq, ↓reduceIte, Bool.false_eq_true, Nat.reduceAdd, Nat.reduceMul, Nat.reduceLeDiff, F_spec_PathOk_at _ _ hs.1]; try rfl) ?_
        refine awp_cond (by simp only [go_sem, Nat.reduceBEq, ↓reduceIte, Bool.false_eq_true, Nat.reduceAdd, Nat.reduceMul, Nat.reduceLeDiff, F_spec_PathOk_at _ _ hs.1]; try rfl) (fun ht3 => ?_) (fun ht3 => ?_)
        · refine awp_assoc ?_
          refine awp_rseq G15_ok (by simp (contextual := true) only [go_sem, Nat.reduceBEq, ↓reduceIte, Bool.false_eq_true, Nat.reduceAdd, Nat.reduceMul, Nat.reduceLeDiff, F_spec_PathOk_at _ _ hs.1]; try rfl) ?_
          refine awp_scond (by simp only [go_sem, Nat.reduceBEq, ↓reduceIte, Bool.false_eq_true, Nat.reduceAdd, Nat.reduceMul, Nat.reduceLeDiff, F_spec_PathOk_at _ _ hs.1]; try rfl) (fun ht4 => ?_) (fun ht4 => ?_)
          · refine awp_assoc ?_
            refine awp_rseq G15_ok (by simp only [go_sem, Nat.reduceBEq, ↓reduceIte, Bool.false_eq_true, Nat.reduceAdd, Nat.reduceMul, Nat.reduceLeDiff, F_spec_PathOk_at _ _ hs.1]; try rfl) ?_
            refine awp_sret ⟨_, (by simp only [go_sem, Nat.reduceBEq, ↓reduceIte, Bool.false_eq_true, Nat.reduceAdd, Nat.reduceMul, Nat.reduceLeDiff, F_spec_PathOk_at _ _ hs.1]; try rfl), ?_⟩
            refine ⟨?_, (Ext.refl _).push wf _⟩
            have hk : nodeOk n = (decide (n.data = ⟨#[]⟩) && decide (n.mode = 0) && decide (n.group = 0) && (decide ((1 : Int) ≤ n.target.size) && decide ((n.target.size : Int) ≤ 60)) && !hasB n.target 10) := by
              simp only [nodeOk, ht0, ht1, ht2, ht3, if_true, Bool.false_eq_true, if_false]
            rw [hk]
            generalize hasB n.target 10 = g
            revert ht4
            generalize decide (n.data = ⟨#[]⟩) = a
            generalize decide (n.mode = 0) = b
            generalize decide (n.group = 0) = c
            generalize decide ((1 : Int) ≤ n.target.size) = d
            generalize decide ((n.target.size : Int) ≤ 60) = e
            cases a <;> cases b <;> cases c <;> cases d <;> cases e <;> simp [one]
          · refine awp_sskip ?_
            refine awp_assoc ?_
            refine awp_rseq G15_ok (by simp only [go_sem, Nat.reduceBEq, ↓reduceIte, Bool.false_eq_true, Nat.reduceAdd, Nat.reduceMul, Nat.reduceLeDiff, F_spec_PathOk_at _ _ hs.1]; try rfl) ?_
            refine awp_sblock ?_
            refine awp_loop (fun e H' => e 1 = .pointer (some ⟨H.next, 0, some 0⟩) ∧ ∃ i : Nat, e 3 = .int .i64 i ∧ (H' = H.push (.row 7 [ndC n] true)) ∧ (i ≤ n.target.size) ∧ (∀ j, j < i → bt n.target j ≠ 10)) (fun e H' => gap n.target.size (e 3)) ?_ ?_
            · refine ⟨(by simp only [go_sem, Nat.reduceBEq, ↓reduceIte, Bool.false_eq_true, Nat.reduceAdd, Nat.reduceMul, Nat.reduceLeDiff, F_spec_PathOk_at _ _ hs.1]; try rfl), 0, (by simp only [go_sem, Nat.reduceBEq, ↓reduceIte, Bool.false_eq_true, Nat.reduceAdd, Nat.reduceMul, Nat.reduceLeDiff, F_spec_PathOk_at _ _ hs.1]; try rfl), ?_⟩
              exact ⟨rfl, Nat.zero_le _, fun j hj => by omega⟩
            · rintro e H' ⟨c1_0, i, v3_0, rfl, hi, ha⟩
              refine awp_assoc ?_
              refine awp_rseq G15_ok (by simp only [go_sem, Nat.reduceBEq, ↓reduceIte, Bool.false_eq_true, Nat.reduceAdd, Nat.reduceMul, Nat.reduceLeDiff, F_spec_PathOk_at _ _ hs.1, c1_0, v3_0]; try rfl) ?_
              refine awp_scond (by simp only [go_sem, Nat.reduceBEq, ↓reduceIte, Bool.false_eq_true, Nat.reduceAdd, Nat.reduceMul, Nat.reduceLeDiff, F_spec_PathOk_at _ _ hs.1, c1_0, v3_0]; try rfl) (fun ht5 => ?_) (fun ht5 => ?_)
              · refine awp_sskip ?_
                refine awp_sblock ?_
                have hlt : (i : Int) < n.target.size := of_decide_eq_true ht5
                have wi : IntKind.i64.wrap ((i : Int) + 1) = ((i + 1 : Nat) : Int) := int_wrap _ (by omega) (by have := hs.2; unfold Small at this; omega)
                have hx := idx_str un9 .i64 n.target i (Int.natCast_nonneg i) hlt
                refine awp_rseq G15_ok (by simp only [go_sem, Nat.reduceBEq, ↓reduceIte, Bool.false_eq_true, Nat.reduceAdd, Nat.reduceMul, Nat.reduceLeDiff, F_spec_PathOk_at _ _ hs.1, hx, c1_0, v3_0]; try rfl) ?_
                refine awp_cond (by simp only [go_sem, Nat.reduceBEq, ↓reduceIte, Bool.false_eq_true, Nat.reduceAdd, Nat.reduceMul, Nat.reduceLeDiff, F_spec_PathOk_at _ _ hs.1, c1_0, v3_0]; try rfl) (fun ht6 => ?_) (fun ht6 => ?_)
                · refine awp_rseq G15_ok (by simp only [go_sem, Nat.reduceBEq, ↓reduceIte, Bool.false_eq_true, Nat.reduceAdd, Nat.reduceMul, Nat.reduceLeDiff, F_spec_PathOk_at _ _ hs.1, c1_0, v3_0]; try rfl) ?_
                  refine awp_ret ⟨_, (by simp only [go_sem, Nat.reduceBEq, ↓reduceIte, Bool.false_eq_true, Nat.reduceAdd, Nat.reduceMul, Nat.reduceLeDiff, F_spec_PathOk_at _ _ hs.1, c1_0, v3_0]; try rfl), ?_⟩
                  refine ⟨?_, (Ext.refl _).push wf _⟩
                  have hk : nodeOk n = (decide (n.data = ⟨#[]⟩) && decide (n.mode = 0) && decide (n.group = 0) && (decide ((1 : Int) ≤ n.target.size) && decide ((n.target.size : Int) ≤ 60)) && !hasB n.target 10) := by
                    simp only [nodeOk, ht0, ht1, ht2, ht3, if_true, Bool.false_eq_true, if_false]
                  have : hasB n.target 10 = true := (hasB_iff _ _).2 ⟨i, by omega, of_decide_eq_true ht6⟩
                  rw [hk, this]; simp [one]
                · refine awp_skip ?_
                  show awp _ _ _ _ _ _
                  refine awp_reg G15_ok (by simp only [go_sem, Nat.reduceBEq, ↓reduceIte, Bool.false_eq_true, Nat.reduceAdd, Nat.reduceMul, Nat.reduceLeDiff, F_spec_PathOk_at _ _ hs.1, wi, c1_0, v3_0]; try rfl) ?_
                  refine ⟨⟨(by simp only [go_sem, Nat.reduceBEq, ↓reduceIte, Bool.false_eq_true, Nat.reduceAdd, Nat.reduceMul, Nat.reduceLeDiff, F_spec_PathOk_at _ _ hs.1, c1_0, v3_0]; try rfl), i + 1, (by simp only [go_sem, Nat.reduceBEq, ↓reduceIte, Bool.false_eq_true, Nat.reduceAdd, Nat.reduceMul, Nat.reduceLeDiff, F_spec_PathOk_at _ _ hs.1, c1_0, v3_0]; try rfl), ?_⟩, ?_⟩
                  · refine ⟨rfl, by omega, fun j hj => ?_⟩
                    by_cases e : j = i
                    · subst e; exact of_decide_eq_false ht6
                    · exact ha j (by omega)
                  · simp only [go_sem, Nat.reduceBEq, ↓reduceIte, Bool.false_eq_true, Nat.reduceAdd, Nat.reduceMul, Nat.reduceLeDiff, F_spec_PathOk_at _ _ hs.1, c1_0, v3_0]; omega
              · refine awp_sexitL ?_
                show awp _ _ _ _ _ _
                refine awp_rseq G15_ok (by simp only [go_sem, Nat.reduceBEq, ↓reduceIte, Bool.false_eq_true, Nat.reduceAdd, Nat.reduceMul, Nat.reduceLeDiff, F_spec_PathOk_at _ _ hs.1, c1_0, v3_0]; try rfl) ?_
                refine awp_ret ⟨_, (by simp only [go_sem, Nat.reduceBEq, ↓reduceIte, Bool.false_eq_true, Nat.reduceAdd, Nat.reduceMul, Nat.reduceLeDiff, F_spec_PathOk_at _ _ hs.1, c1_0, v3_0]; try rfl), ?_⟩
                refine ⟨?_, (Ext.refl _).push wf _⟩
                have hk : nodeOk n = (decide (n.data = ⟨#[]⟩) && decide (n.mode = 0) && decide (n.group = 0) && (decide ((1 : Int) ≤ n.target.size) && decide ((n.target.size : Int) ≤ 60)) && !hasB n.target 10) := by
                  simp only [nodeOk, ht0, ht1, ht2, ht3, if_true, Bool.false_eq_true, if_false]
                have hge : ¬ (i : Int) < n.target.size := of_decide_eq_false ht5
                have : hasB n.target 10 = false := hasB_not fun j hj => ha j (by omega)
                rw [hk, this]
                revert ht4
                generalize decide (n.data = ⟨#[]⟩) = a
                generalize decide (n.mode = 0) = b
                generalize decide (n.group = 0) = c
                generalize decide ((1 : Int) ≤ n.target.size) = d
                generalize decide ((n.target.size : Int) ≤ 60) = e
                cases a <;> cases b <;> cases c <;> cases d <;> cases e <;> simp [one]
        · refine awp_skip ?_
          show awp _ _ _ _ _ _
          refine awp_rseq G15_ok (by simp only [go_sem, Nat.reduceBEq, ↓reduceIte, Bool.false_eq_true, Nat.reduceAdd, Nat.reduceMul, Nat.reduceLeDiff, F_spec_PathOk_at _ _ hs.1]; try rfl) ?_
          refine awp_ret ⟨_, (by simp only [go_sem, Nat.reduceBEq, ↓reduceIte, Bool.false_eq_true, Nat.reduceAdd, Nat.reduceMul, Nat.reduceLeDiff, F_spec_PathOk_at _ _ hs.1]; try rfl), ?_⟩
          refine ⟨?_, ?_⟩
          · first | rfl | (simp only [one, nodeOk, *, if_true, if_false, Bool.false_eq_true, reduceIte]; try rfl)
          · first | rfl | (repeat (first | exact Ext.refl _ | assumption | apply Ext.push | apply WF.push))
end Go.Proofs.YtaikkfdnbihbiaaDoor
