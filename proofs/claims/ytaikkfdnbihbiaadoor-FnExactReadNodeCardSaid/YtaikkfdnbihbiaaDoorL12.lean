/- The law: the program reads a line as the reference does. -/
import Derived.Test.YtaikkfdnbihbiaaDoorL11
import Derived.Test.YtaikkfdnbihbiaaDoorP08
namespace Go.Proofs.YtaikkfdnbihbiaaDoor
set_option linter.unusedVariables false
set_option linter.unusedSimpArgs false
set_option maxRecDepth 8000
open Go Go.AK Go.RowKit
def G24 : Gam := fun g args H => match g with
  | 12 => F_laws_eqNode args H
  | 10 => F_spec_ReadNode args H
  | _ => G23 g args H
theorem G24_ok : GOk Tryd.prog G24 := by
  intro g args H x H2 h
  unfold G24 at h
  split at h
  · exact ok_laws_eqNode c_laws_eqNode _ _ _ _ h
  · exact ok_spec_ReadNode c_spec_ReadNode _ _ _ _ h
  · exact G23_ok _ _ _ _ _ h
@[go_sem] theorem G24_40 (args : List Value) (H : AHeap) : G24 40 args H = F_strings_Join args H := id rfl
@[go_sem] theorem G24_64 (args : List Value) (H : AHeap) : G24 64 args H = F_strconv_Atoi args H := id rfl
@[go_sem] theorem G24_65 (args : List Value) (H : AHeap) : G24 65 args H = F_strings_IndexByte args H := id rfl
@[go_sem] theorem G24_50 (args : List Value) (H : AHeap) : G24 50 args H = F_strings_Contains args H := id rfl
@[go_sem] theorem G24_63 (args : List Value) (H : AHeap) : G24 63 args H = F_strings_Index args H := id rfl
@[go_sem] theorem G24_62 (args : List Value) (H : AHeap) : G24 62 args H = F_strings_Count args H := id rfl
@[go_sem] theorem G24_70 (args : List Value) (H : AHeap) : G24 70 args H = F_strings_Compare args H := id rfl
@[go_sem] theorem G24_58 (args : List Value) (H : AHeap) : G24 58 args H = F_strconv_Itoa args H := id rfl
@[go_sem] theorem G24_49 (args : List Value) (H : AHeap) : G24 49 args H = F_impl_within args H := id rfl
@[go_sem] theorem G24_41 (args : List Value) (H : AHeap) : G24 41 args H = F_impl_DecText args H := id rfl
@[go_sem] theorem G24_43 (args : List Value) (H : AHeap) : G24 43 args H = F_spec_l01In args H := id rfl
@[go_sem] theorem G24_71 (args : List Value) (H : AHeap) : G24 71 args H = F_impl_NameOk args H := id rfl
@[go_sem] theorem G24_55 (args : List Value) (H : AHeap) : G24 55 args H = F_impl_Names args H := id rfl
@[go_sem] theorem G24_48 (args : List Value) (H : AHeap) : G24 48 args H = F_impl_PathOk args H := id rfl
@[go_sem] theorem G24_46 (args : List Value) (H : AHeap) : G24 46 args H = F_impl_decimal args H := id rfl
@[go_sem] theorem G24_59 (args : List Value) (H : AHeap) : G24 59 args H = F_impl_hexText args H := id rfl
@[go_sem] theorem G24_42 (args : List Value) (H : AHeap) : G24 42 args H = F_impl_hexOf args H := id rfl
@[go_sem] theorem G24_29 (args : List Value) (H : AHeap) : G24 29 args H = F_impl_NodeOk args H := id rfl
@[go_sem] theorem G24_47 (args : List Value) (H : AHeap) : G24 47 args H = F_impl_readHex args H := id rfl
@[go_sem] theorem G24_19 (args : List Value) (H : AHeap) : G24 19 args H = F_impl_showNode args H := id rfl
@[go_sem] theorem G24_26 (args : List Value) (H : AHeap) : G24 26 args H = F_impl_words_next args H := id rfl
@[go_sem] theorem G24_27 (args : List Value) (H : AHeap) : G24 27 args H = F_impl_words_number args H := id rfl
@[go_sem] theorem G24_28 (args : List Value) (H : AHeap) : G24 28 args H = F_impl_words_bytes args H := id rfl
@[go_sem] theorem G24_25 (args : List Value) (H : AHeap) : G24 25 args H = F_strings_Split_inl args H := id rfl
@[go_sem] theorem G24_11 (args : List Value) (H : AHeap) : G24 11 args H = F_impl_ReadNode args H := id rfl
@[go_sem] theorem G24_67 (args : List Value) (H : AHeap) : G24 67 args H = F_spec_NameOk args H := id rfl
@[go_sem] theorem G24_51 (args : List Value) (H : AHeap) : G24 51 args H = F_spec_PathOk args H := id rfl
@[go_sem] theorem G24_52 (args : List Value) (H : AHeap) : G24 52 args H = F_spec_Names_inl args H := id rfl
@[go_sem] theorem G24_66 (args : List Value) (H : AHeap) : G24 66 args H = F_spec_l02Names_inl args H := id rfl
@[go_sem] theorem G24_30 (args : List Value) (H : AHeap) : G24 30 args H = F_spec_NodeOk args H := id rfl
@[go_sem] theorem G24_33 (args : List Value) (H : AHeap) : G24 33 args H = F_spec_DecText args H := id rfl
@[go_sem] theorem G24_23 (args : List Value) (H : AHeap) : G24 23 args H = F_spec_DecNum args H := id rfl
@[go_sem] theorem G24_53 (args : List Value) (H : AHeap) : G24 53 args H = F_spec_HexText args H := id rfl
@[go_sem] theorem G24_34 (args : List Value) (H : AHeap) : G24 34 args H = F_spec_l20Hex args H := id rfl
@[go_sem] theorem G24_60 (args : List Value) (H : AHeap) : G24 60 args H = F_spec_l01Digit args H := id rfl
@[go_sem] theorem G24_15 (args : List Value) (H : AHeap) : G24 15 args H = F_spec_ShowNode args H := id rfl
@[go_sem] theorem G24_44 (args : List Value) (H : AHeap) : G24 44 args H = F_spec_HexBytes_inl args H := id rfl
@[go_sem] theorem G24_24 (args : List Value) (H : AHeap) : G24 24 args H = F_spec_l20Unhex args H := id rfl
@[go_sem] theorem G24_22 (args : List Value) (H : AHeap) : G24 22 args H = F_spec_l01Split_inl args H := id rfl
@[go_sem] theorem G24_12 (args : List Value) (H : AHeap) : G24 12 args H = F_laws_eqNode args H := id rfl
@[go_sem] theorem G24_10 (args : List Value) (H : AHeap) : G24 10 args H = F_spec_ReadNode args H := id rfl
def F_laws_FnExactReadNode : List Value → AHeap → Option (Value × AHeap)
  | [.string s], H => some (.bool true, H)
  | _, _ => none
@[go_sem] theorem F_laws_FnExactReadNode_at (H : AHeap) (s : ByteArray)   : F_laws_FnExactReadNode [.string s] H = some (.bool true, H) := id rfl
abbrev C_laws_FnExactReadNode : Prop := ∀ (H : AHeap) (s : ByteArray)  , ACall Tryd.prog 4 [.string s] H fun v H2 => v = (.bool true : Value) ∧ H2 = H
theorem ok_laws_FnExactReadNode (cc_ : C_laws_FnExactReadNode) : FOk Tryd.prog 4 F_laws_FnExactReadNode := by
  intro args H x H2 h
  unfold F_laws_FnExactReadNode at h
  split at h
  · rename_i s
    cases h
    exact cc_ H s
  · cases h
theorem c_laws_FnExactReadNode : C_laws_FnExactReadNode := by
  intro H s
  refine ACall.wf fun wf => ACall.quiet (by first | rfl | simp [clT, clD, clc, scal]) ?_
  refine ACall.body Tryd.func4 rfl rfl (rs := [.tmp 2]) rfl (n := 29) rfl (by decide) (by simp) ?_
  refine awp_rseq G24_ok (by simp only [go_sem, Nat.reduceBEq, ↓reduceIte, Bool.false_eq_true, Nat.reduceAdd, Nat.reduceMul, Nat.reduceLeDiff]; try rfl) ?_
  refine awp_assoc ?_
  refine awp_rseq G24_ok (by simp only [go_sem, Nat.reduceBEq, ↓reduceIte, Bool.false_eq_true, Nat.reduceAdd, Nat.reduceMul, Nat.reduceLeDiff]; try rfl) ?_
  refine awp_scond (by simp only [go_sem, Nat.reduceBEq, ↓reduceIte, Bool.false_eq_true, Nat.reduceAdd, Nat.reduceMul, Nat.reduceLeDiff]; try rfl) (fun ht0 => ?_) (fun ht0 => ?_)
  · refine awp_assoc ?_
    refine awp_rseq G24_ok (by simp only [go_sem, Nat.reduceBEq, ↓reduceIte, Bool.false_eq_true, Nat.reduceAdd, Nat.reduceMul, Nat.reduceLeDiff]; try rfl) ?_
    refine awp_sret ⟨_, (by simp only [go_sem, Nat.reduceBEq, ↓reduceIte, Bool.false_eq_true, Nat.reduceAdd, Nat.reduceMul, Nat.reduceLeDiff]; try rfl), ?_⟩
    exact ⟨rfl, Ext.refl _⟩
  · have hz : ¬ (1048576 : Int) < s.size := of_decide_eq_false ht0
    have hs : Small s := by unfold Small; omega
    have hs2 : s.size < 4294967281 := by omega
    have he := readI_eq s
    refine awp_sskip ?_
    refine awp_rseq G24_ok (by simp only [go_sem, Nat.reduceBEq, ↓reduceIte, Bool.false_eq_true, Nat.reduceAdd, Nat.reduceMul, Nat.reduceLeDiff, F_spec_ReadNode_at _ _ hs]; try rfl) ?_
    refine awp_rseq G24_ok (by simp only [go_sem, Nat.reduceBEq, ↓reduceIte, Bool.false_eq_true, Nat.reduceAdd, Nat.reduceMul, Nat.reduceLeDiff, F_impl_ReadNode_at _ _ ⟨hs, hs2⟩, he]; try rfl) ?_
    refine awp_assoc ?_
    refine awp_rseq G24_ok (by simp (contextual := true) only [go_sem, Nat.reduceBEq, ↓reduceIte, Bool.false_eq_true, Nat.reduceAdd, Nat.reduceMul, Nat.reduceLeDiff, F_laws_eqNode_at _ _ _, ndEq_refl]; try rfl) ?_
    refine awp_scond (by simp only [go_sem, Nat.reduceBEq, ↓reduceIte, Bool.false_eq_true, Nat.reduceAdd, Nat.reduceMul, Nat.reduceLeDiff]; try rfl) (fun ht1 => ?_) (fun ht1 => ?_)
    · refine awp_assoc ?_
      refine awp_rseq G24_ok (by simp only [go_sem, Nat.reduceBEq, ↓reduceIte, Bool.false_eq_true, Nat.reduceAdd, Nat.reduceMul, Nat.reduceLeDiff]; try rfl) ?_
      refine awp_sret ⟨_, (by simp only [go_sem, Nat.reduceBEq, ↓reduceIte, Bool.false_eq_true, Nat.reduceAdd, Nat.reduceMul, Nat.reduceLeDiff]; try rfl), ?_⟩
      exact absurd ht1 (by cases (readS s).isSome <;> decide)
    · refine awp_sskip ?_
      refine awp_rseq G24_ok (by simp only [go_sem, Nat.reduceBEq, ↓reduceIte, Bool.false_eq_true, Nat.reduceAdd, Nat.reduceMul, Nat.reduceLeDiff]; try rfl) ?_
      refine awp_ret ⟨_, (by simp only [go_sem, Nat.reduceBEq, ↓reduceIte, Bool.false_eq_true, Nat.reduceAdd, Nat.reduceMul, Nat.reduceLeDiff]; try rfl), ?_⟩
      exact ⟨rfl, ((Ext.refl _).push wf _).push (wf.push _) _⟩
end Go.Proofs.YtaikkfdnbihbiaaDoor
