/- l20 of the program: the walks. -/
import Derived.Test.YtaikkfdnbihbiaaDoorL05
import Derived.Test.YtaikkfdnbihbiaaDoorP04
namespace Go.Proofs.YtaikkfdnbihbiaaDoor
set_option linter.unusedVariables false
set_option linter.unusedSimpArgs false
set_option maxRecDepth 8000
open Go Go.AK Go.RowKit
def G8 : Gam := fun g args H => match g with
  | 29 => F_impl_NodeOk args H
  | 47 => F_impl_readHex args H
  | _ => G7 g args H
theorem G8_ok : GOk Tryd.prog G8 := by
  intro g args H x H2 h
  unfold G8 at h
  split at h
  · exact ok_impl_NodeOk c_impl_NodeOk _ _ _ _ h
  · exact ok_impl_readHex c_impl_readHex _ _ _ _ h
  · exact G7_ok _ _ _ _ _ h
@[go_sem] theorem G8_40 (args : List Value) (H : AHeap) : G8 40 args H = F_strings_Join args H := id rfl
@[go_sem] theorem G8_25 (args : List Value) (H : AHeap) : G8 25 args H = F_strings_Split args H := id rfl
@[go_sem] theorem G8_64 (args : List Value) (H : AHeap) : G8 64 args H = F_strconv_Atoi args H := id rfl
@[go_sem] theorem G8_65 (args : List Value) (H : AHeap) : G8 65 args H = F_strings_IndexByte args H := id rfl
@[go_sem] theorem G8_50 (args : List Value) (H : AHeap) : G8 50 args H = F_strings_Contains args H := id rfl
@[go_sem] theorem G8_63 (args : List Value) (H : AHeap) : G8 63 args H = F_strings_Index args H := id rfl
@[go_sem] theorem G8_62 (args : List Value) (H : AHeap) : G8 62 args H = F_strings_Count args H := id rfl
@[go_sem] theorem G8_70 (args : List Value) (H : AHeap) : G8 70 args H = F_strings_Compare args H := id rfl
@[go_sem] theorem G8_58 (args : List Value) (H : AHeap) : G8 58 args H = F_strconv_Itoa args H := id rfl
@[go_sem] theorem G8_49 (args : List Value) (H : AHeap) : G8 49 args H = F_impl_within args H := id rfl
@[go_sem] theorem G8_41 (args : List Value) (H : AHeap) : G8 41 args H = F_impl_DecText args H := id rfl
@[go_sem] theorem G8_43 (args : List Value) (H : AHeap) : G8 43 args H = F_spec_l01In args H := id rfl
@[go_sem] theorem G8_22 (args : List Value) (H : AHeap) : G8 22 args H = F_spec_l01Split args H := id rfl
@[go_sem] theorem G8_71 (args : List Value) (H : AHeap) : G8 71 args H = F_impl_NameOk args H := id rfl
@[go_sem] theorem G8_55 (args : List Value) (H : AHeap) : G8 55 args H = F_impl_Names args H := id rfl
@[go_sem] theorem G8_48 (args : List Value) (H : AHeap) : G8 48 args H = F_impl_PathOk args H := id rfl
@[go_sem] theorem G8_46 (args : List Value) (H : AHeap) : G8 46 args H = F_impl_decimal args H := id rfl
@[go_sem] theorem G8_59 (args : List Value) (H : AHeap) : G8 59 args H = F_impl_hexText args H := id rfl
@[go_sem] theorem G8_42 (args : List Value) (H : AHeap) : G8 42 args H = F_impl_hexOf args H := id rfl
@[go_sem] theorem G8_29 (args : List Value) (H : AHeap) : G8 29 args H = F_impl_NodeOk args H := id rfl
@[go_sem] theorem G8_47 (args : List Value) (H : AHeap) : G8 47 args H = F_impl_readHex args H := id rfl
def F_impl_showNode : List Value → AHeap → Option (Value × AHeap)
  | [.agg a_n], H => (decNd a_n.toList).bind fun (n : Nd) => if NdW n then some (.string (showN n), H) else none
  | _, _ => none
@[go_sem] theorem F_impl_showNode_ob (H : AHeap) (cs_n : List Value) : F_impl_showNode [.agg cs_n.toArray] H = (decNd cs_n).bind fun (n : Nd) => if NdW n then some (.string (showN n), H) else none := by simp only [F_impl_showNode, List.toList_toArray]
theorem F_impl_showNode_at (H : AHeap) (n : Nd)   (hc : NdW n) : F_impl_showNode [.agg (ndC n).toArray] H = some (.string (showN n), H) := by simp only [F_impl_showNode, decNd_enc, List.toList_toArray, if_pos hc, Option.bind_some]
abbrev C_impl_showNode : Prop := ∀ (H : AHeap) (n : Nd)   (hc : NdW n), ACall Tryd.prog 19 [.agg (ndC n).toArray] H fun v H2 => v = (.string (showN n) : Value) ∧ H2 = H
theorem ok_impl_showNode (cc_ : C_impl_showNode) : FOk Tryd.prog 19 F_impl_showNode := by
  intro args H x H2 h
  unfold F_impl_showNode at h
  split at h
  · rename_i a_n
    have hz := bind_some h
    clear h
    obtain ⟨n, hb_n, h⟩ := hz
    have hq_n := decNd_some hb_n
    by_cases hc : NdW n
    · simp only [if_pos hc, Option.some.injEq, Prod.mk.injEq] at h
      have hr_n : a_n = (ndC n).toArray := by rw [← hq_n]
      subst hr_n
      obtain ⟨rfl, rfl⟩ := h
      exact cc_ H n hc
    · simp only [if_neg hc, reduceCtorEq] at h
  · cases h
theorem c_impl_showNode : C_impl_showNode := by
  intro H n hw
  refine ACall.wf fun wf => ACall.quiet (by first | rfl | simp [clT, clD, clc, scal]) ?_
  refine ACall.body Tryd.func19 rfl rfl (rs := [.tmp 2]) rfl (n := 45) rfl (by decide) (by simp) ?_
  refine awp_rseq G8_ok (by simp only [go_sem, Nat.reduceBEq, ↓reduceIte, Bool.false_eq_true, Nat.reduceAdd, Nat.reduceMul, Nat.reduceLeDiff]; try rfl) ?_
  refine awp_assoc ?_
  obtain ⟨s1, s2, s3, s4, s5, s6⟩ := NdW_sizes hw
  obtain ⟨h1, h2, h3, h4, h5, h6, h7⟩ := hw
  have j0 := show_ok [⟨#[100]⟩, n.path, itoaS n.mode, itoaS n.time] (by simp only [List.mem_cons, List.not_mem_nil, or_false, forall_eq_or_imp, forall_eq]; exact ⟨by decide, s1, s2, s3⟩) (by simp)
  have j1 := show_ok [⟨#[102]⟩, n.path, itoaS n.mode, itoaS n.time, itoaS n.group, hexO n.data] (by simp only [List.mem_cons, List.not_mem_nil, or_false, forall_eq_or_imp, forall_eq]; exact ⟨by decide, s1, s2, s3, s4, s5⟩) (by simp)
  have j2 := show_ok [⟨#[108]⟩, n.path, itoaS n.time, hexO n.target] (by simp only [List.mem_cons, List.not_mem_nil, or_false, forall_eq_or_imp, forall_eq]; exact ⟨by decide, s1, s3, s6⟩) (by simp)
  refine awp_rseq G8_ok (by simp only [go_sem, Nat.reduceBEq, ↓reduceIte, Bool.false_eq_true, Nat.reduceAdd, Nat.reduceMul, Nat.reduceLeDiff]; try rfl) ?_
  refine awp_sblock ?_
  refine awp_rseq G8_ok (by simp only [go_sem, Nat.reduceBEq, ↓reduceIte, Bool.false_eq_true, Nat.reduceAdd, Nat.reduceMul, Nat.reduceLeDiff]; try rfl) ?_
  refine awp_cond (by simp only [go_sem, Nat.reduceBEq, ↓reduceIte, Bool.false_eq_true, Nat.reduceAdd, Nat.reduceMul, Nat.reduceLeDiff]; try rfl) (fun ht0 => ?_) (fun ht0 => ?_)
  · refine awp_sdrawnE mixed G8_ok [8] (by decide) (by decide) (by decide) ?_
    refine evalE_quiet 8 (by simp only [go_sem, Nat.reduceBEq, ↓reduceIte, Bool.false_eq_true, Nat.reduceAdd, Nat.reduceMul, Nat.reduceLeDiff, F_impl_DecText_at _ _ h2, F_impl_DecText_at _ _ h3, j0]; try rfl) ?_
    refine evalE_eff (by simp only [go_sem, Nat.reduceBEq, ↓reduceIte, Bool.false_eq_true, Nat.reduceAdd, Nat.reduceMul, Nat.reduceLeDiff, F_impl_DecText_at _ _ h2, F_impl_DecText_at _ _ h3, j0]; try rfl) (by decide) ?_
    refine evalE_quiet 2 (by simp only [go_sem, Nat.reduceBEq, ↓reduceIte, Bool.false_eq_true, Nat.reduceAdd, Nat.reduceMul, Nat.reduceLeDiff, F_impl_DecText_at _ _ h2, F_impl_DecText_at _ _ h3, j0]; try rfl) ?_
    refine evalE_nil ?_
    show awp _ _ _ _ _ _
    refine awp_ret ⟨_, (by simp only [go_sem, Nat.reduceBEq, ↓reduceIte, Bool.false_eq_true, Nat.reduceAdd, Nat.reduceMul, Nat.reduceLeDiff]; try rfl), ?_⟩
    refine ⟨?_, ?_⟩
    · first | rfl | (simp only [one, showN, *, if_true, if_false, Bool.false_eq_true, reduceIte]; try rfl)
    · first | rfl | (repeat (first | exact Ext.refl _ | assumption | apply Ext.push | apply WF.push))
  · refine awp_rseq G8_ok (by simp only [go_sem, Nat.reduceBEq, ↓reduceIte, Bool.false_eq_true, Nat.reduceAdd, Nat.reduceMul, Nat.reduceLeDiff]; try rfl) ?_
    refine awp_cond (by simp only [go_sem, Nat.reduceBEq, ↓reduceIte, Bool.false_eq_true, Nat.reduceAdd, Nat.reduceMul, Nat.reduceLeDiff]; try rfl) (fun ht1 => ?_) (fun ht1 => ?_)
    · refine awp_sdrawnE mixed G8_ok [14] (by decide) (by decide) (by decide) ?_
      refine evalE_quiet 14 (by simp only [go_sem, Nat.reduceBEq, ↓reduceIte, Bool.false_eq_true, Nat.reduceAdd, Nat.reduceMul, Nat.reduceLeDiff, F_impl_DecText_at _ _ h2, F_impl_DecText_at _ _ h3, F_impl_DecText_at _ _ h4, F_impl_hexOf_at _ _ h6, j1]; try rfl) ?_
      refine evalE_eff (by simp only [go_sem, Nat.reduceBEq, ↓reduceIte, Bool.false_eq_true, Nat.reduceAdd, Nat.reduceMul, Nat.reduceLeDiff, F_impl_DecText_at _ _ h2, F_impl_DecText_at _ _ h3, F_impl_DecText_at _ _ h4, F_impl_hexOf_at _ _ h6, j1]; try rfl) (by decide) ?_
      refine evalE_quiet 2 (by simp only [go_sem, Nat.reduceBEq, ↓reduceIte, Bool.false_eq_true, Nat.reduceAdd, Nat.reduceMul, Nat.reduceLeDiff, F_impl_DecText_at _ _ h2, F_impl_DecText_at _ _ h3, F_impl_DecText_at _ _ h4, F_impl_hexOf_at _ _ h6, j1]; try rfl) ?_
      refine evalE_nil ?_
      show awp _ _ _ _ _ _
      refine awp_ret ⟨_, (by simp only [go_sem, Nat.reduceBEq, ↓reduceIte, Bool.false_eq_true, Nat.reduceAdd, Nat.reduceMul, Nat.reduceLeDiff]; try rfl), ?_⟩
      refine ⟨?_, ?_⟩
      · first | rfl | (simp only [one, showN, *, if_true, if_false, Bool.false_eq_true, reduceIte]; try rfl)
      · first | rfl | (repeat (first | exact Ext.refl _ | assumption | apply Ext.push | apply WF.push))
    · refine awp_skip ?_
      show awp _ _ _ _ _ _
      refine awp_sdrawnE mixed G8_ok [8] (by decide) (by decide) (by decide) ?_
      refine evalE_quiet 8 (by simp only [go_sem, Nat.reduceBEq, ↓reduceIte, Bool.false_eq_true, Nat.reduceAdd, Nat.reduceMul, Nat.reduceLeDiff, F_impl_DecText_at _ _ h3, F_impl_hexOf_at _ _ h7, j2]; try rfl) ?_
      refine evalE_eff (by simp only [go_sem, Nat.reduceBEq, ↓reduceIte, Bool.false_eq_true, Nat.reduceAdd, Nat.reduceMul, Nat.reduceLeDiff, F_impl_DecText_at _ _ h3, F_impl_hexOf_at _ _ h7, j2]; try rfl) (by decide) ?_
      refine evalE_quiet 2 (by simp only [go_sem, Nat.reduceBEq, ↓reduceIte, Bool.false_eq_true, Nat.reduceAdd, Nat.reduceMul, Nat.reduceLeDiff, F_impl_DecText_at _ _ h3, F_impl_hexOf_at _ _ h7, j2]; try rfl) ?_
      refine evalE_nil ?_
      show awp _ _ _ _ _ _
      refine awp_ret ⟨_, (by simp only [go_sem, Nat.reduceBEq, ↓reduceIte, Bool.false_eq_true, Nat.reduceAdd, Nat.reduceMul, Nat.reduceLeDiff]; try rfl), ?_⟩
      refine ⟨?_, ?_⟩
      · first | rfl | (simp only [one, showN, *, if_true, if_false, Bool.false_eq_true, reduceIte]; try rfl)
      · first | rfl | (repeat (first | exact Ext.refl _ | assumption | apply Ext.push | apply WF.push))
def F_impl_words_next : List Value → AHeap → Option (Value × AHeap)
  | [.pointer (some ⟨l_w, 0, some 0⟩)], H => ((objE H 2 l_w).bind decWd).bind fun (w : Wd) => some (.string (hd w.ws), H.set l_w (some (.row 2 [wdC (nx w)] true)))
  | _, _ => none
@[go_sem] theorem F_impl_words_next_ob (H : AHeap) (l_w : Nat) : F_impl_words_next [.pointer (some ⟨l_w, 0, some 0⟩)] H = ((objE H 2 l_w).bind decWd).bind fun (w : Wd) => some (.string (hd w.ws), H.set l_w (some (.row 2 [wdC (nx w)] true))) := by simp only [F_impl_words_next, List.toList_toArray]
theorem F_impl_words_next_at (H : AHeap) (w : Wd) {l_w : Nat} (h_w : objE H 2 l_w = some (wdC w)) : F_impl_words_next [.pointer (some ⟨l_w, 0, some 0⟩)] H = some (.string (hd w.ws), H.set l_w (some (.row 2 [wdC (nx w)] true))) := by simp only [F_impl_words_next, h_w, decWd_enc, List.toList_toArray, Option.bind_some]
abbrev C_impl_words_next : Prop := ∀ (H : AHeap) (w : Wd) {l_w : Nat} (h_w : objE H 2 l_w = some (wdC w)), ACall Tryd.prog 26 [.pointer (some ⟨l_w, 0, some 0⟩)] H fun v H2 => v = (.string (hd w.ws) : Value) ∧ H2 = H.set l_w (some (.row 2 [wdC (nx w)] true))
theorem ok_impl_words_next (cc_ : C_impl_words_next) : FOk Tryd.prog 26 F_impl_words_next := by
  intro args H x H2 h
  unfold F_impl_words_next at h
  split at h
  · rename_i l_w
    have hz := bind_some h
    clear h
    obtain ⟨w, hb_w, h⟩ := hz
    obtain ⟨e_w, he_w, hd_w⟩ := bind_some hb_w
    have hq_w := decWd_some hd_w
    subst hq_w
    cases h
    exact cc_ H w he_w
  · cases h
theorem c_impl_words_next : C_impl_words_next := by
  intro H w l h
  have ho := objE_obj h
  obtain ⟨ws, bad⟩ := w
  refine ACall.body Tryd.func26 rfl rfl (rs := [.tmp 2]) rfl (n := 28) rfl (by decide) (by simp) ?_
  refine awp_rseq G8_ok (by simp only [go_sem, Nat.reduceBEq, ↓reduceIte, Bool.false_eq_true, Nat.reduceAdd, Nat.reduceMul, Nat.reduceLeDiff, ho]; try rfl) ?_
  refine awp_assoc ?_
  refine awp_rseq G8_ok (by simp only [go_sem, Nat.reduceBEq, ↓reduceIte, Bool.false_eq_true, Nat.reduceAdd, Nat.reduceMul, Nat.reduceLeDiff, ho]; try rfl) ?_
  refine awp_scond (by simp only [go_sem, Nat.reduceBEq, ↓reduceIte, Bool.false_eq_true, Nat.reduceAdd, Nat.reduceMul, Nat.reduceLeDiff, ho]; try rfl) (fun ht0 => ?_) (fun ht0 => ?_)
  · have hz : ws = [] := List.eq_nil_of_length_eq_zero (by have := of_decide_eq_true ht0; rw [strRow_len] at this; omega)
    subst hz
    refine awp_assoc ?_
    refine awp_rseq G8_ok (by simp only [go_sem, Nat.reduceBEq, ↓reduceIte, Bool.false_eq_true, Nat.reduceAdd, Nat.reduceMul, Nat.reduceLeDiff, ho]; try rfl) ?_
    refine awp_assoc ?_
    refine awp_rseq G8_ok (by simp only [go_sem, Nat.reduceBEq, ↓reduceIte, Bool.false_eq_true, Nat.reduceAdd, Nat.reduceMul, Nat.reduceLeDiff, ho]; try rfl) ?_
    refine awp_sret ⟨_, (by simp only [go_sem, Nat.reduceBEq, ↓reduceIte, Bool.false_eq_true, Nat.reduceAdd, Nat.reduceMul, Nat.reduceLeDiff, ho]; try rfl), ?_⟩
    exact ⟨rfl, by simp [nx, wdC, strRow]⟩
  · obtain ⟨a, ws, rfl⟩ := List.exists_cons_of_ne_nil (l := ws) (fun hz => by subst hz; simp [strRow] at ht0)
    refine awp_sskip ?_
    refine awp_rseq G8_ok (by simp only [go_sem, Nat.reduceBEq, ↓reduceIte, Bool.false_eq_true, Nat.reduceAdd, Nat.reduceMul, Nat.reduceLeDiff, ho]; try rfl) ?_
    refine awp_rseq G8_ok (by simp only [go_sem, Nat.reduceBEq, ↓reduceIte, Bool.false_eq_true, Nat.reduceAdd, Nat.reduceMul, Nat.reduceLeDiff, ho]; try rfl) ?_
    refine awp_rseq G8_ok (by simp only [go_sem, Nat.reduceBEq, ↓reduceIte, Bool.false_eq_true, Nat.reduceAdd, Nat.reduceMul, Nat.reduceLeDiff, ho]; try rfl) ?_
    refine awp_ret ⟨_, (by simp only [go_sem, Nat.reduceBEq, ↓reduceIte, Bool.false_eq_true, Nat.reduceAdd, Nat.reduceMul, Nat.reduceLeDiff, ho]; try rfl), ?_⟩
    exact ⟨rfl, by simp [nx, wdC, strRow]⟩
def G9 : Gam := fun g args H => match g with
  | 19 => F_impl_showNode args H
  | 26 => F_impl_words_next args H
  | _ => G8 g args H
theorem G9_ok : GOk Tryd.prog G9 := by
  intro g args H x H2 h
  unfold G9 at h
  split at h
  · exact ok_impl_showNode c_impl_showNode _ _ _ _ h
  · exact ok_impl_words_next c_impl_words_next _ _ _ _ h
  · exact G8_ok _ _ _ _ _ h
@[go_sem] theorem G9_40 (args : List Value) (H : AHeap) : G9 40 args H = F_strings_Join args H := id rfl
@[go_sem] theorem G9_25 (args : List Value) (H : AHeap) : G9 25 args H = F_strings_Split args H := id rfl
@[go_sem] theorem G9_64 (args : List Value) (H : AHeap) : G9 64 args H = F_strconv_Atoi args H := id rfl
@[go_sem] theorem G9_65 (args : List Value) (H : AHeap) : G9 65 args H = F_strings_IndexByte args H := id rfl
@[go_sem] theorem G9_50 (args : List Value) (H : AHeap) : G9 50 args H = F_strings_Contains args H := id rfl
@[go_sem] theorem G9_63 (args : List Value) (H : AHeap) : G9 63 args H = F_strings_Index args H := id rfl
@[go_sem] theorem G9_62 (args : List Value) (H : AHeap) : G9 62 args H = F_strings_Count args H := id rfl
@[go_sem] theorem G9_70 (args : List Value) (H : AHeap) : G9 70 args H = F_strings_Compare args H := id rfl
@[go_sem] theorem G9_58 (args : List Value) (H : AHeap) : G9 58 args H = F_strconv_Itoa args H := id rfl
@[go_sem] theorem G9_49 (args : List Value) (H : AHeap) : G9 49 args H = F_impl_within args H := id rfl
@[go_sem] theorem G9_41 (args : List Value) (H : AHeap) : G9 41 args H = F_impl_DecText args H := id rfl
@[go_sem] theorem G9_43 (args : List Value) (H : AHeap) : G9 43 args H = F_spec_l01In args H := id rfl
@[go_sem] theorem G9_22 (args : List Value) (H : AHeap) : G9 22 args H = F_spec_l01Split args H := id rfl
@[go_sem] theorem G9_71 (args : List Value) (H : AHeap) : G9 71 args H = F_impl_NameOk args H := id rfl
@[go_sem] theorem G9_55 (args : List Value) (H : AHeap) : G9 55 args H = F_impl_Names args H := id rfl
@[go_sem] theorem G9_48 (args : List Value) (H : AHeap) : G9 48 args H = F_impl_PathOk args H := id rfl
@[go_sem] theorem G9_46 (args : List Value) (H : AHeap) : G9 46 args H = F_impl_decimal args H := id rfl
@[go_sem] theorem G9_59 (args : List Value) (H : AHeap) : G9 59 args H = F_impl_hexText args H := id rfl
@[go_sem] theorem G9_42 (args : List Value) (H : AHeap) : G9 42 args H = F_impl_hexOf args H := id rfl
@[go_sem] theorem G9_29 (args : List Value) (H : AHeap) : G9 29 args H = F_impl_NodeOk args H := id rfl
@[go_sem] theorem G9_47 (args : List Value) (H : AHeap) : G9 47 args H = F_impl_readHex args H := id rfl
@[go_sem] theorem G9_19 (args : List Value) (H : AHeap) : G9 19 args H = F_impl_showNode args H := id rfl
@[go_sem] theorem G9_26 (args : List Value) (H : AHeap) : G9 26 args H = F_impl_words_next args H := id rfl
def F_impl_words_number : List Value → AHeap → Option (Value × AHeap)
  | [.pointer (some ⟨l_w, 0, some 0⟩)], H => ((objE H 2 l_w).bind decWd).bind fun (w : Wd) => if SmallL w.ws then some (.int .i64 (atoiN (hd w.ws)), H.set l_w (some (.row 2 [wdC (num w)] true))) else none
  | _, _ => none
@[go_sem] theorem F_impl_words_number_ob (H : AHeap) (l_w : Nat) : F_impl_words_number [.pointer (some ⟨l_w, 0, some 0⟩)] H = ((objE H 2 l_w).bind decWd).bind fun (w : Wd) => if SmallL w.ws then some (.int .i64 (atoiN (hd w.ws)), H.set l_w (some (.row 2 [wdC (num w)] true))) else none := by simp only [F_impl_words_number, List.toList_toArray]
theorem F_impl_words_number_at (H : AHeap) (w : Wd) {l_w : Nat} (h_w : objE H 2 l_w = some (wdC w)) (hc : SmallL w.ws) : F_impl_words_number [.pointer (some ⟨l_w, 0, some 0⟩)] H = some (.int .i64 (atoiN (hd w.ws)), H.set l_w (some (.row 2 [wdC (num w)] true))) := by simp only [F_impl_words_number, h_w, decWd_enc, List.toList_toArray, if_pos hc, Option.bind_some]
abbrev C_impl_words_number : Prop := ∀ (H : AHeap) (w : Wd) {l_w : Nat} (h_w : objE H 2 l_w = some (wdC w)) (hc : SmallL w.ws), ACall Tryd.prog 27 [.pointer (some ⟨l_w, 0, some 0⟩)] H fun v H2 => v = (.int .i64 (atoiN (hd w.ws)) : Value) ∧ H2 = H.set l_w (some (.row 2 [wdC (num w)] true))
theorem ok_impl_words_number (cc_ : C_impl_words_number) : FOk Tryd.prog 27 F_impl_words_number := by
  intro args H x H2 h
  unfold F_impl_words_number at h
  split at h
  · rename_i l_w
    have hz := bind_some h
    clear h
    obtain ⟨w, hb_w, h⟩ := hz
    obtain ⟨e_w, he_w, hd_w⟩ := bind_some hb_w
    have hq_w := decWd_some hd_w
    subst hq_w
    by_cases hc : SmallL w.ws
    · simp only [if_pos hc, Option.some.injEq, Prod.mk.injEq] at h
      obtain ⟨rfl, rfl⟩ := h
      exact cc_ H w he_w hc
    · simp only [if_neg hc, reduceCtorEq] at h
  · cases h
theorem c_impl_words_number : C_impl_words_number := by
  intro H w l h hw
  have ho := objE_obj h
  obtain ⟨ws, bad⟩ := w
  have h1 : (hd ws).size ≤ 281474976710656 := Nat.le_trans (hd_small hw) (by decide)
  refine ACall.body Tryd.func27 rfl rfl (rs := [.tmp 2]) rfl (n := 23) rfl (by decide) (by simp) ?_
  refine awp_rseq G9_ok (by simp only [go_sem, Nat.reduceBEq, ↓reduceIte, Bool.false_eq_true, Nat.reduceAdd, Nat.reduceMul, Nat.reduceLeDiff, ho, F_impl_decimal_at _ _ h1]; try rfl) ?_
  refine awp_rseq G9_ok (by simp only [go_sem, Nat.reduceBEq, ↓reduceIte, Bool.false_eq_true, Nat.reduceAdd, Nat.reduceMul, Nat.reduceLeDiff, ho, F_impl_decimal_at _ _ h1]; try rfl) ?_
  refine awp_rseq G9_ok (by simp (contextual := true) only [go_sem, Nat.reduceBEq, ↓reduceIte, Bool.false_eq_true, Nat.reduceAdd, Nat.reduceMul, Nat.reduceLeDiff, ho, F_impl_decimal_at _ _ h1]; try rfl) ?_
  refine awp_rseq G9_ok (by simp only [go_sem, Nat.reduceBEq, ↓reduceIte, Bool.false_eq_true, Nat.reduceAdd, Nat.reduceMul, Nat.reduceLeDiff, ho, F_impl_decimal_at _ _ h1]; try rfl) ?_
  refine awp_ret ⟨_, (by simp only [go_sem, Nat.reduceBEq, ↓reduceIte, Bool.false_eq_true, Nat.reduceAdd, Nat.reduceMul, Nat.reduceLeDiff, ho, F_impl_decimal_at _ _ h1]; try rfl), ?_⟩
  exact ⟨rfl, by rfl⟩
def F_impl_words_bytes : List Value → AHeap → Option (Value × AHeap)
  | [.pointer (some ⟨l_w, 0, some 0⟩)], H => ((objE H 2 l_w).bind decWd).bind fun (w : Wd) => if SmallL w.ws then some (.string (bytV w), H.set l_w (some (.row 2 [wdC (byt w)] true))) else none
  | _, _ => none
@[go_sem] theorem F_impl_words_bytes_ob (H : AHeap) (l_w : Nat) : F_impl_words_bytes [.pointer (some ⟨l_w, 0, some 0⟩)] H = ((objE H 2 l_w).bind decWd).bind fun (w : Wd) => if SmallL w.ws then some (.string (bytV w), H.set l_w (some (.row 2 [wdC (byt w)] true))) else none := by simp only [F_impl_words_bytes, List.toList_toArray]
theorem F_impl_words_bytes_at (H : AHeap) (w : Wd) {l_w : Nat} (h_w : objE H 2 l_w = some (wdC w)) (hc : SmallL w.ws) : F_impl_words_bytes [.pointer (some ⟨l_w, 0, some 0⟩)] H = some (.string (bytV w), H.set l_w (some (.row 2 [wdC (byt w)] true))) := by simp only [F_impl_words_bytes, h_w, decWd_enc, List.toList_toArray, if_pos hc, Option.bind_some]
abbrev C_impl_words_bytes : Prop := ∀ (H : AHeap) (w : Wd) {l_w : Nat} (h_w : objE H 2 l_w = some (wdC w)) (hc : SmallL w.ws), ACall Tryd.prog 28 [.pointer (some ⟨l_w, 0, some 0⟩)] H fun v H2 => v = (.string (bytV w) : Value) ∧ H2 = H.set l_w (some (.row 2 [wdC (byt w)] true))
theorem ok_impl_words_bytes (cc_ : C_impl_words_bytes) : FOk Tryd.prog 28 F_impl_words_bytes := by
  intro args H x H2 h
  unfold F_impl_words_bytes at h
  split at h
  · rename_i l_w
    have hz := bind_some h
    clear h
    obtain ⟨w, hb_w, h⟩ := hz
    obtain ⟨e_w, he_w, hd_w⟩ := bind_some hb_w
    have hq_w := decWd_some hd_w
    subst hq_w
    by_cases hc : SmallL w.ws
    · simp only [if_pos hc, Option.some.injEq, Prod.mk.injEq] at h
      obtain ⟨rfl, rfl⟩ := h
      exact cc_ H w he_w hc
    · simp only [if_neg hc, reduceCtorEq] at h
  · cases h
theorem c_impl_words_bytes : C_impl_words_bytes := by
  intro H w l h hw
  have ho := objE_obj h
  obtain ⟨ws, bad⟩ := w
  have h1 : Small (hd ws) := hd_small hw
  refine ACall.body Tryd.func28 rfl rfl (rs := [.tmp 2]) rfl (n := 27) rfl (by decide) (by simp) ?_
  refine awp_rseq G9_ok (by simp only [go_sem, Nat.reduceBEq, ↓reduceIte, Bool.false_eq_true, Nat.reduceAdd, Nat.reduceMul, Nat.reduceLeDiff, ho, F_impl_readHex_at _ _ h1]; try rfl) ?_
  refine awp_rseq G9_ok (by simp only [go_sem, Nat.reduceBEq, ↓reduceIte, Bool.false_eq_true, Nat.reduceAdd, Nat.reduceMul, Nat.reduceLeDiff, ho, F_impl_readHex_at _ _ h1]; try rfl) ?_
  refine awp_assoc ?_
  refine awp_rseq G9_ok (by simp only [go_sem, Nat.reduceBEq, ↓reduceIte, Bool.false_eq_true, Nat.reduceAdd, Nat.reduceMul, Nat.reduceLeDiff, ho, F_impl_readHex_at _ _ h1]; try rfl) ?_
  refine awp_scond (by simp only [go_sem, Nat.reduceBEq, ↓reduceIte, Bool.false_eq_true, Nat.reduceAdd, Nat.reduceMul, Nat.reduceLeDiff, ho, F_impl_readHex_at _ _ h1]; try rfl) (fun ht0 => ?_) (fun ht0 => ?_)
  · refine awp_assoc ?_
    refine awp_rseq G9_ok (by simp only [go_sem, Nat.reduceBEq, ↓reduceIte, Bool.false_eq_true, Nat.reduceAdd, Nat.reduceMul, Nat.reduceLeDiff, ho, F_impl_readHex_at _ _ h1]; try rfl) ?_
    refine awp_sret ⟨_, (by simp only [go_sem, Nat.reduceBEq, ↓reduceIte, Bool.false_eq_true, Nat.reduceAdd, Nat.reduceMul, Nat.reduceLeDiff, ho, F_impl_readHex_at _ _ h1]; try rfl), ?_⟩
    exact ⟨by simp only [bytV, ht0, if_true]; rfl, by simp only [byt, ht0, if_true]⟩
  · refine awp_sskip ?_
    refine awp_rseq G9_ok (by simp only [go_sem, Nat.reduceBEq, ↓reduceIte, Bool.false_eq_true, Nat.reduceAdd, Nat.reduceMul, Nat.reduceLeDiff, ho, F_impl_readHex_at _ _ h1]; try rfl) ?_
    refine awp_rseq G9_ok (by simp (contextual := true) only [go_sem, Nat.reduceBEq, ↓reduceIte, Bool.false_eq_true, Nat.reduceAdd, Nat.reduceMul, Nat.reduceLeDiff, ho, F_impl_readHex_at _ _ h1]; try rfl) ?_
    refine awp_rseq G9_ok (by simp only [go_sem, Nat.reduceBEq, ↓reduceIte, Bool.false_eq_true, Nat.reduceAdd, Nat.reduceMul, Nat.reduceLeDiff, ho, F_impl_readHex_at _ _ h1]; try rfl) ?_
    refine awp_ret ⟨_, (by simp only [go_sem, Nat.reduceBEq, ↓reduceIte, Bool.false_eq_true, Nat.reduceAdd, Nat.reduceMul, Nat.reduceLeDiff, ho, F_impl_readHex_at _ _ h1]; try rfl), ?_⟩
    exact ⟨by simp only [bytV, ht0, Bool.false_eq_true, if_false]; rfl, by simp only [byt, ht0, Bool.false_eq_true, if_false]; rfl⟩
def G10 : Gam := fun g args H => match g with
  | 27 => F_impl_words_number args H
  | 28 => F_impl_words_bytes args H
  | _ => G9 g args H
theorem G10_ok : GOk Tryd.prog G10 := by
  intro g args H x H2 h
  unfold G10 at h
  split at h
  · exact ok_impl_words_number c_impl_words_number _ _ _ _ h
  · exact ok_impl_words_bytes c_impl_words_bytes _ _ _ _ h
  · exact G9_ok _ _ _ _ _ h
@[go_sem] theorem G10_40 (args : List Value) (H : AHeap) : G10 40 args H = F_strings_Join args H := id rfl
@[go_sem] theorem G10_25 (args : List Value) (H : AHeap) : G10 25 args H = F_strings_Split args H := id rfl
@[go_sem] theorem G10_64 (args : List Value) (H : AHeap) : G10 64 args H = F_strconv_Atoi args H := id rfl
@[go_sem] theorem G10_65 (args : List Value) (H : AHeap) : G10 65 args H = F_strings_IndexByte args H := id rfl
@[go_sem] theorem G10_50 (args : List Value) (H : AHeap) : G10 50 args H = F_strings_Contains args H := id rfl
@[go_sem] theorem G10_63 (args : List Value) (H : AHeap) : G10 63 args H = F_strings_Index args H := id rfl
@[go_sem] theorem G10_62 (args : List Value) (H : AHeap) : G10 62 args H = F_strings_Count args H := id rfl
@[go_sem] theorem G10_70 (args : List Value) (H : AHeap) : G10 70 args H = F_strings_Compare args H := id rfl
@[go_sem] theorem G10_58 (args : List Value) (H : AHeap) : G10 58 args H = F_strconv_Itoa args H := id rfl
@[go_sem] theorem G10_49 (args : List Value) (H : AHeap) : G10 49 args H = F_impl_within args H := id rfl
@[go_sem] theorem G10_41 (args : List Value) (H : AHeap) : G10 41 args H = F_impl_DecText args H := id rfl
@[go_sem] theorem G10_43 (args : List Value) (H : AHeap) : G10 43 args H = F_spec_l01In args H := id rfl
@[go_sem] theorem G10_22 (args : List Value) (H : AHeap) : G10 22 args H = F_spec_l01Split args H := id rfl
@[go_sem] theorem G10_71 (args : List Value) (H : AHeap) : G10 71 args H = F_impl_NameOk args H := id rfl
@[go_sem] theorem G10_55 (args : List Value) (H : AHeap) : G10 55 args H = F_impl_Names args H := id rfl
@[go_sem] theorem G10_48 (args : List Value) (H : AHeap) : G10 48 args H = F_impl_PathOk args H := id rfl
@[go_sem] theorem G10_46 (args : List Value) (H : AHeap) : G10 46 args H = F_impl_decimal args H := id rfl
@[go_sem] theorem G10_59 (args : List Value) (H : AHeap) : G10 59 args H = F_impl_hexText args H := id rfl
@[go_sem] theorem G10_42 (args : List Value) (H : AHeap) : G10 42 args H = F_impl_hexOf args H := id rfl
@[go_sem] theorem G10_29 (args : List Value) (H : AHeap) : G10 29 args H = F_impl_NodeOk args H := id rfl
@[go_sem] theorem G10_47 (args : List Value) (H : AHeap) : G10 47 args H = F_impl_readHex args H := id rfl
@[go_sem] theorem G10_19 (args : List Value) (H : AHeap) : G10 19 args H = F_impl_showNode args H := id rfl
@[go_sem] theorem G10_26 (args : List Value) (H : AHeap) : G10 26 args H = F_impl_words_next args H := id rfl
@[go_sem] theorem G10_27 (args : List Value) (H : AHeap) : G10 27 args H = F_impl_words_number args H := id rfl
@[go_sem] theorem G10_28 (args : List Value) (H : AHeap) : G10 28 args H = F_impl_words_bytes args H := id rfl
def F_strings_Split_inl : List Value → AHeap → Option (Value × AHeap)
  | [.string s, .string ⟨⟨[c]⟩⟩], H => if s.size < 4294967281 then some (inl 1 1 (strRow (splitC s c.toNat)), H) else none
  | _, _ => none
@[go_sem] theorem F_strings_Split_inl_at (H : AHeap) (s : ByteArray) (c : UInt8)   (hc : s.size < 4294967281) : F_strings_Split_inl [.string s, .string ⟨#[c]⟩] H = some (inl 1 1 (strRow (splitC s c.toNat)), H) := by simp only [F_strings_Split_inl, if_pos hc, Option.bind_some]
abbrev C_strings_Split_inl : Prop := ∀ (H : AHeap) (s : ByteArray) (c : UInt8)   (hc : s.size < 4294967281), ACall Tryd.prog 25 [.string s, .string ⟨#[c]⟩] H fun v H2 => v = (inl 1 1 (strRow (splitC s c.toNat)) : Value) ∧ H2 = H
theorem ok_strings_Split_inl (cc_ : C_strings_Split_inl) : FOk Tryd.prog 25 F_strings_Split_inl := by
  intro args H x H2 h
  unfold F_strings_Split_inl at h
  split at h
  · rename_i s c
    by_cases hc : s.size < 4294967281
    · simp only [if_pos hc, Option.some.injEq, Prod.mk.injEq] at h
      obtain ⟨rfl, rfl⟩ := h
      exact cc_ H s c hc
    · simp only [if_neg hc, reduceCtorEq] at h
  · cases h
theorem c_strings_Split_inl : C_strings_Split_inl := fun H s c hc => ACall.rowInl (strRow_flatC _) rfl (c_strings_Split H s c hc)
def G11 : Gam := fun g args H => match g with
  | 25 => F_strings_Split_inl args H
  | _ => G10 g args H
theorem G11_ok : GOk Tryd.prog G11 := by
  intro g args H x H2 h
  unfold G11 at h
  split at h
  · exact ok_strings_Split_inl c_strings_Split_inl _ _ _ _ h
  · exact G10_ok _ _ _ _ _ h
@[go_sem] theorem G11_40 (args : List Value) (H : AHeap) : G11 40 args H = F_strings_Join args H := id rfl
@[go_sem] theorem G11_64 (args : List Value) (H : AHeap) : G11 64 args H = F_strconv_Atoi args H := id rfl
@[go_sem] theorem G11_65 (args : List Value) (H : AHeap) : G11 65 args H = F_strings_IndexByte args H := id rfl
@[go_sem] theorem G11_50 (args : List Value) (H : AHeap) : G11 50 args H = F_strings_Contains args H := id rfl
@[go_sem] theorem G11_63 (args : List Value) (H : AHeap) : G11 63 args H = F_strings_Index args H := id rfl
@[go_sem] theorem G11_62 (args : List Value) (H : AHeap) : G11 62 args H = F_strings_Count args H := id rfl
@[go_sem] theorem G11_70 (args : List Value) (H : AHeap) : G11 70 args H = F_strings_Compare args H := id rfl
@[go_sem] theorem G11_58 (args : List Value) (H : AHeap) : G11 58 args H = F_strconv_Itoa args H := id rfl
@[go_sem] theorem G11_49 (args : List Value) (H : AHeap) : G11 49 args H = F_impl_within args H := id rfl
@[go_sem] theorem G11_41 (args : List Value) (H : AHeap) : G11 41 args H = F_impl_DecText args H := id rfl
@[go_sem] theorem G11_43 (args : List Value) (H : AHeap) : G11 43 args H = F_spec_l01In args H := id rfl
@[go_sem] theorem G11_22 (args : List Value) (H : AHeap) : G11 22 args H = F_spec_l01Split args H := id rfl
@[go_sem] theorem G11_71 (args : List Value) (H : AHeap) : G11 71 args H = F_impl_NameOk args H := id rfl
@[go_sem] theorem G11_55 (args : List Value) (H : AHeap) : G11 55 args H = F_impl_Names args H := id rfl
@[go_sem] theorem G11_48 (args : List Value) (H : AHeap) : G11 48 args H = F_impl_PathOk args H := id rfl
@[go_sem] theorem G11_46 (args : List Value) (H : AHeap) : G11 46 args H = F_impl_decimal args H := id rfl
@[go_sem] theorem G11_59 (args : List Value) (H : AHeap) : G11 59 args H = F_impl_hexText args H := id rfl
@[go_sem] theorem G11_42 (args : List Value) (H : AHeap) : G11 42 args H = F_impl_hexOf args H := id rfl
@[go_sem] theorem G11_29 (args : List Value) (H : AHeap) : G11 29 args H = F_impl_NodeOk args H := id rfl
@[go_sem] theorem G11_47 (args : List Value) (H : AHeap) : G11 47 args H = F_impl_readHex args H := id rfl
@[go_sem] theorem G11_19 (args : List Value) (H : AHeap) : G11 19 args H = F_impl_showNode args H := id rfl
@[go_sem] theorem G11_26 (args : List Value) (H : AHeap) : G11 26 args H = F_impl_words_next args H := id rfl
@[go_sem] theorem G11_27 (args : List Value) (H : AHeap) : G11 27 args H = F_impl_words_number args H := id rfl
@[go_sem] theorem G11_28 (args : List Value) (H : AHeap) : G11 28 args H = F_impl_words_bytes args H := id rfl
@[go_sem] theorem G11_25 (args : List Value) (H : AHeap) : G11 25 args H = F_strings_Split_inl args H := id rfl
def F_impl_ReadNode : List Value → AHeap → Option (Value × AHeap)
  | [.string s], H => if Small s ∧ s.size < 4294967281 then some (.tuple [.agg (ndC ((readI s).getD nd0)).toArray, .bool (readI s).isSome].toArray, H) else none
  | _, _ => none
@[go_sem] theorem F_impl_ReadNode_at (H : AHeap) (s : ByteArray)   (hc : Small s ∧ s.size < 4294967281) : F_impl_ReadNode [.string s] H = some (.tuple [.agg (ndC ((readI s).getD nd0)).toArray, .bool (readI s).isSome].toArray, H) := by simp only [F_impl_ReadNode, if_pos hc, Option.bind_some]
abbrev C_impl_ReadNode : Prop := ∀ (H : AHeap) (s : ByteArray)   (hc : Small s ∧ s.size < 4294967281), ACall Tryd.prog 11 [.string s] H fun v H2 => v = (.tuple [.agg (ndC ((readI s).getD nd0)).toArray, .bool (readI s).isSome].toArray : Value) ∧ H2 = H
theorem ok_impl_ReadNode (cc_ : C_impl_ReadNode) : FOk Tryd.prog 11 F_impl_ReadNode := by
  intro args H x H2 h
  unfold F_impl_ReadNode at h
  split at h
  · rename_i s
    by_cases hc : Small s ∧ s.size < 4294967281
    · simp only [if_pos hc, Option.some.injEq, Prod.mk.injEq] at h
      obtain ⟨rfl, rfl⟩ := h
      exact cc_ H s hc
    · simp only [if_neg hc, reduceCtorEq] at h
  · cases h
theorem c_impl_ReadNode : C_impl_ReadNode := by
  intro H s hs
  refine ACall.wf fun wf => ACall.quiet (by simp [clT, clD, clc, scal]) ?_
  have h32 : ((32 : UInt8).toNat : Int) = 32 := rfl
  have s0 : SmallL (splitC s 32) := fun x hx => Nat.le_trans (splitAt_size s 32 0 0 x hx) hs.1
  have s1 := tail_small s0
  have s2 := tail_small s1
  have s3 := tail_small s2
  have s4 := tail_small s3
  have s5 := tail_small s4
  generalize hW : splitC s 32 = W at *
  have a2 := atoiN_64 (hd W.tail.tail)
  have a3 := atoiN_64 (hd W.tail.tail.tail)
  have a4 := atoiN_64 (hd W.tail.tail.tail.tail)
  have p1 : (hd W.tail).size ≤ 1099511627776 := hd_small s1
  have b3 : ∀ b, (bytV ⟨W.tail.tail.tail, b⟩).size ≤ 1099511627776 := fun b => bytV_size s3
  have b5 : ∀ b, (bytV ⟨W.tail.tail.tail.tail.tail, b⟩).size ≤ 1099511627776 := fun b => bytV_size s5
  refine ACall.body Tryd.func11 rfl rfl (rs := [.cell 2 31, .tmp 3]) rfl (n := 67) rfl (by decide) (by simp) ?_
  refine awp_rseq G11_ok (by simp only [go_sem, Nat.reduceBEq, ↓reduceIte, Bool.false_eq_true, Nat.reduceAdd, Nat.reduceMul, Nat.reduceLeDiff, h32, hW, F_strings_Split_inl_at _ _ _ hs.2, s0, s1, s2, s3, s4, s5]; try rfl) ?_
  refine awp_rseq G11_ok (by simp only [go_sem, Nat.reduceBEq, ↓reduceIte, Bool.false_eq_true, Nat.reduceAdd, Nat.reduceMul, Nat.reduceLeDiff, h32, hW, F_strings_Split_inl_at _ _ _ hs.2, s0, s1, s2, s3, s4, s5]; try rfl) ?_
  refine awp_rseq G11_ok (by simp only [go_sem, Nat.reduceBEq, ↓reduceIte, Bool.false_eq_true, Nat.reduceAdd, Nat.reduceMul, Nat.reduceLeDiff, h32, hW, F_strings_Split_inl_at _ _ _ hs.2, s0, s1, s2, s3, s4, s5]; try rfl) ?_
  refine awp_rseq G11_ok (by simp only [go_sem, Nat.reduceBEq, ↓reduceIte, Bool.false_eq_true, Nat.reduceAdd, Nat.reduceMul, Nat.reduceLeDiff, h32, hW, F_strings_Split_inl_at _ _ _ hs.2, s0, s1, s2, s3, s4, s5]; try rfl) ?_
  refine awp_assoc ?_
  refine awp_rseq G11_ok (by simp only [go_sem, Nat.reduceBEq, ↓reduceIte, Bool.false_eq_true, Nat.reduceAdd, Nat.reduceMul, Nat.reduceLeDiff, h32, hW, F_strings_Split_inl_at _ _ _ hs.2, s0, s1, s2, s3, s4, s5]; try rfl) ?_
  refine awp_sblock ?_
  refine awp_rseq G11_ok (by simp only [go_sem, Nat.reduceBEq, ↓reduceIte, Bool.false_eq_true, Nat.reduceAdd, Nat.reduceMul, Nat.reduceLeDiff, h32, hW, F_strings_Split_inl_at _ _ _ hs.2, s0, s1, s2, s3, s4, s5]; try rfl) ?_
  refine awp_cond (by simp only [go_sem, Nat.reduceBEq, ↓reduceIte, Bool.false_eq_true, Nat.reduceAdd, Nat.reduceMul, Nat.reduceLeDiff, h32, hW, F_strings_Split_inl_at _ _ _ hs.2, s0, s1, s2, s3, s4, s5]; try rfl) (fun ht0 => ?_) (fun ht0 => ?_)
  · have hN : NdW ⟨hd W.tail, 0, atoiN (hd W.tail.tail), atoiN (hd W.tail.tail.tail), ⟨#[]⟩, ⟨#[]⟩, 0⟩ := NdW_mk i64_0 a2 a3 i64_0 p1 sz_0 sz_0
    refine awp_reg G11_ok (by simp only [go_sem, Nat.reduceBEq, ↓reduceIte, Bool.false_eq_true, Nat.reduceAdd, Nat.reduceMul, Nat.reduceLeDiff, h32, hW, F_strings_Split_inl_at _ _ _ hs.2, s0, s1, s2, s3, s4, s5]; try rfl) ?_
    show awp _ _ _ _ _ _
    refine awp_assoc ?_
    refine awp_rseq G11_ok (by simp (contextual := true) only [go_sem, Nat.reduceBEq, ↓reduceIte, Bool.false_eq_true, Nat.reduceAdd, Nat.reduceMul, Nat.reduceLeDiff, h32, hW, F_strings_Split_inl_at _ _ _ hs.2, s0, s1, s2, s3, s4, s5, hN]; try rfl) ?_
    refine awp_scond (by simp only [go_sem, Nat.reduceBEq, ↓reduceIte, Bool.false_eq_true, Nat.reduceAdd, Nat.reduceMul, Nat.reduceLeDiff, h32, hW, F_strings_Split_inl_at _ _ _ hs.2, s0, s1, s2, s3, s4, s5]; try rfl) (fun ht1 => ?_) (fun ht1 => ?_)
    · refine awp_assoc ?_
      refine awp_rseq G11_ok (by simp only [go_sem, Nat.reduceBEq, ↓reduceIte, Bool.false_eq_true, Nat.reduceAdd, Nat.reduceMul, Nat.reduceLeDiff, h32, hW, F_strings_Split_inl_at _ _ _ hs.2, s0, s1, s2, s3, s4, s5]; try rfl) ?_
      refine awp_sret ⟨_, (by simp only [go_sem, Nat.reduceBEq, ↓reduceIte, Bool.false_eq_true, Nat.reduceAdd, Nat.reduceMul, Nat.reduceLeDiff, h32, hW, F_strings_Split_inl_at _ _ _ hs.2, s0, s1, s2, s3, s4, s5]; try rfl), ?_⟩
      have hr : readI s = none := by
        simp only [readI, hW, ht0, if_true, Bool.false_eq_true, if_false]
        unfold readChk
        exact if_pos ht1
      refine ⟨by rw [hr]; rfl, ?_⟩
      repeat (first | exact Ext.refl _ | assumption | apply Ext.push | apply WF.push)
    · refine awp_sskip ?_
      refine awp_rseq G11_ok (by simp only [go_sem, Nat.reduceBEq, ↓reduceIte, Bool.false_eq_true, Nat.reduceAdd, Nat.reduceMul, Nat.reduceLeDiff, h32, hW, F_strings_Split_inl_at _ _ _ hs.2, s0, s1, s2, s3, s4, s5]; try rfl) ?_
      refine awp_ret ⟨_, (by simp only [go_sem, Nat.reduceBEq, ↓reduceIte, Bool.false_eq_true, Nat.reduceAdd, Nat.reduceMul, Nat.reduceLeDiff, h32, hW, F_strings_Split_inl_at _ _ _ hs.2, s0, s1, s2, s3, s4, s5]; try rfl), ?_⟩
      have hr : readI s = some ⟨hd W.tail, 0, atoiN (hd W.tail.tail), atoiN (hd W.tail.tail.tail), ⟨#[]⟩, ⟨#[]⟩, 0⟩ := by
        simp only [readI, hW, ht0, if_true, Bool.false_eq_true, if_false]
        unfold readChk
        exact if_neg fun h => Bool.noConfusion (ht1.symm.trans h)
      refine ⟨by rw [hr]; rfl, ?_⟩
      repeat (first | exact Ext.refl _ | assumption | apply Ext.push | apply WF.push)
  · refine awp_rseq G11_ok (by simp only [go_sem, Nat.reduceBEq, ↓reduceIte, Bool.false_eq_true, Nat.reduceAdd, Nat.reduceMul, Nat.reduceLeDiff, h32, hW, F_strings_Split_inl_at _ _ _ hs.2, s0, s1, s2, s3, s4, s5]; try rfl) ?_
    refine awp_cond (by simp only [go_sem, Nat.reduceBEq, ↓reduceIte, Bool.false_eq_true, Nat.reduceAdd, Nat.reduceMul, Nat.reduceLeDiff, h32, hW, F_strings_Split_inl_at _ _ _ hs.2, s0, s1, s2, s3, s4, s5]; try rfl) (fun ht2 => ?_) (fun ht2 => ?_)
    · have hN : ∀ b, NdW ⟨hd W.tail, 1, atoiN (hd W.tail.tail), atoiN (hd W.tail.tail.tail), bytV ⟨W.tail.tail.tail.tail.tail, b⟩, ⟨#[]⟩, atoiN (hd W.tail.tail.tail.tail)⟩ := fun b => NdW_mk i64_1 a2 a3 a4 p1 (b5 b) sz_0
      refine awp_reg G11_ok (by simp only [go_sem, Nat.reduceBEq, ↓reduceIte, Bool.false_eq_true, Nat.reduceAdd, Nat.reduceMul, Nat.reduceLeDiff, h32, hW, F_strings_Split_inl_at _ _ _ hs.2, s0, s1, s2, s3, s4, s5]; try rfl) ?_
      show awp _ _ _ _ _ _
      refine awp_assoc ?_
      refine awp_rseq G11_ok (by simp (contextual := true) only [go_sem, Nat.reduceBEq, ↓reduceIte, Bool.false_eq_true, Nat.reduceAdd, Nat.reduceMul, Nat.reduceLeDiff, h32, hW, F_strings_Split_inl_at _ _ _ hs.2, s0, s1, s2, s3, s4, s5, hN]; try rfl) ?_
      refine awp_scond (by simp only [go_sem, Nat.reduceBEq, ↓reduceIte, Bool.false_eq_true, Nat.reduceAdd, Nat.reduceMul, Nat.reduceLeDiff, h32, hW, F_strings_Split_inl_at _ _ _ hs.2, s0, s1, s2, s3, s4, s5]; try rfl) (fun ht3 => ?_) (fun ht3 => ?_)
      · refine awp_assoc ?_
        refine awp_rseq G11_ok (by simp only [go_sem, Nat.reduceBEq, ↓reduceIte, Bool.false_eq_true, Nat.reduceAdd, Nat.reduceMul, Nat.reduceLeDiff, h32, hW, F_strings_Split_inl_at _ _ _ hs.2, s0, s1, s2, s3, s4, s5]; try rfl) ?_
        refine awp_sret ⟨_, (by simp only [go_sem, Nat.reduceBEq, ↓reduceIte, Bool.false_eq_true, Nat.reduceAdd, Nat.reduceMul, Nat.reduceLeDiff, h32, hW, F_strings_Split_inl_at _ _ _ hs.2, s0, s1, s2, s3, s4, s5]; try rfl), ?_⟩
        have hr : readI s = none := by
          simp only [readI, hW, ht0, ht2, if_true, Bool.false_eq_true, if_false]
          unfold readChk
          exact if_pos ht3
        refine ⟨by rw [hr]; rfl, ?_⟩
        repeat (first | exact Ext.refl _ | assumption | apply Ext.push | apply WF.push)
      · refine awp_sskip ?_
        refine awp_rseq G11_ok (by simp only [go_sem, Nat.reduceBEq, ↓reduceIte, Bool.false_eq_true, Nat.reduceAdd, Nat.reduceMul, Nat.reduceLeDiff, h32, hW, F_strings_Split_inl_at _ _ _ hs.2, s0, s1, s2, s3, s4, s5]; try rfl) ?_
        refine awp_ret ⟨_, (by simp only [go_sem, Nat.reduceBEq, ↓reduceIte, Bool.false_eq_true, Nat.reduceAdd, Nat.reduceMul, Nat.reduceLeDiff, h32, hW, F_strings_Split_inl_at _ _ _ hs.2, s0, s1, s2, s3, s4, s5]; try rfl), ?_⟩
        have hr : readI s = some ⟨hd W.tail, 1, atoiN (hd W.tail.tail), atoiN (hd W.tail.tail.tail), bytV (num (num (num (nx (nx ⟨W, false⟩))))), ⟨#[]⟩, atoiN (hd W.tail.tail.tail.tail)⟩ := by
          simp only [readI, hW, ht0, ht2, if_true, Bool.false_eq_true, if_false]
          unfold readChk
          exact if_neg fun h => Bool.noConfusion (ht3.symm.trans h)
        refine ⟨by rw [hr]; rfl, ?_⟩
        repeat (first | exact Ext.refl _ | assumption | apply Ext.push | apply WF.push)
    · refine awp_rseq G11_ok (by simp only [go_sem, Nat.reduceBEq, ↓reduceIte, Bool.false_eq_true, Nat.reduceAdd, Nat.reduceMul, Nat.reduceLeDiff, h32, hW, F_strings_Split_inl_at _ _ _ hs.2, s0, s1, s2, s3, s4, s5]; try rfl) ?_
      refine awp_cond (by simp only [go_sem, Nat.reduceBEq, ↓reduceIte, Bool.false_eq_true, Nat.reduceAdd, Nat.reduceMul, Nat.reduceLeDiff, h32, hW, F_strings_Split_inl_at _ _ _ hs.2, s0, s1, s2, s3, s4, s5]; try rfl) (fun ht4 => ?_) (fun ht4 => ?_)
      · have hN : ∀ b, NdW ⟨hd W.tail, 2, 0, atoiN (hd W.tail.tail), ⟨#[]⟩, bytV ⟨W.tail.tail.tail, b⟩, 0⟩ := fun b => NdW_mk i64_2 i64_0 a2 i64_0 p1 sz_0 (b3 b)
        refine awp_reg G11_ok (by simp only [go_sem, Nat.reduceBEq, ↓reduceIte, Bool.false_eq_true, Nat.reduceAdd, Nat.reduceMul, Nat.reduceLeDiff, h32, hW, F_strings_Split_inl_at _ _ _ hs.2, s0, s1, s2, s3, s4, s5]; try rfl) ?_
        show awp _ _ _ _ _ _
        refine awp_assoc ?_
        refine awp_rseq G11_ok (by simp (contextual := true) only [go_sem, Nat.reduceBEq, ↓reduceIte, Bool.false_eq_true, Nat.reduceAdd, Nat.reduceMul, Nat.reduceLeDiff, h32, hW, F_strings_Split_inl_at _ _ _ hs.2, s0, s1, s2, s3, s4, s5, hN]; try rfl) ?_
        refine awp_scond (by simp only [go_sem, Nat.reduceBEq, ↓reduceIte, Bool.false_eq_true, Nat.reduceAdd, Nat.reduceMul, Nat.reduceLeDiff, h32, hW, F_strings_Split_inl_at _ _ _ hs.2, s0, s1, s2, s3, s4, s5]; try rfl) (fun ht5 => ?_) (fun ht5 => ?_)
        · refine awp_assoc ?_
          refine awp_rseq G11_ok (by simp only [go_sem, Nat.reduceBEq, ↓reduceIte, Bool.false_eq_true, Nat.reduceAdd, Nat.reduceMul, Nat.reduceLeDiff, h32, hW, F_strings_Split_inl_at _ _ _ hs.2, s0, s1, s2, s3, s4, s5]; try rfl) ?_
          refine awp_sret ⟨_, (by simp only [go_sem, Nat.reduceBEq, ↓reduceIte, Bool.false_eq_true, Nat.reduceAdd, Nat.reduceMul, Nat.reduceLeDiff, h32, hW, F_strings_Split_inl_at _ _ _ hs.2, s0, s1, s2, s3, s4, s5]; try rfl), ?_⟩
          have hr : readI s = none := by
            simp only [readI, hW, ht0, ht2, ht4, if_true, Bool.false_eq_true, if_false]
            unfold readChk
            exact if_pos ht5
          refine ⟨by rw [hr]; rfl, ?_⟩
          repeat (first | exact Ext.refl _ | assumption | apply Ext.push | apply WF.push)
        · refine awp_sskip ?_
          refine awp_rseq G11_ok (by simp only [go_sem, Nat.reduceBEq, ↓reduceIte, Bool.false_eq_true, Nat.reduceAdd, Nat.reduceMul, Nat.reduceLeDiff, h32, hW, F_strings_Split_inl_at _ _ _ hs.2, s0, s1, s2, s3, s4, s5]; try rfl) ?_
          refine awp_ret ⟨_, (by simp only [go_sem, Nat.reduceBEq, ↓reduceIte, Bool.false_eq_true, Nat.reduceAdd, Nat.reduceMul, Nat.reduceLeDiff, h32, hW, F_strings_Split_inl_at _ _ _ hs.2, s0, s1, s2, s3, s4, s5]; try rfl), ?_⟩
          have hr : readI s = some ⟨hd W.tail, 2, 0, atoiN (hd W.tail.tail), ⟨#[]⟩, bytV (num (nx (nx ⟨W, false⟩))), 0⟩ := by
            simp only [readI, hW, ht0, ht2, ht4, if_true, Bool.false_eq_true, if_false]
            unfold readChk
            exact if_neg fun h => Bool.noConfusion (ht5.symm.trans h)
          refine ⟨by rw [hr]; rfl, ?_⟩
          repeat (first | exact Ext.refl _ | assumption | apply Ext.push | apply WF.push)
      · refine awp_rseq G11_ok (by simp only [go_sem, Nat.reduceBEq, ↓reduceIte, Bool.false_eq_true, Nat.reduceAdd, Nat.reduceMul, Nat.reduceLeDiff, h32, hW, F_strings_Split_inl_at _ _ _ hs.2, s0, s1, s2, s3, s4, s5]; try rfl) ?_
        refine awp_ret ⟨_, (by simp only [go_sem, Nat.reduceBEq, ↓reduceIte, Bool.false_eq_true, Nat.reduceAdd, Nat.reduceMul, Nat.reduceLeDiff, h32, hW, F_strings_Split_inl_at _ _ _ hs.2, s0, s1, s2, s3, s4, s5]; try rfl), ?_⟩
        have hr : readI s = none := by
          simp only [readI, hW, ht0, ht2, ht4, if_true, Bool.false_eq_true, if_false]
          skip
        refine ⟨by rw [hr]; rfl, ?_⟩
        repeat (first | exact Ext.refl _ | assumption | apply Ext.push | apply WF.push)
end Go.Proofs.YtaikkfdnbihbiaaDoor
