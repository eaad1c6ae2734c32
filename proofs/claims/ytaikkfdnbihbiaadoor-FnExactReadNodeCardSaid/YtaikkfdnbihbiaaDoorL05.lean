/- l10, l20 of the program: the walks. -/
import Derived.Test.YtaikkfdnbihbiaaDoorL04
import Derived.Test.YtaikkfdnbihbiaaDoorP03
namespace Go.Proofs.YtaikkfdnbihbiaaDoor
set_option linter.unusedVariables false
set_option linter.unusedSimpArgs false
set_option maxRecDepth 8000
open Go Go.AK Go.RowKit
def G7 : Gam := fun g args H => match g with
  | 42 => F_impl_hexOf args H
  | _ => G6 g args H
theorem G7_ok : GOk Tryd.prog G7 := by
  intro g args H x H2 h
  unfold G7 at h
  split at h
  · exact ok_impl_hexOf c_impl_hexOf _ _ _ _ h
  · exact G6_ok _ _ _ _ _ h
@[go_sem] theorem G7_40 (args : List Value) (H : AHeap) : G7 40 args H = F_strings_Join args H := id rfl
@[go_sem] theorem G7_25 (args : List Value) (H : AHeap) : G7 25 args H = F_strings_Split args H := id rfl
@[go_sem] theorem G7_64 (args : List Value) (H : AHeap) : G7 64 args H = F_strconv_Atoi args H := id rfl
@[go_sem] theorem G7_65 (args : List Value) (H : AHeap) : G7 65 args H = F_strings_IndexByte args H := id rfl
@[go_sem] theorem G7_50 (args : List Value) (H : AHeap) : G7 50 args H = F_strings_Contains args H := id rfl
@[go_sem] theorem G7_63 (args : List Value) (H : AHeap) : G7 63 args H = F_strings_Index args H := id rfl
@[go_sem] theorem G7_62 (args : List Value) (H : AHeap) : G7 62 args H = F_strings_Count args H := id rfl
@[go_sem] theorem G7_70 (args : List Value) (H : AHeap) : G7 70 args H = F_strings_Compare args H := id rfl
@[go_sem] theorem G7_58 (args : List Value) (H : AHeap) : G7 58 args H = F_strconv_Itoa args H := id rfl
@[go_sem] theorem G7_49 (args : List Value) (H : AHeap) : G7 49 args H = F_impl_within args H := id rfl
@[go_sem] theorem G7_41 (args : List Value) (H : AHeap) : G7 41 args H = F_impl_DecText args H := id rfl
@[go_sem] theorem G7_43 (args : List Value) (H : AHeap) : G7 43 args H = F_spec_l01In args H := id rfl
@[go_sem] theorem G7_22 (args : List Value) (H : AHeap) : G7 22 args H = F_spec_l01Split args H := id rfl
@[go_sem] theorem G7_71 (args : List Value) (H : AHeap) : G7 71 args H = F_impl_NameOk args H := id rfl
@[go_sem] theorem G7_55 (args : List Value) (H : AHeap) : G7 55 args H = F_impl_Names args H := id rfl
@[go_sem] theorem G7_48 (args : List Value) (H : AHeap) : G7 48 args H = F_impl_PathOk args H := id rfl
@[go_sem] theorem G7_46 (args : List Value) (H : AHeap) : G7 46 args H = F_impl_decimal args H := id rfl
@[go_sem] theorem G7_59 (args : List Value) (H : AHeap) : G7 59 args H = F_impl_hexText args H := id rfl
@[go_sem] theorem G7_42 (args : List Value) (H : AHeap) : G7 42 args H = F_impl_hexOf args H := id rfl
def F_impl_NodeOk : List Value → AHeap → Option (Value × AHeap)
  | [.agg a_n], H => (decNd a_n.toList).bind fun (n : Nd) => some (.bool (nodeOk n), H)
  | _, _ => none
@[go_sem] theorem F_impl_NodeOk_ob (H : AHeap) (cs_n : List Value) : F_impl_NodeOk [.agg cs_n.toArray] H = (decNd cs_n).bind fun (n : Nd) => some (.bool (nodeOk n), H) := by simp only [F_impl_NodeOk, List.toList_toArray]
theorem F_impl_NodeOk_at (H : AHeap) (n : Nd)   : F_impl_NodeOk [.agg (ndC n).toArray] H = some (.bool (nodeOk n), H) := by simp only [F_impl_NodeOk, decNd_enc, List.toList_toArray, Option.bind_some]
abbrev C_impl_NodeOk : Prop := ∀ (H : AHeap) (n : Nd)  , ACall Tryd.prog 29 [.agg (ndC n).toArray] H fun v H2 => v = (.bool (nodeOk n) : Value) ∧ H2 = H
theorem ok_impl_NodeOk (cc_ : C_impl_NodeOk) : FOk Tryd.prog 29 F_impl_NodeOk := by
  intro args H x H2 h
  unfold F_impl_NodeOk at h
  split at h
  · rename_i a_n
    have hz := bind_some h
    clear h
    obtain ⟨n, hb_n, h⟩ := hz
    have hq_n := decNd_some hb_n
    have hr_n : a_n = (ndC n).toArray := by rw [← hq_n]
    subst hr_n
    cases h
    exact cc_ H n
  · cases h
theorem c_impl_NodeOk : C_impl_NodeOk := by
  intro H n
  refine ACall.wf fun wf => ACall.quiet rfl ?_
  refine ACall.body Tryd.func29 rfl rfl (rs := [.tmp 2]) rfl (n := 79) rfl (by decide) (by simp) ?_
  refine awp_rseq G7_ok (by simp only [go_sem, Nat.reduceBEq, ↓reduceIte, Bool.false_eq_true, Nat.reduceAdd, Nat.reduceMul, Nat.reduceLeDiff]; try rfl) ?_
  refine awp_assoc ?_
  refine awp_rseq G7_ok (by simp (contextual := true) only [go_sem, Nat.reduceBEq, ↓reduceIte, Bool.false_eq_true, Nat.reduceAdd, Nat.reduceMul, Nat.reduceLeDiff]; try rfl) ?_
  refine awp_scond (by simp only [go_sem, Nat.reduceBEq, ↓reduceIte, Bool.false_eq_true, Nat.reduceAdd, Nat.reduceMul, Nat.reduceLeDiff]; try rfl) (fun ht0 => ?_) (fun ht0 => ?_)
  · refine awp_assoc ?_
    refine awp_rseq G7_ok (by simp only [go_sem, Nat.reduceBEq, ↓reduceIte, Bool.false_eq_true, Nat.reduceAdd, Nat.reduceMul, Nat.reduceLeDiff]; try rfl) ?_
    refine awp_sret ⟨_, (by simp only [go_sem, Nat.reduceBEq, ↓reduceIte, Bool.false_eq_true, Nat.reduceAdd, Nat.reduceMul, Nat.reduceLeDiff]; try rfl), ?_⟩
    refine ⟨?_, ?_⟩
    · first | rfl | (simp only [one, nodeOk, *, if_true, if_false, Bool.false_eq_true, reduceIte]; try rfl)
    · first | rfl | (repeat (first | exact Ext.refl _ | assumption | apply Ext.push | apply WF.push))
  · refine awp_sskip ?_
    refine awp_assoc ?_
    refine awp_rseq G7_ok (by simp only [go_sem, Nat.reduceBEq, ↓reduceIte, Bool.false_eq_true, Nat.reduceAdd, Nat.reduceMul, Nat.reduceLeDiff]; try rfl) ?_
    refine awp_sblock ?_
    refine awp_rseq G7_ok (by simp only [go_sem, Nat.reduceBEq, ↓reduceIte, Bool.false_eq_true, Nat.reduceAdd, Nat.reduceMul, Nat.reduceLeDiff]; try rfl) ?_
    refine awp_cond (by simp only [go_sem, Nat.reduceBEq, ↓reduceIte, Bool.false_eq_true, Nat.reduceAdd, Nat.reduceMul, Nat.reduceLeDiff]; try rfl) (fun ht1 => ?_) (fun ht1 => ?_)
    · refine awp_rseq G7_ok (by simp (contextual := true) only [go_sem, Nat.reduceBEq, ↓reduceIte, Bool.false_eq_true, Nat.reduceAdd, Nat.reduceMul, Nat.reduceLeDiff]; try rfl) ?_
      refine awp_ret ⟨_, (by simp only [go_sem, Nat.reduceBEq, ↓reduceIte, Bool.false_eq_true, Nat.reduceAdd, Nat.reduceMul, Nat.reduceLeDiff]; try rfl), ?_⟩
      refine ⟨?_, ?_⟩
      · first | rfl | (simp only [one, nodeOk, *, if_true, if_false, Bool.false_eq_true, reduceIte]; try rfl)
      · first | rfl | (repeat (first | exact Ext.refl _ | assumption | apply Ext.push | apply WF.push))
    · refine awp_rseq G7_ok (by simp only [go_sem, Nat.reduceBEq, ↓reduceIte, Bool.false_eq_true, Nat.reduceAdd, Nat.reduceMul, Nat.reduceLeDiff]; try rfl) ?_
      refine awp_cond (by simp only [go_sem, Nat.reduceBEq, ↓reduceIte, Bool.false_eq_true, Nat.reduceAdd, Nat.reduceMul, Nat.reduceLeDiff]; try rfl) (fun ht2 => ?_) (fun ht2 => ?_)
      · refine awp_rseq G7_ok (by simp (contextual := true) only [go_sem, Nat.reduceBEq, ↓reduceIte, Bool.false_eq_true, Nat.reduceAdd, Nat.reduceMul, Nat.reduceLeDiff]; try rfl) ?_
        refine awp_ret ⟨_, (by simp only [go_sem, Nat.reduceBEq, ↓reduceIte, Bool.false_eq_true, Nat.reduceAdd, Nat.reduceMul, Nat.reduceLeDiff]; try rfl), ?_⟩
        refine ⟨?_, ?_⟩
        · first | rfl | (simp only [one, nodeOk, *, if_true, if_false, Bool.false_eq_true, reduceIte]; try rfl)
        · first | rfl | (repeat (first | exact Ext.refl _ | assumption | apply Ext.push | apply WF.push))
      · refine awp_rseq G7_ok (by simp only [go_sem, Nat.reduceBEq, ↓reduceIte, Bool.false_eq_true, Nat.reduceAdd, Nat.reduceMul, Nat.reduceLeDiff]; try rfl) ?_
        refine awp_cond (by simp only [go_sem, Nat.reduceBEq, ↓reduceIte, Bool.false_eq_true, Nat.reduceAdd, Nat.reduceMul, Nat.reduceLeDiff]; try rfl) (fun ht3 => ?_) (fun ht3 => ?_)
        · refine awp_rseq G7_ok (by simp (contextual := true) only [go_sem, Nat.reduceBEq, ↓reduceIte, Bool.false_eq_true, Nat.reduceAdd, Nat.reduceMul, Nat.reduceLeDiff]; try rfl) ?_
          refine awp_ret ⟨_, (by simp only [go_sem, Nat.reduceBEq, ↓reduceIte, Bool.false_eq_true, Nat.reduceAdd, Nat.reduceMul, Nat.reduceLeDiff]; try rfl), ?_⟩
          refine ⟨?_, ?_⟩
          · first | rfl | (simp only [one, nodeOk, *, if_true, if_false, Bool.false_eq_true, reduceIte]; try rfl)
          · first | rfl | (repeat (first | exact Ext.refl _ | assumption | apply Ext.push | apply WF.push))
        · refine awp_skip ?_
          show awp _ _ _ _ _ _
          refine awp_rseq G7_ok (by simp only [go_sem, Nat.reduceBEq, ↓reduceIte, Bool.false_eq_true, Nat.reduceAdd, Nat.reduceMul, Nat.reduceLeDiff]; try rfl) ?_
          refine awp_ret ⟨_, (by simp only [go_sem, Nat.reduceBEq, ↓reduceIte, Bool.false_eq_true, Nat.reduceAdd, Nat.reduceMul, Nat.reduceLeDiff]; try rfl), ?_⟩
          refine ⟨?_, ?_⟩
          · first | rfl | (simp only [one, nodeOk, *, if_true, if_false, Bool.false_eq_true, reduceIte]; try rfl)
          · first | rfl | (repeat (first | exact Ext.refl _ | assumption | apply Ext.push | apply WF.push))
def F_impl_readHex : List Value → AHeap → Option (Value × AHeap)
  | [.string s], H => if Small s then some (.tuple [.string ((unhex s).getD ⟨#[]⟩), .bool (unhex s).isSome].toArray, H) else none
  | _, _ => none
@[go_sem] theorem F_impl_readHex_at (H : AHeap) (s : ByteArray)   (hc : Small s) : F_impl_readHex [.string s] H = some (.tuple [.string ((unhex s).getD ⟨#[]⟩), .bool (unhex s).isSome].toArray, H) := by simp only [F_impl_readHex, if_pos hc, Option.bind_some]
abbrev C_impl_readHex : Prop := ∀ (H : AHeap) (s : ByteArray)   (hc : Small s), ACall Tryd.prog 47 [.string s] H fun v H2 => v = (.tuple [.string ((unhex s).getD ⟨#[]⟩), .bool (unhex s).isSome].toArray : Value) ∧ H2 = H
theorem ok_impl_readHex (cc_ : C_impl_readHex) : FOk Tryd.prog 47 F_impl_readHex := by
  intro args H x H2 h
  unfold F_impl_readHex at h
  split at h
  · rename_i s
    by_cases hc : Small s
    · simp only [if_pos hc, Option.some.injEq, Prod.mk.injEq] at h
      obtain ⟨rfl, rfl⟩ := h
      exact cc_ H s hc
    · simp only [if_neg hc, reduceCtorEq] at h
  · cases h
theorem c_impl_readHex : C_impl_readHex := by
  intro H s hs
  refine ACall.wf fun wf => ACall.quiet (by first | rfl | simp [clT, clD, clc, scal]) ?_
  refine ACall.body Tryd.func47 rfl rfl (rs := [.tmp 2, .tmp 3]) rfl (n := 52) rfl (by decide) (by simp) ?_
  refine awp_rseq G7_ok (by simp only [go_sem, Nat.reduceBEq, ↓reduceIte, Bool.false_eq_true, Nat.reduceAdd, Nat.reduceMul, Nat.reduceLeDiff]; try rfl) ?_
  refine awp_assoc ?_
  refine awp_rseq G7_ok (by simp (contextual := true) only [go_sem, Nat.reduceBEq, ↓reduceIte, Bool.false_eq_true, Nat.reduceAdd, Nat.reduceMul, Nat.reduceLeDiff, bin_rem _ _ _ _ _ _ _ (show (2 : Int) ≠ 0 by decide)]; try rfl) ?_
  refine awp_scond (by simp only [go_sem, Nat.reduceBEq, ↓reduceIte, Bool.false_eq_true, Nat.reduceAdd, Nat.reduceMul, Nat.reduceLeDiff]; try rfl) (fun ht0 => ?_) (fun ht0 => ?_)
  · simp only [Bool.or_eq_true, Bool.or_eq_false_iff, decide_eq_true_eq, decide_eq_false_iff_not, bnot_t, bnot_f] at ht0
    refine awp_assoc ?_
    refine awp_rseq G7_ok (by simp only [go_sem, Nat.reduceBEq, ↓reduceIte, Bool.false_eq_true, Nat.reduceAdd, Nat.reduceMul, Nat.reduceLeDiff]; try rfl) ?_
    refine awp_sret ⟨_, (by simp only [go_sem, Nat.reduceBEq, ↓reduceIte, Bool.false_eq_true, Nat.reduceAdd, Nat.reduceMul, Nat.reduceLeDiff]; try rfl), ?_⟩
    refine ⟨?_, Ext.refl _⟩
    have : unhex s = none := by unfold unhex; rw [if_neg (by intro h; rcases ht0 with h1 | h1 <;> omega)]
    rw [this]; rfl
  · simp only [Bool.or_eq_true, Bool.or_eq_false_iff, decide_eq_true_eq, decide_eq_false_iff_not, bnot_t, bnot_f] at ht0
    refine awp_sskip ?_
    have q0 : 0 ≤ (s.size : Int).tdiv 2 := Int.tdiv_nonneg (by omega) (by decide)
    have q1 : (s.size : Int).tdiv 2 ≤ s.size := by rw [Int.tdiv_eq_ediv_of_nonneg (by omega)]; omega
    have wq : IntKind.i64.wrap ((s.size : Int).tdiv 2) = (s.size : Int).tdiv 2 := int_wrap _ (by omega) (by omega)
    have hev : s.size % 2 = 0 := by have := ht0.1; rw [Int.tmod_eq_emod_of_nonneg (by omega)] at this; omega
    have huh : unhex s = (unhexFrom s 0).map ofInts := by unfold unhex; rw [if_pos ⟨ht0.1, by omega⟩]
    refine awp_rseq G7_ok (by simp only [go_sem, Nat.reduceBEq, ↓reduceIte, Bool.false_eq_true, Nat.reduceAdd, Nat.reduceMul, Nat.reduceLeDiff, bin_quo _ _ _ _ _ _ _ (show (2 : Int) ≠ 0 by decide), wq, SlT.make0 sl42 (c := (s.size : Int).tdiv 2) (by omega) (by omega) (by omega)]; try rfl) ?_
    refine awp_assoc ?_
    refine awp_rseq G7_ok (by simp only [go_sem, Nat.reduceBEq, ↓reduceIte, Bool.false_eq_true, Nat.reduceAdd, Nat.reduceMul, Nat.reduceLeDiff]; try rfl) ?_
    refine awp_sblock ?_
    refine awp_loop (fun e H' => e 0 = .string s ∧ ∃ i : Nat, ∃ out : List Int, e 5 = .int .i64 i ∧ (Buf H 1 false (bRow out) (e 4) H') ∧ (i ≤ s.size) ∧ (i % 2 = 0) ∧ (out.length ≤ i) ∧ (unhexFrom s 0 = (unhexFrom s i).map (out ++ ·))) (fun e H' => gap s.size (e 5)) ?_ ?_
    · refine ⟨(by simp only [go_sem, Nat.reduceBEq, ↓reduceIte, Bool.false_eq_true, Nat.reduceAdd, Nat.reduceMul, Nat.reduceLeDiff]; try rfl), 0, [], (by simp only [go_sem, Nat.reduceBEq, ↓reduceIte, Bool.false_eq_true, Nat.reduceAdd, Nat.reduceMul, Nat.reduceLeDiff]; try rfl), ?_⟩
      refine ⟨?_, Nat.zero_le _, rfl, Nat.le_refl _, ?_⟩
      · simp only [go_sem, Nat.reduceBEq, ↓reduceIte, Bool.false_eq_true, Nat.reduceAdd, Nat.reduceMul, Nat.reduceLeDiff]; exact Buf.fresh wf wf (Ext.refl _) 1 [] rfl 1
      · simp only [List.nil_append, Option.map_id']
    · rintro e H' ⟨c0_0, i, out, v5_0, hb, hi, hie, ho, hq⟩
      refine awp_assoc ?_
      refine awp_rseq G7_ok (by simp only [go_sem, Nat.reduceBEq, ↓reduceIte, Bool.false_eq_true, Nat.reduceAdd, Nat.reduceMul, Nat.reduceLeDiff, c0_0, v5_0]; try rfl) ?_
      refine awp_scond (by simp only [go_sem, Nat.reduceBEq, ↓reduceIte, Bool.false_eq_true, Nat.reduceAdd, Nat.reduceMul, Nat.reduceLeDiff, c0_0, v5_0]; try rfl) (fun ht1 => ?_) (fun ht1 => ?_)
      · refine awp_sskip ?_
        refine awp_sblock ?_
        have hlt : (i : Int) < s.size := of_decide_eq_true ht1
        have hlt2 : ((i + 1 : Nat) : Int) < s.size := by omega
        have wi : IntKind.i64.wrap ((i : Int) + 1) = ((i + 1 : Nat) : Int) := int_wrap _ (by omega) (by omega)
        have wi2 : IntKind.i64.wrap ((i : Int) + 2) = ((i + 2 : Nat) : Int) := int_wrap _ (by omega) (by omega)
        refine awp_sdrawnQ mixed G7_ok (by simp only [go_sem, Nat.reduceBEq, ↓reduceIte, Bool.false_eq_true, Nat.reduceAdd, Nat.reduceMul, Nat.reduceLeDiff, wi, idx_str un9 _ _ _ (Int.natCast_nonneg i) hlt, idx_str un9 _ _ _ (Int.natCast_nonneg (i+1)) hlt2, c0_0, v5_0]; try rfl) (by decide) (by decide) ?_
        refine awp_assoc ?_
        refine awp_rseq G7_ok (by simp (contextual := true) only [go_sem, Nat.reduceBEq, ↓reduceIte, Bool.false_eq_true, Nat.reduceAdd, Nat.reduceMul, Nat.reduceLeDiff, c0_0, v5_0]; try rfl) ?_
        refine awp_scond (by simp only [go_sem, Nat.reduceBEq, ↓reduceIte, Bool.false_eq_true, Nat.reduceAdd, Nat.reduceMul, Nat.reduceLeDiff, c0_0, v5_0]; try rfl) (fun ht2 => ?_) (fun ht2 => ?_)
        · refine awp_assoc ?_
          refine awp_rseq G7_ok (by simp only [go_sem, Nat.reduceBEq, ↓reduceIte, Bool.false_eq_true, Nat.reduceAdd, Nat.reduceMul, Nat.reduceLeDiff, c0_0, v5_0]; try rfl) ?_
          refine awp_sret ⟨_, (by simp only [go_sem, Nat.reduceBEq, ↓reduceIte, Bool.false_eq_true, Nat.reduceAdd, Nat.reduceMul, Nat.reduceLeDiff, c0_0, v5_0]; try rfl), ?_⟩
          refine ⟨?_, hb.ext⟩
          have : unhex s = none := by
            rw [huh, hq]; unfold unhexFrom; rw [if_pos (by omega), if_pos ht2]; rfl
          rw [this]; rfl
        · refine awp_sskip ?_
          have hn1 : 0 ≤ hexVal (bt s i) := by have := ht2; simp only [Bool.or_eq_false_iff, decide_eq_false_iff_not] at this; unfold hexVal; omega
          have hn2 : 0 ≤ hexVal (bt s (i + 1)) := by have := ht2; simp only [Bool.or_eq_false_iff, decide_eq_false_iff_not] at this; unfold hexVal; omega
          have hm1 := hexVal_lt (bt s i)
          have hm2 := hexVal_lt (bt s (i + 1))
          have wa : IntKind.i64.wrap (16 * hexVal (bt s i)) = 16 * hexVal (bt s i) := int_wrap _ (by omega) (by omega)
          have wb : IntKind.i64.wrap (16 * hexVal (bt s i) + hexVal (bt s (i + 1))) = 16 * hexVal (bt s i) + hexVal (bt s (i + 1)) := int_wrap _ (by omega) (by omega)
          have wc : IntKind.u8.wrap (16 * hexVal (bt s i) + hexVal (bt s (i + 1))) = 16 * hexVal (bt s i) + hexVal (bt s (i + 1)) := u8_small (by omega) (by omega)
          refine awp_regs ?_
          refine rwp_eval G7_ok 7 (by simp only [go_sem, Nat.reduceBEq, ↓reduceIte, Bool.false_eq_true, Nat.reduceAdd, Nat.reduceMul, Nat.reduceLeDiff, wa, wb, wc, c0_0, v5_0]; try rfl) ?_
          refine rwp_append sl42 sl42 (by simp only [go_sem, Nat.reduceBEq, ↓reduceIte, Bool.false_eq_true, Nat.reduceAdd, Nat.reduceMul, Nat.reduceLeDiff, wa, wb, wc, c0_0, v5_0]; try rfl) (hb.push _) (by simp only [go_sem, Nat.reduceBEq, ↓reduceIte, Bool.false_eq_true, Nat.reduceAdd, Nat.reduceMul, Nat.reduceLeDiff, wa, wb, wc, c0_0, v5_0]; try rfl) (elems_push _ 1 _ 1 true) (by rw [bRow_len]; simp; omega) (by rw [bRow_len]; simp; omega) (fun v_10 H_10 hb_10 => ?_)
          refine rwp_eval G7_ok 1 (by simp only [go_sem, Nat.reduceBEq, ↓reduceIte, Bool.false_eq_true, Nat.reduceAdd, Nat.reduceMul, Nat.reduceLeDiff, wa, wb, wc, c0_0, v5_0]; try rfl) ?_
          show awp _ _ _ _ _ _
          refine awp_reg G7_ok (by simp only [go_sem, Nat.reduceBEq, ↓reduceIte, Bool.false_eq_true, Nat.reduceAdd, Nat.reduceMul, Nat.reduceLeDiff, wi2, c0_0, v5_0]; try rfl) ?_
          refine ⟨⟨(by simp only [go_sem, Nat.reduceBEq, ↓reduceIte, Bool.false_eq_true, Nat.reduceAdd, Nat.reduceMul, Nat.reduceLeDiff, c0_0, v5_0]; try rfl), i + 2, out ++ [16 * hexVal (bt s i) + hexVal (bt s (i + 1))], (by simp only [go_sem, Nat.reduceBEq, ↓reduceIte, Bool.false_eq_true, Nat.reduceAdd, Nat.reduceMul, Nat.reduceLeDiff, c0_0, v5_0]; try rfl), ?_⟩, ?_⟩
          · refine ⟨?_, by omega, by omega, by simp only [List.length_append, List.length_cons, List.length_nil]; omega, ?_⟩
            · simp only [go_sem, Nat.reduceBEq, ↓reduceIte, Bool.false_eq_true, Nat.reduceAdd, Nat.reduceMul, Nat.reduceLeDiff]; rw [bRow_app]; exact hb_10
            · rw [hq]; conv => lhs; unfold unhexFrom
              rw [if_pos (by omega), if_neg (by rw [ht2]; decide), Option.map_map]
              congr 1; funext x; simp
          · simp only [go_sem, Nat.reduceBEq, ↓reduceIte, Bool.false_eq_true, Nat.reduceAdd, Nat.reduceMul, Nat.reduceLeDiff, c0_0, v5_0]; omega
      · refine awp_sexitL ?_
        show awp _ _ _ _ _ _
        refine awp_rseq G7_ok (by simp only [go_sem, Nat.reduceBEq, ↓reduceIte, Bool.false_eq_true, Nat.reduceAdd, Nat.reduceMul, Nat.reduceLeDiff, convA_bytes kd42 kd5 kd9 hb.elems, c0_0, v5_0]; try rfl) ?_
        refine awp_ret ⟨_, (by simp only [go_sem, Nat.reduceBEq, ↓reduceIte, Bool.false_eq_true, Nat.reduceAdd, Nat.reduceMul, Nat.reduceLeDiff, c0_0, v5_0]; try rfl), ?_⟩
        refine ⟨?_, hb.ext⟩
        have hge : ¬ (i : Int) < s.size := of_decide_eq_false ht1
        have : unhex s = some (ofInts out) := by
          rw [huh, hq]; unfold unhexFrom; rw [if_neg (by omega)]; simp
        rw [this]; rfl
end Go.Proofs.YtaikkfdnbihbiaaDoor
