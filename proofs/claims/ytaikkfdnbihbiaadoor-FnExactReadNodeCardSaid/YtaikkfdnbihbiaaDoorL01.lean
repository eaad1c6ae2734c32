/- l01: the walks. -/
import Derived.Test.YtaikkfdnbihbiaaDoorAKT
import Derived.Test.YtaikkfdnbihbiaaDoorP01
namespace Go.Proofs.YtaikkfdnbihbiaaDoor
set_option linter.unusedVariables false
set_option linter.unusedSimpArgs false
set_option maxRecDepth 4000
open Go Go.AK Go.RowKit
def F_spec_l01In : List Value → AHeap → Option (Value × AHeap)
  | [.int .i64 x, .int .i64 a, .int .i64 b], H => some (.bool (decide (a ≤ x) && decide (x ≤ b)), H)
  | _, _ => none
@[go_sem] theorem F_spec_l01In_at (H : AHeap) (x : Int) (a : Int) (b : Int)   : F_spec_l01In [.int .i64 x, .int .i64 a, .int .i64 b] H = some (.bool (decide (a ≤ x) && decide (x ≤ b)), H) := id rfl
abbrev C_spec_l01In : Prop := ∀ (H : AHeap) (x : Int) (a : Int) (b : Int)  , ACall Tryd.prog 43 [.int .i64 x, .int .i64 a, .int .i64 b] H fun v H2 => v = (.bool (decide (a ≤ x) && decide (x ≤ b)) : Value) ∧ H2 = H
theorem ok_spec_l01In (cc_ : C_spec_l01In) : FOk Tryd.prog 43 F_spec_l01In := by
  intro args H x H2 h
  unfold F_spec_l01In at h
  split at h
  · rename_i x a b
    cases h
    exact cc_ H x a b
  · cases h
theorem c_spec_l01In : C_spec_l01In := by
  intro H x a b
  refine ACall.body Tryd.func43 rfl rfl (rs := [.tmp 6]) rfl (n := 15) rfl (by decide) (by simp) ?_
  refine awp_rseq G0_ok (by simp only [go_sem, Nat.reduceBEq, ↓reduceIte, Bool.false_eq_true, Nat.reduceAdd, Nat.reduceMul, Nat.reduceLeDiff]; try rfl) ?_
  refine awp_rseq G0_ok (by simp (contextual := true) only [go_sem, Nat.reduceBEq, ↓reduceIte, Bool.false_eq_true, Nat.reduceAdd, Nat.reduceMul, Nat.reduceLeDiff]; try rfl) ?_
  refine awp_ret ⟨_, (by simp only [go_sem, Nat.reduceBEq, ↓reduceIte, Bool.false_eq_true, Nat.reduceAdd, Nat.reduceMul, Nat.reduceLeDiff]; try rfl), ?_⟩
  exact ⟨rfl, rfl⟩
def F_spec_l01Split : List Value → AHeap → Option (Value × AHeap)
  | [.string s], H => if Small s then some (.slice (some ⟨H.next, 0, none⟩) (strRow (splitC s 32)).length 1, H.push (.row 1 (strRow (splitC s 32)) true)) else none
  | _, _ => none
@[go_sem] theorem F_spec_l01Split_at (H : AHeap) (s : ByteArray)   (hc : Small s) : F_spec_l01Split [.string s] H = some (.slice (some ⟨H.next, 0, none⟩) (strRow (splitC s 32)).length 1, H.push (.row 1 (strRow (splitC s 32)) true)) := by simp only [F_spec_l01Split, if_pos hc, Option.bind_some]
abbrev C_spec_l01Split : Prop := ∀ (H : AHeap) (s : ByteArray)   (hc : Small s), ACall Tryd.prog 22 [.string s] H fun v H2 => v = (.slice (some ⟨H.next, 0, none⟩) (strRow (splitC s 32)).length 1 : Value) ∧ H2 = H.push (.row 1 (strRow (splitC s 32)) true)
theorem ok_spec_l01Split (cc_ : C_spec_l01Split) : FOk Tryd.prog 22 F_spec_l01Split := by
  intro args H x H2 h
  unfold F_spec_l01Split at h
  split at h
  · rename_i s
    by_cases hc : Small s
    · simp only [if_pos hc, Option.some.injEq, Prod.mk.injEq] at h
      obtain ⟨rfl, rfl⟩ := h
      exact cc_ H s hc
    · simp only [if_neg hc, reduceCtorEq] at h
  · cases h
theorem c_spec_l01Split : C_spec_l01Split := by
  intro H s hs
  refine ACall.wf fun wf => ACall.fresh (strRow_flat _).c ?_
  refine ACall.body Tryd.func22 rfl rfl (rs := [.tmp 2]) rfl (n := 32) rfl (by decide) (by simp) ?_
  refine awp_rseq G0_ok (by simp only [go_sem, Nat.reduceBEq, ↓reduceIte, Bool.false_eq_true, Nat.reduceAdd, Nat.reduceMul, Nat.reduceLeDiff]; try rfl) ?_
  refine awp_rseq G0_ok (by simp only [go_sem, Nat.reduceBEq, ↓reduceIte, Bool.false_eq_true, Nat.reduceAdd, Nat.reduceMul, Nat.reduceLeDiff]; try rfl) ?_
  refine awp_rseq G0_ok (by simp only [go_sem, Nat.reduceBEq, ↓reduceIte, Bool.false_eq_true, Nat.reduceAdd, Nat.reduceMul, Nat.reduceLeDiff]; try rfl) ?_
  refine awp_join (fun e H' => e 0 = .string s ∧ ∃ out : List ByteArray, ∃ f : Nat, Buf H 1 false (strRow out) (e 3) H' ∧ e 4 = .int .i64 (f : Nat) ∧ f ≤ s.size ∧ out ++ [s.extract f s.size] = splitC s 32) ?_ ?_
  · refine awp_rseq G0_ok (by simp only [go_sem, Nat.reduceBEq, ↓reduceIte, Bool.false_eq_true, Nat.reduceAdd, Nat.reduceMul, Nat.reduceLeDiff]; try rfl) ?_
    refine awp_block ?_
    refine awp_loop (fun e H' => e 0 = .string s ∧ ∃ out : List ByteArray, ∃ f i : Nat, Buf H 1 false (strRow out) (e 3) H' ∧ e 4 = .int .i64 f ∧ e 5 = .int .i64 i ∧ f ≤ i ∧ i ≤ s.size ∧ out.length ≤ i ∧ out ++ splitAt s 32 f i = splitC s 32)
      (fun e _ => gap s.size (e 5)) ?_ ?_
    · refine ⟨(by simp only [go_sem, Nat.reduceBEq, ↓reduceIte, Bool.false_eq_true, Nat.reduceAdd, Nat.reduceMul, Nat.reduceLeDiff]; try rfl), [], 0, 0, ?_, (by simp only [go_sem, Nat.reduceBEq, ↓reduceIte, Bool.false_eq_true, Nat.reduceAdd, Nat.reduceMul, Nat.reduceLeDiff]; try rfl), (by simp only [go_sem, Nat.reduceBEq, ↓reduceIte, Bool.false_eq_true, Nat.reduceAdd, Nat.reduceMul, Nat.reduceLeDiff]; try rfl), Nat.le_refl _, Nat.zero_le _, Nat.zero_le _, rfl⟩
      simp only [go_sem, Nat.reduceBEq, ↓reduceIte, Bool.false_eq_true, Nat.reduceAdd, Nat.reduceMul, Nat.reduceLeDiff]
      exact Buf.fresh wf wf (Ext.refl _) 1 [] rfl 1
    · rintro e H' ⟨h0, out, f, i, hb, h4, h5, hfi, his, hol, hsp⟩
      refine awp_assoc ?_
      refine awp_rseq G0_ok (by simp only [go_sem, Nat.reduceBEq, ↓reduceIte, Bool.false_eq_true, Nat.reduceAdd, Nat.reduceMul, Nat.reduceLeDiff, h0, h5]; try rfl) ?_
      refine awp_scond (by simp only [go_sem, Nat.reduceBEq, ↓reduceIte, Bool.false_eq_true, Nat.reduceAdd, Nat.reduceMul, Nat.reduceLeDiff]; try rfl) (fun ht => awp_sskip ?_) (fun ht => awp_sexit ?_)
      · have hi : (i : Int) < s.size := of_decide_eq_true ht
        have w1 : IntKind.i64.wrap ((i : Int) + 1) = ((i + 1 : Nat) : Int) := int_wrap _ (by omega) (by unfold Small at hs; omega)
        refine awp_join (fun e H' => e 0 = .string s ∧ e 5 = .int .i64 i ∧ ∃ out : List ByteArray, ∃ f : Nat, Buf H 1 false (strRow out) (e 3) H' ∧ e 4 = .int .i64 f ∧ f ≤ i + 1 ∧ out.length ≤ i + 1 ∧ out ++ splitAt s 32 f (i + 1) = splitC s 32) ?_ ?_
        · refine awp_block ?_
          refine awp_rseq G0_ok (by simp only [go_sem, Nat.reduceBEq, ↓reduceIte, Bool.false_eq_true, Nat.reduceAdd, Nat.reduceMul, Nat.reduceLeDiff, h0, h5, idx_str un9 _ _ _ (Int.natCast_nonneg i) hi]; try rfl) ?_
          refine awp_cond (by simp only [go_sem, Nat.reduceBEq, ↓reduceIte, Bool.false_eq_true, Nat.reduceAdd, Nat.reduceMul, Nat.reduceLeDiff]; try rfl) (fun ht => ?_) (fun ht => awp_skip ?_)
          · have hc : bt s i = 32 := of_decide_eq_true ht
            refine awp_rseqs ?_
            refine rwp_eval G0_ok 6 (by simp only [go_sem, Nat.reduceBEq, ↓reduceIte, Bool.false_eq_true, Nat.reduceAdd, Nat.reduceMul, Nat.reduceLeDiff, h0, h4, h5, strSl_lo_hi un9 _ _ _ _ _ (Int.natCast_nonneg f) (Int.ofNat_le.2 hfi) (Int.le_of_lt hi)]; try rfl) ?_
            refine rwp_append sl51 sl51 (by simp only [go_sem, Nat.reduceBEq, ↓reduceIte, Bool.false_eq_true, Nat.reduceAdd, Nat.reduceMul, Nat.reduceLeDiff]; try rfl) (hb.push _) (by simp only [go_sem, Nat.reduceBEq, ↓reduceIte, Bool.false_eq_true, Nat.reduceAdd, Nat.reduceMul, Nat.reduceLeDiff]; try rfl) (elems_push _ 1 _ 1 true) (by rw [strRow_len]; unfold Small at hs; simp; omega) (by rw [strRow_len]; unfold Small at hs; simp; omega) (fun v' H2 hb2 => ?_)
            refine rwp_eval G0_ok 1 (by simp only [go_sem, Nat.reduceBEq, ↓reduceIte, Bool.false_eq_true, Nat.reduceAdd, Nat.reduceMul, Nat.reduceLeDiff]; try rfl) ?_
            refine awp_reg G0_ok (by simp only [go_sem, Nat.reduceBEq, ↓reduceIte, Bool.false_eq_true, Nat.reduceAdd, Nat.reduceMul, Nat.reduceLeDiff, h5, w1]; try rfl) ?_
            refine ⟨(by simp only [go_sem, Nat.reduceBEq, ↓reduceIte, Bool.false_eq_true, Nat.reduceAdd, Nat.reduceMul, Nat.reduceLeDiff, h0]; try rfl), (by simp only [go_sem, Nat.reduceBEq, ↓reduceIte, Bool.false_eq_true, Nat.reduceAdd, Nat.reduceMul, Nat.reduceLeDiff, h5]; try rfl), out ++ [s.extract f i], i + 1, ?_, (by simp only [go_sem, Nat.reduceBEq, ↓reduceIte, Bool.false_eq_true, Nat.reduceAdd, Nat.reduceMul, Nat.reduceLeDiff]; try rfl), Nat.le_refl _, ?_, ?_⟩
            · simp only [go_sem, Nat.reduceBEq, ↓reduceIte, Bool.false_eq_true, Nat.reduceAdd, Nat.reduceMul, Nat.reduceLeDiff]
              rw [strRow_app]; exact hb2
            · simp only [List.length_append, List.length_cons, List.length_nil]; omega
            · rw [← hsp]
              conv => rhs; unfold splitAt
              rw [if_pos (by omega), if_pos hc, List.append_assoc]; rfl
          · have hc : ¬ bt s i = 32 := of_decide_eq_false ht
            refine ⟨(by simp only [go_sem, Nat.reduceBEq, ↓reduceIte, Bool.false_eq_true, Nat.reduceAdd, Nat.reduceMul, Nat.reduceLeDiff, h0]; try rfl), (by simp only [go_sem, Nat.reduceBEq, ↓reduceIte, Bool.false_eq_true, Nat.reduceAdd, Nat.reduceMul, Nat.reduceLeDiff, h5]; try rfl), out, f, ?_, (by simp only [go_sem, Nat.reduceBEq, ↓reduceIte, Bool.false_eq_true, Nat.reduceAdd, Nat.reduceMul, Nat.reduceLeDiff, h4]; try rfl), by omega, by omega, ?_⟩
            · simp only [go_sem, Nat.reduceBEq, ↓reduceIte, Bool.false_eq_true, Nat.reduceAdd, Nat.reduceMul, Nat.reduceLeDiff]; exact hb
            · rw [← hsp]
              conv => rhs; unfold splitAt
              rw [if_pos (by omega), if_neg hc]
        · rintro e2 H2 ⟨g0, g5, out, f, hb, g4, hfi, hol, hsp⟩
          refine awp_reg G0_ok (by simp only [go_sem, Nat.reduceBEq, ↓reduceIte, Bool.false_eq_true, Nat.reduceAdd, Nat.reduceMul, Nat.reduceLeDiff, g5, w1]; try rfl) ?_
          refine ⟨⟨(by simp only [go_sem, Nat.reduceBEq, ↓reduceIte, Bool.false_eq_true, Nat.reduceAdd, Nat.reduceMul, Nat.reduceLeDiff, g0]; try rfl), out, f, i + 1, ?_, (by simp only [go_sem, Nat.reduceBEq, ↓reduceIte, Bool.false_eq_true, Nat.reduceAdd, Nat.reduceMul, Nat.reduceLeDiff, g4]; try rfl), (by simp only [go_sem, Nat.reduceBEq, ↓reduceIte, Bool.false_eq_true, Nat.reduceAdd, Nat.reduceMul, Nat.reduceLeDiff]; try rfl), hfi, by omega, hol, hsp⟩, ?_⟩
          · simp only [go_sem, Nat.reduceBEq, ↓reduceIte, Bool.false_eq_true, Nat.reduceAdd, Nat.reduceMul, Nat.reduceLeDiff]; exact hb
          · simp only [go_sem, Nat.reduceBEq, ↓reduceIte, Bool.false_eq_true, Nat.reduceAdd, Nat.reduceMul, Nat.reduceLeDiff, h5]; omega
      · have hi : ¬ (i : Int) < s.size := of_decide_eq_false ht
        have hie : i = s.size := by omega
        refine ⟨(by simp only [go_sem, Nat.reduceBEq, ↓reduceIte, Bool.false_eq_true, Nat.reduceAdd, Nat.reduceMul, Nat.reduceLeDiff, h0]; try rfl), out, f, ?_, (by simp only [go_sem, Nat.reduceBEq, ↓reduceIte, Bool.false_eq_true, Nat.reduceAdd, Nat.reduceMul, Nat.reduceLeDiff, h4]; try rfl), by omega, ?_⟩
        · simp only [go_sem, Nat.reduceBEq, ↓reduceIte, Bool.false_eq_true, Nat.reduceAdd, Nat.reduceMul, Nat.reduceLeDiff]; exact hb
        · rw [← hsp]
          conv => rhs; unfold splitAt
          rw [if_neg (by omega)]
  · rintro e H' ⟨h0, out, f, hb, h4, hf, hsp⟩
    refine awp_rseqs ?_
    refine rwp_eval G0_ok 5 (by simp only [go_sem, Nat.reduceBEq, ↓reduceIte, Bool.false_eq_true, Nat.reduceAdd, Nat.reduceMul, Nat.reduceLeDiff, h0, h4, strSl_lo_none un9 _ _ _ (Int.natCast_nonneg f) (Int.ofNat_le.2 hf)]; try rfl) ?_
    refine rwp_append sl51 sl51 (by simp only [go_sem, Nat.reduceBEq, ↓reduceIte, Bool.false_eq_true, Nat.reduceAdd, Nat.reduceMul, Nat.reduceLeDiff]; try rfl) (hb.push _) (by simp only [go_sem, Nat.reduceBEq, ↓reduceIte, Bool.false_eq_true, Nat.reduceAdd, Nat.reduceMul, Nat.reduceLeDiff]; try rfl) (elems_push _ 1 _ 1 true) ?_ ?_ (fun v' H2 hb2 => ?_)
    · rw [strRow_len]; have := congrArg List.length hsp; have := splitAt_len s 32 0 0; unfold Small at hs; simp [splitC] at *; omega
    · rw [strRow_len]; have := congrArg List.length hsp; have := splitAt_len s 32 0 0; unfold Small at hs; simp [splitC] at *; omega
    refine rwp_eval G0_ok 1 (by simp only [go_sem, Nat.reduceBEq, ↓reduceIte, Bool.false_eq_true, Nat.reduceAdd, Nat.reduceMul, Nat.reduceLeDiff]; try rfl) ?_
    refine awp_ret ⟨_, (by simp only [go_sem, Nat.reduceBEq, ↓reduceIte, Bool.false_eq_true, Nat.reduceAdd, Nat.reduceMul, Nat.reduceLeDiff]; try rfl), ?_⟩
    refine ?_
    rw [← hsp, strRow_app]; exact hb2
def G1 : Gam := fun g args H => match g with
  | 43 => F_spec_l01In args H
  | 22 => F_spec_l01Split args H
  | _ => G0 g args H
theorem G1_ok : GOk Tryd.prog G1 := by
  intro g args H x H2 h
  unfold G1 at h
  split at h
  · exact ok_spec_l01In c_spec_l01In _ _ _ _ h
  · exact ok_spec_l01Split c_spec_l01Split _ _ _ _ h
  · exact G0_ok _ _ _ _ _ h
@[go_sem] theorem G1_43 (args : List Value) (H : AHeap) : G1 43 args H = F_spec_l01In args H := id rfl
@[go_sem] theorem G1_22 (args : List Value) (H : AHeap) : G1 22 args H = F_spec_l01Split args H := id rfl
end Go.Proofs.YtaikkfdnbihbiaaDoor
