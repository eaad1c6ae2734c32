/- digits of bytes: the walks. -/
import Derived.Test.YtaikkfdnbihbiaaDoorL02
namespace Go.Proofs.YtaikkfdnbihbiaaDoor
set_option linter.unusedVariables false
set_option linter.unusedSimpArgs false
set_option maxRecDepth 8000
open Go Go.AK Go.RowKit
def G5 : Gam := fun g args H => match g with
  | 48 => F_impl_PathOk args H
  | 46 => F_impl_decimal args H
  | _ => G4 g args H
theorem G5_ok : GOk Tryd.prog G5 := by
  intro g args H x H2 h
  unfold G5 at h
  split at h
  · exact ok_impl_PathOk c_impl_PathOk _ _ _ _ h
  · exact ok_impl_decimal c_impl_decimal _ _ _ _ h
  · exact G4_ok _ _ _ _ _ h
@[go_sem] theorem G5_40 (args : List Value) (H : AHeap) : G5 40 args H = F_strings_Join args H := id rfl
@[go_sem] theorem G5_25 (args : List Value) (H : AHeap) : G5 25 args H = F_strings_Split args H := id rfl
@[go_sem] theorem G5_64 (args : List Value) (H : AHeap) : G5 64 args H = F_strconv_Atoi args H := id rfl
@[go_sem] theorem G5_65 (args : List Value) (H : AHeap) : G5 65 args H = F_strings_IndexByte args H := id rfl
@[go_sem] theorem G5_50 (args : List Value) (H : AHeap) : G5 50 args H = F_strings_Contains args H := id rfl
@[go_sem] theorem G5_63 (args : List Value) (H : AHeap) : G5 63 args H = F_strings_Index args H := id rfl
@[go_sem] theorem G5_62 (args : List Value) (H : AHeap) : G5 62 args H = F_strings_Count args H := id rfl
@[go_sem] theorem G5_70 (args : List Value) (H : AHeap) : G5 70 args H = F_strings_Compare args H := id rfl
@[go_sem] theorem G5_58 (args : List Value) (H : AHeap) : G5 58 args H = F_strconv_Itoa args H := id rfl
@[go_sem] theorem G5_49 (args : List Value) (H : AHeap) : G5 49 args H = F_impl_within args H := id rfl
@[go_sem] theorem G5_41 (args : List Value) (H : AHeap) : G5 41 args H = F_impl_DecText args H := id rfl
@[go_sem] theorem G5_43 (args : List Value) (H : AHeap) : G5 43 args H = F_spec_l01In args H := id rfl
@[go_sem] theorem G5_22 (args : List Value) (H : AHeap) : G5 22 args H = F_spec_l01Split args H := id rfl
@[go_sem] theorem G5_71 (args : List Value) (H : AHeap) : G5 71 args H = F_impl_NameOk args H := id rfl
@[go_sem] theorem G5_55 (args : List Value) (H : AHeap) : G5 55 args H = F_impl_Names args H := id rfl
@[go_sem] theorem G5_48 (args : List Value) (H : AHeap) : G5 48 args H = F_impl_PathOk args H := id rfl
@[go_sem] theorem G5_46 (args : List Value) (H : AHeap) : G5 46 args H = F_impl_decimal args H := id rfl
def F_impl_hexText : List Value → AHeap → Option (Value × AHeap)
  | [.string s], H => if s.size ≤ 1099511627776 then some (.string (hexS s), H) else none
  | _, _ => none
@[go_sem] theorem F_impl_hexText_at (H : AHeap) (s : ByteArray)   (hc : s.size ≤ 1099511627776) : F_impl_hexText [.string s] H = some (.string (hexS s), H) := by simp only [F_impl_hexText, if_pos hc, Option.bind_some]
abbrev C_impl_hexText : Prop := ∀ (H : AHeap) (s : ByteArray)   (hc : s.size ≤ 1099511627776), ACall Tryd.prog 59 [.string s] H fun v H2 => v = (.string (hexS s) : Value) ∧ H2 = H
theorem ok_impl_hexText (cc_ : C_impl_hexText) : FOk Tryd.prog 59 F_impl_hexText := by
  intro args H x H2 h
  unfold F_impl_hexText at h
  split at h
  · rename_i s
    by_cases hc : s.size ≤ 1099511627776
    · simp only [if_pos hc, Option.some.injEq, Prod.mk.injEq] at h
      obtain ⟨rfl, rfl⟩ := h
      exact cc_ H s hc
    · simp only [if_neg hc, reduceCtorEq] at h
  · cases h
theorem c_impl_hexText : C_impl_hexText := by
  intro H s hs
  refine ACall.wf fun wf => ACall.quiet rfl ?_
  refine ACall.body Tryd.func59 rfl rfl (rs := [.tmp 2]) rfl (n := 30) rfl (by decide) (by simp) ?_
  refine awp_rseq G5_ok (by simp only [go_sem, Nat.reduceBEq, ↓reduceIte, Bool.false_eq_true, Nat.reduceAdd, Nat.reduceMul, Nat.reduceLeDiff]; try rfl) ?_
  have w2 : IntKind.i64.wrap (2 * (s.size : Int)) = 2 * (s.size : Int) := int_wrap _ (by omega) (by omega)
  refine awp_rseq G5_ok (by simp only [go_sem, Nat.reduceBEq, ↓reduceIte, Bool.false_eq_true, Nat.reduceAdd, Nat.reduceMul, Nat.reduceLeDiff, w2, SlT.make0 sl42 (c := 2 * (s.size : Int)) (by omega) (by omega) (by omega)]; try rfl) ?_
  refine awp_assoc ?_
  refine awp_rseq G5_ok (by simp only [go_sem, Nat.reduceBEq, ↓reduceIte, Bool.false_eq_true, Nat.reduceAdd, Nat.reduceMul, Nat.reduceLeDiff]; try rfl) ?_
  refine awp_sblock ?_
  refine awp_loop (fun e H' => e 0 = .string s ∧ e 10 = .int .i64 s.size ∧ ∃ i : Nat, e 11 = .int .i64 i ∧ i ≤ s.size ∧ Buf H 1 false (bRow (hexUp s i)) (e 3) H') (fun e _ => gap s.size (e 11)) ?_ ?_
  · refine ⟨(by simp only [go_sem, Nat.reduceBEq, ↓reduceIte, Bool.false_eq_true, Nat.reduceAdd, Nat.reduceMul, Nat.reduceLeDiff]; try rfl), (by simp only [go_sem, Nat.reduceBEq, ↓reduceIte, Bool.false_eq_true, Nat.reduceAdd, Nat.reduceMul, Nat.reduceLeDiff]; try rfl), 0, (by simp only [go_sem, Nat.reduceBEq, ↓reduceIte, Bool.false_eq_true, Nat.reduceAdd, Nat.reduceMul, Nat.reduceLeDiff]; try rfl), Nat.zero_le _, ?_⟩
    simp only [go_sem, Nat.reduceBEq, ↓reduceIte, Bool.false_eq_true, Nat.reduceAdd, Nat.reduceMul, Nat.reduceLeDiff]
    exact Buf.fresh wf wf (Ext.refl _) 1 [] rfl 1
  · rintro e H' ⟨h0, h10, i, h11, hi, hb⟩
    refine awp_rseq G5_ok (by simp only [go_sem, Nat.reduceBEq, ↓reduceIte, Bool.false_eq_true, Nat.reduceAdd, Nat.reduceMul, Nat.reduceLeDiff, h10, h11]; try rfl) ?_
    refine awp_scond (by simp only [go_sem, Nat.reduceBEq, ↓reduceIte, Bool.false_eq_true, Nat.reduceAdd, Nat.reduceMul, Nat.reduceLeDiff]; try rfl) (fun ht => awp_sskip ?_) (fun ht => awp_sexitL ?_)
    · have hlt : (i : Int) < s.size := of_decide_eq_true ht
      refine awp_sblock ?_
      refine awp_rseq G5_ok (by simp only [go_sem, Nat.reduceBEq, ↓reduceIte, Bool.false_eq_true, Nat.reduceAdd, Nat.reduceMul, Nat.reduceLeDiff, h11]; try rfl) ?_
      have b0 := bt_lo s i
      have b1 := bt_hi s i
      have hi1 := idx_str un9 .i64 s i (Int.natCast_nonneg i) hlt
      have q0 : 0 ≤ (bt s i).tdiv 16 := Int.tdiv_nonneg b0 (by decide)
      have q1 : (bt s i).tdiv 16 < 16 := by rw [Int.tdiv_eq_ediv_of_nonneg b0]; omega
      have m0 : 0 ≤ (bt s i).tmod 16 := Int.tmod_nonneg _ b0
      have m1 : (bt s i).tmod 16 < 16 := by rw [Int.tmod_eq_emod_of_nonneg b0]; omega
      have wq : IntKind.u8.wrap ((bt s i).tdiv 16) = (bt s i).tdiv 16 := u8_small q0 (by omega)
      have hq := idx_str un9 .u8 ⟨#[48, 49, 50, 51, 52, 53, 54, 55, 56, 57, 97, 98, 99, 100, 101, 102]⟩ _ q0 q1
      have hm := idx_str un9 .u8 ⟨#[48, 49, 50, 51, 52, 53, 54, 55, 56, 57, 97, 98, 99, 100, 101, 102]⟩ _ m0 m1
      refine awp_drawnE mixed G5_ok [11, 12] (by decide) (by decide) (by decide) ?_
      refine evalE_quiet 11 (by simp only [go_sem, Nat.reduceBEq, ↓reduceIte, Bool.false_eq_true, Nat.reduceAdd, Nat.reduceMul, Nat.reduceLeDiff, h0, hi1, wq, hq, hm, bin_quo _ _ _ _ _ _ _ (show (16 : Int) ≠ 0 by decide), bin_rem _ _ _ _ _ _ _ (show (16 : Int) ≠ 0 by decide)]; try rfl) ?_
      refine evalE_eff (by simp only [go_sem, Nat.reduceBEq, ↓reduceIte, Bool.false_eq_true, Nat.reduceAdd, Nat.reduceMul, Nat.reduceLeDiff]; try rfl) (by decide) ?_
      refine evalE_append sl42 sl42 (by simp only [go_sem, Nat.reduceBEq, ↓reduceIte, Bool.false_eq_true, Nat.reduceAdd, Nat.reduceMul, Nat.reduceLeDiff]; try rfl) (hb.push _) (by simp only [go_sem, Nat.reduceBEq, ↓reduceIte, Bool.false_eq_true, Nat.reduceAdd, Nat.reduceMul, Nat.reduceLeDiff]; try rfl) (elems_push _ 1 _ 1 true) (by rw [bRow_len, hexUp_len]; simp; omega) (by rw [bRow_len, hexUp_len]; simp; omega) (by decide) (fun v' H2 hb2 => ?_)
      refine evalE_quiet 1 (by simp only [go_sem, Nat.reduceBEq, ↓reduceIte, Bool.false_eq_true, Nat.reduceAdd, Nat.reduceMul, Nat.reduceLeDiff]; try rfl) ?_
      have w1 : IntKind.i64.wrap ((i : Int) + 1) = ((i + 1 : Nat) : Int) := int_wrap _ (by omega) (by omega)
      refine evalE_nil ?_
      show awp _ _ _ _ _ _
      refine awp_reg G5_ok (by simp only [go_sem, Nat.reduceBEq, ↓reduceIte, Bool.false_eq_true, Nat.reduceAdd, Nat.reduceMul, Nat.reduceLeDiff, h11, w1]; try rfl) ?_
      refine ⟨⟨(by simp only [go_sem, Nat.reduceBEq, ↓reduceIte, Bool.false_eq_true, Nat.reduceAdd, Nat.reduceMul, Nat.reduceLeDiff, h0]; try rfl), (by simp only [go_sem, Nat.reduceBEq, ↓reduceIte, Bool.false_eq_true, Nat.reduceAdd, Nat.reduceMul, Nat.reduceLeDiff, h10]; try rfl), i + 1, (by simp only [go_sem, Nat.reduceBEq, ↓reduceIte, Bool.false_eq_true, Nat.reduceAdd, Nat.reduceMul, Nat.reduceLeDiff]; try rfl), by omega, ?_⟩, ?_⟩
      · simp only [go_sem, Nat.reduceBEq, ↓reduceIte, Bool.false_eq_true, Nat.reduceAdd, Nat.reduceMul, Nat.reduceLeDiff]
        have : bRow (hexUp s (i + 1)) = bRow (hexUp s i) ++ [[.int .u8 (hexDig ((bt s i).tdiv 16))], [.int .u8 (hexDig ((bt s i).tmod 16))]] := by simp [hexUp, bRow]
        rw [this]; exact hb2
      · simp only [go_sem, Nat.reduceBEq, ↓reduceIte, Bool.false_eq_true, Nat.reduceAdd, Nat.reduceMul, Nat.reduceLeDiff, h11]; omega
    · have hie : i = s.size := by have := of_decide_eq_false ht; omega
      subst hie
      refine awp_rseq G5_ok (by simp only [go_sem, Nat.reduceBEq, ↓reduceIte, Bool.false_eq_true, Nat.reduceAdd, Nat.reduceMul, Nat.reduceLeDiff, convA_bytes kd42 kd5 kd9 hb.elems]; try rfl) ?_
      refine awp_ret ⟨_, (by simp only [go_sem, Nat.reduceBEq, ↓reduceIte, Bool.false_eq_true, Nat.reduceAdd, Nat.reduceMul, Nat.reduceLeDiff]; try rfl), ?_⟩
      exact ⟨rfl, hb.ext⟩
end Go.Proofs.YtaikkfdnbihbiaaDoor
