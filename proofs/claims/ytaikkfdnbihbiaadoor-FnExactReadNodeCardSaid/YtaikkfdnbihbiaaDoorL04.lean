/- hexOf, readHex: the walks. -/
import Derived.Test.YtaikkfdnbihbiaaDoorL03
namespace Go.Proofs.YtaikkfdnbihbiaaDoor
set_option linter.unusedVariables false
set_option linter.unusedSimpArgs false
set_option maxRecDepth 8000
open Go Go.AK Go.RowKit
def G6 : Gam := fun g args H => match g with
  | 59 => F_impl_hexText args H
  | _ => G5 g args H
theorem G6_ok : GOk Tryd.prog G6 := by
  intro g args H x H2 h
  unfold G6 at h
  split at h
  · exact ok_impl_hexText c_impl_hexText _ _ _ _ h
  · exact G5_ok _ _ _ _ _ h
@[go_sem] theorem G6_40 (args : List Value) (H : AHeap) : G6 40 args H = F_strings_Join args H := id rfl
@[go_sem] theorem G6_25 (args : List Value) (H : AHeap) : G6 25 args H = F_strings_Split args H := id rfl
@[go_sem] theorem G6_64 (args : List Value) (H : AHeap) : G6 64 args H = F_strconv_Atoi args H := id rfl
@[go_sem] theorem G6_65 (args : List Value) (H : AHeap) : G6 65 args H = F_strings_IndexByte args H := id rfl
@[go_sem] theorem G6_50 (args : List Value) (H : AHeap) : G6 50 args H = F_strings_Contains args H := id rfl
@[go_sem] theorem G6_63 (args : List Value) (H : AHeap) : G6 63 args H = F_strings_Index args H := id rfl
@[go_sem] theorem G6_62 (args : List Value) (H : AHeap) : G6 62 args H = F_strings_Count args H := id rfl
@[go_sem] theorem G6_70 (args : List Value) (H : AHeap) : G6 70 args H = F_strings_Compare args H := id rfl
@[go_sem] theorem G6_58 (args : List Value) (H : AHeap) : G6 58 args H = F_strconv_Itoa args H := id rfl
@[go_sem] theorem G6_49 (args : List Value) (H : AHeap) : G6 49 args H = F_impl_within args H := id rfl
@[go_sem] theorem G6_41 (args : List Value) (H : AHeap) : G6 41 args H = F_impl_DecText args H := id rfl
@[go_sem] theorem G6_43 (args : List Value) (H : AHeap) : G6 43 args H = F_spec_l01In args H := id rfl
@[go_sem] theorem G6_22 (args : List Value) (H : AHeap) : G6 22 args H = F_spec_l01Split args H := id rfl
@[go_sem] theorem G6_71 (args : List Value) (H : AHeap) : G6 71 args H = F_impl_NameOk args H := id rfl
@[go_sem] theorem G6_55 (args : List Value) (H : AHeap) : G6 55 args H = F_impl_Names args H := id rfl
@[go_sem] theorem G6_48 (args : List Value) (H : AHeap) : G6 48 args H = F_impl_PathOk args H := id rfl
@[go_sem] theorem G6_46 (args : List Value) (H : AHeap) : G6 46 args H = F_impl_decimal args H := id rfl
@[go_sem] theorem G6_59 (args : List Value) (H : AHeap) : G6 59 args H = F_impl_hexText args H := id rfl
def F_impl_hexOf : List Value → AHeap → Option (Value × AHeap)
  | [.string s], H => if s.size ≤ 1099511627776 then some (.string (if s = ⟨#[]⟩ then ⟨#[45]⟩ else hexS s), H) else none
  | _, _ => none
@[go_sem] theorem F_impl_hexOf_at (H : AHeap) (s : ByteArray)   (hc : s.size ≤ 1099511627776) : F_impl_hexOf [.string s] H = some (.string (if s = ⟨#[]⟩ then ⟨#[45]⟩ else hexS s), H) := by simp only [F_impl_hexOf, if_pos hc, Option.bind_some]
abbrev C_impl_hexOf : Prop := ∀ (H : AHeap) (s : ByteArray)   (hc : s.size ≤ 1099511627776), ACall Tryd.prog 42 [.string s] H fun v H2 => v = (.string (if s = ⟨#[]⟩ then ⟨#[45]⟩ else hexS s) : Value) ∧ H2 = H
theorem ok_impl_hexOf (cc_ : C_impl_hexOf) : FOk Tryd.prog 42 F_impl_hexOf := by
  intro args H x H2 h
  unfold F_impl_hexOf at h
  split at h
  · rename_i s
    by_cases hc : s.size ≤ 1099511627776
    · simp only [if_pos hc, Option.some.injEq, Prod.mk.injEq] at h
      obtain ⟨rfl, rfl⟩ := h
      exact cc_ H s hc
    · simp only [if_neg hc, reduceCtorEq] at h
  · cases h
theorem c_impl_hexOf : C_impl_hexOf := by
  intro H s hs
  refine ACall.body Tryd.func42 rfl rfl (rs := [.tmp 2]) rfl (n := 7) rfl (by decide) (by simp) ?_
  refine awp_rseq G6_ok (by simp only [go_sem, Nat.reduceBEq, ↓reduceIte, Bool.false_eq_true, Nat.reduceAdd, Nat.reduceMul, Nat.reduceLeDiff]; try rfl) ?_
  refine awp_assoc ?_
  refine awp_rseq G6_ok (by simp only [go_sem, Nat.reduceBEq, ↓reduceIte, Bool.false_eq_true, Nat.reduceAdd, Nat.reduceMul, Nat.reduceLeDiff]; try rfl) ?_
  refine awp_scond (by simp only [go_sem, Nat.reduceBEq, ↓reduceIte, Bool.false_eq_true, Nat.reduceAdd, Nat.reduceMul, Nat.reduceLeDiff]; try rfl) (fun ht => ?_) (fun ht => awp_sskip ?_)
  · have he := of_decide_eq_true ht
    refine awp_assoc ?_
    refine awp_rseq G6_ok (by simp only [go_sem, Nat.reduceBEq, ↓reduceIte, Bool.false_eq_true, Nat.reduceAdd, Nat.reduceMul, Nat.reduceLeDiff]; try rfl) ?_
    refine awp_sret ⟨_, (by simp only [go_sem, Nat.reduceBEq, ↓reduceIte, Bool.false_eq_true, Nat.reduceAdd, Nat.reduceMul, Nat.reduceLeDiff]; try rfl), ?_⟩
    rw [if_pos he]; exact ⟨rfl, rfl⟩
  · have he := of_decide_eq_false ht
    refine awp_rseq G6_ok (by simp only [go_sem, Nat.reduceBEq, ↓reduceIte, Bool.false_eq_true, Nat.reduceAdd, Nat.reduceMul, Nat.reduceLeDiff, F_impl_hexText_at _ _ hs]; try rfl) ?_
    refine awp_ret ⟨_, (by simp only [go_sem, Nat.reduceBEq, ↓reduceIte, Bool.false_eq_true, Nat.reduceAdd, Nat.reduceMul, Nat.reduceLeDiff]; try rfl), ?_⟩
    rw [if_neg he]; exact ⟨rfl, rfl⟩
end Go.Proofs.YtaikkfdnbihbiaaDoor
