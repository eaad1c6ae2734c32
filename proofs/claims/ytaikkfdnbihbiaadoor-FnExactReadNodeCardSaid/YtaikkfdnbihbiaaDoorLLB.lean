/- The library's functions. -/
import Derived.Test.YtaikkfdnbihbiaaDoorAKT
import Derived.Test.YtaikkfdnbihbiaaDoorAKD
import Derived.Test.YtaikkfdnbihbiaaDoorP01
import Derived.Test.YtaikkfdnbihbiaaDoorShelf
namespace Go.Proofs.YtaikkfdnbihbiaaDoor
set_option linter.unusedVariables false
set_option linter.unusedSimpArgs false
set_option maxRecDepth 4000
open Go Go.AK Go.RowKit
theorem same {Q : Prop} {w w' : World} {x u : Value} {e : Ending} (hx : scalD x = true) (h1 : e = .returned x) (h2 : w' = w) : ∃ u, e = .returned u ∧ Below w.heap.size w w' ∧ ∀ r, VRel r x u :=
  ⟨_, h1, by rw [h2]; exact Below.refl _ _, VRel.ofScal hx⟩
def F_strings_IndexByte : List Value → AHeap → Option (Value × AHeap)
  | [.string s, .int .u8 c], H => some (.int .i64 (Lib.indexByte s.data.toList c.toNat.toUInt8), H)
  | _, _ => none
@[go_sem] theorem F_strings_IndexByte_at (H : AHeap) (s : ByteArray) (c : Int)   : F_strings_IndexByte [.string s, .int .u8 c] H = some (.int .i64 (Lib.indexByte s.data.toList c.toNat.toUInt8), H) := id rfl
abbrev C_strings_IndexByte : Prop := ∀ (H : AHeap) (s : ByteArray) (c : Int)  , ACall Tryd.prog 65 [.string s, .int .u8 c] H fun v H2 => v = (.int .i64 (Lib.indexByte s.data.toList c.toNat.toUInt8) : Value) ∧ H2 = H
theorem ok_strings_IndexByte (cc_ : C_strings_IndexByte) : FOk Tryd.prog 65 F_strings_IndexByte := by
  intro args H x H2 h
  unfold F_strings_IndexByte at h
  split at h
  · rename_i s c
    cases h
    exact cc_ H s c
  · cases h
theorem c_strings_IndexByte : C_strings_IndexByte := fun H s c =>
  ACall.lib Tryd.func65 rfl rfl rfl fun K w0 w r hs => (Tryd.strings_IndexByte s c w).mono fun e w' ⟨h1, h2⟩ => same (Q := True) (u := .nilIface) rfl h1 h2
def F_strings_Contains : List Value → AHeap → Option (Value × AHeap)
  | [.string s, .string ⟨⟨[c]⟩⟩], H => some (.bool (decide (0 ≤ Lib.indexByte s.data.toList c)), H)
  | _, _ => none
@[go_sem] theorem F_strings_Contains_at (H : AHeap) (s : ByteArray) (c : UInt8)   : F_strings_Contains [.string s, .string ⟨#[c]⟩] H = some (.bool (decide (0 ≤ Lib.indexByte s.data.toList c)), H) := id rfl
abbrev C_strings_Contains : Prop := ∀ (H : AHeap) (s : ByteArray) (c : UInt8)  , ACall Tryd.prog 50 [.string s, .string ⟨#[c]⟩] H fun v H2 => v = (.bool (decide (0 ≤ Lib.indexByte s.data.toList c)) : Value) ∧ H2 = H
theorem ok_strings_Contains (cc_ : C_strings_Contains) : FOk Tryd.prog 50 F_strings_Contains := by
  intro args H x H2 h
  unfold F_strings_Contains at h
  split at h
  · rename_i s c
    cases h
    exact cc_ H s c
  · cases h
theorem c_strings_Contains : C_strings_Contains := fun H s c =>
  ACall.lib Tryd.func50 rfl rfl rfl fun K w0 w r hs => (Tryd.strings_Contains_one s c w).mono fun e w' ⟨h1, h2⟩ => same (Q := True) (u := .nilIface) rfl h1 h2
def F_strings_Index : List Value → AHeap → Option (Value × AHeap)
  | [.string s, .string ⟨⟨[c]⟩⟩], H => some (.int .i64 (Lib.indexByte s.data.toList c), H)
  | _, _ => none
@[go_sem] theorem F_strings_Index_at (H : AHeap) (s : ByteArray) (c : UInt8)   : F_strings_Index [.string s, .string ⟨#[c]⟩] H = some (.int .i64 (Lib.indexByte s.data.toList c), H) := id rfl
abbrev C_strings_Index : Prop := ∀ (H : AHeap) (s : ByteArray) (c : UInt8)  , ACall Tryd.prog 63 [.string s, .string ⟨#[c]⟩] H fun v H2 => v = (.int .i64 (Lib.indexByte s.data.toList c) : Value) ∧ H2 = H
theorem ok_strings_Index (cc_ : C_strings_Index) : FOk Tryd.prog 63 F_strings_Index := by
  intro args H x H2 h
  unfold F_strings_Index at h
  split at h
  · rename_i s c
    cases h
    exact cc_ H s c
  · cases h
theorem c_strings_Index : C_strings_Index := fun H s c =>
  ACall.lib Tryd.func63 rfl rfl rfl fun K w0 w r hs => (Tryd.strings_Index_one s c w).mono fun e w' ⟨h1, h2⟩ => same (Q := True) (u := .nilIface) rfl h1 h2
def F_strings_Count : List Value → AHeap → Option (Value × AHeap)
  | [.string s, .string ⟨⟨[c]⟩⟩], H => some (.int .i64 (Lib.countByte s.data.toList c), H)
  | _, _ => none
@[go_sem] theorem F_strings_Count_at (H : AHeap) (s : ByteArray) (c : UInt8)   : F_strings_Count [.string s, .string ⟨#[c]⟩] H = some (.int .i64 (Lib.countByte s.data.toList c), H) := id rfl
abbrev C_strings_Count : Prop := ∀ (H : AHeap) (s : ByteArray) (c : UInt8)  , ACall Tryd.prog 62 [.string s, .string ⟨#[c]⟩] H fun v H2 => v = (.int .i64 (Lib.countByte s.data.toList c) : Value) ∧ H2 = H
theorem ok_strings_Count (cc_ : C_strings_Count) : FOk Tryd.prog 62 F_strings_Count := by
  intro args H x H2 h
  unfold F_strings_Count at h
  split at h
  · rename_i s c
    cases h
    exact cc_ H s c
  · cases h
theorem c_strings_Count : C_strings_Count := fun H s c =>
  ACall.lib Tryd.func62 rfl rfl rfl fun K w0 w r hs => (Tryd.strings_Count_one s c w).mono fun e w' ⟨h1, h2⟩ => same (Q := True) (u := .nilIface) rfl h1 h2
def F_strings_Compare : List Value → AHeap → Option (Value × AHeap)
  | [.string a, .string b], H => some (.int .i64 (Lib.compareBytes a.data.toList b.data.toList), H)
  | _, _ => none
@[go_sem] theorem F_strings_Compare_at (H : AHeap) (a : ByteArray) (b : ByteArray)   : F_strings_Compare [.string a, .string b] H = some (.int .i64 (Lib.compareBytes a.data.toList b.data.toList), H) := id rfl
abbrev C_strings_Compare : Prop := ∀ (H : AHeap) (a : ByteArray) (b : ByteArray)  , ACall Tryd.prog 70 [.string a, .string b] H fun v H2 => v = (.int .i64 (Lib.compareBytes a.data.toList b.data.toList) : Value) ∧ H2 = H
theorem ok_strings_Compare (cc_ : C_strings_Compare) : FOk Tryd.prog 70 F_strings_Compare := by
  intro args H x H2 h
  unfold F_strings_Compare at h
  split at h
  · rename_i a b
    cases h
    exact cc_ H a b
  · cases h
theorem c_strings_Compare : C_strings_Compare := fun H a b =>
  ACall.lib Tryd.func70 rfl rfl rfl fun K w0 w r hs => (Tryd.strings_Compare a b w).mono fun e w' ⟨h1, h2⟩ => same (Q := True) (u := .nilIface) rfl h1 h2
def F_strconv_Itoa : List Value → AHeap → Option (Value × AHeap)
  | [.int .i64 n], H => if -9223372036854775808 ≤ n ∧ n ≤ 9223372036854775807 then some (.string (itoaS n), H) else none
  | _, _ => none
@[go_sem] theorem F_strconv_Itoa_at (H : AHeap) (n : Int)   (hc : -9223372036854775808 ≤ n ∧ n ≤ 9223372036854775807) : F_strconv_Itoa [.int .i64 n] H = some (.string (itoaS n), H) := by simp only [F_strconv_Itoa, if_pos hc, Option.bind_some]
abbrev C_strconv_Itoa : Prop := ∀ (H : AHeap) (n : Int)   (hc : -9223372036854775808 ≤ n ∧ n ≤ 9223372036854775807), ACall Tryd.prog 58 [.int .i64 n] H fun v H2 => v = (.string (itoaS n) : Value) ∧ H2 = H
theorem ok_strconv_Itoa (cc_ : C_strconv_Itoa) : FOk Tryd.prog 58 F_strconv_Itoa := by
  intro args H x H2 h
  unfold F_strconv_Itoa at h
  split at h
  · rename_i n
    by_cases hc : -9223372036854775808 ≤ n ∧ n ≤ 9223372036854775807
    · simp only [if_pos hc, Option.some.injEq, Prod.mk.injEq] at h
      obtain ⟨rfl, rfl⟩ := h
      exact cc_ H n hc
    · simp only [if_neg hc, reduceCtorEq] at h
  · cases h
theorem glob_pow10 : Tryd.prog.globalNamed "internal/strconv.uint64pow10" = some 5 := by kernel_rfl
theorem glob_lt : decide (5 < Tryd.prog.globals.size) = true := by kernel_rfl
theorem c_strconv_Itoa : C_strconv_Itoa := fun H n hc =>
  ACall.lib Tryd.func58 rfl rfl rfl fun K w0 w r hs => (Tryd.strconv_Itoa n hc.1 hc.2 w (hs.tabIs (by simp [constTabs]) glob_pow10 (of_decide_eq_true glob_lt))).mono fun e w' ⟨h1, k, os, h2⟩ =>
    ⟨_, h1, by rw [h2]; exact below_grow' w k os, VRel.ofScal rfl⟩
def F_strings_Join : List Value → AHeap → Option (Value × AHeap)
  | [v_l, .string sep], H => ((elems H 1 v_l).bind decStrs).bind fun (l : (List ByteArray)) => if l.length ≤ 140737488355328 ∧ (Lib.join (l.map (·.data.toList)) sep.data.toList).length ≤ 140737488355328 then some (.string (joinS l sep), H) else none
  | _, _ => none
@[go_sem] theorem F_strings_Join_ob (H : AHeap) (v_l : Value) (sep : ByteArray) : F_strings_Join [v_l, .string sep] H = ((elems H 1 v_l).bind decStrs).bind fun (l : (List ByteArray)) => if l.length ≤ 140737488355328 ∧ (Lib.join (l.map (·.data.toList)) sep.data.toList).length ≤ 140737488355328 then some (.string (joinS l sep), H) else none := by simp only [F_strings_Join, List.toList_toArray]
theorem F_strings_Join_in (H : AHeap) (l : (List ByteArray)) (sep : ByteArray) {c_l : Nat} (hc : l.length ≤ 140737488355328 ∧ (Lib.join (l.map (·.data.toList)) sep.data.toList).length ≤ 140737488355328) : F_strings_Join [inl 1 c_l (strRow l), .string sep] H = some (.string (joinS l sep), H) := by simp only [F_strings_Join, elems_inl, Option.bind_some, List.toList_toArray, decStrs_enc, if_pos hc]
abbrev B_strings_Join : Prop := ∀ (H : AHeap) (l : (List ByteArray)) (sep : ByteArray) (hc : l.length ≤ 140737488355328 ∧ (Lib.join (l.map (·.data.toList)) sep.data.toList).length ≤ 140737488355328), ACall Tryd.prog 40 [inl 1 1 (strRow l), .string sep] H fun v H2 => v = (.string (joinS l sep) : Value) ∧ H2 = H
theorem F_strings_Join_at (H : AHeap) (l : (List ByteArray)) (sep : ByteArray) {v_l : Value} (h_l : elems H 1 v_l = some (strRow l)) (hc : l.length ≤ 140737488355328 ∧ (Lib.join (l.map (·.data.toList)) sep.data.toList).length ≤ 140737488355328) : F_strings_Join [v_l, .string sep] H = some (.string (joinS l sep), H) := by simp only [F_strings_Join, h_l, decStrs_enc, List.toList_toArray, if_pos hc, Option.bind_some]
abbrev C_strings_Join : Prop := ∀ (H : AHeap) (l : (List ByteArray)) (sep : ByteArray) {v_l : Value} (h_l : elems H 1 v_l = some (strRow l)) (hc : l.length ≤ 140737488355328 ∧ (Lib.join (l.map (·.data.toList)) sep.data.toList).length ≤ 140737488355328), ACall Tryd.prog 40 [v_l, .string sep] H fun v H2 => v = (.string (joinS l sep) : Value) ∧ H2 = H
theorem ok_strings_Join (cc_ : C_strings_Join) : FOk Tryd.prog 40 F_strings_Join := by
  intro args H x H2 h
  unfold F_strings_Join at h
  split at h
  · rename_i v_l sep
    have hz := bind_some h
    clear h
    obtain ⟨l, hb_l, h⟩ := hz
    obtain ⟨e_l, he_l, hd_l⟩ := bind_some hb_l
    have hq_l := decStrs_some hd_l
    subst hq_l
    by_cases hc : l.length ≤ 140737488355328 ∧ (Lib.join (l.map (·.data.toList)) sep.data.toList).length ≤ 140737488355328
    · simp only [if_pos hc, Option.some.injEq, Prod.mk.injEq] at h
      obtain ⟨rfl, rfl⟩ := h
      exact cc_ H l sep he_l hc
    · simp only [if_neg hc, reduceCtorEq] at h
  · cases h
theorem c_strings_Join : C_strings_Join := fun H l sep v hv hc =>
  ACall.join Tryd.func40 rfl rfl hv hc.1 hc.2 Tryd.strings_Join_none Tryd.strings_Join
def F_strings_Split : List Value → AHeap → Option (Value × AHeap)
  | [.string s, .string ⟨⟨[c]⟩⟩], H => if s.size < 4294967281 then some (.slice (some ⟨H.next, 0, none⟩) (strRow (splitC s c.toNat)).length 1, H.push (.row 1 (strRow (splitC s c.toNat)) true)) else none
  | _, _ => none
@[go_sem] theorem F_strings_Split_at (H : AHeap) (s : ByteArray) (c : UInt8)   (hc : s.size < 4294967281) : F_strings_Split [.string s, .string ⟨#[c]⟩] H = some (.slice (some ⟨H.next, 0, none⟩) (strRow (splitC s c.toNat)).length 1, H.push (.row 1 (strRow (splitC s c.toNat)) true)) := by simp only [F_strings_Split, if_pos hc, Option.bind_some]
abbrev C_strings_Split : Prop := ∀ (H : AHeap) (s : ByteArray) (c : UInt8)   (hc : s.size < 4294967281), ACall Tryd.prog 25 [.string s, .string ⟨#[c]⟩] H fun v H2 => v = (.slice (some ⟨H.next, 0, none⟩) (strRow (splitC s c.toNat)).length 1 : Value) ∧ H2 = H.push (.row 1 (strRow (splitC s c.toNat)) true)
theorem ok_strings_Split (cc_ : C_strings_Split) : FOk Tryd.prog 25 F_strings_Split := by
  intro args H x H2 h
  unfold F_strings_Split at h
  split at h
  · rename_i s c
    by_cases hc : s.size < 4294967281
    · simp only [if_pos hc, Option.some.injEq, Prod.mk.injEq] at h
      obtain ⟨rfl, rfl⟩ := h
      exact cc_ H s c hc
    · simp only [if_neg hc, reduceCtorEq] at h
  · cases h
theorem glob_max : Tryd.prog.globalNamed "internal/bytealg.MaxLen" = some 0 := by kernel_rfl
theorem glob_max_lt : decide (0 < Tryd.prog.globals.size) = true := by kernel_rfl
theorem c_strings_Split : C_strings_Split := fun H s c hc =>
  ACall.libRow Tryd.func25 rfl rfl rfl (fun cs h => by simp only [strRow, List.mem_map] at h; obtain ⟨s, _, rfl⟩ := h; rfl) (strRow_flat _) fun K w0 w r hs => by
    obtain ⟨m, hm⟩ := hs.intIs (nm := "internal/bytealg.MaxLen") (by simp [intVars]) glob_max (of_decide_eq_true glob_max_lt)
    have hlen : (strRow (splitC s c.toNat)).length = Lib.countB s ⟨#[c]⟩ + 1 := by
      rw [strRow_len, ← splitB_one, Lib.splitB_all ⟨#[c]⟩ (Nat.le_refl 1) 0 _ s rfl]
    refine (Tryd.strings_Split s ⟨#[c]⟩ m w hc hm (Nat.le_refl 1)).mono fun e w' ⟨h1, h2⟩ => ⟨9, Lib.countB s ⟨#[c]⟩ + 1, by rw [h1, hlen], by rw [hlen]; exact Nat.le_refl _, by rw [hlen]; exact Nat.le_refl _, ?_⟩
    rw [h2, splitB_one]
    congr 3
    induction splitC s c.toNat with
    | nil => rfl
    | cons a l ih => simpa [strRow] using ih
def F_strconv_Atoi : List Value → AHeap → Option (Value × AHeap)
  | [.string s], H => if s.size ≤ 281474976710656 then some (.tuple [.int .i64 (atoiN s), errV (atoiOk s)].toArray, H) else none
  | _, _ => none
@[go_sem] theorem F_strconv_Atoi_at (H : AHeap) (s : ByteArray)   (hc : s.size ≤ 281474976710656) : F_strconv_Atoi [.string s] H = some (.tuple [.int .i64 (atoiN s), errV (atoiOk s)].toArray, H) := by simp only [F_strconv_Atoi, if_pos hc, Option.bind_some]
abbrev C_strconv_Atoi : Prop := ∀ (H : AHeap) (s : ByteArray)   (hc : s.size ≤ 281474976710656), ACall Tryd.prog 64 [.string s] H fun v H2 => v = (.tuple [.int .i64 (atoiN s), errV (atoiOk s)].toArray : Value) ∧ H2 = H
theorem ok_strconv_Atoi (cc_ : C_strconv_Atoi) : FOk Tryd.prog 64 F_strconv_Atoi := by
  intro args H x H2 h
  unfold F_strconv_Atoi at h
  split at h
  · rename_i s
    by_cases hc : s.size ≤ 281474976710656
    · simp only [if_pos hc, Option.some.injEq, Prod.mk.injEq] at h
      obtain ⟨rfl, rfl⟩ := h
      exact cc_ H s hc
    · simp only [if_neg hc, reduceCtorEq] at h
  · cases h
theorem glob_syn : Tryd.prog.globalNamed "strconv.ErrSyntax" = some 3 := by kernel_rfl
theorem glob_syn_lt : decide (3 < Tryd.prog.globals.size) = true := by kernel_rfl
theorem glob_rng : Tryd.prog.globalNamed "strconv.ErrRange" = some 4 := by kernel_rfl
theorem glob_rng_lt : decide (4 < Tryd.prog.globals.size) = true := by kernel_rfl
theorem tup2 {r : Ren} {n : Int} {x y : Value} (h : VRel r x y) : VRel r (.tuple [.int .i64 n, x].toArray) (.tuple #[.int .i64 n, y]) := VRel.tupleL (.cons (.scal _ rfl) (.cons h .nil))
theorem c_strconv_Atoi : C_strconv_Atoi := fun H s hc =>
  ACall.lib Tryd.func64 rfl rfl rfl fun K w0 w r hs => by
    cases h : Lib.atoiAll s.data.toList
    case ok v =>
      refine (Tryd.strconv_Atoi_ok s (by omega) v h w).mono fun e w' ⟨h1, h2⟩ => ⟨_, h1, ?_, fun r => ?_⟩
      · rcases h2 with rfl | ⟨t, rfl⟩
        · exact Below.refl _ _
        · exact Lib.bytesWorld_below w _ t
      · simp only [atoiN, atoiOk, h, errV, if_true]; exact tup2 (.scal _ rfl)
    case range =>
      obtain ⟨ev, g1, g2⟩ := hs.errIs (nm := "strconv.ErrRange") (by simp [errVars]) glob_rng (of_decide_eq_true glob_rng_lt)
      refine (Tryd.strconv_Atoi_range s hc h ev w g1 g2).mono fun e w' ⟨N, h1, _, _, h2⟩ => ⟨_, h1, h2, fun r => ?_⟩
      simp only [atoiN, atoiOk, h, errV, Bool.false_eq_true, if_false]; exact tup2 .any
    obtain ⟨ev, g1, g2⟩ := hs.errIs (nm := "strconv.ErrSyntax") (by simp [errVars]) glob_syn (of_decide_eq_true glob_syn_lt)
    refine (Tryd.strconv_Atoi_syntax s hc h ev w g1 g2).mono fun e w' ⟨N, h1, _, _, h2⟩ => ⟨_, h1, h2, fun r => ?_⟩
    simp only [atoiN, atoiOk, h, errV, Bool.false_eq_true, if_false]; exact tup2 .any
def GB : Gam := fun g args H => match g with
  | 40 => F_strings_Join args H
  | 25 => F_strings_Split args H
  | 64 => F_strconv_Atoi args H
  | 65 => F_strings_IndexByte args H
  | 50 => F_strings_Contains args H
  | 63 => F_strings_Index args H
  | 62 => F_strings_Count args H
  | 70 => F_strings_Compare args H
  | 58 => F_strconv_Itoa args H
  | _ => G0 g args H
theorem GB_ok : GOk Tryd.prog GB := by
  intro g args H x H2 h
  unfold GB at h
  split at h
  · exact ok_strings_Join c_strings_Join _ _ _ _ h
  · exact ok_strings_Split c_strings_Split _ _ _ _ h
  · exact ok_strconv_Atoi c_strconv_Atoi _ _ _ _ h
  · exact ok_strings_IndexByte c_strings_IndexByte _ _ _ _ h
  · exact ok_strings_Contains c_strings_Contains _ _ _ _ h
  · exact ok_strings_Index c_strings_Index _ _ _ _ h
  · exact ok_strings_Count c_strings_Count _ _ _ _ h
  · exact ok_strings_Compare c_strings_Compare _ _ _ _ h
  · exact ok_strconv_Itoa c_strconv_Itoa _ _ _ _ h
  · exact G0_ok _ _ _ _ _ h
@[go_sem] theorem GB_40 (args : List Value) (H : AHeap) : GB 40 args H = F_strings_Join args H := id rfl
@[go_sem] theorem GB_25 (args : List Value) (H : AHeap) : GB 25 args H = F_strings_Split args H := id rfl
@[go_sem] theorem GB_64 (args : List Value) (H : AHeap) : GB 64 args H = F_strconv_Atoi args H := id rfl
@[go_sem] theorem GB_65 (args : List Value) (H : AHeap) : GB 65 args H = F_strings_IndexByte args H := id rfl
@[go_sem] theorem GB_50 (args : List Value) (H : AHeap) : GB 50 args H = F_strings_Contains args H := id rfl
@[go_sem] theorem GB_63 (args : List Value) (H : AHeap) : GB 63 args H = F_strings_Index args H := id rfl
@[go_sem] theorem GB_62 (args : List Value) (H : AHeap) : GB 62 args H = F_strings_Count args H := id rfl
@[go_sem] theorem GB_70 (args : List Value) (H : AHeap) : GB 70 args H = F_strings_Compare args H := id rfl
@[go_sem] theorem GB_58 (args : List Value) (H : AHeap) : GB 58 args H = F_strconv_Itoa args H := id rfl
end Go.Proofs.YtaikkfdnbihbiaaDoor
