/- Plain texts: bytes, splitting. -/
import Derived.Test.YtaikkfdnbihbiaaDoorAKC
import Derived.Test.YtaikkfdnbihbiaaDoorAKD
import Derived.Lib.SplitLaws
import Derived.Lib.Join
import Derived.Lib.AtoiAll
import Derived.Lib.AtoiAllCases
namespace Go.AK
set_option linter.unusedVariables false
set_option linter.unusedSimpArgs false
open Go Go.RowKit
/-- a text's size that no reckoning passes -/
abbrev Small (s : ByteArray) : Prop := s.size ≤ 1099511627776
def strRow (l : List ByteArray) : List (List Value) := l.map fun s => [.string s]
@[go_sem] theorem strRow_cons (s : ByteArray) (l : List ByteArray) : strRow (s :: l) = [.string s] :: strRow l := id rfl
@[go_sem] theorem strRow_nil : strRow [] = [] := id rfl
theorem strRow_len (l : List ByteArray) : (strRow l).length = l.length := by simp [strRow]
theorem strRow_app (a b : List ByteArray) : strRow (a ++ b) = strRow a ++ strRow b := by simp [strRow]
theorem strRow_flat (l : List ByteArray) : flatS (strRow l) := by
  intro cs h x hx
  simp only [strRow, List.mem_map] at h
  obtain ⟨s, _, rfl⟩ := h
  simp at hx; subst hx; rfl
theorem strRow_flatC (l : List ByteArray) : flatC (strRow l) := (strRow_flat l).c
/-- the parts of a text between bytes c, from i on, a part begun at f -/
def splitAt (s : ByteArray) (c : Int) (f i : Nat) : List ByteArray :=
  if i < s.size then (if bt s i = c then s.extract f i :: splitAt s c (i + 1) (i + 1) else splitAt s c f (i + 1)) else [s.extract f s.size]
termination_by s.size - i
theorem splitAt_len (s : ByteArray) (c : Int) (f i : Nat) : (splitAt s c f i).length ≤ s.size - i + 1 := by
  unfold splitAt
  split
  · split
    · have := splitAt_len s c (i + 1) (i + 1); simp only [List.length_cons]; omega
    · have := splitAt_len s c f (i + 1); omega
  · simp
termination_by s.size - i
def splitC (s : ByteArray) (c : Int) : List ByteArray := splitAt s c 0 0
theorem int_wrap (n : Int) (h : -9223372036854775808 ≤ n) (h' : n ≤ 9223372036854775807) : IntKind.i64.wrap n = n := IntWalk.i64_in _ (by omega)
/-! ### splitting, as a list -/
def spl (c : UInt8) : List UInt8 → List (List UInt8)
  | [] => [[]]
  | b :: l => if b = c then [] :: spl c l else match spl c l with
    | [] => [[b]]
    | y :: ys => (b :: y) :: ys
def pre (p : List UInt8) : List (List UInt8) → List (List UInt8)
  | [] => [p]
  | y :: ys => (p ++ y) :: ys
theorem spl_ne (c : UInt8) (l : List UInt8) : spl c l ≠ [] := by
  cases l with
  | nil => simp [spl]
  | cons b l => unfold spl; split <;> (try simp); split <;> simp
theorem spl_cons_ne {b c : UInt8} (h : b ≠ c) (l : List UInt8) : spl c (b :: l) = pre [b] (spl c l) := by
  conv => lhs; unfold spl
  rw [if_neg h]
  cases spl c l <;> rfl
theorem pre_pre (p q : List UInt8) {l : List (List UInt8)} (h : l ≠ []) : pre p (pre q l) = pre (p ++ q) l := by
  cases l with
  | nil => exact absurd rfl h
  | cons y ys => simp [pre]
theorem splitK_one (c : UInt8) : ∀ l : List UInt8, Lib.splitK [c] 0 (Lib.count l [c]) l = spl c l
  | [] => by rw [Lib.count_miss (by simp [Lib.index])]; rfl
  | b :: l => by
    have ih := splitK_one c l
    by_cases h : b = c
    · subst h
      rw [Lib.count_cons_eq, Nat.add_comm]
      have hix : Lib.index (b :: l) [b] = 0 := by rw [Lib.index]; simp [List.isPrefixOf]
      unfold Lib.splitK
      rw [hix]
      simp [spl, ih]
    · rw [spl_cons_ne h, Lib.count_cons_ne b c l h, ← ih]
      have hp : ([c] : List UInt8).isPrefixOf (b :: l) = false := by simp [List.isPrefixOf, Ne.symm h]
      have hix : Lib.index (b :: l) [c] = if Lib.index l [c] == -1 then -1 else Lib.index l [c] + 1 := by rw [Lib.index, hp]; simp
      cases hk : Lib.count l [c] with
      | zero => simp [Lib.splitK, pre]
      | succ k =>
        have hm : Lib.index l [c] ≠ -1 := fun hm => by rw [Lib.count_miss hm] at hk; cases hk
        have hge := Lib.index_ge l [c]
        obtain ⟨j, hj⟩ : ∃ j : Nat, Lib.index l [c] = j := ⟨(Lib.index l [c]).toNat, by omega⟩
        have h1 : (((j : Int) == -1) : Bool) = false := by rw [beq_eq_false_iff_ne]; omega
        have h2 : ((((j : Int) + 1) == -1) : Bool) = false := by rw [beq_eq_false_iff_ne]; omega
        have h3 : ((j : Int) + 1).toNat = j + 1 := by omega
        simp only [Lib.splitK, hix, hj, h1, h2, h3, Bool.false_eq_true, if_false, pre, Int.toNat_natCast]
        simp
theorem extract_list (s : ByteArray) (a b : Nat) : (s.extract a b).data.toList = (s.data.toList.take b).drop a := by
  have h1 : (s.extract a b).data = s.data.extract a b := by simp
  rw [h1, Array.toList_extract, List.drop_take]
theorem bt_eq (s : ByteArray) (i : Nat) (h : i < s.size) (c : UInt8) : bt s i = c.toNat ↔ s.data.toList[i]? = some c := by
  have hl : i < s.data.size := h
  simp only [bt, Array.getElem?_toList]
  rw [Array.getElem?_eq_getElem hl]
  simp only [Option.getD_some, Option.some.injEq]
  constructor
  · intro h; exact UInt8.toNat_inj.1 (by omega)
  · intro h; subst h; rfl
theorem splitAt_list (s : ByteArray) (c : UInt8) (f i : Nat) (hf : f ≤ i) (hi : i ≤ s.size) :
    (splitAt s c.toNat f i).map (·.data.toList) = pre ((s.data.toList.take i).drop f) (spl c (s.data.toList.drop i)) := by
  have hsz : s.data.toList.length = s.size := by simp
  unfold splitAt
  by_cases h : i < s.size
  · rw [if_pos h]
    have hd : s.data.toList.drop i = s.data.toList[i] :: s.data.toList.drop (i + 1) := List.drop_eq_getElem_cons (by omega)
    by_cases hc : bt s i = c.toNat
    · rw [if_pos hc]
      have hb := (bt_eq s i h c).1 hc
      have hb2 : s.data.toList[i] = c := by
        rw [List.getElem?_eq_getElem (by omega)] at hb; exact Option.some.inj hb
      rw [List.map_cons, splitAt_list s c (i + 1) (i + 1) (Nat.le_refl _) h, hd, hb2, extract_list]
      have e1 : (s.data.toList.take (i + 1)).drop (i + 1) = [] := by simp [List.drop_take]
      rw [e1]
      conv => rhs; unfold spl
      rw [if_pos rfl]
      cases hs : spl c (s.data.toList.drop (i + 1)) with
      | nil => exact absurd hs (spl_ne _ _)
      | cons y ys => simp [pre]
    · rw [if_neg hc]
      have hb2 : s.data.toList[i] ≠ c := fun e => hc ((bt_eq s i h c).2 (by rw [List.getElem?_eq_getElem (by omega), e]))
      rw [splitAt_list s c f (i + 1) (by omega) h, hd, spl_cons_ne hb2, pre_pre _ _ (spl_ne _ _)]
      congr 1
      rw [List.take_succ_eq_append_getElem (by omega), List.drop_append_of_le_length (by simp; omega)]
  · rw [if_neg h]
    have e : i = s.size := by omega
    subst e
    have e1 : s.data.toList.drop s.size = [] := List.drop_eq_nil_of_le (by omega)
    rw [e1]
    simp only [spl, pre, extract_list, List.map_cons, List.map_nil, List.append_nil]
termination_by s.size - i
theorem map_inj {α β : Type} {f : α → β} (hf : ∀ a b, f a = f b → a = b) : ∀ {l m : List α}, l.map f = m.map f → l = m
  | [], [], _ => rfl
  | [], _ :: _, h => by simp at h
  | _ :: _, [], h => by simp at h
  | a :: l, b :: m, h => by
    simp only [List.map_cons, List.cons.injEq] at h
    rw [hf _ _ h.1, map_inj hf h.2]
theorem toList_inj (a b : ByteArray) (h : a.data.toList = b.data.toList) : a = b := by
  cases a; cases b
  simp only at h
  congr 1
  exact Array.toList_inj.1 h
/-- strings.Split at one byte -/
theorem splitB_one (s : ByteArray) (c : UInt8) : Lib.splitB ⟨#[c]⟩ 0 (Lib.countB s ⟨#[c]⟩) s = splitC s c.toNat := by
  refine map_inj toList_inj ?_
  rw [Lib.splitB_data, splitC, splitAt_list s c 0 0 (Nat.le_refl _) (Nat.zero_le _)]
  have := splitK_one c s.data.toList
  have hc : Lib.countB s ⟨#[c]⟩ = Lib.count s.data.toList [c] := rfl
  rw [hc]
  show Lib.splitK [c] 0 _ _ = _
  rw [this]
  simp only [List.take_zero, List.drop_nil, List.drop_zero]
  cases hs : spl c s.data.toList with
  | nil => exact absurd hs (spl_ne _ _)
  | cons y ys => simp [pre]
/-- the decimal text of a number -/
def itoaS (n : Int) : ByteArray := ⟨(Lib.itoa n).toArray⟩
/-! ### slices of strings -/
def decStr : List Value → Option ByteArray
  | [.string s] => some s
  | _ => none
def decStrs : List (List Value) → Option (List ByteArray)
  | [] => some []
  | x :: xs => (decStr x).bind fun s => (decStrs xs).map (s :: ·)
@[go_sem] theorem decStrs_enc (l : List ByteArray) : decStrs (strRow l) = some l := by
  induction l with
  | nil => rfl
  | cons s l ih =>
    have : strRow (s :: l) = [.string s] :: strRow l := rfl
    rw [this]
    simp only [decStrs, decStr, Option.bind_some, ih, Option.map_some]
@[go_sem] theorem decStrs_nil : decStrs [] = some [] := id rfl
@[go_sem] theorem decStrs_cons (s : ByteArray) (l : List (List Value)) : decStrs ([.string s] :: l) = (decStrs l).map (s :: ·) := id rfl
theorem decStr_some {x : List Value} {s : ByteArray} (h : decStr x = some s) : x = [.string s] := by
  unfold decStr at h
  split at h
  · cases h; rfl
  · cases h
theorem decStrs_some : ∀ {es : List (List Value)} {l : List ByteArray}, decStrs es = some l → es = strRow l
  | [], l, h => by cases h; rfl
  | x :: xs, l, h => by
    obtain ⟨s, h1, h2⟩ := bind_some (x := decStr x) h
    obtain ⟨m, h3, h4⟩ := map_some h2
    subst h4
    rw [decStr_some h1, decStrs_some h3]; rfl
/-- the joined text -/
def joinS (l : List ByteArray) (sep : ByteArray) : ByteArray := ⟨(Lib.join (l.map (·.data.toList)) sep.data.toList).toArray⟩
/-! ### Atoi -/
def atoiN (s : ByteArray) : Int := match Lib.atoiAll s.data.toList with
  | .ok v => v
  | .range => Lib.atoiSat s.data.toList
  | _ => 0
def atoiOk (s : ByteArray) : Bool := match Lib.atoiAll s.data.toList with
  | .ok _ => true
  | _ => false
def errV (ok : Bool) : Value := if ok = true then .nilIface else .iface 0 .nilIface
theorem below_grow' (w : World) (k : Nat) (os : Array Obj) : Below w.heap.size w (Go.Sort.grow (w.drewN k) os) := by
  refine ⟨rfl, rfl, rfl, by simp [Go.Sort.grow], fun i hi => ?_⟩
  simp only [Go.Sort.grow]
  rw [Array.getElem?_append_left (by simpa using hi)]
  rfl
/-- strings.Join -/
theorem ACall.join {P : Program} {f : FuncId} {fn : Func} {c : Code} {H : AHeap} {v : Value} {l : List ByteArray} {sep : ByteArray} (hf : P.funcs[f]? = some fn) (hb : fn.body = some c) (hnm : (fn.name == "runtime.NumGoroutine") = false)
    (hv : elems H 1 v = some (strRow l)) (hl : l.length ≤ 140737488355328) (hj : (Lib.join (l.map (·.data.toList)) sep.data.toList).length ≤ 140737488355328)
    (h0 : ∀ (a : Option Addr) (c : Nat) (sep : ByteArray) (w : World), Calls P f #[.slice a 0 c, .string sep] w fun e w' => e = .returned (.string ⟨#[]⟩) ∧ w' = w)
    (h : ∀ (bk o c : Nat) (xs : List ByteArray) (sep : ByteArray) (w : World) (hcells : ∀ (j : Nat) x, xs[j]? = some x → w.cell? ⟨bk, o + j, none⟩ = some (.string x)) (hbk : bk < w.heap.size) (hN : xs.length ≤ 140737488355328) (hcap : xs.length ≤ c) (hlen : (Lib.join (xs.map (·.data.toList)) sep.data.toList).length ≤ 140737488355328),
      Calls P f #[.slice (some ⟨bk, o, none⟩) xs.length c, .string sep] w fun e w' => e = .returned (.string ⟨(Lib.join (xs.map (·.data.toList)) sep.data.toList).toArray⟩) ∧ Below w.heap.size w w') :
    ACall P f [v, .string sep] H fun u H' => u = .string (joinS l sep) ∧ H' = H := by
  intro K w0 w r vs hsim hrel
  obtain ⟨v', s', rfl⟩ : ∃ a b, vs = #[a, b] := by
    have := hrel.1
    obtain ⟨vl⟩ := vs
    match vl, this with
    | [a, b], _ => exact ⟨a, b, rfl⟩
  have r1 := hrel.2 0 v v' rfl rfl
  have r2 := (hrel.2 1 (.string sep) s' rfl rfl).of_scal rfl
  subst r2
  unfold CallSem
  have hcf : (callFunc f #[v', .string sep]).run P w = .ok (.enter f #[v', .string sep]) w := by
    simp only [callFunc, Sem.run_bind, run_program, Result.andThen_ok, hf, hnm, hb]
    simp
  rw [hcf]
  have fin : ∀ {u : ByteArray} {e : Ending} {w' : World}, e = .returned (.string u) → Below w.heap.size w w' → u = joinS l sep → (match e, w' with
      | .returned v, w'' => ∃ r' x H', r.le r' ∧ Sim (bs P) K w0 r' H' w'' ∧ VRel r' x v ∧ x = .string (joinS l sep) ∧ H' = H
      | _, _ => False) := by
    intro u e w' he hB hu
    subst he; subst hu
    have hk : Kept K w w' := ⟨hB.os, hB.tape, hB.output, hB.size, fun k hk => hB.block k (hsim.lt hk)⟩
    refine ⟨r, _, H, Ren.le_refl _, ⟨hsim.kept.trans hk, hsim.kin, fun l o hl => ?_, hsim.sep, hsim.name, hsim.glob, hsim.free, hsim.tab, hsim.frozOf fun b o v hz => hB.block b (hsim.froz b o v hz).1, hsim.fsep⟩, .scal _ rfl, rfl, rfl⟩
    obtain ⟨pl, h4, h5⟩ := hsim.obj l o hl
    exact ⟨pl, h4, h5.frame (Ren.le_refl _) (hB.block _ h5.lt)⟩
  by_cases hlz : l = []
  · subst hlz
    obtain ⟨cvs, g1, g2, g3, g4⟩ := elems_src hsim (by decide) hv r1
    have : ∃ a c, v' = .slice a 0 c := by
      rcases g4 with ⟨c, rfl, _⟩ | ⟨b, off, c, rfl, _⟩
      · exact ⟨_, _, rfl⟩
      · exact ⟨_, _, rfl⟩
    obtain ⟨a, c, rfl⟩ := this
    exact (h0 a c sep w).mono fun e w' ⟨h1, h2⟩ => fin h1 (h2 ▸ Below.refl _ _) rfl
  · obtain ⟨cvs, g1, g2, g3, g4⟩ := elems_src hsim (by decide) hv r1
    have hcv : cvs = l.map Value.string := by
      have hfl : (strRow l).flatten = l.map Value.string := by
        clear hv hl hj fin hlz g1 g2 g3 g4
        induction l with
        | nil => rfl
        | cons a l ih => simpa [strRow] using ih
      rw [hfl] at g1
      refine LRel.scals ?_ g1
      simp [scal]
    have hlp : 0 < (strRow l).length := by rw [strRow_len]; exact List.length_pos_iff.2 hlz
    obtain ⟨b, off, c', rfl, hlt, hcap⟩ : ∃ b off c', v' = .slice (some ⟨b, off, none⟩) (strRow l).length c' ∧ b < w.heap.size ∧ (strRow l).length ≤ c' := by
      unfold elems at hv
      split at hv
      · simp only [Option.some.injEq] at hv; rw [← hv] at hlp; simp at hlp
      · rename_i l1 o1 n1 k1
        split at hv
        · rename_i ho
          split at hv
          · rename_i hc
            simp only [Option.some.injEq] at hv
            cases r1 with
            | scal _ hsc => simp [scal] at hsc
            | cl hi _ => cases hi
            | @sl _ _ _ _ off c' pl hr hn hz hcc =>
              obtain ⟨pl2, p1, p2⟩ := hsim.obj _ _ ho
              rw [hr] at p1; cases p1
              have : (strRow l).length = n1 := by rw [← hv, List.length_take, List.length_drop]; omega
              exact ⟨pl.b, off, c', by rw [this], p2.lt, by rw [this]; exact hn⟩
          · cases hv
        · cases hv
      · split at hv
        · rename_i hz0
          simp only [Option.some.injEq] at hv
          obtain ⟨z, c0, hi⟩ := inl_any r1
          obtain ⟨b, off, a, c', g, hsz, hd⟩ := inl_data hi r1
          rw [hv] at hd
          have hlt : b < w.heap.size := by
            have h0 : (strRow l)[0]? = some (strRow l)[0] := List.getElem?_eq_getElem hlp
            obtain ⟨x0, h1⟩ : ∃ x, ((strRow l)[0])[0]? = some x := by
              have hlen := hd.len 0 _ h0
              exact ⟨_, List.getElem?_eq_getElem (by rw [hlen, show z = 1 by rw [hi] at hz0; simpa using hz0]; decide)⟩
            exact (hsim.froz _ _ _ (hd.cell 0 0 _ _ h0 h1).2).1
          exact ⟨b, off, c', by rw [hd.eq, hd.baseOf hlp], hlt, hd.cap⟩
        · cases hv
      · cases hv
    rcases g4 with ⟨c, h1, _⟩ | ⟨b2, off2, c2, h1, h2⟩
    · cases h1
    · simp only [Value.slice.injEq, Option.some.injEq, Addr.mk.injEq, true_and, and_true] at h1
      obtain ⟨⟨rfl, rfl⟩, rfl⟩ := h1
      rw [strRow_len] at hcap ⊢
      exact (h b off c' l sep w (fun j x hx => h2 j _ (by rw [hcv, List.getElem?_map, hx]; rfl)) hlt hl hcap hj).mono fun e w' ⟨h1, h2⟩ => fin h1 h2 rfl
end Go.AK
