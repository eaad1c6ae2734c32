/- Memory that simp evaluates: boxes, fields, loads, stores, literals. -/
import Derived.Test.YtaikkfdnbihbiaaDoorAKH
namespace Go.AK
set_option linter.unusedVariables false
set_option linter.unusedSimpArgs false
open Go Go.RowKit
section
variable (H : AHeap) (o o' : AObj) (x : Option AObj) (l k n a b i j : Nat)
@[go_sem] theorem next_push : (H.push o).next = H.next + 1 := id rfl
@[go_sem] theorem next_set : (H.set l x).next = H.next := id rfl
@[go_sem] theorem obj_push : (H.push o).obj l = cond (l == H.next) (some o) (H.obj l) := by
  simp only [AHeap.push]
  by_cases h : l = H.next
  · simp [h]
  · have : (l == H.next) = false := by simpa using h
    simp [h, this]
@[go_sem] theorem obj_set : (H.set k x).obj l = cond (l == k) x (H.obj l) := by
  simp only [AHeap.set]
  by_cases h : l = k
  · simp [h]
  · have : (l == k) = false := by simpa using h
    simp [h, this]
@[go_sem] theorem set_push : (H.push o).set l (some o') = cond (l == H.next) (H.push o') ((H.set l (some o')).push o) := by
  by_cases e : l = H.next
  · subst e
    simp only [beq_self_eq_true, cond_true, AHeap.set, AHeap.push, AHeap.mk.injEq, and_true]
    funext i
    split <;> rfl
  · have h : (l == H.next) = false := by simpa using e
    simp only [h, cond_false, AHeap.set, AHeap.push, AHeap.mk.injEq, and_true]
    funext i
    by_cases e2 : i = l
    · subst e2; simp [e]
    · simp [e2]
@[go_sem] theorem set_set : (H.set l (some o)).set l x = H.set l x := by
  simp only [AHeap.set, AHeap.mk.injEq, and_true]
  funext i
  split <;> simp_all
@[go_sem] theorem beq_na : (n + a == n + b) = (a == b) := by
  rw [Bool.eq_iff_iff]; simp
@[go_sem] theorem beq_n0 : (n + a == n) = (a == 0) := by
  rw [Bool.eq_iff_iff]; simp
@[go_sem] theorem beq_0n : (n == n + b) = (b == 0) := by
  rw [Bool.eq_iff_iff]; simp
@[go_sem] theorem beq_nn : (n == n) = true := by simp
@[go_sem] theorem add11 : n + 1 + 1 = n + 2 := id rfl
@[go_sem] theorem add21 : n + 2 + 1 = n + 3 := id rfl
@[go_sem] theorem add31 : n + 3 + 1 = n + 4 := id rfl
@[go_sem] theorem add41 : n + 4 + 1 = n + 5 := id rfl
@[go_sem] theorem add51 : n + 5 + 1 = n + 6 := id rfl
end
attribute [go_sem] cond_true cond_false
section
variable {P : Program} {H : AHeap} {t : TypeId} {z k l i j off : Nat} {es : List (List Value)} {own ag : Bool} {cs vs : List Value} {v : Value}
def ldO.ldC (ag : Bool) (k j : Nat) : Option (List Value) → Option Value
  | some cs => cut ag cs j k
  | none => none
/-- a load, once the type is known -/
def ldO (ag : Bool) (k : Nat) : Option AObj → Nat → Nat → Option Value
  | some (.row _ es _), i, j => ldO.ldC ag k j es[i]?
  | _, _, _ => none
@[go_sem] theorem ldO_row : ldO ag k (some (.row z es own)) i j = ldO.ldC ag k j es[i]? := id rfl
@[go_sem] theorem ldC_some : ldO.ldC ag k j (some cs) = cut ag cs j k := id rfl
@[go_sem] theorem cut_false : cut false cs j k = cs[j]? := id rfl
@[go_sem] theorem cut_true (h : j + k ≤ cs.length) : cut true cs j k = some (.agg ((cs.drop j).take k).toArray) := by
  simp [cut, h]
theorem load_ptr {y : Ty} (h : tyOf P t = some y) : loadA P H t (.pointer (some ⟨l, i, some j⟩)) = ldO y.agg y.size (H.obj l) i j := by
  simp only [loadA, h, elemAt, ldO]
  cases H.obj l with
  | none => rfl
  | some o => cases o with
    | row z es own => simp only [ldO.ldC]; cases es[i]? <;> rfl
    | map _ => rfl
theorem load_inp {y : Ty} (h : tyOf P t = some y) : loadA P H t (inp cs j) = cut y.agg cs j y.size := by
  simp only [loadA, inp, h, inpOf_eq]
def stO.stC (k : Nat) (H : AHeap) (l i j : Nat) (vs : List Value) (z : Nat) (es : List (List Value)) : Option (List Value) → Option AHeap
  | some cs => if vs.length = k ∧ j + k ≤ cs.length ∧ oneCells vs = true then some (H.set l (some (.row z (es.set i (cs.take j ++ vs ++ cs.drop (j + k))) true))) else none
  | none => none
def stO (k : Nat) (H : AHeap) (l i j : Nat) (vs : List Value) : Option AObj → Option AHeap
  | some (.row z es true) => stO.stC k H l i j vs z es es[i]?
  | _ => none
@[go_sem] theorem stO_row : stO k H l i j vs (some (.row z es true)) = stO.stC k H l i j vs z es es[i]? := id rfl
@[go_sem] theorem stC_some (h1 : vs.length = k) (h2 : j + k ≤ cs.length) (h3 : oneCells vs = true) : stO.stC k H l i j vs z es (some cs) = some (H.set l (some (.row z (es.set i (cs.take j ++ vs ++ cs.drop (j + k))) true))) := by
  simp [stO.stC, *]
theorem store_ptr {y : Ty} (h : tyOf P t = some y) : storeA P H t v (.pointer (some ⟨l, i, some j⟩)) = stO y.size H l i j v.cells.toList (H.obj l) := by
  simp only [storeA, h]
  cases H.obj l with
  | none => rfl
  | some o => cases o with
    | row z es own =>
      cases own with
      | true => simp only [stO, stO.stC]; cases es[i]? <;> rfl
      | false => rfl
    | map _ => rfl
def bxO (k : Nat) (H : AHeap) (vs : List Value) : Option (Value × AHeap) := if vs.length = k ∧ oneCells vs = true then some (.pointer (some ⟨H.next, 0, some 0⟩), H.push (.row k [vs] true)) else none
@[go_sem] theorem bxO_ok (h1 : vs.length = k) (h2 : oneCells vs = true) : bxO k H vs = some (.pointer (some ⟨H.next, 0, some 0⟩), H.push (.row k [vs] true)) := by
  simp [bxO, *]
theorem box_of {y : Ty} (h : tyOf P t = some y) : boxA P H t v = bxO y.size H v.cells.toList := by
  simp only [boxA, h, bxO]
theorem alloc_of {y : Ty} (h : tyOf P t = some y) (hz : y.zok = true) : allocA P H t = bxO y.size H y.zero.cells.toList := by
  simp only [allocA, h, Option.bind_some, hz, if_true, box_of h]
@[go_sem] theorem cells_agg : (Value.agg cs.toArray).cells.toList = cs := by simp [Value.cells]
@[go_sem] theorem cells_int (k : IntKind) (n : Int) : (Value.int k n).cells.toList = [.int k n] := id rfl
@[go_sem] theorem cells_str (s : ByteArray) : (Value.string s).cells.toList = [.string s] := id rfl
@[go_sem] theorem cells_bool (b : Bool) : (Value.bool b).cells.toList = [.bool b] := id rfl
@[go_sem] theorem cells_ptr (a : Option Addr) : (Value.pointer a).cells.toList = [.pointer a] := id rfl
@[go_sem] theorem cells_sl (a : Option Addr) (n c : Nat) : (Value.slice a n c).cells.toList = [.slice a n c] := id rfl
@[go_sem] theorem cells_map (a : Option Nat) : (Value.map a).cells.toList = [.map a] := id rfl
@[go_sem ↓] theorem cells_inl (z c : Nat) : (inl z c es).cells = #[inl z c es] := id rfl
@[go_sem ↓] theorem cells_inp : (inp cs j).cells = #[inp cs j] := id rfl
attribute [go_sem] List.toList_toArray
@[go_sem] theorem one_nil : oneCells [] = true := id rfl
@[go_sem] theorem one_int (k : IntKind) (n : Int) : oneCells (.int k n :: vs) = oneCells vs := by simp [oneCells, Value.oneCell']
@[go_sem] theorem one_str (s : ByteArray) : oneCells (.string s :: vs) = oneCells vs := by simp [oneCells, Value.oneCell']
@[go_sem] theorem one_bool (b : Bool) : oneCells (.bool b :: vs) = oneCells vs := by simp [oneCells, Value.oneCell']
@[go_sem] theorem one_ptr (a : Option Addr) : oneCells (.pointer a :: vs) = oneCells vs := by simp [oneCells, Value.oneCell']
@[go_sem] theorem one_sl (a : Option Addr) (n c : Nat) : oneCells (.slice a n c :: vs) = oneCells vs := by simp [oneCells, Value.oneCell']
@[go_sem] theorem one_map (a : Option Nat) : oneCells (.map a :: vs) = oneCells vs := by simp [oneCells, Value.oneCell']
@[go_sem] theorem one_inl (z c : Nat) : oneCells (inl z c es :: vs) = oneCells vs := by simp [oneCells, Value.oneCell', inl]
@[go_sem] theorem one_inp : oneCells (inp cs j :: vs) = oneCells vs := by simp [oneCells, Value.oneCell', inp]
/-! fields -/
theorem fieldA_ptr {s : TypeId} {fs : List (Nat × Nat × Bool)} {f ft : Nat} (h : kind P s = some (.struct fs)) (hf : fs[f]? = some (off, ft, true)) : fieldA P s f (.pointer (some ⟨l, i, some j⟩)) = some (.pointer (some ⟨l, i, some (j + off)⟩)) := by
  simp only [fieldA, h, hf]
theorem fieldA_inp {s : TypeId} {fs : List (Nat × Nat × Bool)} {f ft : Nat} (h : kind P s = some (.struct fs)) (hf : fs[f]? = some (off, ft, true)) : fieldA P s f (inp cs j) = some (inp cs (j + off)) := by
  simp only [fieldA, inp, h, inpOf_eq, hf]
theorem fieldV_agg {s : TypeId} {fs : List (Nat × Nat × Bool)} {f ft : Nat} {b : Bool} {y : Ty} (h : kind P s = some (.struct fs)) (hf : fs[f]? = some (off, ft, b)) (hy : tyOf P ft = some y) : fieldV P s f (.agg cs.toArray) = cut y.agg cs off y.size := by
  simp only [fieldV, h, hf, hy]
/-! elements -/
def ixI (es : List (List Value)) (i : Int) : Option Value := if 0 ≤ i ∧ i < (es.length : Int) then es[i.toNat]?.map (inp · 0) else none
theorem ix_inl {t el : TypeId} {y : Ty} {c z : Nat} {i : Int} (h : kind P t = some (.slice el)) (hy : tyOf P el = some y) (hz : y.size = z) : indexA P H t (inl z c es) i = ixI es i := by
  subst hz
  simp only [indexA, h, hy, inl, elAddr, inlZ_eq, Option.map_some, inlE_eq, true_and, ixI]
  simp
theorem ixI_map {α : Type} (enc : α → List Value) (xs : List α) (i : Nat) (h : i < xs.length) : ixI (xs.map enc) (i : Int) = some (inp (enc xs[i]) 0) := by
  simp [ixI, h]
theorem ixI_nd (xs : List (List Value)) (i : Nat) {cs : List Value} (h : xs[i]? = some cs) : ixI xs (i : Int) = some (inp cs 0) := by
  obtain ⟨h1, h2⟩ := List.getElem?_eq_some_iff.1 h
  simp [ixI, h1, h2]
@[go_sem] theorem elems_inl (H : AHeap) (z c : Nat) (es : List (List Value)) : elems H z (inl z c es) = some es := by
  simp only [elems, inl, inlZ_eq, Option.map_some, if_true, inlE_eq]
/-! slicing what is read only -/
def slI (z : Nat) (es : List (List Value)) (lo hi : Option Int) : Option Value :=
  if 0 ≤ lo.getD 0 ∧ lo.getD 0 ≤ hi.getD es.length ∧ hi.getD es.length ≤ (es.length : Int) then some (inl z 1 ((es.drop (lo.getD 0).toNat).take (hi.getD es.length - lo.getD 0).toNat)) else none
theorem sl_inl {t el : TypeId} {y : Ty} {c : Nat} {lo hi : Option Value} {l h : Option Int} (hk : kind P t = some (.slice el)) (hy : tyOf P el = some y) (hl : intOpt lo = some l) (hh : intOpt hi = some h) {z : Nat} (hz : y.size = z) : slA P H t (inl z c es) lo hi = slI z es l h := by
  subst hz
  simp only [slA, hk, hl, hh, hy, inl, sliceA, inlZ_eq, Option.map_some, inlE_eq, true_and, slI]
  simp
@[go_sem] theorem ixI_cons0 (cs : List Value) (es : List (List Value)) : ixI (cs :: es) 0 = some (inp cs 0) := by
  unfold ixI
  rw [if_pos (by simp only [List.length_cons]; omega)]
  rfl
@[go_sem] theorem slI_tail (z : Nat) (cs : List Value) (es : List (List Value)) : slI z (cs :: es) (some 1) none = some (inl z 1 es) := by
  unfold slI
  simp only [Option.getD_some, Option.getD_none, List.length_cons]
  rw [if_pos (by omega)]
  have : (((es.length + 1 : Nat) : Int) - 1).toNat = es.length := by omega
  rw [this]
  simp
/-! literals -/
def fillK (p : Option (Nat × Nat)) (vs cs : List Value) (k : List Value → Option (List Value)) : Option (List Value) := match p with
  | some (off, size) => if vs.length = size ∧ off + size ≤ cs.length then k (cs.take off ++ vs ++ cs.drop (off + size)) else none
  | none => none
@[go_sem] theorem fillA_nil {place : Nat → Option (Nat × Nat)} : fillA place cs [] = some cs := id rfl
@[go_sem] theorem fillA_cons {ps : List (Nat × Nat)} {i : Nat} {rest : List (Nat × Value)} : fillA (fun i => ps[i]?) cs ((i, v) :: rest) = fillK ps[i]? v.cells.toList cs fun cs' => fillA (fun i => ps[i]?) cs' rest := by
  simp only [fillA, fillK]
  cases ps[i]? <;> rfl
@[go_sem] theorem fillK_some {q : List Value → Option (List Value)} {s : Nat} (h1 : vs.length = s) (h2 : off + s ≤ cs.length) : fillK (some (off, s)) vs cs q = q (cs.take off ++ vs ++ cs.drop (off + s)) := by
  simp [fillK, *]
def aggOf (l : List Value) : Value := .agg l.toArray
@[go_sem] theorem aggOf_eq (l : List Value) : aggOf l = .agg l.toArray := id rfl
theorem build_struct {y : Ty} {fs : List (Nat × Nat × Bool)} {pl : List (Nat × Nat)} {ps : List (Nat × Value)} (h : tyOf P t = some y) (hz : y.zok = true) (hk : y.k = .struct fs) (hp : placesA P fs = some pl) : buildA P t ps = (fillA (fun i => pl[i]?) y.zero.cells.toList ps).map fun l => .agg l.toArray := by
  simp only [buildA, h, hz, if_true, hk, hp]
/-! conversions -/
theorem convA_int {a b : IntKind} {src dst : TypeId} {k : IntKind} {n : Int} (h1 : kind P src = some (.int a)) (h2 : kind P dst = some (.int b)) : convA P H src dst (.int k n) = some (.int b (b.wrap n), H) := by
  obtain ⟨d1, i1, a1, -, a3⟩ := kind_of h1
  obtain ⟨d2, i2, b1, -, b3⟩ := kind_of h2
  have a1 := TK.int_of a3 ▸ a1
  have b1 := TK.int_of b3 ▸ b1
  unfold convA
  rw [h1, h2]
  simp only [conv, scalD, scal, if_true, res, convert, pureRun_bind, pureRun_underlying a1, pureRun_underlying b1, Option.bind_some]
  simp [Conv.intToInt, pureRun_pure, scalD, scal]
theorem convA_str {el src dst : TypeId} {s : ByteArray} (h1 : kind P src = some .string) (h2 : kind P dst = some (.slice el)) (h3 : kind P el = some (.int .u8)) :
    convA P H src dst (.string s) = some (.slice (some ⟨H.next, 0, none⟩) s.size 1, H.push (.row 1 (strElems s) true)) := by
  unfold convA
  rw [h1, h2]
  simp only [h3, if_true]
theorem strElems_flat' (s : ByteArray) : flatS (strElems s) := by
  intro cs hc x hx
  obtain ⟨b, _, rfl⟩ := List.mem_map.1 hc
  simp at hx; subst hx; rfl
theorem strElems_flatC (s : ByteArray) : flatC (strElems s) := (strElems_flat' s).c
theorem bytesOf_str (s : ByteArray) : convA.bytesOf (strElems s) = some s := by
  have : ∀ l : List UInt8, (l.map fun b : UInt8 => [Value.int .u8 (b.toNat : Int)]).mapM byteOf = some l := by
    intro l
    induction l with
    | nil => rfl
    | cons a l ih =>
      rw [List.map_cons, List.mapM_cons, ih]
      have : byteOf [Value.int .u8 (a.toNat : Int)] = some a := by simp [byteOf]
      rw [this]; rfl
  unfold convA.bytesOf strElems
  rw [this]
  rfl
theorem convA_back {el src dst : TypeId} {v : Value} {s : ByteArray} (h1 : kind P src = some (.slice el)) (h2 : kind P dst = some .string) (h3 : kind P el = some (.int .u8)) (hv : elems H 1 v = some (strElems s)) :
    convA P H src dst v = some (.string s, H) := by
  unfold convA
  rw [h1, h2]
  simp only [h3, if_true, hv, bytesOf_str]
theorem convA_backI {el src dst : TypeId} {c : Nat} {s : ByteArray} (h1 : kind P src = some (.slice el)) (h2 : kind P dst = some .string) (h3 : kind P el = some (.int .u8)) :
    convA P H src dst (inl 1 c (strElems s)) = some (.string s, H) := convA_back h1 h2 h3 (elems_inl _ _ _ _)
def decB : List Value → Option UInt8
  | [.int .u8 n] => if 0 ≤ n ∧ n < 256 then some (UInt8.ofNat n.toNat) else none
  | _ => none
theorem decB_some {cs : List Value} {b : UInt8} (h : decB cs = some b) : cs = [.int .u8 (b.toNat : Int)] := by
  unfold decB at h
  split at h
  · rename_i n
    split at h
    · rename_i hc
      cases h
      have : (UInt8.ofNat n.toNat).toNat = n.toNat := by rw [UInt8.toNat_ofNat']; omega
      rw [this, Int.toNat_of_nonneg hc.1]
    · cases h
  · cases h
theorem decB_enc (b : UInt8) : decB [.int .u8 (b.toNat : Int)] = some b := by
  have := UInt8.toNat_lt b
  simp only [decB]
  rw [if_pos (by omega)]
  simp
def decBytes (es : List (List Value)) : Option ByteArray := (es.mapM decB).map fun l => ⟨l.toArray⟩
theorem decBs_some : ∀ {es : List (List Value)} {l : List UInt8}, es.mapM decB = some l → es = l.map fun b => [Value.int .u8 (b.toNat : Int)]
  | [], l, h => by simp at h; subst h; rfl
  | cs :: es, l, h => by
    rw [List.mapM_cons] at h
    cases hx : decB cs with
    | none => rw [hx] at h; cases h
    | some b =>
      rw [hx] at h
      cases hr : es.mapM decB with
      | none => rw [hr] at h; cases h
      | some l2 =>
        rw [hr] at h
        have h : some (b :: l2) = some l := h
        cases h
        rw [decB_some hx, decBs_some hr]; rfl
theorem decBytes_some {es : List (List Value)} {s : ByteArray} (h : decBytes es = some s) : es = strElems s := by
  unfold decBytes at h
  obtain ⟨l, h1, h2⟩ := Option.map_eq_some_iff.1 h
  subst h2
  rw [decBs_some h1]; rfl
theorem decBytes_enc (s : ByteArray) : decBytes (strElems s) = some s := by
  have : ∀ l : List UInt8, (l.map fun b : UInt8 => [Value.int .u8 (b.toNat : Int)]).mapM decB = some l := by
    intro l
    induction l with
    | nil => rfl
    | cons a l ih => rw [List.map_cons, List.mapM_cons, ih, decB_enc]; rfl
  unfold decBytes strElems
  rw [this]
  rfl
/-! the elements of a slice at a location -/
def elO (z : Nat) (o n : Nat) : Option AObj → Option (List (List Value))
  | some (.row z' es _) => if z' = z ∧ o + n ≤ es.length then some ((es.drop o).take n) else none
  | _ => none
@[go_sem] theorem elems_loc (H : AHeap) (l o n c : Nat) : elems H z (.slice (some ⟨l, o, none⟩) n c) = elO z o n (H.obj l) := by
  simp only [elems, elO]
  cases H.obj l with
  | none => rfl
  | some x => cases x <;> rfl
@[go_sem] theorem elems_nil (H : AHeap) (c : Nat) : elems H z (.slice none 0 c) = some [] := id rfl
@[go_sem] theorem elO_row {o n : Nat} (h : o + n ≤ es.length) : elO z o n (some (.row z es own)) = some ((es.drop o).take n) := by simp [elO, h]
theorem elO_all {n : Nat} (h : n = es.length) : elO z 0 n (some (.row z es own)) = some es := by subst h; simp [elO]
def ixL (z l o n : Nat) (i : Int) : Option AObj → Option Value
  | some (.row z' _ _) => if z' = z ∧ 0 ≤ i ∧ i < (n : Int) then some (.pointer (some ⟨l, o + i.toNat, some 0⟩)) else none
  | _ => none
@[go_sem] theorem ixL_row {o n : Nat} {i : Int} (h0 : 0 ≤ i) (h1 : i < (n : Int)) : ixL z l o n i (some (.row z es own)) = some (.pointer (some ⟨l, o + i.toNat, some 0⟩)) := by simp [ixL, h0, h1]
theorem ix_loc {t el : TypeId} {y : Ty} {c o n : Nat} {i : Int} (h : kind P t = some (.slice el)) (hy : tyOf P el = some y) (hz : y.size = z) : indexA P H t (.slice (some ⟨l, o, none⟩) n c) i = ixL z l o n i (H.obj l) := by
  subst hz
  simp only [indexA, h, hy, elAddr, ixL]
  cases ho : H.obj l with
  | none => rw [if_neg (by simp [eszOf, ho])]
  | some x => cases x with
    | row z' es own =>
      have e0 : eszOf H l = some z' := by simp only [eszOf, ho]
      by_cases e : z' = y.size ∧ 0 ≤ i ∧ i < (n : Int)
      · rw [if_pos ⟨by rw [e0, e.1], e.2⟩]; simp only [e, and_self, if_true]
      · rw [if_neg (by rw [e0]; simpa using e)]; simp only [e, if_false]
    | map es => rw [if_neg (by simp [eszOf, ho])]
/-! objects behind a pointer -/
def objE.objO (z : Nat) : Option AObj → Option (List Value)
  | some (.row z' [cs] true) => if z' = z then some cs else none
  | _ => none
def objE (H : AHeap) (z l : Nat) : Option (List Value) := objE.objO z (H.obj l)
@[go_sem] theorem objE_eq (H : AHeap) : objE H z l = objE.objO z (H.obj l) := id rfl
@[go_sem] theorem objO_row : objE.objO z (some (.row z [cs] true)) = some cs := by simp [objE.objO]
theorem objE_obj {H : AHeap} (h : objE H z l = some cs) : H.obj l = some (.row z [cs] true) := by
  unfold objE objE.objO at h
  split at h
  · rename_i z' cs' ho
    split at h
    · rename_i e; cases h; rw [ho, e]
    · cases h
  · cases h
theorem WF.at {H : AHeap} (wf : WF H) {o : AObj} (h : H.obj l = some o) : ∀ k, (l == H.next + k) = false := by
  intro k
  have : l < H.next := Nat.lt_of_not_le fun hle => by rw [wf _ hle] at h; cases h
  simp; omega
def unInl.unAgg : Value → Option (List Value)
  | .agg cs => some cs.toList
  | _ => none
/-- a slice that is read only, taken apart -/
def unInl : Value → Option (Nat × Nat × List (List Value))
  | .func (.method nm) fs xs => if nm = "" then (match xs.toList with
    | [.int .i64 z, .int .i64 c] => if 0 ≤ z ∧ 0 ≤ c then (fs.toList.mapM unInl.unAgg).map fun es => (z.toNat, c.toNat, es) else none
    | _ => none) else none
  | _ => none
theorem unAggs_some : ∀ {fs : List Value} {es : List (List Value)}, fs.mapM unInl.unAgg = some es → fs = es.map fun cs => Value.agg cs.toArray
  | [], es, h => by simp at h; subst h; rfl
  | v :: fs, es, h => by
    rw [List.mapM_cons] at h
    cases hx : unInl.unAgg v with
    | none => rw [hx] at h; cases h
    | some b =>
      rw [hx] at h
      cases hr : fs.mapM unInl.unAgg with
      | none => rw [hr] at h; cases h
      | some l2 =>
        rw [hr] at h
        have h : some (b :: l2) = some es := h
        cases h
        rw [unAggs_some hr]
        unfold unInl.unAgg at hx
        split at hx
        · cases hx; simp
        · cases hx
theorem unInl_some {v : Value} {z c : Nat} {es : List (List Value)} (h : unInl v = some (z, c, es)) : v = inl z c es := by
  unfold unInl at h
  split at h
  · rename_i nm fs xs
    split at h
    · rename_i hn
      split at h
      · rename_i z0 c0 hx
        split at h
        · rename_i hc
          obtain ⟨es2, h1, h2⟩ := Option.map_eq_some_iff.1 h
          simp only [Prod.mk.injEq] at h2
          obtain ⟨rfl, rfl, rfl⟩ := h2
          have e1 := unAggs_some h1
          have e2 : fs = (es2.map fun cs => Value.agg cs.toArray).toArray := by rw [← e1]
          have e3 : xs = #[.int .i64 z0, .int .i64 c0] := by rw [← Array.toArray_toList (xs := xs), hx]
          rw [hn, e2, e3]
          simp only [inl, Int.toNat_of_nonneg hc.1, Int.toNat_of_nonneg hc.2]
        · cases h
      · cases h
    · cases h
  · cases h
@[go_sem] theorem unInl_inl (z c : Nat) (es : List (List Value)) : unInl (inl z c es) = some (z, c, es) := by
  have : ∀ es : List (List Value), (es.map fun cs => Value.agg cs.toArray).mapM unInl.unAgg = some es := by
    intro es
    induction es with
    | nil => rfl
    | cons a l ih =>
      rw [List.map_cons, List.mapM_cons, ih]
      have : unInl.unAgg (.agg a.toArray) = some a := by simp [unInl.unAgg]
      rw [this]; rfl
  simp only [unInl, inl, if_true]
  rw [if_pos ⟨Int.natCast_nonneg _, Int.natCast_nonneg _⟩]
  simp only [this, Option.map_some, Int.toNat_natCast]
end
attribute [go_sem] and_self true_and and_true List.getElem?_cons_zero List.getElem?_cons_succ List.length_cons List.length_nil List.take_succ_cons List.take_zero List.drop_succ_cons List.drop_zero List.cons_append List.nil_append List.set_cons_zero List.set_cons_succ List.append_nil List.take_nil List.drop_nil Nat.zero_add
end Go.AK
