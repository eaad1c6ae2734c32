/- A small program logic over the model: abstract heaps, abstract values, and what they say of a world. Definitions and first lemmas. -/
import Derived.Calls
import Derived.Tactics
import Derived.Below
import Derived.ArgAppend
import Derived.Deep.AppendSrc
import Derived.Laws.Cells
import Derived.Laws.World
import Derived.Laws.Rows
import Derived.Laws.AppendOwn
import Derived.Laws.IdiomCopy
import Derived.Lib.LaidTab
import Derived.Shelf.Strconv.Itoa3
namespace Go.AK
set_option linter.unusedVariables false
set_option linter.unusedSimpArgs false
open Go Go.RowKit

/-! ### slots -/
abbrev Env := Nat → Value
def Env.put (e : Env) (d : Option Nat) (v : Value) : Env :=
  match d with
  | some k => fun i => if i = k then v else e i
  | none => e
theorem put_none (e : Env) (v : Value) : e.put none v = e := id rfl
theorem put_same (e : Env) (k : Nat) (v : Value) : e.put (some k) v k = v := by simp [Env.put]
theorem put_ne (e : Env) {k i : Nat} (v : Value) (h : i ≠ k) : e.put (some k) v i = e i := by simp [Env.put, h]
theorem put_at (e : Env) (k i : Nat) (v : Value) : e.put (some k) v i = if i = k then v else e i := rfl

/-! ### the abstract heap -/
inductive AObj where
  | row (esz : Nat) (elems : List (List Value)) (own : Bool)
  | map (es : List (Value × Value))
structure AHeap where
  obj : Nat → Option AObj
  next : Nat
def AHeap.set (H : AHeap) (l : Nat) (o : Option AObj) : AHeap := ⟨fun i => if i = l then o else H.obj i, H.next⟩
def AHeap.push (H : AHeap) (o : AObj) : AHeap := ⟨fun i => if i = H.next then some o else H.obj i, H.next + 1⟩
theorem set_obj (H : AHeap) (l : Nat) (o : Option AObj) (i : Nat) : (H.set l o).obj i = if i = l then o else H.obj i := rfl
theorem set_next (H : AHeap) (l : Nat) (o : Option AObj) : (H.set l o).next = H.next := rfl
theorem push_obj (H : AHeap) (o : AObj) (i : Nat) : (H.push o).obj i = if i = H.next then some o else H.obj i := rfl
theorem push_next (H : AHeap) (o : AObj) : (H.push o).next = H.next + 1 := rfl

/-! ### values -/
def scal : Value → Bool
  | .bool _ | .int _ _ | .float _ _ | .complex _ _ _ | .string _ | .pointer none | .map none | .chan none | .nilFunc | .nilIface => true
  | .slice none 0 0 => true
  | _ => false
/-- where an abstract location lies: block, first cell, cells of an element, cells that belong to it -/
structure Pl where
  b : Nat
  base : Nat
  esz : Nat
  cap : Nat
/-- cells that are never written again: what stands at an offset of a block -/
abbrev Fz := Nat → Nat → Option Value
structure Ren where
  f : Nat → Option Pl
  z : Fz
instance : CoeFun Ren (fun _ => Nat → Option Pl) := ⟨Ren.f⟩
structure Ren.le (r r' : Ren) : Prop where
  f : ∀ l pl, r l = some pl → r' l = some pl
  z : ∀ b o v, r.z b o = some v → r'.z b o = some v
theorem Ren.le_refl (r : Ren) : r.le r := ⟨fun _ _ h => h, fun _ _ _ h => h⟩
theorem Ren.le_trans {a b c : Ren} (h : a.le b) (k : b.le c) : a.le c := ⟨fun _ _ x => k.f _ _ (h.f _ _ x), fun _ _ _ x => k.z _ _ _ (h.z _ _ _ x)⟩
/-- a slice that is read only, by what it holds: z cells an element; c = 0: no room behind it -/
def inl (z c : Nat) (es : List (List Value)) : Value := .func (.method "") (es.map fun cs => Value.agg cs.toArray).toArray #[.int .i64 z, .int .i64 c]
/-- a pointer into cells that are read only -/
def inp (cs : List Value) (j : Nat) : Value := .func (.methodOf 0 "") #[.agg cs.toArray] #[.int .i64 j]
def isInl : Value → Bool
  | .func (.method _) _ _ => true
  | .func (.methodOf _ _) _ _ => true
  | _ => false
def isAny : Value → Bool
  | .iface 0 .nilIface => true
  | _ => false
theorem isInl_inl (z c : Nat) (es : List (List Value)) : isInl (inl z c es) = true := rfl
theorem isInl_inp (cs : List Value) (j : Nat) : isInl (inp cs j) = true := rfl
/-- closed: no name of a location in it -/
def clc (v : Value) : Bool := scal v || isAny v || isInl v
def clD : Value → Bool
  | .agg cs => cs.all clc
  | v => clc v
def inlZ (xs : Array Value) : Option (Nat × Nat) := match xs.toList with
  | [.int .i64 z, .int .i64 c] => some (z.toNat, c.toNat)
  | _ => none
def inlE (fs : Array Value) : List (List Value) := fs.toList.map fun v => v.cells.toList
theorem inlE_eq (es : List (List Value)) : inlE (es.map fun cs => Value.agg cs.toArray).toArray = es := by
  simp only [inlE, List.map_map]
  exact (List.map_congr_left (fun cs _ => by simp [Value.cells])).trans (List.map_id _)
theorem inlZ_eq (z c : Nat) : inlZ #[.int .i64 z, .int .i64 c] = some (z, c) := by simp [inlZ]
theorem inl_inj {s : String} {fs xs : Array Value} {z c : Nat} {es : List (List Value)} (h : Value.func (.method s) fs xs = inl z c es) : inlE fs = es ∧ inlZ xs = some (z, c) ∧ fs.size = es.length := by
  simp only [inl, Value.func.injEq] at h
  obtain ⟨_, rfl, rfl⟩ := h
  exact ⟨inlE_eq es, inlZ_eq z c, by simp⟩
def inpOf (fs xs : Array Value) : Option (List Value × Nat) := match fs.toList, xs.toList with
  | [.agg cs], [.int .i64 j] => some (cs.toList, j.toNat)
  | _, _ => none
theorem inpOf_eq (cs : List Value) (j : Nat) : inpOf #[.agg cs.toArray] #[.int .i64 j] = some (cs, j) := by simp [inpOf]
theorem inp_inj {t : TypeId} {s : String} {fs xs : Array Value} {j : Nat} {cs : List Value} (h : Value.func (.methodOf t s) fs xs = inp cs j) : inpOf fs xs = some (cs, j) := by
  simp only [inp, Value.func.injEq] at h
  obtain ⟨_, rfl, rfl⟩ := h
  exact inpOf_eq cs j
/-- closed values and what they stand for -/
inductive CRel (z : Fz) : Value → Value → Prop where
  | scal (v : Value) (h : scal v = true) : CRel z v v
  | any {t : TypeId} {y : Value} : CRel z (.iface 0 .nilIface) (.iface t y)
  | agg {xs ys : Array Value} (hs : xs.size = ys.size) (h : ∀ (i : Nat) (x y : Value), xs[i]? = some x → ys[i]? = some y → CRel z x y) : CRel z (.agg xs) (.agg ys)
  | inl {v : Value} {k c c' b off : Nat} {a : Option Addr} {es : List (List Value)} {g : Nat → Nat → Value} (hv : v = inl k c es) (hl : ∀ (i : Nat) (cs : List Value), es[i]? = some cs → cs.length = k)
      (hz : ∀ (i j : Nat) (cs : List Value) (x : Value), es[i]? = some cs → cs[j]? = some x → x.oneCell' = true ∧ z b (off + i * k + j) = some (g i j))
      (h : ∀ (i j : Nat) (cs : List Value) (x : Value), es[i]? = some cs → cs[j]? = some x → CRel z x (g i j))
      (ha : a = some ⟨b, off, none⟩ ∨ (a = none ∧ es = [] ∧ c' = 0)) (hn : es.length ≤ c') (hc : c = 0 → c' = es.length) : CRel z v (.slice a es.length c')
  | inp {v : Value} {b o j : Nat} {cs : List Value} {g : Nat → Value} (hv : v = inp cs j) (hz : ∀ (k : Nat) (x : Value), cs[k]? = some x → x.oneCell' = true ∧ z b (o + k) = some (g k))
      (h : ∀ (k : Nat) (x : Value), cs[k]? = some x → CRel z x (g k)) : CRel z v (.pointer (some ⟨b, o + j, none⟩))
theorem CRel.mono {z z' : Fz} (hz : ∀ b o v, z b o = some v → z' b o = some v) {v w : Value} (h : CRel z v w) : CRel z' v w := by
  induction h with
  | scal v h => exact .scal v h
  | any => exact .any
  | agg hs _ ih => exact .agg hs ih
  | inl hv hl h1 _ ha hn hc ih => exact .inl hv hl (fun i j cs x a b => ⟨(h1 i j cs x a b).1, hz _ _ _ (h1 i j cs x a b).2⟩) ih ha hn hc
  | inp hv h1 _ ih => exact .inp hv (fun k x a => ⟨(h1 k x a).1, hz _ _ _ (h1 k x a).2⟩) ih
theorem CRel.cell {z : Fz} {v w : Value} (h : CRel z v w) (hi : isInl v = true) : w.oneCell' = true ∧ w.cells = #[w] := by
  cases h with
  | scal v h => cases v <;> first | exact ⟨rfl, rfl⟩ | simp [AK.scal] at h
  | agg _ _ => cases hi
  | _ => exact ⟨rfl, rfl⟩
inductive VRel (r : Ren) : Value → Value → Prop where
  | scal (v : Value) (h : scal v = true) : VRel r v v
  | cl {v w : Value} (hi : isInl v = true) (h : CRel r.z v w) : VRel r v w
  | ptr {l i j : Nat} {pl : Pl} (h : r l = some pl) : VRel r (.pointer (some ⟨l, i, some j⟩)) (.pointer (some ⟨pl.b, pl.base + i * pl.esz + j, none⟩))
  | sl {l i n c off c' : Nat} {pl : Pl} (h : r l = some pl) (hn : n ≤ c') (hz : c = 0 → c' = 0)
      (hc : c' ≠ 0 → off = pl.base + i * pl.esz ∧ (i + c') * pl.esz ≤ pl.cap) : VRel r (.slice (some ⟨l, i, none⟩) n c) (.slice (some ⟨pl.b, off, none⟩) n c')
  | map {l : Nat} {pl : Pl} (h : r l = some pl) : VRel r (.map (some l)) (.map (some pl.b))
  | agg {xs ys : Array Value} (hs : xs.size = ys.size) (h : ∀ (i : Nat) (x y : Value), xs[i]? = some x → ys[i]? = some y → VRel r x y) : VRel r (.agg xs) (.agg ys)
  | tuple {xs ys : Array Value} (hs : xs.size = ys.size) (h : ∀ (i : Nat) (x y : Value), xs[i]? = some x → ys[i]? = some y → VRel r x y) : VRel r (.tuple xs) (.tuple ys)
  | func {fn : FuncId} {fs gs xs ys : Array Value} (hf : fs.size = gs.size) (hf' : ∀ (i : Nat) (x y : Value), fs[i]? = some x → gs[i]? = some y → VRel r x y)
      (hs : xs.size = ys.size) (h : ∀ (i : Nat) (x y : Value), xs[i]? = some x → ys[i]? = some y → VRel r x y) : VRel r (.func (.func fn) fs xs) (.func (.func fn) gs ys)
  | iface {t : TypeId} {x y : Value} (h : VRel r x y) : VRel r (.iface t x) (.iface t y)
  /-- some value of an interface: no more is told -/
  | any {t : TypeId} {y : Value} : VRel r (.iface 0 .nilIface) (.iface t y)
theorem VRel.mono {r r' : Ren} (hr : r.le r') {v w : Value} (h : VRel r v w) : VRel r' v w := by
  induction h with
  | scal v h => exact .scal v h
  | cl hi h => exact .cl hi (h.mono hr.z)
  | ptr h => exact .ptr (hr.f _ _ h)
  | sl h hn hz hc => exact .sl (hr.f _ _ h) hn hz hc
  | map h => exact .map (hr.f _ _ h)
  | agg hs _ ih => exact .agg hs ih
  | tuple hs _ ih => exact .tuple hs ih
  | func hf _ hs _ ih ih' => exact .func hf ih hs ih'
  | iface _ ih => exact .iface ih
  | any => exact .any
theorem not_scal_of_isInl {v : Value} (h : isInl v = true) : AK.scal v = false := by
  cases v <;> first | rfl | cases h
theorem VRel.of_scal {r : Ren} {v w : Value} (h : VRel r v w) (hs : AK.scal v = true) : w = v := by
  cases h with
  | cl hi h => rw [not_scal_of_isInl hi] at hs; cases hs
  | scal => rfl
  | _ => simp [AK.scal] at hs
theorem VRel.one {r : Ren} {v w : Value} (h : VRel r v w) (hs : v.oneCell' = true) : w.oneCell' = true := by
  cases h with
  | cl hi h => exact (h.cell hi).1
  | scal => exact hs
  | agg _ _ => simp [Value.oneCell'] at hs
  | tuple _ _ => simp [Value.oneCell'] at hs
  | _ => rfl
theorem cells_of_isInl {v : Value} (h : isInl v = true) : v.cells = #[v] := by
  cases v <;> first | rfl | cases h
theorem VRel.ofCl {r : Ren} {v w : Value} (h : CRel r.z v w) : VRel r v w := by
  induction h with
  | scal v h => exact .scal v h
  | any => exact .any
  | agg hs _ ih => exact .agg hs ih
  | inl hv hl hz hh ha hn hc _ => exact .cl (by rw [hv]; rfl) (.inl hv hl hz hh ha hn hc)
  | inp hv hz hh _ => exact .cl (by rw [hv]; rfl) (.inp hv hz hh)
theorem VRel.toClc {r : Ren} {v w : Value} (h : VRel r v w) (hc : clc v = true) : CRel r.z v w := by
  simp only [clc, Bool.or_eq_true] at hc
  rcases hc with (hc | hc) | hc
  · rw [h.of_scal hc]; exact .scal v hc
  · unfold isAny at hc
    split at hc
    · cases h with
      | scal _ hs => simp [AK.scal] at hs
      | cl hi h => cases hi
      | iface h => exact .any
      | any => exact .any
    · cases hc
  · cases h with
    | cl _ h => exact h
    | scal _ hs => rw [not_scal_of_isInl hc] at hs; cases hs
    | _ => cases hc
theorem VRel.toCl {r : Ren} {v w : Value} (h : VRel r v w) (hc : clD v = true) : CRel r.z v w := by
  cases v with
  | agg cs =>
    cases h with
    | scal _ hs => simp [AK.scal] at hs
    | cl hi h => cases hi
    | agg hs h =>
      refine .agg hs fun i x y hx hy => (h i x y hx hy).toClc ?_
      simp only [clD, Array.all_eq_true] at hc
      obtain ⟨hi, e⟩ := Array.getElem?_eq_some_iff.1 hx
      subst e
      exact hc i hi
  | _ => exact h.toClc hc
theorem VRel.undef {r : Ren} : VRel r Go.undef Go.undef := .tuple rfl (fun i x y h => by simp at h)
/-- lists of values -/
def LRel (r : Ren) (xs ys : List Value) : Prop := xs.length = ys.length ∧ ∀ (i : Nat) (x y : Value), xs[i]? = some x → ys[i]? = some y → VRel r x y
theorem LRel.mono {r r' : Ren} (hr : r.le r') {xs ys : List Value} (h : LRel r xs ys) : LRel r' xs ys := ⟨h.1, fun i x y a b => (h.2 i x y a b).mono hr⟩
theorem LRel.nil {r : Ren} : LRel r [] [] := ⟨rfl, fun i x y h => by simp at h⟩
theorem LRel.cons {r : Ren} {x y : Value} {xs ys : List Value} (h : VRel r x y) (hs : LRel r xs ys) : LRel r (x :: xs) (y :: ys) := by
  refine ⟨by simp [hs.1], fun i a b ha hb => ?_⟩
  cases i with
  | zero => simp at ha hb; subst ha; subst hb; exact h
  | succ i => simp at ha hb; exact hs.2 i a b ha hb
theorem LRel.append {r : Ren} {xs ys us vs : List Value} (h : LRel r xs ys) (k : LRel r us vs) : LRel r (xs ++ us) (ys ++ vs) := by
  refine ⟨by simp [h.1, k.1], fun i a b ha hb => ?_⟩
  by_cases hi : i < xs.length
  · rw [List.getElem?_append_left hi] at ha
    rw [List.getElem?_append_left (by rw [← h.1]; exact hi)] at hb
    exact h.2 i a b ha hb
  · rw [List.getElem?_append_right (by omega)] at ha
    rw [List.getElem?_append_right (by rw [← h.1]; omega), ← h.1] at hb
    exact k.2 _ a b ha hb
theorem LRel.get {r : Ren} {xs ys : List Value} (h : LRel r xs ys) {i : Nat} {x : Value} (hx : xs[i]? = some x) : ∃ y, ys[i]? = some y ∧ VRel r x y := by
  obtain ⟨hi, rfl⟩ := List.getElem?_eq_some_iff.1 hx
  have hi' : i < ys.length := by rw [← h.1]; exact hi
  exact ⟨ys[i], List.getElem?_eq_some_iff.2 ⟨hi', rfl⟩, h.2 i _ _ hx (List.getElem?_eq_some_iff.2 ⟨hi', rfl⟩)⟩
theorem VRel.aggL {r : Ren} {xs ys : List Value} (h : LRel r xs ys) : VRel r (.agg xs.toArray) (.agg ys.toArray) :=
  .agg (by simpa using h.1) (fun i x y a b => h.2 i x y (by simpa using a) (by simpa using b))
theorem VRel.tupleL {r : Ren} {xs ys : List Value} (h : LRel r xs ys) : VRel r (.tuple xs.toArray) (.tuple ys.toArray) :=
  .tuple (by simpa using h.1) (fun i x y a b => h.2 i x y (by simpa using a) (by simpa using b))
theorem LRel.ofArr {r : Ren} {xs ys : Array Value} (hs : xs.size = ys.size) (h : ∀ (i : Nat) (x y : Value), xs[i]? = some x → ys[i]? = some y → VRel r x y) : LRel r xs.toList ys.toList :=
  ⟨by simpa using hs, fun i x y a b => h i x y (by simpa using a) (by simpa using b)⟩
theorem VRel.cells {r : Ren} {v w : Value} (h : VRel r v w) : LRel r v.cells.toList w.cells.toList := by
  cases h with
  | cl hi h => rw [cells_of_isInl hi, (h.cell hi).2]; exact .cons (.cl hi h) .nil
  | agg hs h => exact LRel.ofArr hs h
  | scal v hv => cases v <;> first | exact .cons (.scal _ hv) .nil | simp [AK.scal] at hv
  | ptr h => exact .cons (.ptr h) .nil
  | sl h hn hz hc => exact .cons (.sl h hn hz hc) .nil
  | map h => exact .cons (.map h) .nil
  | tuple hs h => exact .cons (.tuple hs h) .nil
  | func hf hf' hs h => exact .cons (.func hf hf' hs h) .nil
  | iface h => exact .cons (.iface h) .nil
  | any => exact .cons .any .nil

/-! ### what is kept -/
/-- the blocks in K are as they were -/
structure Kept (K : Nat → Prop) (w w' : World) : Prop where
  os : w'.os = w.os
  tape : w'.tape = w.tape
  output : w'.output = w.output
  size : w.heap.size ≤ w'.heap.size
  block : ∀ k, K k → w'.heap[k]? = w.heap[k]?
theorem Kept.refl (K : Nat → Prop) (w : World) : Kept K w w := ⟨rfl, rfl, rfl, Nat.le_refl _, fun _ _ => rfl⟩
theorem Kept.trans {K : Nat → Prop} {a b c : World} (h : Kept K a b) (k : Kept K b c) : Kept K a c :=
  ⟨k.os.trans h.os, k.tape.trans h.tape, k.output.trans h.output, Nat.le_trans h.size k.size, fun i hi => (k.block i hi).trans (h.block i hi)⟩
theorem Kept.mono {K K' : Nat → Prop} {a b : World} (h : Kept K a b) (hK : ∀ k, K' k → K k) : Kept K' a b := ⟨h.os, h.tape, h.output, h.size, fun k hk => h.block k (hK k hk)⟩
theorem Kept.drew {K : Nat → Prop} {a w : World} (h : Kept K a w) : Kept K a w.drew := ⟨h.os, h.tape, h.output, h.size, h.block⟩
theorem Kept.alloc {K : Nat → Prop} {a w : World} (h : Kept K a w) (hB : ¬ K w.heap.size) (o : Obj) : Kept K a (w.alloc o) :=
  h.trans ⟨rfl, rfl, rfl, by simp, fun k hk => by
    by_cases h1 : k < w.heap.size
    · exact Below.heap_alloc _ _ _ h1
    · have h2 : w.heap.size ≠ k := fun e => hB (e ▸ hk)
      show (w.heap.push o)[k]? = _
      rw [Array.getElem?_push, if_neg (by omega)]⟩
theorem Kept.setCell {K : Nat → Prop} {a w : World} (h : Kept K a w) {p : Addr} (hp : ¬ K p.block) (u : Value) : Kept K a (w.setCell p u) :=
  h.trans ⟨rfl, rfl, rfl, by simp [World.setCell], fun k hk => Below.heap_setCell _ _ _ _ (fun e => hp (e ▸ hk))⟩
/-! ### what an abstract heap says of a world -/
def MRel (r : Ren) (es : List (Value × Value)) (ms : List MapEntry) : Prop :=
  es.length = ms.length ∧ ∀ (i : Nat) (x : Value × Value) (m : MapEntry), es[i]? = some x → ms[i]? = some m → (scal x.1 = true ∧ m.key = x.1) ∧ VRel r x.2 m.val
def ORel (K : Nat → Prop) (r : Ren) (w : World) (pl : Pl) : AObj → Prop
  | .row esz elems own => esz = pl.esz ∧ elems.length * esz ≤ pl.cap ∧ pl.b < w.heap.size ∧
      (∀ o, o < pl.cap → (w.cell? ⟨pl.b, pl.base + o, none⟩).isSome = true) ∧
      (∀ (i : Nat) (cs : List Value), elems[i]? = some cs → cs.length = esz ∧ ∀ (j : Nat) (v : Value), cs[j]? = some v →
        v.oneCell' = true ∧ ∃ cv, w.cell? ⟨pl.b, pl.base + i * esz + j, none⟩ = some cv ∧ VRel r v cv) ∧
      (own = true → ¬ K pl.b ∧ ∀ o, o < pl.cap → w.frozen? ⟨pl.b, pl.base + o, none⟩ = false)
  | .map es => ∃ ms clock, w.heap[pl.b]? = some (.map ms clock) ∧ MRel r es ms.toList ∧ ¬ K pl.b
def AObj.own : AObj → Bool
  | .row _ _ o => o
  | .map _ => true
/-- what stands below: how many locations are the program's variables, and what is known of the kept blocks -/
structure Bs where
  size : Nat
  tab : (Nat → Prop) → World → Prop
structure Sim (G : Bs) (K : Nat → Prop) (w0 : World) (r : Ren) (H : AHeap) (w : World) : Prop where
  kept : Kept K w0 w
  kin : ∀ k, K k → k < w0.heap.size
  obj : ∀ l o, H.obj l = some o → ∃ pl, r l = some pl ∧ ORel K r w pl o
  sep : ∀ l l' o o' pl pl', H.obj l = some o → H.obj l' = some o' → r l = some pl → r l' = some pl' → o.own = true → l ≠ l' → pl.b ≠ pl'.b
  name : ∀ l pl, r l = some pl → l < H.next
  glob : ∀ l pl, r l = some pl → l < G.size → pl.b = l ∧ pl.base = 0
  free : G.size ≤ H.next
  tab : G.tab K w0
  froz : ∀ b o v, r.z b o = some v → b < w.heap.size ∧ w.cell? ⟨b, o, none⟩ = some v
  fsep : ∀ l x pl b o v, H.obj l = some x → x.own = true → r l = some pl → r.z b o = some v → pl.b ≠ b
/-- slots -/
def ERel (r : Ren) (e : Env) (a : Act) : Prop := ∀ i, VRel r (e i) (a.tmps.getD i Go.undef)
theorem ERel.mono {r r' : Ren} (hr : r.le r') {e : Env} {a : Act} (h : ERel r e a) : ERel r' e a := fun i => (h i).mono hr
theorem ERel.put {r : Ren} {e : Env} {a : Act} (h : ERel r e a) {d : Option Nat} (hd : ∀ k, d = some k → k < a.tmps.size) {v v' : Value} (hv : VRel r v v') :
    ERel r (e.put d v) (a.put d v') := by
  cases d with
  | none => exact h
  | some k =>
    intro i
    have hk := hd k rfl
    by_cases hi : i = k
    · subst hi
      simp [Env.put, Act.put, Array.getD, hk]
      exact hv
    · have := h i
      simp only [Env.put, hi, if_false, Act.put]
      have e1 : (a.tmps.setIfInBounds k v').getD i Go.undef = a.tmps.getD i Go.undef := by
        simp only [Array.getD_eq_getD_getElem?, Array.getElem?_setIfInBounds]
        rw [if_neg (fun h => hi h.symm)]
      rw [e1]; exact this
theorem Act.put_size (a : Act) (d : Option Nat) (v : Value) : (a.put d v).tmps.size = a.tmps.size := by cases d <;> simp [Act.put]
theorem Act.put_defers (a : Act) (d : Option Nat) (v : Value) : (a.put d v).defers = a.defers := by cases d <;> simp [Act.put]

/-! ### worlds -/
theorem heap_setCells (b : Nat) : ∀ (vs : List Value) (o : Nat) (w : World) (k : Nat), k ≠ b → (w.setCells b o vs).heap[k]? = w.heap[k]?
  | [], _, _, _, _ => rfl
  | v :: r, o, w, k, h => by rw [World.setCells, heap_setCells b r (o + 1) _ k h, Below.heap_setCell _ _ _ _ h]
theorem size_setCells (b : Nat) : ∀ (vs : List Value) (o : Nat) (w : World), (w.setCells b o vs).heap.size = w.heap.size
  | [], _, _ => rfl
  | v :: r, o, w => by rw [World.setCells, size_setCells b r (o + 1) _, World.size_setCell]
theorem below_setCells {K : Nat → Prop} {b : Nat} (hb : ¬ K b) : ∀ (vs : List Value) (o : Nat) (a w : World), Kept K a w → Kept K a (w.setCells b o vs)
  | [], _, _, _, h => h
  | v :: r, o, a, w, h => by rw [World.setCells]; exact below_setCells hb r (o + 1) a _ (h.setCell hb v)

/-! ### how an abstract heap's sense is kept -/
theorem MRel.mono {r r' : Ren} (hr : r.le r') {es : List (Value × Value)} {ms : List MapEntry} (h : MRel r es ms) : MRel r' es ms :=
  ⟨h.1, fun i x m a b => ⟨(h.2 i x m a b).1, (h.2 i x m a b).2.mono hr⟩⟩
theorem ORel.lt {K : Nat → Prop} {r : Ren} {w : World} {pl : Pl} {o : AObj} (h : ORel K r w pl o) : pl.b < w.heap.size := by
  cases o with
  | row esz es own => exact h.2.2.1
  | map es =>
    obtain ⟨ms, clock, hm, _⟩ := h
    exact (Array.getElem?_eq_some_iff.1 hm).1
theorem ORel.frame {K : Nat → Prop} {r r' : Ren} {w w' : World} {pl : Pl} {o : AObj} (hr : r.le r') (hw : w'.heap[pl.b]? = w.heap[pl.b]?) (h : ORel K r w pl o) : ORel K r' w' pl o := by
  have hlt := h.lt
  have hlt' : pl.b < w'.heap.size := by
    have : w'.heap[pl.b]?.isSome = true := by rw [hw]; simp [hlt]
    simpa using this
  cases o with
  | row esz es own =>
    obtain ⟨h1, h2, _, h4, h5, h6⟩ := h
    have hc : ∀ q, w'.cell? ⟨pl.b, q, none⟩ = w.cell? ⟨pl.b, q, none⟩ := fun q => World.cell?_of_block (a := ⟨pl.b, q, none⟩) hw
    have hf : ∀ q, w'.frozen? ⟨pl.b, q, none⟩ = w.frozen? ⟨pl.b, q, none⟩ := fun q => World.frozen?_of_block (a := ⟨pl.b, q, none⟩) hw
    refine ⟨h1, h2, hlt', fun q hq => by rw [hc]; exact h4 q hq, fun i cs hi => ⟨(h5 i cs hi).1, fun j v hj => ?_⟩, fun ho => ⟨(h6 ho).1, fun q hq => by rw [hf]; exact (h6 ho).2 q hq⟩⟩
    obtain ⟨a, cv, b, c⟩ := (h5 i cs hi).2 j v hj
    exact ⟨a, cv, by rw [hc]; exact b, c.mono hr⟩
  | map es =>
    obtain ⟨ms, clock, hm, hr', hb⟩ := h
    exact ⟨ms, clock, by rw [hw]; exact hm, hr'.mono hr, hb⟩
def Ren.add (r : Ren) (l : Nat) (pl : Pl) : Ren := ⟨fun i => if i = l then some pl else r i, r.z⟩
section
variable {G : Bs} {K : Nat → Prop} {w0 w : World} {r : Ren} {H : AHeap}
theorem Sim.fresh (h : Sim G K w0 r H w) : r H.next = none := by
  cases hr : r H.next with
  | none => rfl
  | some pl => exact absurd (h.name _ _ hr) (by omega)
theorem Sim.lt (h : Sim G K w0 r H w) {k : Nat} (hk : K k) : k < w.heap.size := Nat.lt_of_lt_of_le (h.kin k hk) h.kept.size
theorem Sim.big (h : Sim G K w0 r H w) : ¬ K w.heap.size := fun hk => Nat.lt_irrefl _ (h.lt hk)
theorem Sim.le_add (h : Sim G K w0 r H w) (pl : Pl) : r.le (r.add H.next pl) := by
  refine ⟨fun l p hl => ?_, fun _ _ _ h => h⟩
  have : l ≠ H.next := fun e => by subst e; rw [h.fresh] at hl; cases hl
  simp [Ren.add, this, hl]
theorem add_same (r : Ren) (l : Nat) (pl : Pl) : r.add l pl l = some pl := by simp [Ren.add]
/-- fewer objects -/
theorem Sim.sub (h : Sim G K w0 r H w) {H' : AHeap} (ho : ∀ l o, H'.obj l = some o → H.obj l = some o) (hn : H.next ≤ H'.next) : Sim G K w0 r H' w :=
  ⟨h.kept, h.kin, fun l o hl => h.obj l o (ho l o hl), fun l l' o o' pl pl' a b c d e f => h.sep l l' o o' pl pl' (ho _ _ a) (ho _ _ b) c d e f,
    fun l pl hl => Nat.lt_of_lt_of_le (h.name l pl hl) hn, h.glob, Nat.le_trans h.free hn, h.tab, h.froz, fun l x pl b o v hl => h.fsep l x pl b o v (ho l x hl)⟩
theorem Sim.frozOf (h : Sim G K w0 r H w) {w' : World} (hk : ∀ b o v, r.z b o = some v → w'.heap[b]? = w.heap[b]?) : ∀ b o v, r.z b o = some v → b < w'.heap.size ∧ w'.cell? ⟨b, o, none⟩ = some v := by
  intro b o v hz
  obtain ⟨h1, h2⟩ := h.froz b o v hz
  have e := hk b o v hz
  refine ⟨?_, by rw [World.cell?_of_block (a := ⟨b, o, none⟩) e]; exact h2⟩
  have : w'.heap[b]?.isSome = true := by rw [e]; simp [h1]
  simpa using this
/-- a new object in a block that no live object lies in -/
theorem Sim.push (h : Sim G K w0 r H w) {w' : World} {x : AObj} {pl : Pl} (hb : Kept K w w') (hk : ∀ k, k < w.heap.size → w'.heap[k]? = w.heap[k]?)
    (hp : w.heap.size ≤ pl.b) (hx : ORel K (r.add H.next pl) w' pl x) : Sim G K w0 (r.add H.next pl) (H.push x) w' := by
  have hle := h.le_add pl
  have key : ∀ l o, (H.push x).obj l = some o → (l = H.next ∧ o = x) ∨ (l ≠ H.next ∧ H.obj l = some o) := by
    intro l o hl
    simp only [AHeap.push] at hl
    split at hl
    · rename_i e; cases hl; exact .inl ⟨e, rfl⟩
    · rename_i e; exact .inr ⟨e, hl⟩
  have old : ∀ l o p, H.obj l = some o → r.add H.next pl l = some p → l ≠ H.next → r l = some p ∧ p.b < w.heap.size := by
    intro l o p hl hp' hne
    have hr' : r l = some p := by simpa [Ren.add, hne] using hp'
    obtain ⟨p2, h1, h2⟩ := h.obj l o hl
    rw [h1] at hr'; cases hr'
    exact ⟨h1, h2.lt⟩
  refine ⟨h.kept.trans hb, h.kin, fun l o hl => ?_, fun l l' o o' p p' hl hl' hp1 hp2 hown hne => ?_, fun l p hl => ?_, fun l p hl hG => ?_, ?_, h.tab,
    h.frozOf fun b o v hz => hk b (h.froz b o v hz).1, fun l x' p b o v hl hown hp1 hz => ?_⟩
  · rcases key l o hl with ⟨rfl, rfl⟩ | ⟨hne, hl⟩
    · exact ⟨pl, add_same _ _ _, hx⟩
    · obtain ⟨p, h1, h2⟩ := h.obj l o hl
      exact ⟨p, hle.f _ _ h1, h2.frame hle (hk _ h2.lt)⟩
  · rcases key l o hl with ⟨e1, e2⟩ | ⟨hn1, hla⟩ <;> rcases key l' o' hl' with ⟨e3, e4⟩ | ⟨hn2, hlb⟩
    · exact absurd (e1.trans e3.symm) hne
    · rw [e1, add_same] at hp1; cases hp1
      have := (old l' o' p' hlb hp2 hn2).2
      omega
    · rw [e3, add_same] at hp2; cases hp2
      have := (old l o p hla hp1 hn1).2
      omega
    · exact h.sep l l' o o' p p' hla hlb (old l o p hla hp1 hn1).1 (old l' o' p' hlb hp2 hn2).1 hown hne
  · simp only [Ren.add] at hl
    simp only [AHeap.push]
    split at hl
    · omega
    · have := h.name l p hl; omega
  · simp only [Ren.add] at hl
    split at hl
    · have := h.free; omega
    · exact h.glob l p hl hG
  · have := h.free; simp only [AHeap.push]; omega
  · have hb' : b < w.heap.size := (h.froz b o v hz).1
    rcases key l x' hl with ⟨e1, e2⟩ | ⟨hn1, hla⟩
    · rw [e1, add_same] at hp1; cases hp1; omega
    · exact h.fsep l x' p b o v hla hown (old l x' p hla hp1 hn1).1 hz
/-- an own object changed in its block -/
theorem Sim.update (h : Sim G K w0 r H w) {w' : World} {l : Nat} {o o' : AObj} {pl : Pl} (hl : H.obj l = some o) (hr : r l = some pl) (ho : o.own = true)
    (hb : Kept K w w') (hk : ∀ k, k ≠ pl.b → w'.heap[k]? = w.heap[k]?) (hx : ORel K r w' pl o') : Sim G K w0 r (H.set l (some o')) w' := by
  have key : ∀ i x, (H.set l (some o')).obj i = some x → (i = l ∧ x = o') ∨ (i ≠ l ∧ H.obj i = some x) := by
    intro i x hi
    simp only [AHeap.set] at hi
    split at hi
    · rename_i e; cases hi; exact .inl ⟨e, rfl⟩
    · rename_i e; exact .inr ⟨e, hi⟩
  refine ⟨h.kept.trans hb, h.kin, fun i x hi => ?_, fun i i' x x' p p' hi hi' hp1 hp2 hown hne => ?_, h.name, h.glob, h.free, h.tab,
    h.frozOf fun b q v hz => hk b (h.fsep l o pl b q v hl ho hr hz).symm, fun i x p b q v hi hown hp1 hz => ?_⟩
  · rcases key i x hi with ⟨rfl, rfl⟩ | ⟨hne, hi⟩
    · exact ⟨pl, hr, hx⟩
    · obtain ⟨p, h1, h2⟩ := h.obj i x hi
      refine ⟨p, h1, h2.frame (Ren.le_refl _) (hk _ ?_)⟩
      exact (h.sep l i o x pl p hl hi hr h1 ho (fun e => hne e.symm)).symm
  · rcases key i x hi with ⟨e1, e2⟩ | ⟨hn1, ha⟩ <;> rcases key i' x' hi' with ⟨e3, e4⟩ | ⟨hn2, hb'⟩
    · exact absurd (e1.trans e3.symm) hne
    · rw [e1] at hp1 hne; exact h.sep _ _ _ _ _ _ hl hb' hp1 hp2 ho hne
    · rw [e3] at hp2 hne; exact (h.sep _ _ _ _ _ _ hl ha hp2 hp1 ho (fun e => hne e.symm)).symm
    · exact h.sep _ _ _ _ _ _ ha hb' hp1 hp2 hown hne
  · rcases key i x hi with ⟨e1, e2⟩ | ⟨hn1, ha⟩
    · rw [e1] at hp1; exact h.fsep l o p b q v hl ho hp1 hz
    · exact h.fsep i x p b q v ha hown hp1 hz
/-- an own object (or a part of it) under a new name; the old name is gone -/
theorem Sim.move (h : Sim G K w0 r H w) {l : Nat} {o o' : AObj} {pl pl' : Pl} (hl : H.obj l = some o) (hr : r l = some pl) (ho : o.own = true)
    (hb : pl'.b = pl.b) (hx : ORel K (r.add H.next pl') w pl' o') : Sim G K w0 (r.add H.next pl') ((H.set l none).push o') w := by
  have hle := h.le_add pl'
  have hlt : l < H.next := h.name l pl hr
  have key : ∀ i x, ((H.set l none).push o').obj i = some x → (i = H.next ∧ x = o') ∨ (i ≠ H.next ∧ i ≠ l ∧ H.obj i = some x) := by
    intro i x hi
    have hi : (if i = H.next then some o' else if i = l then none else H.obj i) = some x := hi
    by_cases e : i = H.next
    · rw [if_pos e] at hi; cases hi; exact .inl ⟨e, rfl⟩
    · rw [if_neg e] at hi
      by_cases e2 : i = l
      · rw [if_pos e2] at hi; cases hi
      · rw [if_neg e2] at hi; exact .inr ⟨e, e2, hi⟩
  have old : ∀ i p, r.add H.next pl' i = some p → i ≠ H.next → r i = some p := by
    intro i p hp' hne
    simpa [Ren.add, hne] using hp'
  refine ⟨h.kept, h.kin, fun i x hi => ?_, fun i i' x x' p p' hi hi' hp1 hp2 hown hne => ?_, fun i p hi => ?_, fun i p hi hG => ?_, ?_, h.tab, h.froz, fun i x p b q v hi hown hp1 hz => ?_⟩
  · rcases key i x hi with ⟨rfl, rfl⟩ | ⟨_, _, hi⟩
    · exact ⟨pl', add_same _ _ _, hx⟩
    · obtain ⟨p, h1, h2⟩ := h.obj i x hi
      exact ⟨p, hle.f _ _ h1, h2.frame hle rfl⟩
  · rcases key i x hi with ⟨e1, e2⟩ | ⟨hn1, hn1', ha⟩ <;> rcases key i' x' hi' with ⟨e3, e4⟩ | ⟨hn2, hn2', hc⟩
    · exact absurd (e1.trans e3.symm) hne
    · rw [e1, add_same] at hp1; cases hp1
      rw [hb]
      exact h.sep l i' o x' pl p' hl hc hr (old _ _ hp2 hn2) ho (fun e => hn2' e.symm)
    · rw [e3, add_same] at hp2; cases hp2
      rw [hb]
      exact (h.sep l i o x pl p hl ha hr (old _ _ hp1 hn1) ho (fun e => hn1' e.symm)).symm
    · exact h.sep _ _ _ _ _ _ ha hc (old _ _ hp1 hn1) (old _ _ hp2 hn2) hown hne
  · simp only [Ren.add] at hi
    simp only [AHeap.push, AHeap.set]
    split at hi
    · omega
    · have := h.name i p hi; omega
  · simp only [Ren.add] at hi
    split at hi
    · have := h.free; omega
    · exact h.glob i p hi hG
  · have := h.free; simp only [AHeap.push, AHeap.set]; omega
  · rcases key i x hi with ⟨e1, e2⟩ | ⟨hn1, hn1', ha⟩
    · rw [e1, add_same] at hp1; cases hp1
      rw [hb]; exact h.fsep l o pl b q v hl ho hr hz
    · exact h.fsep i x p b q v ha hown (old _ _ hp1 hn1) hz
end
theorem heap_old (w : World) (o : Obj) (k : Nat) (hk : k < w.heap.size) : (w.alloc o).heap[k]? = w.heap[k]? := Below.heap_alloc _ _ _ hk
/-! ### the program's tables -/
def constTabs : List (String × IntKind × List Int) := [("internal/strconv.uint64pow10", .u64, Lib.pow10Tab)]
def errVars : List String := ["strconv.ErrSyntax", "strconv.ErrRange"]
def intVars : List String := ["internal/bytealg.MaxLen"]
structure TabW (P : Program) (K : Nat → Prop) (w0 : World) : Prop where
  kept : ∀ g, g < P.globals.size → K g
  tabs : ∀ nm k zs, (nm, k, zs) ∈ constTabs → ∀ g, P.globalNamed nm = some g → Lib.TabIs P w0 nm k zs
  errs : ∀ nm, nm ∈ errVars → ∀ g, P.globalNamed nm = some g → ∃ ev, w0.cell? ⟨g, 0, none⟩ = some ev ∧ (ev = .nilIface ∨ ∃ te pe, ev = .iface te pe)
  ints : ∀ nm, nm ∈ intVars → ∀ g, P.globalNamed nm = some g → ∃ m, w0.cell? ⟨g, 0, none⟩ = some (.int .i64 m)
def bs (P : Program) : Bs := ⟨P.globals.size, TabW P⟩
theorem bs_size (P : Program) : (bs P).size = P.globals.size := rfl
end Go.AK
