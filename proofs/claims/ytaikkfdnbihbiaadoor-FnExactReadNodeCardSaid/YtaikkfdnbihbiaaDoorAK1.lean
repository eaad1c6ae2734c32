/- One operation on an abstract heap ('pop'). Definitions. -/
import Derived.Test.YtaikkfdnbihbiaaDoorAK0
namespace Go.AK
set_option linter.unusedVariables false
set_option linter.unusedSimpArgs false
open Go Go.RowKit

/-! ### computations that look at nothing but the program -/
def pureRun (P : Program) {α : Type} : Sem α → Option α
  | .pure a => some a
  | .program k => pureRun P (k P)
  | _ => none
theorem pureRun_sound {P : Program} {α : Type} {s : Sem α} {a : α} (h : pureRun P s = some a) (w : World) : s.run P w = .ok a w := by
  induction s with
  | pure b => simp only [pureRun, Option.some.injEq] at h; subst h; rfl
  | program k ih => exact ih P h
  | _ => simp [pureRun] at h
theorem pureRun_bind' (P : Program) {α β : Type} (s : Sem α) (f : α → Sem β) : pureRun P (s.bind f) = (pureRun P s).bind fun a => pureRun P (f a) := by
  induction s with
  | pure b => rfl
  | program k ih => exact ih P
  | _ => rfl
theorem pureRun_bind (P : Program) {α β : Type} (s : Sem α) (f : α → Sem β) : pureRun P (s >>= f) = (pureRun P s).bind fun a => pureRun P (f a) := pureRun_bind' P s f
theorem pureRun_pure (P : Program) {α : Type} (a : α) : pureRun P (pure a : Sem α) = some a := rfl
theorem pureRun_spure (P : Program) {α : Type} (a : α) : pureRun P (Sem.pure a) = some a := rfl
theorem pureRun_underlying {P : Program} {t : TypeId} {d : TypeDesc} (h : P.underlying t = some d) : pureRun P (underlying t) = some d := by
  simp only [underlying, pureRun_bind, program, pureRun, Option.bind_some, h]; rfl

/-! ### types -/
inductive TK where
  | bool
  | int (k : IntKind)
  | string
  | pointer (e : Nat)
  | slice (e : Nat)
  | map (k v : Nat)
  | struct (fs : List (Nat × Nat × Bool))
  | array (n e : Nat)
  | other
structure Ty where
  k : TK
  size : Nat
  bytes : Nat
  zero : Value
  zok : Bool
def TK.of (P : Program) : TypeDesc → TK
  | .bool => .bool
  | .int k => .int k
  | .string => .string
  | .pointer e => .pointer e
  | .slice e => .slice e
  | .map a b => .map a b
  | .struct fs => .struct (fs.toList.map fun f => (f.offset, f.type, P.cellsOf f.type != 0))
  | .array n e => .array n e
  | _ => .other
def tyOf (P : Program) (t : Nat) : Option Ty :=
  match P.underlying t, P.info? t with
  | some d, some i => match i.zero with
    | some z => some ⟨TK.of P d, i.size, i.bytes, z, z.cells.toList.length == i.size && z.cells.toList.all scal⟩
    | none => none
  | _, _ => none
def Ty.agg (t : Ty) : Bool := match t.k with | .struct _ | .array _ _ => true | _ => false

/-! ### operands -/
def scalD : Value → Bool
  | .agg cs => cs.all scal
  | v => scal v
def evo (P : Program) (e : Env) (H : AHeap) : Operand → Option Value
  | .tmp t => some (e t)
  | .const v => if scalD v then some v else none
  | .global g => if (H.obj g).isSome && decide (g < P.globals.size) then some (.pointer (some ⟨g, 0, some 0⟩)) else none
  | .func f => some (.func (.func f) #[] #[])

/-! ### memory -/
def elemAt (H : AHeap) (l i : Nat) : Option (List Value) :=
  match H.obj l with
  | some (.row _ es _) => es[i]?
  | _ => none
/-- a value of k cells out of a list of cells -/
def cut (agg : Bool) (cs : List Value) (j k : Nat) : Option Value :=
  if agg then (if j + k ≤ cs.length then some (.agg ((cs.drop j).take k).toArray) else none) else cs[j]?
def loadA (P : Program) (H : AHeap) (t : TypeId) : Value → Option Value
  | .pointer (some ⟨l, i, some j⟩) => match tyOf P t, elemAt H l i with
    | some ty, some cs => cut ty.agg cs j ty.size
    | _, _ => none
  | .func (.methodOf _ _) fs xs => match tyOf P t, inpOf fs xs with
    | some ty, some (cs, j) => cut ty.agg cs j ty.size
    | _, _ => none
  | _ => none
def oneCells (l : List Value) : Bool := l.all (·.oneCell')
def storeA (P : Program) (H : AHeap) (t : TypeId) (v : Value) : Value → Option AHeap
  | .pointer (some ⟨l, i, some j⟩) => match tyOf P t, H.obj l with
    | some ty, some (.row esz es true) => match es[i]? with
      | some cs => if v.cells.toList.length = ty.size ∧ j + ty.size ≤ cs.length ∧ oneCells v.cells.toList = true then
          some (H.set l (some (.row esz (es.set i (cs.take j ++ v.cells.toList ++ cs.drop (j + ty.size))) true))) else none
      | none => none
    | _, _ => none
  | _ => none
/-- a new variable that holds a value -/
def boxA (P : Program) (H : AHeap) (t : TypeId) (v : Value) : Option (Value × AHeap) :=
  match tyOf P t with
  | some ty => if v.cells.toList.length = ty.size ∧ oneCells v.cells.toList = true then
      some (.pointer (some ⟨H.next, 0, some 0⟩), H.push (.row ty.size [v.cells.toList] true)) else none
  | none => none

/-! ### slices -/
def slLen : Value → Option Nat
  | .slice _ n _ => some n
  | .func (.method _) fs _ => some fs.size
  | _ => none
def eszOf (H : AHeap) (l : Nat) : Option Nat :=
  match H.obj l with
  | some (.row z _ _) => some z
  | _ => none
def elAddr (H : AHeap) (z : Nat) : Value → Int → Option Value
  | .slice (some ⟨l, o, none⟩) n _, i => if eszOf H l = some z ∧ 0 ≤ i ∧ i < (n : Int) then some (.pointer (some ⟨l, o + i.toNat, some 0⟩)) else none
  | .func (.method _) fs xs, i => if (inlZ xs).map (·.1) = some z ∧ 0 ≤ i ∧ i < (fs.size : Int) then (inlE fs)[i.toNat]?.map (inp · 0) else none
  | _, _ => none
/-- the elements of a slice -/
def elems (H : AHeap) (esz : Nat) : Value → Option (List (List Value))
  | .slice none 0 _ => some []
  | .slice (some ⟨l, o, none⟩) n _ => match H.obj l with
    | some (.row z es _) => if z = esz ∧ o + n ≤ es.length then some ((es.drop o).take n) else none
    | _ => none
  | .func (.method _) fs xs => if (inlZ xs).map (·.1) = some esz then some (inlE fs) else none
  | _ => none
/-- the cells of a string, an element each -/
def strElems (s : ByteArray) : List (List Value) := s.data.toList.map fun b => [Value.int .u8 b.toNat]
/-- append: the old location is used up -/
def appendA (H : AHeap) (esz bytes : Nat) (v : Value) (news : List (List Value)) : Option (Value × AHeap) :=
  match v with
  | .slice none 0 0 =>
    if news = [] then some (v, H)
    else if news.length * bytes ≤ 140737488355328 ∧ news.length ≤ 140737488355328 then
      some (.slice (some ⟨H.next, 0, none⟩) news.length 1, H.push (.row esz news true)) else none
  | .slice (some ⟨l, o, none⟩) n c =>
    match H.obj l with
    | some (.row z es own) =>
      if news = [] then some (v, H)
      else if z = esz ∧ (n + news.length) * bytes ≤ 140737488355328 ∧ n + news.length ≤ 140737488355328 then
        (if n = 0 ∧ c = 0 then some (.slice (some ⟨H.next, 0, none⟩) news.length 1, H.push (.row esz news true))
        else if own = true ∧ o + n = es.length then
          some (.slice (some ⟨H.next, 0, none⟩) (n + news.length) 1, (H.set l none).push (.row esz (es.drop o ++ news) true))
        else none)
      else none
    | _ => none
  | .func (.method _) fs xs => match inlZ xs with
    | some (z, c) =>
      if news = [] then some (v, H)
      else if z = esz ∧ c = 0 ∧ (fs.size + news.length) * bytes ≤ 140737488355328 ∧ fs.size + news.length ≤ 140737488355328 then
        some (.slice (some ⟨H.next, 0, none⟩) (fs.size + news.length) 1, H.push (.row esz (inlE fs ++ news) true))
      else none
    | none => none
  | _ => none
def sliceA (H : AHeap) (esz : Nat) (v : Value) (lo hi : Option Int) : Option Value :=
  match v with
  | .slice a n c =>
    let h : Int := hi.getD n
    let l : Int := lo.getD 0
    if 0 ≤ l ∧ l ≤ h ∧ h ≤ (n : Int) then
      (match a with
      | none => some (.slice none 0 0)
      | some ⟨k, o, none⟩ => if eszOf H k = some esz then some (.slice (some ⟨k, o + l.toNat, none⟩) (h - l).toNat (if c = 0 then 0 else 1)) else none
      | _ => none)
    else none
  | .func (.method _) fs xs =>
    let h : Int := hi.getD fs.size
    let l : Int := lo.getD 0
    if (inlZ xs).map (·.1) = some esz ∧ 0 ≤ l ∧ l ≤ h ∧ h ≤ (fs.size : Int) then some (inl esz 1 (((inlE fs).drop l.toNat).take (h - l).toNat)) else none
  | _ => none
/-- a slice with nothing behind it -/
def slice3A (H : AHeap) (esz : Nat) (v : Value) (lo hi mx : Option Int) : Option Value :=
  match v with
  | .func (.method _) fs xs =>
    let l : Int := lo.getD 0
    match hi, mx with
    | some h, some m => if h = m ∧ (inlZ xs).map (·.1) = some esz ∧ 0 ≤ l ∧ l ≤ h ∧ h ≤ (fs.size : Int) then some (inl esz 0 (((inlE fs).drop l.toNat).take (h - l).toNat)) else none
    | _, _ => none
  | .slice none 0 0 => match lo, hi, mx with
    | none, some 0, some 0 => some (.slice none 0 0)
    | some 0, some 0, some 0 => some (.slice none 0 0)
    | _, _, _ => none
  | .slice (some ⟨k, o, none⟩) _ _ => match hi, mx with
    | some 0, some 0 => if (lo = none ∨ lo = some 0) ∧ eszOf H k = some esz then some (.slice (some ⟨k, o, none⟩) 0 0) else none
    | _, _ => none
  | _ => none

/-! ### the pure operations -/
def res (P : Program) (s : Sem Value) : Option Value := (pureRun P s).bind fun v => if scalD v then some v else none
/-- something compared with nil -/
def nilEq (P : Program) (t : TypeId) (a b : Value) : Bool := match a, b with
  | .iface _ _, .nilIface => (P.underlying t matches some (.interface _))
  | .nilIface, .iface _ _ => (P.underlying t matches some (.interface _))
  | .pointer (some _), .pointer none => (P.underlying t matches some (.pointer _))
  | .pointer none, .pointer (some _) => (P.underlying t matches some (.pointer _))
  | .slice (some _) _ _, .slice none 0 0 => (P.underlying t matches some (.slice _))
  | .slice none 0 0, .slice (some _) _ _ => (P.underlying t matches some (.slice _))
  | .map (some _), .map none => (P.underlying t matches some (.map _ _))
  | .map none, .map (some _) => (P.underlying t matches some (.map _ _))
  | _, _ => false
def bin (P : Program) (op : BinOp) (t : TypeId) (x y : Operand) (a b : Value) : Option Value :=
  if nilEq P t a b = true then (match op with
    | .eql => some (.bool false)
    | .neq => some (.bool true)
    | _ => none)
  else if scalD a && scalD b then res P (do eqGuard op t x y a b; binOp op t a b) else none
def un (P : Program) (op : UnOp) (a : Value) : Option Value := if scalD a then res P (Op.unary op a) else none
def conv (P : Program) (src dst : TypeId) (a : Value) : Option Value := if scalD a then res P (convert src dst a) else none
def idx (P : Program) (t : TypeId) (a b : Value) : Option Value := if scalD a && scalD b then res P (Instr.index t a b) else none
def optScal : Option Value → Bool
  | some v => scalD v
  | none => true
def strSl (P : Program) (t : TypeId) (a : Value) (lo hi : Option Value) : Option Value :=
  if scalD a && optScal lo && optScal hi then res P (Instr.sliceAt t a lo hi none) else none
def blt (P : Program) (b : Builtin) (ts : Array TypeId) (t : TypeId) (vs : Array Value) : Option Value :=
  if vs.all scalD then (pureRun P (builtin b ts t #[] vs)).bind (fun | .value v => if scalD v then some v else none | _ => none) else none

def evos (P : Program) (e : Env) (H : AHeap) (xs : List Operand) : Option (List Value) := xs.mapM (evo P e H)
def kind (P : Program) (t : TypeId) : Option TK := (tyOf P t).map (·.k)
def byteOf : List Value → Option UInt8
  | [.int .u8 n] => some (UInt8.ofNat n.toNat)
  | _ => none
def convA.bytesOf (es : List (List Value)) : Option ByteArray :=
  (es.mapM byteOf).map fun (l : List UInt8) => ⟨l.toArray⟩
/-- []byte(s), string(b); else what looks at nothing -/
def convA (P : Program) (H : AHeap) (src dst : TypeId) (v : Value) : Option (Value × AHeap) :=
  match kind P src, kind P dst, v with
  | some .string, some (.slice el), .string s =>
    if kind P el matches some (.int .u8) then
      some (.slice (some ⟨H.next, 0, none⟩) s.size 1, H.push (.row 1 (strElems s) true)) else none
  | some (.slice el), some .string, v =>
    if kind P el matches some (.int .u8) then
      match elems H 1 v with
      | some es => match convA.bytesOf es with
        | some s => some (.string s, H)
        | none => none
      | none => none
    else none
  | _, _, v => (conv P src dst v).map (·, H)
def fieldA (P : Program) (s : TypeId) (f : Nat) : Value → Option Value
  | .pointer (some ⟨l, i, some j⟩) => match kind P s with
    | some (.struct fs) => match fs[f]? with
      | some (off, _, true) => some (.pointer (some ⟨l, i, some (j + off)⟩))
      | _ => none
    | _ => none
  | .func (.methodOf _ _) us xs => match kind P s, inpOf us xs with
    | some (.struct fs), some (cs, j) => match fs[f]? with
      | some (off, _, true) => some (inp cs (j + off))
      | _ => none
    | _, _ => none
  | _ => none
def fieldV (P : Program) (s : TypeId) (f : Nat) : Value → Option Value
  | .agg cs => match kind P s with
    | some (.struct fs) => match fs[f]? with
      | some (off, ft, _) => match tyOf P ft with
        | some ty => cut ty.agg cs.toList off ty.size
        | none => none
      | none => none
    | _ => none
  | _ => none
def indexA (P : Program) (H : AHeap) (t : TypeId) (v : Value) (n : Int) : Option Value :=
  match kind P t, v with
  | some (.slice el), v => match tyOf P el with
    | some ty => elAddr H ty.size v n
    | none => none
  | some (.array len el), .pointer (some ⟨l, i, some j⟩) => match tyOf P el with
    | some ty => if 0 ≤ n ∧ n < (len : Int) then some (.pointer (some ⟨l, i, some (j + n.toNat * ty.size)⟩)) else none
    | none => none
  | some (.array len el), .func (.methodOf _ _) fs xs => match tyOf P el, inpOf fs xs with
    | some ty, some (cs, j) => if 0 ≤ n ∧ n < (len : Int) then some (inp cs (j + n.toNat * ty.size)) else none
    | _, _ => none
  | _, _ => none
def intOpt : Option Value → Option (Option Int)
  | none => some none
  | some (.int _ n) => some (some n)
  | _ => none
def evoOpt (P : Program) (e : Env) (H : AHeap) : Option Operand → Option (Option Value)
  | none => some none
  | some x => (evo P e H x).map some
def slA (P : Program) (H : AHeap) (t : TypeId) (v : Value) (lo hi : Option Value) : Option Value :=
  match kind P t with
  | some .string => strSl P t v lo hi
  | some (.slice el) => match intOpt lo, intOpt hi with
    | some l, some h => match tyOf P el with
      | some ty => sliceA H ty.size v l h
      | none => none
    | _, _ => none
  | _ => none
def sl3A (P : Program) (H : AHeap) (t : TypeId) (v : Value) (lo hi mx : Option Value) : Option Value :=
  match kind P t with
  | some (.slice el) => match intOpt lo, intOpt hi, intOpt mx with
    | some l, some h, some m => match tyOf P el with
      | some ty => slice3A H ty.size v l h m
      | none => none
    | _, _, _ => none
  | _ => none
def makeSl (P : Program) (H : AHeap) (t : TypeId) (n c : Value) : Option (Value × AHeap) :=
  match kind P t, n, c with
  | some (.slice el), .int _ n, .int _ c => match tyOf P el with
    | some ty => if 0 ≤ n ∧ n ≤ c ∧ c * ty.bytes ≤ 140737488355328 ∧ c ≤ 140737488355328 ∧ 0 < ty.size ∧ ty.zok = true then
        some (.slice (some ⟨H.next, 0, none⟩) n.toNat 1, H.push (.row ty.size (List.replicate n.toNat ty.zero.cells.toList) true)) else none
    | none => none
  | _, _, _ => none
def popB (P : Program) (b : Builtin) (args : List Operand) (ts : List TypeId) (e : Env) (H : AHeap) : Option (Value × AHeap) :=
  match b, args, ts with
  | .len, [x], [t] => (evo P e H x).bind fun a => match kind P t with
    | some .string => match a with
      | .string s => some (.int .i64 s.size, H)
      | _ => none
    | some (.slice _) => (slLen a).map fun n => (.int .i64 n, H)
    | _ => none
  | .append, [x, y], [t, u] => (evo P e H x).bind fun a => (evo P e H y).bind fun b =>
    match kind P t with
    | some (.slice el) => match tyOf P el with
      | some ty => match kind P u with
        | some (.slice _) => (elems H ty.size b).bind fun ns => if 0 < ty.size ∧ ty.zok = true then appendA H ty.size ty.bytes a ns else none
        | some .string => match b with
          | .string s => if ty.size = 1 ∧ ty.zok = true then appendA H 1 ty.bytes a (strElems s) else none
          | _ => none
        | _ => none
      | none => none
    | _ => none
  | .min, [x, y], _ => (evo P e H x).bind fun a => (evo P e H y).bind fun b => match a, b with
    | .int k m, .int k' n => if k = k' then some (.int k (if n < m then n else m), H) else none
    | _, _ => none
  | .max, [x, y], _ => (evo P e H x).bind fun a => (evo P e H y).bind fun b => match a, b with
    | .int k m, .int k' n => if k = k' then some (.int k (if n > m then n else m), H) else none
    | _, _ => none
  | _, _, _ => none
/-! ### literals -/
def partsA (P : Program) (e : Env) (H : AHeap) : List (Nat × Operand) → Option (List (Nat × Value))
  | [] => some []
  | (i, x) :: l => (evo P e H x).bind fun v => (partsA P e H l).map ((i, v) :: ·)
def fillA (place : Nat → Option (Nat × Nat)) : List Value → List (Nat × Value) → Option (List Value)
  | cs, [] => some cs
  | cs, (i, v) :: rest => match place i with
    | some (off, size) => if v.cells.toList.length = size ∧ off + size ≤ cs.length then fillA place (cs.take off ++ v.cells.toList ++ cs.drop (off + size)) rest else none
    | none => none
def placesA (P : Program) : List (Nat × Nat × Bool) → Option (List (Nat × Nat))
  | [] => some []
  | (off, t, _) :: fs => match tyOf P t, placesA P fs with
    | some y, some ps => some ((off, y.size) :: ps)
    | _, _ => none
def buildA (P : Program) (t : TypeId) (parts : List (Nat × Value)) : Option Value := match tyOf P t with
  | some y => if y.zok = true then (match y.k with
    | .struct fs => match placesA P fs with
      | some ps => (fillA (fun i => ps[i]?) y.zero.cells.toList parts).map fun l => .agg l.toArray
      | none => none
    | .array _ el => match tyOf P el with
      | some ye => (fillA (fun i => some (i * ye.size, ye.size)) y.zero.cells.toList parts).map fun l => .agg l.toArray
      | none => none
    | _ => none) else none
  | none => none
def denseA (z : Nat) : Nat → List (Nat × Value) → Option (List (List Value))
  | _, [] => some []
  | k, (i, v) :: rest => if i = k ∧ v.cells.toList.length = z ∧ oneCells v.cells.toList = true then (denseA z (k + 1) rest).map (v.cells.toList :: ·) else none
def buildSlA (P : Program) (H : AHeap) (t : TypeId) (len : Nat) (parts : List (Nat × Value)) : Option (Value × AHeap) := match kind P t with
  | some (.slice el) => match tyOf P el with
    | some y => match denseA y.size 0 parts with
      | some es => if es.length = len ∧ len * y.size ≤ 16777216 ∧ 0 < y.size ∧ y.zok = true then
          some (.slice (some ⟨H.next, 0, none⟩) len 1, H.push (.row y.size es true)) else none
      | none => none
    | none => none
  | _ => none
def pop (P : Program) (op : Op) (ty : TypeId) (e : Env) (H : AHeap) : Option (Value × AHeap) :=
  match op with
  | .move x => (evo P e H x).map (·, H)
  | .assign x => (evo P e H x).map (·, H)
  | .pick c a b => match evo P e H c, evo P e H a, evo P e H b with
    | some (.bool t), some u, some v => some (if t = true then u else v, H)
    | _, _, _ => none
  | .load t x => (evo P e H x).bind fun a => (loadA P H t a).map (·, H)
  | .store t x y => (evo P e H x).bind fun a => (evo P e H y).bind fun v => (storeA P H t v a).map (Go.undef, ·)
  | .alloc t => (tyOf P t).bind fun y => if y.zok = true then boxA P H t y.zero else none
  | .box t x => (evo P e H x).bind (boxA P H t)
  | .nilCheck x => (evo P e H x).bind fun v => match v with
    | .pointer (some a) => some (v, H)
    | .func (.methodOf _ _) _ _ => some (v, H)
    | _ => none
  | .binOp op t x y _ => (evo P e H x).bind fun a => (evo P e H y).bind fun b => (bin P op t x y a b).map (·, H)
  | .unOp op _ x => (evo P e H x).bind fun a => (un P op a).map (·, H)
  | .convert src dst x => (evo P e H x).bind fun a => convA P H src dst a
  | .fieldAddr s x f => (evo P e H x).bind fun a => (fieldA P s f a).map (·, H)
  | .field s x f => (evo P e H x).bind fun a => (fieldV P s f a).map (·, H)
  | .indexAddr t x i => (evo P e H x).bind fun a => (evo P e H i).bind fun b => match b with
    | .int _ n => (indexA P H t a n).map (·, H)
    | _ => none
  | .index t x i => (evo P e H x).bind fun a => (evo P e H i).bind fun b => (idx P t a b).map (·, H)
  | .slice t x lo hi none => (evo P e H x).bind fun a => (evoOpt P e H lo).bind fun l => (evoOpt P e H hi).bind fun h => (slA P H t a l h).map (·, H)
  | .slice t x lo hi (some mx) => (evo P e H x).bind fun a => (evoOpt P e H lo).bind fun l => (evoOpt P e H hi).bind fun h => (evo P e H mx).bind fun m => (sl3A P H t a l h (some m)).map (·, H)
  | .extract x i => (evo P e H x).bind fun a => match a with
    | .tuple vs => vs[i]?.map (·, H)
    | _ => none
  | .build t parts => (partsA P e H parts.toList).bind fun ps => (buildA P t ps).map (·, H)
  | .buildSlice t len parts => (partsA P e H parts.toList).bind fun ps => buildSlA P H t len ps
  | .makeSlice t n c => (evo P e H n).bind fun n => (evo P e H c).bind fun c => makeSl P H t n c
  | .call c => match c.callee with
    | .builtin b => popB P b c.args.toList c.argTypes.toList e H
    | _ => none
  | _ => none
end Go.AK
