/- What simp evaluates. -/
import Derived.Test.YtaikkfdnbihbiaaDoorAKA
import Derived.Laws.Strings
namespace Go.AK
set_option linter.unusedVariables false
set_option linter.unusedSimpArgs false
open Go Go.RowKit

section
variable (P : Program) (t : TypeId) (x y : Operand) (k : IntKind) (a b : Int)
theorem res_pure {P : Program} {s : Sem Value} {v : Value} (h : s = pure v) (hv : scalD v = true) : res P s = some v := by
  subst h; simp only [res, pureRun_pure, Option.bind_some, hv, if_true]
@[go_sem] theorem bin_add : bin P .add t x y (.int k a) (.int k b) = some (.int k (k.wrap (a + b))) := by simp [bin, nilEq, scalD, scal, res, pureRun_bind, eqGuard, binOp, Op.intArith, pureRun_pure]
@[go_sem] theorem bin_sub : bin P .sub t x y (.int k a) (.int k b) = some (.int k (k.wrap (a - b))) := by simp [bin, nilEq, scalD, scal, res, pureRun_bind, eqGuard, binOp, Op.intArith, pureRun_pure]
@[go_sem] theorem bin_mul : bin P .mul t x y (.int k a) (.int k b) = some (.int k (k.wrap (a * b))) := by simp [bin, nilEq, scalD, scal, res, pureRun_bind, eqGuard, binOp, Op.intArith, pureRun_pure]
@[go_sem] theorem bin_quo (h : b ≠ 0) : bin P .quo t x y (.int k a) (.int k b) = some (.int k (k.wrap (a.tdiv b))) := by simp [bin, nilEq, scalD, scal, res, pureRun_bind, eqGuard, binOp, Op.intDiv, pureRun_pure, h]
@[go_sem] theorem bin_rem (h : b ≠ 0) : bin P .rem t x y (.int k a) (.int k b) = some (.int k (a.tmod b)) := by simp [bin, nilEq, scalD, scal, res, pureRun_bind, eqGuard, binOp, Op.intDiv, pureRun_pure, h]
@[go_sem] theorem bin_lss : bin P .lss t x y (.int k a) (.int k b) = some (.bool (decide (a < b))) := by simp [bin, nilEq, scalD, scal, res, pureRun_bind, eqGuard, binOp, Op.intCmp, pureRun_pure]
@[go_sem] theorem bin_leq : bin P .leq t x y (.int k a) (.int k b) = some (.bool (decide (a ≤ b))) := by simp [bin, nilEq, scalD, scal, res, pureRun_bind, eqGuard, binOp, Op.intCmp, pureRun_pure]
@[go_sem] theorem bin_gtr : bin P .gtr t x y (.int k a) (.int k b) = some (.bool (decide (b < a))) := by simp [bin, nilEq, scalD, scal, res, pureRun_bind, eqGuard, binOp, Op.intCmp, pureRun_pure]
@[go_sem] theorem bin_geq : bin P .geq t x y (.int k a) (.int k b) = some (.bool (decide (b ≤ a))) := by simp [bin, nilEq, scalD, scal, res, pureRun_bind, eqGuard, binOp, Op.intCmp, pureRun_pure]
@[go_sem] theorem bin_eql : bin P .eql t x y (.int k a) (.int k b) = some (.bool (decide (a = b))) := by simp [bin, nilEq, scalD, scal, res, pureRun_bind, eqGuard, binOp, Op.intCmp, pureRun_pure, BEq.beq]
@[go_sem] theorem bin_neq : bin P .neq t x y (.int k a) (.int k b) = some (.bool (!decide (a = b))) := by simp [bin, nilEq, scalD, scal, res, pureRun_bind, eqGuard, binOp, Op.intCmp, pureRun_pure, bne]; rfl
variable (s u : ByteArray)
theorem beq_str : (s.toList == u.toList) = decide (s = u) := by
  have hl : ∀ z : ByteArray, z.toList = z.data.toList := ByteArray.toList_eq
  rw [Bool.eq_iff_iff]
  simp only [beq_iff_eq, decide_eq_true_eq, hl]
  constructor
  · intro h
    cases s; cases u
    simp only at h
    congr 1
    exact Array.toList_inj.1 h
  · intro h; rw [h]
@[go_sem] theorem bin_eql_str : bin P .eql t x y (.string s) (.string u) = some (.bool (decide (s = u))) := by simp [bin, nilEq, scalD, scal, res, pureRun_bind, eqGuard, binOp, Op.stringOp, pureRun_pure, beq_str]
@[go_sem] theorem bin_neq_str : bin P .neq t x y (.string s) (.string u) = some (.bool (!decide (s = u))) := by simp [bin, nilEq, scalD, scal, res, pureRun_bind, eqGuard, binOp, Op.stringOp, pureRun_pure, beq_str]
@[go_sem] theorem bin_geq_str : bin P .geq t x y (.string s) (.string u) = some (.bool (!Op.bytesLess s.toList u.toList)) := by simp [bin, nilEq, scalD, scal, res, pureRun_bind, eqGuard, binOp, Op.stringOp, pureRun_pure]
@[go_sem] theorem bin_add_str (h : s.size + u.size ≤ 9223372036854775807) : bin P .add t x y (.string s) (.string u) = some (.string (s ++ u)) := by
  have h' : ¬ (9223372036854775807 < ((s.size : Int) + (u.size : Int))) := by omega
  simp [bin, nilEq, scalD, scal, res, pureRun_bind, eqGuard, binOp, Op.stringOp, pureRun_pure, h']
theorem eqT {a b : Value} (h : ∀ d, pureRun P (Op.equalIn (d + 1) t a b) = some true) (h1 : binOp .eql t a b = (do pure (.bool (← Op.equal t a b)))) (h2 : binOp .neq t a b = (do pure (.bool (!(← Op.equal t a b))))) :
    pureRun P (binOp .eql t a b) = some (.bool true) ∧ pureRun P (binOp .neq t a b) = some (.bool false) := by
  obtain ⟨d, hd⟩ := equal_step
  rw [h1, h2]
  simp only [pureRun_bind, hd, h, Option.bind_some, pureRun_pure, Bool.not_true, and_self]
theorem nilIface_eq {ms : Array (String × TypeId)} (hu : P.underlying t = some (.interface ms)) : pureRun P (binOp .eql t .nilIface .nilIface) = some (.bool true) ∧ pureRun P (binOp .neq t .nilIface .nilIface) = some (.bool false) :=
  eqT P t (fun d => by unfold Op.equalIn; simp only [pureRun_bind, pureRun_underlying hu, Option.bind_some, pureRun_pure]) rfl rfl
theorem bin_eql_nilIface {ms : Array (String × TypeId)} (v : Value) (hu : P.underlying t = some (.interface ms)) : bin P .eql t x (.const v) .nilIface .nilIface = some (.bool true) := by
  simp [bin, nilEq, scalD, scal, res, pureRun_bind, eqGuard, pureRun_pure, nilIface_eq P t hu]
theorem bin_neq_nilIface {ms : Array (String × TypeId)} (v : Value) (hu : P.underlying t = some (.interface ms)) : bin P .neq t x (.const v) .nilIface .nilIface = some (.bool false) := by
  simp [bin, nilEq, scalD, scal, res, pureRun_bind, eqGuard, pureRun_pure, nilIface_eq P t hu]
theorem bin_eql_iface {ms : Array (String × TypeId)} (u : TypeId) (v : Value) (hu : P.underlying t = some (.interface ms)) : bin P .eql t x y (.iface u v) .nilIface = some (.bool false) := by simp [bin, nilEq, hu]
theorem bin_neq_iface {ms : Array (String × TypeId)} (u : TypeId) (v : Value) (hu : P.underlying t = some (.interface ms)) : bin P .neq t x y (.iface u v) .nilIface = some (.bool true) := by simp [bin, nilEq, hu]
theorem bin_eql_slice {el : TypeId} (u : Addr) (n c : Nat) (hu : P.underlying t = some (.slice el)) : bin P .eql t x y (.slice (some u) n c) (.slice none 0 0) = some (.bool false) := by simp [bin, nilEq, hu]
theorem bin_neq_slice {el : TypeId} (u : Addr) (n c : Nat) (hu : P.underlying t = some (.slice el)) : bin P .neq t x y (.slice (some u) n c) (.slice none 0 0) = some (.bool true) := by simp [bin, nilEq, hu]
variable (p q : Bool)
@[go_sem] theorem un_not : un P .not (.bool p) = some (.bool (!p)) := id rfl
/-- a byte of a string -/
def bt (s : ByteArray) (i : Nat) : Int := ((s.data[i]?).getD 0).toNat
theorem bt_lo (s : ByteArray) (i : Nat) : 0 ≤ bt s i := by simp [bt]
theorem bt_hi (s : ByteArray) (i : Nat) : bt s i < 256 := by
  unfold bt
  have := UInt8.toNat_lt ((s.data[i]?).getD 0)
  omega
end
section
variable {P : Program} {t : TypeId}
theorem idx_str (h : P.underlying t = some .string) (k : IntKind) (s : ByteArray) (i : Int) (h0 : 0 ≤ i) (h1 : i < s.size) : idx P t (.string s) (.int k i) = some (.int .u8 (bt s i.toNat)) := by
  have hb : s[i.toNat]? = some ((s.data[i.toNat]?).getD 0) := by
    have hlt : i.toNat < s.data.size := by have : s.size = s.data.size := rfl; omega
    have h2 : i.toNat < s.size := by omega
    rw [getElem?_pos s i.toNat h2, ByteArray.getElem_eq_getElem_data]
    rw [Array.getElem?_eq_getElem hlt]; rfl
  simp only [idx, scalD, scal, Bool.and_self, if_true, res, Instr.index, asIntOf, pureRun_bind, pureRun_pure, Option.bind_some, pureRun_underlying h, h0, hb]
  rfl
theorem strSl_none_hi (h : P.underlying t = some .string) (k : IntKind) (s : ByteArray) (j : Int) (h0 : 0 ≤ j) (h1 : j ≤ s.size) :
    strSl P t (.string s) none (some (.int k j)) = some (.string (s.extract 0 j.toNat)) := by
  have e2 : (0 : Nat) ≤ j.toNat := Nat.zero_le _
  simp only [strSl, scalD, scal, optScal, Bool.and_self, if_true, res, Instr.sliceAt, pureRun_bind, pureRun_underlying h, Option.bind_some, Instr.slice, Option.isSome_none, Bool.false_eq_true, if_false, pureRun_pure, Instr.sliceBounds,
    Instr.sliceBound, asIntOf, h0, h1, and_self]
theorem strSl_lo_none (h : P.underlying t = some .string) (k : IntKind) (s : ByteArray) (i : Int) (h0 : 0 ≤ i) (h1 : i ≤ s.size) :
    strSl P t (.string s) (some (.int k i)) none = some (.string (s.extract i.toNat s.size)) := by
  simp only [strSl, scalD, scal, optScal, Bool.and_self, if_true, res, Instr.sliceAt, pureRun_bind, pureRun_underlying h, Option.bind_some, Instr.slice, Option.isSome_none, Bool.false_eq_true, if_false, pureRun_pure, Instr.sliceBounds,
    Instr.sliceBound, asIntOf, h0, h1, and_self]
theorem strSl_lo_hi (h : P.underlying t = some .string) (k k' : IntKind) (s : ByteArray) (i j : Int) (h0 : 0 ≤ i) (h1 : i ≤ j) (h2 : j ≤ s.size) :
    strSl P t (.string s) (some (.int k i)) (some (.int k' j)) = some (.string (s.extract i.toNat j.toNat)) := by
  have h3 : 0 ≤ j := by omega
  have h4 : i ≤ (j.toNat : Int) := by omega
  simp only [strSl, scalD, scal, optScal, Bool.and_self, if_true, res, Instr.sliceAt, pureRun_bind, pureRun_underlying h, Option.bind_some, Instr.slice, Option.isSome_none, Bool.false_eq_true, if_false, pureRun_pure, Instr.sliceBounds,
    Instr.sliceBound, asIntOf, h0, h1, h2, h3, h4, and_self, Option.isSome_none]
end
/-! ### Booleans -/
@[go_sem] theorem ite_bool (c : Bool) (x y : Bool) : (if c = true then Value.bool x else Value.bool y) = .bool (if c = true then x else y) := by cases c <;> rfl
@[go_sem] theorem ite_and (c x : Bool) : (if c = true then x else false) = (c && x) := by cases c <;> rfl
@[go_sem] theorem ite_or (c x : Bool) : (if c = true then true else x) = (c || x) := by cases c <;> rfl
@[go_sem] theorem ite_int (c : Bool) (k : IntKind) (x y : Int) : (if c = true then Value.int k x else Value.int k y) = .int k (if c = true then x else y) := by cases c <;> rfl
@[go_sem] theorem ite_str (c : Bool) (x y : ByteArray) : (if c = true then Value.string x else Value.string y) = .string (if c = true then x else y) := by cases c <;> rfl
section
variable (P : Program) (Γ : Gam) (e : Env) (H : AHeap) (ty : TypeId) (all : List Oper)
theorem put_nb (e : Env) {k i : Nat} (v : Value) (h : (i == k) = false) : e.put (some k) v i = e i := put_ne e v (by simpa using h)
theorem initE_at (l : List Value) (i : Nat) : initE l i = (l[i]?).getD Go.undef := id rfl
@[go_sem ↓] theorem resVals_nil : resVals P e H [] = some [] := id rfl
@[go_sem ↓] theorem resVals_tmp (t : Tmp) (rs : List ResultVar) : resVals P e H (.tmp t :: rs) = (resVals P e H rs).map (e t :: ·) := id rfl
@[go_sem ↓] theorem resVals_cell (a : Tmp) (t : TypeId) (rs : List ResultVar) : resVals P e H (.cell a t :: rs) = (loadA P H t (e a)).bind fun v => (resVals P e H rs).map (v :: ·) := id rfl
@[go_sem ↓] theorem evo_tmp (t : Tmp) : evo P e H (.tmp t) = some (e t) := id rfl
@[go_sem ↓] theorem evo_bool (b : Bool) : evo P e H (.const (.bool b)) = some (.bool b) := id rfl
@[go_sem ↓] theorem evo_int (k : IntKind) (n : Int) : evo P e H (.const (.int k n)) = some (.int k n) := id rfl
@[go_sem ↓] theorem evo_str (s : ByteArray) : evo P e H (.const (.string s)) = some (.string s) := id rfl
@[go_sem ↓] theorem evo_nilsl : evo P e H (.const (.slice none 0 0)) = some (.slice none 0 0) := id rfl
@[go_sem ↓] theorem evo_nili : evo P e H (.const .nilIface) = some .nilIface := id rfl
@[go_sem ↓] theorem evo_func (f : FuncId) : evo P e H (.func f) = some (.func (.func f) #[] #[]) := id rfl
@[go_sem ↓] theorem evoL_nil : evoL P e H [] = some [] := id rfl
@[go_sem ↓] theorem evoL_cons (x : Operand) (xs : List Operand) : evoL P e H (x :: xs) = (evo P e H x).bind fun v => (evoL P e H xs).map (v :: ·) := id rfl
@[go_sem ↓] theorem pop_move (x : Operand) : popG P Γ (.move x) ty e H = (evo P e H x).map (·, H) := id rfl
@[go_sem ↓] theorem pop_assign (x : Operand) : popG P Γ (.assign x) ty e H = (evo P e H x).map (·, H) := id rfl
def pick (H : AHeap) (c a b : Option Value) : Option (Value × AHeap) := match c, a, b with
  | some (.bool t), some u, some v => some (if t = true then u else v, H)
  | _, _, _ => none
@[go_sem] theorem pick_some (t : Bool) (u v : Value) : pick H (some (.bool t)) (some u) (some v) = some (if t = true then u else v, H) := id rfl
@[go_sem ↓] theorem pop_pick (c a b : Operand) : popG P Γ (.pick c a b) ty e H = pick H (evo P e H c) (evo P e H a) (evo P e H b) := id rfl
@[go_sem ↓] theorem pop_binOp (op : BinOp) (t : TypeId) (x y : Operand) (yt : TypeId) : popG P Γ (.binOp op t x y yt) ty e H = (evo P e H x).bind fun a => (evo P e H y).bind fun b => (bin P op t x y a b).map (·, H) := id rfl
@[go_sem ↓] theorem pop_unOp (op : UnOp) (t : TypeId) (x : Operand) : popG P Γ (.unOp op t x) ty e H = (evo P e H x).bind fun a => (un P op a).map (·, H) := id rfl
@[go_sem ↓] theorem pop_convert (s d : TypeId) (x : Operand) : popG P Γ (.convert s d x) ty e H = (evo P e H x).bind fun a => convA P H s d a := id rfl
@[go_sem ↓] theorem pop_load (t : TypeId) (x : Operand) : popG P Γ (.load t x) ty e H = (evo P e H x).bind fun a => (loadA P H t a).map (·, H) := id rfl
@[go_sem ↓] theorem pop_store (t : TypeId) (x y : Operand) : popG P Γ (.store t x y) ty e H = (evo P e H x).bind fun a => (evo P e H y).bind fun v => (storeA P H t v a).map (Go.undef, ·) := id rfl
def allocA (P : Program) (H : AHeap) (t : TypeId) : Option (Value × AHeap) := (tyOf P t).bind fun y => if y.zok = true then boxA P H t y.zero else none
@[go_sem ↓] theorem pop_alloc (t : TypeId) : popG P Γ (.alloc t) ty e H = allocA P H t := id rfl
@[go_sem ↓] theorem pop_box (t : TypeId) (x : Operand) : popG P Γ (.box t x) ty e H = (evo P e H x).bind (boxA P H t) := id rfl
def nilA (H : AHeap) : Value → Option (Value × AHeap)
  | .pointer (some a) => some (.pointer (some a), H)
  | .func (.methodOf t n) us xs => some (.func (.methodOf t n) us xs, H)
  | _ => none
@[go_sem] theorem nilA_inp (cs : List Value) (j : Nat) : nilA H (inp cs j) = some (inp cs j, H) := id rfl
@[go_sem] theorem nilA_ptr (a : Addr) : nilA H (.pointer (some a)) = some (.pointer (some a), H) := id rfl
@[go_sem ↓] theorem pop_nilCheck (x : Operand) : popG P Γ (.nilCheck x) ty e H = (evo P e H x).bind (nilA H) := by
  have : popG P Γ (.nilCheck x) ty e H = pop P (.nilCheck x) ty e H := rfl
  rw [this]
  simp only [pop]
  congr 1
  funext v
  unfold nilA
  split <;> simp_all
@[go_sem ↓] theorem pop_fieldAddr (s : TypeId) (x : Operand) (f : Nat) : popG P Γ (.fieldAddr s x f) ty e H = (evo P e H x).bind fun a => (fieldA P s f a).map (·, H) := id rfl
@[go_sem ↓] theorem pop_field (s : TypeId) (x : Operand) (f : Nat) : popG P Γ (.field s x f) ty e H = (evo P e H x).bind fun a => (fieldV P s f a).map (·, H) := id rfl
def ixA (P : Program) (H : AHeap) (t : TypeId) (a : Value) : Value → Option (Value × AHeap)
  | .int _ n => (indexA P H t a n).map (·, H)
  | _ => none
@[go_sem] theorem ixA_int (t : TypeId) (a : Value) (k : IntKind) (n : Int) : ixA P H t a (.int k n) = (indexA P H t a n).map (·, H) := id rfl
@[go_sem ↓] theorem pop_indexAddr (t : TypeId) (x i : Operand) : popG P Γ (.indexAddr t x i) ty e H = (evo P e H x).bind fun a => (evo P e H i).bind fun b => ixA P H t a b := by
  have : popG P Γ (.indexAddr t x i) ty e H = pop P (.indexAddr t x i) ty e H := rfl
  rw [this]
  simp only [pop]
  congr 1
@[go_sem ↓] theorem pop_index (t : TypeId) (x i : Operand) : popG P Γ (.index t x i) ty e H = (evo P e H x).bind fun a => (evo P e H i).bind fun b => (idx P t a b).map (·, H) := id rfl
@[go_sem ↓] theorem pop_slice (t : TypeId) (x : Operand) (lo hi : Option Operand) : popG P Γ (.slice t x lo hi none) ty e H =
    (evo P e H x).bind fun a => (evoOpt P e H lo).bind fun l => (evoOpt P e H hi).bind fun h => (slA P H t a l h).map (·, H) := id rfl
@[go_sem ↓] theorem pop_slice3 (t : TypeId) (x : Operand) (lo hi : Option Operand) (mx : Operand) : popG P Γ (.slice t x lo hi (some mx)) ty e H =
    (evo P e H x).bind fun a => (evoOpt P e H lo).bind fun l => (evoOpt P e H hi).bind fun h => (evo P e H mx).bind fun m => (sl3A P H t a l h (some m)).map (·, H) := id rfl
@[go_sem ↓] theorem evoOpt_none : evoOpt P e H none = some none := id rfl
@[go_sem ↓] theorem evoOpt_some (x : Operand) : evoOpt P e H (some x) = (evo P e H x).map some := id rfl
def extA (H : AHeap) (i : Nat) : Value → Option (Value × AHeap)
  | .tuple vs => vs[i]?.map (·, H)
  | _ => none
@[go_sem] theorem extA_tuple (i : Nat) (l : List Value) : extA H i (.tuple l.toArray) = l[i]?.map (·, H) := by simp [extA]
@[go_sem ↓] theorem pop_extract (x : Operand) (i : Nat) : popG P Γ (.extract x i) ty e H = (evo P e H x).bind (extA H i) := by
  have : popG P Γ (.extract x i) ty e H = pop P (.extract x i) ty e H := rfl
  rw [this]
  simp only [pop]
  congr 1
@[go_sem ↓] theorem pop_makeSlice (t : TypeId) (n c : Operand) : popG P Γ (.makeSlice t n c) ty e H = (evo P e H n).bind fun n => (evo P e H c).bind fun c => makeSl P H t n c := id rfl
@[go_sem ↓] theorem pop_builtin (b : Builtin) (args : List Operand) (ts : List TypeId) : popG P Γ (.call ⟨.builtin b, args.toArray, ts.toArray⟩) ty e H = popB P b args ts e H := id rfl
@[go_sem ↓] theorem pop_call (g : FuncId) (args : List Operand) (ts : Array TypeId) : popG P Γ (.call ⟨.value (.func g), args.toArray, ts⟩) ty e H = (evoL P e H args).bind fun vs => Γ g vs H := by
  rw [evoL_eq]
  unfold popG callOf
  simp only [evo]
  cases args.mapM (evo P e H) <;> simp [pop]
@[go_sem ↓] theorem gv_some (j : Nat) (w : Bool) : gv all e (some (j, w)) = match (all[j]?).bind (·.dst) with
    | some d => (match e d with
      | .bool b => if w = true then b else !b
      | _ => false)
    | none => false := id rfl
def lenA (P : Program) (H : AHeap) (t : TypeId) (a : Value) : Option (Value × AHeap) := match kind P t with
    | some .string => match a with
      | .string s => some (.int .i64 s.size, H)
      | _ => none
    | some (.slice _) => (slLen a).map fun n => (.int .i64 n, H)
    | _ => none
@[go_sem ↓] theorem popB_len (x : Operand) (t : TypeId) : popB P .len [x] [t] e H = (evo P e H x).bind (lenA P H t) := by
  simp only [popB]
  first | rfl | congr 1
end
def lenI (k : Option TK) (n : Nat) (H : AHeap) : Option (Value × AHeap) := match k with
  | some (.slice _) => some (.int .i64 n, H)
  | _ => none
section
variable {P : Program} {H : AHeap} {t el : TypeId}
@[go_sem] theorem lenI_sl (n : Nat) : lenI (some (.slice el)) n H = some (.int .i64 n, H) := id rfl
theorem slLen_inl (z c : Nat) (es : List (List Value)) : slLen (inl z c es) = some es.length := by simp [slLen, inl]
@[go_sem] theorem lenA_inl (z c : Nat) (es : List (List Value)) : lenA P H t (inl z c es) = lenI (kind P t) es.length H := by
  unfold lenA
  cases kind P t with
  | none => rfl
  | some k => cases k <;> first | rfl | (simp only [slLen_inl, lenI]; rfl)
@[go_sem] theorem lenA_slice (a : Option Addr) (n c : Nat) : lenA P H t (.slice a n c) = lenI (kind P t) n H := by
  unfold lenA
  cases kind P t with
  | none => rfl
  | some k => cases k <;> rfl
@[go_sem] theorem slA_str (h : kind P t = some .string) (v : Value) (lo hi : Option Value) : slA P H t v lo hi = strSl P t v lo hi := by simp only [slA, h]
theorem lenA_str (h : kind P t = some .string) (s : ByteArray) : lenA P H t (.string s) = some (.int .i64 s.size, H) := by simp only [lenA, h]
theorem lenA_sl (h : kind P t = some (.slice el)) {v : Value} {n : Nat} (hv : slLen v = some n) : lenA P H t v = some (.int .i64 n, H) := by simp only [lenA, h, hv]; first | done | rfl
end
attribute [go_sem ↓] evalOps_cons evalOps_nil evalOps_guard put_none put_same put_nb initE_at List.getElem?_cons_zero List.getElem?_cons_succ List.getElem?_nil
attribute [go_sem] evalK_some decide_true decide_false Bool.or_true Bool.true_or Bool.or_false Bool.false_or Bool.true_and Bool.and_true Bool.false_and Bool.and_false Bool.not_true Bool.not_false gpop_some gpop_true gpop_false Option.map_some Option.bind_some Option.getD_some Option.getD_none if_true if_false
end Go.AK
