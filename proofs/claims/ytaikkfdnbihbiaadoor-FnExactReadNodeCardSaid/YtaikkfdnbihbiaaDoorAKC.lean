/- Buffers: a slice that grows; reading slices; literals. -/
import Derived.Test.YtaikkfdnbihbiaaDoorAKB
import Derived.KernelRfl
namespace Go.AK
set_option linter.unusedVariables false
set_option linter.unusedSimpArgs false
open Go Go.RowKit

/-! ### heaps that grow -/
def WF (H : AHeap) : Prop := ∀ l, H.next ≤ l → H.obj l = none
structure Ext (H H' : AHeap) : Prop where
  old : ∀ l o, H.obj l = some o → H'.obj l = some o
  nx : H.next ≤ H'.next
theorem Ext.refl (H : AHeap) : Ext H H := ⟨fun _ _ h => h, Nat.le_refl _⟩
theorem Ext.trans {A B C : AHeap} (h : Ext A B) (k : Ext B C) : Ext A C := ⟨fun l o x => k.old l o (h.old l o x), Nat.le_trans h.nx k.nx⟩
theorem WF.push {H : AHeap} (h : WF H) (o : AObj) : WF (H.push o) := fun l hl => by
  simp only [AHeap.push] at hl ⊢
  rw [if_neg (by omega)]; exact h l (by omega)
theorem WF.set {H : AHeap} (h : WF H) {l : Nat} (hl : l < H.next) (o : Option AObj) : WF (H.set l o) := fun k hk => by
  simp only [AHeap.set] at hk ⊢
  rw [if_neg (by omega)]; exact h k hk
theorem Ext.push {H H' : AHeap} (wf : WF H') (h : Ext H H') (o : AObj) : Ext H (H'.push o) :=
  ⟨fun l x hx => by
    have h1 := h.old l x hx
    simp only [AHeap.push]
    have : l ≠ H'.next := fun e => by subst e; rw [wf _ (Nat.le_refl _)] at h1; cases h1
    rw [if_neg this]; exact h1, by have := h.nx; simp only [AHeap.push]; omega⟩
theorem Ext.set {H H' : AHeap} (h : Ext H H') {l : Nat} (hl : H.obj l = none) (o : Option AObj) : Ext H (H'.set l o) :=
  ⟨fun k x hx => by
    have : k ≠ l := fun e => by subst e; rw [hl] at hx; cases hx
    simp only [AHeap.set]; rw [if_neg this]; exact h.old k x hx, h.nx⟩
theorem ACall.wf {P : Program} {f : FuncId} {args : List Value} {H : AHeap} {R : Value → AHeap → Prop} (h : WF H → ACall P f args H R) : ACall P f args H R := by
  intro K w0 w r vs hs hv
  have wf : WF H := fun l hl => by
    cases ho : H.obj l with
    | none => rfl
    | some o =>
      obtain ⟨pl, h1, _⟩ := hs.obj l o ho
      have := hs.name l pl h1
      omega
  exact h wf K w0 w r vs hs hv

def FOk (P : Program) (g : FuncId) (F : List Value → AHeap → Option (Value × AHeap)) : Prop := ∀ args H x H', F args H = some (x, H') → ACall P g args H fun v H2 => v = x ∧ H2 = H'
/-! ### a slice that grows -/
/-- v is a slice of the elements es, at a location that is new since H0; nil only where nl says so -/
structure Buf (H0 : AHeap) (z : Nat) (nl : Bool) (es : List (List Value)) (v : Value) (H : AHeap) : Prop where
  wf0 : WF H0
  wf : WF H
  ext : Ext H0 H
  at_ : (nl = true ∧ es = [] ∧ v = .slice none 0 0) ∨ ∃ l c, (es = [] → nl = false) ∧ v = .slice (some ⟨l, 0, none⟩) es.length c ∧ H.obj l = some (.row z es true) ∧ H0.next ≤ l
theorem Buf.nil {H0 : AHeap} (wf : WF H0) {H : AHeap} (hw : WF H) (h : Ext H0 H) (z : Nat) : Buf H0 z true [] (.slice none 0 0) H := ⟨wf, hw, h, .inl ⟨rfl, rfl, rfl⟩⟩
theorem Buf.fresh {H0 : AHeap} (wf : WF H0) {H : AHeap} (hw : WF H) (h : Ext H0 H) (z : Nat) (es : List (List Value)) {n : Nat} (hn : n = es.length) (c : Nat) : Buf H0 z false es (.slice (some ⟨H.next, 0, none⟩) n c) (H.push (.row z es true)) :=
  ⟨wf, hw.push _, h.push hw _, .inr ⟨H.next, c, fun _ => rfl, by rw [hn], by simp [AHeap.push], h.nx⟩⟩
theorem Buf.push {H0 H : AHeap} {z : Nat} {nl : Bool} {es : List (List Value)} {v : Value} (h : Buf H0 z nl es v H) (o : AObj) : Buf H0 z nl es v (H.push o) := by
  refine ⟨h.wf0, h.wf.push o, h.ext.push h.wf o, ?_⟩
  rcases h.at_ with h1 | ⟨l, c, h0, h1, h2, h3⟩
  · exact .inl h1
  · refine .inr ⟨l, c, h0, h1, ?_, h3⟩
    simp only [AHeap.push]
    have : l ≠ H.next := fun e => by subst e; rw [h.wf _ (Nat.le_refl _)] at h2; cases h2
    rw [if_neg this]; exact h2
theorem Buf.later {H0 H H' : AHeap} {z : Nat} {nl : Bool} {es : List (List Value)} {v : Value} (h : Buf H0 z nl es v H) (wf : WF H') (he : Ext H H') : Buf H0 z nl es v H' := by
  refine ⟨h.wf0, wf, h.ext.trans he, ?_⟩
  rcases h.at_ with h1 | ⟨l, c, h0, h1, h2, h3⟩
  · exact .inl h1
  · exact .inr ⟨l, c, h0, h1, he.old _ _ h2, h3⟩
theorem Buf.len {H0 H : AHeap} {z : Nat} {nl : Bool} {es : List (List Value)} {v : Value} (h : Buf H0 z nl es v H) : slLen v = some es.length := by
  rcases h.at_ with ⟨_, rfl, rfl⟩ | ⟨l, c, _, rfl, _⟩ <;> rfl
theorem Buf.elems {H0 H : AHeap} {z : Nat} {nl : Bool} {es : List (List Value)} {v : Value} (h : Buf H0 z nl es v H) : elems H z v = some es := by
  rcases h.at_ with ⟨_, rfl, rfl⟩ | ⟨l, c, _, rfl, h2, _⟩
  · rfl
  · simp [AK.elems, h2]
theorem Buf.append {H0 H : AHeap} {z : Nat} {nl : Bool} {es : List (List Value)} {v : Value} (h : Buf H0 z nl es v H) {bytes : Nat} (news : List (List Value)) (h1 : (es.length + news.length) * bytes ≤ 140737488355328)
    (h2 : es.length + news.length ≤ 140737488355328) : ∃ v' H', appendA H z bytes v news = some (v', H') ∧ Buf H0 z nl (es ++ news) v' H' := by
  by_cases hn : news = []
  · subst hn
    refine ⟨v, H, ?_, by simpa using h⟩
    rcases h.at_ with ⟨_, rfl, rfl⟩ | ⟨l, c, _, rfl, h2, _⟩ <;> simp [appendA, *]
  · rcases h.at_ with ⟨n1, rfl, rfl⟩ | ⟨l, c, h0, rfl, h3, h4⟩
    · refine ⟨_, _, by simp only [appendA, hn, if_false]; rw [if_pos ⟨by simpa using h1, by simpa using h2⟩], ?_⟩
      refine ⟨h.wf0, h.wf.push _, h.ext.push h.wf _, .inr ⟨H.next, 1, fun e => absurd (by simpa using e) hn, by simp, by simp [AHeap.push], h.ext.nx⟩⟩
    · by_cases hc : es.length = 0 ∧ c = 0
      · have he : es = [] := List.eq_nil_of_length_eq_zero hc.1
        subst he
        refine ⟨_, _, by simp only [appendA, h3, hn, if_false]; rw [if_pos ⟨trivial, by simpa using h1, by simpa using h2⟩, if_pos hc], ?_⟩
        refine ⟨h.wf0, h.wf.push _, h.ext.push h.wf _, .inr ⟨H.next, 1, fun e => absurd (by simpa using e) hn, by simp, by simp [AHeap.push], h.ext.nx⟩⟩
      · have hl : l < H.next := Nat.lt_of_not_le fun hle => by rw [h.wf _ hle] at h3; cases h3
        have hl0 : H0.obj l = none := h.wf0 _ h4
        refine ⟨_, _, by simp only [appendA, h3, hn, if_false]; rw [if_pos ⟨trivial, h1, h2⟩, if_neg hc, if_pos ⟨trivial, by simp⟩], ?_⟩
        refine ⟨h.wf0, (h.wf.set hl none).push _, (h.ext.set hl0 none).push (h.wf.set hl none) _, .inr ⟨H.next, 1, fun e => absurd (List.append_eq_nil_iff.1 e).2 hn, by simp, by simp [AHeap.push, AHeap.set], h.ext.nx⟩⟩
/-- other objects through an append -/
theorem Buf.append_ext {H0 H H1 : AHeap} {z : Nat} {nl : Bool} {es : List (List Value)} {v v' : Value} (h : Buf H0 z nl es v H) (h' : Buf H0 z nl es v' H1) : Ext H0 H1 := h'.ext
/-- cells that keep their sense -/
def flatS (es : List (List Value)) : Prop := ∀ cs ∈ es, ∀ x ∈ cs, scal x = true
/-- cells that name no location -/
def flatC (es : List (List Value)) : Prop := ∀ cs ∈ es, ∀ x ∈ cs, clc x = true
theorem flatS.c {es : List (List Value)} (h : flatS es) : flatC es := fun cs hc x hx => by simp [clc, h cs hc x hx]
theorem scal_one {x : Value} (h : scal x = true) : x.oneCell' = true := by cases x <;> simp [scal, Value.oneCell'] at h ⊢
/-- what a buffer is, told by the caller's names -/
theorem Buf.gives {H0 H : AHeap} {z : Nat} {es : List (List Value)} {v : Value} (h : Buf H0 z false es v H) (hf : flatC es) :
    Gives H0 (.slice (some ⟨H0.next, 0, none⟩) es.length 1) (H0.push (.row z es true)) v H := by
  rcases h.at_ with ⟨n1, _⟩ | ⟨l, c, _, rfl, h3, h4⟩
  · cases n1
  · refine ⟨by simp [AHeap.push], fun k => if k = H0.next then l else k, fun k hk => if_neg (by omega), fun k o hk => ?_, fun k k' hk hk' hne => ?_, ?_⟩
    · simp only [AHeap.push] at hk ⊢
      split at hk
      · rename_i e
        cases hk
        refine .inr ⟨by omega, .row z es true, by rw [if_pos e]; exact h3, rfl, fun x => x, fun i cs hi => ⟨cs, hi, rfl, fun j x y hx hy => ?_⟩⟩
        rw [hx] at hy; cases hy
        have := hf cs (List.mem_of_getElem? hi) x (List.mem_of_getElem? hx)
        exact ⟨VIso.reflC this, clc_one this⟩
      · exact .inl ⟨hk, h.ext.old _ _ hk⟩
    · have lt : ∀ k, (H0.push (.row z es true)).obj k ≠ none → k ≠ H0.next → k < H0.next := fun k hk hn => by
        simp only [AHeap.push, if_neg hn] at hk
        exact Nat.lt_of_not_le fun hle => hk (h.wf0 _ hle)
      by_cases e1 : k = H0.next <;> by_cases e2 : k' = H0.next
      · exact absurd (e1.trans e2.symm) hne
      · have := lt k' hk' e2
        simp only [e1, e2, if_true, if_false]; omega
      · have := lt k hk e1
        simp only [e1, e2, if_true, if_false]; omega
      · simpa only [e1, e2, if_false] using hne
    · have := VIso.sl (n := (H0.push (.row z es true)).next) (τ := fun k => if k = H0.next then l else k) (l := H0.next) (i := 0) (m := es.length) (c := 1) (c' := c) (by simp [AHeap.push]) (by simp)
      simpa using this
def freshV (H : AHeap) (n : Nat) : Value := .slice (some ⟨H.next, 0, none⟩) n 1
theorem ACall.fresh {P : Program} {f : FuncId} {args : List Value} {H : AHeap} {z : Nat} {es : List (List Value)} (hf : flatC es) (h : ACall P f args H fun v H' => Buf H z false es v H') :
    ACall P f args H fun v H' => v = .slice (some ⟨H.next, 0, none⟩) es.length 1 ∧ H' = H.push (.row z es true) :=
  h.gives fun v H2 hb => ⟨_, _, hb.gives hf, rfl, rfl⟩
theorem ACall.quiet {P : Program} {f : FuncId} {args : List Value} {H : AHeap} {x : Value} (hx : clT x = true) (h : ACall P f args H fun v H' => v = x ∧ Ext H H') :
    ACall P f args H fun v H' => v = x ∧ H' = H :=
  h.gives fun v H2 ⟨h1, h2⟩ => by subst h1; exact ⟨_, _, Gives.quiet (VIso.reflT hx) h2.old, rfl, rfl⟩

/-! ### appending in a region -/
structure SlT (P : Program) (t : TypeId) (z bytes : Nat) : Prop where
  h : ∃ el y, kind P t = some (.slice el) ∧ tyOf P el = some y ∧ y.size = z ∧ y.bytes = bytes ∧ y.zok = true ∧ 0 < z
section
variable {P : Program} {e : Env} {H H0 : AHeap} {all os : List Oper} {K : Env → AHeap → Prop}
theorem rwp_append {d : Option Tmp} {x y : Operand} {t u ty : TypeId} {p : String} {af : Array Edge} {z by1 by2 : Nat} (hT : SlT P t z by1) (hU : SlT P u z by2) {v b : Value} {nl : Bool} {es news : List (List Value)}
    (hx : evo P e H x = some v) (hb : Buf H0 z nl es v H) (hy : evo P e H y = some b) (hn : elems H z b = some news)
    (h1 : (es.length + news.length) * by1 ≤ 140737488355328) (h2 : es.length + news.length ≤ 140737488355328)
    (k : ∀ v' H', Buf H0 z nl (es ++ news) v' H' → rwp P all os K (e.put d v') H') :
    rwp P all (⟨d, .call ⟨.builtin .append, #[x, y], #[t, u]⟩, ty, p, af, none⟩ :: os) K e H := by
  obtain ⟨el, yt, q1, q2, q3, q4, q5, q6⟩ := hT.h
  obtain ⟨el2, yt2, r1, _⟩ := hU.h
  subst q3; subst q4
  obtain ⟨v', H', a1, a2⟩ := hb.append (bytes := yt.bytes) news h1 h2
  refine ⟨fun _ => .inl ⟨v', H', ?_, k v' H' a2⟩, fun hg => by simp [gv] at hg⟩
  simp only [pop, popB, hx, hy, Option.bind_some, q1, q2, r1, hn, q5, q6, and_self, if_true, a1]
end

/-! ### shapes of code -/
section
variable {P : Program} {e : Env} {H : AHeap} {n : Nat} {Q : Exit → Env → AHeap → Prop}
theorem awp_assoc {a b c : Code} (h : awp P n (.seq a (.seq b c)) Q e H) : awp P n (.seq (.seq a b) c) Q e H := by
  refine awp_mono a h fun x e H hx => ?_
  cases x with
  | normal => exact awp_mono b hx fun x e H hx => by cases x <;> exact hx
  | _ => exact hx
theorem awp_scond {c : Operand} {a b d : Code} {t : Bool} (h : evo P e H c = some (.bool t)) (ht : t = true → awp P n (.seq a d) Q e H) (hf : t = false → awp P n (.seq b d) Q e H) : awp P n (.seq (.cond c a b) d) Q e H := ⟨t, h, ht, hf⟩
theorem awp_sskip {d : Code} (h : awp P n d Q e H) : awp P n (.seq .skip d) Q e H := h
theorem awp_sret {d : Code} (h : Q .ret e H) : awp P n (.seq .ret d) Q e H := h
theorem awp_sexit {id : Nat} {d : Code} (h : Q (.exit id) e H) : awp P n (.seq (.exit id) d) Q e H := h
theorem awp_skipB {id : Nat} {next : Env → AHeap → Prop} (h : next e H) : awp P n .skip (xblock id (xthen next Q)) e H := h
theorem awp_exitB {id : Nat} {next : Env → AHeap → Prop} (h : next e H) : awp P n (.exit id) (xblock id (xthen next Q)) e H := by
  show (if id = id then next e H else Q (.exit id) e H)
  rw [if_pos rfl]; exact h
theorem awp_exitL {id : Nat} {next I : Env → AHeap → Prop} (h : next e H) : awp P n (.exit id) (xthen I (xblock id (xthen next Q))) e H := awp_exitB (P := P) (n := n) h
theorem awp_sexitL {id : Nat} {d : Code} {next I : Env → AHeap → Prop} (h : next e H) : awp P n (.seq (.exit id) d) (xthen I (xblock id (xthen next Q))) e H := by
  show (if id = id then next e H else Q (.exit id) e H)
  rw [if_pos rfl]; exact h
/-- a block whose leaving is its end -/
theorem awp_sblock {id : Nat} {b d : Code} (h : awp P n b (xblock id (xthen (awp P n d Q) Q)) e H) : awp P n (.seq (.block id b) d) Q e H := h
end

/-! ### literals -/
section
variable (P : Program) (Γ : Gam) (e : Env) (H : AHeap) (ty : TypeId)
@[go_sem ↓] theorem partsA_nil : partsA P e H [] = some [] := id rfl
@[go_sem ↓] theorem partsA_cons (i : Nat) (x : Operand) (l : List (Nat × Operand)) : partsA P e H ((i, x) :: l) = (evo P e H x).bind fun v => (partsA P e H l).map ((i, v) :: ·) := id rfl
@[go_sem ↓] theorem pop_build (t : TypeId) (ps : List (Nat × Operand)) : popG P Γ (.build t ps.toArray) ty e H = (partsA P e H ps).bind fun ps => (buildA P t ps).map (·, H) := id rfl
@[go_sem ↓] theorem pop_buildSlice (t : TypeId) (n : Nat) (ps : List (Nat × Operand)) : popG P Γ (.buildSlice t n ps.toArray) ty e H = (partsA P e H ps).bind fun ps => buildSlA P H t n ps := id rfl
variable {P : Program} {t el : TypeId} {H : AHeap}
theorem SlT.build {z by1 : Nat} (h : SlT P t z by1) {n : Nat} {ps : List (Nat × Value)} {es : List (List Value)} (hd : denseA z 0 ps = some es) (hn : es.length = n) (hs : n * z ≤ 16777216) :
    buildSlA P H t n ps = some (.slice (some ⟨H.next, 0, none⟩) n 1, H.push (.row z es true)) := by
  obtain ⟨el, yt, q1, q2, q3, q4, q5, q6⟩ := h.h
  subst q3
  simp only [buildSlA, q1, q2, hd]
  rw [if_pos ⟨hn, hs, q6, q5⟩]
def bsl (H : AHeap) (z n : Nat) : Option (List (List Value)) → Option (Value × AHeap)
  | some es => if es.length = n ∧ n * z ≤ 16777216 then some (.slice (some ⟨H.next, 0, none⟩) n 1, H.push (.row z es true)) else none
  | none => none
theorem SlT.bsl {z by1 : Nat} (h : SlT P t z by1) (n : Nat) (ps : List (Nat × Value)) : buildSlA P H t n ps = AK.bsl H z n (denseA z 0 ps) := by
  obtain ⟨el, yt, q1, q2, q3, q4, q5, q6⟩ := h.h
  subst q3
  simp only [buildSlA, q1, q2]
  cases denseA yt.size 0 ps with
  | none => rfl
  | some es => simp only [AK.bsl, q5, q6, and_true]
@[go_sem] theorem bsl_some {z n : Nat} {es : List (List Value)} (h : es.length = n) (h' : n * z ≤ 16777216) : AK.bsl H z n (some es) = some (.slice (some ⟨H.next, 0, none⟩) n 1, H.push (.row z es true)) := by
  simp only [AK.bsl, h, h', and_self, if_true]
end
section
variable {z k i : Nat} {v : Value} {ps : List (Nat × Value)} {s : ByteArray} {b : Bool} {ik : IntKind} {n : Int}
def dcons (x : List Value) (o : Option (List (List Value))) : Option (List (List Value)) := o.map (x :: ·)
@[go_sem] theorem dcons_some (x : List Value) (l : List (List Value)) : dcons x (some l) = some (x :: l) := id rfl
@[go_sem] theorem denseA_nil : denseA z k [] = some [] := id rfl
@[go_sem] theorem denseA_str : denseA 1 k ((k, .string s) :: ps) = dcons [.string s] (denseA 1 (k + 1) ps) := by simp [denseA, Value.cells, oneCells, Value.oneCell', dcons]
@[go_sem] theorem denseA_int : denseA 1 k ((k, .int ik n) :: ps) = dcons [.int ik n] (denseA 1 (k + 1) ps) := by simp [denseA, Value.cells, oneCells, Value.oneCell', dcons]
@[go_sem] theorem denseA_bool : denseA 1 k ((k, .bool b) :: ps) = dcons [.bool b] (denseA 1 (k + 1) ps) := by simp [denseA, Value.cells, oneCells, Value.oneCell', dcons]
end
theorem SlT.make0 {P : Program} {H : AHeap} {t : TypeId} {z by1 : Nat} (hT : SlT P t z by1) {k k' : IntKind} {c : Int} (h0 : 0 ≤ c) (h1 : c * by1 ≤ 140737488355328) (h2 : c ≤ 140737488355328) :
    makeSl P H t (.int k 0) (.int k' c) = some (.slice (some ⟨H.next, 0, none⟩) 0 1, H.push (.row z [] true)) := by
  obtain ⟨el, yt, q1, q2, q3, q4, q5, q6⟩ := hT.h
  subst q3; subst q4
  simp only [makeSl, q1, q2, h0, h1, h2, q5, q6, Int.le_refl, and_self, if_true]
  rfl
theorem push_at (H : AHeap) (o : AObj) : (H.push o).obj H.next = some o := by simp [AHeap.push]
theorem idxA_row {P : Program} {H : AHeap} {t : TypeId} {z by1 l o n c : Nat} {es : List (List Value)} {own : Bool} (hT : SlT P t z by1) (ho : H.obj l = some (.row z es own)) {i : Int} (h0 : 0 ≤ i) (h1 : i < (n : Int)) :
    indexA P H t (.slice (some ⟨l, o, none⟩) n c) i = some (.pointer (some ⟨l, o + i.toNat, some 0⟩)) := by
  obtain ⟨el, yt, q1, q2, q3, q4, q5, q6⟩ := hT.h
  subst q3
  simp only [indexA, q1, q2, elAddr, eszOf, ho, h0, h1, and_self, if_true]
theorem loadA_one {P : Program} {H : AHeap} {t : TypeId} {y : Ty} (hy : tyOf P t = some y) (ha : y.agg = false) {l i j z : Nat} {es : List (List Value)} {own : Bool} (ho : H.obj l = some (.row z es own)) {cs : List Value} (hc : es[i]? = some cs) {v : Value} (hv : cs[j]? = some v) :
    loadA P H t (.pointer (some ⟨l, i, some j⟩)) = some v := by
  simp only [loadA, hy, elemAt, ho, hc, cut, ha, hv, Bool.false_eq_true, if_false]
/-- a slice that is nil or new -/
def slV (H : AHeap) (o : Option (List (List Value))) : Value := match o with
  | none => .slice none 0 0
  | some es => .slice (some ⟨H.next, 0, none⟩) es.length 1
def slH (H : AHeap) (z : Nat) (o : Option (List (List Value))) : AHeap := match o with
  | none => H
  | some es => H.push (.row z es true)
theorem slLen_mk (a : Option Addr) (n c : Nat) : slLen (.slice a n c) = some n := id rfl
theorem slV_len (H : AHeap) (o : Option (List (List Value))) : slLen (slV H o) = some ((o.getD []).length) := by cases o <;> rfl
def SlR (H : AHeap) (z : Nat) (v : Value) (H' : AHeap) : Option (List (List Value)) → Prop
  | none => v = .slice none 0 0 ∧ Ext H H'
  | some es => Buf H z false es v H'
theorem ACall.slv {P : Program} {f : FuncId} {args : List Value} {H : AHeap} {z : Nat} (o : Option (List (List Value))) (hf : ∀ es, o = some es → flatC es) (h : ACall P f args H fun v H' => SlR H z v H' o) : ACall P f args H fun v H' => v = slV H o ∧ H' = slH H z o := by
  cases o with
  | none => exact ACall.quiet rfl h
  | some es => exact ACall.fresh (hf es rfl) h
/-- a measure: how far a slot is from a bound -/
def gap (n : Int) : Value → Nat
  | .int _ k => (n - k).toNat
  | _ => 0
@[go_sem] theorem gap_int (n : Int) (k : IntKind) (a : Int) : gap n (.int k a) = (n - a).toNat := id rfl
attribute [go_sem] lenA_str List.length_cons List.length_nil List.take_succ_cons List.take_zero Int.toNat_natCast
theorem elems_push (H : AHeap) (z : Nat) (es : List (List Value)) (c : Nat) (own : Bool) : elems (H.push (.row z es own)) z (.slice (some ⟨H.next, 0, none⟩) es.length c) = some es := by
  simp [elems, AHeap.push]
end Go.AK
