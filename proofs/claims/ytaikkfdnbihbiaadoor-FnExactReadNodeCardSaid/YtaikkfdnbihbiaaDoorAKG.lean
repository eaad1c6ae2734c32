/- Drawn regions with effects: what is unordered with an effect looks at no heap. -/
import Derived.Test.YtaikkfdnbihbiaaDoorAKF
namespace Go.AK
set_option linter.unusedVariables false
set_option linter.unusedSimpArgs false
open Go Go.RowKit
def notGlobal : Operand → Bool
  | .global _ => false
  | _ => true
def heapless (o : Oper) : Bool := match o.op with
  | .move x | .assign x | .unOp _ _ x | .fieldAddr _ x _ | .field _ x _ | .extract x _ | .nilCheck x => notGlobal x
  | .pick a b c => notGlobal a && notGlobal b && notGlobal c
  | .binOp _ _ x y _ | .index _ x y => notGlobal x && notGlobal y
  | _ => false
section
variable {P : Program} {Γ : Gam} {all : List Oper} {e : Env} {H H2 : AHeap}
theorem evo_heap {x : Operand} (h : notGlobal x = true) : evo P e H x = evo P e H2 x := by cases x <;> first | rfl | cases h
theorem heapless_ok {o : Oper} (h : heapless o = true) {v : Value} (ho : opg P Γ all o e H = some (v, H)) : opg P Γ all o e H2 = some (v, H2) := by
  obtain ⟨dst, op, ty, pos, after, guard⟩ := o
  unfold opg at ho ⊢
  simp only at ho ⊢
  cases hg : gv all e guard with
  | false =>
    rw [hg, gpop_false] at ho
    simp only [Option.some.injEq, Prod.mk.injEq] at ho
    rw [gpop_false, ho.1]
  | true =>
    rw [hg, gpop_true] at ho
    rw [gpop_true]
    unfold popG callOf at ho ⊢
    unfold heapless at h
    cases op <;> simp only at h <;> try (cases h; done)
    all_goals (try simp only [Bool.and_eq_true] at h)
    all_goals simp only [pop] at ho ⊢
    case move x => rw [evo_heap (H2 := H) h]; obtain ⟨a, h1, h2⟩ := map_some ho; cases h2; rw [h1]; rfl
    case assign x => rw [evo_heap (H2 := H) h]; obtain ⟨a, h1, h2⟩ := map_some ho; cases h2; rw [h1]; rfl
    case pick a b c =>
      rw [evo_heap (H2 := H) h.1.1, evo_heap (H2 := H) h.1.2, evo_heap (H2 := H) h.2]
      split at ho
      · simp only [Option.some.injEq, Prod.mk.injEq] at ho ⊢; exact ⟨ho.1, trivial⟩
      · cases ho
    case nilCheck x =>
      rw [evo_heap (H2 := H) h]
      obtain ⟨a, h1, h2⟩ := bind_some ho
      rw [h1, Option.bind_some]
      split at h2
      · cases h2; rfl
      · cases h2; rfl
      · cases h2
    case binOp op t x y yt =>
      rw [evo_heap (H2 := H) h.1, evo_heap (H2 := H) h.2]
      obtain ⟨a, h1, h2⟩ := bind_some ho
      obtain ⟨b, h3, h4⟩ := bind_some h2
      obtain ⟨c, h5, h6⟩ := map_some h4
      cases h6
      rw [h1, Option.bind_some, h3, Option.bind_some, h5]; rfl
    case unOp op t x =>
      rw [evo_heap (H2 := H) h]
      obtain ⟨a, h1, h2⟩ := bind_some ho
      obtain ⟨c, h5, h6⟩ := map_some h2
      cases h6
      rw [h1, Option.bind_some, h5]; rfl
    case fieldAddr s x f =>
      rw [evo_heap (H2 := H) h]
      obtain ⟨a, h1, h2⟩ := bind_some ho
      obtain ⟨c, h5, h6⟩ := map_some h2
      cases h6
      rw [h1, Option.bind_some, h5]; rfl
    case field s x f =>
      rw [evo_heap (H2 := H) h]
      obtain ⟨a, h1, h2⟩ := bind_some ho
      obtain ⟨c, h5, h6⟩ := map_some h2
      cases h6
      rw [h1, Option.bind_some, h5]; rfl
    case index t x y =>
      rw [evo_heap (H2 := H) h.1, evo_heap (H2 := H) h.2]
      obtain ⟨a, h1, h2⟩ := bind_some ho
      obtain ⟨b, h3, h4⟩ := bind_some h2
      obtain ⟨c, h5, h6⟩ := map_some h4
      cases h6
      rw [h1, Option.bind_some, h3, Option.bind_some, h5]; rfl
    case extract x i =>
      rw [evo_heap (H2 := H) h]
      obtain ⟨a, h1, h2⟩ := bind_some ho
      rw [h1, Option.bind_some]
      split at h2
      · obtain ⟨c, h5, h6⟩ := map_some h2
        cases h6
        simp only [h5]; rfl
      · cases h2
end
/-- evaluation with effects at the places eff -/
def evalE (P : Program) (Γ : Gam) (all : List Oper) (eff : List Nat) : Nat → List Oper → Env → AHeap → (Env → AHeap → Prop) → Prop
  | _, [], e, H, Q => Q e H
  | k, o :: os, e, H, Q => ∃ v H', opg P Γ all o e H = some (v, H') ∧ (eff.contains k = false → H' = H) ∧ evalE P Γ all eff (k + 1) os (e.put o.dst v) H' Q
def chkH (l : List Oper) (eff : List Nat) : Bool := eff.all fun y => (List.range y).all fun x => (tabOf l y).contains x || (match l[x]? with
  | some o => heapless o
  | none => true)
section
variable {P : Program} {Γ : Gam} {all os : List Oper} {eff : List Nat} {e : Env} {H : AHeap} {Q : Env → AHeap → Prop}
theorem evalE_nil {k : Nat} (h : Q e H) : evalE P Γ all eff k [] e H Q := h
theorem evalE_eff {k : Nat} {d : Option Tmp} {op : Op} {t : TypeId} {p : String} {af : Array Edge} {v : Value} {H' : AHeap} (h : popG P Γ op t e H = some (v, H')) (he : eff.contains k = true) (hk : evalE P Γ all eff (k + 1) os (e.put d v) H' Q) :
    evalE P Γ all eff k (⟨d, op, t, p, af, none⟩ :: os) e H Q := by
  refine ⟨v, H', ?_, fun hf => ?_, hk⟩
  · rw [← h]; exact gpop_true _ _
  · rw [he] at hf; cases hf
theorem evalE_quiet : ∀ (m : Nat) {k : Nat} {os : List Oper} {e e' : Env}, evalQ P Γ all (os.take m) e H = some e' → evalE P Γ all eff (k + m) (os.drop m) e' H Q → evalE P Γ all eff k os e H Q
  | 0, k, os, e, e', h, hk => by cases h; exact hk
  | m + 1, k, [], e, e', h, hk => by cases h; exact hk
  | m + 1, k, o :: os, e, e', h, hk => by
    simp only [List.take_succ_cons, evalQ, evalQK] at h
    split at h
    · rename_i v H' hg
      split at h
      · rename_i hH
        rw [hH] at hg
        refine ⟨v, H, hg, fun _ => rfl, evalE_quiet m h ?_⟩
        have e1 : k + 1 + m = k + (m + 1) := by omega
        rw [e1]; exact hk
      · cases h
    · cases h
theorem evalE_append {k : Nat} {H0 : AHeap} {d : Option Tmp} {x y : Operand} {t u ty : TypeId} {p : String} {af : Array Edge} {z by1 by2 : Nat} (hT : SlT P t z by1) (hU : SlT P u z by2) {v b : Value} {nl : Bool} {es news : List (List Value)}
    (hx : evo P e H x = some v) (hb : Buf H0 z nl es v H) (hy : evo P e H y = some b) (hn : elems H z b = some news)
    (h1 : (es.length + news.length) * by1 ≤ 140737488355328) (h2 : es.length + news.length ≤ 140737488355328) (he : eff.contains k = true)
    (hk : ∀ v' H', Buf H0 z nl (es ++ news) v' H' → evalE P Γ all eff (k + 1) os (e.put d v') H' Q) :
    evalE P Γ all eff k (⟨d, .call ⟨.builtin .append, #[x, y], #[t, u]⟩, ty, p, af, none⟩ :: os) e H Q := by
  obtain ⟨el, yt, q1, q2, q3, q4, q5, q6⟩ := hT.h
  obtain ⟨el2, yt2, r1, _⟩ := hU.h
  subst q3; subst q4
  obtain ⟨v', H', a1, a2⟩ := hb.append (bytes := yt.bytes) news h1 h2
  refine evalE_eff (v := v') (H' := H') ?_ he (hk v' H' a2)
  show popB P .append [x, y] [t, u] e H = _
  simp only [popB, hx, hy, Option.bind_some, q1, q2, r1, hn, q5, q6, and_self, if_true, a1]
theorem evalE_trace : ∀ (os pre : List Oper) (e : Env) (H : AHeap), all = pre ++ os → evalE P Γ all eff pre.length os e H Q → ∃ (T : List DS) (ef : Env) (Hf : AHeap), T.map (·.i) = List.range' pre.length os.length ∧ (∀ d ∈ T, all[d.i]? = some d.o) ∧ (∀ d ∈ T, d.eff = eff.contains d.i) ∧ TOk P Γ all.toArray T e H ef Hf ∧ Q ef Hf
  | [], pre, e, H, hall, h => ⟨[], e, H, rfl, by simp, by simp, ⟨rfl, rfl⟩, h⟩
  | o :: os, pre, e, H, hall, ⟨v, H', h1, h2, h3⟩ => by
    have h3' : evalE P Γ all eff (pre ++ [o]).length os (e.put o.dst v) H' Q := by simpa using h3
    obtain ⟨T, ef, Hf, t1, t2, t3, t4, t5⟩ := evalE_trace os (pre ++ [o]) _ _ (by rw [hall]; simp) h3'
    have ho : all[pre.length]? = some o := by rw [hall]; simp
    refine ⟨⟨pre.length, o, e, H, v, H', eff.contains pre.length⟩ :: T, ef, Hf, ?_, ?_, ?_, ⟨rfl, rfl, by simpa using ho, by simpa using h1, h2, t4⟩, t5⟩
    · rw [List.map_cons, t1, List.length_append, List.length_singleton, List.length_cons, List.range'_succ]
    · intro d hd
      rcases List.mem_cons.1 hd with rfl | hd
      · exact ho
      · exact t2 d hd
    · intro d hd
      rcases List.mem_cons.1 hd with rfl | hd
      · rfl
      · exact t3 d hd
theorem awp_drawnE {n : Nat} (hm : P.follows .mixedOrders = true) (hΓ : GOk P Γ) {l : List Oper} (eff : List Nat) {id : Nat} {Q : Exit → Env → AHeap → Prop} (hc : chk l eff = true) (hh : chkH l eff = true) (hok : opsOk n l = true)
    (h : evalE P Γ l eff 0 l e H (Q .normal)) : awp P n (.region id l.toArray true) Q e H := by
  obtain ⟨T, ef, Hf, t1, t2, t3, t4, t5⟩ := evalE_trace l [] e H (by simp) h
  have hc' := chk_ok hc (T := T) (by rw [t1]; simp [List.range_eq_range']) t2 t3
  refine awp_drawn hm hΓ hc' ?_ t4 hok t5
  intro A x B hT y hy hf hnin
  have hyeff := t3 y (by rw [hT]; simp [hy])
  rw [hf] at hyeff
  have hxi : x.i < y.i := by
    have : T.map (·.i) = List.range l.length := by rw [t1]; simp [List.range_eq_range']
    rw [hT] at this
    exact ((range_split this).2.2.2.1 y hy).1
  have h1 := List.all_eq_true.1 hh y.i (by simpa using hyeff.symm)
  have h2 := List.all_eq_true.1 h1 x.i (List.mem_range.2 hxi)
  have hnc : (tabOf l y.i).contains x.i = false := by simpa using hnin
  rw [hnc, Bool.false_or, t2 x (by rw [hT]; simp)] at h2
  rw [hT] at t4
  obtain ⟨_, _, _, g4, g5⟩ := t4.split
  have hxe : x.eff = false := by
    cases hx : x.eff with
    | false => rfl
    | true =>
      rcases hc'.pair A x B hT y hy with h5 | ⟨_, h5⟩
      · exact absurd h5 hnin
      · rw [hx] at h5; cases h5
  rw [g5 hxe] at g4
  exact heapless_ok h2 g4
theorem awp_sdrawnE {n : Nat} (hm : P.follows .mixedOrders = true) (hΓ : GOk P Γ) {l : List Oper} (eff : List Nat) {id : Nat} {b : Code} {Q : Exit → Env → AHeap → Prop} (hc : chk l eff = true) (hh : chkH l eff = true) (hok : opsOk n l = true)
    (h : evalE P Γ l eff 0 l e H (awp P n b Q)) : awp P n (.seq (.region id l.toArray true) b) Q e H := awp_seq (awp_drawnE hm hΓ eff hc hh hok h)
end
end Go.AK
