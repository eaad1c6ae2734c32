/- Drawn regions by evaluation. -/
import Derived.Test.YtaikkfdnbihbiaaDoorAKE
namespace Go.AK
set_option linter.unusedVariables false
set_option linter.unusedSimpArgs false
open Go Go.RowKit

def dirs (o : Oper) : List Nat := (o.after.toList.filter (Region.binds .any ·)).map (·.on)
def ancGo : List Oper → List (List Nat) → List (List Nat)
  | [], acc => acc
  | o :: os, acc => ancGo os (acc ++ [dirs o ++ (dirs o).flatMap fun k => acc.getD k []])
def chkAt (l : List Oper) (tab : List (List Nat)) (eff : List Nat) (j : Nat) : Bool :=
  match l[j]? with
  | none => true
  | some oj => (dirs oj).all (fun k => decide (k < j)) && (tab.getD j []).all (fun i => (dirs oj).any fun k => k == i || (tab.getD k []).contains i) &&
    (List.range j).all fun i => match l[i]? with
      | none => true
      | some oi => (tab.getD j []).contains i || (oi.apart l.toArray oj && !eff.contains i)
def chk (l : List Oper) (eff : List Nat) : Bool := (List.range l.length).all (chkAt l (ancGo l []) eff)
def tabOf (l : List Oper) (j : Nat) : List Nat := (ancGo l []).getD j []
section
variable {l : List Oper} {eff : List Nat} {T : List DS}
theorem range_split {A : List DS} {d : DS} {B : List DS} {n : Nat} (h : (A ++ d :: B).map (·.i) = List.range n) : d.i = A.length ∧ (∀ k, k < A.length → k ∈ A.map (·.i)) ∧ (∀ x ∈ A, x.i < d.i) ∧ (∀ y ∈ B, d.i < y.i ∧ y.i < n) ∧ d.i < n := by
  have hlen : A.length + (B.length + 1) = n := by have := congrArg List.length h; simpa using this
  have hat : ∀ k, k < n → ((A ++ d :: B).map (·.i))[k]? = some k := fun k hk => by rw [h]; simp [hk]
  have hd : d.i = A.length := by
    have := hat A.length (by omega)
    simpa using this
  have hA : ∀ k, k < A.length → (A.map (·.i))[k]? = some k := fun k hk => by
    have := hat k (by omega)
    rw [List.map_append, List.getElem?_append_left (by simpa using hk)] at this
    exact this
  refine ⟨hd, fun k hk => List.mem_of_getElem? (hA k hk), fun x hx => ?_, fun y hy => ?_, by omega⟩
  · obtain ⟨k, hk, rfl⟩ := List.mem_iff_getElem.1 hx
    have := hA k hk
    simp [hk] at this
    omega
  · obtain ⟨k, hk, rfl⟩ := List.mem_iff_getElem.1 hy
    have := hat (A.length + 1 + k) (by omega)
    rw [List.map_append, List.getElem?_append_right (by simp; omega)] at this
    simp only [List.length_map, List.map_cons] at this
    have e : A.length + 1 + k - A.length = k + 1 := by omega
    rw [e, List.getElem?_cons_succ] at this
    simp [hk] at this
    omega
theorem chk_ok (h : chk l eff = true) (hi : T.map (·.i) = List.range l.length) (ho : ∀ d ∈ T, l[d.i]? = some d.o) (hf : ∀ d ∈ T, d.eff = eff.contains d.i) : DChk l.toArray (tabOf l) T := by
  have hat : ∀ j o, l[j]? = some o → (∀ k ∈ dirs o, k < j) ∧ (∀ i ∈ tabOf l j, ∃ k ∈ dirs o, k = i ∨ i ∈ tabOf l k) ∧ ∀ i, i < j → ∀ oi, l[i]? = some oi → i ∈ tabOf l j ∨ (oi.apart l.toArray o = true ∧ i ∉ eff) := by
    intro j o hj
    have hlt : j < l.length := (List.getElem?_eq_some_iff.1 hj).1
    have := List.all_eq_true.1 h j (List.mem_range.2 hlt)
    simp only [chkAt, hj, Bool.and_eq_true, List.all_eq_true, List.any_eq_true, Bool.or_eq_true, beq_iff_eq, decide_eq_true_eq, List.mem_range, List.contains_iff_mem] at this
    obtain ⟨⟨h1, h2⟩, h3⟩ := this
    refine ⟨h1, fun i hi => ?_, fun i hlt oi hoi => ?_⟩
    · obtain ⟨k, a, b⟩ := h2 i hi
      exact ⟨k, a, b⟩
    · have := h3 i hlt
      rw [hoi] at this
      simpa [tabOf] using this
  have hdir : ∀ j k, direct l.toArray j k ↔ ∃ o, l[j]? = some o ∧ k ∈ dirs o := by
    intro j k
    unfold direct dirs
    constructor
    · rintro ⟨o, h1, x, h2, h3, h4⟩
      exact ⟨o, by simpa using h1, List.mem_map.2 ⟨x, List.mem_filter.2 ⟨by simpa using h2, h3⟩, h4⟩⟩
    · rintro ⟨o, h1, h2⟩
      obtain ⟨x, h3, h4⟩ := List.mem_map.1 h2
      obtain ⟨h5, h6⟩ := List.mem_filter.1 h3
      exact ⟨o, by simpa using h1, x, by simpa using h5, h6, h4⟩
  refine ⟨by rw [hi]; exact List.nodup_range, fun i hlt => by rw [hi]; simpa using hlt, ?_, ?_, ?_⟩
  · intro A j B hT k hk
    rw [hT] at hi
    obtain ⟨p1, p2, p3, p4, p5⟩ := range_split hi
    obtain ⟨o, q1, q2⟩ := (hdir _ _).1 hk
    exact p2 k (by rw [← p1]; exact (hat _ _ q1).1 k q2)
  · intro j i hin
    by_cases hlt : j < l.length
    · obtain ⟨k, a, b⟩ := (hat j _ (List.getElem?_eq_getElem hlt)).2.1 i hin
      exact ⟨k, (hdir _ _).2 ⟨_, List.getElem?_eq_getElem hlt, a⟩, b⟩
    · have hlen : ∀ (l : List Oper) (acc : List (List Nat)), (ancGo l acc).length = acc.length + l.length := by
        intro l
        induction l with
        | nil => intro acc; rfl
        | cons o l ih => intro acc; simp only [ancGo]; rw [ih]; simp; omega
      have := hlen l []
      unfold tabOf at hin
      rw [List.getD_eq_getElem?_getD, List.getElem?_eq_none (by simp at this; omega)] at hin
      simp at hin
  · intro A x B hT y hy
    have hx := ho x (by rw [hT]; simp)
    have hyo := ho y (by rw [hT]; simp [hy])
    rw [hT] at hi
    obtain ⟨p1, p2, p3, p4, p5⟩ := range_split hi
    rcases (hat y.i y.o hyo).2.2 x.i (p4 y hy).1 x.o hx with h1 | ⟨h1, h2⟩
    · exact .inl h1
    · exact .inr ⟨h1, by rw [hf x (by rw [hT]; simp)]; simpa using h2⟩
end

/-! ### all quiet -/
open Classical in
noncomputable def evalQK (f : Value → Option Env) (H : AHeap) : Option (Value × AHeap) → Option Env
  | some (v, H') => if H' = H then f v else none
  | none => none
noncomputable def evalQ (P : Program) (Γ : Gam) (all : List Oper) : List Oper → Env → AHeap → Option Env
  | [], e, H => some e
  | o :: os, e, H => evalQK (fun v => evalQ P Γ all os (e.put o.dst v) H) H (gpop (gv all e o.guard) (popG P Γ o.op o.type e H) H)
noncomputable def evalQs (P : Program) (Γ : Gam) (all os : List Oper) (e : Env) (d : Option Tmp) (H : AHeap) (x : Option (Value × AHeap)) : Option Env := evalQK (fun v => evalQ P Γ all os (e.put d v) H) H x
section
variable {P : Program} {Γ : Gam} {all os : List Oper} {e : Env} {H : AHeap}
@[congr] theorem evalQs_congr {d : Option Tmp} {x y : Option (Value × AHeap)} (h : x = y) : evalQs P Γ all os e d H x = evalQs P Γ all os e d H y := by rw [h]
@[go_sem] theorem evalQs_some (d : Option Tmp) (v : Value) : evalQs P Γ all os e d H (some (v, H)) = evalQ P Γ all os (e.put d v) H := by simp [evalQs, evalQK]
@[go_sem ↓] theorem evalQ_nil : evalQ P Γ all [] e H = some e := id rfl
@[go_sem ↓] theorem evalQ_cons (d : Option Tmp) (op : Op) (t : TypeId) (p : String) (af : Array Edge) : evalQ P Γ all (⟨d, op, t, p, af, none⟩ :: os) e H = evalQs P Γ all os e d H (popG P Γ op t e H) := id rfl
@[go_sem ↓] theorem evalQ_guard (d : Option Tmp) (op : Op) (t : TypeId) (p : String) (af : Array Edge) (g : Nat × Bool) : evalQ P Γ all (⟨d, op, t, p, af, some g⟩ :: os) e H = evalQs P Γ all os e d H (gpop (gv all e (some g)) (popG P Γ op t e H) H) := id rfl
theorem evalQ_trace {ef : Env} : ∀ (os pre : List Oper) (e : Env), all = pre ++ os → evalQ P Γ all os e H = some ef → ∃ T : List DS, T.map (·.i) = List.range' pre.length os.length ∧ (∀ d ∈ T, all[d.i]? = some d.o) ∧ (∀ d ∈ T, d.eff = false) ∧ TOk P Γ all.toArray T e H ef H
  | [], pre, e, hall, h => by
    cases h
    exact ⟨[], rfl, by simp, by simp, rfl, rfl⟩
  | o :: os, pre, e, hall, h => by
    simp only [evalQ, evalQK] at h
    split at h
    · rename_i v H' hg
      split at h
      · rename_i hH
        rw [hH] at hg
        obtain ⟨T, t1, t2, t3, t4⟩ := evalQ_trace os (pre ++ [o]) _ (by rw [hall]; simp) h
        have ho : all[pre.length]? = some o := by rw [hall]; simp
        refine ⟨⟨pre.length, o, e, H, v, H, false⟩ :: T, ?_, ?_, ?_, rfl, rfl, by simpa using ho, by simpa [opg] using hg, fun _ => rfl, t4⟩
        · rw [List.map_cons, t1, List.length_append, List.length_singleton, List.length_cons, List.range'_succ]
        · intro d hd
          rcases List.mem_cons.1 hd with rfl | hd
          · exact ho
          · exact t2 d hd
        · intro d hd
          rcases List.mem_cons.1 hd with rfl | hd
          · rfl
          · exact t3 d hd
      · cases h
    · cases h
theorem awp_drawnQ {n : Nat} (hm : P.follows .mixedOrders = true) (hΓ : GOk P Γ) {l : List Oper} {ef : Env} (h : evalQ P Γ l l e H = some ef) (hc : chk l [] = true) (hok : opsOk n l = true) {id : Nat} {Q : Exit → Env → AHeap → Prop} (hQ : Q .normal ef H) :
    awp P n (.region id l.toArray true) Q e H := by
  obtain ⟨T, t1, t2, t3, t4⟩ := evalQ_trace l [] e (by simp) h
  have hc' := chk_ok hc (T := T) (by rw [t1]; simp [List.range_eq_range']) t2 (fun d hd => by rw [t3 d hd]; rfl)
  refine awp_drawn hm hΓ hc' ?_ t4 hok hQ
  intro A x B hT y hy hf
  rw [t3 y (by rw [hT]; simp [hy])] at hf; cases hf
theorem awp_sdrawnQ {n : Nat} (hm : P.follows .mixedOrders = true) (hΓ : GOk P Γ) {l : List Oper} {ef : Env} (h : evalQ P Γ l l e H = some ef) (hc : chk l [] = true) (hok : opsOk n l = true) {id : Nat} {b : Code} {Q : Exit → Env → AHeap → Prop} (hQ : awp P n b Q ef H) :
    awp P n (.seq (.region id l.toArray true) b) Q e H := awp_seq (awp_drawnQ hm hΓ h hc hok hQ)
end
end Go.AK
