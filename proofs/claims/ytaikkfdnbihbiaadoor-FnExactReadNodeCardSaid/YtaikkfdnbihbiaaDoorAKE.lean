/- Regions whose order is drawn: every order comes to the same. -/
import Derived.Test.YtaikkfdnbihbiaaDoorAKC
import Derived.Orders
namespace Go.AK
set_option linter.unusedVariables false
set_option linter.unusedSimpArgs false
open Go Go.RowKit

/-! ### an operation looks at its operands alone -/
section
variable {P : Program} {Γ : Gam} {e e' : Env} {H : AHeap}
theorem evo_congr {x : Operand} (h : ∀ t, x = .tmp t → e t = e' t) : evo P e H x = evo P e' H x := by
  cases x <;> simp [evo]
  exact h _ rfl
theorem evoOpt_congr {x : Option Operand} (h : ∀ y t, x = some y → y = .tmp t → e t = e' t) : evoOpt P e H x = evoOpt P e' H x := by
  cases x with
  | none => rfl
  | some y => simp only [evoOpt, evo_congr (H := H) (P := P) (h y · rfl)]
theorem partsA_congr : ∀ {l : List (Nat × Operand)} (h : ∀ t i, (i, Operand.tmp t) ∈ l → e t = e' t), partsA P e H l = partsA P e' H l
  | [], _ => rfl
  | (i, x) :: l, h => by
    simp only [partsA]
    rw [evo_congr (P := P) (H := H) (x := x) (e := e) (e' := e') (fun t ht => h t i (by rw [ht]; exact List.mem_cons_self)), partsA_congr (l := l) fun t j hj => h t j (List.mem_cons_of_mem _ hj)]
theorem mapM_congr : ∀ {l : List Operand} (h : ∀ t, Operand.tmp t ∈ l → e t = e' t), l.mapM (evo P e H) = l.mapM (evo P e' H)
  | [], _ => rfl
  | x :: l, h => by
    rw [List.mapM_cons, List.mapM_cons, evo_congr (P := P) (H := H) (x := x) (e := e) (e' := e') (fun t ht => h t (by rw [ht]; exact List.mem_cons_self)), mapM_congr (l := l) fun t ht => h t (List.mem_cons_of_mem _ ht)]
theorem popB_congr {b : Builtin} {args : List Operand} {ts : List TypeId} (h : ∀ t, Operand.tmp t ∈ args → e t = e' t) : popB P b args ts e H = popB P b args ts e' H := by
  have hx : ∀ x ∈ args, evo P e H x = evo P e' H x := fun x hm => evo_congr fun t ht => h t (ht ▸ hm)
  unfold popB
  split
  · rw [hx _ (by simp)]
  · rw [hx _ (by simp), hx _ (by simp)]
  · rw [hx _ (by simp), hx _ (by simp)]
  · rw [hx _ (by simp), hx _ (by simp)]
  · rfl
theorem pop_congr {op : Op} {ty : TypeId} (h : ∀ t, Operand.tmp t ∈ op.operands.toList → e t = e' t) : pop P op ty e H = pop P op ty e' H := by
  have hx : ∀ x, x ∈ op.operands.toList → evo P e H x = evo P e' H x := fun x hm => evo_congr fun t ht => h t (ht ▸ hm)
  cases op with
  | slice t x lo hi mx =>
    cases mx with
    | some m =>
      simp only [Op.operands] at hx h
      have h1 : evoOpt P e H lo = evoOpt P e' H lo := evoOpt_congr fun y t e1 e2 => h t (by subst e1; subst e2; simp)
      have h2 : evoOpt P e H hi = evoOpt P e' H hi := evoOpt_congr fun y t e1 e2 => h t (by subst e1; subst e2; simp)
      simp only [pop, h1, h2, hx x (by simp), hx m (by simp)]
    | none =>
      simp only [Op.operands] at hx h
      have h1 : evoOpt P e H lo = evoOpt P e' H lo := evoOpt_congr fun y t e1 e2 => h t (by subst e1; subst e2; simp)
      have h2 : evoOpt P e H hi = evoOpt P e' H hi := evoOpt_congr fun y t e1 e2 => h t (by subst e1; subst e2; simp)
      simp only [pop, h1, h2, hx x (by simp)]
  | build t ps =>
    have h1 : partsA P e H ps.toList = partsA P e' H ps.toList := partsA_congr fun t i hm => h t (by simp [Op.operands]; exact ⟨i, by simpa using hm⟩)
    simp only [pop, h1]
  | buildSlice t n ps =>
    have h1 : partsA P e H ps.toList = partsA P e' H ps.toList := partsA_congr fun t i hm => h t (by simp [Op.operands]; exact ⟨i, by simpa using hm⟩)
    simp only [pop, h1]
  | call c =>
    simp only [pop]
    split
    · rename_i b hb
      refine popB_congr fun t ht => h t ?_
      simp only [Op.operands, Call.operands, hb]
      simpa using ht
    · rfl
  | _ => first | rfl | (simp only [Op.operands, List.mem_cons, List.not_mem_nil, or_false, forall_eq_or_imp, forall_eq] at hx; simp only [pop, hx])
theorem callOf_congr {op : Op} (h : ∀ t, Operand.tmp t ∈ op.operands.toList → e t = e' t) : callOf P e H op = callOf P e' H op := by
  cases op with
  | call c =>
    simp only [callOf]
    split
    · rename_i f hf
      have h1 : evo P e H f = evo P e' H f := evo_congr fun t ht => h t (by simp [Op.operands, Call.operands, hf, ht])
      have h2 : c.args.toList.mapM (evo P e H) = c.args.toList.mapM (evo P e' H) := mapM_congr fun t ht => h t (by
        simp only [Op.operands, Call.operands, hf]
        simp; exact .inr (by simpa using ht))
      rw [h1, h2]
    · rfl
  | _ => rfl
theorem popG_congr {op : Op} {ty : TypeId} (h : ∀ t, Operand.tmp t ∈ op.operands.toList → e t = e' t) : popG P Γ op ty e H = popG P Γ op ty e' H := by
  unfold popG
  rw [callOf_congr h, pop_congr h]
end
/-- an operation with its guard -/
def opg (P : Program) (Γ : Gam) (all : List Oper) (o : Oper) (e : Env) (H : AHeap) : Option (Value × AHeap) := gpop (gv all e o.guard) (popG P Γ o.op o.type e H) H
section
variable {P : Program} {Γ : Gam} {ops : Array Oper}
theorem opg_congr {o : Oper} {e e' : Env} {H : AHeap} (h : ∀ t, t ∈ o.looksAt ops → e t = e' t) : opg P Γ ops.toList o e H = opg P Γ ops.toList o e' H := by
  have h1 : popG P Γ o.op o.type e H = popG P Γ o.op o.type e' H := popG_congr fun t ht => h t (by
    unfold Oper.looksAt
    exact List.mem_append_left _ (List.mem_filterMap.2 ⟨.tmp t, ht, rfl⟩))
  have h2 : gv ops.toList e o.guard = gv ops.toList e' o.guard := by
    unfold gv
    cases hg : o.guard with
    | none => rfl
    | some q =>
      obtain ⟨j, want⟩ := q
      cases hd : (ops.toList[j]?).bind (·.dst) with
      | none => simp only [hd]
      | some d =>
        simp only [hd]
        rw [h d (by
          unfold Oper.looksAt
          refine List.mem_append_right _ ?_
          have hd2 : (ops[j]?).bind (·.dst) = some d := by rw [← hd]; congr 1; simp
          simp only [hg, hd2, Option.mem_toList])]
  unfold opg
  rw [h1, h2]

/-! ### a listing, done in order -/
structure DS where
  i : Nat
  o : Oper
  e : Env
  H : AHeap
  v : Value
  H' : AHeap
  eff : Bool
/-- the trace of a listing -/
def TOk (P : Program) (Γ : Gam) (ops : Array Oper) : List DS → Env → AHeap → Env → AHeap → Prop
  | [], e, H, e', H' => e' = e ∧ H' = H
  | d :: T, e, H, e', H' => d.e = e ∧ d.H = H ∧ ops[d.i]? = some d.o ∧ opg P Γ ops.toList d.o e H = some (d.v, d.H') ∧ (d.eff = false → d.H' = H) ∧ TOk P Γ ops T (e.put d.o.dst d.v) d.H' e' H'
/-- what the slots hold when the operations in S are done -/
def envS (S : Nat → Bool) : List DS → Env → Env
  | [], e => e
  | d :: T, e => envS S T (if S d.i = true then e.put d.o.dst d.v else e)
/-- the heap when the operations in S are done -/
def heapS (S : Nat → Bool) : List DS → AHeap → AHeap
  | [], H => H
  | d :: T, H => heapS S T (if S d.i = true ∧ d.eff = true then d.H' else H)
theorem put_off {e : Env} {d : Option Nat} {v : Value} {t : Nat} (h : d ≠ some t) : (e.put d v) t = e t := by
  cases d with
  | none => rfl
  | some k => exact put_ne e v fun hk => h (by rw [hk])
theorem envS_at (S S' : Nat → Bool) (t : Nat) : ∀ (T : List DS) (e e' : Env), e t = e' t → (∀ d ∈ T, d.o.dst = some t → S d.i = S' d.i) → envS S T e t = envS S' T e' t
  | [], e, e', h, _ => h
  | d :: T, e, e', h, hs => by
    simp only [envS]
    refine envS_at S S' t T _ _ ?_ fun d hd => hs d (List.mem_cons_of_mem _ hd)
    by_cases hd : d.o.dst = some t
    · rw [hs d List.mem_cons_self hd]
      split
      · rw [hd, put_same, put_same]
      · exact h
    · have : ∀ e : Env, (if S d.i = true then e.put d.o.dst d.v else e) t = e t := fun e => by split <;> (try exact put_off hd); rfl
      have h2 : ∀ e : Env, (if S' d.i = true then e.put d.o.dst d.v else e) t = e t := fun e => by split <;> (try exact put_off hd); rfl
      rw [this, h2, h]
theorem envS_none (S : Nat → Bool) (t : Nat) (T : List DS) (e : Env) (h : ∀ d ∈ T, d.o.dst = some t → S d.i = false) : envS S T e t = e t := by
  rw [envS_at S (fun _ => false) t T e e rfl h]
  clear h
  induction T generalizing e with
  | nil => rfl
  | cons d T ih => simp only [envS, Bool.false_eq_true, if_false]; exact ih e
theorem put_comm {e : Env} {a b : Option Nat} {x y : Value} (h : ∀ k, a = some k → b ≠ some k) : (e.put a x).put b y = (e.put b y).put a x := by
  cases a with
  | none => rfl
  | some k =>
    cases b with
    | none => rfl
    | some l =>
      have : k ≠ l := fun hk => h k rfl (by rw [hk])
      funext i
      simp only [Env.put]
      by_cases h1 : i = l <;> by_cases h2 : i = k <;> simp [h1, h2] <;> (try intro hh) <;> (try omega)
/-- one operation more -/
theorem envS_add {S : Nat → Bool} {j : DS} : ∀ {T : List DS} {e : Env}, (∀ d ∈ T, S d.i = true → ∀ k, j.o.dst = some k → d.o.dst ≠ some k) → envS S T (e.put j.o.dst j.v) = (envS S T e).put j.o.dst j.v
  | [], _, _ => rfl
  | d :: T, e, h => by
    simp only [envS]
    split
    · rename_i hd
      rw [put_comm (h d List.mem_cons_self hd), envS_add fun d hd => h d (List.mem_cons_of_mem _ hd)]
    · exact envS_add fun d hd => h d (List.mem_cons_of_mem _ hd)
/-- where a step lies in the trace -/
theorem TOk.split {A : List DS} : ∀ {e : Env} {H : AHeap} {j : DS} {B : List DS} {e' : Env} {H' : AHeap}, TOk P Γ ops (A ++ j :: B) e H e' H' →
    j.e = envS (fun _ => true) A e ∧ j.H = heapS (fun _ => true) A H ∧ ops[j.i]? = some j.o ∧ opg P Γ ops.toList j.o j.e j.H = some (j.v, j.H') ∧ (j.eff = false → j.H' = j.H) := by
  induction A with
  | nil =>
    intro e H j B e' H' h
    obtain ⟨h1, h2, h3, h4, h5, _⟩ := h
    exact ⟨h1, h2, h3, by rw [h1, h2]; exact h4, by rw [h2]; exact h5⟩
  | cons a A ih =>
    intro e H j B e' H' h
    obtain ⟨h1, h2, h3, h4, h5, h6⟩ := h
    obtain ⟨g1, g2, g3⟩ := ih h6
    refine ⟨by simpa [envS] using g1, ?_, g3⟩
    rw [g2]
    simp only [heapS, true_and]
    cases hf : a.eff with
    | true => simp
    | false => simp [h5 hf]
theorem TOk.final : ∀ {T : List DS} {e : Env} {H : AHeap} {e' : Env} {H' : AHeap}, TOk P Γ ops T e H e' H' → e' = envS (fun _ => true) T e ∧ H' = heapS (fun _ => true) T H
  | [], _, _, _, _, h => h
  | a :: T, e, H, e', H', h => by
    obtain ⟨h1, h2, h3, h4, h5, h6⟩ := h
    obtain ⟨g1, g2⟩ := TOk.final h6
    refine ⟨by simpa [envS] using g1, ?_⟩
    rw [g2]
    simp only [heapS, true_and]
    cases hf : a.eff with
    | true => simp
    | false => simp [h5 hf]

/-! ### every order -/
def direct (ops : Array Oper) (j k : Nat) : Prop := ∃ o, ops[j]? = some o ∧ ∃ x ∈ o.after, Region.binds .any x = true ∧ x.on = k
structure DChk (ops : Array Oper) (tab : Nat → List Nat) (T : List DS) : Prop where
  nodup : (T.map (·.i)).Nodup
  all : ∀ i, i < ops.size → i ∈ T.map (·.i)
  top : ∀ A j B, T = A ++ j :: B → ∀ k, direct ops j.i k → k ∈ A.map (·.i)
  anc : ∀ j i, i ∈ tab j → ∃ k, direct ops j k ∧ (k = i ∨ i ∈ tab k)
  pair : ∀ A x B, T = A ++ x :: B → ∀ y ∈ B, x.i ∈ tab y.i ∨ (x.o.apart ops y.o = true ∧ x.eff = false)
def Again (P : Program) (Γ : Gam) (ops : Array Oper) (tab : Nat → List Nat) (T : List DS) : Prop :=
  ∀ A x B, T = A ++ x :: B → ∀ y ∈ B, y.eff = true → x.i ∉ tab y.i → opg P Γ ops.toList x.o x.e y.H' = some (x.v, y.H')
theorem envS_app (S : Nat → Bool) : ∀ (A B : List DS) (e : Env), envS S (A ++ B) e = envS S B (envS S A e)
  | [], _, _ => rfl
  | a :: A, B, e => envS_app S A B _
theorem heapS_app (S : Nat → Bool) : ∀ (A B : List DS) (H : AHeap), heapS S (A ++ B) H = heapS S B (heapS S A H)
  | [], _, _ => rfl
  | a :: A, B, H => heapS_app S A B _
theorem heapS_congr {S S' : Nat → Bool} : ∀ {A : List DS} {H : AHeap}, (∀ x ∈ A, x.eff = true → S x.i = S' x.i) → heapS S A H = heapS S' A H
  | [], _, _ => rfl
  | a :: A, H, h => by
    simp only [heapS]
    rw [heapS_congr fun x hx => h x (List.mem_cons_of_mem _ hx)]
    congr 1
    cases hf : a.eff with
    | true => rw [h a List.mem_cons_self hf]
    | false => simp
theorem envS_congr {S S' : Nat → Bool} : ∀ {A : List DS} {e : Env}, (∀ x ∈ A, S x.i = S' x.i) → envS S A e = envS S' A e
  | [], _, _ => rfl
  | a :: A, e, h => by
    simp only [envS]
    rw [envS_congr fun x hx => h x (List.mem_cons_of_mem _ hx), h a List.mem_cons_self]
theorem heapS_last {S : Nat → Bool} : ∀ {B : List DS} {H : AHeap}, heapS S B H = H ∨ ∃ y ∈ B, S y.i = true ∧ y.eff = true ∧ heapS S B H = y.H'
  | [], _ => .inl rfl
  | b :: B, H => by
    simp only [heapS]
    split
    · rename_i hb
      rcases heapS_last (S := S) (B := B) (H := b.H') with h | ⟨y, h1, h2, h3, h4⟩
      · exact .inr ⟨b, List.mem_cons_self, hb.1, hb.2, h⟩
      · exact .inr ⟨y, List.mem_cons_of_mem _ h1, h2, h3, h4⟩
    · rcases heapS_last (S := S) (B := B) (H := H) with h | ⟨y, h1, h2, h3, h4⟩
      · exact .inl h
      · exact .inr ⟨y, List.mem_cons_of_mem _ h1, h2, h3, h4⟩
section
variable {tab : Nat → List Nat} {T : List DS} {S : Nat → Bool}
theorem at_of (hc : DChk ops tab T) {j : Nat} (hj : j ∈ T.map (·.i)) : ∃ A d B, T = A ++ d :: B ∧ d.i = j := by
  obtain ⟨d, h1, h2⟩ := List.mem_map.1 hj
  obtain ⟨A, B, h3⟩ := List.append_of_mem h1
  exact ⟨A, d, B, h3, h2⟩
theorem anc_in (hc : DChk ops tab T) (hS : ∀ j k, S j = true → direct ops j k → S k = true) : ∀ (n : Nat) (A : List DS) (d : DS) (B : List DS), T = A ++ d :: B → A.length ≤ n → (∀ k, direct ops d.i k → S k = true) → ∀ i ∈ tab d.i, S i = true := by
  intro n
  induction n with
  | zero =>
    intro A d B hT hA hd i hi
    obtain ⟨k, h1, h2⟩ := hc.anc _ _ hi
    have := hc.top A d B hT k h1
    have : A = [] := List.eq_nil_of_length_eq_zero (by omega)
    subst this
    simp at *
  | succ n ih =>
    intro A d B hT hA hd i hi
    obtain ⟨k, h1, h2⟩ := hc.anc _ _ hi
    rcases h2 with rfl | h2
    · exact hd _ h1
    · have hk := hc.top A d B hT k h1
      obtain ⟨x, hx, hxk⟩ := List.mem_map.1 hk
      obtain ⟨A1, A2, hA12⟩ := List.append_of_mem hx
      subst hxk
      refine ih A1 x (A2 ++ d :: B) (by rw [hT, hA12]; simp) (by rw [hA12] at hA; simp at hA; omega) (fun k' hk' => hS _ _ (hd _ h1) hk') i h2
theorem anc_of (hc : DChk ops tab T) (hS : ∀ j k, S j = true → direct ops j k → S k = true) {A : List DS} {d : DS} {B : List DS} (hT : T = A ++ d :: B) (hd : ∀ k, direct ops d.i k → S k = true) {i : Nat} (hi : i ∈ tab d.i) : S i = true :=
  anc_in hc hS A.length A d B hT (Nat.le_refl _) hd i hi
theorem other_i (hc : DChk ops tab T) {A : List DS} {d : DS} {B : List DS} (hT : T = A ++ d :: B) : (∀ x ∈ A, x.i ≠ d.i) ∧ ∀ x ∈ B, x.i ≠ d.i := by
  have h := hc.nodup
  rw [hT, List.map_append, List.map_cons, List.nodup_append] at h
  obtain ⟨_, h2, h3⟩ := h
  rw [List.nodup_cons] at h2
  refine ⟨fun x hx he => ?_, fun x hx he => h2.1 (he ▸ List.mem_map.2 ⟨x, hx, rfl⟩)⟩
  exact h3 x.i (List.mem_map.2 ⟨x, hx, rfl⟩) d.i List.mem_cons_self he
/-- what one step in any order does -/
theorem step_any (hc : DChk ops tab T) (ha : Again P Γ ops tab T) {e : Env} {H : AHeap} {ef : Env} {Hf : AHeap} (hT : TOk P Γ ops T e H ef Hf) (hS : ∀ j k, S j = true → direct ops j k → S k = true)
    {A : List DS} {d : DS} {B : List DS} (hsp : T = A ++ d :: B) (hd : S d.i = false) (hdir : ∀ k, direct ops d.i k → S k = true) :
    ops[d.i]? = some d.o ∧ opg P Γ ops.toList d.o (envS S T e) (heapS S T H) = some (d.v, heapS (fun i => S i || i == d.i) T H) ∧ envS (fun i => S i || i == d.i) T e = (envS S T e).put d.o.dst d.v := by
  have hTs := hT
  rw [hsp] at hTs
  obtain ⟨g1, g2, g3, g4, g5⟩ := hTs.split
  obtain ⟨oA, oB⟩ := other_i hc hsp
  have later : ∀ y ∈ B, d.i ∈ tab y.i → S y.i = false := fun y hy hin => by
    cases hs : S y.i with
    | false => rfl
    | true =>
      obtain ⟨B1, B2, hB⟩ := List.append_of_mem hy
      have := anc_of hc hS (A := A ++ d :: B1) (d := y) (B := B2) (by rw [hsp, hB]; simp) (fun k hk => hS _ _ hs hk) hin
      rw [hd] at this; cases this
  have earlier : ∀ x ∈ A, x.i ∈ tab d.i → S x.i = true := fun x hx hin => anc_of hc hS hsp hdir hin
  have pairA : ∀ x ∈ A, x.i ∈ tab d.i ∨ (x.o.apart ops d.o = true ∧ x.eff = false) := fun x hx => by
    obtain ⟨A1, A2, hA⟩ := List.append_of_mem hx
    exact hc.pair A1 x (A2 ++ d :: B) (by rw [hsp, hA]; simp) d (by simp)
  have pairB := hc.pair A d B hsp
  -- what it looks at
  have hlook : ∀ t, t ∈ d.o.looksAt ops → envS S T e t = d.e t := by
    intro t ht
    rw [hsp, envS_app, g1]
    rw [envS_none S t (d :: B)]
    · refine envS_at S _ t A e e rfl fun x hx hdst => ?_
      rcases pairA x hx with h | ⟨h, _⟩
      · exact earlier x hx h
      · exact absurd ht ((Oper.apart_spec h).1 t hdst)
    · intro y hy hdst
      rcases List.mem_cons.1 hy with rfl | hy
      · exact hd
      · rcases pairB y hy with h | ⟨h, _⟩
        · exact later y hy h
        · exact absurd ht ((Oper.apart_spec h).2.2 t hdst)
  have hheapA : heapS S A H = d.H := by
    rw [g2]
    refine heapS_congr fun x hx hf => ?_
    rcases pairA x hx with h | ⟨_, h⟩
    · exact earlier x hx h
    · rw [hf] at h; cases h
  have hheap : heapS S T H = heapS S B d.H := by
    rw [hsp, heapS_app, hheapA]
    simp [heapS, hd]
  have hAadd : ∀ x ∈ A, (S x.i || x.i == d.i) = S x.i := fun x hx => by simp [oA x hx]
  have hBadd : ∀ x ∈ B, (S x.i || x.i == d.i) = S x.i := fun x hx => by simp [oB x hx]
  refine ⟨g3, ?_, ?_⟩
  · rw [opg_congr (ops := ops) (e' := d.e) hlook, hheap]
    have hadd : heapS (fun i => S i || i == d.i) T H = heapS S B (if d.eff = true then d.H' else d.H) := by
      rw [hsp, heapS_app]
      rw [heapS_congr (S' := S) (A := A) fun x hx _ => hAadd x hx, hheapA]
      simp only [heapS]
      rw [heapS_congr (S' := S) (A := B) fun x hx _ => hBadd x hx]
      simp
    rw [hadd]
    cases hf : d.eff with
    | true =>
      have hnone : ∀ h : AHeap, heapS S B h = h := fun h => by
        rcases heapS_last (S := S) (B := B) (H := h) with h1 | ⟨y, h1, h2, h3, _⟩
        · exact h1
        · rcases pairB y h1 with h4 | ⟨_, h4⟩
          · rw [later y h1 h4] at h2; cases h2
          · rw [hf] at h4; cases h4
      rw [hnone, hnone]
      simpa using g4
    | false =>
      simp only [Bool.false_eq_true, if_false]
      have g5' := g5 hf
      rcases heapS_last (S := S) (B := B) (H := d.H) with h1 | ⟨y, h1, h2, h3, h4⟩
      · rw [h1]; rw [g5'] at g4; exact g4
      · rw [h4]
        refine ha A d B hsp y h1 h3 fun hin => ?_
        rw [later y h1 hin] at h2; cases h2
  · rw [hsp, envS_app, envS_app]
    rw [envS_congr (S' := S) (A := A) hAadd]
    simp only [envS, hd, Bool.false_eq_true, if_false, beq_self_eq_true, Bool.or_true, if_true]
    rw [envS_congr (S' := S) (A := B) hBadd]
    refine envS_add fun y hy hs k hk => ?_
    rcases pairB y hy with h | ⟨h, _⟩
    · rw [later y hy h] at hs; cases hs
    · exact (Oper.apart_spec h).2.1 k hk
end

/-! ### the region -/
section
variable {tab : Nat → List Nat} {T : List DS} {n : Nat}
theorem direct_iff {j k : Nat} {o : Oper} (ho : ops[j]? = some o) : direct ops j k ↔ ∃ x ∈ o.after, Region.binds .any x = true ∧ x.on = k := by
  constructor
  · rintro ⟨o', h1, h2⟩
    rw [ho] at h1; cases h1; exact h2
  · intro h; exact ⟨o, ho, h⟩
def lsd (listed : Array Bool) (i : Nat) : Bool := listed.getD i false
theorem lsd_set {listed : Array Bool} {i : Nat} (hi : i < listed.size) : lsd (listed.setIfInBounds i true) = fun k => lsd listed k || k == i := by
  funext k
  unfold lsd
  by_cases h : i = k
  · subst h; simp [hi]
  · rw [getD_set_ne false h]
    have : (k == i) = false := by simpa using fun e => h e.symm
    simp [this]
theorem left_lt {listed : Array Bool} {i : Nat} {m : Nat} (hi : i < m) (hl : lsd listed i = false) (hs : i < listed.size) :
    (List.range m).countP (fun k => !lsd (listed.setIfInBounds i true) k) < (List.range m).countP (fun k => !lsd listed k) := by
  rw [lsd_set hs]
  have h1 : ∀ l : List Nat, l.countP (fun k => !(lsd listed k || k == i)) ≤ l.countP (fun k => !lsd listed k) := fun l =>
    List.countP_mono_left fun k _ hk => by
      simp only [Bool.not_or, Bool.and_eq_true] at hk
      exact hk.1
  obtain ⟨A, B, hAB⟩ := List.append_of_mem (List.mem_range.2 hi)
  rw [hAB]
  simp only [List.countP_append, List.countP_cons, hl, beq_self_eq_true, Bool.or_true, Bool.not_true, Bool.not_false, if_true, Bool.false_eq_true, if_false]
  have := h1 A
  have := h1 B
  omega
theorem any_sound {K : Nat → Prop} {w0 : World} (hΓ : GOk P Γ) (hc : DChk ops tab T) (ha : Again P Γ ops tab T) {e : Env} {H : AHeap} {ef : Env} {Hf : AHeap} (hT : TOk P Γ ops T e H ef Hf) (hok : opsOk n ops.toList = true)
    {r : Ren} {Q : Env → AHeap → Prop} (hQ : Q ef Hf) : ∀ (fuel : Nat) (listed : Array Bool) (a : Act) (w : World), listed.size = ops.size → (List.range ops.size).countP (fun k => !lsd listed k) ≤ fuel →
    (∀ j k, lsd listed j = true → direct ops j k → lsd listed k = true) → (∃ r', r.le r' ∧ Sim (bs P) K w0 r' (heapS (lsd listed) T H) w ∧ ERel r' (envS (lsd listed) T e) a) → a.defers = [] → a.tmps.size = n →
    wpAny P .any ops (Lift P K w0 n r fun ex e' H' => ex = .normal ∧ Q e' H') fuel listed a w := by
  have done : ∀ (listed : Array Bool) (a : Act) (w : World), listed.size = ops.size → (∀ j k, lsd listed j = true → direct ops j k → lsd listed k = true) → (∃ r', r.le r' ∧ Sim (bs P) K w0 r' (heapS (lsd listed) T H) w ∧ ERel r' (envS (lsd listed) T e) a) →
      a.defers = [] → a.tmps.size = n → Region.ready .any ops listed = [] → Lift P K w0 n r (fun ex e' H' => ex = .normal ∧ Q e' H') .normal a w := by
    intro listed a w hsz hS ⟨r', hr, hs, he⟩ hd hz hrd
    have hall : ∀ (m : Nat) (A B : List DS), A.length = m → T = A ++ B → ∀ x ∈ A, lsd listed x.i = true := by
      intro m
      induction m with
      | zero => intro A B hA _ x hx; rw [List.eq_nil_of_length_eq_zero hA] at hx; cases hx
      | succ m ih =>
        intro A B hA hAB x hx
        obtain ⟨A', d, rfl⟩ : ∃ A' d, A = A' ++ [d] := ⟨A.dropLast, A.getLast (by intro h; rw [h] at hA; simp at hA), (List.dropLast_concat_getLast _).symm⟩
        have hA' := ih A' (d :: B) (by simp at hA; exact hA) (by rw [hAB]; simp)
        rcases List.mem_append.1 hx with hx | hx
        · exact hA' x hx
        · rw [List.mem_singleton] at hx
          subst hx
          cases hl : lsd listed x.i with
          | true => rfl
          | false =>
            have hsp : T = A' ++ x :: B := by rw [hAB]; simp
            have hTs := hT
            rw [hsp] at hTs
            obtain ⟨_, _, g3, _⟩ := hTs.split
            have hmem : x.i ∈ Region.ready .any ops listed := by
              rw [mem_ready]
              have hlt : x.i < listed.size := by rw [hsz]; exact (Array.getElem?_eq_some_iff.1 g3).1
              refine ⟨?_, x.o, g3, fun y hy hb => ?_⟩
              · unfold lsd at hl
                simp [hlt] at hl ⊢; exact hl
              · have := hc.top A' x B hsp y.on ⟨x.o, g3, y, hy, hb, rfl⟩
                obtain ⟨z, hz, hzi⟩ := List.mem_map.1 this
                have := hA' z hz
                rw [hzi] at this
                exact this
            rw [hrd] at hmem; cases hmem
    have hal := hall T.length T [] rfl (by simp)
    obtain ⟨f1, f2⟩ := hT.final
    refine ⟨hd, hz, r', ef, Hf, hr, ?_, ?_, rfl, hQ⟩
    · rw [f2, ← heapS_congr (S := lsd listed) fun x hx _ => hal x hx]; exact hs
    · rw [f1, ← envS_congr (S := lsd listed) fun x hx => hal x hx]; exact he
  intro fuel
  induction fuel with
  | zero =>
    intro listed a w hsz hcnt hS hst hd hz
    have hnone : Region.ready .any ops listed = [] := by
      cases hr : Region.ready .any ops listed with
      | nil => rfl
      | cons j l =>
        have hm : j ∈ Region.ready .any ops listed := by rw [hr]; exact List.mem_cons_self
        obtain ⟨h1, o, h2, _⟩ := mem_ready.1 hm
        have hlt : j < ops.size := (Array.getElem?_eq_some_iff.1 h2).1
        have hl : lsd listed j = false := by
          unfold lsd
          have : j < listed.size := by omega
          simp [this] at h1 ⊢; exact h1
        have : 0 < (List.range ops.size).countP (fun k => !lsd listed k) := List.countP_pos_iff.2 ⟨j, List.mem_range.2 hlt, by rw [hl]; rfl⟩
        omega
    exact ⟨hnone, done listed a w hsz hS hst hd hz hnone⟩
  | succ fuel ih =>
    intro listed a w hsz hcnt hS hst hd hz
    refine ⟨done listed a w hsz hS hst hd hz, fun j hj => ?_⟩
    obtain ⟨h1, o, h2, h3⟩ := mem_ready.1 hj
    have hlt : j < ops.size := (Array.getElem?_eq_some_iff.1 h2).1
    have hlt2 : j < listed.size := by omega
    have hl : lsd listed j = false := by
      unfold lsd
      simp [hlt2] at h1 ⊢; exact h1
    obtain ⟨A, d, B, hsp, rfl⟩ := at_of hc (hc.all j hlt)
    have hdir : ∀ k, direct ops d.i k → lsd listed k = true := fun k hk => by
      obtain ⟨y, hy, hb, rfl⟩ := (direct_iff h2).1 hk
      exact h3 y hy hb
    obtain ⟨g1, g2, g3⟩ := step_any hc ha hT hS hsp hl hdir
    rw [g1] at h2; cases h2
    obtain ⟨r', hr, hs, he⟩ := hst
    have hS' : ∀ j k, lsd (listed.setIfInBounds d.i true) j = true → direct ops j k → lsd (listed.setIfInBounds d.i true) k = true := by
      rw [lsd_set hlt2]
      intro j k hj hk
      simp only [Bool.or_eq_true, beq_iff_eq] at hj ⊢
      rcases hj with hj | rfl
      · exact .inl (hS j k hj hk)
      · exact .inl (hdir k hk)
    have hdst : ∀ k, d.o.dst = some k → k < a.tmps.size := by
      intro k hk
      have hmem : d.o ∈ ops.toList := by
        have := Array.getElem?_eq_some_iff.1 g1
        obtain ⟨q1, q2⟩ := this
        rw [← q2]; simp
      have := List.all_eq_true.1 hok d.o hmem
      rw [hk] at this
      rw [hz]; simpa using this
    have next : ∀ (r2 : Ren) (v' : Value) (H' : AHeap) (w' : World), r'.le r2 → Sim (bs P) K w0 r2 H' w' → VRel r2 d.v v' → H' = heapS (fun i => lsd listed i || i == d.i) T H →
        wpAny P .any ops (Lift P K w0 n r fun ex e' H' => ex = .normal ∧ Q e' H') fuel (listed.setIfInBounds d.i true) (a.put d.o.dst v') w' := by
      intro r2 v' H' w' hr2 hs2 hv hH
      refine ih _ _ _ (by simpa using hsz) ?_ hS' ⟨r2, Ren.le_trans hr hr2, ?_, ?_⟩ (by rw [Act.put_defers]; exact hd) (by rw [Act.put_size]; exact hz)
      · have := left_lt (listed := listed) hlt hl hlt2
        omega
      · rw [lsd_set hlt2, ← hH]; exact hs2
      · rw [lsd_set hlt2, g3]
        exact ERel.put (he.mono hr2) hdst hv
    unfold wpOp
    simp only [g1]
    rw [gv_wanted he]
    unfold opg at g2
    by_cases hg : gv ops.toList (envS (lsd listed) T e) d.o.guard = true
    · rw [if_pos hg]
      rw [hg, gpop_true] at g2
      exact .inl (opwp_sound (Q := fun v H' => v = d.v ∧ H' = heapS (fun i => lsd listed i || i == d.i) T H) hs he (opwp_of hΓ g2 ⟨rfl, rfl⟩) fun r2 v v' H' w' hr2 hs2 hv hh => next r2 v' H' w' hr2 hs2 (hh.1 ▸ hv) hh.2)
    · rw [if_neg hg]
      have hg' : gv ops.toList (envS (lsd listed) T e) d.o.guard = false := by simpa using hg
      rw [hg', gpop_false] at g2
      simp only [Option.some.injEq, Prod.mk.injEq] at g2
      exact next r' _ _ w (Ren.le_refl _) hs (by rw [← g2.1]; exact VRel.undef) g2.2
theorem awp_drawn (hm : P.follows .mixedOrders = true) (hΓ : GOk P Γ) {l : List Oper} (hc : DChk l.toArray tab T) (ha : Again P Γ l.toArray tab T) {e : Env} {H : AHeap} {ef : Env} {Hf : AHeap} (hT : TOk P Γ l.toArray T e H ef Hf)
    (hok : opsOk n l = true) {id : Nat} {Q : Exit → Env → AHeap → Prop} (hQ : Q .normal ef Hf) : awp P n (.region id l.toArray true) Q e H := by
  simp only [awp, if_true]
  intro K w0 w r a t hs he hd hz
  simp only [Region.schedule, hm, Bool.true_or, if_true]
  have hlsd : lsd (Array.replicate l.toArray.size false) = fun _ => false := by
    funext k
    unfold lsd
    rw [Array.getD_eq_getD_getElem?, Array.getElem?_replicate]
    split <;> rfl
  have hh : ∀ T : List DS, heapS (fun _ => false) T H = H := fun T => by
    induction T with
    | nil => rfl
    | cons d T ih => simpa [heapS] using ih
  have hee : ∀ T : List DS, envS (fun _ => false) T e = e := fun T => by
    induction T with
    | nil => rfl
    | cons d T ih => simpa [envS] using ih
  refine wpAny_sound l.toArray.size t _ a _ (any_sound hΓ hc ha hT (by simpa using hok) (Q := Q .normal) hQ _ _ a w (by simp) ?_ ?_ ⟨r, Ren.le_refl _, ?_, ?_⟩ hd hz)
  · have := List.countP_le_length (p := fun k => !lsd (Array.replicate l.toArray.size false) k) (l := List.range l.toArray.size)
    simpa using this
  · rw [hlsd]; intro j k h; cases h
  · rw [hlsd, hh]; exact hs
  · rw [hlsd, hee]; exact he
end
end
end Go.AK
