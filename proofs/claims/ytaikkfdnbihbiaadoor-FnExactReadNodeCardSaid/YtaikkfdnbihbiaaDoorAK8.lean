/- Structured code on an abstract heap ('awp'), calls ('ACall'), and their soundness. -/
import Derived.Test.YtaikkfdnbihbiaaDoorAK7
namespace Go.AK
set_option linter.unusedVariables false
set_option linter.unusedSimpArgs false
open Go Go.RowKit

/-! ### calls -/
def CallSem (P : Program) (f : FuncId) (vs : Array Value) (w : World) (R : Value → World → Prop) : Prop :=
  match (callFunc f vs).run P w with
  | .ok (.value v) w' => R v w'
  | .ok (.enter g us) w' => Calls P g us w' fun
    | .returned v, w'' => R v w''
    | _, _ => False
  | .ok (.row row us) w' => Rows P row us w' R
  | _ => False
theorem CallSem.mono {P : Program} {f : FuncId} {vs : Array Value} {w : World} {R R' : Value → World → Prop} (h : CallSem P f vs w R) (hr : ∀ v w', R v w' → R' v w') : CallSem P f vs w R' := by
  unfold CallSem at h ⊢
  split at h
  · exact hr _ _ h
  · refine h.mono fun e w' he => ?_
    cases e <;> first | exact hr _ _ he | exact he
  · exact h.mono hr
  · exact h.elim
def ACall (P : Program) (f : FuncId) (args : List Value) (H : AHeap) (R : Value → AHeap → Prop) : Prop :=
  ∀ (K : Nat → Prop) (w0 w : World) (r : Ren) (vs : Array Value), Sim (bs P) K w0 r H w → LRel r args vs.toList →
    CallSem P f vs w fun v w' => ∃ r' x H', r.le r' ∧ Sim (bs P) K w0 r' H' w' ∧ VRel r' x v ∧ R x H'
theorem ACall.mono {P : Program} {f : FuncId} {args : List Value} {H : AHeap} {R R' : Value → AHeap → Prop} (h : ACall P f args H R) (hr : ∀ x H', R x H' → R' x H') : ACall P f args H R' :=
  fun K w0 w r vs hs hv => (h K w0 w r vs hs hv).mono fun v w' ⟨r', x, H', a, b, c, d⟩ => ⟨r', x, H', a, b, c, hr _ _ d⟩
def callOf (P : Program) (e : Env) (H : AHeap) : Op → Option (FuncId × List Value)
  | .call c => match c.callee with
    | .value f => match evo P e H f, c.args.toList.mapM (evo P e H) with
      | some (.func (.func g) fs cs), some vs => some (g, fs.toList ++ vs ++ cs.toList)
      | _, _ => none
    | _ => none
  | _ => none

/-! ### regions -/
def gv (all : List Oper) (e : Env) : Option (Nat × Bool) → Bool
  | none => true
  | some (j, want) => match (all[j]?).bind (·.dst) with
    | some d => match e d with
      | .bool b => if want = true then b else !b
      | _ => false
    | none => false
def opwp (P : Program) (o : Oper) (Q : Value → AHeap → Prop) (e : Env) (H : AHeap) : Prop :=
  (∃ v H', pop P o.op o.type e H = some (v, H') ∧ Q v H') ∨ (∃ g args, callOf P e H o.op = some (g, args) ∧ ACall P g args H Q)
def rwp (P : Program) (all : List Oper) : List Oper → (Env → AHeap → Prop) → Env → AHeap → Prop
  | [], Q, e, H => Q e H
  | o :: os, Q, e, H =>
    (gv all e o.guard = true → opwp P o (fun v H' => rwp P all os Q (e.put o.dst v) H') e H) ∧ (gv all e o.guard = false → rwp P all os Q (e.put o.dst Go.undef) H)
/-- what is known where code is left -/
def Lift (P : Program) (K : Nat → Prop) (w0 : World) (n : Nat) (r0 : Ren) (Q : Exit → Env → AHeap → Prop) : Exit → Act → World → Prop := fun ex a w =>
  a.defers = [] ∧ a.tmps.size = n ∧ ∃ r e H, r0.le r ∧ Sim (bs P) K w0 r H w ∧ ERel r e a ∧ Q ex e H
/-- a region whose order is drawn: whatever the order -/
def DWP (P : Program) (n : Nat) (ops : Array Oper) (Q : Env → AHeap → Prop) (e : Env) (H : AHeap) : Prop :=
  ∀ (K : Nat → Prop) (w0 w : World) (r : Ren) (a : Act) (t : Nat), Sim (bs P) K w0 r H w → ERel r e a → a.defers = [] → a.tmps.size = n →
    wpOps P ops (Lift P K w0 n r fun ex e' H' => ex = .normal ∧ Q e' H') (Region.schedule (P.follows .mixedOrders) ops t) a w

/-! ### code -/
def xthen (next : Env → AHeap → Prop) (Q : Exit → Env → AHeap → Prop) : Exit → Env → AHeap → Prop
  | .normal, e, H => next e H
  | x, e, H => Q x e H
def xblock (id : Nat) (Q : Exit → Env → AHeap → Prop) : Exit → Env → AHeap → Prop
  | .exit i, e, H => if i = id then Q .normal e H else Q (.exit i) e H
  | x, e, H => Q x e H
def awp (P : Program) (n : Nat) : Code → (Exit → Env → AHeap → Prop) → Env → AHeap → Prop
  | .skip, Q, e, H => Q .normal e H
  | .region _ ops draw, Q, e, H => if draw = true then DWP P n ops (Q .normal) e H else rwp P ops.toList ops.toList (Q .normal) e H
  | .seq a b, Q, e, H => awp P n a (xthen (awp P n b Q) Q) e H
  | .cond c a b, Q, e, H => ∃ t, evo P e H c = some (.bool t) ∧ (t = true → awp P n a Q e H) ∧ (t = false → awp P n b Q e H)
  | .block id b, Q, e, H => awp P n b (xblock id Q) e H
  | .loop b, Q, e, H => ∃ (I : Env → AHeap → Prop) (μ : Env → AHeap → Nat), I e H ∧ ∀ e H, I e H → awp P n b (xthen (fun e' H' => I e' H' ∧ μ e' H' < μ e H) Q) e H
  | .exit id, Q, e, H => Q (.exit id) e H
  | .ret, Q, e, H => Q .ret e H
  | _, _, _, _ => False
/-- every slot that is written is a slot -/
def opsOk (n : Nat) (ops : List Oper) : Bool := ops.all fun o => match o.dst with
  | some d => decide (d < n)
  | none => true
def codeOk (n : Nat) : Code → Bool
  | .region _ ops _ => opsOk n ops.toList
  | .seq a b => codeOk n a && codeOk n b
  | .cond _ a b => codeOk n a && codeOk n b
  | .block _ b => codeOk n b
  | .loop b => codeOk n b
  | _ => true
theorem exists_least (p : Nat → Prop) (h : ∃ m, p m) : ∃ m, p m ∧ ∀ k, p k → m ≤ k := by
  obtain ⟨m, hm⟩ := h
  induction m using Nat.strongRecOn with
  | _ m ih =>
    by_cases hk : ∃ k, k < m ∧ p k
    · obtain ⟨k, h1, h2⟩ := hk
      exact ih k h1 h2
    · exact ⟨m, hm, fun k h2 => Nat.le_of_not_lt fun h1 => hk ⟨k, h1, h2⟩⟩
theorem upon_mono' {P : Program} {o : Oper} {a : Act} {next next' : Act → World → Prop} {Q Q' : Exit → Act → World → Prop} (hn : ∀ a w, next a w → next' a w) (hq : ∀ e a w, Q e a w → Q' e a w) {x : Result Next}
    (h : o.upon P a next Q x) : o.upon P a next' Q' x := by
  cases x with
  | ok y w' =>
    cases y <;> simp only [Oper.upon] at h ⊢ <;>
      first
        | exact hn _ _ h
        | exact Calls.mono h (fun e w'' he => by
            cases e with
            | returned v => exact hn _ _ he
            | panicked c => exact hq _ _ _ he
            | outgrown => obtain ⟨a0, w0, h0⟩ := he; exact ⟨a0, w0, hq _ _ _ h0⟩)
        | exact Rows.mono h (fun _ _ he => hn _ _ he)
  | halt y w' =>
    cases y <;> simp only [Oper.upon] at h ⊢ <;> exact hq _ _ _ h
theorem wpOps_mono' {P : Program} {ops : Array Oper} {Q Q' : Exit → Act → World → Prop} : ∀ (l : List Nat) (a : Act) (w : World), wpOps P ops Q l a w → (∀ e a w, Q e a w → Q' e a w) → wpOps P ops Q' l a w
  | [], a, w, h, hq => hq _ _ _ h
  | i :: l, a, w, h, hq => by
    simp only [wpOps] at h ⊢
    split
    · rename_i ho
      rw [ho] at h
      exact wpOps_mono' l a w h hq
    · rename_i o ho
      rw [ho] at h
      simp only at h
      split
      · rename_i hw
        rw [if_pos hw] at h
        rcases h with h | ⟨h, a0, w0, h0⟩
        · exact .inl (upon_mono' (fun a w hh => wpOps_mono' l a w hh hq) hq h)
        · exact .inr ⟨h, a0, w0, hq _ _ _ h0⟩
      · rename_i hw
        rw [if_neg hw] at h
        exact wpOps_mono' l _ w h hq
section
variable {P : Program} {K : Nat → Prop} {w0 w : World} {r : Ren} {H : AHeap} {e : Env} {a : Act} {n : Nat}
theorem mapM_rel (hs : Sim (bs P) K w0 r H w) (he : ERel r e a) : ∀ (xs : List Operand) (vs : List Value), xs.mapM (evo P e H) = some vs → LRel r vs (xs.map a.eval)
  | [], vs, h => by simp at h; subst h; exact LRel.nil
  | x :: xs, vs, h => by
    rw [List.mapM_cons] at h
    cases hx : evo P e H x with
    | none => rw [hx] at h; cases h
    | some v =>
      rw [hx] at h
      cases hxs : xs.mapM (evo P e H) with
      | none => rw [hxs] at h; cases h
      | some us =>
        rw [hxs] at h
        have h2 : some (v :: us) = some vs := h
        cases h2
        exact LRel.cons (evo_rel hs he hx) (mapM_rel hs he xs us hxs)
theorem gv_wanted (he : ERel r e a) {ops : Array Oper} {o : Oper} : Region.wanted o (yielded ops a.tmps) = gv ops.toList e o.guard := by
  unfold Region.wanted gv
  cases hg : o.guard with
  | none => rfl
  | some q =>
    obtain ⟨j, want⟩ := q
    simp only [yielded]
    have : ops.toList[j]? = ops[j]? := by simp
    rw [this]
    cases hd : (ops[j]?).bind (·.dst) with
    | none => simp [hd]
    | some d =>
      simp only [hd, Option.bind_some]
      have hr := he d
      rw [Array.getD_eq_getD_getElem?] at hr
      cases ht : a.tmps[d]? with
      | none =>
        rw [ht] at hr
        simp only [Option.getD_none] at hr
        generalize hed : e d = ed at hr
        cases hr with
        | scal v hv => simp [scal, Go.undef] at hv
        | cl hi hc =>
          cases hc with
          | scal _ hsc => simp [scal, Go.undef] at hsc
        | tuple _ _ => simp
      | some u =>
        rw [ht] at hr
        simp only [Option.getD_some] at hr
        generalize hed : e d = ed at hr
        cases hr with
        | scal _ hv => cases u <;> cases want <;> simp <;> (try rfl)
        | cl hi hc =>
          cases hc with
          | scal _ hsc => rw [not_scal_of_isInl hi] at hsc; cases hsc
          | agg => cases hi
          | any => cases hi
          | inl hv => rw [hv]; simp [inl]
          | inp hv => rw [hv]; simp [inp]
        | _ => simp
theorem opwp_sound (hs : Sim (bs P) K w0 r H w) (he : ERel r e a) {o : Oper} {Q : Value → AHeap → Prop} (h : opwp P o Q e H) {next : Act → World → Prop} {Q' : Exit → Act → World → Prop}
    (hn : ∀ r' v v' H' w', r.le r' → Sim (bs P) K w0 r' H' w' → VRel r' v v' → Q v H' → next (a.put o.dst v') w') : o.wp P a w next Q' := by
  rcases h with ⟨v, H', h1, h2⟩ | ⟨g, args, h1, h2⟩
  · obtain ⟨r', v', w', q1, q2, q3, q4⟩ := pop_sound hs he h1
    unfold Oper.wp
    rcases q1 with q1 | ⟨q1, rfl⟩
    · rw [q1]; exact hn r' v v' H' w' q2 q3 q4 h2
    · rw [q1]; exact hn r' v _ H' w' q2 q3 q4 h2
  · unfold callOf at h1
    split at h1
    · rename_i c hc
      split at h1
      · rename_i f hf
        split at h1
        · rename_i g' fs cs vs hfe hvs
          cases h1
          have hfr := evo_rel hs he hfe
          generalize hfv : a.eval f = fv at hfr
          cases hfr with
          | scal _ hsc => simp [scal] at hsc
          | cl hi _ => cases hi
          | @func _ _ gs _ ys hfz hfr hsz hsr =>
            have hargs := mapM_rel hs he _ _ hvs
            have hrel : LRel r (fs.toList ++ vs ++ cs.toList) (gs ++ (c.args.map a.eval) ++ ys).toList := by
              simp only [Array.toList_append, Array.toList_map]
              exact ((LRel.ofArr hfz hfr).append hargs).append (LRel.ofArr hsz hsr)
            have hcs := h2 K w0 w r _ hs hrel
            unfold CallSem at hcs
            have hrun : (execOp a.eval o).run P w = (callFunc g (gs ++ c.args.map a.eval ++ ys)).run P w := by
              simp only [execOp, hc, resolve, hf, hfv, Deferred.ofValue, Sem.run_bind, Sem.run_pure, Result.andThen_ok, invoke]
            unfold Oper.wp
            rw [hrun]
            split at hcs
            · rename_i v w' hr
              rw [hr]
              obtain ⟨r', x, H', p1, p2, p3, p4⟩ := hcs
              exact hn r' x v H' w' p1 p2 p3 p4
            · rename_i g2 us w' hr
              rw [hr]
              refine Calls.mono hcs fun en w'' hen => ?_
              cases en with
              | returned v =>
                obtain ⟨r', x, H', p1, p2, p3, p4⟩ := hen
                exact hn r' x v H' w'' p1 p2 p3 p4
              | panicked _ => exact hen.elim
              | outgrown => exact hen.elim
            · rename_i row us w' hr
              rw [hr]
              refine Rows.mono hcs fun v w'' hen => ?_
              obtain ⟨r', x, H', p1, p2, p3, p4⟩ := hen
              exact hn r' x v H' w'' p1 p2 p3 p4
            · exact hcs.elim
        · cases h1
      · cases h1
    · cases h1
theorem rwp_sound {ops : Array Oper} {Q : Env → AHeap → Prop} {Q' : Exit → Act → World → Prop} : ∀ (l : List Oper) (e : Env) (H : AHeap) (r : Ren) (a : Act) (w : World), rwp P ops.toList l Q e H → opsOk n l = true →
    Sim (bs P) K w0 r H w → ERel r e a → a.defers = [] → a.tmps.size = n →
    (∀ r' e' H' a' w', r.le r' → Sim (bs P) K w0 r' H' w' → ERel r' e' a' → a'.defers = [] → a'.tmps.size = n → Q e' H' → Q' .normal a' w') → wpList P ops Q' l a w
  | [], e, H, r, a, w, h, hok, hs, he, hd, hz, hq => hq r e H a w (Ren.le_refl _) hs he hd hz h
  | o :: l, e, H, r, a, w, h, hok, hs, he, hd, hz, hq => by
    simp only [opsOk, List.all_cons, Bool.and_eq_true] at hok
    have hdst : ∀ k, o.dst = some k → k < a.tmps.size := by
      intro k hk
      have := hok.1
      rw [hk] at this
      rw [hz]
      simpa using this
    simp only [wpList]
    rw [gv_wanted he]
    simp only [rwp] at h
    by_cases hg : gv ops.toList e o.guard = true
    · rw [if_pos hg]
      refine .inl (opwp_sound hs he (h.1 hg) fun r' v v' H' w' hr hs' hv hh => ?_)
      exact rwp_sound l _ H' r' _ w' hh hok.2 hs' (ERel.put (he.mono hr) hdst hv) (by rw [Act.put_defers]; exact hd) (by rw [Act.put_size]; exact hz)
        (fun r2 e2 H2 a2 w2 hr2 => hq r2 e2 H2 a2 w2 (Ren.le_trans hr hr2))
    · rw [if_neg hg]
      exact rwp_sound l _ H r _ w (h.2 (by simpa using hg)) hok.2 hs (ERel.put he hdst VRel.undef) (by rw [Act.put_defers]; exact hd) (by rw [Act.put_size]; exact hz) hq
theorem Lift.le {r0 r1 : Ren} (hr : r0.le r1) {Q : Exit → Env → AHeap → Prop} {ex : Exit} (h : Lift P K w0 n r1 Q ex a w) : Lift P K w0 n r0 Q ex a w := by
  obtain ⟨h1, h2, r, e, H, h3, h4⟩ := h
  exact ⟨h1, h2, r, e, H, Ren.le_trans hr h3, h4⟩
theorem awp_sound : ∀ (c : Code) (Q : Exit → Env → AHeap → Prop) (e : Env) (H : AHeap) (r : Ren) (a : Act) (w : World), awp P n c Q e H → codeOk n c = true → Sim (bs P) K w0 r H w → ERel r e a → a.defers = [] → a.tmps.size = n →
    c.wp P (Lift P K w0 n r Q) a w
  | .skip, Q, e, H, r, a, w, h, hok, hs, he, hd, hz => wp_skip ⟨hd, hz, r, e, H, Ren.le_refl _, hs, he, h⟩
  | .region id ops draw, Q, e, H, r, a, w, h, hok, hs, he, hd, hz => by
    cases draw with
    | true =>
      simp only [awp, if_true] at h
      refine wp_region_draw fun t => ?_
      have hdw := h K w0 { w with drawn := w.drawn + 1 } r a t ⟨⟨hs.kept.os, hs.kept.tape, hs.kept.output, hs.kept.size, hs.kept.block⟩, hs.kin, fun l o hl => ?_, hs.sep, hs.name, hs.glob, hs.free, hs.tab, hs.frozOf fun _ _ _ _ => rfl, hs.fsep⟩ he hd hz
      · refine wpOps_mono' _ _ _ hdw fun ex a' w' hl => ?_
        obtain ⟨h1, h2, r', e', H', h3, h4, h5, rfl, h6⟩ := hl
        exact ⟨h1, h2, r', e', H', h3, h4, h5, h6⟩
      · obtain ⟨pl, p1, p2⟩ := hs.obj l o hl
        exact ⟨pl, p1, p2.frame (Ren.le_refl _) rfl⟩
    | false =>
      simp only [awp, Bool.false_eq_true, if_false] at h
      refine wp_region ?_
      have := rwp_sound (n := n) (K := K) (w0 := w0) (Q' := Lift P K w0 n r Q) ops.toList e H r a w h (by simpa [codeOk] using hok) hs he hd hz (fun r' e' H' a' w' q1 q2 q3 q4 q5 q6 => ⟨q4, q5, r', e', H', q1, q2, q3, q6⟩)
      rw [← wpOps_eq_wpList ops.toList 0 (fun j => by simp)] at this
      simpa [List.range_eq_range'] using this
  | .seq x y, Q, e, H, r, a, w, h, hok, hs, he, hd, hz => by
    simp only [codeOk, Bool.and_eq_true] at hok
    refine wp_seq (wp_mono (awp_sound x _ e H r a w h hok.1 hs he hd hz) fun ex a' w' hl => ?_)
    obtain ⟨h1, h2, r', e', H', h3, h4, h5, h6⟩ := hl
    cases ex with
    | normal => exact wp_mono (awp_sound y Q e' H' r' a' w' h6 hok.2 h4 h5 h1 h2) fun _ _ _ hh => hh.le h3
    | _ => exact ⟨h1, h2, r', e', H', h3, h4, h5, h6⟩
  | .cond c x y, Q, e, H, r, a, w, h, hok, hs, he, hd, hz => by
    simp only [codeOk, Bool.and_eq_true] at hok
    obtain ⟨t, h1, h2, h3⟩ := h
    have hc := (evo_rel hs he h1).of_scal rfl
    exact wp_cond_split hc (fun ht => awp_sound x Q e H r a w (h2 ht) hok.1 hs he hd hz) (fun ht => awp_sound y Q e H r a w (h3 ht) hok.2 hs he hd hz)
  | .block id b, Q, e, H, r, a, w, h, hok, hs, he, hd, hz => by
    refine wp_block (wp_mono (awp_sound b _ e H r a w h (by simpa [codeOk] using hok) hs he hd hz) fun ex a' w' hl => ?_)
    obtain ⟨h1, h2, r', e', H', h3, h4, h5, h6⟩ := hl
    cases ex with
    | exit i =>
      simp only [Exit.inBlock, xblock] at h6 ⊢
      split at h6
      · rw [if_pos (by assumption)]; exact ⟨h1, h2, r', e', H', h3, h4, h5, h6⟩
      · rw [if_neg (by assumption)]; exact ⟨h1, h2, r', e', H', h3, h4, h5, h6⟩
    | _ => exact ⟨h1, h2, r', e', H', h3, h4, h5, h6⟩
  | .loop b, Q, e, H, r, a, w, h, hok, hs, he, hd, hz => by
    obtain ⟨I, μ, hi, hround⟩ := h
    -- the measure of a state: the least measure of an abstract state that it fits
    let J : Act → World → Nat → Prop := fun a w m => a.defers = [] ∧ a.tmps.size = n ∧ ∃ r' e H, r.le r' ∧ Sim (bs P) K w0 r' H w ∧ ERel r' e a ∧ I e H ∧ μ e H = m
    let I' : Act → World → Prop := fun a w => ∃ m, J a w m
    have hleast : ∀ a w, ∃ m, I' a w → J a w m ∧ ∀ k, J a w k → m ≤ k := fun a w => by
      by_cases hI : I' a w
      · obtain ⟨m, h1, h2⟩ := exists_least _ hI
        exact ⟨m, fun _ => ⟨h1, h2⟩⟩
      · exact ⟨0, fun h => absurd h hI⟩
    let μ' : Act → World → Nat := fun a w => Classical.choose (hleast a w)
    have hμ : ∀ a w, I' a w → J a w (μ' a w) ∧ ∀ k, J a w k → μ' a w ≤ k := fun a w => Classical.choose_spec (hleast a w)
    refine wp_loop I' μ' ⟨μ e H, hd, hz, r, e, H, Ren.le_refl _, hs, he, hi, rfl⟩ fun a w hI => ?_
    obtain ⟨h1, h2, r', e, H, h3, h4, h5, h6, h7⟩ := (hμ a w hI).1
    have hb := awp_sound b _ e H r' a w (hround e H h6) (by simpa [codeOk] using hok) h4 h5 h1 h2
    refine wp_mono hb fun ex a' w' hl => ?_
    obtain ⟨g1, g2, r2, e2, H2, g3, g4, g5, g6⟩ := hl
    cases ex with
    | normal =>
      have hJ : J a' w' (μ e2 H2) := ⟨g1, g2, r2, e2, H2, Ren.le_trans h3 g3, g4, g5, g6.1, rfl⟩
      have := (hμ a' w' ⟨_, hJ⟩).2 _ hJ
      refine ⟨⟨_, hJ⟩, ?_⟩
      have h8 := g6.2
      omega
    | _ => exact ⟨g1, g2, r2, e2, H2, Ren.le_trans h3 g3, g4, g5, g6⟩
  | .exit id, Q, e, H, r, a, w, h, hok, hs, he, hd, hz => wp_exit ⟨hd, hz, r, e, H, Ren.le_refl _, hs, he, h⟩
  | .ret, Q, e, H, r, a, w, h, hok, hs, he, hd, hz => wp_ret ⟨hd, hz, r, e, H, Ren.le_refl _, hs, he, h⟩
  | .rangeFunc .., Q, e, H, r, a, w, h, hok, hs, he, hd, hz => by simp [awp] at h
  | .scope _, Q, e, H, r, a, w, h, hok, hs, he, hd, hz => by simp [awp] at h
  | .label _, Q, e, H, r, a, w, h, hok, hs, he, hd, hz => by simp [awp] at h
  | .goto _, Q, e, H, r, a, w, h, hok, hs, he, hd, hz => by simp [awp] at h
  | .refuse _, Q, e, H, r, a, w, h, hok, hs, he, hd, hz => by simp [awp] at h
end
end Go.AK
