/- A call by its body; what a heap gives under other names. -/
import Derived.Test.YtaikkfdnbihbiaaDoorAK8
namespace Go.AK
set_option linter.unusedVariables false
set_option linter.unusedSimpArgs false
open Go Go.RowKit

/-! ### entering and leaving -/
def initE (args : List Value) : Env := fun i => (args[i]?).getD Go.undef
def resVals (P : Program) (e : Env) (H : AHeap) : List ResultVar → Option (List Value)
  | [] => some []
  | .tmp t :: rs => (resVals P e H rs).map (e t :: ·)
  | .cell a t :: rs => (loadA P H t (e a)).bind fun v => (resVals P e H rs).map (v :: ·)
def one (vs : List Value) : Value := match vs with
  | [v] => v
  | vs => .tuple vs.toArray
def retP (P : Program) (rs : List ResultVar) (R : Value → AHeap → Prop) : Exit → Env → AHeap → Prop
  | .normal, e, H => ∃ vs, resVals P e H rs = some vs ∧ R (one vs) H
  | .ret, e, H => ∃ vs, resVals P e H rs = some vs ∧ R (one vs) H
  | _, _, _ => False
section
variable {P : Program} {K : Nat → Prop} {w0 w : World} {r : Ren} {H : AHeap} {e : Env} {a : Act}
def resOf (tmps : Array Value) : ResultVar → Sem Value
  | .tmp t => pure (tmps.getD t Go.undef)
  | .cell a t => do loadVar t (← asAddr (tmps.getD a Go.undef))
theorem resVals_rel (hs : Sim (bs P) K w0 r H w) (he : ERel r e a) : ∀ (rs : List ResultVar) (vs : List Value), resVals P e H rs = some vs →
    ∃ us, (rs.mapM (resOf a.tmps)).run P w = Result.ok us w ∧ LRel r vs us
  | [], vs, h => by simp only [resVals, Option.some.injEq] at h; subst h; exact ⟨[], by simp, LRel.nil⟩
  | .tmp t :: rs, vs, h => by
    simp only [resVals] at h
    obtain ⟨us, h1, h2⟩ := map_some h
    obtain ⟨ys, h3, h4⟩ := resVals_rel hs he rs us h1
    subst h2
    refine ⟨a.tmps.getD t Go.undef :: ys, ?_, LRel.cons (he t) h4⟩
    simp only [List.mapM_cons, resOf, Sem.run_bind, Sem.run_pure, Result.andThen_ok, h3]
  | .cell b t :: rs, vs, h => by
    simp only [resVals] at h
    obtain ⟨v, h0, h⟩ := bind_some h
    obtain ⟨us, h1, h2⟩ := map_some h
    obtain ⟨ys, h3, h4⟩ := resVals_rel hs he rs us h1
    subst h2
    have hb := he b
    unfold loadA at h0
    split at h0
    · rename_i l i j heq
      split at h0
      · rename_i y cs hy hcs
        obtain ⟨pl, v', q1, q2, q3⟩ := loadVar_rel hs hy hcs h0
        rw [heq] at hb
        generalize hbv : a.tmps.getD b Go.undef = bv at hb
        cases hb with
        | scal _ hsc => simp [scal] at hsc
        | cl hi _ => cases hi
        | ptr hr =>
          rw [q1] at hr; cases hr
          refine ⟨v' :: ys, ?_, LRel.cons q3 h4⟩
          simp only [List.mapM_cons, resOf, Sem.run_bind, Sem.run_pure, Result.andThen_ok, h3, hbv, asAddr, q2]
      · cases h0
    · rename_i heq
      split at h0
      · rename_i y cs j hy hi
        rw [heq] at hb
        obtain ⟨bb, o', cv, hu, k2, k3, _⟩ := inp_cells hs hi hb
        obtain ⟨v', q1, q2⟩ := loadCells_rel (P := P) (w := w) hy k2 k3 h0
        refine ⟨v' :: ys, ?_, LRel.cons q2 h4⟩
        simp only [List.mapM_cons, resOf, Sem.run_bind, Sem.run_pure, Result.andThen_ok, h3, hu, asAddr, q1]
      · cases h0
    · cases h0
theorem results_rel (hs : Sim (bs P) K w0 r H w) (he : ERel r e a) {fn : Func} {rs : List ResultVar} (hr : fn.results = rs.toArray) {vs : List Value} (h : resVals P e H rs = some vs) :
    ∃ u, (results fn a.tmps).run P w = .ok u w ∧ VRel r (one vs) u := by
  obtain ⟨us, h1, h2⟩ := resVals_rel hs he rs vs h
  have hm : (fn.results.mapM (resOf a.tmps)).run P w = Result.ok us.toArray w := by
    rw [hr, List.mapM_toArray]
    simp only [Sem.run_map, h1, Result.andThen_ok]
  refine ⟨if h : us.toArray.size = 1 then us.toArray[0] else .tuple us.toArray, ?_, ?_⟩
  · have hres : results fn a.tmps = (fn.results.mapM (resOf a.tmps)) >>= fun vs => pure (if h : vs.size = 1 then vs[0] else .tuple vs) := by
      unfold results
      congr 1
    rw [hres, Sem.run_bind, hm, Result.andThen_ok, Sem.run_pure]
  · cases hv : vs with
    | nil =>
      have : us = [] := List.eq_nil_of_length_eq_zero (by rw [← h2.1, hv]; rfl)
      subst this
      exact .tuple rfl (fun i x y h => by simp at h)
    | cons v vs2 =>
      cases vs2 with
      | nil =>
        have hl : us.length = 1 := by rw [← h2.1, hv]; rfl
        obtain ⟨u, rfl⟩ := List.length_eq_one_iff.1 hl
        have := h2.2 0 v u (by rw [hv]; rfl) rfl
        simpa [one] using this
      | cons v2 vs3 =>
        have hl : ¬ us.toArray.size = 1 := by
          have : us.length = vs3.length + 2 := by rw [← h2.1, hv]; rfl
          simp; omega
        rw [dif_neg hl]
        rw [hv] at h2
        exact VRel.tupleL h2
theorem init_rel {args : List Value} {vs : Array Value} (h : LRel r args vs.toList) (m : Nat) : ERel r (initE args) { tmps := vs ++ Array.replicate m Go.undef, defers := [] } := by
  intro i
  simp only [initE]
  rw [Array.getD_eq_getD_getElem?]
  by_cases hi : i < args.length
  · have hx : args[i]? = some args[i] := List.getElem?_eq_getElem hi
    obtain ⟨y, hy, hr⟩ := h.get hx
    have hy' : vs[i]? = some y := by simpa using hy
    have hlt : i < vs.size := (Array.getElem?_eq_some_iff.1 hy').1
    rw [hx, Array.getElem?_append_left hlt, hy']
    exact hr
  · have hx : args[i]? = none := List.getElem?_eq_none (by omega)
    rw [hx]
    have hge : vs.size ≤ i := by have := h.1; simp at this; omega
    rw [Array.getElem?_append_right hge]
    simp only [Option.getD_none]
    rw [Array.getElem?_replicate]
    split <;> exact VRel.undef
theorem ACall.body {f : FuncId} {fn : Func} {c : Code} {rs : List ResultVar} {args : List Value} {R : Value → AHeap → Prop} (hf : P.funcs[f]? = some fn) (hb : fn.body = some c) (hnm : (fn.name == "runtime.NumGoroutine") = false)
    (hrs : fn.results = rs.toArray) {n : Nat} (hnt : fn.ntmps = n) (hok : codeOk n c = true) (hn : args.length ≤ n) (h : awp P n c (retP P rs R) (initE args) H) : ACall P f args H R := by
  subst hnt
  intro K w0 w r vs hs hv
  unfold CallSem
  have hcf : (callFunc f vs).run P w = .ok (.enter f vs) w := by
    simp only [callFunc, Sem.run_bind, run_program, Result.andThen_ok, hf, hnm, hb]
    simp
  rw [hcf]
  refine calls_of_wp hf hb ?_
  have hsz : vs.size = args.length := by have := hv.1; simp at this; omega
  have := awp_sound (n := fn.ntmps) (K := K) (w0 := w0) c _ _ H r { tmps := vs ++ Array.replicate (fn.ntmps - vs.size) Go.undef, defers := [] } w h hok hs (init_rel hv _) rfl (by simp; omega)
  refine wp_mono this fun ex a' w' hl => ?_
  obtain ⟨h1, h2, r', e', H', h3, h4, h5, h6⟩ := hl
  cases ex with
  | normal =>
    obtain ⟨us, q1, q2⟩ := h6
    obtain ⟨u, q3, q4⟩ := results_rel h4 h5 hrs q1
    exact ⟨h1, u, q3, r', _, H', h3, h4, q4, q2⟩
  | ret =>
    obtain ⟨us, q1, q2⟩ := h6
    obtain ⟨u, q3, q4⟩ := results_rel h4 h5 hrs q1
    exact ⟨h1, u, q3, r', _, H', h3, h4, q4, q2⟩
  | _ => exact h6.elim
end

/-! ### other names -/
inductive VIso (n : Nat) (τ : Nat → Nat) : Value → Value → Prop where
  | scal (v : Value) (h : scal v = true) : VIso n τ v v
  | ptr {l i j : Nat} (h : l < n) : VIso n τ (.pointer (some ⟨l, i, some j⟩)) (.pointer (some ⟨τ l, i, some j⟩))
  | sl {l i m c c' : Nat} (h : l < n) (hc : c = 0 → c' = 0) : VIso n τ (.slice (some ⟨l, i, none⟩) m c) (.slice (some ⟨τ l, i, none⟩) m c')
  | map {l : Nat} (h : l < n) : VIso n τ (.map (some l)) (.map (some (τ l)))
  | agg {xs ys : Array Value} (hs : xs.size = ys.size) (h : ∀ (i : Nat) (x y : Value), xs[i]? = some x → ys[i]? = some y → VIso n τ x y) : VIso n τ (.agg xs) (.agg ys)
  | tuple {xs ys : Array Value} (hs : xs.size = ys.size) (h : ∀ (i : Nat) (x y : Value), xs[i]? = some x → ys[i]? = some y → VIso n τ x y) : VIso n τ (.tuple xs) (.tuple ys)
  | cl (v : Value) (h : isInl v = true) : VIso n τ v v
  | func {fn : FuncId} {fs gs xs ys : Array Value} (hf : fs.size = gs.size) (hf' : ∀ (i : Nat) (x y : Value), fs[i]? = some x → gs[i]? = some y → VIso n τ x y)
      (hs : xs.size = ys.size) (h : ∀ (i : Nat) (x y : Value), xs[i]? = some x → ys[i]? = some y → VIso n τ x y) : VIso n τ (.func (.func fn) fs xs) (.func (.func fn) gs ys)
  | iface {t : TypeId} {x y : Value} (h : VIso n τ x y) : VIso n τ (.iface t x) (.iface t y)
  | any {t : TypeId} {y : Value} : VIso n τ (.iface 0 .nilIface) (.iface t y)
def Ren.via (r : Ren) (n : Nat) (τ : Nat → Nat) : Ren := ⟨fun l => if l < n then r (τ l) else none, r.z⟩
theorem via_some {r : Ren} {n : Nat} {τ : Nat → Nat} {l : Nat} {pl : Pl} (hl : l < n) (h : r (τ l) = some pl) : r.via n τ l = some pl := by simp [Ren.via, hl, h]
theorem VIso.rel {n : Nat} {τ : Nat → Nat} {r : Ren} {x v : Value} (h : VIso n τ x v) : ∀ {c : Value}, VRel r v c → VRel (r.via n τ) x c := by
  induction h with
  | scal v hv => intro c hc; rw [hc.of_scal hv]; exact .scal v hv
  | cl v hv => intro c hc; exact .cl hv (hc.toClc (by simp [clc, hv]))
  | ptr hl =>
    intro c hc
    cases hc with
    | scal _ hsc => simp [AK.scal] at hsc
    | cl hi _ => cases hi
    | ptr hr => exact .ptr (via_some hl hr)
  | sl hl h0 =>
    intro c hc
    cases hc with
    | scal _ hsc => simp [AK.scal] at hsc
    | cl hi _ => cases hi
    | sl hr hn hz hcc => exact .sl (via_some hl hr) hn (fun h => hz (h0 h)) hcc
  | map hl =>
    intro c hc
    cases hc with
    | scal _ hsc => simp [AK.scal] at hsc
    | cl hi _ => cases hi
    | map hr => exact .map (via_some hl hr)
  | @agg xs ys hs _ ih =>
    intro c hc
    cases hc with
    | scal _ hsc => simp [AK.scal] at hsc
    | cl hi _ => cases hi
    | agg hs2 h2 =>
      refine .agg (hs.trans hs2) fun i x z hx hz => ?_
      have hi : i < ys.size := by rw [← hs]; exact (Array.getElem?_eq_some_iff.1 hx).1
      exact ih i x ys[i] hx (by simp [hi]) (h2 i ys[i] z (by simp [hi]) hz)
  | @tuple xs ys hs _ ih =>
    intro c hc
    cases hc with
    | scal _ hsc => simp [AK.scal] at hsc
    | cl hi _ => cases hi
    | tuple hs2 h2 =>
      refine .tuple (hs.trans hs2) fun i x z hx hz => ?_
      have hi : i < ys.size := by rw [← hs]; exact (Array.getElem?_eq_some_iff.1 hx).1
      exact ih i x ys[i] hx (by simp [hi]) (h2 i ys[i] z (by simp [hi]) hz)
  | @func fn fs gs xs ys hf _ hs _ ihf ih =>
    intro c hc
    cases hc with
    | scal _ hsc => simp [AK.scal] at hsc
    | cl hi _ => cases hi
    | func hf2 hf3 hs2 h2 =>
      refine .func (hf.trans hf2) (fun i x z hx hz => ?_) (hs.trans hs2) fun i x z hx hz => ?_
      · have hi : i < gs.size := by rw [← hf]; exact (Array.getElem?_eq_some_iff.1 hx).1
        exact ihf i x gs[i] hx (by simp [hi]) (hf3 i gs[i] z (by simp [hi]) hz)
      · have hi : i < ys.size := by rw [← hs]; exact (Array.getElem?_eq_some_iff.1 hx).1
        exact ih i x ys[i] hx (by simp [hi]) (h2 i ys[i] z (by simp [hi]) hz)
  | iface hxy ih =>
    intro c hc
    cases hc with
    | scal _ hsc => simp [AK.scal] at hsc
    | cl hi _ => cases hi
    | iface h2 => exact .iface (ih h2)
    | any =>
      cases hxy with
      | scal _ _ => exact .any
      | cl _ hi => cases hi
  | any =>
    intro c hc
    cases hc with
    | scal _ hsc => simp [AK.scal] at hsc
    | cl hi _ => cases hi
    | iface _ => exact .any
    | any => exact .any
/-- a value all of whose names are old keeps them -/
theorem VRel.iso {n : Nat} {τ : Nat → Nat} {r : Ren} (hn : ∀ l pl, r l = some pl → l < n ∧ τ l = l) {v c : Value} (h : VRel r v c) : VIso n τ v v := by
  induction h with
  | scal v hv => exact .scal v hv
  | cl hi _ => exact .cl _ hi
  | @ptr l i j pl hr => have := VIso.ptr (n := n) (τ := τ) (l := l) (i := i) (j := j) (hn _ _ hr).1; rw [(hn _ _ hr).2] at this; exact this
  | @sl l i m c off c' pl hr _ _ _ => have := VIso.sl (n := n) (τ := τ) (l := l) (i := i) (m := m) (c := c) (c' := c) (hn _ _ hr).1 (fun h => h); rw [(hn _ _ hr).2] at this; exact this
  | @map l pl hr => have := VIso.map (n := n) (τ := τ) (l := l) (hn _ _ hr).1; rw [(hn _ _ hr).2] at this; exact this
  | @agg xs ys hs _ ih =>
    refine .agg rfl fun i x y hx hy => ?_
    rw [hx] at hy; cases hy
    have hi : i < ys.size := by rw [← hs]; exact (Array.getElem?_eq_some_iff.1 hx).1
    exact ih i x ys[i] hx (by simp [hi])
  | @tuple xs ys hs _ ih =>
    refine .tuple rfl fun i x y hx hy => ?_
    rw [hx] at hy; cases hy
    have hi : i < ys.size := by rw [← hs]; exact (Array.getElem?_eq_some_iff.1 hx).1
    exact ih i x ys[i] hx (by simp [hi])
  | @func fn fs gs xs ys hf _ hs _ ihf ih =>
    refine .func rfl (fun i x y hx hy => ?_) rfl fun i x y hx hy => ?_
    · rw [hx] at hy; cases hy
      have hi : i < gs.size := by rw [← hf]; exact (Array.getElem?_eq_some_iff.1 hx).1
      exact ihf i x gs[i] hx (by simp [hi])
    · rw [hx] at hy; cases hy
      have hi : i < ys.size := by rw [← hs]; exact (Array.getElem?_eq_some_iff.1 hx).1
      exact ih i x ys[i] hx (by simp [hi])
  | iface _ ih => exact .iface ih
  | any => exact .any
def OIso (n : Nat) (τ : Nat → Nat) : AObj → AObj → Prop
  | .row z es own, .row z2 es2 own2 => z = z2 ∧ (own = true → own2 = true) ∧ ∀ (i : Nat) (cs : List Value), es[i]? = some cs → ∃ cs2, es2[i]? = some cs2 ∧ cs.length = cs2.length ∧
      ∀ (j : Nat) (x y : Value), cs[j]? = some x → cs2[j]? = some y → VIso n τ x y ∧ x.oneCell' = true
  | .map es, .map es2 => es.length = es2.length ∧ ∀ (i : Nat) (x y : Value × Value), es[i]? = some x → es2[i]? = some y → x.1 = y.1 ∧ VIso n τ x.2 y.2
  | _, _ => False
/-- what (v, H2) gives under new names, seen from H0 -/
structure Gives (H0 : AHeap) (x : Value) (H' : AHeap) (v : Value) (H2 : AHeap) : Prop where
  nx : H0.next ≤ H'.next
  via : ∃ τ : Nat → Nat, (∀ l, l < H0.next → τ l = l) ∧
    (∀ l o, H'.obj l = some o → (H0.obj l = some o ∧ H2.obj l = some o) ∨ (l < H'.next ∧ ∃ o2, H2.obj (τ l) = some o2 ∧ OIso H'.next τ o o2)) ∧
    (∀ l l', H'.obj l ≠ none → H'.obj l' ≠ none → l ≠ l' → τ l ≠ τ l') ∧ VIso H'.next τ x v
section
variable {P : Program} {K : Nat → Prop} {w0 w : World} {r : Ren} {H : AHeap}
theorem ACall.gives {f : FuncId} {args : List Value} {R R' : Value → AHeap → Prop} (h : ACall P f args H R) (hg : ∀ v H2, R v H2 → ∃ x H', Gives H x H' v H2 ∧ R' x H') : ACall P f args H R' := by
  intro K w0 w r vs hs hv
  refine (h K w0 w r vs hs hv).mono fun c w' ⟨r', v, H2, h1, h2, h3, h4⟩ => ?_
  obtain ⟨x, H', ⟨hnx, τ, ht, hobj, hinj, hval⟩, hR⟩ := hg v H2 h4
  have hle : r.le (r'.via H'.next τ) := by
    refine ⟨fun l pl hl => ?_, fun b o v hz => h1.z b o v hz⟩
    have h5 := hs.name l pl hl
    exact via_some (by omega) (by rw [ht l h5]; exact h1.f _ _ hl)
  have hold : ∀ l pl, r l = some pl → l < H'.next ∧ τ l = l := fun l pl hl => by
    have h5 := hs.name l pl hl
    exact ⟨by omega, ht l h5⟩
  -- every object: its place
  have key : ∀ l o, H'.obj l = some o → l < H'.next ∧ ∃ o2 pl, H2.obj (τ l) = some o2 ∧ r' (τ l) = some pl ∧ ORel K (r'.via H'.next τ) w' pl o ∧ (o.own = true → o2.own = true) := by
    intro l o hl
    rcases hobj l o hl with ⟨g1, g2⟩ | ⟨g0, o2, g1, g2⟩
    · obtain ⟨pl, p1, p2⟩ := hs.obj l o g1
      have hlt := hs.name l pl p1
      have htl := ht l hlt
      refine ⟨by omega, o, pl, by rw [htl]; exact g2, by rw [htl]; exact h1.f _ _ p1, ?_, fun h => h⟩
      obtain ⟨pl2, p3, p4⟩ := h2.obj l o g2
      rw [h1.f _ _ p1] at p3; cases p3
      cases o with
      | row z es own =>
        obtain ⟨q1, q2, q3, q4, q5, q6⟩ := p4
        refine ⟨q1, q2, q3, q4, fun i cs hi => ⟨(q5 i cs hi).1, fun j v hj => ?_⟩, q6⟩
        obtain ⟨s1, cv, s2, s3⟩ := (q5 i cs hi).2 j v hj
        obtain ⟨_, cv0, _, s4⟩ := (p2.2.2.2.2.1 i cs hi).2 j v hj
        exact ⟨s1, cv, s2, (VRel.iso hold s4).rel s3⟩
      | map es =>
        obtain ⟨ms, clock, q1, q2, q3⟩ := p4
        obtain ⟨ms0, clock0, q10, q20, q30⟩ := p2
        refine ⟨ms, clock, q1, ⟨q2.1, fun i x m hx hm => ⟨(q2.2 i x m hx hm).1, ?_⟩⟩, q3⟩
        have hi0 : i < ms0.toList.length := by rw [← q20.1]; exact (List.getElem?_eq_some_iff.1 hx).1
        have s4 := (q20.2 i x _ hx (List.getElem?_eq_getElem hi0)).2
        exact (VRel.iso hold s4).rel (q2.2 i x m hx hm).2
    · obtain ⟨pl, p1, p2⟩ := h2.obj _ o2 g1
      refine ⟨g0, o2, pl, g1, p1, ?_, ?_⟩
      · cases o with
        | row z es own =>
          cases o2 with
          | map es2 => exact g2.elim
          | row z2 es2 own2 =>
            obtain ⟨rfl, g3, g4⟩ := g2
            obtain ⟨q1, q2, q3, q4, q5, q6⟩ := p2
            refine ⟨q1, ?_, q3, q4, fun i cs hi => ?_, fun ho => q6 (g3 ho)⟩
            · refine Nat.le_trans (Nat.mul_le_mul_right _ ?_) q2
              refine Nat.le_of_not_lt fun hlt => ?_
              obtain ⟨cs2, s1, _⟩ := g4 es2.length es[es2.length] (List.getElem?_eq_getElem hlt)
              simp at s1
            · obtain ⟨cs2, s1, s2, s3⟩ := g4 i cs hi
              obtain ⟨q50, q51⟩ := q5 i cs2 s1
              refine ⟨by rw [s2]; exact q50, fun j v hj => ?_⟩
              have hjl : j < cs2.length := by rw [← s2]; exact (List.getElem?_eq_some_iff.1 hj).1
              have hy := List.getElem?_eq_getElem hjl
              obtain ⟨t1, cv, t2, t3⟩ := q51 j _ hy
              obtain ⟨u1, u2⟩ := s3 j v _ hj hy
              exact ⟨u2, cv, t2, u1.rel t3⟩
        | map es =>
          cases o2 with
          | row z2 es2 own2 => exact g2.elim
          | map es2 =>
            obtain ⟨g3, g4⟩ := g2
            obtain ⟨ms, clock, q1, q2, q3⟩ := p2
            refine ⟨ms, clock, q1, ⟨g3.trans q2.1, fun i x m hx hm => ?_⟩, q3⟩
            have hi : i < es2.length := by rw [← g3]; exact (List.getElem?_eq_some_iff.1 hx).1
            have hy := List.getElem?_eq_getElem hi
            obtain ⟨u1, u2⟩ := g4 i x _ hx hy
            obtain ⟨t1, t2⟩ := q2.2 i _ m hy hm
            rw [u1]
            exact ⟨t1, u2.rel t2⟩
      · cases o <;> cases o2 <;> first | exact g2.elim | (intro ho; exact g2.2.1 ho) | (intro _; rfl)
  refine ⟨r'.via H'.next τ, x, H', hle, ⟨h2.kept, h2.kin, fun l o hl => ?_, fun l l' o o' pl pl' hl hl' hp hp' hown hne => ?_, fun l pl hl => ?_, fun l pl hl hG => ?_, Nat.le_trans hs.free hnx, h2.tab, h2.froz, fun l x pl b o v hl hown hp hz => ?_⟩, hval.rel h3, hR⟩
  · obtain ⟨g0, o2, pl, g1, g2, g3, g4⟩ := key l o hl
    exact ⟨pl, via_some g0 g2, g3⟩
  · obtain ⟨a0, o2, q, a1, a2, a3, a4⟩ := key l o hl
    obtain ⟨b0, o2', q', b1, b2, b3, b4⟩ := key l' o' hl'
    rw [via_some a0 a2] at hp; cases hp
    rw [via_some b0 b2] at hp'; cases hp'
    exact h2.sep _ _ _ _ _ _ a1 b1 a2 b2 (a4 hown) (hinj l l' (by rw [hl]; simp) (by rw [hl']; simp) hne)
  · simp only [Ren.via] at hl
    split at hl
    · assumption
    · cases hl
  · simp only [Ren.via] at hl
    split at hl
    · rw [ht l (by have := hs.free; omega)] at hl
      exact h2.glob l pl hl hG
    · cases hl
  · obtain ⟨a0, o2, q, a1, a2, a3, a4⟩ := key l x hl
    rw [via_some a0 a2] at hp; cases hp
    exact h2.fsep _ _ _ b o v a1 (a4 hown) a2 hz
theorem VIso.reflD {n : Nat} {τ : Nat → Nat} {v : Value} (h : scalD v = true) : VIso n τ v v := by
  cases v with
  | agg cs =>
    refine .agg rfl fun i x y a b => ?_
    rw [a] at b; cases b
    obtain ⟨hi, e⟩ := Array.getElem?_eq_some_iff.1 a
    subst e
    exact .scal _ (by simp only [scalD, Array.all_eq_true] at h; exact h i hi)
  | _ => exact .scal _ (by simpa [scalD] using h)
theorem VIso.reflC {n : Nat} {τ : Nat → Nat} {v : Value} (h : clc v = true) : VIso n τ v v := by
  simp only [clc, Bool.or_eq_true] at h
  rcases h with (h | h) | h
  · exact .scal v h
  · unfold isAny at h
    split at h
    · exact .iface (.scal _ rfl)
    · cases h
  · exact .cl v h
theorem clc_one {v : Value} (h : clc v = true) : v.oneCell' = true := by
  cases v <;> first | rfl | simp [clc, AK.scal, isAny, isInl] at h
theorem VIso.reflCD {n : Nat} {τ : Nat → Nat} {v : Value} (h : clD v = true) : VIso n τ v v := by
  cases v with
  | agg cs =>
    refine .agg rfl fun i x y a b => ?_
    rw [a] at b; cases b
    obtain ⟨hi, e⟩ := Array.getElem?_eq_some_iff.1 a
    subst e
    exact VIso.reflC (by simp only [clD, Array.all_eq_true] at h; exact h i hi)
  | _ => exact VIso.reflC h
/-- closed results: several -/
def clT : Value → Bool
  | .tuple vs => vs.all clD
  | v => clD v
theorem VIso.reflT {n : Nat} {τ : Nat → Nat} {v : Value} (h : clT v = true) : VIso n τ v v := by
  cases v with
  | tuple cs =>
    refine .tuple rfl fun i x y a b => ?_
    rw [a] at b; cases b
    obtain ⟨hi, e⟩ := Array.getElem?_eq_some_iff.1 a
    subst e
    exact VIso.reflCD (by simp only [clT, Array.all_eq_true] at h; exact h i hi)
  | _ => exact VIso.reflCD h
/-- what is old is kept -/
def Old (H H2 : AHeap) : Prop := ∀ l o, H.obj l = some o → H2.obj l = some o
theorem Gives.quiet {x : Value} {H H2 : AHeap} (hx : VIso H.next id x x) (ho : Old H H2) : Gives H x H x H2 :=
  ⟨Nat.le_refl _, id, fun _ _ => rfl, fun l o hl => .inl ⟨hl, ho l o hl⟩, fun _ _ _ _ h => h, hx⟩
end
end Go.AK
