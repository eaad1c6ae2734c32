/- Freezing rows, and lending rows to calls that only read. -/
import Derived.Test.YtaikkfdnbihbiaaDoorAKG
import Derived.Test.YtaikkfdnbihbiaaDoorAKD
namespace Go.AK
set_option linter.unusedVariables false
set_option linter.unusedSimpArgs false
open Go Go.RowKit

/-! ### freezing -/
def frC (l z : Nat) (es : List (List Value)) : Value → Value
  | .slice (some ⟨l', i, none⟩) n c => if l' = l ∧ i + n ≤ es.length then inl z 1 ((es.drop i).take n) else .slice (some ⟨l', i, none⟩) n c
  | v => v
def frD (l z : Nat) (es : List (List Value)) : Value → Value
  | .agg xs => .agg (xs.map (frC l z es))
  | v => frC l z es v
def frT (l z : Nat) (es : List (List Value)) : Value → Value
  | .tuple xs => .tuple (xs.map (frD l z es))
  | v => frD l z es v
section
variable {P : Program} {K : Nat → Prop} {w0 w : World} {r : Ren} {H : AHeap}
def Ren.frz (r : Ren) (w : World) (b : Nat) : Ren := ⟨r.f, fun b' o => if b' = b then w.cell? ⟨b, o, none⟩ else r.z b' o⟩
theorem Sim.frz_le (h : Sim (bs P) K w0 r H w) (b : Nat) : r.le (r.frz w b) := by
  refine ⟨fun _ _ h => h, fun b' o v hz => ?_⟩
  simp only [Ren.frz]
  split
  · rename_i e; subst e; exact (h.froz _ _ _ hz).2
  · exact hz
/-- a row that is dropped may be read for ever -/
theorem Sim.freeze (h : Sim (bs P) K w0 r H w) {l z : Nat} {es : List (List Value)} {own : Bool} (ho : H.obj l = some (.row z es own)) (hf : flatC es) :
    ∃ r', r.le r' ∧ Sim (bs P) K w0 r' (H.set l none) w ∧ (∀ v c, VRel r v c → VRel r' (frT l z es v) c) := by
  obtain ⟨pl, hr, hx⟩ := h.obj l _ ho
  obtain ⟨hz, hcap, hlt, hcell, hel, hown⟩ := hx
  subst hz
  have hle := h.frz_le pl.b
  have hsub : ∀ k x, (H.set l none).obj k = some x → k ≠ l ∧ H.obj k = some x := fun k x hk => by
    have hk : (if k = l then none else H.obj k) = some x := hk
    split at hk
    · cases hk
    · exact ⟨by assumption, hk⟩
  have hs1 : Sim (bs P) K w0 r (H.set l none) w := h.sub (fun k x hk => (hsub k x hk).2) (Nat.le_refl _)
  refine ⟨r.frz w pl.b, hle, ⟨hs1.kept, hs1.kin, fun k x hk => ?_, fun k k' x x' p p' a b c d e f => hs1.sep k k' x x' p p' a b c d e f, hs1.name, hs1.glob, hs1.free, hs1.tab, fun b o v hz => ?_, fun k x p b o v hk hxo hp hz => ?_⟩, ?_⟩
  · obtain ⟨p, p1, p2⟩ := hs1.obj k x hk
    exact ⟨p, p1, p2.frame hle rfl⟩
  · simp only [Ren.frz] at hz
    split at hz
    · rename_i e; subst e; exact ⟨hlt, hz⟩
    · exact h.froz b o v hz
  · simp only [Ren.frz] at hz
    obtain ⟨hne, hk'⟩ := hsub k x hk
    split at hz
    · rename_i e
      rw [e]
      exact h.sep k l x _ p pl hk' ho hp hr hxo hne
    · exact h.fsep k x p b o v hk' hxo hp hz
  · -- values
    have cellOf : ∀ (i j : Nat) (cs : List Value) (x : Value), es[i]? = some cs → cs[j]? = some x → x.oneCell' = true ∧ ∃ cv, w.cell? ⟨pl.b, pl.base + i * pl.esz + j, none⟩ = some cv ∧ CRel (r.frz w pl.b).z x cv := fun i j cs x hi hj => by
      obtain ⟨q1, cv, q2, q3⟩ := (hel i cs hi).2 j x hj
      exact ⟨q1, cv, q2, (q3.toClc (hf cs (List.mem_of_getElem? hi) x (List.mem_of_getElem? hj))).mono hle.z⟩
    have hC : ∀ v c, VRel r v c → VRel (r.frz w pl.b) (frC l pl.esz es v) c := by
      intro v c hv
      unfold frC
      split
      · rename_i l' i n c0
        split
        · rename_i hc
          obtain ⟨rfl, hin⟩ := hc
          cases hv with
          | scal _ hsc => simp [scal] at hsc
          | cl hi _ => cases hi
          | @sl _ _ _ _ off c' pl2 hr2 hn hz0 hcc =>
            rw [hr] at hr2; cases hr2
            let g : Nat → Nat → Value := fun a j => (w.cell? ⟨pl.b, pl.base + (i + a) * pl.esz + j, none⟩).getD Go.undef
            have hlen : ((es.drop i).take n).length = n := by rw [List.length_take, List.length_drop]; omega
            have hoff : ∀ a, a < n → off = pl.base + i * pl.esz := fun a ha => (hcc (by omega)).1
            refine .cl (isInl_inl _ _ _) ?_
            have := CRel.inl (z := (r.frz w pl.b).z) (v := inl pl.esz 1 ((es.drop i).take n)) (k := pl.esz) (c := 1) (c' := c') (b := pl.b) (off := off) (a := some ⟨pl.b, off, none⟩) (es := (es.drop i).take n) (g := g) rfl
              (fun a cs ha => by obtain ⟨_, h2⟩ := getElem_take_drop _ _ _ _ _ ha; exact (hel _ _ h2).1)
              (fun a j cs x ha hj => by
                obtain ⟨h1, h2⟩ := getElem_take_drop _ _ _ _ _ ha
                obtain ⟨q1, cv, q2, _⟩ := cellOf _ j _ x h2 hj
                refine ⟨q1, ?_⟩
                simp only [Ren.frz, if_true, g]
                rw [hoff a h1, show pl.base + i * pl.esz + a * pl.esz + j = pl.base + (i + a) * pl.esz + j by rw [Nat.add_mul]; omega, q2]
                rfl)
              (fun a j cs x ha hj => by
                obtain ⟨h1, h2⟩ := getElem_take_drop _ _ _ _ _ ha
                obtain ⟨q1, cv, q2, q3⟩ := cellOf _ j _ x h2 hj
                simp only [g]
                rw [q2]
                exact q3)
              (.inl rfl) (by rw [hlen]; exact hn) (fun h => by cases h)
            rw [hlen] at this
            exact this
        · exact hv.mono hle
      · exact hv.mono hle
    have hD : ∀ v c, VRel r v c → VRel (r.frz w pl.b) (frD l pl.esz es v) c := by
      intro v c hv
      unfold frD
      split
      · cases hv with
        | scal _ hsc => simp [scal] at hsc
        | cl hi _ => cases hi
        | agg hs2 h2 =>
          refine .agg (by simpa using hs2) fun i x y hx hy => ?_
          rw [Array.getElem?_map] at hx
          obtain ⟨x0, e1, e2⟩ := Option.map_eq_some_iff.1 hx
          subst e2
          exact hC _ _ (h2 i x0 y e1 hy)
      · exact hC _ _ hv
    intro v c hv
    unfold frT
    split
    · cases hv with
      | scal _ hsc => simp [scal] at hsc
      | cl hi _ => cases hi
      | tuple hs2 h2 =>
        refine .tuple (by simpa using hs2) fun i x y hx hy => ?_
        rw [Array.getElem?_map] at hx
        obtain ⟨x0, e1, e2⟩ := Option.map_eq_some_iff.1 hx
        subst e2
        exact hD _ _ (h2 i x0 y e1 hy)
    · exact hD _ _ hv
theorem ACall.frz {f : FuncId} {args : List Value} {R R' : Value → AHeap → Prop} (h : ACall P f args H R) (hR : ∀ v H', R v H' → ∃ l z es own, H'.obj l = some (.row z es own) ∧ flatC es ∧ R' (frT l z es v) (H'.set l none)) : ACall P f args H R' := by
  intro K w0 w r vs hs hv
  refine (h K w0 w r vs hs hv).mono fun c w' ⟨r', v, H2, h1, h2, h3, h4⟩ => ?_
  obtain ⟨l, z, es, own, q1, q2, q3⟩ := hR v H2 h4
  obtain ⟨r2, p1, p2, p3⟩ := h2.freeze q1 q2
  exact ⟨r2, _, _, Ren.le_trans h1 p1, p2, p3 v c h3, q3⟩
/-- a nil slice is an empty one -/
theorem VRel.nilInl {r : Ren} {c : Value} (z k : Nat) (h : VRel r (.slice none 0 0) c) : VRel r (inl z k []) c := by
  rw [h.of_scal rfl]
  exact .cl (isInl_inl _ _ _) (CRel.inl (z := r.z) (v := inl z k []) (k := z) (c := k) (c' := 0) (b := 0) (off := 0) (a := none) (es := []) (g := fun _ _ => Go.undef) rfl (by simp) (by simp) (by simp) (.inr ⟨rfl, rfl, rfl⟩) (Nat.le_refl _) (fun _ => rfl))
/-- another value for what is returned -/
theorem ACall.weak {f : FuncId} {args : List Value} {R R' : Value → AHeap → Prop} (h : ACall P f args H R) (hR : ∀ v H', R v H' → ∃ x, (∀ r c, VRel r v c → VRel r x c) ∧ R' x H') : ACall P f args H R' := by
  intro K w0 w r vs hs hv
  refine (h K w0 w r vs hs hv).mono fun c w' ⟨r', v, H2, h1, h2, h3, h4⟩ => ?_
  obtain ⟨x, q1, q2⟩ := hR v H2 h4
  exact ⟨r', x, H2, h1, h2, q1 _ _ h3, q2⟩
theorem clT_inl (z c : Nat) (es : List (List Value)) : clT (inl z c es) = true := rfl
theorem frC_own (l z n c : Nat) (es : List (List Value)) (hn : n = es.length) : frC l z es (.slice (some ⟨l, 0, none⟩) n c) = inl z 1 es := by
  subst hn
  simp [frC]
theorem frC_clc {l z : Nat} {es : List (List Value)} {v : Value} (h : clc v = true) : frC l z es v = v := by
  unfold frC
  split
  · simp [clc, scal, isAny, isInl] at h
  · rfl
theorem frD_clD {l z : Nat} {es : List (List Value)} {v : Value} (h : clD v = true) : frD l z es v = v := by
  cases v with
  | agg xs =>
    simp only [frD]
    congr 1
    refine Array.ext (by simp) fun i h1 h2 => ?_
    simp only [Array.getElem_map]
    simp only [clD, Array.all_eq_true] at h
    exact frC_clc (h i h2)
  | _ => exact frC_clc (l := l) (z := z) (es := es) h
/-- what is built in new memory, handed on to be read -/
theorem ACall.toInl {f : FuncId} {args : List Value} {z : Nat} {nl : Bool} {es : List (List Value)} (hf : flatC es) (h : ACall P f args H fun v H' => Buf H z nl es v H') : ACall P f args H fun v H' => v = inl z 1 es ∧ H' = H := by
  have h2 : ACall P f args H fun v H' => (v = .slice none 0 0 ∧ es = [] ∧ Ext H H') ∨ (∃ l c, H.next ≤ l ∧ v = .slice (some ⟨l, 0, none⟩) es.length c ∧ H'.obj l = some (.row z es true) ∧ Ext H H' ∧ WF H) := h.mono fun v H' hb => by
    rcases hb.at_ with ⟨_, h1, h2⟩ | ⟨l, c, _, h1, h2, h3⟩
    · exact .inl ⟨h2, h1, hb.ext⟩
    · exact .inr ⟨l, c, h3, h1, h2, hb.ext, hb.wf0⟩
  refine ACall.quiet (clT_inl _ _ _) ?_
  intro K w0 w r vs hs hv
  refine (h2 K w0 w r vs hs hv).mono fun c w' ⟨r', v, H2, h1, hs2, h3, h4⟩ => ?_
  rcases h4 with ⟨rfl, rfl, he⟩ | ⟨l, k, hl, rfl, ho, he, hw⟩
  · exact ⟨r', _, H2, h1, hs2, h3.nilInl z 1, rfl, he⟩
  · obtain ⟨r2, p1, p2, p3⟩ := hs2.freeze ho hf
    have := p3 _ c h3
    rw [show frT l z es (.slice (some ⟨l, 0, none⟩) es.length k) = inl z 1 es from frC_own l z _ k es rfl] at this
    exact ⟨r2, _, _, Ren.le_trans h1 p1, p2, this, rfl, he.set (hw l hl) none⟩

theorem VRel.tup2 {r r2 : Ren} (hr : r.le r2) {u u' x c : Value} (h : VRel r (.tuple [u, x].toArray) c) (hu : ∀ c, VRel r u c → VRel r2 u' c) : VRel r2 (.tuple [u', x].toArray) c := by
  cases h with
  | scal _ hsc => simp [AK.scal] at hsc
  | cl hi _ => cases hi
  | @tuple _ ys hs h =>
    refine .tuple (by simpa using hs) fun i a b ha hb => ?_
    match i, ha with
    | 0, ha => cases (show a = u' by simpa using ha.symm); exact hu _ (h 0 u b rfl hb)
    | 1, ha => cases (show a = x by simpa using ha.symm); exact (h 1 x b rfl hb).mono hr
    | i + 2, ha => simp at ha
theorem ACall.toInl2 {f : FuncId} {args : List Value} {z : Nat} {nl : Bool} {es : List (List Value)} {x : Value} (hx : clD x = true) (hf : flatC es) (h : ACall P f args H fun v H' => ∃ u, v = .tuple [u, x].toArray ∧ Buf H z nl es u H') :
    ACall P f args H fun v H' => v = .tuple [inl z 1 es, x].toArray ∧ H' = H := by
  refine ACall.quiet (by simp [clT, clD, clc, isInl, inl]; exact hx) ?_
  intro K w0 w r vs hs hv
  refine (h K w0 w r vs hs hv).mono fun c w' ⟨r', v, H2, h1, hs2, h3, u, h4, hb⟩ => ?_
  subst h4
  rcases hb.at_ with ⟨_, e1, e2⟩ | ⟨l, k, _, e1, ho, hl⟩
  · subst e1; subst e2
    exact ⟨r', _, H2, h1, hs2, h3.tup2 (Ren.le_refl _) fun c hc => hc.nilInl z 1, rfl, hb.ext⟩
  · subst e1
    obtain ⟨r2, p1, p2, p3⟩ := hs2.freeze ho hf
    refine ⟨r2, _, _, Ren.le_trans h1 p1, p2, h3.tup2 p1 (u' := inl z 1 es) fun c hc => ?_, rfl, hb.ext.set (hb.wf0 l hl) none⟩
    have := p3 _ c hc
    rwa [show frT l z es (.slice (some ⟨l, 0, none⟩) es.length k) = inl z 1 es from frC_own l z _ k es rfl] at this
theorem ACall.rowInl {f : FuncId} {args : List Value} {z n : Nat} {es : List (List Value)} (hf : flatC es) (hn : n = es.length) (h : ACall P f args H fun v H' => v = .slice (some ⟨H.next, 0, none⟩) n 1 ∧ H' = H.push (.row z es true)) : ACall P f args H fun v H' => v = inl z 1 es ∧ H' = H :=
  ACall.wf fun wf => ACall.toInl (nl := false) hf (h.mono fun v H' ⟨h1, h2⟩ => by subst h1; subst h2; subst hn; exact Buf.fresh wf wf (Ext.refl _) z es rfl 1)
/-! ### lending -/
theorem globalNamed_lt {P : Program} {nm : String} {g : Nat} (h : P.globalNamed nm = some g) : g < P.globals.size := by
  unfold Program.globalNamed at h
  split at h
  · rename_i q hq
    cases h
    have : g ∈ (List.range P.globals.size).filter fun g => (P.globals[g]?).any (·.name == nm) := by rw [hq]; simp
    exact List.mem_range.1 (List.mem_filter.1 this).1
  · cases h
theorem TabW.later {P : Program} {K K' : Nat → Prop} {w0 w : World} (h : TabW P K w0) (hk : Kept K w0 w) (hK : ∀ g, g < P.globals.size → K' g) : TabW P K' w := by
  refine ⟨hK, fun nm k zs hm g hg => ?_, fun nm hm g hg => ?_, fun nm hm g hg => ?_⟩
  · have hlt : g < P.globals.size := globalNamed_lt hg
    have := h.tabs nm k zs hm g hg
    unfold Lib.TabIs at this ⊢
    have e : w.var? P nm = w0.var? P nm := by simp only [World.var?, hg, Option.bind_some, hk.block g (h.kept g hlt)]
    rw [e]; exact this
  · have hlt : g < P.globals.size := globalNamed_lt hg
    obtain ⟨ev, h1, h2⟩ := h.errs nm hm g hg
    exact ⟨ev, by rw [World.cell?_of_block (a := ⟨g, 0, none⟩) (hk.block g (h.kept g hlt))]; exact h1, h2⟩
  · have hlt : g < P.globals.size := globalNamed_lt hg
    obtain ⟨m, h1⟩ := h.ints nm hm g hg
    exact ⟨m, by rw [World.cell?_of_block (a := ⟨g, 0, none⟩) (hk.block g (h.kept g hlt))]; exact h1⟩
/-- an argument that is only read: itself, or a row lent -/
inductive Lent (H : AHeap) : Value → Value → Prop where
  | same (v : Value) (h : clT v = true) : Lent H v v
  | row {v : Value} {z : Nat} {es : List (List Value)} (hz : 0 < z) (h : elems H z v = some es) (hf : flatC es) : Lent H v (inl z 1 es)
inductive LentL (H : AHeap) : List Value → List Value → Prop where
  | nil : LentL H [] []
  | cons {v v' : Value} {l l' : List Value} (h : Lent H v v') (t : LentL H l l') : LentL H (v :: l) (v' :: l')
def Ren.all (r : Ren) (w : World) : Ren := ⟨r.f, fun b o => if b < w.heap.size then w.cell? ⟨b, o, none⟩ else none⟩
theorem all_le {P : Program} {K : Nat → Prop} {w0 w : World} {r : Ren} {H : AHeap} (h : Sim (bs P) K w0 r H w) : r.le (r.all w) := by
  refine ⟨fun _ _ h => h, fun b o v hz => ?_⟩
  obtain ⟨h1, h2⟩ := h.froz b o v hz
  simp only [Ren.all, if_pos h1]; exact h2
theorem VRel.toT {r r' : Ren} (hz : ∀ b o v, r.z b o = some v → r'.z b o = some v) {v c : Value} (h : VRel r v c) (hc : clT v = true) : VRel r' v c := by
  cases v with
  | tuple vs =>
    cases h with
    | scal _ hsc => simp [AK.scal] at hsc
    | cl hi _ => cases hi
    | tuple hs h =>
      refine .tuple hs fun i x y hx hy => VRel.ofCl (((h i x y hx hy).toCl ?_).mono hz)
      have hc2 : vs.all clD = true := hc
      rw [Array.all_eq_true] at hc2
      obtain ⟨hi, e⟩ := Array.getElem?_eq_some_iff.1 hx
      subst e
      exact hc2 i hi
  | _ => exact VRel.ofCl ((h.toCl hc).mono hz)
theorem Lent.rel {P : Program} {K : Nat → Prop} {w0 w : World} {r : Ren} {H : AHeap} (hs : Sim (bs P) K w0 r H w) {v v' c : Value} (h : Lent H v v') (hv : VRel r v c) : VRel (r.all w) v' c := by
  have hle := all_le hs
  cases h with
  | same hc => exact hv.toT hle.z hc
  | @row z es hz h hf =>
    have h' := h
    unfold elems at h
    split at h
    · cases h
      have e := hv.mono hle
      cases hv with
      | cl hi _ => cases hi
      | scal v hsc =>
        rename_i cap
        have hc0 : cap = 0 := by cases cap <;> first | rfl | simp [scal] at hsc
        subst hc0
        exact e.nilInl z 1
    · rename_i l o n c0
      split at h
      · rename_i z2 es0 own ho
        split at h
        · rename_i hc
          obtain ⟨rfl, hon⟩ := hc
          cases h
          cases hv with
          | scal _ hsc => simp [scal] at hsc
          | cl hi _ => cases hi
          | @sl _ _ _ _ off c' pl hr hn hcz hcc =>
            obtain ⟨pl2, hr2, hx⟩ := hs.obj l _ ho
            rw [hr] at hr2; cases hr2
            obtain ⟨hze, hlen, hlt, hcell, hel, hown⟩ := hx
            subst hze
            have hlen' : ((es0.drop o).take n).length = n := by rw [List.length_take, List.length_drop]; omega
            let g : Nat → Nat → Value := fun a j => (w.cell? ⟨pl.b, pl.base + (o + a) * pl.esz + j, none⟩).getD Go.undef
            have hoff : ∀ a, a < n → off = pl.base + o * pl.esz := fun a ha => (hcc (by omega)).1
            have key : ∀ (a j : Nat) (cs : List Value) (x : Value), ((es0.drop o).take n)[a]? = some cs → cs[j]? = some x → a < n ∧ x.oneCell' = true ∧ ∃ cv, w.cell? ⟨pl.b, pl.base + (o + a) * pl.esz + j, none⟩ = some cv ∧ CRel (r.all w).z x cv := fun a j cs x ha hj => by
              obtain ⟨h1, h2⟩ := getElem_take_drop _ _ _ _ _ ha
              obtain ⟨q1, cv, q2, q3⟩ := (hel _ _ h2).2 j x hj
              exact ⟨h1, q1, cv, q2, (q3.toClc (hf cs (List.mem_of_getElem? ha) x (List.mem_of_getElem? hj))).mono hle.z⟩
            refine .cl (isInl_inl _ _ _) ?_
            have := CRel.inl (z := (r.all w).z) (v := inl pl.esz 1 ((es0.drop o).take n)) (k := pl.esz) (c := 1) (c' := c') (b := pl.b) (off := off) (a := some ⟨pl.b, off, none⟩) (es := (es0.drop o).take n) (g := g) rfl
              (fun a cs ha => by obtain ⟨_, h2⟩ := getElem_take_drop _ _ _ _ _ ha; exact (hel _ _ h2).1)
              (fun a j cs x ha hj => by
                obtain ⟨h1, q1, cv, q2, q3⟩ := key a j cs x ha hj
                refine ⟨q1, ?_⟩
                simp only [Ren.all, if_pos hlt, g]
                rw [hoff a h1, show pl.base + o * pl.esz + a * pl.esz + j = pl.base + (o + a) * pl.esz + j by rw [Nat.add_mul]; omega, q2]
                rfl)
              (fun a j cs x ha hj => by
                obtain ⟨h1, q1, cv, q2, q3⟩ := key a j cs x ha hj
                simp only [g]
                rw [q2]
                exact q3)
              (.inl rfl) (by rw [hlen']; exact hn) (fun h => by cases h)
            rw [hlen'] at this
            exact this
        · cases h
      · cases h
    · rename_i nm fs xs
      split at h
      · rename_i hz0
        cases h
        obtain ⟨z3, c, hi⟩ := inl_any hv
        rw [hi] at hz0
        simp only [Option.map_some, Option.some.injEq] at hz0
        subst hz0
        obtain ⟨b, off, a, c', g, hsz, hd⟩ := inl_data hi hv
        have e := hd.eq
        subst e
        refine .cl (isInl_inl _ _ _) (.inl rfl hd.len (fun i j cs x h1 h2 => ⟨(hd.cell i j cs x h1 h2).1, hle.z _ _ _ (hd.cell i j cs x h1 h2).2⟩) (fun i j cs x h1 h2 => (hd.rel i j cs x h1 h2).mono hle.z) hd.base hd.cap (fun h => by cases h))
      · cases h
    · cases h
theorem LentL.rel {P : Program} {K : Nat → Prop} {w0 w : World} {r : Ren} {H : AHeap} (hs : Sim (bs P) K w0 r H w) : ∀ {l l' : List Value} (_ : LentL H l l') {cs : List Value}, LRel r l cs → LRel (r.all w) l' cs
  | _, _, .nil, cs, h => ⟨h.1, fun i x y a => by simp at a⟩
  | _, _, .cons (v := v) (v' := v') (l := l) (l' := l') hv t, cs, h => by
    cases cs with
    | nil => have := h.1; simp at this
    | cons c cs =>
      have h0 := h.2 0 v c rfl rfl
      have ht : LRel r l cs := ⟨by have := h.1; simpa using this, fun i x y hx hy => h.2 (i + 1) x y (by simpa using hx) (by simpa using hy)⟩
      exact .cons (hv.rel hs h0) (LentL.rel hs t ht)
def bareH (H : AHeap) : AHeap := ⟨fun _ => none, H.next⟩
/-- the world as it stands, all of it read only -/
theorem Sim.bare {P : Program} {K : Nat → Prop} {w0 w : World} {r : Ren} {H : AHeap} (hs : Sim (bs P) K w0 r H w) : Sim (bs P) (fun k => k < w.heap.size) w (r.all w) (bareH H) w := by
  have hk : TabW P K w0 := hs.tab
  refine ⟨Kept.refl _ _, fun k hk => hk, fun l o hl => (by cases hl), fun l l' o o' pl pl' hl => (by cases hl), hs.name, hs.glob, hs.free, hk.later hs.kept fun g hg => hs.lt (hk.kept g hg), fun b o v hz => ?_, fun l x pl b o v hl => (by cases hl)⟩
  simp only [Ren.all] at hz
  split at hz
  · exact ⟨by assumption, hz⟩
  · cases hz
theorem Sim.unbare {P : Program} {K : Nat → Prop} {w0 w w' : World} {r : Ren} {H : AHeap} (hs : Sim (bs P) K w0 r H w) (hk : Kept (fun k => k < w.heap.size) w w') : Sim (bs P) K w0 r H w' := by
  refine ⟨hs.kept.trans (hk.mono fun k h => hs.lt h), hs.kin, fun l o hl => ?_, hs.sep, hs.name, hs.glob, hs.free, hs.tab, hs.frozOf fun b o v hz => hk.block b (hs.froz b o v hz).1, hs.fsep⟩
  obtain ⟨pl, h4, h5⟩ := hs.obj l o hl
  exact ⟨pl, h4, h5.frame (Ren.le_refl _) (hk.block _ h5.lt)⟩
/-- several scalars -/
def scT : Value → Bool
  | .tuple vs => vs.all scalD
  | v => scalD v
theorem VRel.ofScT {r r' : Ren} {v c : Value} (h : VRel r v c) (hc : scT v = true) : VRel r' v c := by
  cases v with
  | tuple vs =>
    cases h with
    | scal _ hsc => simp [AK.scal] at hsc
    | cl hi _ => cases hi
    | tuple hs h =>
      refine .tuple hs fun i x y hx hy => ?_
      have hx' : scalD x = true := by
        have hc2 : vs.all scalD = true := hc
        rw [Array.all_eq_true] at hc2
        obtain ⟨hi, e⟩ := Array.getElem?_eq_some_iff.1 hx
        subst e
        exact hc2 i hi
      rw [(h i x y hx hy).of_scalD hx']
      exact VRel.reflD hx'
  | _ => rw [h.of_scalD hc]; exact VRel.reflD hc
/-- a call that only reads, whose answer names nothing -/
theorem ACall.lend {P : Program} {f : FuncId} {args args' : List Value} {H : AHeap} {x : Value} (hx : scT x = true) (hl : LentL H args args') (h : ∀ H, ACall P f args' H fun v H' => v = x ∧ H' = H) : ACall P f args H fun v H' => v = x ∧ H' = H := by
  intro K w0 w r vs hs hv
  refine (h (bareH H) _ w w (r.all w) vs hs.bare (hl.rel hs hv)).mono fun c w' ⟨r', v, H2, h1, h2, h3, h4, h5⟩ => ?_
  subst h4
  exact ⟨r, _, H, Ren.le_refl _, hs.unbare h2.kept, h3.ofScT hx, rfl, rfl⟩
/-- a call that only reads, whose answer is a new row of scalars -/
theorem ACall.lendRow {P : Program} {f : FuncId} {args args' : List Value} {H : AHeap} {z n : Nat} {es : List (List Value)} (hf : flatS es) (hl : LentL H args args')
    (h : ∀ H, ACall P f args' H fun v H' => v = .slice (some ⟨H.next, 0, none⟩) n 1 ∧ H' = H.push (.row z es true)) : ACall P f args H fun v H' => v = .slice (some ⟨H.next, 0, none⟩) n 1 ∧ H' = H.push (.row z es true) := by
  intro K w0 w r vs hs hv
  refine (h (bareH H) _ w w (r.all w) vs hs.bare (hl.rel hs hv)).mono fun c w' ⟨r', v, H2, h1, h2, h3, h4, h5⟩ => ?_
  subst h4; subst h5
  have hs' := hs.unbare h2.kept
  obtain ⟨pl, hr, hx⟩ := h2.obj H.next (.row z es true) (by simp [AHeap.push, bareH])
  obtain ⟨hz, hcap, hlt, hcell, hel, hown⟩ := hx
  have hnb : ¬ pl.b < w.heap.size := (hown rfl).1
  have hle := hs'.le_add pl
  refine ⟨r.add H.next pl, _, H.push (.row z es true), hle, ?_, ?_, rfl, rfl⟩
  · -- the world as it was before this row came is not at hand: the row's block is none of the old ones
    refine ⟨hs'.kept, hs'.kin, fun l o hl => ?_, fun l l' o o' p p' hl hl' hp1 hp2 hown' hne => ?_, fun l p hl => ?_, fun l p hl hG => ?_, ?_, hs'.tab, hs'.froz, fun l x' p b o v hl hown' hp1 hz' => ?_⟩
    · simp only [AHeap.push] at hl
      split at hl
      · rename_i e
        cases hl; subst e
        refine ⟨pl, add_same _ _ _, hz, hcap, hlt, hcell, fun i cs hi => ⟨(hel i cs hi).1, fun j v hj => ?_⟩, fun _ => ⟨fun hk => hnb (hs.lt hk), (hown rfl).2⟩⟩
        obtain ⟨q1, cv, q2, q3⟩ := (hel i cs hi).2 j v hj
        have hsc := hf cs (List.mem_of_getElem? hi) v (List.mem_of_getElem? hj)
        rw [q3.of_scal hsc] at q2
        exact ⟨q1, v, q2, .scal _ hsc⟩
      · obtain ⟨p, p1, p2⟩ := hs'.obj l o hl
        exact ⟨p, hle.f _ _ p1, p2.frame hle rfl⟩
    · have oldb : ∀ k x p, H.obj k = some x → (r.add H.next pl) k = some p → k ≠ H.next → r k = some p ∧ p.b < w.heap.size := fun k x p hk hp hne => by
        have hp' : r k = some p := by simpa [Ren.add, hne] using hp
        obtain ⟨p2, q1, q2⟩ := hs.obj k x hk
        rw [hp'] at q1; cases q1
        exact ⟨hp', q2.lt⟩
      simp only [AHeap.push] at hl hl'
      split at hl <;> split at hl'
      · rename_i e1 e2; exact absurd (e1.trans e2.symm) hne
      · rename_i e1 e2
        rw [e1, add_same] at hp1; cases hp1
        have := (oldb _ _ _ hl' hp2 e2).2; omega
      · rename_i e1 e2
        rw [e2, add_same] at hp2; cases hp2
        have := (oldb _ _ _ hl hp1 e1).2; omega
      · rename_i e1 e2
        exact hs.sep l l' o o' p p' hl hl' (oldb _ _ _ hl hp1 e1).1 (oldb _ _ _ hl' hp2 e2).1 hown' hne
    · simp only [Ren.add] at hl
      simp only [AHeap.push]
      split at hl
      · omega
      · have := hs.name l p hl; omega
    · simp only [Ren.add] at hl
      split at hl
      · have := hs.free; omega
      · exact hs.glob l p hl hG
    · have := hs.free; simp only [AHeap.push]; omega
    · simp only [AHeap.push] at hl
      split at hl
      · rename_i e
        rw [e, add_same] at hp1; cases hp1
        have := (hs.froz b o v hz').1; omega
      · rename_i e
        have hp' : r l = some p := by simpa [Ren.add, e] using hp1
        exact hs.fsep l x' p b o v hl hown' hp' hz'
  · cases h3 with
    | scal _ hsc => simp [scal] at hsc
    | cl hi _ => cases hi
    | @sl _ _ _ _ off c' pl2 hr2 hn hz0 hcc =>
      have : (bareH H).next = H.next := rfl
      rw [this] at hr2
      rw [hr] at hr2; cases hr2
      exact .sl (add_same _ _ _) hn hz0 hcc
end
end Go.AK
