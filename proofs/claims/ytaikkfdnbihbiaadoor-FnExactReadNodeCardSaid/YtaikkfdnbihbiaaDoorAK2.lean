/- 'pop' is what the machine's operation does: soundness, operation by operation. -/
import Derived.Test.YtaikkfdnbihbiaaDoorAK1
namespace Go.AK
set_option linter.unusedVariables false
set_option linter.unusedSimpArgs false
open Go Go.RowKit

theorem Ty.of {P : Program} {t : Nat} {y : Ty} (h : tyOf P t = some y) : ∃ d i, P.underlying t = some d ∧ P.info? t = some i ∧ y.k = TK.of P d ∧ y.size = i.size ∧ y.bytes = i.bytes ∧ i.zero = some y.zero ∧ (y.zok = true → y.zero.cells.toList.length = y.size ∧ y.zero.cells.toList.all scal = true) := by
  unfold tyOf at h
  split at h
  · rename_i d i h1 h2
    split at h
    · rename_i z hz
      cases h
      exact ⟨d, i, h1, h2, rfl, rfl, rfl, hz, fun hk => by simpa only [Bool.and_eq_true, beq_iff_eq] using hk⟩
    · cases h
  · cases h
theorem kind_of {P : Program} {t : Nat} {k : TK} (h : kind P t = some k) : ∃ d i, P.underlying t = some d ∧ P.info? t = some i ∧ k = TK.of P d := by
  unfold kind at h
  cases hy : tyOf P t with
  | none => rw [hy] at h; cases h
  | some y =>
    rw [hy] at h
    obtain ⟨d, i, h1, h2, h3, _⟩ := Ty.of hy
    simp at h
    exact ⟨d, i, h1, h2, by rw [← h, h3]⟩
theorem TK.slice_of {P : Program} {d : TypeDesc} {el : Nat} (h : TK.slice el = TK.of P d) : d = .slice el := by
  cases d <;> simp [TK.of] at h; exact h ▸ rfl
theorem TK.string_of {P : Program} {d : TypeDesc} (h : TK.string = TK.of P d) : d = .string := by cases d <;> simp [TK.of] at h; rfl
theorem TK.int_of {P : Program} {d : TypeDesc} {k : IntKind} (h : TK.int k = TK.of P d) : d = .int k := by cases d <;> simp [TK.of] at h; exact h ▸ rfl
theorem TK.array_of {P : Program} {d : TypeDesc} {n e : Nat} (h : TK.array n e = TK.of P d) : d = .array n e := by
  cases d <;> simp [TK.of] at h; obtain ⟨rfl, rfl⟩ := h; rfl
theorem TK.struct_of {P : Program} {d : TypeDesc} {fs : List (Nat × Nat × Bool)} (h : TK.struct fs = TK.of P d) : ∃ a, d = .struct a ∧ fs = a.toList.map fun f => (f.offset, f.type, P.cellsOf f.type != 0) := by
  cases d <;> simp [TK.of] at h; exact ⟨_, rfl, h⟩
theorem run_isAgg {P : Program} {t : Nat} {y : Ty} (h : tyOf P t = some y) (w : World) : (isAgg t).run P w = .ok y.agg w := by
  obtain ⟨d, i, h1, _, h3, _⟩ := Ty.of h
  simp only [isAgg, Sem.run_bind, run_underlying h1, Result.andThen_ok]
  unfold Ty.agg
  rw [h3]
  cases d <;> rfl
theorem run_sizeOf' {P : Program} {t : Nat} {y : Ty} (h : tyOf P t = some y) (w : World) : (sizeOf t).run P w = .ok y.size w := by
  obtain ⟨d, i, _, h2, _, h4, _⟩ := Ty.of h
  simp [sizeOf, typeInfo, h2, h4]
theorem run_typeInfo' {P : Program} {t : Nat} {i : TypeInfo} (h : P.info? t = some i) (w : World) : (typeInfo t).run P w = .ok i w := by simp [typeInfo, h]
theorem run_zeroValue' {P : Program} {t : Nat} {y : Ty} (h : tyOf P t = some y) (w : World) : (zeroValue t).run P w = .ok y.zero w := by
  obtain ⟨d, i, _, h2, _, _, _, h5, _⟩ := Ty.of h
  simp [zeroValue, typeInfo, h2, h5]

theorem VRel.reflD {r : Ren} {v : Value} (h : scalD v = true) : VRel r v v := by
  cases v with
  | agg cs =>
    refine .agg rfl fun i x y a b => ?_
    rw [a] at b; cases b
    obtain ⟨hi, e⟩ := Array.getElem?_eq_some_iff.1 a
    subst e
    exact .scal _ (by simp only [scalD, Array.all_eq_true] at h; exact h i hi)
  | _ => exact .scal _ (by simpa [scalD] using h)
theorem VRel.of_scalD {r : Ren} {v w : Value} (h : VRel r v w) (hs : scalD v = true) : w = v := by
  cases h with
  | agg hz h =>
    rename_i xs ys
    congr 1
    refine Array.ext hz.symm fun i hi hj => ?_
    have hx : xs[i]? = some xs[i] := by simp [hj]
    have hy : ys[i]? = some ys[i] := by simp [hi]
    exact (h i _ _ hx hy).of_scal (by simp only [scalD, Array.all_eq_true] at hs; exact hs i hj)
  | scal v hv => rfl
  | cl hi h => cases v <;> first | cases hi; done | simp [scalD, AK.scal] at hs
  | _ => simp [scalD, AK.scal] at hs
section
variable {P : Program} {K : Nat → Prop} {w0 w : World} {r : Ren} {H : AHeap} {e : Env} {a : Act}
theorem evo_rel (hs : Sim (bs P) K w0 r H w) (he : ERel r e a) {x : Operand} {v : Value} (h : evo P e H x = some v) : VRel r v (a.eval x) := by
  cases x with
  | tmp t => simp only [evo, Option.some.injEq] at h; subst h; exact he t
  | const c =>
    simp only [evo] at h
    split at h
    · rename_i hc; cases h; exact VRel.reflD hc
    · cases h
  | global g =>
    simp only [evo] at h
    split at h
    · rename_i hc
      cases h
      simp only [Bool.and_eq_true, decide_eq_true_eq] at hc
      cases ho : H.obj g with
      | none => rw [ho] at hc; simp at hc
      | some o =>
        obtain ⟨pl, h1, _⟩ := hs.obj g o ho
        obtain ⟨h2, h3⟩ := hs.glob g pl h1 hc.2
        have := VRel.ptr (r := r) (l := g) (i := 0) (j := 0) h1
        rw [h2, h3] at this
        simpa [Act.eval] using this
    · cases h
  | func f =>
    simp only [evo, Option.some.injEq] at h
    subst h
    exact .func rfl (fun i x y h => by simp at h) rfl (fun i x y h => by simp at h)
/-- what an operation that 'pop' tells does -/
def OpOk (P : Program) (K : Nat → Prop) (w0 : World) (r : Ren) (a : Act) (o : Oper) (w : World) (v : Value) (H' : AHeap) : Prop :=
  ∃ r' v' w', ((execOp a.eval o).run P w = .ok (.value v') w' ∨ ((execOp a.eval o).run P w = .ok .skip w' ∧ v' = Go.undef)) ∧ r.le r' ∧
    Sim (bs P) K w0 r' H' w' ∧ VRel r' v v'
theorem OpOk.same (hs : Sim (bs P) K w0 r H w) {o : Oper} {v v' : Value} (hx : (execOp a.eval o).run P w = .ok (.value v') w) (hv : VRel r v v') : OpOk P K w0 r a o w v H :=
  ⟨r, v', w, .inl hx, Ren.le_refl _, hs, hv⟩
/-- reading an element -/
theorem elem_cells (hs : Sim (bs P) K w0 r H w) {l i : Nat} {cs : List Value} (h : elemAt H l i = some cs) :
    ∃ pl cv, r l = some pl ∧ LRel r cs cv ∧ cs.length = pl.esz ∧ ∀ j u, cv[j]? = some u → w.cell? ⟨pl.b, pl.base + i * pl.esz + j, none⟩ = some u := by
  unfold elemAt at h
  split at h
  · rename_i z es own ho
    obtain ⟨pl, h1, h2⟩ := hs.obj l _ ho
    obtain ⟨hz, hlen, hlt, hcell, hel, hown⟩ := h2
    subst hz
    obtain ⟨hl, hj⟩ := hel i cs h
    have : ∀ j : Fin cs.length, ∃ cv, w.cell? ⟨pl.b, pl.base + i * pl.esz + j, none⟩ = some cv ∧ VRel r cs[j] cv := fun j => (hj j cs[j] (by simp)).2
    let cv : List Value := List.ofFn fun j : Fin cs.length => Classical.choose (this j)
    have hcv : ∀ j (hj : j < cs.length), cv[j]? = some (Classical.choose (this ⟨j, hj⟩)) := fun j hj => by simp [cv, hj]
    refine ⟨pl, cv, h1, ⟨by simp [cv], fun j x y hx hy => ?_⟩, hl, fun j u hu => ?_⟩
    · obtain ⟨hjl, rfl⟩ := List.getElem?_eq_some_iff.1 hx
      rw [hcv j hjl] at hy; cases hy
      exact (Classical.choose_spec (this ⟨j, hjl⟩)).2
    · have hjl : j < cs.length := by
        have := (List.getElem?_eq_some_iff.1 hu).1
        simpa [cv] using this
      rw [hcv j hjl] at hu; cases hu
      exact (Classical.choose_spec (this ⟨j, hjl⟩)).1
  · cases h
theorem cell_add (b o n : Nat) : (⟨b, o, none⟩ : Addr).add n = ⟨b, o + n, none⟩ := Addr.add_lit b o n
theorem loadCells_rel {t : Nat} {y : Ty} (ht : tyOf P t = some y) {b o j : Nat} {cs cv : List Value} (h2 : LRel r cs cv) (h4 : ∀ j u, cv[j]? = some u → w.cell? ⟨b, o + j, none⟩ = some u) {v : Value}
    (hv : cut y.agg cs j y.size = some v) : ∃ v', (loadVar t ⟨b, o + j, none⟩).run P w = .ok v' w ∧ VRel r v v' := by
  unfold cut at hv
  split at hv
  · rename_i hagg
    split at hv
    · rename_i hfit
      cases hv
      have hl := run_loadCells_list (P := P) w ⟨b, o + j, none⟩ ((cv.drop j).take y.size) (fun k u hk => by
        rw [cell_add]
        rw [List.getElem?_take] at hk
        split at hk
        · rw [List.getElem?_drop] at hk
          rw [Nat.add_assoc]
          exact h4 _ _ hk
        · cases hk)
      have hlen : ((cv.drop j).take y.size).length = y.size := by simp [← h2.1]; omega
      rw [hlen] at hl
      refine ⟨_, by simp only [loadVar, Sem.run_bind, run_isAgg ht, Result.andThen_ok, hagg, if_true, run_sizeOf' ht, hl, Sem.run_pure]; rfl, VRel.aggL ⟨by simp [h2.1], fun k x u hx hu => ?_⟩⟩
      rw [List.getElem?_take] at hx hu
      split at hx
      · rename_i hk
        rw [if_pos hk] at hu
        rw [List.getElem?_drop] at hx hu
        exact h2.2 _ _ _ hx hu
      · cases hx
    · cases hv
  · rename_i hagg
    obtain ⟨u, hu, hr⟩ := h2.get hv
    refine ⟨u, ?_, hr⟩
    have := h4 j u hu
    simp [loadVar, run_isAgg ht, hagg, this]
theorem loadVar_rel (hs : Sim (bs P) K w0 r H w) {t : Nat} {y : Ty} (ht : tyOf P t = some y) {l i j : Nat} {cs : List Value} (h : elemAt H l i = some cs) {v : Value}
    (hv : cut y.agg cs j y.size = some v) : ∃ pl v', r l = some pl ∧ (loadVar t ⟨pl.b, pl.base + i * pl.esz + j, none⟩).run P w = .ok v' w ∧ VRel r v v' := by
  obtain ⟨pl, cv, h1, h2, h3, h4⟩ := elem_cells hs h
  obtain ⟨v', q1, q2⟩ := loadCells_rel (P := P) ht h2 h4 hv
  exact ⟨pl, v', h1, q1, q2⟩
/-- what stands behind a pointer to cells that are read only -/
theorem inp_cells (hs : Sim (bs P) K w0 r H w) {t : TypeId} {s : String} {fs xs : Array Value} {cs : List Value} {j : Nat} {u : Value} (hi : inpOf fs xs = some (cs, j)) (h : VRel r (.func (.methodOf t s) fs xs) u) :
    ∃ b o cv, u = .pointer (some ⟨b, o + j, none⟩) ∧ LRel r cs cv ∧ (∀ k v, cv[k]? = some v → w.cell? ⟨b, o + k, none⟩ = some v) ∧ ∀ j', CRel r.z (inp cs j') (.pointer (some ⟨b, o + j', none⟩)) := by
  cases h with
  | scal _ hsc => simp [AK.scal] at hsc
  | cl _ hc =>
    cases hc with
    | scal _ hsc => simp [AK.scal] at hsc
    | inl hv => simp [inl] at hv
    | @inp _ b o j2 cs2 g hv hz h =>
      have := inp_inj hv
      rw [hi] at this
      cases this
      refine ⟨b, o, (List.range cs.length).map g, rfl, ⟨by simp, fun k x y hx hy => ?_⟩, fun k v hk => ?_, fun j' => .inp rfl hz h⟩
      · have hk : k < cs.length := (List.getElem?_eq_some_iff.1 hx).1
        rw [List.getElem?_map, List.getElem?_range hk] at hy
        cases hy
        exact VRel.ofCl (h k x hx)
      · have hk' : k < cs.length := by
          have := (List.getElem?_eq_some_iff.1 hk).1
          simpa using this
        rw [List.getElem?_map, List.getElem?_range hk'] at hk
        cases hk
        exact (hs.froz _ _ _ (hz k _ (List.getElem?_eq_getElem hk')).2).2
/-- what a slice that is read only holds -/
structure InlD (z : Fz) (k c : Nat) (es : List (List Value)) (u : Value) (b off : Nat) (a : Option Addr) (c' : Nat) (g : Nat → Nat → Value) : Prop where
  eq : u = .slice a es.length c'
  len : ∀ (i : Nat) (cs : List Value), es[i]? = some cs → cs.length = k
  cell : ∀ (i j : Nat) (cs : List Value) (x : Value), es[i]? = some cs → cs[j]? = some x → x.oneCell' = true ∧ z b (off + i * k + j) = some (g i j)
  rel : ∀ (i j : Nat) (cs : List Value) (x : Value), es[i]? = some cs → cs[j]? = some x → CRel z x (g i j)
  base : a = some ⟨b, off, none⟩ ∨ (a = none ∧ es = [] ∧ c' = 0)
  cap : es.length ≤ c'
  tight : c = 0 → c' = es.length
theorem inl_data {s : String} {fs xs : Array Value} {z c : Nat} {u : Value} (hi : inlZ xs = some (z, c)) (h : VRel r (.func (.method s) fs xs) u) :
    ∃ b off a c' g, fs.size = (inlE fs).length ∧ InlD r.z z c (inlE fs) u b off a c' g := by
  cases h with
  | scal _ hsc => simp [AK.scal] at hsc
  | cl _ hc =>
    cases hc with
    | scal _ hsc => simp [AK.scal] at hsc
    | inp hv => simp [inp] at hv
    | @inl _ k c2 c' b off a es g hv hl hz h ha hn hc =>
      obtain ⟨h1, h2, h3⟩ := inl_inj hv
      rw [hi] at h2
      cases h2
      rw [h1]
      exact ⟨b, off, a, c', g, h3, rfl, hl, hz, h, ha, hn, hc⟩
theorem inl_any {s : String} {fs xs : Array Value} {u : Value} (h : VRel r (.func (.method s) fs xs) u) : ∃ z c, inlZ xs = some (z, c) := by
  cases h with
  | scal _ hsc => simp [AK.scal] at hsc
  | cl _ hc =>
    cases hc with
    | scal _ hsc => simp [AK.scal] at hsc
    | inp hv => simp [inp] at hv
    | inl hv => exact ⟨_, _, (inl_inj hv).2.1⟩
theorem InlD.mk' {z : Fz} {k c : Nat} {es : List (List Value)} {u : Value} {b off : Nat} {a : Option Addr} {c' : Nat} {g : Nat → Nat → Value} (h : InlD z k c es u b off a c' g) : CRel z (inl k c es) u := by
  rw [h.eq]; exact .inl rfl h.len h.cell h.rel h.base h.cap h.tight
/-- a part of it -/
theorem InlD.part {z : Fz} {k c : Nat} {es : List (List Value)} {u : Value} {b off : Nat} {a : Option Addr} {c' : Nat} {g : Nat → Nat → Value} (h : InlD z k c es u b off a c' g) {lo n c2 c3 : Nat} (hlo : lo + n ≤ es.length) (hn : n ≤ c3) (ht : c2 = 0 → c3 = n)
    {a3 : Option Addr} (ha : a3 = some ⟨b, off + lo * k, none⟩ ∨ (a3 = none ∧ n = 0 ∧ c3 = 0)) : CRel z (inl k c2 ((es.drop lo).take n)) (.slice a3 n c3) := by
  have hl : ((es.drop lo).take n).length = n := by rw [List.length_take, List.length_drop]; omega
  have key : ∀ (i : Nat) (cs : List Value), ((es.drop lo).take n)[i]? = some cs → es[lo + i]? = some cs := fun i cs hi => by
    rw [List.getElem?_take] at hi
    split at hi
    · rw [List.getElem?_drop] at hi; exact hi
    · cases hi
  have := CRel.inl (z := z) (v := inl k c2 ((es.drop lo).take n)) (k := k) (c := c2) (c' := c3) (b := b) (off := off + lo * k) (a := a3) (es := (es.drop lo).take n) (g := fun i j => g (lo + i) j) rfl
    (fun i cs hi => h.len _ _ (key i cs hi))
    (fun i j cs x hi hj => by
      have := h.cell _ j _ x (key i cs hi) hj
      rw [show off + lo * k + i * k + j = off + (lo + i) * k + j by rw [Nat.add_mul]; omega]; exact this)
    (fun i j cs x hi hj => h.rel _ j _ x (key i cs hi) hj)
    (by rcases ha with ha | ⟨h1, h2, h3⟩
        · exact .inl ha
        · refine .inr ⟨h1, ?_, h3⟩
          subst h2; exact List.take_zero)
    (by rw [hl]; exact hn) (by rw [hl]; exact ht)
  rw [hl] at this
  exact this
/-- a pointer to an element -/
theorem InlD.elem {z : Fz} {k c : Nat} {es : List (List Value)} {u : Value} {b off : Nat} {a : Option Addr} {c' : Nat} {g : Nat → Nat → Value} (h : InlD z k c es u b off a c' g) {i : Nat} {cs : List Value} (hi : es[i]? = some cs) :
    CRel z (inp cs 0) (.pointer (some ⟨b, off + i * k, none⟩)) :=
  .inp (j := 0) (o := off + i * k) rfl (fun q x hq => h.cell i q cs x hi hq) (fun q x hq => h.rel i q cs x hi hq)
theorem InlD.baseOf {z : Fz} {k c : Nat} {es : List (List Value)} {u : Value} {b off : Nat} {a : Option Addr} {c' : Nat} {g : Nat → Nat → Value} (h : InlD z k c es u b off a c' g) (hp : 0 < es.length) : a = some ⟨b, off, none⟩ := by
  rcases h.base with h | ⟨_, h, _⟩
  · exact h
  · rw [h] at hp; simp at hp
end
end Go.AK
