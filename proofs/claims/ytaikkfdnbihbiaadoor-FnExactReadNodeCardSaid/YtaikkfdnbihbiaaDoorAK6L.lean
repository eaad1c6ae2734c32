/- Literals: 'build' and 'buildSlice'. -/
import Derived.Test.YtaikkfdnbihbiaaDoorAK6
import Derived.Laws.Tables
import Derived.Great.FillDense
namespace Go.AK
set_option linter.unusedVariables false
set_option linter.unusedSimpArgs false
open Go Go.RowKit
section
variable {P : Program} {K : Nat → Prop} {w0 w : World} {r : Ren} {H : AHeap} {e : Env} {a : Act}
inductive PRel (r : Ren) : List (Nat × Value) → List (Nat × Value) → Prop where
  | nil : PRel r [] []
  | cons {i : Nat} {v v' : Value} {ps ps' : List (Nat × Value)} (h : VRel r v v') (t : PRel r ps ps') : PRel r ((i, v) :: ps) ((i, v') :: ps')
theorem partsA_rel (hs : Sim (bs P) K w0 r H w) (he : ERel r e a) : ∀ {l : List (Nat × Operand)} {ps : List (Nat × Value)}, partsA P e H l = some ps → PRel r ps (l.map fun x => (x.1, a.eval x.2))
  | [], ps, h => by cases h; exact .nil
  | (i, x) :: l, ps, h => by
    obtain ⟨v, h1, h2⟩ := bind_some (x := evo P e H x) h
    obtain ⟨qs, h3, h4⟩ := map_some h2
    subst h4
    exact .cons (evo_rel hs he h1) (partsA_rel hs he h3)
theorem fold_list (off : Nat) (v : Value) (cs : Array Value) (h : off + v.cells.size ≤ cs.size) :
    (v.cells.zipIdx.foldl (fun cs (x : Value × Nat) => cs.setIfInBounds (off + x.2) x.1) cs).toList = cs.toList.take off ++ v.cells.toList ++ cs.toList.drop (off + v.cells.size) := by
  have hf : v.cells.zipIdx.foldl (fun cs (x : Value × Nat) => cs.setIfInBounds (off + x.2) x.1) cs = (v.cells.toList.zipIdx 0).foldl (fun cs (x : Value × Nat) => cs.setIfInBounds (off + x.2) x.1) cs := by
    rw [← Array.foldl_toList, Array.toList_zipIdx]
  rw [hf]
  obtain ⟨g1, g2⟩ := Great.foldl_set off v.cells.toList 0 cs
  apply List.ext_getElem?
  intro k
  rw [Array.getElem?_toList, g2 k]
  simp only [Nat.add_zero, Array.length_toList]
  have hl : (cs.toList.take off).length = off := by rw [List.length_take, Array.length_toList]; omega
  by_cases h1 : k < off
  · rw [if_neg (by omega), List.append_assoc, List.getElem?_append_left (by omega), List.getElem?_take, if_pos h1, Array.getElem?_toList]
  · by_cases h2 : k < off + v.cells.size
    · rw [if_pos ⟨by omega, h2, by omega⟩, List.append_assoc, List.getElem?_append_right (by omega), hl, List.getElem?_append_left (by rw [Array.length_toList]; omega)]
    · rw [if_neg (by omega), List.getElem?_append_right (by rw [List.length_append, hl, Array.length_toList]; omega), List.length_append, hl, Array.length_toList, List.getElem?_drop, Array.getElem?_toList]
      congr 1; omega
theorem LRel.take {xs ys : List Value} (h : LRel r xs ys) (n : Nat) : LRel r (xs.take n) (ys.take n) := by
  refine ⟨by rw [List.length_take, List.length_take, h.1], fun i x y hx hy => ?_⟩
  rw [List.getElem?_take] at hx hy
  split at hx
  · rw [if_pos (by assumption)] at hy; exact h.2 i x y hx hy
  · cases hx
theorem LRel.drop {xs ys : List Value} (h : LRel r xs ys) (n : Nat) : LRel r (xs.drop n) (ys.drop n) := by
  refine ⟨by rw [List.length_drop, List.length_drop, h.1], fun i x y hx hy => ?_⟩
  rw [List.getElem?_drop] at hx hy
  exact h.2 _ x y hx hy
theorem fillA_ok {place : Nat → Option (Nat × Nat)} : ∀ {ps ps' : List (Nat × Value)} (_ : PRel r ps ps') {cs out : List Value} {cs' : Array Value}, LRel r cs cs'.toList → fillA place cs ps = some out →
    ∃ out', Instr.fill place cs' ps' = some out' ∧ LRel r out out'.toList
  | _, _, .nil, cs, out, cs', hc, h => by cases h; exact ⟨cs', rfl, hc⟩
  | _, _, .cons (i := i) (v := v) (v' := v') hv t, cs, out, cs', hc, h => by
    unfold fillA at h
    split at h
    · rename_i off size hp
      split at h
      · rename_i hcond
        have hvc := hv.cells
        have hsz : v'.cells.size = size := by rw [← hcond.1, hvc.1]; simp
        have hcl : cs'.size = cs.length := by rw [hc.1]; simp
        have hfl := fold_list off v' cs' (by omega)
        unfold Instr.fill
        rw [hp]
        simp only [hsz, ne_eq, not_true, false_or, decide_false, Bool.false_or]
        rw [if_neg (by simp; omega)]
        refine fillA_ok t (cs := cs.take off ++ v.cells.toList ++ cs.drop (off + size)) ?_ h
        rw [hfl, hsz]
        exact ((hc.take off).append hvc).append (hc.drop _)
      · cases h
    · cases h
theorem placesA_eq : ∀ {fs : List Field} {ps : List (Nat × Nat)}, placesA P (fs.map fun f => (f.offset, f.type, P.cellsOf f.type != 0)) = some ps → fs.mapM (fun f => (P.info? f.type).map fun i => (f.offset, i.size)) = some ps
  | [], ps, h => by cases h; rfl
  | f :: fs, ps, h => by
    simp only [List.map_cons, placesA] at h
    split at h
    · rename_i y qs h1 h2
      cases h
      obtain ⟨d, i, _, g2, _, g4, _⟩ := Ty.of h1
      rw [List.mapM_cons, placesA_eq h2, g2, g4]
      rfl
    · cases h
theorem LRel.reflS {l : List Value} (h : l.all scal = true) : LRel r l l := by
  refine ⟨rfl, fun i x y a b => ?_⟩
  rw [a] at b; cases b
  rw [List.all_eq_true] at h
  exact .scal _ (h x (List.mem_of_getElem? a))
theorem buildA_ok {t : Nat} {ps : List (Nat × Value)} {ps' : List (Nat × Value)} {v : Value} (h : buildA P t ps = some v) (hp : PRel r ps ps') : ∃ v', (Instr.build t ps'.toArray).run P w = .ok v' w ∧ VRel r v v' := by
  unfold buildA at h
  split at h
  · rename_i y hy
    split at h
    · rename_i hz
      obtain ⟨d, i, g1, g2, g3, g4, g5, g6, g7⟩ := Ty.of hy
      obtain ⟨z1, z2⟩ := g7 hz
      split at h
      · rename_i fs hk
        split at h
        · rename_i pl hpl
          obtain ⟨l, h1, h2⟩ := map_some h
          subst h2
          rw [g3] at hk
          obtain ⟨fa, rfl, rfl⟩ := TK.struct_of hk.symm
          have hp2 := placesA_eq hpl
          obtain ⟨out', q1, q2⟩ := fillA_ok hp (LRel.reflS (r := r) z2) h1
          have hfun : (fun i : Nat => pl.toArray[i]?) = fun i => pl[i]? := by funext i; simp
          refine ⟨.agg out', run_build w t ps'.toArray out' ?_, by simpa using VRel.aggL q2⟩
          unfold Program.built
          simp only [g2, g1, g6, hp2]
          simp only [hfun]
          exact q1
        · cases h
      · rename_i n el hk
        split at h
        · rename_i ye hye
          obtain ⟨l, h1, h2⟩ := map_some h
          subst h2
          rw [g3] at hk
          have hd := TK.array_of hk.symm
          subst hd
          obtain ⟨out', q1, q2⟩ := fillA_ok hp (LRel.reflS (r := r) z2) h1
          obtain ⟨de, ie, _, e2, _, e4, _⟩ := Ty.of hye
          refine ⟨.agg out', run_build w t ps'.toArray out' ?_, by simpa using VRel.aggL q2⟩
          unfold Program.built
          simp only [g2, g1, g6, e2, ← e4]
          exact q1
        · cases h
      · cases h
    · cases h
  · cases h
theorem denseA_ok {z : Nat} : ∀ {ps ps' : List (Nat × Value)} (_ : PRel r ps ps') {k : Nat} {es : List (List Value)}, denseA z k ps = some es →
    ∃ vs : List Value, ps' = (vs.zipIdx k).map (fun x => (x.2, x.1)) ∧ vs.length = es.length ∧ (∀ v ∈ vs, v.cells.size = z) ∧ ∀ (i : Nat) (cs : List Value), es[i]? = some cs → oneCells cs = true ∧ ∃ v, vs[i]? = some v ∧ LRel r cs v.cells.toList
  | _, _, .nil, k, es, h => by cases h; exact ⟨[], rfl, rfl, by simp, by simp⟩
  | _, _, .cons (i := i) (v := v) (v' := v') hv t, k, es, h => by
    unfold denseA at h
    split at h
    · rename_i hc
      obtain ⟨rfl, hc2, hc3⟩ := hc
      obtain ⟨qs, h3, h4⟩ := map_some h
      subst h4
      obtain ⟨vs, b1, b2, b3, b4⟩ := denseA_ok t h3
      have hvc := hv.cells
      refine ⟨v' :: vs, by rw [b1]; rfl, by simp [b2], ?_, ?_⟩
      · intro u hu
        rcases List.mem_cons.1 hu with rfl | hu
        · have := hvc.1; rw [hc2] at this; simpa using this.symm
        · exact b3 u hu
      · intro j cs hj
        cases j with
        | zero => simp at hj; subst hj; exact ⟨hc3, v', rfl, hvc⟩
        | succ j => simpa using b4 j cs (by simpa using hj)
    · cases h
theorem buildSlA_ok (hs : Sim (bs P) K w0 r H w) {t : Nat} {len : Nat} {ps ps' : List (Nat × Value)} {x : Value} {H' : AHeap} (h : buildSlA P H t len ps = some (x, H')) (hp : PRel r ps ps') :
    ∃ r' x' w', (Instr.buildSlice t len ps'.toArray).run P w = .ok x' w' ∧ r.le r' ∧ Sim (bs P) K w0 r' H' w' ∧ VRel r' x x' := by
  unfold buildSlA at h
  split at h
  · rename_i el hk
    split at h
    · rename_i y hy
      split at h
      · rename_i es hes
        split at h
        · rename_i hcond
          obtain ⟨c1, c2, c3, c4⟩ := hcond
          cases h
          obtain ⟨d, i, hd, _, hk3⟩ := kind_of hk
          have hd := TK.slice_of hk3 ▸ hd
          obtain ⟨d2, i2, g1, g2, g3, g4, g5, g6, g7⟩ := Ty.of hy
          obtain ⟨vs, b1, b2, b3, b4⟩ := denseA_ok hp hes
          have hrun : ∃ cells : Array Value, (Instr.buildSlice t len ps'.toArray).run P w = .ok (.slice (some ⟨w.heap.size, 0, none⟩) len len) (w.alloc (.cells cells el)) ∧ cells.size = len * y.size ∧
              ∀ k, k < len * y.size → cells[k]? = (vs[k / y.size]?).bind (fun v => v.cells[k % y.size]?) := by
            by_cases hl : len = 0
            · subst hl
              have hvs : vs = [] := List.eq_nil_of_length_eq_zero (by omega)
              subst hvs
              have hps : ps' = [] := by rw [b1]; rfl
              subst hps
              refine ⟨#[], ?_, by simp, fun k hk => by omega⟩
              simp [Instr.buildSlice, run_underlying hd, run_sizeOf' hy, newRow, Instr.fill]
              congr 2
              apply Array.ext <;> simp
            · have hm : 0 < len * y.size := Nat.mul_pos (by omega) c3
              obtain ⟨q, q1, q2, q3⟩ := Great.fill_dense (s := y.size) c3 vs 0 ((Array.range (len * y.size)).map (y.zero.cells[· % y.zero.cells.size]!)) b3 (by simp; rw [b2, c1]; exact Nat.le_refl _)
              refine ⟨q, ?_, by rw [q2]; simp, fun k hk => ?_⟩
              · have hsm : ¬ (len * y.size > 16777216) := by omega
                have hz0 : ¬ (len * y.size = 0) := by omega
                simp only [Instr.buildSlice, Sem.run_bind, run_underlying hd, Result.andThen_ok, run_sizeOf' hy, hsm, hz0, if_false, run_zeroValue' hy, Sem.run_pure]
                rw [← b1] at q1
                rw [q1]
                rfl
              · rw [q3 k, if_pos ⟨by omega, by rw [b2, c1, Nat.zero_add]; exact hk⟩, Nat.sub_zero]
          obtain ⟨cells, hrun, hcells, hget⟩ := hrun
          let pl : Pl := ⟨w.heap.size, 0, y.size, len * y.size⟩
          refine ⟨r.add H.next pl, _, _, hrun, hs.le_add pl, ?_, ?_⟩
          · refine hs.push (pl := pl) ((Kept.refl _ _).alloc hs.big _) (fun k hk => AK.heap_old w _ k hk) (Nat.le_refl _) ?_
            refine ORel.newRow K _ (cells := cells) (t := el) (fz := (0, 0)) (heap_alloc_new w _) hs.big (by rw [c1]; exact Nat.le_refl _) (Nat.le_of_eq hcells.symm) (fun o _ => by simp) (fun i cs hi => ?_) true
            obtain ⟨k1, v, k2, k3⟩ := b4 i cs hi
            have hi2 : i < len := by rw [← c1]; exact (List.getElem?_eq_some_iff.1 hi).1
            have hvz : v.cells.toList.length = y.size := by
              have := b3 v (List.mem_of_getElem? k2); simpa using this
            refine ⟨by rw [k3.1, hvz], fun j u hj => ⟨oneCells_mem k1 hj, ?_⟩⟩
            obtain ⟨cv, m1, m2⟩ := k3.get hj
            have hjz : j < y.size := by rw [← hvz]; exact (List.getElem?_eq_some_iff.1 m1).1
            have hidx : i * y.size + j < len * y.size := by
              have : (i + 1) * y.size ≤ len * y.size := Nat.mul_le_mul_right _ (by omega)
              rw [Nat.add_mul, Nat.one_mul] at this; omega
            refine ⟨cv, ?_, m2.mono (hs.le_add pl)⟩
            rw [hget _ hidx]
            have hd1 : (i * y.size + j) / y.size = i := by
              rw [Nat.mul_comm, Nat.mul_add_div c3, Nat.div_eq_of_lt hjz, Nat.add_zero]
            have hd2 : (i * y.size + j) % y.size = j := by rw [Nat.add_comm, Nat.add_mul_mod_self_right]; exact Nat.mod_eq_of_lt hjz
            rw [hd1, hd2, k2, Option.bind_some]
            simpa using m1
          · have := VRel.sl (r := r.add H.next pl) (l := H.next) (i := 0) (n := len) (c := 1) (off := 0) (c' := len) (pl := pl) (add_same _ _ _) (by omega) (by omega) (fun _ => ⟨by simp [pl], by simp [pl]⟩)
            simpa [pl] using this
        · cases h
      · cases h
    · cases h
  · cases h
theorem parts_list (a : Act) (parts : Array (Nat × Operand)) : (parts.map fun (i, x) => (i, a.eval x)) = (parts.toList.map fun x => (x.1, a.eval x.2)).toArray := by
  apply Array.ext'
  simp
end
end Go.AK
