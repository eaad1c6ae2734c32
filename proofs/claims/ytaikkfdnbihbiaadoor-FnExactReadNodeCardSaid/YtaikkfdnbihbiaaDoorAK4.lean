/- Soundness of append, make, conversions of bytes. -/
import Derived.Test.YtaikkfdnbihbiaaDoorAK3
namespace Go.AK
set_option linter.unusedVariables false
set_option linter.unusedSimpArgs false
open Go Go.RowKit

section
variable {P : Program} {K : Nat → Prop} {w0 w : World} {r : Ren} {H : AHeap}
theorem ORel.drop {pl : Pl} {z k : Nat} {es : List (List Value)} {own : Bool} (h : ORel K r w pl (.row z es own)) (hk : k ≤ es.length) (own' : Bool) (ho : own' = true → own = true) :
    ORel K r w ⟨pl.b, pl.base + k * z, pl.esz, pl.cap - k * z⟩ (.row z (es.drop k) own') := by
  obtain ⟨hz, hlen, hlt, hcell, hel, hown⟩ := h
  subst hz
  have hkc : k * pl.esz ≤ es.length * pl.esz := Nat.mul_le_mul_right _ hk
  have he : (es.length - k) * pl.esz = es.length * pl.esz - k * pl.esz := Nat.sub_mul _ _ _
  refine ⟨rfl, by rw [List.length_drop, he]; show _ ≤ pl.cap - k * pl.esz; omega, hlt, fun o hoo => ?_, fun i cs hi => ?_, fun h => ⟨(hown (ho h)).1, fun o hoo => ?_⟩⟩
  · have := hcell (k * pl.esz + o) (by show k * pl.esz + o < pl.cap; have : o < pl.cap - k * pl.esz := hoo; omega)
    rw [show pl.base + (k * pl.esz + o) = pl.base + k * pl.esz + o by omega] at this
    exact this
  · rw [List.getElem?_drop] at hi
    obtain ⟨q0, q⟩ := hel (k + i) cs hi
    refine ⟨q0, fun j v hj => ?_⟩
    obtain ⟨q1, cv, q2, q3⟩ := q j v hj
    refine ⟨q1, cv, ?_, q3⟩
    rw [show pl.base + (k + i) * pl.esz + j = pl.base + k * pl.esz + i * pl.esz + j by rw [Nat.add_mul]; omega] at q2
    exact q2
  · have := (hown (ho h)).2 (k * pl.esz + o) (by have : o < pl.cap - k * pl.esz := hoo; omega)
    rw [show pl.base + (k * pl.esz + o) = pl.base + k * pl.esz + o by omega] at this
    exact this
theorem getElem_take_drop {α : Type} (l : List α) (o n i : Nat) (x : α) (h : ((l.drop o).take n)[i]? = some x) : i < n ∧ l[o + i]? = some x := by
  rw [List.getElem?_take] at h
  split at h
  · rename_i hi
    rw [List.getElem?_drop] at h
    exact ⟨hi, h⟩
  · cases h
/-- the cells of a slice that is read -/
theorem elems_src (hs : Sim (bs P) K w0 r H w) {z : Nat} (hz : 0 < z) {v v' : Value} {es : List (List Value)} (h : elems H z v = some es) (hv : VRel r v v') :
    ∃ cvs, LRel r es.flatten cvs ∧ (∀ x ∈ es, x.length = z) ∧ oneCells es.flatten = true ∧
      ((∃ c, v' = .slice none 0 c ∧ es = []) ∨ ∃ b off c, v' = .slice (some ⟨b, off, none⟩) es.length c ∧ ∀ j u, cvs[j]? = some u → w.cell? ⟨b, off + j, none⟩ = some u) := by
  unfold elems at h
  split at h
  · cases h
    cases hv with
    | cl hi _ => cases hi
    | scal _ hsc => exact ⟨[], LRel.nil, by simp, rfl, .inl ⟨_, rfl, rfl⟩⟩
  · rename_i l o n c
    split at h
    · rename_i z2 es0 own ho
      split at h
      · rename_i hc
        obtain ⟨rfl, hon⟩ := hc
        cases h
        cases hv with
        | scal _ hsc => simp [scal] at hsc
        | cl hi _ => cases hi
        | @sl _ _ _ _ off c' pl hr hn hcz hcc =>
          obtain ⟨pl2, hr2, hx⟩ := hs.obj l _ ho
          rw [hr] at hr2; cases hr2
          obtain ⟨hze, hlen, hlt, hcell, hel, hown⟩ := hx
          subst hze
          have hlen' : ((es0.drop o).take n).length = n := by rw [List.length_take, List.length_drop]; omega
          have hall : ∀ x ∈ (es0.drop o).take n, x.length = pl.esz := by
            intro x hx
            obtain ⟨i, hi⟩ := List.getElem?_of_mem hx
            obtain ⟨_, h2⟩ := getElem_take_drop _ _ _ _ _ hi
            exact (hel _ _ h2).1
          have hfl := flatten_len _ hall
          rw [hlen'] at hfl
          -- one cell
          have key : ∀ m u, ((es0.drop o).take n).flatten[m]? = some u → u.oneCell' = true ∧ ∃ cv, w.cell? ⟨pl.b, off + m, none⟩ = some cv ∧ VRel r u cv := by
            intro m u hu
            have hm : m < n * pl.esz := by rw [← hfl]; exact (List.getElem?_eq_some_iff.1 hu).1
            have hmz : m / pl.esz < n := (Nat.div_lt_iff_lt_mul hz).2 hm
            have hi : (m / pl.esz) < ((es0.drop o).take n).length := by rw [hlen']; exact hmz
            have hx := List.getElem?_eq_getElem hi
            have hdm : m / pl.esz * pl.esz + m % pl.esz = m := by rw [Nat.mul_comm]; exact Nat.div_add_mod m pl.esz
            have h3 := flatten_get _ hall (m / pl.esz) (m % pl.esz) _ hx (Nat.mod_lt _ hz)
            rw [hdm, hu] at h3
            obtain ⟨_, h2⟩ := getElem_take_drop _ _ _ _ _ hx
            obtain ⟨q1, cv, q2, q3⟩ := (hel _ _ h2).2 _ _ h3.symm
            have hoff : off = pl.base + o * pl.esz := (hcc (Nat.pos_iff_ne_zero.1 (Nat.lt_of_lt_of_le (Nat.lt_of_le_of_lt (Nat.zero_le _) hmz) hn))).1
            refine ⟨q1, cv, ?_, q3⟩
            rw [hoff, show pl.base + o * pl.esz + m = pl.base + (o + m / pl.esz) * pl.esz + m % pl.esz by rw [Nat.add_mul]; omega]
            exact q2
          let cvs : List Value := List.ofFn fun m : Fin (n * pl.esz) => (w.cell? ⟨pl.b, off + m, none⟩).getD Go.undef
          have hcv : ∀ m (hm : m < n * pl.esz), cvs[m]? = some ((w.cell? ⟨pl.b, off + m, none⟩).getD Go.undef) := fun m hm => by simp [cvs, hm]
          refine ⟨cvs, ⟨by rw [hfl]; simp [cvs], fun m x y hx hy => ?_⟩, hall, ?_, .inr ⟨pl.b, off, c', by rw [hlen'], fun j u hu => ?_⟩⟩
          · have hm : m < n * pl.esz := by rw [← hfl]; exact (List.getElem?_eq_some_iff.1 hx).1
            obtain ⟨_, cv, q2, q3⟩ := key m x hx
            rw [hcv m hm, q2] at hy
            cases hy; exact q3
          · simp only [oneCells, List.all_eq_true]
            intro x hx
            obtain ⟨m, hm⟩ := List.getElem?_of_mem hx
            exact (key m x hm).1
          · have hj : j < n * pl.esz := by
              have := (List.getElem?_eq_some_iff.1 hu).1
              simpa [cvs] using this
            have hlt2 : j < ((es0.drop o).take n).flatten.length := by rw [hfl]; exact hj
            obtain ⟨_, cv, q2, _⟩ := key j _ (List.getElem?_eq_getElem hlt2)
            rw [hcv j hj, q2] at hu
            cases hu; exact q2
      · cases h
    · cases h
  · rename_i nm fs xs
    split at h
    · rename_i hz0
      cases h
      obtain ⟨⟨z2, c⟩, hi, hz2⟩ : ∃ q, inlZ xs = some q ∧ q.1 = z := by
        cases hq : inlZ xs with
        | none => rw [hq] at hz0; simp at hz0
        | some q => rw [hq] at hz0; exact ⟨q, rfl, by simpa using hz0⟩
      simp only at hz2
      subst hz2
      obtain ⟨b, off, a, c', g, hsz, hd⟩ := inl_data hi hv
      generalize inlE fs = es at *
      have hall : ∀ x ∈ es, x.length = z2 := by
        intro x hx
        obtain ⟨i, hi⟩ := List.getElem?_of_mem hx
        exact hd.len i x hi
      have hfl := flatten_len _ hall
      have key : ∀ m u, es.flatten[m]? = some u → u.oneCell' = true ∧ r.z b (off + m) = some (g (m / z2) (m % z2)) ∧ CRel r.z u (g (m / z2) (m % z2)) := by
        intro m u hu
        have hm : m < es.length * z2 := by rw [← hfl]; exact (List.getElem?_eq_some_iff.1 hu).1
        have hmz : m / z2 < es.length := (Nat.div_lt_iff_lt_mul hz).2 hm
        have hx := List.getElem?_eq_getElem hmz
        have hdm : m / z2 * z2 + m % z2 = m := by rw [Nat.mul_comm]; exact Nat.div_add_mod m z2
        have h3 := flatten_get _ hall (m / z2) (m % z2) _ hx (Nat.mod_lt _ hz)
        rw [hdm, hu] at h3
        obtain ⟨q1, q2⟩ := hd.cell _ _ _ _ hx h3.symm
        rw [Nat.add_assoc, hdm] at q2
        exact ⟨q1, q2, hd.rel _ _ _ _ hx h3.symm⟩
      let cvs : List Value := List.ofFn fun m : Fin (es.length * z2) => g (m / z2) (m % z2)
      have hcv : ∀ m (hm : m < es.length * z2), cvs[m]? = some (g (m / z2) (m % z2)) := fun m hm => by simp [cvs, hm]
      refine ⟨cvs, ⟨by rw [hfl]; simp [cvs], fun m x y hx hy => ?_⟩, hall, ?_, ?_⟩
      · have hm : m < es.length * z2 := by rw [← hfl]; exact (List.getElem?_eq_some_iff.1 hx).1
        rw [hcv m hm] at hy
        cases hy; exact VRel.ofCl (key m x hx).2.2
      · simp only [oneCells, List.all_eq_true]
        intro x hx
        obtain ⟨m, hm⟩ := List.getElem?_of_mem hx
        exact (key m x hm).1
      · rcases hd.base with ha | ⟨ha, he, hc0⟩
        · refine .inr ⟨b, off, c', by rw [hd.eq, ha], fun j u hu => ?_⟩
          have hj : j < es.length * z2 := by
            have := (List.getElem?_eq_some_iff.1 hu).1
            simpa [cvs] using this
          have hlt2 : j < es.flatten.length := by rw [hfl]; exact hj
          rw [hcv j hj] at hu
          cases hu
          exact (hs.froz _ _ _ (key j _ (List.getElem?_eq_getElem hlt2)).2.1).2
        · refine .inl ⟨0, ?_, he⟩
          rw [hd.eq, ha, he, hc0]; rfl
    · cases h
  · cases h
theorem src_of (hs : Sim (bs P) K w0 r H w) {z : Nat} (hz : 0 < z) {v v' : Value} {es : List (List Value)} (h : elems H z v = some es) (hv : VRel r v v') {u e' : TypeId} (hu : P.underlying u = some (.slice e')) :
    ∃ cvs, LRel r es.flatten cvs ∧ (∀ x ∈ es, x.length = z) ∧ oneCells es.flatten = true ∧ Src P z u v' es.length cvs w := by
  obtain ⟨cvs, h1, h2, h3, h4⟩ := elems_src hs hz h hv
  refine ⟨cvs, h1, h2, h3, ?_⟩
  have hl : cvs.length = es.length * z := by rw [← h1.1, flatten_len _ h2]
  rcases h4 with ⟨c, rfl, rfl⟩ | ⟨b, off, c, rfl, hc⟩
  · have : cvs = [] := List.eq_nil_of_length_eq_zero (by rw [hl]; simp)
    subst this
    exact Src.ofNil w hu c
  · exact Src.ofSlice w hu ⟨b, off, none⟩ es.length c cvs hl (fun j u hj => by rw [cell_add]; exact hc j u hj) (h1.one h3)
theorem strElems_len (s : ByteArray) : (strElems s).length = s.size := by
  unfold strElems; rw [List.length_map, Array.length_toList]; rfl
theorem strElems_all (s : ByteArray) : ∀ x ∈ strElems s, x.length = 1 := by
  intro x hx
  obtain ⟨b, _, rfl⟩ := List.mem_map.1 hx
  rfl
theorem strElems_flat (s : ByteArray) : (strElems s).flatten = byteCells s := by
  unfold strElems byteCells
  induction s.data.toList with
  | nil => rfl
  | cons b l ih => simp [ih]
theorem byteCells_rel (s : ByteArray) : LRel r (byteCells s) (byteCells s) := by
  refine ⟨rfl, fun i x y hx hy => ?_⟩
  rw [hx] at hy; cases hy
  unfold byteCells at hx
  rw [List.getElem?_map] at hx
  cases hb : s.data.toList[i]? with
  | none => rw [hb] at hx; cases hx
  | some b => rw [hb] at hx; cases hx; exact .scal _ rfl
theorem byteCells_one (s : ByteArray) : oneCells (byteCells s) = true := by
  simp only [oneCells, List.all_eq_true]
  intro x hx
  obtain ⟨b, _, rfl⟩ := List.mem_map.1 hx
  rfl
/-- a row of a grown slice -/
theorem ORel.grown {b z need cap : Nat} {es : List (List Value)} {cs : List Value} {zero : Array Value} {t : TypeId} {w' : World} (hw : w'.heap[b]? = some (.cells (cs.toArray ++ Builtin.zeroCells zero (cap - need)) t))
    (hB : ¬ K b) (hl : ∀ x ∈ es, x.length = z) (hz : 0 < z) (hn : es.length = need) (hc : need ≤ cap) (hrel : LRel r es.flatten cs) (h1 : oneCells es.flatten = true) (hzero : zero.size = z) (own : Bool) :
    ORel K r w' ⟨b, 0, z, cap * z⟩ (.row z es own) := by
  have hlen : cs.length = need * z := by rw [← hrel.1, flatten_len _ hl, hn]
  have hsz : (cs.toArray ++ Builtin.zeroCells zero (cap - need)).size = cap * z := by
    rw [Array.size_append, size_zeroCells, hzero, List.size_toArray, hlen, ← Nat.add_mul]
    congr 1; omega
  refine ORel.newRow K r hw hB (by rw [hn]; exact Nat.mul_le_mul_right _ hc) (Nat.le_of_eq hsz.symm) (fun o _ => by simp) (fun i x hi => ?_) own
  have hxl : x.length = z := hl x (List.mem_of_getElem? hi)
  refine ⟨hxl, fun j v hj => ?_⟩
  have hjz : j < z := by rw [← hxl]; exact (List.getElem?_eq_some_iff.1 hj).1
  have hf := flatten_get _ hl i j x hi hjz
  rw [hj] at hf
  obtain ⟨cv, q1, q2⟩ := hrel.get hf
  refine ⟨oneCells_mem h1 hf, cv, ?_, q2⟩
  have hlt : i * z + j < cs.length := (List.getElem?_eq_some_iff.1 q1).1
  rw [Array.getElem?_append_left (by simpa using hlt)]
  simpa using q1
theorem below_grow (h : ¬ K w.heap.size) (o : Obj) : Kept K w (w.drew.alloc o) := ((Kept.refl K w).drew).alloc h o
/-- append makes a new row -/
theorem grow_ok (hs : Sim (bs P) K w0 r H w) {el : Nat} {y : Ty} (hy : tyOf P el = some y) (hzok : y.zok = true) (hz : 0 < y.size) {t u ty : TypeId} (ht : P.underlying t = some (.slice el))
    {base : Option Addr} {n c' : Nat} {olds news : List (List Value)} {co cn : List Value} {sv : Value}
    (hold : (Builtin.firstCells y.size n (.slice base n c')).run P w.drew = .ok co.toArray w.drew) (ho : LRel r olds.flatten co) (hol : ∀ x ∈ olds, x.length = y.size) (ho1 : oneCells olds.flatten = true) (hon : olds.length = n)
    (hsrc : Src P y.size u sv news.length cn w) (hn : LRel r news.flatten cn) (hnl : ∀ x ∈ news, x.length = y.size) (hn1 : oneCells news.flatten = true)
    (hg : c' < n + news.length) (hb : (n + news.length) * y.bytes ≤ 140737488355328) (hb2 : n + news.length ≤ 140737488355328) {H1 : AHeap} (hH : ∀ l o, H1.obj l = some o → H.obj l = some o) (hH2 : H1.next = H.next) :
    ∃ r' x' w', (Builtin.append_ #[t, u] ty #[.slice base n c', sv]).run P w = .ok x' w' ∧ r.le r' ∧ Sim (bs P) K w0 r' (H1.push (.row y.size (olds ++ news) true)) w' ∧
      VRel r' (.slice (some ⟨H.next, 0, none⟩) (n + news.length) 1) x' := by
  obtain ⟨d, i, h1, h2, h3, h4, h5, h6, h7⟩ := Ty.of hy
  have hzl := (h7 hzok).1
  rw [h4] at hold hsrc hz hzl hol hnl
  rw [h5] at hb
  have hfit : Builtin.nextslicecap (n + news.length) c' * i.bytes ≤ 281474976710656 := growslice_fits (by omega) hb
  have hrun := run_append_grow_src (P := P) w t u ty el i y.zero ht h2 h6 base n c' co hold sv news.length cn hsrc (by omega) (by omega) hfit
  have hge := grownCap_ge w (n + news.length) c' el
  let cap := grownCap w (n + news.length) c' el
  let pl : Pl := ⟨w.heap.size, 0, i.size, cap * i.size⟩
  have hs1 : Sim (bs P) K w0 r H1 w := hs.sub hH (by omega)
  have hs1n : H1.next = H.next := hH2
  refine ⟨r.add H1.next pl, _, _, hrun, hs1.le_add pl, ?_, ?_⟩
  · rw [h4]
    refine hs1.push (pl := pl) (below_grow hs.big _) (fun k hk => ?_) (Nat.le_refl _) ?_
    · rw [AK.heap_old w.drew _ k hk]; rfl
    · refine ORel.grown (need := n + news.length) (zero := y.zero.cells) (t := el) (cs := co ++ cn) (heap_alloc_new w.drew _) hs.big ?_ hz (by simp [hon]) hge ?_ ?_ (by rw [← hzl]; simp) true
      · intro x hx
        rcases List.mem_append.1 hx with hx | hx
        · exact hol x hx
        · exact hnl x hx
      · rw [List.flatten_append]
        exact ((ho.append hn)).mono (hs1.le_add pl)
      · rw [List.flatten_append]
        simp only [oneCells, List.all_append, Bool.and_eq_true]
        exact ⟨ho1, hn1⟩
  · have := VRel.sl (r := r.add H1.next pl) (l := H1.next) (i := 0) (n := n + news.length) (c := 1) (off := 0) (c' := cap) (pl := pl) (add_same _ _ _) hge (by omega) (fun _ => ⟨by simp [pl], by simp [pl]⟩)
    rw [hH2] at this ⊢
    simpa [pl] using this
theorem append_ok (hs : Sim (bs P) K w0 r H w) {el : Nat} {y : Ty} (hy : tyOf P el = some y) (hzok : y.zok = true) (hz : 0 < y.size) {t u ty : TypeId} (ht : P.underlying t = some (.slice el))
    {v v' x sv : Value} {news : List (List Value)} {cn : List Value} {H' : AHeap} (h : appendA H y.size y.bytes v news = some (x, H')) (hv : VRel r v v')
    (hsrc : Src P y.size u sv news.length cn w) (hn : LRel r news.flatten cn) (hnl : ∀ x ∈ news, x.length = y.size) (hn1 : oneCells news.flatten = true) :
    ∃ r' x' w', (Builtin.append_ #[t, u] ty #[v', sv]).run P w = .ok x' w' ∧ r.le r' ∧ Sim (bs P) K w0 r' H' w' ∧ VRel r' x x' := by
  have hy' := hy
  obtain ⟨d, i, h1, h2, h3, h4, h5, h6, h7⟩ := Ty.of hy'
  have hcnl : cn.length = news.length * y.size := by rw [← hn.1, flatten_len _ hnl]
  have hnone : ∀ c, (Builtin.firstCells y.size 0 (.slice none 0 c)).run P w.drew = .ok ([] : List Value).toArray w.drew := fun c => by simp [Builtin.firstCells]
  unfold appendA at h
  split at h
  · -- nil
    cases hv with
    | cl hi _ => cases hi
    | scal _ hsc =>
      split at h
      · rename_i hnil
        cases h
        subst hnil
        refine ⟨r, .slice none 0 0, w, ?_, Ren.le_refl _, hs, .scal _ rfl⟩
        rw [h4] at hsrc
        have hcn : cn = [] := List.eq_nil_of_length_eq_zero (by rw [hcnl]; simp)
        subst hcn
        rcases hsrc.kind with ⟨e', hk⟩ | hk <;> simp [Builtin.append_, run_underlying ht, run_underlying hk, sizeOf, typeInfo, h2, hsrc.len, hsrc.cells]
        all_goals (have := hsrc.cells; simp at this; simp [this])
      · split at h
        · rename_i hnil hb
          cases h
          have := grow_ok hs hy hzok hz ht (ty := ty) (base := none) (n := 0) (c' := 0) (olds := []) (co := []) (hnone 0) LRel.nil (by simp) rfl rfl hsrc hn hnl hn1
            (by have : news.length ≠ 0 := fun h => hnil (List.eq_nil_of_length_eq_zero h); omega) (by simpa using hb.1) (by simpa using hb.2) (H1 := H) (fun _ _ h => h) rfl
          simpa using this
        · cases h
  · rename_i l o n c
    split at h
    · rename_i z es own ho
      cases hv with
      | scal _ hsc => simp [scal] at hsc
      | cl hi _ => cases hi
      | @sl _ _ _ _ off c' pl hr hnc hcz hcc =>
        split at h
        · rename_i hnil
          cases h
          subst hnil
          refine ⟨r, _, w, ?_, Ren.le_refl _, hs, .sl hr hnc hcz hcc⟩
          have hcn : cn = [] := List.eq_nil_of_length_eq_zero (by rw [hcnl]; simp)
          subst hcn
          rw [h4] at hsrc
          have := run_append_room_src (P := P) w t u ty el i ht h2 pl.b off n c' sv 0 [] (by simpa using hsrc) (by simpa using hnc) (by simp) (by simp)
          simpa [World.setCells] using this
        · rename_i hnil
          have hpos : 0 < news.length := by
            rcases Nat.eq_zero_or_pos news.length with h0 | h0
            · exact absurd (List.eq_nil_of_length_eq_zero h0) hnil
            · exact h0
          split at h
          · rename_i hcond
            obtain ⟨rfl, hb, hb2⟩ := hcond
            split at h
            · -- length and capacity are zero
              rename_i h00
              obtain ⟨rfl, rfl⟩ := h00
              cases h
              have hc0 := hcz rfl
              subst hc0
              have := grow_ok hs hy hzok hz ht (ty := ty) (base := some ⟨pl.b, off, none⟩) (n := 0) (c' := 0) (olds := []) (co := []) (by simp [Builtin.firstCells, loadCells, loadCellsFrom]) LRel.nil (by simp) rfl rfl hsrc hn hnl hn1
                (by omega) hb hb2 (H1 := H) (fun _ _ h => h) rfl
              simpa using this
            · rename_i h00
              split at h
              · rename_i hoc
                obtain ⟨rfl, hon⟩ := hoc
                cases h
                obtain ⟨pl2, hr2, hx⟩ := hs.obj l _ ho
                rw [hr] at hr2; cases hr2
                have hx0 := hx
                obtain ⟨hze, hlen, hlt, hcell, hel, hown⟩ := hx
                obtain ⟨hB, hfz⟩ := hown rfl
                by_cases hroom : n + news.length ≤ c'
                · -- in place
                  obtain ⟨hoff, hcap⟩ := hcc (by omega)
                  have hle1 : (o + n + news.length) * pl.esz ≤ (o + c') * pl.esz := Nat.mul_le_mul_right _ (by omega)
                  rw [Nat.add_mul] at hle1
                  have honz : (o + n) * pl.esz = o * pl.esz + n * pl.esz := Nat.add_mul _ _ _
                  have hpos2 : ∀ j, j < cn.length → (w.cell? ⟨pl.b, off + n * i.size + j, none⟩).isSome = true := fun j hj => by
                    rw [hcnl, hze] at hj
                    have := hcell ((o + n) * pl.esz + j) (by omega)
                    rw [hoff, ← h4, hze, show pl.base + o * pl.esz + n * pl.esz + j = pl.base + ((o + n) * pl.esz + j) by omega]
                    exact this
                  have hfz2 : ∀ j, j < cn.length → w.frozen? ⟨pl.b, off + n * i.size + j, none⟩ = false := fun j hj => by
                    rw [hcnl, hze] at hj
                    have := hfz ((o + n) * pl.esz + j) (by omega)
                    rw [hoff, ← h4, hze, show pl.base + o * pl.esz + n * pl.esz + j = pl.base + ((o + n) * pl.esz + j) by omega]
                    exact this
                  have hsrc' := hsrc
                  rw [h4] at hsrc'
                  have hrun := run_append_room_src (P := P) w t u ty el i ht h2 pl.b off n c' sv news.length cn hsrc' hroom hpos2 hfz2
                  let w1 := w.setCells pl.b (off + n * i.size) cn
                  have hstart : off + n * i.size = pl.base + (o + n) * pl.esz := by rw [hoff, ← h4, hze]; omega
                  -- the object, longer
                  have hx1 : ORel K r w1 pl (.row y.size (es ++ news) true) := by
                    refine ⟨hze, ?_, by simp only [w1]; rw [size_setCells]; exact hlt, fun q hq => ?_, fun k cs hk => ?_, fun _ => ⟨hB, fun q hq => by simp only [w1]; rw [World.frozen?_setCells]; exact hfz q hq⟩⟩
                    · rw [List.length_append, ← hon, hze, Nat.add_mul]; omega
                    · by_cases hin : (o + n) * pl.esz ≤ q ∧ q < (o + n) * pl.esz + cn.length
                      · have := World.cell?_setCells_in pl.b cn (off + n * i.size) w hpos2 (q - (o + n) * pl.esz) (by omega)
                        simp only [w1]
                        rw [hstart, show pl.base + (o + n) * pl.esz + (q - (o + n) * pl.esz) = pl.base + q by omega] at this
                        rw [hstart, this]; rfl
                      · simp only [w1]
                        rw [World.cell?_setCells_out pl.b _ _ _ _ (fun _ _ => by show pl.base + q < _ ∨ _ ≤ pl.base + q; omega)]
                        exact hcell q hq
                    · by_cases hke : k < es.length
                      · rw [List.getElem?_append_left hke] at hk
                        obtain ⟨q0, q⟩ := hel k cs hk
                        refine ⟨q0, fun j vv hj => ?_⟩
                        obtain ⟨q1, cv, q2, q3⟩ := q j vv hj
                        refine ⟨q1, cv, ?_, q3⟩
                        have hjz : j < y.size := by rw [← q0]; exact (List.getElem?_eq_some_iff.1 hj).1
                        have h5 : (k + 1) * y.size ≤ (o + n) * y.size := Nat.mul_le_mul_right _ (by omega)
                        rw [Nat.add_mul, Nat.one_mul] at h5
                        simp only [w1]
                        rw [World.cell?_setCells_out pl.b _ _ _ _ (fun _ _ => by left; show pl.base + k * y.size + j < off + n * i.size; rw [hstart, ← hze]; omega)]
                        exact q2
                      · rw [List.getElem?_append_right (by omega)] at hk
                        have hkl : cs.length = y.size := hnl cs (List.mem_of_getElem? hk)
                        refine ⟨hkl, fun j vv hj => ?_⟩
                        have hjz : j < y.size := by rw [← hkl]; exact (List.getElem?_eq_some_iff.1 hj).1
                        have hf := flatten_get _ hnl (k - es.length) j cs hk hjz
                        rw [hj] at hf
                        obtain ⟨cv, q1, q2⟩ := hn.get hf
                        refine ⟨oneCells_mem hn1 hf, cv, ?_, q2⟩
                        obtain ⟨hjl, e2⟩ := List.getElem?_eq_some_iff.1 q1
                        have := World.cell?_setCells_in pl.b cn (off + n * i.size) w hpos2 ((k - es.length) * y.size + j) hjl
                        rw [e2, hstart, ← hze] at this
                        simp only [w1]
                        have h5 : k * y.size = (o + n) * y.size + (k - es.length) * y.size := by rw [← Nat.add_mul]; congr 1; omega
                        rw [hstart, ← hze, show pl.base + k * y.size + j = pl.base + (o + n) * y.size + ((k - es.length) * y.size + j) by omega]
                        exact this
                  have hs1 : Sim (bs P) K w0 r (H.set l (some (.row y.size (es ++ news) true))) w1 :=
                    hs.update ho hr rfl (below_setCells hB _ _ _ _ (Kept.refl _ _)) (fun k hk => heap_setCells _ _ _ _ _ hk) hx1
                  let pl' : Pl := ⟨pl.b, pl.base + o * y.size, pl.esz, pl.cap - o * y.size⟩
                  have hx2 : ORel K (r.add H.next pl') w1 pl' (.row y.size ((es ++ news).drop o) true) :=
                    (hx1.drop (k := o) (by rw [List.length_append]; omega) true (fun _ => rfl)).frame (hs.le_add pl') rfl
                  rw [List.drop_append_of_le_length (by omega)] at hx2
                  have hs2 := hs1.move (l := l) (pl' := pl') (o' := .row y.size (es.drop o ++ news) true) (by simp [AHeap.set]; rfl) hr rfl rfl hx2
                  refine ⟨r.add H.next pl', _, w1, hrun, hs.le_add pl', ?_, ?_⟩
                  · refine hs2.sub (fun k oo hk => ?_) (Nat.le_refl _)
                    have hk : (if k = H.next then some (AObj.row y.size (es.drop o ++ news) true) else if k = l then none else H.obj k) = some oo := hk
                    show (if k = H.next then some (AObj.row y.size (es.drop o ++ news) true) else if k = l then none else if k = l then some (.row y.size (es ++ news) true) else H.obj k) = some oo
                    split at hk
                    · rw [if_pos (by assumption)]; exact hk
                    · rw [if_neg (by assumption)]
                      split at hk
                      · cases hk
                      · rw [if_neg (by assumption), if_neg (by assumption)]; exact hk
                  · have := VRel.sl (r := r.add H.next pl') (l := H.next) (i := 0) (n := n + news.length) (c := 1) (off := off) (c' := c') (pl := pl') (add_same _ _ _) hroom (by omega)
                      (fun _ => ⟨by simp [pl', hoff, hze], by
                        have : (o + c') * pl.esz = o * pl.esz + c' * pl.esz := Nat.add_mul _ _ _
                        simp only [pl', Nat.zero_add]; rw [hze]; omega⟩)
                    exact this
                · -- a new row
                  have helems : elems H y.size (.slice (some ⟨l, o, none⟩) n c) = some (es.drop o) := by
                    simp only [elems, ho, true_and]
                    rw [if_pos (by omega), List.take_of_length_le (by rw [List.length_drop]; omega)]
                  obtain ⟨co, q1, q2, q3, q4⟩ := elems_src hs hz helems (VRel.sl (c := c) hr hnc hcz hcc)
                  have hold : (Builtin.firstCells y.size n (.slice (some ⟨pl.b, off, none⟩) n c')).run P w.drew = .ok co.toArray w.drew := by
                    rcases q4 with ⟨_, hne, _⟩ | ⟨b', off', c'', heq, hcc'⟩
                    · cases hne
                    · simp only [Value.slice.injEq, Option.some.injEq, Addr.mk.injEq] at heq
                      obtain ⟨⟨rfl, rfl, _⟩, _, rfl⟩ := heq
                      have hcl : co.length = n * y.size := by rw [← q1.1, flatten_len _ q2, List.length_drop]; congr 1; omega
                      exact run_firstCells_some w.drew y.size n ⟨pl.b, off, none⟩ n c' co hcl (fun j u hj => by rw [cell_add]; exact hcc' j u hj)
                  exact grow_ok hs hy hzok hz ht (ty := ty) (base := some ⟨pl.b, off, none⟩) (n := n) (c' := c') hold q1 q2 q3 (by rw [List.length_drop]; omega) hsrc hn hnl hn1 (by omega) hb hb2
                    (H1 := H.set l none) (fun k oo hk => by
                      have hk : (if k = l then none else H.obj k) = some oo := hk
                      split at hk
                      · cases hk
                      · exact hk) rfl
              · cases h
          · cases h
    · cases h
  · rename_i nm fs xs
    split at h
    · rename_i z c hi
      obtain ⟨b, off, a, c', g, hsz, hd⟩ := inl_data hi hv
      split at h
      · rename_i hnil
        cases h
        subst hnil
        have hcn : cn = [] := List.eq_nil_of_length_eq_zero (by rw [hcnl]; simp)
        subst hcn
        rw [h4] at hsrc
        refine ⟨r, v', w, ?_, Ren.le_refl _, hs, hv⟩
        rw [hd.eq]
        rcases hd.base with ha | ⟨ha, he, hc0⟩
        · have := run_append_room_src (P := P) w t u ty el i ht h2 b off (inlE fs).length c' sv 0 [] (by simpa using hsrc) (by simpa using hd.cap) (by simp) (by simp)
          rw [ha]
          simpa [World.setCells] using this
        · rw [ha, he, hc0]
          rcases hsrc.kind with ⟨e', hk⟩ | hk <;> simp [Builtin.append_, run_underlying ht, run_underlying hk, sizeOf, typeInfo, h2, hsrc.len, hsrc.cells]
          all_goals (have := hsrc.cells; simp at this; simp [this])
      · rename_i hnil
        have hpos : 0 < news.length := by
          rcases Nat.eq_zero_or_pos news.length with h0 | h0
          · exact absurd (List.eq_nil_of_length_eq_zero h0) hnil
          · exact h0
        split at h
        · rename_i hcond
          obtain ⟨rfl, rfl, hb1, hb2⟩ := hcond
          cases h
          have hct := hd.tight rfl
          have helems : elems H y.size (.func (.method nm) fs xs) = some (inlE fs) := by simp [elems, hi]
          obtain ⟨co, q1, q2, q3, q4⟩ := elems_src hs hz helems hv
          have hold : (Builtin.firstCells y.size (inlE fs).length (.slice a (inlE fs).length c')).run P w.drew = .ok co.toArray w.drew := by
            rcases q4 with ⟨c2, hv2, hne⟩ | ⟨b', off', c'', heq, hcc'⟩
            · rw [hd.eq] at hv2
              simp only [Value.slice.injEq] at hv2
              have hco : co = [] := List.eq_nil_of_length_eq_zero (by rw [← q1.1, hne]; rfl)
              rw [hco, hne, hv2.1]
              simp [Builtin.firstCells]
            · rw [hd.eq] at heq
              cases heq
              have hcl : co.length = (inlE fs).length * y.size := by rw [← q1.1, flatten_len _ q2]
              exact run_firstCells_some w.drew y.size (inlE fs).length ⟨b', off', none⟩ (inlE fs).length c' co hcl (fun j u hj => by rw [cell_add]; exact hcc' j u hj)
          rw [hsz] at hb1 hb2
          have := grow_ok hs hy hzok hz ht (ty := ty) (base := a) (n := (inlE fs).length) (c' := c') hold q1 q2 q3 rfl hsrc hn hnl hn1 (by omega) hb1 hb2 (H1 := H) (fun _ _ h => h) rfl
          rw [hd.eq, hsz]
          exact this
        · cases h
    · cases h
  · cases h
end
end Go.AK
