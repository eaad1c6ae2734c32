/- Soundness of the operations that write or make memory. -/
import Derived.Test.YtaikkfdnbihbiaaDoorAK2
namespace Go.AK
set_option linter.unusedVariables false
set_option linter.unusedSimpArgs false
open Go Go.RowKit

theorem idx_lt {z i i' j j' : Nat} (h : i < i') (hj : j < z) : i * z + j < i' * z + j' := by
  have : (i + 1) * z ≤ i' * z := Nat.mul_le_mul_right _ h
  rw [Nat.add_mul, Nat.one_mul] at this
  omega
theorem flatten_len {α : Type} {z : Nat} : ∀ (xs : List (List α)), (∀ x ∈ xs, x.length = z) → xs.flatten.length = xs.length * z
  | [], _ => by simp
  | x :: xs, h => by
    rw [List.flatten_cons, List.length_append, flatten_len xs (fun y hy => h y (by simp [hy])), h x (by simp), List.length_cons, Nat.add_mul]
    omega
theorem flatten_get {α : Type} {z : Nat} : ∀ (xs : List (List α)), (∀ x ∈ xs, x.length = z) → ∀ (i j : Nat) (x : List α), xs[i]? = some x → j < z → xs.flatten[i * z + j]? = x[j]?
  | [], _, i, j, x, h, _ => by simp at h
  | y :: xs, hl, 0, j, x, h, hj => by
    simp at h; subst h
    rw [List.flatten_cons, Nat.zero_mul, Nat.zero_add, List.getElem?_append_left (by rw [hl y (by simp)]; exact hj)]
  | y :: xs, hl, i + 1, j, x, h, hj => by
    have hy : y.length = z := hl y (by simp)
    rw [List.flatten_cons, List.getElem?_append_right (by rw [hy, Nat.add_mul]; omega), hy, show (i + 1) * z + j - z = i * z + j by rw [Nat.add_mul]; omega]
    exact flatten_get xs (fun x hx => hl x (by simp [hx])) i j x (by simpa using h) hj
theorem oneCells_mem {l : List Value} (h : oneCells l = true) {j : Nat} {v : Value} (hv : l[j]? = some v) : v.oneCell' = true := by
  simp only [oneCells, List.all_eq_true] at h
  exact h v (List.mem_of_getElem? hv)
section
variable {P : Program} {K : Nat → Prop} {w0 w : World} {r : Ren} {H : AHeap}
theorem LRel.one {xs ys : List Value} (h : LRel r xs ys) (h1 : oneCells xs = true) : ∀ v ∈ ys, v.oneCell' = true := by
  intro v hv
  obtain ⟨j, hj⟩ := List.getElem?_of_mem hv
  have hjl : j < xs.length := by rw [h.1]; exact (List.getElem?_eq_some_iff.1 hj).1
  have hx : xs[j]? = some xs[j] := List.getElem?_eq_getElem hjl
  exact (h.2 j xs[j] v hx hj).one (oneCells_mem h1 hx)
theorem Sim.store (hs : Sim (bs P) K w0 r H w) {l i j z : Nat} {es : List (List Value)} {cs xs ys : List Value} (ho : H.obj l = some (.row z es true)) (hcs : es[i]? = some cs)
    (hxy : LRel r xs ys) (hfit : j + xs.length ≤ cs.length) (h1 : oneCells xs = true) {pl : Pl} (hr : r l = some pl) :
    (storeCells ⟨pl.b, pl.base + i * pl.esz + j, none⟩ ys).run P w = .ok () (w.setCells pl.b (pl.base + i * pl.esz + j) ys) ∧
    Sim (bs P) K w0 r (H.set l (some (.row z (es.set i (cs.take j ++ xs ++ cs.drop (j + xs.length))) true))) (w.setCells pl.b (pl.base + i * pl.esz + j) ys) := by
  obtain ⟨pl2, hr2, hx⟩ := hs.obj l _ ho
  rw [hr] at hr2; cases hr2
  obtain ⟨hz, hlen, hlt, hcell, hel, hown⟩ := hx
  obtain ⟨hB, hfz⟩ := hown rfl
  subst hz
  obtain ⟨hcl, hcj⟩ := hel i cs hcs
  have hi : i < es.length := (List.getElem?_eq_some_iff.1 hcs).1
  have hyl : ys.length = xs.length := hxy.1.symm
  have hzone : i * pl.esz + pl.esz ≤ pl.cap := by
    have : (i + 1) * pl.esz ≤ es.length * pl.esz := Nat.mul_le_mul_right _ hi
    rw [Nat.add_mul, Nat.one_mul] at this; omega
  have hcell' : ∀ k, k < ys.length → (w.cell? ⟨pl.b, pl.base + i * pl.esz + j + k, none⟩).isSome = true := fun k hk => by
    have := hcell (i * pl.esz + j + k) (by omega)
    rw [show pl.base + i * pl.esz + j + k = pl.base + (i * pl.esz + j + k) by omega]; exact this
  have hfz' : ∀ k, k < ys.length → w.frozen? ⟨pl.b, pl.base + i * pl.esz + j + k, none⟩ = false := fun k hk => by
    have := hfz (i * pl.esz + j + k) (by omega)
    rw [show pl.base + i * pl.esz + j + k = pl.base + (i * pl.esz + j + k) by omega]; exact this
  have hrun := run_storeCells_cells (P := P) pl.b (pl.base + i * pl.esz + j) ys 0 w (fun k hk => by rw [Nat.add_zero]; exact hcell' k hk) (fun k hk => by rw [Nat.add_zero]; exact hfz' k hk) (hxy.one h1)
  rw [Nat.add_zero] at hrun
  have hout : ∀ q, q < i * pl.esz + j ∨ i * pl.esz + j + ys.length ≤ q → (w.setCells pl.b (pl.base + i * pl.esz + j) ys).cell? ⟨pl.b, pl.base + q, none⟩ = w.cell? ⟨pl.b, pl.base + q, none⟩ := fun q hq =>
    World.cell?_setCells_out pl.b _ _ _ _ (fun _ _ => by show pl.base + q < _ ∨ _ ≤ pl.base + q; omega)
  have hin : ∀ k (hk : k < ys.length), (w.setCells pl.b (pl.base + i * pl.esz + j) ys).cell? ⟨pl.b, pl.base + (i * pl.esz + j + k), none⟩ = some ys[k] := fun k hk => by
    have := World.cell?_setCells_in pl.b ys (pl.base + i * pl.esz + j) w hcell' k hk
    rw [show pl.base + i * pl.esz + j + k = pl.base + (i * pl.esz + j + k) by omega] at this
    exact this
  refine ⟨hrun, hs.update ho hr rfl (below_setCells hB _ _ _ _ (Kept.refl _ _)) (fun k hk => heap_setCells _ _ _ _ _ hk) ?_⟩
  refine ⟨rfl, by rw [List.length_set]; exact hlen, by rw [size_setCells]; exact hlt, fun o hoo => ?_, fun i2 cs2 h2 => ?_, fun _ => ⟨hB, fun o hoo => by rw [World.frozen?_setCells]; exact hfz o hoo⟩⟩
  · by_cases hio : i * pl.esz + j ≤ o ∧ o < i * pl.esz + j + ys.length
    · have := hin (o - (i * pl.esz + j)) (by omega)
      rw [show i * pl.esz + j + (o - (i * pl.esz + j)) = o by omega] at this
      rw [this]; rfl
    · rw [hout o (by omega)]
      exact hcell o hoo
  · rw [List.getElem?_set] at h2
    by_cases hi2 : i = i2
    · subst hi2
      rw [if_pos rfl, if_pos hi] at h2
      cases h2
      have e1 : (cs.take j).length = j := by rw [List.length_take]; omega
      refine ⟨by rw [List.length_append, List.length_append, e1, List.length_drop]; omega, fun k u hu => ?_⟩
      rw [show pl.base + i * pl.esz + k = pl.base + (i * pl.esz + k) by omega]
      by_cases h3 : k < j
      · rw [List.append_assoc, List.getElem?_append_left (by omega), List.getElem?_take, if_pos h3] at hu
        obtain ⟨q1, cv, q2, q3⟩ := hcj k u hu
        rw [show pl.base + i * pl.esz + k = pl.base + (i * pl.esz + k) by omega] at q2
        exact ⟨q1, cv, by rw [hout _ (by omega)]; exact q2, q3⟩
      · by_cases h4 : k < j + xs.length
        · rw [List.append_assoc, List.getElem?_append_right (by omega), List.getElem?_append_left (by omega), e1] at hu
          obtain ⟨u', hu', hrel⟩ := hxy.get hu
          refine ⟨oneCells_mem h1 hu, u', ?_, hrel⟩
          obtain ⟨hk', e2⟩ := List.getElem?_eq_some_iff.1 hu'
          have := hin (k - j) hk'
          rw [show i * pl.esz + j + (k - j) = i * pl.esz + k by omega, e2] at this
          exact this
        · have e3 : (cs.take j ++ xs).length = j + xs.length := by rw [List.length_append, e1]
          rw [List.getElem?_append_right (by omega), e3, List.getElem?_drop, show j + xs.length + (k - (j + xs.length)) = k by omega] at hu
          obtain ⟨q1, cv, q2, q3⟩ := hcj k u hu
          rw [show pl.base + i * pl.esz + k = pl.base + (i * pl.esz + k) by omega] at q2
          exact ⟨q1, cv, by rw [hout _ (by omega)]; exact q2, q3⟩
    · rw [if_neg hi2] at h2
      obtain ⟨q0, q⟩ := hel i2 cs2 h2
      refine ⟨q0, fun k u hu => ?_⟩
      obtain ⟨q1, cv, q2, q3⟩ := q k u hu
      refine ⟨q1, cv, ?_, q3⟩
      have hk : k < pl.esz := by rw [← q0]; exact (List.getElem?_eq_some_iff.1 hu).1
      rw [show pl.base + i2 * pl.esz + k = pl.base + (i2 * pl.esz + k) by omega] at q2 ⊢
      rw [hout _ ?_]
      · exact q2
      · rcases Nat.lt_or_gt_of_ne hi2 with hlt2 | hgt2
        · right
          have h5 : (i + 1) * pl.esz ≤ i2 * pl.esz := Nat.mul_le_mul_right _ hlt2
          rw [Nat.add_mul, Nat.one_mul] at h5
          omega
        · left
          have h5 : (i2 + 1) * pl.esz ≤ i * pl.esz := Nat.mul_le_mul_right _ hgt2
          rw [Nat.add_mul, Nat.one_mul] at h5
          omega
theorem store_ok (hs : Sim (bs P) K w0 r H w) {t : Nat} {v v' av av' : Value} {H' : AHeap} (h : storeA P H t v av = some H') (hav : VRel r av av') (hv : VRel r v v') :
    ∃ w', (Instr.storeAt t av' v').run P w = .ok () w' ∧ Sim (bs P) K w0 r H' w' := by
  unfold storeA at h
  split at h
  · rename_i l i j
    split at h
    · rename_i y z es hy ho
      split at h
      · rename_i cs hcs
        split at h
        · rename_i hc
          obtain ⟨hc1, hc2, hc3⟩ := hc
          cases h
          cases hav with
          | scal _ h => simp [scal] at h
          | cl hi _ => cases hi
          | ptr hr =>
            have hv2 := hv.cells
            have hst := hs.store (P := P) ho hcs hv2 (j := j) (by omega) hc3 hr
            rw [hc1] at hst
            refine ⟨_, ?_, hst.2⟩
            have hne : ¬ (v'.cells.size ≠ y.size) := by
              have : v'.cells.size = v'.cells.toList.length := by simp
              rw [this, ← hv2.1, hc1]; simp
            simp only [Instr.storeAt, Instr.sureAddr, Sem.run_bind, Sem.run_pure, Result.andThen_ok, storeVar, run_sizeOf' hy]
            rw [if_neg hne]
            exact hst.1
        · cases h
      · cases h
    · cases h
  · cases h
/-- a new row -/
theorem ORel.newRow (K : Nat → Prop) (r : Ren) {w' : World} {b z : Nat} {es : List (List Value)} {cells : Array Value} {t : TypeId} {fz : Nat × Nat} {cap : Nat} (hw : w'.heap[b]? = some (.cells cells t fz)) (hB : ¬ K b)
    (hcap : es.length * z ≤ cap) (hsz : cap ≤ cells.size) (hfz : ∀ o, o < cap → (decide (fz.1 ≤ o) && decide (o < fz.2)) = false)
    (hes : ∀ i cs, es[i]? = some cs → cs.length = z ∧ ∀ j v, cs[j]? = some v → v.oneCell' = true ∧ ∃ cv, cells[i * z + j]? = some cv ∧ VRel r v cv) (own : Bool) :
    ORel K r w' ⟨b, 0, z, cap⟩ (.row z es own) := by
  have hc : ∀ q, w'.cell? ⟨b, q, none⟩ = cells[q]? := fun q => cell_of_row w' b q cells t fz hw
  refine ⟨rfl, hcap, (Array.getElem?_eq_some_iff.1 hw).1, fun o ho => ?_, fun i cs hi => ⟨(hes i cs hi).1, fun j v hj => ?_⟩, fun _ => ⟨hB, fun o ho => ?_⟩⟩
  · have ho' : o < cells.size := Nat.lt_of_lt_of_le ho hsz
    rw [hc]; simp [ho']
  · obtain ⟨a, cv, b', c⟩ := (hes i cs hi).2 j v hj
    exact ⟨a, cv, by rw [hc]; simpa using b', c⟩
  · simp only [World.frozen?, hw, Nat.zero_add]
    exact hfz o ho
theorem box_ok (hs : Sim (bs P) K w0 r H w) {t : Nat} {v v' x : Value} {H' : AHeap} (h : boxA P H t v = some (x, H')) (hv : VRel r v v') :
    ∃ r' x' w', (newVar t v').run P w = .ok x' w' ∧ r.le r' ∧ Sim (bs P) K w0 r' H' w' ∧ VRel r' x (.pointer (some x')) := by
  unfold boxA at h
  split at h
  · rename_i y hy
    split at h
    · rename_i hc
      obtain ⟨hc1, hc2⟩ := hc
      cases h
      have hv2 := hv.cells
      let pl : Pl := ⟨w.heap.size, 0, y.size, y.size⟩
      refine ⟨r.add H.next pl, ⟨w.heap.size, 0, none⟩, w.alloc (.cells v'.cells t), rfl, hs.le_add pl, ?_, ?_⟩
      · refine hs.push (pl := pl) ((Kept.refl _ _).alloc hs.big _ ) (fun k hk => AK.heap_old w _ k hk) (Nat.le_refl _) ?_
        refine ORel.newRow K _ (cells := v'.cells) (t := t) (fz := (0, 0)) (heap_alloc_new w _) hs.big (by simp [pl]) ?_ (fun o _ => by simp) (fun i cs hi => ?_) true
        · have : v'.cells.size = v'.cells.toList.length := by simp
          rw [this, ← hv2.1, hc1]; exact Nat.le_refl _
        · have hi0 : i = 0 := by
            have := (List.getElem?_eq_some_iff.1 hi).1
            simpa using this
          subst hi0
          simp at hi; subst hi
          refine ⟨by simpa using hc1, fun j u hu => ⟨oneCells_mem hc2 (by simpa using hu), ?_⟩⟩
          obtain ⟨cv, h1, h2⟩ := hv2.get (by simpa using hu)
          exact ⟨cv, by simpa using h1, h2.mono (hs.le_add pl)⟩
      · have := VRel.ptr (r := r.add H.next pl) (l := H.next) (i := 0) (j := 0) (pl := pl) (add_same _ _ _)
        simpa [pl] using this
    · cases h
  · cases h
end
end Go.AK
