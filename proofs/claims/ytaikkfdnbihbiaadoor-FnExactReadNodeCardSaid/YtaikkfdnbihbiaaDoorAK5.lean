/- 'pop' is sound. -/
import Derived.Test.YtaikkfdnbihbiaaDoorAK4
import Derived.Lib.ConvBytes
import Derived.Laws.BytesString
import Derived.Laws.BytesArg
import Derived.IntWalk
namespace Go.AK
set_option linter.unusedVariables false
set_option linter.unusedSimpArgs false
open Go Go.RowKit

section
variable {P : Program} {K : Nat → Prop} {w0 w : World} {r : Ren} {H : AHeap} {e : Env} {a : Act}
theorem res_sound {s : Sem Value} {v : Value} (h : res P s = some v) (w : World) : s.run P w = .ok v w ∧ scalD v = true := by
  unfold res at h
  cases hp : pureRun P s with
  | none => rw [hp] at h; cases h
  | some u =>
    rw [hp] at h
    simp only [Option.bind_some] at h
    split at h
    · rename_i hc; cases h; exact ⟨pureRun_sound hp w, hc⟩
    · cases h
theorem makeSl_ok (hs : Sim (bs P) K w0 r H w) {t : Nat} {n n' c c' x : Value} {H' : AHeap} (h : makeSl P H t n c = some (x, H')) (hn : VRel r n n') (hc : VRel r c c') :
    ∃ r' x' w', (Instr.makeSlice t n' c').run P w = .ok x' w' ∧ r.le r' ∧ Sim (bs P) K w0 r' H' w' ∧ VRel r' x x' := by
  unfold makeSl at h
  split at h
  · rename_i el k1 m k2 q hk
    split at h
    · rename_i y hy
      split at h
      · rename_i hcond
        obtain ⟨h0, h1, h2, h2', h3, h4⟩ := hcond
        cases h
        have e1 := hn.of_scal rfl
        have e2 := hc.of_scal rfl
        subst e1; subst e2
        obtain ⟨d, i, hd, _, hk3⟩ := kind_of hk
        have hd := TK.slice_of hk3 ▸ hd
        obtain ⟨d2, i2, g1, g2, g3, g4, g5, g6, g7⟩ := Ty.of hy
        obtain ⟨gz, gs⟩ := g7 h4
        obtain ⟨m, rfl⟩ : ∃ m' : Nat, m = m' := ⟨m.toNat, by omega⟩
        obtain ⟨q, rfl⟩ : ∃ q' : Nat, q = q' := ⟨q.toNat, by omega⟩
        have w1 : IntKind.i64.wrap (m : Int) = m := IntWalk.i64_in _ (by omega)
        have w2 : IntKind.i64.wrap (q : Int) = q := IntWalk.i64_in _ (by omega)
        have hb2 : ¬ ((y.bytes : Int) * (q : Int) > 2 ^ 48) := by
          have : (q : Int) * (y.bytes : Int) = (y.bytes : Int) * (q : Int) := Int.mul_comm _ _
          omega
        have hzs : y.zero.cells.size = y.size := by rw [← gz]; simp
        let cells : Array Value := (Array.range (q * y.size)).map fun i => y.zero.cells[i % y.zero.cells.size]!
        have hcells : cells.size = q * y.size := by simp [cells]
        let pl : Pl := ⟨w.heap.size, 0, y.size, q * y.size⟩
        have hrun : (Instr.makeSlice t (.int k1 m) (.int k2 q)).run P w = .ok (.slice (some ⟨w.heap.size, 0, none⟩) m q) (w.alloc (.cells cells el)) := by
          have hm0 : ¬ ((m : Int) < 0) := by omega
          have hq0 : ¬ ((q : Int) < 0) := by omega
          have hmq : ¬ ((m : Int) > (q : Int)) := by omega
          have hmq2 : ¬ ((q : Int) < (m : Int)) := by omega
          have hb3 : ¬ (281474976710656 < (i2.bytes : Int) * (q : Int)) := by rw [← g5]; exact hb2
          simp only [Instr.makeSlice, Sem.run_bind, run_underlying hd, Result.andThen_ok, asInt, asIntOf, Sem.run_pure, run_typeInfo' g2, w1, w2]
          simp [hm0, hq0, hmq2, hb3, run_sizeOf' hy]
          by_cases hq : q = 0
          · subst hq
            simp [newRow, cells]
            congr 2
            apply Array.ext <;> simp
          · have hne : ¬ (q = 0 ∨ y.size = 0) := by omega
            simp [hne, run_zeroValue' hy, newRow, cells]
            intro h0
            exact absurd (Nat.mul_eq_zero.1 h0) hne
        refine ⟨r.add H.next pl, _, _, hrun, hs.le_add pl, ?_, ?_⟩
        · refine hs.push (pl := pl) ((Kept.refl _ _).alloc hs.big _) (fun k hk => AK.heap_old w _ k hk) (Nat.le_refl _) ?_
          refine ORel.newRow K _ (cells := cells) (t := el) (fz := (0, 0)) (heap_alloc_new w _) hs.big ?_ (Nat.le_of_eq hcells.symm) (fun o _ => by simp) (fun i cs hi => ?_) true
          · rw [List.length_replicate]; exact Nat.mul_le_mul_right _ (by omega)
          · have him : i < m := by
              have := (List.getElem?_eq_some_iff.1 hi).1
              simpa using this
            have hcs : cs = y.zero.cells.toList := by
              rw [List.getElem?_replicate, if_pos (by omega)] at hi
              cases hi; rfl
            subst hcs
            refine ⟨gz, fun j v hj => ?_⟩
            have hjz : j < y.size := by rw [← gz]; exact (List.getElem?_eq_some_iff.1 hj).1
            have hv : scal v = true := by
              rw [List.all_eq_true] at gs
              exact gs v (List.mem_of_getElem? hj)
            have hidx : i * y.size + j < q * y.size := by
              have : (i + 1) * y.size ≤ q * y.size := Nat.mul_le_mul_right _ (by omega)
              rw [Nat.add_mul, Nat.one_mul] at this; omega
            refine ⟨by cases v <;> simp [scal, Value.oneCell'] at hv ⊢, v, ?_, .scal v hv⟩
            have hmod : (i * y.size + j) % y.zero.cells.size = j := by
              rw [hzs, Nat.add_comm, Nat.add_mul_mod_self_right]; exact Nat.mod_eq_of_lt hjz
            have hlt : j < y.zero.cells.size := by omega
            simp only [cells]
            rw [Array.getElem?_map, Array.getElem?_range, if_pos hidx]
            simp only [Option.map_some, hmod]
            have : y.zero.cells.toList[j]? = y.zero.cells[j]? := by simp
            rw [this] at hj
            simp [hlt] at hj ⊢
            exact hj
        · have := VRel.sl (r := r.add H.next pl) (l := H.next) (i := 0) (n := m) (c := 1) (off := 0) (c' := q) (pl := pl) (add_same _ _ _) (by omega) (by omega) (fun _ => ⟨by simp [pl], by simp [pl]⟩)
          simpa [pl] using this
      · cases h
    · cases h
  · cases h
theorem bytesOf_aux : ∀ (es : List (List Value)) (l : List UInt8), es.mapM byteOf = some l → ∃ ns : List Int, es = ns.map (fun n => [Value.int .u8 n]) ∧ l = ns.map fun n => UInt8.ofNat n.toNat
  | [], l, hm => by simp at hm; subst hm; exact ⟨[], rfl, rfl⟩
  | x :: es, l, hm => by
    rw [List.mapM_cons] at hm
    cases hx : byteOf x with
    | none => rw [hx] at hm; cases hm
    | some b =>
      rw [hx] at hm
      cases hr : es.mapM byteOf with
      | none => rw [hr] at hm; cases hm
      | some l2 =>
        rw [hr] at hm
        have hm : l = b :: l2 := by
          have h2 : some (b :: l2) = some l := hm
          cases h2; rfl
        obtain ⟨ns, h1, h2⟩ := bytesOf_aux es l2 hr
        unfold byteOf at hx
        split at hx
        · rename_i n
          cases hx
          exact ⟨n :: ns, by rw [h1]; rfl, by rw [hm, h2]; rfl⟩
        · cases hx
theorem bytesOf_spec {es : List (List Value)} {s : ByteArray} (h : convA.bytesOf es = some s) : ∃ ns : List Int, es = ns.map (fun n => [Value.int .u8 n]) ∧ s = ⟨(ns.map fun n => UInt8.ofNat n.toNat).toArray⟩ := by
  unfold convA.bytesOf at h
  cases hm : es.mapM byteOf with
  | none => rw [hm] at h; cases h
  | some l =>
    rw [hm] at h
    simp only [Option.map_some, Option.some.injEq] at h
    obtain ⟨ns, h1, h2⟩ := bytesOf_aux es l hm
    exact ⟨ns, h1, by rw [← h, h2]⟩
theorem flat_bytes : ∀ ns : List Int, (ns.map (fun n => [Value.int .u8 n])).flatten = ns.map (Value.int .u8)
  | [] => rfl
  | n :: ns => by simp [flat_bytes ns]
theorem conv_ok (hs : Sim (bs P) K w0 r H w) {src dst : Nat} {v v' x : Value} {H' : AHeap} (h : convA P H src dst v = some (x, H')) (hv : VRel r v v') :
    ∃ r' x' w', (convert src dst v').run P w = .ok x' w' ∧ r.le r' ∧ Sim (bs P) K w0 r' H' w' ∧ VRel r' x x' := by
  unfold convA at h
  split at h
  · rename_i el s hk1 hk2
    split at h
    · rename_i hk3
      cases h
      have e1 := hv.of_scal rfl
      subst e1
      have hk3' : kind P el = some (.int .u8) := by
        cases hq : kind P el with
        | none => rw [hq] at hk3; simp at hk3
        | some k =>
          rw [hq] at hk3
          cases k with
          | int k => cases k <;> simp_all
          | _ => simp at hk3
      obtain ⟨d1, i1, a1, -, a3⟩ := kind_of hk1
      obtain ⟨d2, i2, b1, -, b3⟩ := kind_of hk2
      obtain ⟨d3, i3, c1, -, c3⟩ := kind_of hk3'
      have b1 := TK.slice_of b3 ▸ b1
      have c1 := TK.int_of c3 ▸ c1
      have hrun := Lib.run_convert_string_bytes (P := P) w src dst el s a1 b1 c1
      let cap := grownCap w s.size 0 el
      have hge : s.size ≤ cap := grownCap_ge w s.size 0 el
      let pl : Pl := ⟨w.heap.size, 0, 1, cap⟩
      have hsz : (Lib.bytesCells w el s).size = cap := by
        have : s.data.size = s.size := rfl
        simp only [Lib.bytesCells, Array.size_append, Array.size_map, Array.size_replicate, cap] at *
        omega
      refine ⟨r.add H.next pl, _, _, hrun, hs.le_add pl, ?_, ?_⟩
      · refine hs.push (pl := pl) ?_ (fun k hk => Lib.bytesWorld_at_old w el s k hk) (Nat.le_refl _) ?_
        · refine ⟨rfl, rfl, rfl, by rw [Lib.bytesWorld_size]; omega, fun k hk => Lib.bytesWorld_at_old w el s k (hs.lt hk)⟩
        · refine ORel.newRow K _ (Lib.bytesWorld_at_new w el s) hs.big (by rw [strElems_len]; omega) (Nat.le_of_eq hsz.symm) (fun o ho => by simp; omega) (fun i cs hi => ?_) true
          have hcs := strElems_all s cs (List.mem_of_getElem? hi)
          refine ⟨hcs, fun j v hj => ?_⟩
          have hj0 : j = 0 := by have := (List.getElem?_eq_some_iff.1 hj).1; omega
          subst hj0
          unfold strElems at hi
          rw [List.getElem?_map] at hi
          cases hb : s.data.toList[i]? with
          | none => rw [hb] at hi; cases hi
          | some b =>
            rw [hb] at hi; cases hi
            simp at hj; subst hj
            refine ⟨rfl, _, ?_, .scal _ rfl⟩
            have hil : i < s.data.size := by
              have := (List.getElem?_eq_some_iff.1 hb).1
              simpa using this
            simp only [Lib.bytesCells, Nat.mul_one, Nat.add_zero]
            rw [Array.getElem?_append_left (by simpa using hil), Array.getElem?_map]
            have : s.data[i]? = some b := by simpa using hb
            rw [this]; rfl
      · have := VRel.sl (r := r.add H.next pl) (l := H.next) (i := 0) (n := s.size) (c := 1) (off := 0) (c' := cap) (pl := pl) (add_same _ _ _) hge (by omega) (fun _ => ⟨by simp [pl], by simp [pl]⟩)
        simpa [pl] using this
    · cases h
  · rename_i v _ _ _ el hk1 hk2
    split at h
    · rename_i hk3
      have hk3' : kind P el = some (.int .u8) := by
        cases hq : kind P el with
        | none => rw [hq] at hk3; simp at hk3
        | some k =>
          rw [hq] at hk3
          cases k with
          | int k => cases k <;> simp_all
          | _ => simp at hk3
      obtain ⟨d1, i1, a1, -, a3⟩ := kind_of hk1
      obtain ⟨d2, i2, b1, -, b3⟩ := kind_of hk2
      obtain ⟨d3, i3, c1, -, c3⟩ := kind_of hk3'
      have a1 := TK.slice_of a3 ▸ a1
      have b1 := TK.string_of b3 ▸ b1
      have c1 := TK.int_of c3 ▸ c1
      cases he : elems H 1 v with
      | none => rw [he] at h; cases h
      | some es =>
        rw [he] at h
        simp only at h
        cases hb : convA.bytesOf es with
        | none => rw [hb] at h; cases h
        | some s =>
          rw [hb] at h
          cases h
          obtain ⟨ns, rfl, rfl⟩ := bytesOf_spec hb
          obtain ⟨cvs, q1, q2, q3, q4⟩ := elems_src hs (z := 1) (by omega) he hv
          rw [flat_bytes] at q1
          have hcv : cvs = ns.map (Value.int .u8) := by
            refine (List.ext_getElem? fun i => ?_)
            by_cases hi : i < ns.length
            · have hx : (ns.map (Value.int .u8))[i]? = some (.int .u8 ns[i]) := by simp [hi]
              obtain ⟨y, hy, hr⟩ := q1.get hx
              have := hr.of_scal rfl
              rw [hy, hx, this]
            · have h1 : (ns.map (Value.int .u8)).length ≤ i := by simp; omega
              have h2 : cvs.length ≤ i := by rw [← q1.1]; exact h1
              rw [List.getElem?_eq_none h1, List.getElem?_eq_none h2]
          refine ⟨r, _, w, ?_, Ren.le_refl _, hs, .scal (.string ⟨(ns.map fun n => UInt8.ofNat n.toNat).toArray⟩) rfl⟩
          rcases q4 with ⟨c, rfl, hnil⟩ | ⟨b, off, c, rfl, hc⟩
          · have : ns = [] := by simpa using hnil
            subst this
            rw [run_convert_bytes_string w src dst el none 0 c a1 c1 b1]
            rfl
          · rw [run_convert_bytes_string w src dst el _ _ c a1 c1 b1]
            have hload := run_loadCells_list (P := P) w ⟨b, off, none⟩ (ns.map (Value.int .u8)) (fun j u hj => by rw [cell_add]; exact hc j u (by rw [hcv]; exact hj))
            rw [List.length_map] at hload
            rw [List.length_map]
            rw [run_bytesToString w ⟨b, off, none⟩ ns.length c ns hload, foldl_push_bytes]
            simp [ByteArray.empty, ByteArray.emptyWithCapacity]
            rfl
    · cases h
  · rename_i v _ _ _ _ _
    cases hc : conv P src dst v with
    | none => simp [hc] at h
    | some u =>
      simp only [hc, Option.map_some, Option.some.injEq, Prod.mk.injEq] at h
      obtain ⟨rfl, rfl⟩ := h
      unfold conv at hc
      split at hc
      · rename_i hsc
        obtain ⟨h1, h2⟩ := res_sound hc w
        have e1 := hv.of_scalD hsc
        subst e1
        exact ⟨r, _, w, h1, Ren.le_refl _, hs, VRel.reflD h2⟩
      · cases hc
end
end Go.AK
