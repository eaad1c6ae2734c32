/- 'pop' is sound: all operations. -/
import Derived.Test.YtaikkfdnbihbiaaDoorAK5
namespace Go.AK
set_option linter.unusedVariables false
set_option linter.unusedSimpArgs false
open Go Go.RowKit

section
variable {P : Program} {K : Nat → Prop} {w0 w : World} {r : Ren} {H : AHeap} {e : Env} {a : Act}
theorem bind_some {α β : Type} {x : Option α} {f : α → Option β} {b : β} (h : x.bind f = some b) : ∃ a, x = some a ∧ f a = some b := by
  cases x with
  | none => cases h
  | some a => exact ⟨a, rfl, h⟩
theorem map_some {α β : Type} {x : Option α} {f : α → β} {b : β} (h : x.map f = some b) : ∃ a, x = some a ∧ f a = b := by
  cases x with
  | none => cases h
  | some a => exact ⟨a, rfl, by simpa using h⟩
theorem esz_of (hs : Sim (bs P) K w0 r H w) {l z : Nat} {pl : Pl} (h : eszOf H l = some z) (hr : r l = some pl) : pl.esz = z := by
  unfold eszOf at h
  split at h
  · rename_i z2 es own ho
    cases h
    obtain ⟨pl2, hr2, hx⟩ := hs.obj l _ ho
    rw [hr] at hr2; cases hr2
    exact hx.1.symm
  · cases h
theorem elAddr_ok (hs : Sim (bs P) K w0 r H w) {v v' x : Value} {n : Int} {k : IntKind} {t el : TypeId} {y : Ty} (ht : P.underlying t = some (.slice el)) (hy : tyOf P el = some y)
    (h : elAddr H y.size v n = some x) (hv : VRel r v v') : ∃ x', (Instr.indexAt t v' (.int k n)).run P w = .ok x' w ∧ VRel r x x' := by
  unfold elAddr at h
  split at h
  · rename_i l o m c
    split at h
    · rename_i hc
      cases h
      cases hv with
      | scal _ hsc => simp [scal] at hsc
      | cl hi _ => cases hi
      | @sl _ _ _ _ off c' pl hr hn hz hcc =>
        have hez := esz_of hs hc.1 hr
        obtain ⟨hoff, _⟩ := hcc (by omega)
        refine ⟨_, ?_, VRel.ptr (i := o + n.toNat) (j := 0) hr⟩
        simp only [Instr.indexAt, asIntOf, Sem.run_bind, Sem.run_pure, Result.andThen_ok, run_underlying ht]
        simp [hc.2.1, hc.2.2, run_sizeOf' hy, Addr.add_lit]
        rw [hoff, ← hez, Nat.add_mul]; omega
    · cases h
  · rename_i nm fs xs
    split at h
    · rename_i hc
      obtain ⟨cs, h1, h2⟩ := map_some h
      subst h2
      obtain ⟨⟨z2, c⟩, hi, hz2⟩ : ∃ q, inlZ xs = some q ∧ q.1 = y.size := by
        cases hq : inlZ xs with
        | none => rw [hq] at hc; simp at hc
        | some q => rw [hq] at hc; exact ⟨q, rfl, by simpa using hc.1⟩
      simp only at hz2
      obtain ⟨b, off, a, c', g, hsz, hd⟩ := inl_data hi hv
      have hlt : n.toNat < (inlE fs).length := (List.getElem?_eq_some_iff.1 h1).1
      refine ⟨_, ?_, .cl (isInl_inp _ _) (hd.elem h1)⟩
      rw [hd.eq, hd.baseOf (by omega)]
      simp only [Instr.indexAt, asIntOf, Sem.run_bind, Sem.run_pure, Result.andThen_ok, run_underlying ht]
      have hn2 : n < ((inlE fs).length : Int) := by omega
      simp [hc.2.1, hn2, run_sizeOf' hy, Addr.add_lit, hz2]
    · cases h
  · cases h
theorem indexA_ok (hs : Sim (bs P) K w0 r H w) {v v' x : Value} {n : Int} {k : IntKind} {t : TypeId} (h : indexA P H t v n = some x) (hv : VRel r v v') :
    ∃ x', (Instr.indexAt t v' (.int k n)).run P w = .ok x' w ∧ VRel r x x' := by
  unfold indexA at h
  split at h
  · rename_i v _ _ el hk
    split at h
    · rename_i y hy
      obtain ⟨d, i, hd, _, hk3⟩ := kind_of hk
      exact elAddr_ok hs (TK.slice_of hk3 ▸ hd) hy h hv
    · cases h
  · rename_i len el l i j hk
    split at h
    · rename_i y hy
      split at h
      · rename_i hc
        cases h
        obtain ⟨d, i2, hd, _, hk3⟩ := kind_of hk
        have hd := TK.array_of hk3 ▸ hd
        cases hv with
        | scal _ hsc => simp [scal] at hsc
        | cl hi _ => cases hi
        | @ptr _ _ _ pl hr =>
          have h1 : n < (len : Int) := hc.2
          refine ⟨_, ?_, VRel.ptr (i := i) (j := j + n.toNat * y.size) hr⟩
          simp only [Instr.indexAt, asIntOf, Sem.run_bind, Sem.run_pure, Result.andThen_ok, run_underlying hd, Instr.sureAddr]
          simp [hc.1, h1, run_sizeOf' hy, Addr.add_lit]
          try omega
      · cases h
    · cases h
  · rename_i len el tt nm fs xs hk
    split at h
    · rename_i y cs j hy hi
      split at h
      · rename_i hc
        cases h
        obtain ⟨d, i2, hd, _, hk3⟩ := kind_of hk
        have hd := TK.array_of hk3 ▸ hd
        obtain ⟨b, o, cv, rfl, h2, h3, h4⟩ := inp_cells hs hi hv
        have h1 : n < (len : Int) := hc.2
        refine ⟨_, ?_, .cl (isInl_inp _ _) (h4 (j + n.toNat * y.size))⟩
        simp only [Instr.indexAt, asIntOf, Sem.run_bind, Sem.run_pure, Result.andThen_ok, run_underlying hd, Instr.sureAddr]
        simp [hc.1, h1, run_sizeOf' hy, Addr.add_lit]
        try omega
      · cases h
    · cases h
  · cases h
theorem fieldA_ok (hs : Sim (bs P) K w0 r H w) {v v' x : Value} {s : TypeId} {f : Nat} (h : fieldA P s f v = some x) (hv : VRel r v v') : ∃ x', (Instr.fieldAt s v' f).run P w = .ok x' w ∧ VRel r x x' := by
  unfold fieldA at h
  split at h
  · rename_i l i j
    split at h
    · rename_i fs hk
      split at h
      · rename_i off ft hf
        cases h
        obtain ⟨d, i2, hd, _, hk3⟩ := kind_of hk
        obtain ⟨arr, rfl, rfl⟩ := TK.struct_of hk3
        rw [List.getElem?_map] at hf
        cases ha : arr.toList[f]? with
        | none => rw [ha] at hf; cases hf
        | some fd =>
          rw [ha] at hf
          simp only [Option.map_some, Option.some.injEq, Prod.mk.injEq] at hf
          obtain ⟨h1, h2, h3⟩ := hf
          have ha' : arr[f]? = some fd := by simpa using ha
          cases hv with
          | scal _ hsc => simp [scal] at hsc
          | cl hi _ => cases hi
          | @ptr _ _ _ pl hr =>
            refine ⟨_, ?_, VRel.ptr (i := i) (j := j + off) hr⟩
            have hz : P.cellsOf fd.type ≠ 0 := by simpa using h3
            have hinfo : ∃ ii, P.info? fd.type = some ii ∧ ii.size ≠ 0 := by
              unfold Program.cellsOf at hz
              cases hi : P.info? fd.type with
              | none => rw [hi] at hz; simp at hz
              | some ii => rw [hi] at hz; exact ⟨ii, rfl, by simpa using hz⟩
            obtain ⟨ii, hi1, hi2⟩ := hinfo
            simp only [Instr.fieldAt, Sem.run_bind, run_underlying hd, Result.andThen_ok, ha', Instr.sureAddr, Sem.run_pure, fieldPlace]
            simp [sizeOf, typeInfo, hi1, hi2, Addr.add_lit, h1]
            try omega
      · cases h
    · cases h
  · rename_i tt nm us xs
    split at h
    · rename_i fs cs j hk hi
      split at h
      · rename_i off ft hf
        cases h
        obtain ⟨d, i2, hd, _, hk3⟩ := kind_of hk
        obtain ⟨arr, rfl, rfl⟩ := TK.struct_of hk3
        rw [List.getElem?_map] at hf
        cases ha : arr.toList[f]? with
        | none => rw [ha] at hf; cases hf
        | some fd =>
          rw [ha] at hf
          simp only [Option.map_some, Option.some.injEq, Prod.mk.injEq] at hf
          obtain ⟨h1, h2, h3⟩ := hf
          have ha' : arr[f]? = some fd := by simpa using ha
          obtain ⟨b, o, cv, rfl, _, _, h4⟩ := inp_cells hs hi hv
          refine ⟨_, ?_, .cl (isInl_inp _ _) (h4 (j + off))⟩
          have hz : P.cellsOf fd.type ≠ 0 := by simpa using h3
          have hinfo : ∃ ii, P.info? fd.type = some ii ∧ ii.size ≠ 0 := by
            unfold Program.cellsOf at hz
            cases hi : P.info? fd.type with
            | none => rw [hi] at hz; simp at hz
            | some ii => rw [hi] at hz; exact ⟨ii, rfl, by simpa using hz⟩
          obtain ⟨ii, hi1, hi2⟩ := hinfo
          simp only [Instr.fieldAt, Sem.run_bind, run_underlying hd, Result.andThen_ok, ha', Instr.sureAddr, Sem.run_pure, fieldPlace]
          simp [sizeOf, typeInfo, hi1, hi2, Addr.add_lit, h1]
          try omega
      · cases h
    · cases h
  · cases h
theorem cut_part {y : Ty} {t : TypeId} (hy : tyOf P t = some y) {xs ys : Array Value} (hs : xs.size = ys.size) (hr : ∀ (i : Nat) (x y : Value), xs[i]? = some x → ys[i]? = some y → VRel r x y) {off : Nat} {v : Value}
    (h : cut y.agg xs.toList off y.size = some v) : ∃ v', (part t ys off).run P w = .ok v' w ∧ VRel r v v' := by
  unfold cut at h
  split at h
  · rename_i hagg
    split at h
    · rename_i hf
      cases h
      refine ⟨.agg (ys.extract off (off + y.size)), ?_, .agg ?_ fun i u v hu hv => ?_⟩
      · simp [part, run_isAgg hy, hagg, run_sizeOf' hy]
      · have : xs.toList.length = ys.toList.length := by simpa using hs
        simp at hf ⊢; omega
      · simp only [List.getElem?_toArray, List.getElem?_take, List.getElem?_drop] at hu
        rw [Array.getElem?_extract] at hv
        split at hu
        · split at hv
          · exact hr _ _ _ (by simpa using hu) hv
          · cases hv
        · cases hu
    · cases h
  · rename_i hagg
    have hx : xs[off]? = some v := by simpa using h
    obtain ⟨hlt, _⟩ := Array.getElem?_eq_some_iff.1 hx
    have hlt2 : off < ys.size := by omega
    refine ⟨ys[off], ?_, hr off v _ hx (by simp [hlt2])⟩
    simp [part, run_isAgg hy, hagg, hlt2]
theorem fieldV_ok {v v' x : Value} {s : TypeId} {f : Nat} (h : fieldV P s f v = some x) (hv : VRel r v v') : ∃ x', (Instr.field s v' f).run P w = .ok x' w ∧ VRel r x x' := by
  unfold fieldV at h
  split at h
  · rename_i cs
    split at h
    · rename_i fs hk
      split at h
      · rename_i off ft nz hf
        split at h
        · rename_i y hy
          obtain ⟨d, i2, hd, _, hk3⟩ := kind_of hk
          obtain ⟨arr, rfl, rfl⟩ := TK.struct_of hk3
          rw [List.getElem?_map] at hf
          cases ha : arr.toList[f]? with
          | none => rw [ha] at hf; cases hf
          | some fd =>
            rw [ha] at hf
            simp only [Option.map_some, Option.some.injEq, Prod.mk.injEq] at hf
            obtain ⟨h1, h2, h3⟩ := hf
            have ha' : arr[f]? = some fd := by simpa using ha
            cases hv with
            | scal _ hsc => simp [scal] at hsc
            | cl hi _ => cases hi
            | agg hsz hr =>
              subst h1; subst h2
              obtain ⟨v', q1, q2⟩ := cut_part (P := P) (w := w) hy hsz hr h
              refine ⟨v', ?_, q2⟩
              simp only [Instr.field, Sem.run_bind, run_underlying hd, Result.andThen_ok, ha', asAgg, Sem.run_pure]
              exact q1
        · cases h
      · cases h
    · cases h
  · cases h
theorem scal_nil {n c : Nat} (h : scal (.slice none n c) = true) : n = 0 ∧ c = 0 := by
  cases n <;> cases c <;> first | exact ⟨rfl, rfl⟩ | simp [scal] at h
theorem slice_bounds {lo hi : Option Value} {l h : Option Int} {n c' : Nat} (hl : intOpt lo = some l) (hh : intOpt hi = some h) (hc1 : 0 ≤ l.getD 0) (hc2 : l.getD 0 ≤ h.getD n) (hc3 : h.getD n ≤ (n : Int)) (hnc : n ≤ c') :
    (Instr.sliceBounds true n c' lo hi none).run P w = .ok ((l.getD 0).toNat, (h.getD n).toNat, c') w := by
    have e1 : ∀ (vv : Option Value) (q : Option Int) (b : Nat) (cd : BoundsCode) (d : Nat), intOpt vv = some q → 0 ≤ q.getD d → q.getD d ≤ b →
        (match vv with | some u => Instr.sliceBound u b cd | none => pure d : Sem Nat).run P w = .ok (q.getD d).toNat w := by
      intro vv q b cd d hq h0 hb
      cases vv with
      | none => simp only [intOpt, Option.some.injEq] at hq; subst hq; simp
      | some u =>
        cases u <;> simp only [intOpt, Option.some.injEq, reduceCtorEq] at hq
        subst hq
        simp only [Option.getD_some] at h0 hb ⊢
        simp [Instr.sliceBound, asIntOf, h0, hb]
    have hhi := e1 hi h c' .sliceAcap n hh (by omega) (by omega)
    have hlo := e1 lo l ((h.getD n).toNat) .sliceB 0 hl (by simpa using hc1) (by have := hc2; simp only [Int.ofNat_zero] at *; omega)
    simp only [Instr.sliceBounds, Sem.run_bind, Sem.run_pure, Result.andThen_ok]
    cases hi with
    | none =>
      simp only [Sem.run_pure, Result.andThen_ok] at hhi ⊢
      have hhi' : n = (h.getD ↑n).toNat := by simpa using hhi
      cases lo with
      | none =>
        simp only [Sem.run_pure, Result.andThen_ok] at hlo ⊢
        have : 0 = (l.getD 0).toNat := by simpa using hlo
        simp [← this, ← hhi']
      | some u =>
        simp only at hlo
        rw [← hhi'] at hlo
        simp [hlo, ← hhi']
    | some u =>
      simp only at hhi
      cases lo with
      | none =>
        simp only [Sem.run_pure, Result.andThen_ok] at hlo ⊢
        have : 0 = (l.getD 0).toNat := by simpa using hlo
        simp [hhi, ← this]
      | some u2 =>
        simp only at hlo
        simp [hhi, hlo]
theorem sliceA_ok (hs : Sim (bs P) K w0 r H w) {v v' x : Value} {t el : TypeId} {y : Ty} (ht : P.underlying t = some (.slice el)) (hy : tyOf P el = some y) {lo hi : Option Value} {l h : Option Int}
    (hl : intOpt lo = some l) (hh : intOpt hi = some h) (hx : sliceA H y.size v l h = some x) (hv : VRel r v v') : ∃ x', (Instr.sliceAt t v' lo hi none).run P w = .ok x' w ∧ VRel r x x' := by
  unfold sliceA at hx
  split at hx
  · rename_i ad n c
    simp only at hx
    split at hx
    · rename_i hc
      -- the concrete slice
      have hconc : ∃ ad' c', v' = .slice ad' n c' ∧ n ≤ c' := by
        cases hv with
        | cl hi _ => cases hi
        | scal _ hsc =>
          cases ad with
          | none =>
            obtain ⟨rfl, rfl⟩ := scal_nil hsc
            exact ⟨none, 0, rfl, Nat.le_refl _⟩
          | some q => simp [scal] at hsc
        | sl hr hn hz hcc => exact ⟨_, _, rfl, hn⟩
      obtain ⟨ad', c', rfl, hnc⟩ := hconc
      have hbounds := slice_bounds (P := P) (w := w) hl hh hc.1 hc.2.1 hc.2.2 hnc
      have hsl : (Instr.sliceAt t (.slice ad' n c') lo hi none).run P w =
          .ok (.slice (if c' = (l.getD 0).toNat then ad' else ad'.map (·.add ((l.getD 0).toNat * y.size))) ((h.getD n).toNat - (l.getD 0).toNat) (c' - (l.getD 0).toNat)) w := by
        simp only [Instr.sliceAt, Sem.run_bind, run_underlying ht, Result.andThen_ok, Instr.slice, hbounds, run_sizeOf' hy, Sem.run_pure]
      refine ⟨_, hsl, ?_⟩
      have hsub : (h.getD n - l.getD 0).toNat = (h.getD n).toNat - (l.getD 0).toNat := by omega
      cases ad with
      | none =>
        simp only [Option.some.injEq] at hx
        subst hx
        cases hv with
        | cl hi _ => cases hi
        | scal _ hsc =>
          obtain ⟨rfl, rfl⟩ := scal_nil hsc
          have h1 : (l.getD 0).toNat = 0 := by have := hc.2.2; omega
          rw [h1]
          have h3 : (h.getD ((0 : Nat) : Int)).toNat = 0 := by have := hc.2.2; omega
          rw [h3]
          exact .scal _ rfl
      | some q =>
        obtain ⟨k, o, sp⟩ := q
        cases sp with
        | some _ => cases hx
        | none =>
          simp only at hx
          split at hx
          · rename_i hz
            cases hx
            cases hv with
            | scal _ hsc => simp [scal] at hsc
            | cl hi _ => cases hi
            | @sl _ _ _ _ off _ pl hr hn hzz hcc =>
              have hez := esz_of hs hz hr
              rw [hsub]
              by_cases he : c' = (l.getD 0).toNat
              · rw [if_pos he]
                refine .sl hr (by omega) (fun _ => by omega) (fun hne => by omega)
              · rw [if_neg he]
                simp only [Option.map_some, Addr.add_lit]
                refine .sl hr (by omega) (fun h0 => ?_) (fun hne => ?_)
                · split at h0
                  · rename_i hc0
                    have := hzz hc0; omega
                  · omega
                · obtain ⟨h1, h2⟩ := hcc (by omega)
                  refine ⟨by rw [h1, ← hez, Nat.add_mul]; omega, ?_⟩
                  have : o + (l.getD 0).toNat + (c' - (l.getD 0).toNat) = o + c' := by omega
                  rw [this]; exact h2
          · cases hx
    · cases hx
  · rename_i nm fs xs
    simp only at hx
    split at hx
    · rename_i hc
      cases hx
      obtain ⟨⟨z2, c⟩, hi', hz2⟩ : ∃ q, inlZ xs = some q ∧ q.1 = y.size := by
        cases hq : inlZ xs with
        | none => rw [hq] at hc; simp at hc
        | some q => rw [hq] at hc; exact ⟨q, rfl, by simpa using hc.1⟩
      simp only at hz2
      subst hz2
      obtain ⟨b, off, a, c', g, hsz, hd⟩ := inl_data hi' hv
      rw [hsz] at hc ⊢
      have hbounds := slice_bounds (P := P) (w := w) hl hh hc.2.1 hc.2.2.1 hc.2.2.2 hd.cap
      have hsl : (Instr.sliceAt t (.slice a (inlE fs).length c') lo hi none).run P w =
          .ok (.slice (if c' = (l.getD 0).toNat then a else a.map (·.add ((l.getD 0).toNat * y.size))) ((h.getD (inlE fs).length).toNat - (l.getD 0).toNat) (c' - (l.getD 0).toNat)) w := by
        simp only [Instr.sliceAt, Sem.run_bind, run_underlying ht, Result.andThen_ok, Instr.slice, hbounds, run_sizeOf' hy, Sem.run_pure]
      rw [hd.eq]
      refine ⟨_, hsl, .cl (isInl_inl _ _ _) ?_⟩
      rw [show (h.getD ((inlE fs).length : Int)).toNat - (l.getD 0).toNat = (h.getD ((inlE fs).length : Int) - l.getD 0).toNat by omega]
      have hcap := hd.cap
      by_cases he : c' = (l.getD 0).toNat
      · rw [if_pos he]
        have h0 : (h.getD ((inlE fs).length : Int) - l.getD 0).toNat = 0 := by omega
        rw [h0, List.take_zero]
        have := hd.part (lo := 0) (n := 0) (c2 := 1) (c3 := c' - (l.getD 0).toNat) (Nat.zero_le _) (Nat.zero_le _) (by simp) (a3 := a) (by
          rcases hd.base with hb | ⟨hb, _, hb2⟩
          · left; rw [hb, Nat.zero_mul, Nat.add_zero]
          · right; exact ⟨hb, rfl, by omega⟩)
        rw [List.take_zero] at this
        exact this
      · rw [if_neg he]
        have hb : a = some ⟨b, off, none⟩ := by
          rcases hd.base with hb | ⟨_, hb1, hb2⟩
          · exact hb
          · exfalso; omega
        rw [hb]
        simp only [Option.map_some, Addr.add_lit]
        exact hd.part (by omega) (by omega) (by simp) (.inl rfl)
    · cases hx
  · cases hx
theorem slice3_bounds {lo : Option Value} {hi mx : Value} {l h m : Option Int} {n c' : Nat} {hh mm : Int} (hl : intOpt lo = some l) (eh : intOpt (some hi) = some (some hh)) (em : intOpt (some mx) = some (some mm)) (hc1 : 0 ≤ l.getD 0) (hc2 : l.getD 0 ≤ hh) (hc3 : hh ≤ mm) (hc4 : mm ≤ (c' : Int)) :
    (Instr.sliceBounds true n c' lo (some hi) (some mx)).run P w = .ok ((l.getD 0).toNat, hh.toNat, mm.toNat) w := by
  have io : ∀ {u : Value} {q : Int}, intOpt (some u) = some (some q) → ∃ k, u = .int k q := fun {u q} h => by
    cases u <;> simp only [intOpt, Option.some.injEq, reduceCtorEq] at h
    subst h; exact ⟨_, rfl⟩
  obtain ⟨k1, rfl⟩ := io eh
  obtain ⟨k2, rfl⟩ := io em
  have e1 : ∀ (k : IntKind) (q : Int) (b : Nat) (cd : BoundsCode), 0 ≤ q → q ≤ b → (Instr.sliceBound (.int k q) b cd).run P w = .ok q.toNat w := fun k q b cd h0 hb => by
    simp [Instr.sliceBound, asIntOf, h0, hb]
  have hm := fun k cd => e1 k _ c' cd (show 0 ≤ mm by omega) hc4
  have hhh := fun k cd => e1 k _ mm.toNat cd (show 0 ≤ hh by omega) (by omega)
  simp only [Instr.sliceBounds, Sem.run_bind, if_true, hm, Result.andThen_ok, hhh]
  cases lo with
  | none =>
    simp only [intOpt, Option.some.injEq] at hl
    subst hl
    rfl
  | some u =>
    cases u <;> simp only [intOpt, Option.some.injEq, reduceCtorEq] at hl
    subst hl
    rename_i k3 q3
    have hll := fun k cd => e1 k q3 hh.toNat cd hc1 (by have h5 : q3 ≤ hh := hc2; omega)
    simp only [Option.isSome_some, if_true, Sem.run_bind, hll, Result.andThen_ok, Sem.run_pure, Option.getD_some]
theorem intOpt_some {v : Option Value} {k : Int} (h : intOpt v = some (some k)) : ∃ u, v = some u := by
  cases v with
  | none => simp [intOpt] at h
  | some u => exact ⟨u, rfl⟩
theorem slice3A_ok {v v' x : Value} {t el : TypeId} {y : Ty} (ht : P.underlying t = some (.slice el)) (hy : tyOf P el = some y) {lo hi mx : Option Value} {l h m : Option Int}
    (hl : intOpt lo = some l) (hh : intOpt hi = some h) (hm : intOpt mx = some m) (hx : slice3A H y.size v l h m = some x) (hv : VRel r v v') : ∃ x', (Instr.sliceAt t v' lo hi mx).run P w = .ok x' w ∧ VRel r x x' := by
  unfold slice3A at hx
  split at hx
  · rename_i nm fs xs
    simp only at hx
    split at hx
    · rename_i hq mq
      split at hx
      · rename_i hc
        cases hx
        obtain ⟨rfl, hc0, hc⟩ := hc
        obtain ⟨⟨z2, c⟩, hi', hz2⟩ : ∃ q, inlZ xs = some q ∧ q.1 = y.size := by
          cases hq : inlZ xs with
          | none => rw [hq] at hc0; simp at hc0
          | some q => rw [hq] at hc0; exact ⟨q, rfl, by simpa using hc0⟩
        simp only at hz2
        subst hz2
        obtain ⟨b, off, a, c', g, hsz, hd⟩ := inl_data hi' hv
        rw [hsz] at hc
        obtain ⟨uh, rfl⟩ := intOpt_some hh
        obtain ⟨um, rfl⟩ := intOpt_some hm
        have hcap := hd.cap
        have hb := slice3_bounds (P := P) (w := w) (n := (inlE fs).length) (c' := c') (h := none) (m := none) hl hh hm hc.1 hc.2.1 (Int.le_refl _) (by omega)
        rw [hd.eq]
        refine ⟨_, by simp only [Instr.sliceAt, Sem.run_bind, run_underlying ht, Result.andThen_ok, Instr.slice, hb, run_sizeOf' hy, Sem.run_pure]; rfl, .cl (isInl_inl _ _ _) ?_⟩
        rw [show hq.toNat - (l.getD 0).toNat = (hq - l.getD 0).toNat by omega]
        by_cases he : hq.toNat = (l.getD 0).toNat
        · rw [if_pos he]
          have h0 : (hq - l.getD 0).toNat = 0 := by omega
          rw [h0, List.take_zero]
          have := hd.part (lo := 0) (n := 0) (c2 := 0) (c3 := 0) (Nat.zero_le _) (Nat.zero_le _) (fun _ => rfl) (a3 := a) (by
            rcases hd.base with hb | ⟨hb, _, hb2⟩
            · left; rw [hb, Nat.zero_mul, Nat.add_zero]
            · right; exact ⟨hb, rfl, rfl⟩)
          rw [List.take_zero] at this
          exact this
        · rw [if_neg he]
          rw [hd.baseOf (by omega)]
          simp only [Option.map_some, Addr.add_lit]
          exact hd.part (by omega) (Nat.le_refl _) (fun _ => rfl) (.inl rfl)
      · cases hx
    · cases hx
  · have hv' : v' = .slice none 0 0 := hv.of_scal rfl
    subst hv'
    have done : ∀ (l : Option Int), intOpt lo = some l → l.getD 0 = 0 → intOpt hi = some (some 0) → intOpt mx = some (some 0) → ∃ x', (Instr.sliceAt t (.slice none 0 0) lo hi mx).run P w = .ok x' w ∧ VRel r (.slice none 0 0) x' := by
      intro l hl h0 hh hm
      obtain ⟨uh, rfl⟩ := intOpt_some hh
      obtain ⟨um, rfl⟩ := intOpt_some hm
      have hb := slice3_bounds (P := P) (w := w) (n := 0) (c' := 0) (h := none) (m := none) hl hh hm (by omega) (by omega) (Int.le_refl _) (by omega)
      refine ⟨_, by simp only [Instr.sliceAt, Sem.run_bind, run_underlying ht, Result.andThen_ok, Instr.slice, hb, run_sizeOf' hy, Sem.run_pure]; rfl, ?_⟩
      rw [h0]
      exact .scal _ rfl
    split at hx
    · cases hx; exact done none hl rfl hh hm
    · cases hx; exact done (some 0) hl rfl hh hm
    · cases hx
  · rename_i k o n0 c0
    split at hx
    · split at hx
      · rename_i hc
        cases hx
        cases hv with
        | cl hi _ => cases hi
        | scal _ hsc => simp [scal] at hsc
        | @sl _ _ _ _ off c' pl hr hn hz hcc =>
          obtain ⟨uh, rfl⟩ := intOpt_some hh
          obtain ⟨um, rfl⟩ := intOpt_some hm
          have h0 : l.getD 0 = 0 := by rcases hc.1 with h | h <;> rw [h] <;> rfl
          have hb := slice3_bounds (P := P) (w := w) (n := n0) (c' := c') (h := none) (m := none) hl hh hm (by omega) (by omega) (Int.le_refl _) (by omega)
          refine ⟨_, by simp only [Instr.sliceAt, Sem.run_bind, run_underlying ht, Result.andThen_ok, Instr.slice, hb, run_sizeOf' hy, Sem.run_pure]; rfl, ?_⟩
          rw [h0]
          exact .sl hr (Nat.le_refl _) (fun _ => rfl) (fun hne => absurd rfl hne)
      · cases hx
    · cases hx
  · cases hx
end
end Go.AK
