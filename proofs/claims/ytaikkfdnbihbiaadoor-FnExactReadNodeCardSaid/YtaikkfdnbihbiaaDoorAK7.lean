/- 'pop' is sound: put together. -/
import Derived.Test.YtaikkfdnbihbiaaDoorAK6
import Derived.Test.YtaikkfdnbihbiaaDoorAK6L
namespace Go.AK
set_option linter.unusedVariables false
set_option linter.unusedSimpArgs false
open Go Go.RowKit

section
variable {P : Program} {K : Nat → Prop} {w0 w : World} {r : Ren} {H : AHeap} {e : Env} {a : Act}
theorem evoOpt_rel (hs : Sim (bs P) K w0 r H w) (he : ERel r e a) {x : Option Operand} {v : Option Value} (h : evoOpt P e H x = some v) :
    (v = none ∧ x.map a.eval = none) ∨ ∃ u u', v = some u ∧ x.map a.eval = some u' ∧ VRel r u u' := by
  cases x with
  | none => simp only [evoOpt, Option.some.injEq] at h; subst h; exact .inl ⟨rfl, rfl⟩
  | some y =>
    simp only [evoOpt] at h
    obtain ⟨u, h1, h2⟩ := map_some h
    exact .inr ⟨u, a.eval y, h2.symm, rfl, evo_rel hs he h1⟩
theorem intOpt_rel {v v' : Option Value} {l : Option Int} (h : intOpt v = some l) (hv : (v = none ∧ v' = none) ∨ ∃ u u', v = some u ∧ v' = some u' ∧ VRel r u u') : intOpt v' = some l := by
  rcases hv with ⟨rfl, rfl⟩ | ⟨u, u', rfl, rfl, hr⟩
  · exact h
  · cases u <;> simp only [intOpt, reduceCtorEq] at h
    have := hr.of_scal rfl
    subst this
    exact h
theorem optScal_rel {v v' : Option Value} (h : optScal v = true) (hv : (v = none ∧ v' = none) ∨ ∃ u u', v = some u ∧ v' = some u' ∧ VRel r u u') : v' = v := by
  rcases hv with ⟨rfl, rfl⟩ | ⟨u, u', rfl, rfl, hr⟩
  · rfl
  · rw [hr.of_scalD h]
theorem len2 {α : Type} {xs : Array α} {x y : α} (h : xs.toList = [x, y]) : xs = #[x, y] := by rw [← Array.toArray_toList (xs := xs), h]
theorem len1 {α : Type} {xs : Array α} {x : α} (h : xs.toList = [x]) : xs = #[x] := by rw [← Array.toArray_toList (xs := xs), h]
theorem popB_sound (hs : Sim (bs P) K w0 r H w) (he : ERel r e a) {b : Builtin} {args : Array Operand} {ts : Array TypeId} {v : Value} {H' : AHeap} {dst : Option Tmp} {ty : TypeId} {pos : String} {after : Array Edge} {guard : Option (Nat × Bool)}
    (h : popB P b args.toList ts.toList e H = some (v, H')) : OpOk P K w0 r a ⟨dst, .call ⟨.builtin b, args, ts⟩, ty, pos, after, guard⟩ w v H' := by
  unfold popB at h
  split at h
  · rename_i x t ha ht
    have ha := len1 ha
    have ht := len1 ht
    subst ha; subst ht
    obtain ⟨u, h1, h2⟩ := bind_some (x := evo P e H x) h
    have r1 := evo_rel hs he h1
    split at h2
    · rename_i hk
      obtain ⟨d, i, hd, _, hk3⟩ := kind_of hk
      have hd := TK.string_of hk3 ▸ hd
      split at h2
      · rename_i s
        cases h2
        have e1 := r1.of_scal rfl
        refine OpOk.same hs (v' := .int .i64 s.size) ?_ (.scal _ rfl)
        simp [execOp, resolve, invoke, builtin, Builtin.len_, run_underlying hd, e1, goInt]
      · cases h2
    · rename_i el hk
      obtain ⟨d, i, hd, _, hk3⟩ := kind_of hk
      have hd := TK.slice_of hk3 ▸ hd
      obtain ⟨n, h3, h4⟩ := map_some h2
      cases h4
      unfold slLen at h3
      split at h3
      · rename_i ad m c
        cases h3
        have : ∃ ad' c', a.eval x = .slice ad' m c' := by
          generalize a.eval x = ux at r1
          cases r1 with
          | cl hi _ => cases hi
          | scal _ _ => exact ⟨_, _, rfl⟩
          | sl _ _ _ _ => exact ⟨_, _, rfl⟩
        obtain ⟨ad', c', e1⟩ := this
        refine OpOk.same hs (v' := .int .i64 m) ?_ (.scal _ rfl)
        simp [execOp, resolve, invoke, builtin, Builtin.len_, run_underlying hd, e1, goInt]
      · cases h3
        obtain ⟨z, c, hi⟩ := inl_any r1
        obtain ⟨b, off, a', c', g, hsz, hdd⟩ := inl_data hi r1
        have e1 := hdd.eq
        refine OpOk.same hs (v' := .int .i64 (inlE _).length) ?_ (by rw [hsz]; exact .scal _ rfl)
        simp [execOp, resolve, invoke, builtin, Builtin.len_, run_underlying hd, e1, goInt]
      · cases h3
    · cases h2
  · rename_i x y t u ha ht
    have ha := len2 ha
    have ht := len2 ht
    subst ha; subst ht
    obtain ⟨u1, h1, h2⟩ := bind_some (x := evo P e H x) h
    obtain ⟨u2, h3, h4⟩ := bind_some h2
    have r1 := evo_rel hs he h1
    have r2 := evo_rel hs he h3
    split at h4
    · rename_i el hk
      obtain ⟨d, i, hd, -, hk3⟩ := kind_of hk
      have hd := TK.slice_of hk3 ▸ hd
      split at h4
      · rename_i yy hy
        split at h4
        · rename_i el2 hk2
          obtain ⟨d2, i2, hd2, -, hk4⟩ := kind_of hk2
          have hd2 := TK.slice_of hk4 ▸ hd2
          obtain ⟨ns, h5, h6⟩ := bind_some h4
          split at h6
          · rename_i hc
            obtain ⟨cvs, q1, q2, q3, q4⟩ := src_of hs hc.1 h5 r2 hd2
            obtain ⟨r', x', w', p1, p2, p3, p4⟩ := append_ok hs hy hc.2 hc.1 hd (ty := ty) h6 r1 q4 q1 q2 q3
            refine ⟨r', _, w', .inl ?_, p2, p3, p4⟩
            simp [execOp, resolve, invoke, builtin, p1]
          · cases h6
        · rename_i hk2
          obtain ⟨d2, i2, hd2, -, hk4⟩ := kind_of hk2
          have hd2 := TK.string_of hk4 ▸ hd2
          split at h4
          · rename_i s
            split at h4
            · rename_i hc
              obtain ⟨hc1, hc2⟩ := hc
              have e2 := r2.of_scal rfl
              have hsrc : Src P yy.size u (.string s) (strElems s).length (byteCells s) w := by
                rw [hc1, strElems_len]; exact Src.ofString w hd2 s
              rw [← hc1] at h4
              obtain ⟨r', x', w', p1, p2, p3, p4⟩ := append_ok hs hy hc2 (by omega) hd (ty := ty) h4 r1 hsrc (by rw [strElems_flat]; exact byteCells_rel s) (by rw [hc1]; exact strElems_all s)
                (by rw [strElems_flat]; exact byteCells_one s)
              refine ⟨r', _, w', .inl ?_, p2, p3, p4⟩
              simp [execOp, resolve, invoke, builtin, e2, p1]
            · cases h4
          · cases h4
        · cases h4
      · cases h4
    · cases h4
  · rename_i x y ha
    have ha := len2 ha
    subst ha
    obtain ⟨u1, h1, h2⟩ := bind_some (x := evo P e H x) h
    obtain ⟨u2, h3, h4⟩ := bind_some h2
    have r1 := evo_rel hs he h1
    have r2 := evo_rel hs he h3
    split at h4
    · rename_i k m k' n
      split at h4
      · rename_i hkk
        subst hkk
        cases h4
        have e1 := r1.of_scal rfl
        have e2 := r2.of_scal rfl
        refine OpOk.same hs (v' := _) ?_ (.scal _ rfl)
        simp [execOp, resolve, invoke, builtin, e1, e2, Builtin.min_, Builtin.min2]
      · cases h4
    · cases h4
  · rename_i x y ha
    have ha := len2 ha
    subst ha
    obtain ⟨u1, h1, h2⟩ := bind_some (x := evo P e H x) h
    obtain ⟨u2, h3, h4⟩ := bind_some h2
    have r1 := evo_rel hs he h1
    have r2 := evo_rel hs he h3
    split at h4
    · rename_i k m k' n
      split at h4
      · rename_i hkk
        subst hkk
        cases h4
        have e1 := r1.of_scal rfl
        have e2 := r2.of_scal rfl
        refine OpOk.same hs (v' := _) ?_ (.scal _ rfl)
        simp [execOp, resolve, invoke, builtin, e1, e2, Builtin.max_, Builtin.max2]
      · cases h4
    · cases h4
  · cases h
theorem equal_step : ∃ d, ∀ t x y, Op.equal t x y = Op.equalIn (d + 1) t x y := ⟨9999, fun _ _ _ => rfl⟩
theorem eqF {t : TypeId} {a b : Value} (h : ∀ d, (Op.equalIn (d + 1) t a b).run P w = .ok false w) (h1 : binOp .eql t a b = (do pure (.bool (← Op.equal t a b)))) (h2 : binOp .neq t a b = (do pure (.bool (!(← Op.equal t a b))))) :
    (binOp .eql t a b).run P w = .ok (.bool false) w ∧ (binOp .neq t a b).run P w = .ok (.bool true) w := by
  obtain ⟨d, hd⟩ := equal_step
  rw [h1, h2]
  simp only [Sem.run_bind, hd, h, Result.andThen_ok, Sem.run_pure, Bool.not_false, and_self]
theorem equal_nil {t : TypeId} {a b a' b' : Value} (h : nilEq P t a b = true) (ha : VRel r a a') (hb : VRel r b b') : (∀ x y, eqGuard .eql t x y a' b' = pure () ∧ eqGuard .neq t x y a' b' = pure ()) ∧
    (binOp .eql t a' b').run P w = .ok (.bool false) w ∧ (binOp .neq t a' b').run P w = .ok (.bool true) w := by
  have sc : ∀ {n c : Nat} {u : Addr}, scal (.slice (some u) n c) = true → False := fun h => by simp [scal] at h
  have sp : ∀ {u : Addr}, scal (.pointer (some u)) = true → False := fun h => by simp [scal] at h
  have si : ∀ {u : TypeId} {v : Value}, scal (.iface u v) = true → False := fun h => by simp [scal] at h
  have sm : ∀ {u : Nat}, scal (.map (some u)) = true → False := fun h => by simp [scal] at h
  unfold nilEq at h
  split at h
  all_goals (first | (cases h; done) | skip)
  all_goals (split at h)
  all_goals (first | (cases h; done) | skip)
  all_goals (rename_i hu)
  all_goals (cases ha <;> cases hb)
  all_goals (first | (cases (‹isInl _ = true›); done) | skip)
  all_goals (first | (rename_i q; exact (si q).elim) | (rename_i q; exact (sp q).elim) | (rename_i q; exact (sc q).elim) | (rename_i q; exact (sm q).elim) | (rename_i q _; exact (si q).elim) | (rename_i q _; exact (sp q).elim) | (rename_i q _; exact (sc q).elim) | (rename_i q _; exact (sm q).elim) | skip)
  all_goals exact ⟨fun _ _ => ⟨rfl, rfl⟩, eqF (fun d => by unfold Op.equalIn; simp only [Sem.run_bind, run_underlying hu, Result.andThen_ok, Sem.run_pure, Option.isNone_some]) rfl rfl⟩
theorem OpOk.nilEq (hs : Sim (bs P) K w0 r H w) {op : BinOp} {t : TypeId} {x y : Operand} {yt : TypeId} {u u2 v : Value} {dst : Option Tmp} {ty : TypeId} {pos : String} {after : Array Edge} {guard : Option (Nat × Bool)} (hn : nilEq P t u u2 = true)
    (h5 : (match op with | .eql => some (Value.bool false) | .neq => some (Value.bool true) | _ => none) = some v) (r1 : VRel r u (a.eval x)) (r2 : VRel r u2 (a.eval y)) :
    OpOk P K w0 r a ⟨dst, .binOp op t x y yt, ty, pos, after, guard⟩ w v H := by
  obtain ⟨g1, g2, g3⟩ := equal_nil (P := P) (w := w) hn r1 r2
  split at h5
  · cases h5
    exact OpOk.same hs (v' := .bool false) (by simp only [execOp, (g1 x y).1, Sem.run_bind, Sem.run_pure, Result.andThen_ok, g2]) (.scal _ rfl)
  · cases h5
    exact OpOk.same hs (v' := .bool true) (by simp only [execOp, (g1 x y).2, Sem.run_bind, Sem.run_pure, Result.andThen_ok, g3]) (.scal _ rfl)
  · cases h5
theorem pop_sound (hs : Sim (bs P) K w0 r H w) (he : ERel r e a) {o : Oper} {v : Value} {H' : AHeap} (h : pop P o.op o.type e H = some (v, H')) : OpOk P K w0 r a o w v H' := by
  obtain ⟨dst, op, ty, pos, after, guard⟩ := o
  simp only at h
  cases op with
  | move x =>
    obtain ⟨u, h1, h2⟩ := map_some (x := evo P e H x) h
    cases h2
    exact OpOk.same hs rfl (evo_rel hs he h1)
  | assign x =>
    obtain ⟨u, h1, h2⟩ := map_some (x := evo P e H x) h
    cases h2
    exact OpOk.same hs rfl (evo_rel hs he h1)
  | pick c x y =>
    simp only [pop] at h
    split at h
    · rename_i t u1 u2 h1 h2 h3
      cases h
      have e1 := (evo_rel hs he h1).of_scal rfl
      have r2 := evo_rel hs he h2
      have r3 := evo_rel hs he h3
      refine OpOk.same hs (v' := if t = true then a.eval x else a.eval y) ?_ ?_
      · simp [execOp, e1, asBool]
      · split
        · exact r2
        · exact r3
    · cases h
  | load t x =>
    obtain ⟨u, h1, h2⟩ := bind_some (x := evo P e H x) h
    obtain ⟨u2, h3, h4⟩ := map_some h2
    cases h4
    have r1 := evo_rel hs he h1
    unfold loadA at h3
    split at h3
    · rename_i l i j
      split at h3
      · rename_i y cs hy hcs
        obtain ⟨pl, v', q1, q2, q3⟩ := loadVar_rel hs hy hcs h3
        generalize hx' : a.eval x = ux at r1
        cases r1 with
        | scal _ hsc => simp [scal] at hsc
        | cl hi _ => cases hi
        | ptr hr =>
          rw [q1] at hr; cases hr
          refine OpOk.same hs (v' := v') ?_ q3
          simp [execOp, hx', Instr.loadAt, Instr.sureAddr, q2]
      · cases h3
    · split at h3
      · rename_i y cs j hy hi
        obtain ⟨b, o', cv, hu, k2, k3, _⟩ := inp_cells hs hi r1
        obtain ⟨v', q1, q2⟩ := loadCells_rel (P := P) (w := w) hy k2 k3 h3
        refine OpOk.same hs (v' := v') ?_ q2
        simp [execOp, hu, Instr.loadAt, Instr.sureAddr, q1]
      · cases h3
    · cases h3
  | store t x y =>
    obtain ⟨u, h1, h2⟩ := bind_some (x := evo P e H x) h
    obtain ⟨u2, h3, h4⟩ := bind_some h2
    obtain ⟨H2, h5, h6⟩ := map_some h4
    cases h6
    obtain ⟨w', q1, q2⟩ := store_ok hs h5 (evo_rel hs he h1) (evo_rel hs he h3)
    refine ⟨r, Go.undef, w', .inr ⟨?_, rfl⟩, Ren.le_refl _, q2, VRel.undef⟩
    simp [execOp, q1]
  | alloc t =>
    obtain ⟨y, h1, h2⟩ := bind_some (x := tyOf P t) h
    split at h2
    · rename_i hz
      obtain ⟨d, i, g1, g2, g3, g4, g5, g6, g7⟩ := Ty.of h1
      obtain ⟨gz, gs⟩ := g7 hz
      have hzr : VRel r y.zero y.zero := by
        cases hzv : y.zero with
        | agg cs =>
          refine VRel.reflD ?_
          rw [hzv] at gs
          simp only [Value.cells, List.all_eq_true] at gs
          simp only [scalD, Array.all_eq_true]
          intro k hk
          exact gs _ (by simp)
        | _ =>
          rw [hzv] at gs
          simp only [Value.cells, List.all_cons, List.all_nil, Bool.and_true] at gs
          exact .scal _ gs
      obtain ⟨r', x', w', q1, q2, q3, q4⟩ := box_ok hs h2 hzr
      refine ⟨r', _, w', .inl ?_, q2, q3, q4⟩
      simp [execOp, Instr.alloc, run_zeroValue' h1, q1]
    · cases h2
  | box t x =>
    obtain ⟨u, h1, h2⟩ := bind_some (x := evo P e H x) h
    obtain ⟨r', x', w', q1, q2, q3, q4⟩ := box_ok hs h2 (evo_rel hs he h1)
    refine ⟨r', _, w', .inl ?_, q2, q3, q4⟩
    simp [execOp, Instr.box, q1]
  | nilCheck x =>
    obtain ⟨u, h1, h2⟩ := bind_some (x := evo P e H x) h
    have r1 := evo_rel hs he h1
    split at h2
    · rename_i ad
      cases h2
      generalize hx' : a.eval x = ux at r1
      cases r1 with
      | scal _ hsc => simp [scal] at hsc
      | cl hi _ => cases hi
      | ptr hr => exact OpOk.same hs (by simp [execOp, hx']) (.ptr hr)
    · cases h2
      have r1' := r1
      generalize hx' : a.eval x = ux at r1
      cases r1 with
      | scal _ hsc => simp [scal] at hsc
      | cl hi hc =>
        cases hc with
        | scal _ hsc => simp [scal] at hsc
        | inl hv => simp [inl] at hv
        | inp hv hz h => exact OpOk.same hs (by simp [execOp, hx']) (.cl hi (.inp hv hz h))
    · cases h2
  | binOp op t x y yt =>
    obtain ⟨u, h1, h2⟩ := bind_some (x := evo P e H x) h
    obtain ⟨u2, h3, h4⟩ := bind_some h2
    obtain ⟨u3, h5, h6⟩ := map_some h4
    cases h6
    unfold bin at h5
    split at h5
    · rename_i hn
      exact OpOk.nilEq hs hn h5 (evo_rel hs he h1) (evo_rel hs he h3)
    split at h5
    · rename_i hn hc
      simp only [Bool.and_eq_true] at hc
      obtain ⟨q1, q2⟩ := res_sound h5 w
      have e1 := (evo_rel hs he h1).of_scalD hc.1
      have e2 := (evo_rel hs he h3).of_scalD hc.2
      refine OpOk.same hs (v' := v) ?_ (VRel.reflD q2)
      simp only [execOp, e1, e2, Sem.run_bind]
      simp only [Sem.run_bind] at q1
      rw [q1]; rfl
    · cases h5
  | unOp op t x =>
    obtain ⟨u, h1, h2⟩ := bind_some (x := evo P e H x) h
    obtain ⟨u3, h5, h6⟩ := map_some h2
    cases h6
    unfold un at h5
    split at h5
    · rename_i hc
      obtain ⟨q1, q2⟩ := res_sound h5 w
      have e1 := (evo_rel hs he h1).of_scalD hc
      refine OpOk.same hs (v' := v) ?_ (VRel.reflD q2)
      simp only [execOp, e1, Sem.run_bind, q1]; rfl
    · cases h5
  | convert src dst x =>
    obtain ⟨u, h1, h2⟩ := bind_some (x := evo P e H x) h
    obtain ⟨r', x', w', q1, q2, q3, q4⟩ := conv_ok hs h2 (evo_rel hs he h1)
    refine ⟨r', _, w', .inl ?_, q2, q3, q4⟩
    simp [execOp, q1]
  | fieldAddr s x f =>
    obtain ⟨u, h1, h2⟩ := bind_some (x := evo P e H x) h
    obtain ⟨u3, h5, h6⟩ := map_some h2
    cases h6
    obtain ⟨x', q1, q2⟩ := fieldA_ok (P := P) (w := w) hs h5 (evo_rel hs he h1)
    exact OpOk.same hs (by simp [execOp, q1]) q2
  | field s x f =>
    obtain ⟨u, h1, h2⟩ := bind_some (x := evo P e H x) h
    obtain ⟨u3, h5, h6⟩ := map_some h2
    cases h6
    obtain ⟨x', q1, q2⟩ := fieldV_ok (P := P) (w := w) h5 (evo_rel hs he h1)
    exact OpOk.same hs (by simp [execOp, q1]) q2
  | indexAddr t x i =>
    obtain ⟨u, h1, h2⟩ := bind_some (x := evo P e H x) h
    obtain ⟨u2, h3, h4⟩ := bind_some h2
    split at h4
    · rename_i k n
      obtain ⟨u3, h5, h6⟩ := map_some h4
      cases h6
      have e2 := (evo_rel hs he h3).of_scal rfl
      obtain ⟨x', q1, q2⟩ := indexA_ok (k := k) hs h5 (evo_rel hs he h1)
      exact OpOk.same hs (by simp [execOp, e2, q1]) q2
    · cases h4
  | index t x i =>
    obtain ⟨u, h1, h2⟩ := bind_some (x := evo P e H x) h
    obtain ⟨u2, h3, h4⟩ := bind_some h2
    obtain ⟨u3, h5, h6⟩ := map_some h4
    cases h6
    unfold idx at h5
    split at h5
    · rename_i hc
      simp only [Bool.and_eq_true] at hc
      obtain ⟨q1, q2⟩ := res_sound h5 w
      have e1 := (evo_rel hs he h1).of_scalD hc.1
      have e2 := (evo_rel hs he h3).of_scalD hc.2
      exact OpOk.same hs (by simp only [execOp, e1, e2, Sem.run_bind, q1]; rfl) (VRel.reflD q2)
    · cases h5
  | slice t x lo hi mx =>
    cases mx with
    | some m =>
      obtain ⟨u, h1, h2⟩ := bind_some (x := evo P e H x) h
      obtain ⟨l, h3, h4⟩ := bind_some h2
      obtain ⟨hh, h5, h6⟩ := bind_some h4
      obtain ⟨um, h7, h8⟩ := bind_some h6
      obtain ⟨u3, h9, h10⟩ := map_some h8
      cases h10
      have r1 := evo_rel hs he h1
      have rl := evoOpt_rel hs he h3
      have rh := evoOpt_rel hs he h5
      have rm := evo_rel hs he h7
      unfold sl3A at h9
      split at h9
      · rename_i el hk
        split at h9
        · rename_i li hi2 mi hl hh2 hm2
          split at h9
          · rename_i y hy
            obtain ⟨d, i, hd, _, hk3⟩ := kind_of hk
            obtain ⟨x', q1, q2⟩ := slice3A_ok (P := P) (w := w) (TK.slice_of hk3 ▸ hd) hy (intOpt_rel hl rl) (intOpt_rel hh2 rh) (intOpt_rel (v' := some (a.eval m)) hm2 (.inr ⟨um, _, rfl, rfl, rm⟩)) h9 r1
            exact OpOk.same hs (by simp only [execOp, Option.map_some, Sem.run_bind, q1]; rfl) q2
          · cases h9
        · cases h9
      · cases h9
    | none =>
      obtain ⟨u, h1, h2⟩ := bind_some (x := evo P e H x) h
      obtain ⟨l, h3, h4⟩ := bind_some h2
      obtain ⟨hh, h5, h6⟩ := bind_some h4
      obtain ⟨u3, h7, h8⟩ := map_some h6
      cases h8
      have r1 := evo_rel hs he h1
      have rl := evoOpt_rel hs he h3
      have rh := evoOpt_rel hs he h5
      unfold slA at h7
      split at h7
      · unfold strSl at h7
        split at h7
        · rename_i hc
          simp only [Bool.and_eq_true] at hc
          obtain ⟨q1, q2⟩ := res_sound h7 w
          have e1 := r1.of_scalD hc.1.1
          have e2 := optScal_rel hc.1.2 rl
          have e3 := optScal_rel hc.2 rh
          exact OpOk.same hs (by simp only [execOp, e1, e2, e3, Option.map_none, Sem.run_bind, q1]; rfl) (VRel.reflD q2)
        · cases h7
      · rename_i el hk
        split at h7
        · rename_i li hi2 hl hh2
          split at h7
          · rename_i y hy
            obtain ⟨d, i, hd, _, hk3⟩ := kind_of hk
            obtain ⟨x', q1, q2⟩ := sliceA_ok hs (TK.slice_of hk3 ▸ hd) hy (intOpt_rel hl rl) (intOpt_rel hh2 rh) h7 r1
            exact OpOk.same hs (by simp only [execOp, Option.map_none, Sem.run_bind, q1]; rfl) q2
          · cases h7
        · cases h7
      · cases h7
  | extract x i =>
    obtain ⟨u, h1, h2⟩ := bind_some (x := evo P e H x) h
    split at h2
    · rename_i vs
      obtain ⟨u3, h5, h6⟩ := map_some h2
      cases h6
      have r1 := evo_rel hs he h1
      generalize hx' : a.eval x = ux at r1
      cases r1 with
      | scal _ hsc => simp [scal] at hsc
      | cl hi _ => cases hi
      | @tuple _ ys hsz hr =>
        obtain ⟨hlt, _⟩ := Array.getElem?_eq_some_iff.1 h5
        have hlt2 : i < ys.size := by omega
        exact OpOk.same hs (v' := ys[i]) (by simp [execOp, hx', Instr.extract, hlt2]) (hr i _ _ h5 (by simp [hlt2]))
    · cases h2
  | build t parts =>
    obtain ⟨ps, h1, h2⟩ := bind_some (x := partsA P e H parts.toList) h
    obtain ⟨u3, h5, h6⟩ := map_some h2
    cases h6
    obtain ⟨x', q1, q2⟩ := buildA_ok (P := P) (w := w) h5 (partsA_rel hs he h1)
    exact OpOk.same hs (by simp only [execOp, parts_list, Sem.run_bind, q1]; rfl) q2
  | buildSlice t len parts =>
    obtain ⟨ps, h1, h2⟩ := bind_some (x := partsA P e H parts.toList) h
    obtain ⟨r', x', w', q1, q2, q3, q4⟩ := buildSlA_ok hs h2 (partsA_rel hs he h1)
    exact ⟨r', _, w', .inl (by simp only [execOp, parts_list, Sem.run_bind, q1]; rfl), q2, q3, q4⟩
  | makeSlice t n c =>
    obtain ⟨u, h1, h2⟩ := bind_some (x := evo P e H n) h
    obtain ⟨u2, h3, h4⟩ := bind_some h2
    obtain ⟨r', x', w', q1, q2, q3, q4⟩ := makeSl_ok hs h4 (evo_rel hs he h1) (evo_rel hs he h3)
    exact ⟨r', _, w', .inl (by simp [execOp, q1]), q2, q3, q4⟩
  | call c =>
    obtain ⟨callee, args, ts⟩ := c
    simp only [pop] at h
    split at h
    · exact popB_sound hs he (pos := pos) (after := after) (guard := guard) h
    · cases h
  | _ => simp [pop] at h
end
end Go.AK
