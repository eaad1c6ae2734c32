/- The library's contracts as calls. -/
import Derived.Test.YtaikkfdnbihbiaaDoorAKC
namespace Go.AK
set_option linter.unusedVariables false
set_option linter.unusedSimpArgs false
open Go Go.RowKit
section
variable {P : Program}
theorem LRel.scals {r : Ren} : ∀ {args : List Value} {vs : List Value}, args.all scal = true → LRel r args vs → vs = args
  | [], vs, _, h => List.eq_nil_of_length_eq_zero h.1.symm
  | a :: args, [], _, h => by have := h.1; simp at this
  | a :: args, v :: vs, hs, h => by
    simp only [List.all_cons, Bool.and_eq_true] at hs
    have h0 := (h.2 0 a v rfl rfl).of_scal hs.1
    have h1 : LRel r args vs := ⟨by have := h.1; simpa using this, fun i x y hx hy => h.2 (i + 1) x y (by simpa using hx) (by simpa using hy)⟩
    rw [h0, LRel.scals hs.2 h1]
/-- a walk of the library's that leaves all that there was as it was -/
theorem ACall.lib {f : FuncId} {fn : Func} {c : Code} {args : List Value} {H : AHeap} {x : Value} (hf : P.funcs[f]? = some fn) (hb : fn.body = some c) (hnm : (fn.name == "runtime.NumGoroutine") = false) (hs : args.all scal = true)
    (h : ∀ (K : Nat → Prop) (w0 w : World) (r : Ren), Sim (bs P) K w0 r H w → Calls P f args.toArray w fun e w' => ∃ u, e = .returned u ∧ Below w.heap.size w w' ∧ ∀ r, VRel r x u) :
    ACall P f args H fun v H' => v = x ∧ H' = H := by
  intro K w0 w r vs hsim hv
  have hvs : vs = args.toArray := by
    have := LRel.scals hs hv
    rw [← this]
  subst hvs
  unfold CallSem
  have hcf : (callFunc f args.toArray).run P w = .ok (.enter f args.toArray) w := by
    simp only [callFunc, Sem.run_bind, run_program, Result.andThen_ok, hf, hnm, hb]
    simp
  rw [hcf]
  refine (h K w0 w r hsim).mono fun e w' ⟨u, h1, h2, h3⟩ => ?_
  subst h1
  have hk : Kept K w w' := ⟨h2.os, h2.tape, h2.output, h2.size, fun k hk => h2.block k (hsim.lt hk)⟩
  refine ⟨r, x, H, Ren.le_refl _, ⟨hsim.kept.trans hk, hsim.kin, fun l o hl => ?_, hsim.sep, hsim.name, hsim.glob, hsim.free, hsim.tab, hsim.frozOf fun b o v hz => h2.block b (hsim.froz b o v hz).1, hsim.fsep⟩, h3 r, rfl, rfl⟩
  obtain ⟨pl, h4, h5⟩ := hsim.obj l o hl
  exact ⟨pl, h4, h5.frame (Ren.le_refl _) (h2.block _ h5.lt)⟩
theorem Sim.var {K : Nat → Prop} {w0 w : World} {r : Ren} {H : AHeap} (h : Sim (bs P) K w0 r H w) {nm : String} {g : Nat} (hg : P.globalNamed nm = some g) (hlt : g < P.globals.size) : w.var? P nm = w0.var? P nm := by
  have ht : TabW P K w0 := h.tab
  simp only [World.var?, hg, Option.bind_some, h.kept.block g (ht.kept g hlt)]
theorem Sim.tabIs {K : Nat → Prop} {w0 w : World} {r : Ren} {H : AHeap} (h : Sim (bs P) K w0 r H w) {nm : String} {k : IntKind} {zs : List Int} (hm : (nm, k, zs) ∈ constTabs) {g : Nat} (hg : P.globalNamed nm = some g) (hlt : g < P.globals.size) :
    Lib.TabIs P w nm k zs := by
  have ht : TabW P K w0 := h.tab
  unfold Lib.TabIs
  rw [h.var hg hlt]
  exact ht.tabs nm k zs hm g hg
theorem Sim.errIs {K : Nat → Prop} {w0 w : World} {r : Ren} {H : AHeap} (h : Sim (bs P) K w0 r H w) {nm : String} (hm : nm ∈ errVars) {g : Nat} (hg : P.globalNamed nm = some g) (hlt : g < P.globals.size) :
    ∃ ev, w.cell? ⟨g, 0, none⟩ = some ev ∧ (ev = .nilIface ∨ ∃ te pe, ev = .iface te pe) := by
  have ht : TabW P K w0 := h.tab
  obtain ⟨ev, h1, h2⟩ := ht.errs nm hm g hg
  exact ⟨ev, by rw [World.cell?_of_block (a := ⟨g, 0, none⟩) (h.kept.block g (ht.kept g hlt))]; exact h1, h2⟩
theorem Sim.intIs {K : Nat → Prop} {w0 w : World} {r : Ren} {H : AHeap} (h : Sim (bs P) K w0 r H w) {nm : String} (hm : nm ∈ intVars) {g : Nat} (hg : P.globalNamed nm = some g) (hlt : g < P.globals.size) :
    ∃ m, w.cell? ⟨g, 0, none⟩ = some (.int .i64 m) := by
  have ht : TabW P K w0 := h.tab
  obtain ⟨m, h1⟩ := ht.ints nm hm g hg
  exact ⟨m, by rw [World.cell?_of_block (a := ⟨g, 0, none⟩) (h.kept.block g (ht.kept g hlt))]; exact h1⟩
theorem VRel.ofScal {x : Value} (h : scalD x = true) (r : Ren) : VRel r x x := VRel.reflD h
/-- a walk of the library's that lays one new row and returns it -/
theorem ACall.libRow {f : FuncId} {fn : Func} {c : Code} {args : List Value} {H : AHeap} {z : Nat} {es : List (List Value)} (hf : P.funcs[f]? = some fn) (hb : fn.body = some c) (hnm : (fn.name == "runtime.NumGoroutine") = false) (hs : args.all scal = true)
    (hz : ∀ cs ∈ es, cs.length = z) (hfl : flatS es)
    (h : ∀ (K : Nat → Prop) (w0 w : World) (r : Ren), Sim (bs P) K w0 r H w → Calls P f args.toArray w fun e w' => ∃ t cap, e = .returned (.slice (some ⟨w.heap.size, 0, none⟩) es.length cap) ∧ es.length ≤ cap ∧ cap * z ≤ es.length * z ∧ w' = w.alloc (.cells es.flatten.toArray t)) :
    ACall P f args H fun v H' => v = .slice (some ⟨H.next, 0, none⟩) es.length 1 ∧ H' = H.push (.row z es true) := by
  intro K w0 w r vs hsim hv
  have hvs : vs = args.toArray := by
    have := LRel.scals hs hv
    rw [← this]
  subst hvs
  unfold CallSem
  have hcf : (callFunc f args.toArray).run P w = .ok (.enter f args.toArray) w := by
    simp only [callFunc, Sem.run_bind, run_program, Result.andThen_ok, hf, hnm, hb]
    simp
  rw [hcf]
  refine (h K w0 w r hsim).mono fun e w' ⟨t, cap, h1, hc1, hc2, h2⟩ => ?_
  subst h1; subst h2
  let pl : Pl := ⟨w.heap.size, 0, z, es.length * z⟩
  refine ⟨r.add H.next pl, _, _, hsim.le_add pl, ?_, ?_, rfl, rfl⟩
  · refine hsim.push (pl := pl) ((Kept.refl _ _).alloc hsim.big _) (fun k hk => AK.heap_old w _ k hk) (Nat.le_refl _) ?_
    refine ORel.newRow K _ (cells := es.flatten.toArray) (t := t) (fz := (0, 0)) (heap_alloc_new w _) hsim.big (Nat.le_refl _) (by simp only [List.size_toArray]; rw [flatten_len es hz]; exact Nat.le_refl _) (fun o _ => by simp) (fun i cs hi => ?_) true
    have hm := List.mem_of_getElem? hi
    refine ⟨hz cs hm, fun j v hj => ?_⟩
    have hsc := hfl cs hm v (List.mem_of_getElem? hj)
    refine ⟨scal_one hsc, v, ?_, .scal v hsc⟩
    have hjz : j < z := by rw [← hz cs hm]; exact (List.getElem?_eq_some_iff.1 hj).1
    simp only [List.getElem?_toArray]
    rw [flatten_get es hz i j cs hi hjz]; exact hj
  · have := VRel.sl (r := r.add H.next pl) (l := H.next) (i := 0) (n := es.length) (c := 1) (off := 0) (c' := cap) (pl := pl) (add_same _ _ _) hc1 (by omega) (fun _ => ⟨by simp [pl], by simpa [pl] using hc2⟩)
    simpa [pl] using this
end
end Go.AK
