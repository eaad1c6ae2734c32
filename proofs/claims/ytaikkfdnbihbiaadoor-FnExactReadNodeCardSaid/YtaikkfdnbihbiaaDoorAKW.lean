/- From a contract on abstract heaps to a call in a world: whatever the call makes lies above what there was. -/
import Derived.Test.YtaikkfdnbihbiaaDoorAKT
import Derived.Test.YtaikkfdnbihbiaaDoorAKD
import Derived.Stop.LaidErr
import Derived.Shelf.Vars
import Derived.Lib.LaidTab
namespace Go.AK
set_option linter.unusedVariables false
set_option linter.unusedSimpArgs false
open Go Go.RowKit
section
variable {P : Program}
theorem laid_lt {n : String} {d : DataW Unit} {r : List (String × DataW Unit)} {W : World} {g : Nat} (h : laidMet P ((n, d) :: r) W) (hg : P.globalNamed n = some g) : g < W.heap.size := by
  obtain ⟨ps, ⟨g0, t0, cs0, f0, p0, q0, hg0, ht0, hv0, hd0, _, e0⟩, _, hrows⟩ := h
  obtain rfl := Option.some.inj (hg.symm.trans hg0)
  unfold World.var? at hv0
  rw [hg] at hv0
  simp only [Option.bind_some] at hv0
  rcases Nat.lt_or_ge g W.heap.size with h' | h'
  · exact h'
  · simp [Array.getElem?_eq_none h'] at hv0
theorem laid_iface {n nm : String} {x : DataW Unit} {r : List (String × DataW Unit)} {W : World} {g ti : Nat} {ms : Array (String × TypeId)} (h : laidMet P ((n, .iface nm x) :: r) W) (hg : P.globalNamed n = some g) (ht : (P.globals[g]?).map (·.type) = some ti) (hi : P.underlying ti = some (.interface ms)) :
    ∃ ev, W.cell? ⟨g, 0, none⟩ = some ev ∧ (ev = .nilIface ∨ ∃ te pe, ev = .iface te pe) := by
  obtain ⟨ps, ⟨g0, t0, cs0, f0, p0, q0, hg0, ht0, hv0, hd0, _, e0⟩, _, hrows⟩ := h
  obtain rfl := Option.some.inj (hg.symm.trans hg0)
  obtain rfl := Option.some.inj (ht.symm.trans ht0)
  obtain ⟨f1, u, v, h1, _⟩ := Go.iface_of_trod hi hd0
  obtain ⟨l0⟩ := cs0
  simp only at h1
  subst h1
  exact ⟨_, by simpa using World.var?_cell hg0 hv0 0, .inr ⟨u, v, rfl⟩⟩
/-- a world as it stands when the call begins -/
theorem Sim.start {W : World} (ht : TabW P (fun k => k < W.heap.size) W) : Sim (bs P) (fun k => k < W.heap.size) W ⟨fun _ => none, fun _ _ => none⟩ ⟨fun _ => none, P.globals.size⟩ W :=
  ⟨Kept.refl _ _, fun _ h => h, fun _ _ h => (by cases h), fun _ _ _ _ _ _ h => (by cases h), fun _ _ h => (by cases h), fun _ _ h => (by cases h), Nat.le_refl _, ht, fun _ _ _ h => (by cases h), fun _ _ _ _ _ _ h => (by cases h)⟩
theorem ACall.calls {f : FuncId} {fn : Func} {c : Code} {args : List Value} {x : Value} {W : World} (hf : P.funcs[f]? = some fn) (hb : fn.body = some c) (hnm : (fn.name == "runtime.NumGoroutine") = false) (hs : LRel ⟨fun _ => none, fun _ _ => none⟩ args args)
    (ht : TabW P (fun k => k < W.heap.size) W) (hx : scal x = true) (h : ACall P f args ⟨fun _ => none, P.globals.size⟩ fun v H' => v = x) :
    Calls P f args.toArray W fun e W' => e = .returned x ∧ Below W.heap.size W W' := by
  have := h _ _ _ _ args.toArray (Sim.start ht) hs
  unfold CallSem at this
  have hcf : (callFunc f args.toArray).run P W = .ok (.enter f args.toArray) W := by
    simp only [callFunc, Sem.run_bind, run_program, Result.andThen_ok, hf, hnm, hb]
    simp
  rw [hcf] at this
  refine this.mono fun e w' he => ?_
  cases e with
  | returned v =>
    obtain ⟨r', x', H', _, hsim, hv, rfl⟩ := he
    have hv := hv.of_scal hx
    subst hv
    exact ⟨rfl, ⟨hsim.kept.os, hsim.kept.tape, hsim.kept.output, hsim.kept.size, fun k hk => hsim.kept.block k hk⟩⟩
  | _ => exact he.elim
theorem LRel.scalsR {r : Ren} : ∀ (args : List Value), args.all scal = true → LRel r args args
  | args, h => ⟨rfl, fun i x y hx hy => by
    rw [hx] at hy; cases hy
    exact .scal _ (List.all_eq_true.1 h _ (List.mem_of_getElem? hx))⟩
end
end Go.AK
