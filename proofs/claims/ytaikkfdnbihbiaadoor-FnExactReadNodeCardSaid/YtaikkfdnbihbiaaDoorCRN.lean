/- For every string: the program reads a tree's line as the reference does: the law FnExactReadNode returns true, and its argument reads as it did. Its row lists seven package-level variables with what they hold; the card ties them to the program's text. No further condition. -/
import Derived.Test.YtaikkfdnbihbiaaDoorCards
import Derived.Test.YtaikkfdnbihbiaaDoorTie
import Derived.Test.YtaikkfdnbihbiaaDoorL12
import Derived.Test.YtaikkfdnbihbiaaDoorAKW
import Derived.WalkKit
import Derived.ProofKit
import Derived.OpenShut
import Derived.Deep.DeepHandedRow
import Derived.Lay
import Derived.ChangeMaps5
namespace Go.Proofs.YtaikkfdnbihbiaaDoor.readNode
open Go.ChangeShapes Go.ChangeMaps Go.WideShapes Go.ChangeAt Go.RowKit Go.AK
set_option maxRecDepth 100000

theorem own : ownKnob Tryd.prog.godebug = none := by kernel_rfl
theorem gsize : Tryd.prog.globals.size = 8 := by kernel_rfl
theorem under102 : Tryd.prog.underlying 102 = some (.int .u64) := by kernel_rfl
theorem under120 : Tryd.prog.underlying 120 = some (.array 20 102) := by kernel_rfl
theorem cells120 : Tryd.prog.cellsOf 120 = 20 := by kernel_rfl
theorem cells102 : Tryd.prog.cellsOf 102 = 1 := by kernel_rfl
theorem gpow : Tryd.prog.globalNamed "internal/strconv.uint64pow10" = some 5 := by kernel_rfl
theorem gpowT : (Tryd.prog.globals[5]?).map (·.type) = some 120 := by kernel_rfl
theorem gdeb : Tryd.prog.globalNamed "math/bits.deBruijn64tab" = some 7 := by kernel_rfl
theorem gmax : Tryd.prog.globalNamed "internal/bytealg.MaxLen" = some 0 := by kernel_rfl
theorem gsyn : Tryd.prog.globalNamed "strconv.ErrSyntax" = some 3 := by kernel_rfl
theorem gsynT : (Tryd.prog.globals[3]?).map (·.type) = some 46 := by kernel_rfl
theorem grng : Tryd.prog.globalNamed "strconv.ErrRange" = some 4 := by kernel_rfl
theorem grngT : (Tryd.prog.globals[4]?).map (·.type) = some 46 := by kernel_rfl
theorem underErr : ∃ ms, Tryd.prog.underlying 46 = some (.interface ms) := ⟨_, Tryd.underlying46⟩
theorem under3 : Tryd.prog.underlying 3 = some (.int .i64) := by kernel_rfl
theorem under4 : Tryd.prog.underlying 4 = some .bool := by kernel_rfl
theorem under9 : Tryd.prog.underlying 9 = some .string := by kernel_rfl
theorem params4 : Tryd.f4.params = #[9] := by kernel_rfl

/-- what the row's list and the world's shape give -/
theorem tabs {W : World} (hL : laidMetH Tryd.prog Rows.fnExactReadNodeRow.laid W) (hsh : W.ShapedOpen Tryd.prog) : TabW Tryd.prog (fun k => k < W.heap.size) W := by
  rw [MakeChecks.laidMetH_plain _ _ _ (by kernel_rfl)] at hL
  have h1 : laidMet Tryd.prog _ W := laidMet.tail hL
  have h2 := laidMet.tail h1
  have h3 := laidMet.tail h2
  have h4 := laidMet.tail h3
  have h5 := laidMet.tail h4
  obtain ⟨ms, hm⟩ := underErr
  have hlt := laid_lt h1 gdeb
  refine ⟨fun g hg => ?_, fun nm k zs h g hg => ?_, fun nm h g hg => ?_, fun nm h g hg => ?_⟩
  · rw [gsize] at hg; omega
  · simp only [constTabs, List.mem_singleton, Prod.mk.injEq] at h
    obtain ⟨rfl, rfl, rfl⟩ := h
    exact Lib.tabIs_of_head gpow gpowT under120 under102 cells102 cells120 h2
  · simp only [errVars, List.mem_cons, List.not_mem_nil, or_false] at h
    rcases h with rfl | rfl
    · obtain rfl := Option.some.inj (gsyn.symm.trans hg)
      exact laid_iface h5 gsyn gsynT hm
    · obtain rfl := Option.some.inj (grng.symm.trans hg)
      exact laid_iface h4 grng grngT hm
  · simp only [intVars, List.mem_singleton] at h
    subst h
    obtain rfl := Option.some.inj (gmax.symm.trans hg)
    exact cell_of_shapedOpen_int (zero := #[.int .i64 0]) (t := 3) hsh (of_decide_eq_true (by kernel_rfl)) (by kernel_rfl) rfl (by kernel_rfl) (by kernel_rfl) under3

theorem contract (H : Type) (enc : TypeId × Value → H) (W : World) (base : Nat) (args : Array Value) (ds gs : List (DataW H)) (before : List MemPlace)
    (hval : ∀ (j : Nat) t v, Tryd.f4.params[j]? = some t → args[j]? = some v → Value.okWide Tryd.prog W .any base t v)
    (hW : DataW.Whole enc Tryd.prog Tryd.f4.params.toList Rows.fnExactReadNodeSpec.vars false W args.toList ds gs before) (hL : laidMetH Tryd.prog Rows.fnExactReadNodeRow.laid W) (hsh : W.ShapedOpen Tryd.prog) :
    Calls Tryd.prog 4 args W fun e W' => ∃ v, e = .returned v ∧ Rows.fnExactReadNodeSpec.post enc Tryd.prog Tryd.f4 false true false false W args v W' := by
  have hW' := hW
  obtain ⟨p, q, hA0, hV, rfl, hfz, hnd⟩ := hW
  have hA : DataW.TrodAll enc Tryd.prog W 0 (fun _ => true) true Tryd.f4.params.toList args.toList ds p := hA0
  rw [params4] at hA hval
  obtain ⟨v0, vs0, d0, ds0, p0, q0, hargs, rfl, rfl, h0, r0⟩ := trodAll_cons hA
  obtain ⟨rfl, rfl, rfl⟩ := trodAll_nil r0
  obtain rfl : args = #[v0] := by cases args; simp_all
  obtain ⟨rfl, rfl⟩ := trodVars_none hV
  obtain ⟨s, rfl, rfl, rfl, hs⟩ := open_string under9 (hval 0 9 v0 rfl rfl) h0
  clear hA0
  simp only [List.append_nil] at hW'
  have walk := ACall.calls (args := [.string s]) (x := .bool true) (W := W) Tryd.func4 rfl rfl (LRel.scalsR _ rfl) (tabs hL hsh) rfl ((c_laws_FnExactReadNode _ s).mono fun v H' h => h.1)
  refine walk.mono fun e W' ⟨he, hg⟩ => ?_
  subst he
  exact ⟨_, rfl, _, _, _, [], _, [], hW', trodAll_cons_mk (shut_bool under4 _) trodAll_mk0, trodAll_cons_mk (shut_string under9 hs) trodAll_mk0, rfl, hg.frame _, fun h => by cases h⟩

theorem reads (os : Os) {H : Type} (enc : TypeId × Value → H) : ∃ places, DataW.whole enc Tryd.prog ((World.laidAll Tryd.prog os Rows.fnExactReadNodeRow.laid).forCall (fun _ _ => 0) ⟨#[], #[.string ⟨#[]⟩], []⟩).memory Tryd.f4.params.toList Rows.fnExactReadNodeSpec.vars false #[Value.string ⟨#[]⟩].toList 8 = some ([.lit (.string [])], [], places) :=
  ⟨[], by kernel_rfl⟩
theorem lifted (os : Os) (started : os.Started) (H : Type) (enc : TypeId × Value → H) (F : Stop.Interp) :
    ReturnsInHanded {} Tryd.checked os 4 .any ((OpenSpec.ofChange Rows.fnExactReadNodeSpec).preRow enc Tryd.prog Tryd.f4 Rows.fnExactReadNodeRow.domain false Rows.fnExactReadNodeRow.laid) (((OpenSpec.ofChange Rows.fnExactReadNodeSpec).at F).post enc Tryd.prog Tryd.f4 false true false false) := by
  obtain ⟨places, hx⟩ := reads os enc
  refine returnsInHanded_of_row (C := Tryd.checked) (s := OpenSpec.ofChange Rows.fnExactReadNodeSpec) own started (by kernel_rfl) Tryd.func4
    (witness_row_at (enc := enc) (C := Tryd.checked) false (World.laidAll Tryd.prog os Rows.fnExactReadNodeRow.laid) #[.string ⟨#[]⟩] (World.laidAll_os _ _ _) (by kernel_rfl) (by kernel_rfl) (by kernel_rfl)
      (OpenSpec.preRow_of_cond 8 hx (by kernel_rfl) (fun k hk => by cases hk) (by kernel_rfl) (by rw [MakeChecks.laidMetH_plain _ _ _ (by kernel_rfl)]; exact laidMet_laidAll _ (by kernel_rfl) (by kernel_rfl)))) ?_
  intro W base args ds gs before hval hW _ _ _ hL hsh _
  exact contract H enc W base args ds gs before hval hW hL hsh
theorem said : Rows.FnExactReadNodeSaid :=
  OpenClaim.holds_of_cond 4 Tryd.f4 rfl rfl rfl rfl rfl rfl rfl ⟨rfl, rfl, rfl, rfl, rfl⟩ rfl rfl rfl rfl rfl (by kernel_rfl) Tryd.func4 (by kernel_rfl)
    (of_decide_eq_true (by kernel_rfl)) (by unfold Func.isWrapper; first | (rw [if_pos (by decide +kernel)]; kernel_rfl) | (rw [if_neg (by decide +kernel)]; exact ⟨rfl, rfl⟩))
    (fun os started H enc _ F => by rw [OpenClaim.pre_eq_preRow]; exact lifted os started H enc F)
theorem plain (f : FuncId) (fn : Func) (hf : Tryd.pinned.checked.prog.funcNamed "loop.example/g00100/laws.FnExactReadNode" = some f) (hfn : Tryd.pinned.checked.prog.funcs[f]? = some fn) :
    true = Tryd.pinned.checked.prog.looks [] ∧ ∀ (j : Nat) t, fn.params[j]? = some t → Tryd.pinned.checked.prog.wantsStandIn t = false := by
  obtain rfl : f = 4 := Option.some.inj ((show Tryd.prog.funcNamed "loop.example/g00100/laws.FnExactReadNode" = some 4 by kernel_rfl).symm.trans hf) |>.symm
  obtain rfl : fn = Tryd.f4 := (Option.some.inj (Tryd.func4.symm.trans hfn)).symm
  refine ⟨by kernel_rfl, fun j t ht => ?_⟩
  rw [params4] at ht
  obtain rfl : t = 9 := by simpa using Array.mem_of_getElem? ht
  exact (show Tryd.prog.wantsStandIn 9 = false by kernel_rfl)
end Go.Proofs.YtaikkfdnbihbiaaDoor.readNode
namespace Go.Proofs.YtaikkfdnbihbiaaDoor
/-- ████ THE CARD ████ -/
theorem readNode_card : Rows.FnExactReadNodeCardSaid :=
  Claim7.holds_tied_plain_at .later [] _ _ _ _ readNode.said (fun _ h => by cases h) (by kernel_rfl) (fun _ h => by cases h) fnExactReadNode_row_tie rfl ⟨rfl, rfl⟩ (by kernel_rfl) rfl readNode.plain (by kernel_rfl)
end Go.Proofs.YtaikkfdnbihbiaaDoor
