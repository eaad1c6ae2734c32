/- Evaluating regions: a function for the operations that call nothing, and for calls that a table tells. -/
import Derived.Test.YtaikkfdnbihbiaaDoorAK9
namespace Go.AK
set_option linter.unusedVariables false
set_option linter.unusedSimpArgs false
open Go Go.RowKit

/-! ### a table of calls -/
abbrev Gam := FuncId → List Value → AHeap → Option (Value × AHeap)
def GOk (P : Program) (Γ : Gam) : Prop := ∀ g args H x H', Γ g args H = some (x, H') → ACall P g args H fun v H2 => v = x ∧ H2 = H'
def noG : Gam := fun _ _ _ => none
theorem noG_ok (P : Program) : GOk P noG := fun _ _ _ _ _ h => by cases h
def evoL (P : Program) (e : Env) (H : AHeap) : List Operand → Option (List Value)
  | [] => some []
  | x :: xs => (evo P e H x).bind fun v => (evoL P e H xs).map (v :: ·)
theorem evoL_eq (P : Program) (e : Env) (H : AHeap) : ∀ xs : List Operand, evoL P e H xs = xs.mapM (evo P e H)
  | [] => by simp [evoL]
  | x :: xs => by
    rw [List.mapM_cons, evoL, evoL_eq P e H xs]
    cases evo P e H x with
    | none => rfl
    | some v => cases xs.mapM (evo P e H) <;> rfl
def popG (P : Program) (Γ : Gam) (op : Op) (ty : TypeId) (e : Env) (H : AHeap) : Option (Value × AHeap) :=
  match callOf P e H op with
  | some (g, args) => Γ g args H
  | none => pop P op ty e H
/-- bind that simp enters at its first argument alone -/
def seqO {α : Type} (x : Option (Value × AHeap)) (f : Value → AHeap → Option α) : Option α := match x with
  | some (v, H) => f v H
  | none => none
/-- under a guard -/
def gpop (b : Bool) (x : Option (Value × AHeap)) (H : AHeap) : Option (Value × AHeap) := if b = true then x else some (Go.undef, H)
@[congr] theorem gpop_congr {b b' : Bool} {x x' : Option (Value × AHeap)} {H : AHeap} (h : b = b') (hx : b' = true → x = x') : gpop b x H = gpop b' x' H := by
  subst h; unfold gpop; cases b
  · rfl
  · simpa using hx rfl
theorem gpop_some {b : Bool} {v : Value} {H : AHeap} : gpop b (some (v, H)) H = some (if b = true then v else Go.undef, H) := by
  unfold gpop; cases b <;> rfl
theorem gpop_true (x : Option (Value × AHeap)) (H : AHeap) : gpop true x H = x := id rfl
theorem gpop_false (x : Option (Value × AHeap)) (H : AHeap) : gpop false x H = some (Go.undef, H) := id rfl
def evalOps (P : Program) (Γ : Gam) (all : List Oper) : List Oper → Env → AHeap → Option (Env × AHeap)
  | [], e, H => some (e, H)
  | ⟨d, op, t, _, _, none⟩ :: os, e, H => seqO (popG P Γ op t e H) fun v H' => evalOps P Γ all os (e.put d v) H'
  | ⟨d, op, t, _, _, some g⟩ :: os, e, H => seqO (gpop (gv all e (some g)) (popG P Γ op t e H) H) fun v H' => evalOps P Γ all os (e.put d v) H'
def evalK (P : Program) (Γ : Gam) (all os : List Oper) (e : Env) (d : Option Tmp) (x : Option (Value × AHeap)) : Option (Env × AHeap) := seqO x fun v H' => evalOps P Γ all os (e.put d v) H'
section
variable {P : Program} {Γ : Gam} {all os : List Oper} {e : Env} {H : AHeap} {n : Nat} {Q : Exit → Env → AHeap → Prop}
@[congr] theorem evalK_congr {d : Option Tmp} {x y : Option (Value × AHeap)} (h : x = y) : evalK P Γ all os e d x = evalK P Γ all os e d y := by rw [h]
theorem evalK_some (d : Option Tmp) (v : Value) (H' : AHeap) : evalK P Γ all os e d (some (v, H')) = evalOps P Γ all os (e.put d v) H' := id rfl
theorem evalOps_nil : evalOps P Γ all [] e H = some (e, H) := id rfl
theorem evalOps_cons (d : Option Tmp) (op : Op) (t : TypeId) (p : String) (af : Array Edge) : evalOps P Γ all (⟨d, op, t, p, af, none⟩ :: os) e H = evalK P Γ all os e d (popG P Γ op t e H) := id rfl
theorem evalOps_guard (d : Option Tmp) (op : Op) (t : TypeId) (p : String) (af : Array Edge) (g : Nat × Bool) : evalOps P Γ all (⟨d, op, t, p, af, some g⟩ :: os) e H = evalK P Γ all os e d (gpop (gv all e (some g)) (popG P Γ op t e H) H) := id rfl
theorem seqO_eq {α : Type} {x : Option (Value × AHeap)} {f : Value → AHeap → Option α} {a : α} (h : seqO x f = some a) : ∃ v H, x = some (v, H) ∧ f v H = some a := by
  unfold seqO at h
  split at h
  · exact ⟨_, _, rfl, h⟩
  · cases h
theorem opwp_of (hΓ : GOk P Γ) {o : Oper} {v : Value} {H' : AHeap} {K : Value → AHeap → Prop} (h : popG P Γ o.op o.type e H = some (v, H')) (k : K v H') : opwp P o K e H := by
  unfold popG at h
  split at h
  · rename_i g args hc
    exact .inr ⟨g, args, hc, (hΓ _ _ _ _ _ h).mono fun x H2 ⟨h1, h2⟩ => by subst h1; subst h2; exact k⟩
  · exact .inl ⟨v, H', h, k⟩
theorem evalOps_sound (hΓ : GOk P Γ) : ∀ (l : List Oper) (e : Env) (H : AHeap) (e' : Env) (H' : AHeap) (K : Env → AHeap → Prop) (rest : List Oper), evalOps P Γ all l e H = some (e', H') → rwp P all rest K e' H' → rwp P all (l ++ rest) K e H
  | [], e, H, e', H', K, rest, h, k => by simp only [evalOps, Option.some.injEq, Prod.mk.injEq] at h; obtain ⟨rfl, rfl⟩ := h; exact k
  | ⟨d, op, t, p, af, none⟩ :: l, e, H, e', H', K, rest, h, k => by
    obtain ⟨v, H1, h1, h2⟩ := seqO_eq (x := popG P Γ op t e H) h
    refine ⟨fun _ => opwp_of hΓ h1 (evalOps_sound hΓ l _ _ _ _ K rest h2 k), fun hg => ?_⟩
    simp [gv] at hg
  | ⟨d, op, t, p, af, some g⟩ :: l, e, H, e', H', K, rest, h, k => by
    obtain ⟨v, H1, h1, h2⟩ := seqO_eq (x := gpop (gv all e (some g)) (popG P Γ op t e H) H) h
    have k2 := evalOps_sound hΓ l _ _ _ _ K rest h2 k
    constructor
    · intro hg
      simp only at hg
      rw [hg, gpop_true] at h1
      exact opwp_of hΓ h1 k2
    · intro hg
      simp only at hg
      rw [hg, gpop_false] at h1
      cases h1
      exact k2
/-- a region all of whose operations are evaluated -/
theorem awp_reg (hΓ : GOk P Γ) {id : Nat} {l : List Oper} {e' : Env} {H' : AHeap} (h : evalOps P Γ l l e H = some (e', H')) (k : Q .normal e' H') : awp P n (.region id l.toArray false) Q e H := by
  have := evalOps_sound (P := P) (all := l) hΓ l e H e' H' (Q .normal) [] h k
  rw [List.append_nil] at this
  simp only [awp, Bool.false_eq_true, if_false]
  exact this
theorem awp_seq {a b : Code} (h : awp P n a (xthen (awp P n b Q) Q) e H) : awp P n (.seq a b) Q e H := h
theorem awp_rseq (hΓ : GOk P Γ) {id : Nat} {l : List Oper} {b : Code} {e' : Env} {H' : AHeap} (h : evalOps P Γ l l e H = some (e', H')) (k : awp P n b Q e' H') : awp P n (.seq (.region id l.toArray false) b) Q e H :=
  awp_seq (awp_reg hΓ h k)
theorem awp_cond {c : Operand} {a b : Code} {t : Bool} (h : evo P e H c = some (.bool t)) (ht : t = true → awp P n a Q e H) (hf : t = false → awp P n b Q e H) : awp P n (.cond c a b) Q e H := ⟨t, h, ht, hf⟩
theorem awp_skip (h : Q .normal e H) : awp P n .skip Q e H := h
theorem awp_ret (h : Q .ret e H) : awp P n .ret Q e H := h
theorem awp_exit {id : Nat} (h : Q (.exit id) e H) : awp P n (.exit id) Q e H := h
theorem awp_block {id : Nat} {b : Code} (h : awp P n b (xblock id Q) e H) : awp P n (.block id b) Q e H := h
theorem awp_loop {b : Code} (I : Env → AHeap → Prop) (μ : Env → AHeap → Nat) (h0 : I e H) (hr : ∀ e H, I e H → awp P n b (xthen (fun e' H' => I e' H' ∧ μ e' H' < μ e H) Q) e H) : awp P n (.loop b) Q e H := ⟨I, μ, h0, hr⟩
/-- some operations evaluated, the rest by hand -/
theorem rwp_eval (hΓ : GOk P Γ) (m : Nat) {l : List Oper} {K : Env → AHeap → Prop} {e' : Env} {H' : AHeap} (h : evalOps P Γ all (l.take m) e H = some (e', H')) (k : rwp P all (l.drop m) K e' H') : rwp P all l K e H := by
  have := evalOps_sound hΓ (l.take m) e H e' H' K (l.drop m) h k
  rwa [List.take_append_drop] at this
theorem rwp_call {d : Option Tmp} {f : Operand} {args : List Operand} {ts : Array TypeId} {ty : TypeId} {p : String} {af : Array Edge} {K : Env → AHeap → Prop} {g : FuncId} {fs cs : Array Value} {vs : List Value}
    (hf : evo P e H f = some (.func (.func g) fs cs)) (hv : evoL P e H args = some vs) (h : ACall P g (fs.toList ++ vs ++ cs.toList) H fun v H' => rwp P all os K (e.put d v) H') :
    rwp P all (⟨d, .call ⟨.value f, args.toArray, ts⟩, ty, p, af, none⟩ :: os) K e H := by
  refine ⟨fun _ => .inr ⟨g, fs.toList ++ vs ++ cs.toList, ?_, h⟩, fun hg => ?_⟩
  · rw [evoL_eq] at hv
    simp only [callOf, hf, hv]
  · simp [gv] at hg
theorem awp_regs {id : Nat} {l : List Oper} (h : rwp P l l (Q .normal) e H) : awp P n (.region id l.toArray false) Q e H := by
  simp only [awp, Bool.false_eq_true, if_false]
  exact h
theorem awp_rseqs {id : Nat} {l : List Oper} {b : Code} (h : rwp P l l (awp P n b Q) e H) : awp P n (.seq (.region id l.toArray false) b) Q e H := awp_seq (awp_regs h)
end
/-! ### weaker ends -/
section
variable {P : Program} {n : Nat}
theorem opwp_mono {o : Oper} {K K' : Value → AHeap → Prop} {e : Env} {H : AHeap} (h : opwp P o K e H) (hk : ∀ v H, K v H → K' v H) : opwp P o K' e H := by
  rcases h with ⟨v, H', h1, h2⟩ | ⟨g, args, h1, h2⟩
  · exact .inl ⟨v, H', h1, hk _ _ h2⟩
  · exact .inr ⟨g, args, h1, h2.mono hk⟩
theorem rwp_mono {all : List Oper} {K K' : Env → AHeap → Prop} (hk : ∀ e H, K e H → K' e H) : ∀ (l : List Oper) (e : Env) (H : AHeap), rwp P all l K e H → rwp P all l K' e H
  | [], e, H, h => hk _ _ h
  | o :: l, e, H, h => ⟨fun hg => opwp_mono (h.1 hg) fun v H' hh => rwp_mono hk l _ _ hh, fun hg => rwp_mono hk l _ _ (h.2 hg)⟩
theorem awp_mono : ∀ (c : Code) {Q Q' : Exit → Env → AHeap → Prop} {e : Env} {H : AHeap}, awp P n c Q e H → (∀ x e H, Q x e H → Q' x e H) → awp P n c Q' e H
  | .skip, Q, Q', e, H, h, hq => hq _ _ _ h
  | .region id ops draw, Q, Q', e, H, h, hq => by
    simp only [awp] at h ⊢
    split
    · rename_i hd
      rw [if_pos hd] at h
      intro K w0 w r a t hs he hdf hz
      refine wpOps_mono' _ _ _ (h K w0 w r a t hs he hdf hz) fun ex a' w' hl => ?_
      obtain ⟨h1, h2, r', e', H', h3, h4, h5, h6, h7⟩ := hl
      exact ⟨h1, h2, r', e', H', h3, h4, h5, h6, hq _ _ _ h7⟩
    · rename_i hd
      rw [if_neg hd] at h
      exact rwp_mono (hq .normal) _ _ _ h
  | .seq a b, Q, Q', e, H, h, hq => awp_mono a h fun x e H hx => by
      cases x with
      | normal => exact awp_mono b hx hq
      | _ => exact hq _ _ _ hx
  | .cond c a b, Q, Q', e, H, h, hq => by
    obtain ⟨t, h1, h2, h3⟩ := h
    exact ⟨t, h1, fun ht => awp_mono a (h2 ht) hq, fun ht => awp_mono b (h3 ht) hq⟩
  | .block id b, Q, Q', e, H, h, hq => awp_mono b h fun x e H hx => by
      cases x with
      | exit i =>
        simp only [xblock] at hx ⊢
        split at hx
        · rw [if_pos (by assumption)]; exact hq _ _ _ hx
        · rw [if_neg (by assumption)]; exact hq _ _ _ hx
      | _ => exact hq _ _ _ hx
  | .loop b, Q, Q', e, H, h, hq => by
    obtain ⟨I, μ, h0, hr⟩ := h
    exact ⟨I, μ, h0, fun e H hi => awp_mono b (hr e H hi) fun x e H hx => by
      cases x with
      | normal => exact hx
      | _ => exact hq _ _ _ hx⟩
  | .exit id, Q, Q', e, H, h, hq => hq _ _ _ h
  | .ret, Q, Q', e, H, h, hq => hq _ _ _ h
  | .rangeFunc .., Q, Q', e, H, h, hq => by simp [awp] at h
  | .scope _, Q, Q', e, H, h, hq => by simp [awp] at h
  | .label _, Q, Q', e, H, h, hq => by simp [awp] at h
  | .goto _, Q, Q', e, H, h, hq => by simp [awp] at h
  | .refuse _, Q, Q', e, H, h, hq => by simp [awp] at h
/-- the ways meet again: what holds behind a piece of code -/
theorem awp_join {a b : Code} {Q : Exit → Env → AHeap → Prop} {e : Env} {H : AHeap} (J : Env → AHeap → Prop) (h : awp P n a (xthen J Q) e H) (k : ∀ e H, J e H → awp P n b Q e H) : awp P n (.seq a b) Q e H :=
  awp_mono a h fun x e H hx => by
    cases x with
    | normal => exact k e H hx
    | _ => exact hx
end
end Go.AK
