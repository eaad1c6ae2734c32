/- Plain lines of nodes: showing and reading. -/
import Derived.Test.YtaikkfdnbihbiaaDoorP03
import Derived.Lib.ItoaLen
namespace Go.AK
set_option linter.unusedVariables false
set_option linter.unusedSimpArgs false
open Go Go.RowKit
theorem join_len (l : List (List UInt8)) (sep : List UInt8) (B : Nat) (h : ∀ x ∈ l, x.length ≤ B) : (Lib.join l sep).length ≤ l.length * (B + sep.length) := by
  have hl : ∀ l : List (List UInt8), (∀ x ∈ l, x.length ≤ B) → Lib.lens l ≤ l.length * B := by
    intro l
    induction l with
    | nil => intro _; simp [Lib.lens]
    | cons a l ih =>
      intro h
      have h1 := ih fun x hx => h x (List.mem_cons_of_mem _ hx)
      have h2 := h a List.mem_cons_self
      simp only [Lib.lens, List.map_cons, List.sum_cons, List.length_cons, Nat.add_mul, Nat.one_mul] at h1 ⊢
      omega
  cases l with
  | nil => simp [Lib.join_nil]
  | cons a r =>
    rw [Lib.join_cons, List.length_append, Lib.joinTail_length]
    have h1 := hl r fun x hx => h x (List.mem_cons_of_mem _ hx)
    have h2 := h a List.mem_cons_self
    simp only [List.length_cons, Nat.add_mul, Nat.one_mul, Nat.mul_add]
    have : sep.length * r.length = r.length * sep.length := Nat.mul_comm _ _
    omega
theorem joinS_ok (l : List ByteArray) (sep : ByteArray) (B : Nat) (h : ∀ x ∈ l, x.size ≤ B) (hb : l.length * (B + sep.size) ≤ 140737488355328) (hl : l.length ≤ 140737488355328) :
    l.length ≤ 140737488355328 ∧ (Lib.join (l.map (·.data.toList)) sep.data.toList).length ≤ 140737488355328 := by
  refine ⟨hl, Nat.le_trans (join_len _ _ B ?_) ?_⟩
  · intro x hx
    obtain ⟨s, hs, rfl⟩ := List.mem_map.1 hx
    rw [Array.length_toList]; exact h s hs
  · rw [List.length_map, Array.length_toList]; exact hb
abbrev I64 (n : Int) : Prop := -9223372036854775808 ≤ n ∧ n ≤ 9223372036854775807
theorem itoaS_size {n : Int} (h : I64 n) : (itoaS n).size ≤ 21 := by
  have := Lib.itoa_length_le n h.1 h.2
  show (Lib.itoa n).toArray.size ≤ 21
  simpa using this
theorem hexS_size (s : ByteArray) : (hexS s).size = 2 * s.size := by
  show (ofInts (hexUp s s.size)).data.size = _
  simp [ofInts, hexUp_len]
/-- a node of sizes that no reckoning passes -/
def NdW (n : Nd) : Prop := I64 n.kind ∧ I64 n.mode ∧ I64 n.time ∧ I64 n.group ∧ n.path.size ≤ 1099511627776 ∧ n.data.size ≤ 1099511627776 ∧ n.target.size ≤ 1099511627776
instance (n : Nd) : Decidable (NdW n) := by unfold NdW; infer_instance
abbrev hexO (s : ByteArray) : ByteArray := if s = ⟨#[]⟩ then ⟨#[45]⟩ else hexS s
theorem hexO_size (s : ByteArray) (h : s.size ≤ 1099511627776) : (hexO s).size ≤ 2199023255552 := by
  unfold hexO
  split
  · decide
  · rw [hexS_size]; omega
/-- the line of a node -/
def showN (n : Nd) : ByteArray :=
  if decide (n.kind = 0) = true then joinS [⟨#[100]⟩, n.path, itoaS n.mode, itoaS n.time] ⟨#[32]⟩
  else if decide (n.kind = 1) = true then joinS [⟨#[102]⟩, n.path, itoaS n.mode, itoaS n.time, itoaS n.group, hexO n.data] ⟨#[32]⟩
  else joinS [⟨#[108]⟩, n.path, itoaS n.time, hexO n.target] ⟨#[32]⟩
theorem show_ok (l : List ByteArray) (h : ∀ x ∈ l, x.size ≤ 2199023255552) (hl : l.length ≤ 6) : l.length ≤ 140737488355328 ∧ (Lib.join (l.map (·.data.toList)) (⟨#[32]⟩ : ByteArray).data.toList).length ≤ 140737488355328 :=
  joinS_ok l ⟨#[32]⟩ 2199023255552 h (Nat.le_trans (Nat.mul_le_mul_right _ hl) (by decide)) (by omega)
theorem NdW_sizes {n : Nd} (h : NdW n) : n.path.size ≤ 2199023255552 ∧ (itoaS n.mode).size ≤ 2199023255552 ∧ (itoaS n.time).size ≤ 2199023255552 ∧ (itoaS n.group).size ≤ 2199023255552 ∧ (hexO n.data).size ≤ 2199023255552 ∧ (hexO n.target).size ≤ 2199023255552 := by
  obtain ⟨h1, h2, h3, h4, h5, h6, h7⟩ := h
  exact ⟨Nat.le_trans h5 (by decide), Nat.le_trans (itoaS_size h2) (by decide), Nat.le_trans (itoaS_size h3) (by decide), Nat.le_trans (itoaS_size h4) (by decide), hexO_size _ h6, hexO_size _ h7⟩
theorem atoiN_64 (s : ByteArray) : I64 (atoiN s) := by
  unfold atoiN
  split
  · rename_i v h; exact Lib.atoiAll_bounds h
  · exact Lib.atoiSat_bounds _
  · decide
theorem NdW_mk {a e f : ByteArray} {b c d g : Int} (h1 : I64 b) (h2 : I64 c) (h3 : I64 d) (h4 : I64 g) (h5 : a.size ≤ 1099511627776) (h6 : e.size ≤ 1099511627776) (h7 : f.size ≤ 1099511627776) : NdW ⟨a, b, c, d, e, f, g⟩ := ⟨h1, h2, h3, h4, h5, h6, h7⟩
theorem i64_0 : I64 0 := by decide
theorem i64_1 : I64 1 := by decide
theorem i64_2 : I64 2 := by decide
theorem sz_0 : (⟨#[]⟩ : ByteArray).size ≤ 1099511627776 := by decide
/-! ### words of a line -/
structure Wd where
  ws : List ByteArray
  bad : Bool
@[reducible] def wdC (w : Wd) : List Value := [inl 1 1 (strRow w.ws), .bool w.bad]
def decWd.decWd1 (b : Bool) : Option (Nat × Nat × List (List Value)) → Option Wd
  | some (1, 1, es) => (decStrs es).map (⟨·, b⟩)
  | _ => none
def decWd : List Value → Option Wd
  | [v, .bool b] => decWd.decWd1 b (unInl v)
  | _ => none
theorem decWd_some {cs : List Value} {w : Wd} (h : decWd cs = some w) : cs = wdC w := by
  unfold decWd at h
  split at h
  · rename_i v b
    unfold decWd.decWd1 at h
    split at h
    · rename_i es hu
      obtain ⟨l, h1, h2⟩ := Option.map_eq_some_iff.1 h
      subst h2
      rw [unInl_some hu, decStrs_some h1]
    · cases h
  · cases h
@[go_sem] theorem decWd_enc' (ws : List ByteArray) (b : Bool) : decWd [inl 1 1 (strRow ws), .bool b] = some ⟨ws, b⟩ := by
  simp only [decWd, unInl_inl, decWd.decWd1, decStrs_enc, Option.map_some]
theorem decWd_enc (w : Wd) : decWd (wdC w) = some w := decWd_enc' _ _
@[go_sem] theorem decNd_lit (a e f : ByteArray) (b c d g : Int) : decNd [.string a, .int .i64 b, .int .i64 c, .int .i64 d, .string e, .string f, .int .i64 g] = some ⟨a, b, c, d, e, f, g⟩ := id rfl
def hd (ws : List ByteArray) : ByteArray := ws.headD ⟨#[]⟩
def okW (s : ByteArray) : Bool := atoiOk s && decide (itoaS (atoiN s) = s)
def nx (w : Wd) : Wd := ⟨w.ws.tail, w.bad || w.ws.isEmpty⟩
def num (w : Wd) : Wd := ⟨w.ws.tail, (w.bad || w.ws.isEmpty) || !okW (hd w.ws)⟩
def byt (w : Wd) : Wd := if decide (hd w.ws = ⟨#[45]⟩) = true then nx w else ⟨w.ws.tail, (w.bad || w.ws.isEmpty) || !(unhex (hd w.ws)).isSome⟩
def bytV (w : Wd) : ByteArray := if decide (hd w.ws = ⟨#[45]⟩) = true then ⟨#[]⟩ else (unhex (hd w.ws)).getD ⟨#[]⟩
def SmallL (l : List ByteArray) : Prop := ∀ x ∈ l, Small x
instance (l : List ByteArray) : Decidable (SmallL l) := inferInstanceAs (Decidable (∀ x ∈ l, Small x))
theorem hd_small {l : List ByteArray} (h : SmallL l) : Small (hd l) := by
  unfold hd
  cases l with
  | nil => simp [Small]; decide
  | cons a l => exact h a List.mem_cons_self
theorem tail_small {l : List ByteArray} (h : SmallL l) : SmallL l.tail := fun x hx => h x (List.mem_of_mem_tail hx)
@[go_sem] theorem nx_ws (w : Wd) : (nx w).ws = w.ws.tail := id rfl
@[go_sem] theorem num_ws (w : Wd) : (num w).ws = w.ws.tail := id rfl
@[go_sem] theorem byt_ws (w : Wd) : (byt w).ws = w.ws.tail := by unfold byt; split <;> rfl
@[go_sem] theorem wd_eta (w : Wd) : (⟨w.ws, w.bad⟩ : Wd) = w := id rfl
@[go_sem] theorem wd_eta_nx (w : Wd) : (⟨w.ws.tail, (nx w).bad⟩ : Wd) = nx w := id rfl
@[go_sem] theorem wd_eta_num (w : Wd) : (⟨w.ws.tail, (num w).bad⟩ : Wd) = num w := id rfl
@[go_sem] theorem wd_eta_byt (w : Wd) : (⟨w.ws.tail, (byt w).bad⟩ : Wd) = byt w := by
  have := byt_ws w
  cases h : byt w with
  | mk a b => rw [h] at this; simp only at this; rw [this]
theorem unhexFrom_len (s : ByteArray) (i : Nat) : ∀ l, unhexFrom s i = some l → l.length ≤ s.size - i := by
  intro l h
  unfold unhexFrom at h
  split at h
  · split at h
    · cases h
    · obtain ⟨m, h1, h2⟩ := Option.map_eq_some_iff.1 h
      subst h2
      have := unhexFrom_len s (i + 2) m h1
      simp only [List.length_cons]; omega
  · cases h; simp
termination_by s.size - i
theorem unhex_size {s t : ByteArray} (h : unhex s = some t) : t.size ≤ s.size := by
  unfold unhex at h
  split at h
  · obtain ⟨l, h1, h2⟩ := Option.map_eq_some_iff.1 h
    subst h2
    have := unhexFrom_len s 0 l h1
    show (ofInts l).data.size ≤ _
    simp only [ofInts, List.size_toArray, List.length_map]; omega
  · cases h
theorem bytV_size {w : Wd} (h : SmallL w.ws) : (bytV w).size ≤ 1099511627776 := by
  unfold bytV
  split
  · exact (by decide : (⟨#[]⟩ : ByteArray).size ≤ 1099511627776)
  · cases hu : unhex (hd w.ws) with
    | none => exact (by decide : (⟨#[]⟩ : ByteArray).size ≤ 1099511627776)
    | some t => exact Nat.le_trans (unhex_size hu) (hd_small h)
def nd0 : Nd := ⟨⟨#[]⟩, 0, 0, 0, ⟨#[]⟩, ⟨#[]⟩, 0⟩
def readChk (s : ByteArray) (w : Wd) (n : Nd) : Option Nd := if (w.bad || !nodeOk n || !decide (showN n = s)) = true then none else some n
/-- the node of a line -/
def readI (s : ByteArray) : Option Nd :=
  let w0 : Wd := ⟨splitC s 32, false⟩
  let w1 := nx w0
  let w2 := nx w1
  if decide (hd w0.ws = ⟨#[100]⟩) = true then readChk s (num (num w2)) ⟨hd w1.ws, 0, atoiN (hd w2.ws), atoiN (hd (num w2).ws), ⟨#[]⟩, ⟨#[]⟩, 0⟩
  else if decide (hd w0.ws = ⟨#[102]⟩) = true then readChk s (byt (num (num (num w2)))) ⟨hd w1.ws, 1, atoiN (hd w2.ws), atoiN (hd (num w2).ws), bytV (num (num (num w2))), ⟨#[]⟩, atoiN (hd (num (num w2)).ws)⟩
  else if decide (hd w0.ws = ⟨#[108]⟩) = true then readChk s (byt (num w2)) ⟨hd w1.ws, 2, 0, atoiN (hd w2.ws), ⟨#[]⟩, bytV (num w2), 0⟩
  else none
end Go.AK
