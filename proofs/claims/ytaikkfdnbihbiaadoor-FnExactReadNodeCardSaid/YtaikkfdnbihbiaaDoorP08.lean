/- Reading a line: the program and the reference agree, plainly. -/
import Derived.Test.YtaikkfdnbihbiaaDoorP07
namespace Go.AK
set_option linter.unusedVariables false
set_option linter.unusedSimpArgs false
open Go Go.RowKit
/-! ### decimals back -/
def isD (b : UInt8) : Prop := 48 ≤ b.toNat ∧ b.toNat ≤ 57
theorem digit_toNat {k : Nat} (h : k < 10) : (UInt8.ofNat (48 + k)).toNat = 48 + k := by rw [UInt8.toNat_ofNat']; omega
theorem digit_D {k : Nat} (h : k < 10) : isD (UInt8.ofNat (48 + k)) := by unfold isD; rw [digit_toNat h]; omega
theorem decDigits_D (u : Nat) : ∀ b ∈ Lib.decDigits u, isD b := by
  intro b hb
  rw [Lib.decDigits] at hb
  split at hb
  · rw [List.mem_singleton] at hb; subst hb; exact digit_D (by omega)
  · rcases List.mem_append.1 hb with hb | hb
    · exact decDigits_D (u / 10) b hb
    · rw [List.mem_singleton] at hb; subst hb; exact digit_D (by omega)
termination_by u
theorem decDigits_ne (u : Nat) : Lib.decDigits u ≠ [] := by
  rw [Lib.decDigits]; split <;> simp
theorem parse_app : ∀ (l : List UInt8) (acc v : Nat) (c : UInt8), Lib.parseUint10 acc l = .ok v → isD c → v < 1844674407370955162 → v * 10 + (c.toNat - 48) < 18446744073709551616 → Lib.parseUint10 acc (l ++ [c]) = .ok (v * 10 + (c.toNat - 48))
  | [], acc, v, c, h, hc, h1, h2 => by
    simp only [Lib.parseUint10] at h
    injection h with h
    subst h
    simp only [List.nil_append, Lib.parseUint10]
    rw [if_pos (show 48 ≤ c.toNat ∧ c.toNat ≤ 57 from hc), if_neg (by omega), if_neg (by omega)]
  | b :: l, acc, v, c, h, hc, h1, h2 => by
    simp only [List.cons_append, Lib.parseUint10] at h ⊢
    split at h
    · rename_i hb
      rw [if_pos hb]
      split at h
      · cases h
      · rename_i h3
        rw [if_neg h3]
        split at h
        · cases h
        · rename_i h4
          rw [if_neg h4]
          exact parse_app l _ v c h hc h1 h2
    · cases h
theorem parse_digits (u : Nat) (h : u ≤ 1000000000000) : Lib.parseUint10 0 (Lib.decDigits u) = .ok u := by
  rw [Lib.decDigits]
  split
  · rename_i h1
    have := parse_app [] 0 0 (UInt8.ofNat (48 + u)) rfl (digit_D h1) (by decide) (by rw [digit_toNat h1]; omega)
    rw [digit_toNat h1] at this
    simp only [List.nil_append] at this
    rw [this]; congr 1; omega
  · have ih := parse_digits (u / 10) (by omega)
    have := parse_app _ 0 (u / 10) (UInt8.ofNat (48 + u % 10)) ih (digit_D (by omega)) (by omega) (by rw [digit_toNat (by omega)]; omega)
    rw [digit_toNat (by omega)] at this
    rw [this]; congr 1; omega
termination_by u
theorem itoa_nat {m : Int} (h : 0 ≤ m) : Lib.itoa m = Lib.decDigits m.toNat := by rw [Lib.itoa, if_neg (by omega)]
theorem atoiAll_itoa {m : Int} (h0 : 0 ≤ m) (h1 : m ≤ 1000000000) : Lib.atoiAll (Lib.itoa m) = .ok m := by
  rw [itoa_nat h0]
  have hp := parse_digits m.toNat (by omega)
  have hD := decDigits_D m.toNat
  have hne := decDigits_ne m.toNat
  generalize Lib.decDigits m.toNat = l at *
  match l, hne with
  | c :: r, _ =>
    have hc := hD c List.mem_cons_self
    unfold isD at hc
    rw [Lib.atoiAll_plain c r (by omega) (by omega)]
    unfold Lib.parseMag
    rw [if_neg (by simp), hp]
    unfold Lib.signless
    simp only
    split
    · omega
    · congr 1; omega
theorem atoiN_itoa {m : Int} (h0 : 0 ≤ m) (h1 : m ≤ 1000000000) : atoiN (itoaS m) = m ∧ okW (itoaS m) = true := by
  have h := atoiAll_itoa h0 h1
  have hn : atoiN (itoaS m) = m := by unfold atoiN; rw [itoaS_list, h]
  refine ⟨hn, ?_⟩
  unfold okW atoiOk
  rw [hn, itoaS_list, h]
  simp
theorem dig_fold (s : ByteArray) (i a : Nat) (hD : ∀ b ∈ s.data.toList, isD b) : digFrom s i a = some ((s.data.toList.drop i).foldl (fun a b => 10 * a + (b.toNat - 48)) a) := by
  unfold digFrom
  have hlen : s.data.toList.length = s.size := Array.length_toList
  split
  · rename_i hi
    have hi' : i < s.data.toList.length := by omega
    have hb : bt s i = (s.data.toList[i]).toNat := by
      have : s.data[i]? = some s.data.toList[i] := by rw [← Array.getElem?_toList]; exact List.getElem?_eq_getElem hi'
      simp only [bt, this, Option.getD_some]
    have hd := hD _ (List.getElem_mem hi')
    unfold isD at hd
    rw [if_neg (by simp only [Bool.not_eq_true', Bool.and_eq_false_iff, decide_eq_false_iff_not]; omega), dig_fold s (i + 1) _ hD, List.drop_eq_getElem_cons hi', List.foldl_cons, hb]
    congr 2; omega
  · rw [List.drop_eq_nil_of_le (by omega)]; rfl
termination_by s.size - i
theorem fold_digits (u : Nat) : (Lib.decDigits u).foldl (fun a b => 10 * a + (b.toNat - 48)) 0 = u := by
  rw [Lib.decDigits]
  split
  · rename_i h; simp only [List.foldl_cons, List.foldl_nil]; rw [digit_toNat h]; omega
  · rw [List.foldl_append, fold_digits (u / 10)]
    simp only [List.foldl_cons, List.foldl_nil]
    rw [digit_toNat (by omega)]; omega
termination_by u
theorem len_digits : ∀ (k u : Nat), u < 10 ^ (k + 1) → (Lib.decDigits u).length ≤ k + 1
  | 0, u, h => by rw [Lib.decDigits, dif_pos (by simpa using h)]; simp
  | k + 1, u, h => by
    rw [Lib.decDigits]
    split
    · simp
    · have := len_digits k (u / 10) (by rw [Nat.pow_succ] at h; omega)
      simp only [List.length_append, List.length_cons, List.length_nil]; omega
theorem decNum_itoa {m : Int} (h0 : 0 ≤ m) (h1 : m ≤ 1000000000) : (decNum (itoaS m) 1000000000).1 = m := by
  have hl : (itoaS m).data.toList = Lib.decDigits m.toNat := by rw [itoaS_list, itoa_nat h0]
  have hD : ∀ b ∈ (itoaS m).data.toList, isD b := by rw [hl]; exact decDigits_D _
  have hsz : (itoaS m).size = (Lib.decDigits m.toNat).length := by rw [← hl]; exact Array.length_toList.symm
  have hlen := len_digits 9 m.toNat (by omega)
  have hpos := List.length_pos_iff.2 (decDigits_ne m.toNat)
  have hb0 : ¬ bt (itoaS m) 0 = 45 := by
    have hi' : 0 < (itoaS m).data.toList.length := by rw [hl]; exact hpos
    have hd := hD _ (List.getElem_mem hi')
    unfold isD at hd
    have : (itoaS m).data[0]? = some (itoaS m).data.toList[0] := by rw [← Array.getElem?_toList]; exact List.getElem?_eq_getElem hi'
    simp only [bt, this, Option.getD_some]; omega
  have hf : digFrom (itoaS m) 0 0 = some m.toNat := by rw [dig_fold _ _ _ hD, List.drop_zero, hl, fold_digits]
  have c1 : (!inR 1000000000 0 1000000000000 || decide (((itoaS m).size : Int) = 0) || decide (14 < ((itoaS m).size : Int))) = false := by
    have a1 : decide (((itoaS m).size : Int) = 0) = false := decide_eq_false (by omega)
    have a2 : decide (14 < ((itoaS m).size : Int)) = false := decide_eq_false (by omega)
    rw [a1, a2]; rfl
  unfold decNum
  rw [if_neg (by rw [c1]; decide), if_neg (by simpa using hb0), hf]
  show (decFin (itoaS m) 1000000000 (m.toNat : Int)).1 = m
  rw [Int.toNat_of_nonneg h0]
  unfold decFin
  have c2 : (!decide (itoaS m = itoaS m) || decide (1000000000 < m) || decide (m < -1000000000)) = false := by
    have a1 : decide (1000000000 < m) = false := by simp; omega
    have a2 : decide (m < -1000000000) = false := by simp; omega
    rw [a1, a2]; simp
  rw [if_neg (by rw [c2]; decide)]
/-! ### digits of bytes back -/
theorem hexVal_dig : ∀ n : Fin 16, hexVal (hexDig (n.val : Int)) = (n.val : Int) := by decide +kernel
theorem hexVal_hexDig {q : Int} (h0 : 0 ≤ q) (h1 : q < 16) : hexVal (hexDig q) = q := by
  have := hexVal_dig ⟨q.toNat, by omega⟩
  simp only [Int.toNat_of_nonneg h0] at this
  exact this
theorem hexDig_b : ∀ n : Fin 16, 48 ≤ hexDig (n.val : Int) ∧ hexDig (n.val : Int) < 103 ∧ hexDig (n.val : Int) ≠ 32 := by decide +kernel
theorem hexDig_bound {q : Int} (h0 : 0 ≤ q) (h1 : q < 16) : 48 ≤ hexDig q ∧ hexDig q < 103 := by
  have := hexDig_b ⟨q.toNat, by omega⟩
  simp only [Int.toNat_of_nonneg h0] at this
  exact ⟨this.1, this.2.1⟩
theorem bt_q (s : ByteArray) (i : Nat) : 0 ≤ (bt s i).tdiv 16 ∧ (bt s i).tdiv 16 < 16 ∧ 0 ≤ (bt s i).tmod 16 ∧ (bt s i).tmod 16 < 16 ∧ 16 * (bt s i).tdiv 16 + (bt s i).tmod 16 = bt s i := by
  have b0 := bt_lo s i
  have b1 := bt_hi s i
  rw [Int.tdiv_eq_ediv_of_nonneg b0, Int.tmod_eq_emod_of_nonneg b0]
  omega
theorem hexUp_get (s : ByteArray) : ∀ (n k : Nat), k < n → (hexUp s n)[2 * k]? = some (hexDig ((bt s k).tdiv 16)) ∧ (hexUp s n)[2 * k + 1]? = some (hexDig ((bt s k).tmod 16))
  | 0, k, h => by omega
  | n + 1, k, h => by
    have hl := hexUp_len s n
    simp only [hexUp]
    by_cases e : k = n
    · subst e
      rw [List.getElem?_append_right (by omega), List.getElem?_append_right (by omega), hl]
      simp
    · obtain ⟨h1, h2⟩ := hexUp_get s n k (by omega)
      rw [List.getElem?_append_left (by omega), List.getElem?_append_left (by omega)]
      exact ⟨h1, h2⟩
theorem bt_ofInts {l : List Int} {j : Nat} {x : Int} (h : l[j]? = some x) (h0 : 0 ≤ x) (h1 : x < 256) : bt (ofInts l) j = x := by
  have : (ofInts l).data[j]? = some (UInt8.ofNat x.toNat) := by simp [ofInts, h]
  simp only [bt, this, Option.getD_some]
  rw [UInt8.toNat_ofNat']; omega
theorem unhexFrom_hex (d : ByteArray) (k : Nat) (hk : k ≤ d.size) : unhexFrom (hexS d) (2 * k) = some ((List.range' k (d.size - k)).map (bt d)) := by
  have hsz := hexS_size d
  unfold unhexFrom
  split
  · rename_i h
    have hlt : k < d.size := by omega
    obtain ⟨g1, g2⟩ := hexUp_get d d.size k hlt
    obtain ⟨q1, q2, q3, q4, q5⟩ := bt_q d k
    have e1 : bt (hexS d) (2 * k) = hexDig ((bt d k).tdiv 16) := by
      have := hexDig_bound q1 q2
      exact bt_ofInts g1 (by omega) (by omega)
    have e2 : bt (hexS d) (2 * k + 1) = hexDig ((bt d k).tmod 16) := by
      have := hexDig_bound q3 q4
      exact bt_ofInts g2 (by omega) (by omega)
    rw [e1, e2, hexVal_hexDig q1 q2, hexVal_hexDig q3 q4, if_neg (by simp; omega), show 2 * k + 2 = 2 * (k + 1) by omega, unhexFrom_hex d (k + 1) (by omega), Option.map_some, q5]
    rw [show d.size - k = d.size - (k + 1) + 1 by omega, List.range'_succ, List.map_cons]
  · rw [show d.size - k = 0 by omega]; rfl
termination_by d.size - k
theorem ofInts_bt (d : ByteArray) : ofInts ((List.range' 0 d.size).map (bt d)) = d := by
  apply ba_ext
  refine List.ext_getElem? fun j => ?_
  have hlen : d.data.toList.length = d.size := Array.length_toList
  by_cases h : j < d.size
  · have h1 : d.data[j]? = some d.data.toList[j] := by rw [← Array.getElem?_toList]; exact List.getElem?_eq_getElem (by omega)
    rw [Array.getElem?_toList (xs := d.data), h1]
    simp [ofInts, h, bt, h1]
  · rw [List.getElem?_eq_none (by simp [ofInts]; omega), List.getElem?_eq_none (by omega)]
theorem unhex_hex {d : ByteArray} (h : d.size ≤ 20000) : unhex (hexS d) = some d := by
  have hsz := hexS_size d
  unfold unhex
  rw [if_pos ⟨by rw [Int.tmod_eq_emod_of_nonneg (by omega)]; omega, by omega⟩]
  have := unhexFrom_hex d 0 (Nat.zero_le _)
  rw [Nat.mul_zero, Nat.sub_zero] at this
  rw [this, Option.map_some, ofInts_bt]
theorem dash_ne {d : ByteArray} : hexS d ≠ ⟨#[45]⟩ := by
  intro h
  have := congrArg ByteArray.size h
  rw [hexS_size] at this
  have : (⟨#[45]⟩ : ByteArray).size = 1 := rfl
  omega
/-! ### the words of a joined line -/
theorem spl_free (c : UInt8) : ∀ (x l : List UInt8), c ∉ x → spl c (x ++ c :: l) = x :: spl c l
  | [], l, _ => by simp [spl]
  | b :: x, l, h => by
    have hb : b ≠ c := fun e => h (by rw [e]; exact List.mem_cons_self)
    rw [List.cons_append, spl_cons_ne hb, spl_free c x l fun hm => h (List.mem_cons_of_mem _ hm)]
    rfl
theorem spl_one (c : UInt8) : ∀ (x : List UInt8), c ∉ x → spl c x = [x]
  | [], _ => rfl
  | b :: x, h => by
    have hb : b ≠ c := fun e => h (by rw [e]; exact List.mem_cons_self)
    rw [spl_cons_ne hb, spl_one c x fun hm => h (List.mem_cons_of_mem _ hm)]
    rfl
theorem spl_join (c : UInt8) : ∀ (l : List (List UInt8)) (x : List UInt8), (∀ y ∈ x :: l, c ∉ y) → spl c (Lib.join (x :: l) [c]) = x :: l
  | [], x, h => by rw [Lib.join_one]; exact spl_one c x (h x List.mem_cons_self)
  | y :: l, x, h => by
    have e : Lib.join (x :: y :: l) [c] = x ++ c :: Lib.join (y :: l) [c] := by
      rw [Lib.join_cons, Lib.join_cons]
      simp [Lib.joinTail]
    rw [e, spl_free c x _ (h x List.mem_cons_self), spl_join c l y fun z hz => h z (List.mem_cons_of_mem _ hz)]
theorem splitC_list (s : ByteArray) (c : UInt8) : (splitC s c.toNat).map (·.data.toList) = spl c s.data.toList := by
  unfold splitC
  rw [splitAt_list s c 0 0 (Nat.le_refl _) (Nat.zero_le _)]
  simp only [List.take_zero, List.drop_nil, List.drop_zero]
  cases hs : spl c s.data.toList with
  | nil => exact absurd hs (spl_ne _ _)
  | cons y ys => simp [pre]
theorem map_data_inj : ∀ {l m : List ByteArray}, l.map (·.data.toList) = m.map (·.data.toList) → l = m
  | [], [], _ => rfl
  | [], b :: m, h => by simp at h
  | a :: l, [], h => by simp at h
  | a :: l, b :: m, h => by
    simp only [List.map_cons, List.cons.injEq] at h
    rw [ba_ext h.1, map_data_inj h.2]
theorem split_join (x : ByteArray) (l : List ByteArray) (h : ∀ y ∈ x :: l, (32 : UInt8) ∉ y.data.toList) : splitC (joinS (x :: l) ⟨#[32]⟩) 32 = x :: l := by
  apply map_data_inj
  have := splitC_list (joinS (x :: l) ⟨#[32]⟩) 32
  have e32 : (((32 : UInt8).toNat : Nat) : Int) = 32 := rfl
  rw [e32] at this
  rw [this]
  show spl 32 (Lib.join ((x :: l).map (·.data.toList)) [32]) = _
  rw [List.map_cons, spl_join]
  intro y hy
  have hy : y ∈ (x :: l).map (·.data.toList) := hy
  obtain ⟨z, hz, rfl⟩ := List.mem_map.1 hy
  exact h z hz
/-! ### no blanks -/
theorem nameFrom_all (s : ByteArray) (i : Nat) (h : nameFrom s i = true) : ∀ j, i ≤ j → j < s.size → nameC (bt s j) = true := by
  intro j hij hj
  unfold nameFrom at h
  rw [if_pos (by omega), Bool.and_eq_true] at h
  by_cases e : i = j
  · subst e; exact h.1
  · exact nameFrom_all s (i + 1) h.2 j (by omega) hj
termination_by s.size - i
theorem mem_bt {s : ByteArray} {b : UInt8} (h : b ∈ s.data.toList) : ∃ j, j < s.size ∧ bt s j = b.toNat := by
  obtain ⟨j, hj, e⟩ := List.mem_iff_getElem.1 h
  have hlen : s.data.toList.length = s.size := Array.length_toList
  refine ⟨j, by omega, ?_⟩
  have : s.data[j]? = some b := by rw [← Array.getElem?_toList, ← e]; exact List.getElem?_eq_getElem hj
  simp only [bt, this, Option.getD_some]
theorem name_noblank {s : ByteArray} (h : nameOk s = true) : (32 : UInt8) ∉ s.data.toList := by
  intro hm
  obtain ⟨j, hj, e⟩ := mem_bt hm
  unfold nameOk at h
  simp only [Bool.and_eq_true] at h
  have := nameFrom_all s 0 h.1.1.1 j (Nat.zero_le _) hj
  rw [e] at this
  exact absurd this (by decide)
theorem mem_spl (c : UInt8) : ∀ (l : List UInt8) (b : UInt8), b ∈ l → b = c ∨ ∃ y ∈ spl c l, b ∈ y
  | a :: l, b, h => by
    rcases List.mem_cons.1 h with rfl | h
    · by_cases e : b = c
      · exact .inl e
      · refine .inr ?_
        rw [spl_cons_ne e]
        cases hs : spl c l with
        | nil => exact absurd hs (spl_ne _ _)
        | cons y ys => exact ⟨b :: y, by simp [pre], List.mem_cons_self⟩
    · rcases mem_spl c l b h with h1 | ⟨y, h1, h2⟩
      · exact .inl h1
      · refine .inr ?_
        by_cases e : a = c
        · subst e
          unfold spl
          rw [if_pos rfl]
          exact ⟨y, List.mem_cons_of_mem _ h1, h2⟩
        · rw [spl_cons_ne e]
          cases hs : spl c l with
          | nil => exact absurd hs (spl_ne _ _)
          | cons z zs =>
            rw [hs] at h1
            rcases List.mem_cons.1 h1 with rfl | h1
            · exact ⟨a :: y, by simp [pre], List.mem_cons_of_mem _ h2⟩
            · exact ⟨y, by simp [pre, h1], h2⟩
theorem path_noblank {p : ByteArray} (h : pathOk p = true) : (32 : UInt8) ∉ p.data.toList := by
  intro hm
  have hs := splitC_list p 47
  rcases mem_spl 47 _ _ hm with e | ⟨y, hy, hb⟩
  · exact absurd e (by decide)
  · rw [← hs] at hy
    obtain ⟨w, hw, rfl⟩ := List.mem_map.1 hy
    have e47 : (((47 : UInt8).toNat : Nat) : Int) = 47 := rfl
    rw [e47, ← names_of_ok h] at hw
    have hall : ∀ w ∈ (namesOf p).getD [], nameOk w = true := by
      intro w hw
      unfold namesOf at hw
      split at hw
      · simp at hw
      · split at hw
        · simp at hw
        · split at hw
          · rename_i ha
            exact (List.all_eq_true.1 ha) w hw
          · simp at hw
    exact name_noblank (hall w hw) hb
theorem itoa_noblank {m : Int} (h : 0 ≤ m) : (32 : UInt8) ∉ (itoaS m).data.toList := by
  intro hm
  rw [itoaS_list, itoa_nat h] at hm
  have := decDigits_D _ _ hm
  unfold isD at this
  have e : (32 : UInt8).toNat = 32 := rfl
  omega
theorem hexUp_bound (s : ByteArray) : ∀ (n : Nat) (x : Int), x ∈ hexUp s n → 48 ≤ x ∧ x < 103
  | 0, x, h => by simp [hexUp] at h
  | n + 1, x, h => by
    obtain ⟨q1, q2, q3, q4, q5⟩ := bt_q s n
    simp only [hexUp, List.mem_append, List.mem_cons, List.not_mem_nil, or_false] at h
    rcases h with h | rfl | rfl
    · exact hexUp_bound s n x h
    · exact hexDig_bound q1 q2
    · exact hexDig_bound q3 q4
theorem hex_noblank (d : ByteArray) : (32 : UInt8) ∉ (hexO d).data.toList := by
  unfold hexO
  split
  · decide
  · intro hm
    simp only [hexS, ofInts, List.mem_map] at hm
    obtain ⟨x, hx, e⟩ := hm
    have := hexUp_bound d _ x hx
    have e2 := congrArg UInt8.toNat e
    rw [UInt8.toNat_ofNat'] at e2
    have e3 : (32 : UInt8).toNat = 32 := rfl
    omega
/-! ### a line and its node -/
theorem hexO_dash {d : ByteArray} : hexO d = ⟨#[45]⟩ ↔ d = ⟨#[]⟩ := by
  unfold hexO
  split
  · rename_i h; exact ⟨fun _ => h, fun _ => rfl⟩
  · rename_i h; exact ⟨fun e => absurd e dash_ne, fun e => absurd e h⟩
theorem read_hexO {d : ByteArray} (h : d.size ≤ 20000) : unH (hexO d) = d := by
  unfold unH
  by_cases e : d = ⟨#[]⟩
  · rw [if_pos (decide_eq_true (hexO_dash.2 e)), e]
  · rw [if_neg (by simpa using fun h => e (hexO_dash.1 h))]
    have : hexO d = hexS d := by unfold hexO; rw [if_neg e]
    rw [this, unhex_hex h]; rfl
theorem byt_hexO {d : ByteArray} {l : List ByteArray} {b : Bool} (h : d.size ≤ 20000) : bytV ⟨hexO d :: l, b⟩ = d ∧ (byt ⟨hexO d :: l, b⟩).bad = b := by
  have hh : hd (hexO d :: l) = hexO d := rfl
  unfold bytV byt
  simp only [hh]
  by_cases e : d = ⟨#[]⟩
  · rw [if_pos (decide_eq_true (hexO_dash.2 e)), if_pos (decide_eq_true (hexO_dash.2 e)), e]
    exact ⟨rfl, by simp [nx]⟩
  · rw [if_neg (by simpa using fun h => e (hexO_dash.1 h)), if_neg (by simpa using fun h => e (hexO_dash.1 h))]
    have : hexO d = hexS d := by unfold hexO; rw [if_neg e]
    rw [this, unhex_hex h]
    exact ⟨rfl, by simp⟩
theorem num_bad {m : Int} {l : List ByteArray} {b : Bool} (h0 : 0 ≤ m) (h1 : m ≤ 1000000000) : num ⟨itoaS m :: l, b⟩ = ⟨l, b⟩ := by
  unfold num
  have hh : hd (itoaS m :: l) = itoaS m := rfl
  simp only [hh, (atoiN_itoa h0 h1).2]
  simp
theorem nx_cons {x : ByteArray} {l : List ByteArray} {b : Bool} : nx ⟨x :: l, b⟩ = ⟨l, b⟩ := by simp [nx]
theorem all4 {α : Type} {P : α → Prop} {a b c d : α} (ha : P a) (hb : P b) (hc : P c) (hd : P d) : ∀ y ∈ [a, b, c, d], P y := by
  intro y hy
  rcases List.mem_cons.1 hy with rfl | hy
  · exact ha
  rcases List.mem_cons.1 hy with rfl | hy
  · exact hb
  rcases List.mem_cons.1 hy with rfl | hy
  · exact hc
  rw [List.mem_singleton] at hy; subst hy; exact hd
theorem all6 {α : Type} {P : α → Prop} {a b c d e f : α} (ha : P a) (hb : P b) (hc : P c) (hd : P d) (he : P e) (hf : P f) : ∀ y ∈ [a, b, c, d, e, f], P y := by
  intro y hy
  rcases List.mem_cons.1 hy with rfl | hy
  · exact ha
  rcases List.mem_cons.1 hy with rfl | hy
  · exact hb
  exact all4 hc hd he hf y hy
theorem dec_no {p : Prop} {i : Decidable p} (h : ¬ p) : ¬ @decide p i = true := fun e => h (@of_decide_eq_true p i e)
theorem dec_yes {p : Prop} {i : Decidable p} (h : p) : @decide p i = true := @decide_eq_true p i h
theorem hd_cons {x : ByteArray} {l : List ByteArray} : hd (x :: l) = x := rfl
/-- the words of a node's line -/
def wordsN (n : Nd) : List ByteArray :=
  if n.kind = 0 then [⟨#[100]⟩, n.path, itoaS n.mode, itoaS n.time] else if n.kind = 1 then [⟨#[102]⟩, n.path, itoaS n.mode, itoaS n.time, itoaS n.group, hexO n.data] else [⟨#[108]⟩, n.path, itoaS n.time, hexO n.target]
theorem split_show {n : Nd} (h : nodeOk n = true) : splitC (showN n) 32 = wordsN n := by
  obtain ⟨hp, hm, ht, hk⟩ := nodeOk_parts h
  have p := path_noblank hp
  have m := itoa_noblank hm.1
  have t := itoa_noblank ht.1
  have a := hex_noblank n.data
  have b := hex_noblank n.target
  unfold showN wordsN
  rcases hk with hk | hk | hk
  · rw [if_pos (decide_eq_true hk.1), if_pos hk.1, split_join]
    exact all4 (by decide) p m t
  · have k0 : ¬ n.kind = 0 := by omega
    rw [if_neg (by simpa using k0), if_neg k0, if_pos (decide_eq_true hk.1), if_pos hk.1, split_join]
    exact all6 (by decide) p m t (itoa_noblank hk.2.2.2.1) a
  · have k0 : ¬ n.kind = 0 := by omega
    have k1 : ¬ n.kind = 1 := by omega
    rw [if_neg (by simpa using k0), if_neg k0, if_neg (by simpa using k1), if_neg k1, split_join]
    exact all4 (by decide) p t b
theorem readChk_ok {s : ByteArray} {w : Wd} {n : Nd} (h1 : w.bad = false) (h2 : nodeOk n = true) (h3 : showN n = s) : readChk s w n = some n := by
  unfold readChk
  rw [if_neg (by rw [h1, h2]; simp [h3])]
/-- the program reads a right node's line -/
theorem readI_show {n : Nd} (h : nodeOk n = true) : readI (showN n) = some n := by
  have hs := split_show h
  obtain ⟨hp, hm, ht, hk⟩ := nodeOk_parts h
  obtain ⟨path, kind, mode, time, data, target, group⟩ := n
  unfold readI
  rw [hs]
  rcases hk with hk | hk | hk
  · obtain ⟨k0, k1, k2, k3⟩ := hk
    simp only at k0 k1 k2 k3 hm ht
    subst k0; subst k1; subst k2; subst k3
    have e : wordsN ⟨path, 0, mode, time, ⟨#[]⟩, ⟨#[]⟩, 0⟩ = [⟨#[100]⟩, path, itoaS mode, itoaS time] := rfl
    rw [e]
    simp only [hd_cons, nx_cons, num_bad hm.1 (by omega), num_bad ht.1 ht.2]
    rw [if_pos (by rfl)]
    rw [(atoiN_itoa hm.1 (by omega)).1, (atoiN_itoa ht.1 ht.2).1]
    exact readChk_ok rfl h rfl
  · obtain ⟨k0, k1, k2, k3, k4⟩ := hk
    simp only at k0 k1 k2 k3 k4 hm ht
    subst k0; subst k2
    have e : wordsN ⟨path, 1, mode, time, data, ⟨#[]⟩, group⟩ = [⟨#[102]⟩, path, itoaS mode, itoaS time, itoaS group, hexO data] := rfl
    rw [e]
    simp only [hd_cons, nx_cons, num_bad hm.1 (by omega), num_bad ht.1 ht.2, num_bad k3 (by omega)]
    refine (if_neg (dec_no (by decide))).trans ((if_pos (dec_yes (by trivial))).trans ?_)
    rw [(atoiN_itoa hm.1 (by omega)).1, (atoiN_itoa ht.1 ht.2).1, (atoiN_itoa k3 (by omega)).1, (byt_hexO k1).1]
    exact readChk_ok (byt_hexO k1).2 h rfl
  · obtain ⟨k0, k1, k2, k3, k4, k5, k6⟩ := hk
    simp only at k0 k1 k2 k3 k4 k5 k6 hm ht
    subst k0; subst k1; subst k2; subst k3
    have e : wordsN ⟨path, 2, 0, time, ⟨#[]⟩, target, 0⟩ = [⟨#[108]⟩, path, itoaS time, hexO target] := rfl
    rw [e]
    simp only [hd_cons, nx_cons, num_bad ht.1 ht.2]
    refine (if_neg (dec_no (by decide))).trans ((if_neg (dec_no (by decide))).trans ((if_pos (dec_yes (by trivial))).trans ?_))
    rw [(atoiN_itoa ht.1 ht.2).1, (byt_hexO (by omega)).1]
    exact readChk_ok (byt_hexO (by omega)).2 h rfl
theorem nodeS_words {n : Nd} (h : nodeOk n = true) : nodeS (wordsN n) = n := by
  obtain ⟨hp, hm, ht, hk⟩ := nodeOk_parts h
  obtain ⟨path, kind, mode, time, data, target, group⟩ := n
  have dm := decNum_itoa hm.1 (by have := hm.2; omega)
  have dt := decNum_itoa ht.1 ht.2
  rcases hk with hk | hk | hk
  · obtain ⟨k0, k1, k2, k3⟩ := hk
    simp only at k0 k1 k2 k3 dm dt
    subst k0; subst k1; subst k2; subst k3
    have e : wordsN ⟨path, 0, mode, time, ⟨#[]⟩, ⟨#[]⟩, 0⟩ = [⟨#[100]⟩, path, itoaS mode, itoaS time] := rfl
    rw [e]
    unfold nodeS
    rw [if_pos (by rfl)]
    show (⟨path, 0, (decNum (itoaS mode) 1000000000).1, (decNum (itoaS time) 1000000000).1, ⟨#[]⟩, ⟨#[]⟩, 0⟩ : Nd) = _
    rw [dm, dt]
  · obtain ⟨k0, k1, k2, k3, k4⟩ := hk
    simp only at k0 k1 k2 k3 k4 dm dt
    subst k0; subst k2
    have e : wordsN ⟨path, 1, mode, time, data, ⟨#[]⟩, group⟩ = [⟨#[102]⟩, path, itoaS mode, itoaS time, itoaS group, hexO data] := rfl
    rw [e]
    unfold nodeS
    rw [if_neg (by simp [hd_cons]), if_pos (by rfl)]
    show (⟨path, 1, (decNum (itoaS mode) 1000000000).1, (decNum (itoaS time) 1000000000).1, unH (hexO data), ⟨#[]⟩, (decNum (itoaS group) 1000000000).1⟩ : Nd) = _
    rw [dm, dt, read_hexO k1, decNum_itoa k3 (by omega)]
  · obtain ⟨k0, k1, k2, k3, k4, k5, k6⟩ := hk
    simp only at k0 k1 k2 k3 k4 k5 k6 dm dt
    subst k0; subst k1; subst k2; subst k3
    have e : wordsN ⟨path, 2, 0, time, ⟨#[]⟩, target, 0⟩ = [⟨#[108]⟩, path, itoaS time, hexO target] := rfl
    rw [e]
    unfold nodeS
    rw [if_neg (by rw [hd_cons]; rw [show decide ((⟨#[108]⟩ : ByteArray) = ⟨#[100]⟩) = false by decide]; simp), if_neg (by simp), if_pos (by rfl)]
    show (⟨path, 2, 0, (decNum (itoaS time) 1000000000).1, ⟨#[]⟩, unH (hexO target), 0⟩ : Nd) = _
    rw [dt, read_hexO (by omega)]
theorem wordsN_len (n : Nd) : 2 ≤ (wordsN n).length := by
  unfold wordsN
  split
  · simp
  · split <;> simp
theorem show_ne {n : Nd} (h : nodeOk n = true) : showN n ≠ ⟨#[]⟩ := by
  intro e
  have hs := split_show h
  have h2 := wordsN_len n
  rw [← hs, e] at h2
  have : splitC (⟨#[]⟩ : ByteArray) 32 = [(⟨#[]⟩ : ByteArray).extract 0 0] := by unfold splitC splitAt; rfl
  rw [this] at h2
  simp at h2
/-- the reference reads a right node's line -/
theorem readS_show {n : Nd} (h : nodeOk n = true) : readS (showN n) = some n := by
  unfold readS
  rw [split_show h, nodeS_words h, if_pos h, if_neg (by simp [show_ne h])]
theorem readChk_some {s : ByteArray} {w : Wd} {m n : Nd} (h : readChk s w m = some n) : nodeOk n = true ∧ showN n = s := by
  unfold readChk at h
  split at h
  · cases h
  · rename_i h0
    cases h
    have h0 := Bool.eq_false_iff.2 h0
    simp only [Bool.or_eq_false_iff, Bool.not_eq_false', decide_eq_true_eq] at h0
    exact ⟨h0.1.2, h0.2⟩
theorem readI_some {s : ByteArray} {n : Nd} (h : readI s = some n) : nodeOk n = true ∧ showN n = s := by
  unfold readI at h
  simp only at h
  split at h
  · exact readChk_some h
  · split at h
    · exact readChk_some h
    · split at h
      · exact readChk_some h
      · cases h
theorem readS_some {s : ByteArray} {n : Nd} (h : readS s = some n) : nodeOk n = true ∧ showN n = s := by
  unfold readS at h
  by_cases hk : nodeOk (nodeS (splitC s 32)) = true
  · rw [if_pos hk] at h
    by_cases hc : (decide (s = ⟨#[]⟩) || !decide (showN (nodeS (splitC s 32)) = s)) = true
    · rw [if_pos hc] at h; cases h
    · rw [if_neg hc] at h
      cases h
      have h0 := Bool.eq_false_iff.2 hc
      simp only [Bool.or_eq_false_iff, Bool.not_eq_false', decide_eq_true_eq, decide_eq_false_iff_not] at h0
      exact ⟨hk, h0.2⟩
  · rw [if_neg hk] at h
    by_cases hc : (decide (s = ⟨#[]⟩) || !decide ((⟨#[]⟩ : ByteArray) = s)) = true
    · rw [if_pos hc] at h; cases h
    · have h0 := Bool.eq_false_iff.2 hc
      simp only [Bool.or_eq_false_iff, Bool.not_eq_false', decide_eq_true_eq, decide_eq_false_iff_not] at h0
      exact absurd h0.2.symm h0.1
/-- ████ the program and the reference read alike ████ -/
theorem readI_eq (s : ByteArray) : readI s = readS s := by
  cases h : readI s with
  | some n =>
    obtain ⟨h1, h2⟩ := readI_some h
    rw [← h2, readS_show h1]
  | none =>
    cases h' : readS s with
    | none => rfl
    | some n =>
      obtain ⟨h1, h2⟩ := readS_some h'
      rw [← h2, readI_show h1] at h; cases h
end Go.AK
