/- A number's own text: what the reference reads off it, and the program. -/
import Derived.Test.YtakbdjdafcjglaaGreatDoorO6
import Derived.Lib.AtoiAllCases
namespace Go.Proofs.YtakbdjdafcjglaaGreatDoor.Dm
set_option linter.unusedVariables false
set_option linter.unusedSimpArgs false
def dg (c : UInt8) : Bool := digitB (c.toNat : Int)
theorem dg_iff {c : UInt8} : dg c = true ↔ 48 ≤ c.toNat ∧ c.toNat ≤ 57 := by
  unfold dg digitB
  rw [Bool.and_eq_true, decide_eq_true_eq, decide_eq_true_eq]
  omega
theorem digN_dg (n : Nat) : (digN n).all dg = true := List.all_eq_true.2 fun c hc => (digN_chars n).1 c hc
theorem digN_head : ∀ n : Nat, ∃ c l, digN n = c :: l ∧ (0 < n → c.toNat ≠ 48) := by
  intro n
  induction n using Nat.strongRecOn with
  | ind n ih =>
    unfold digN
    by_cases h : n < 10
    · rw [if_pos h]
      exact ⟨_, _, rfl, fun h0 => by rw [ofNat_toNat (by omega)]; omega⟩
    · rw [if_neg h]
      obtain ⟨c, l, e, hc⟩ := ih (n / 10) (by omega)
      rw [e]
      exact ⟨c, _, rfl, fun _ => hc (by omega)⟩
theorem digN_zero : digN 0 = [48] := by unfold digN; rfl
theorem undig_snoc (l : Tx) (c : UInt8) : undig (l ++ [c]) = undig l * 10 + (c.toNat - 48) := by
  unfold undig
  rw [List.foldl_append]
  rfl
theorem undig_take {l : Tx} {i : Nat} (h : i < l.length) : undig (l.take (i + 1)) = undig (l.take i) * 10 + ((l.getD i 0).toNat - 48) := by
  have e : l.take (i + 1) = l.take i ++ [l[i]] := (List.take_append_getElem h).symm
  have e2 : l.getD i 0 = l[i] := by rw [List.getD_eq_getElem?_getD, List.getElem?_eq_getElem h]; rfl
  rw [e, undig_snoc, e2]
theorem undig_lt {l : Tx} : ∀ i : Nat, i ≤ l.length → (l.take i).all dg = true → undig (l.take i) < 10 ^ i
  | 0, _, _ => by simp [undig]
  | i + 1, h, ha => by
    have e : l.take (i + 1) = l.take i ++ [l[i]] := (List.take_append_getElem (by omega)).symm
    rw [e, List.all_append, Bool.and_eq_true] at ha
    have := undig_lt i (by omega) ha.1
    have hd : dg l[i] = true := by simpa using ha.2
    have hd' := dg_iff.1 hd
    rw [undig_take (by omega), Nat.pow_succ]
    have e2 : l.getD i 0 = l[i] := by rw [List.getD_eq_getElem?_getD, List.getElem?_eq_getElem (by omega)]; rfl
    rw [e2]
    omega
theorem undig_lt18 {l : Tx} {i : Nat} (h : i ≤ l.length) (h18 : l.length ≤ 18) (ha : (l.take i).all dg = true) : undig (l.take i) < 1000000000000000000 := by
  have h1 := undig_lt i h ha
  have h2 : 10 ^ i ≤ 10 ^ 18 := Nat.pow_le_pow_right (by omega) (by omega)
  have h3 : (10 : Nat) ^ 18 = 1000000000000000000 := by decide
  omega
theorem number_loop {s : ByteArray} (hs : s.size ≤ 18) (sg : Int) : ∀ k i : Nat, i + k = s.size → ((bl s).take i).all dg = true →
    spec_l00Number_4 s sg (undig ((bl s).take i) : Int) i = bif ((bl s).drop i).all dg then rIB (IntKind.i64.wrap (sg * (undig (bl s) : Int))) true else rIB 0 false
  | 0, i, h, ha => by
    have hl : (bl s).length = i := by rw [← bl_size]; omega
    rw [spec_l00Number_4_eq, decide_eq_false (by omega), cond_false, List.drop_of_length_le (by omega), List.take_of_length_le (by omega)]
    rfl
  | k + 1, i, h, ha => by
    have hl : i < (bl s).length := by rw [← bl_size]; omega
    have e2 : (bl s).getD i 0 = (bl s)[i] := by rw [List.getD_eq_getElem?_getD, List.getElem?_eq_getElem hl]; rfl
    have e3 : bt s i = ((bl s)[i].toNat : Int) := by rw [bt_bl, e2]
    have h18 : undig ((bl s).take i) < 100000000000000000 := by
      have h1 := undig_lt (l := bl s) i (by omega) ha
      have h2 : 10 ^ i ≤ 10 ^ 17 := Nat.pow_le_pow_right (by omega) (by omega)
      have h3 : (10 : Nat) ^ 17 = 100000000000000000 := by decide
      omega
    have hw : IntKind.i64.wrap ((i : Int) + 1) = ((i + 1 : Nat) : Int) := by rw [wrap_id (by omega)]; omega
    rw [spec_l00Number_4_eq, decide_eq_true (by omega), cond_true, if_pos (by omega), if_pos (by omega), Int.toNat_natCast, e3, List.drop_eq_getElem_cons hl, List.all_cons]
    by_cases hd : dg (bl s)[i] = true
    · have hd' := dg_iff.1 hd
      have ha' : ((bl s).take (i + 1)).all dg = true := by
        have e : (bl s).take (i + 1) = (bl s).take i ++ [(bl s)[i]] := (List.take_append_getElem hl).symm
        rw [e, List.all_append, ha]
        simpa using hd
      have ih := number_loop hs sg k (i + 1) (by omega) ha'
      have ev1 : IntKind.i64.wrap (IntKind.i64.wrap (IntKind.i64.wrap ((undig ((bl s).take i) : Int) * 10) + IntKind.i64.wrap ((bl s)[i].toNat : Int)) - 48) = ((undig ((bl s).take (i + 1)) : Nat) : Int) := by
        rw [undig_take hl, e2, wrap_id (n := (undig ((bl s).take i) : Int) * 10) (by omega), wrap_id (n := ((bl s)[i].toNat : Int)) (by omega), wrap_id (n := _ + _) (by omega), wrap_id (by omega)]
        omega
      rw [decide_eq_false (by omega), cond_false, decide_eq_false (by omega), spec_l00Number_5_eq, cond_false, if_pos (by omega), Int.toNat_natCast, e3, ev1, hw, ih, hd, Bool.true_and]
    · have hf : dg (bl s)[i] = false := by simpa using hd
      have hd' : ¬ (48 ≤ (bl s)[i].toNat ∧ (bl s)[i].toNat ≤ 57) := fun q => hd (dg_iff.2 q)
      rw [hf, Bool.false_and, cond_false]
      by_cases h48 : (bl s)[i].toNat < 48
      · rw [decide_eq_true (by omega), cond_true, spec_l00Number_5_eq, cond_true]
      · rw [decide_eq_false (by omega), cond_false, decide_eq_true (by omega), spec_l00Number_5_eq, cond_true]
/-- behind the sign -/
theorem number2_ev (t : ByteArray) {sg : Int} (hsg : sg = 1 ∨ sg = -1) : ∃ m b, spec_l00Number_2 t sg = rIB m b ∧ (b = true → -1000000000000000000 < m ∧ m < 1000000000000000000) ∧
    (∀ c l, bl t = c :: l → (bl t).length ≤ 18 → (bl t).all dg = true → (c.toNat = 48 → l = [] ∧ sg = 1) → b = true ∧ m = sg * (undig (bl t) : Int)) := by
  have no : ∀ m : Int, spec_l00Number_3 t sg true = rIB 0 false := fun _ => by rw [spec_l00Number_3_eq, cond_true]
  have hz := bl_size t
  have len0 : ((t.size : Int) == 0) = decide (t.size = 0) := len_eq0 _
  rw [spec_l00Number_2_eq, len0]
  by_cases h0 : t.size = 0
  · rw [decide_eq_true h0, cond_true, no 0]
    refine ⟨0, false, rfl, (fun h => by cases h), fun c l e => ?_⟩
    rw [e] at hz; simp at hz; omega
  rw [decide_eq_false h0, cond_false]
  by_cases h18 : ¬ t.size ≤ 18
  · rw [decide_eq_true (by omega), cond_true, no 0]
    exact ⟨0, false, rfl, (fun h => by cases h), fun c l e h => by omega⟩
  have h18 : t.size ≤ 18 := Decidable.not_not.1 h18
  rw [decide_eq_false (by omega), cond_false, if_pos (by omega)]
  have lp := number_loop h18 sg t.size 0 (by omega) rfl
  have z : (undig ((bl t).take 0) : Int) = 0 := rfl
  rw [z, List.drop_zero] at lp
  have run : ∃ m b, spec_l00Number_3 t sg false = rIB m b ∧ (b = true → -1000000000000000000 < m ∧ m < 1000000000000000000) ∧ ((bl t).all dg = true → b = true ∧ m = sg * (undig (bl t) : Int)) := by
    rw [spec_l00Number_3_eq, cond_false]
    have lp' : spec_l00Number_4 t sg 0 0 = _ := lp
    rw [lp']
    cases ha : (bl t).all dg with
    | false => exact ⟨0, false, rfl, (fun h => by cases h), fun h => by cases h⟩
    | true =>
      have := undig_lt18 (l := bl t) (i := (bl t).length) (by omega) (by omega) (by rw [List.take_length]; exact ha)
      rw [List.take_length] at this
      have e : IntKind.i64.wrap (sg * (undig (bl t) : Int)) = sg * (undig (bl t) : Int) := by
        rcases hsg with rfl | rfl <;> exact wrap_id (by omega)
      rw [e]
      exact ⟨_, true, rfl, (fun _ => by rcases hsg with rfl | rfl <;> omega), fun _ => ⟨rfl, rfl⟩⟩
  have e0 : bt t (0 : Int).toNat = (((bl t).getD 0 0).toNat : Int) := rfl
  rw [e0]
  obtain ⟨c, l, hcl⟩ : ∃ c l, bl t = c :: l := by
    cases h : bl t with
    | nil => rw [h] at hz; have : t.size = 0 := hz; omega
    | cons c l => exact ⟨c, l, rfl⟩
  have eg : (bl t).getD 0 0 = c := by rw [hcl]; rfl
  rw [eg, beq_int]
  have hlen : t.size = l.length + 1 := by rw [hz, hcl]; simp
  by_cases h48 : c.toNat = 48
  · rw [decide_eq_true (by omega), cond_true]
    by_cases hone : t.size > 1
    · rw [decide_eq_true (by omega), cond_true, no 0]
      refine ⟨0, false, rfl, (fun h => by cases h), fun c' l' e _ _ hc => ?_⟩
      rw [hcl] at e; injection e with e1 e2; subst e1; subst e2
      have := (hc h48).1
      subst this
      simp at hlen; omega
    · rw [decide_eq_false (by omega), cond_false]
      rcases hsg with rfl | rfl
      · obtain ⟨m, b, q1, q2, q3⟩ := run
        exact ⟨m, b, q1, q2, fun c' l' _ _ ha _ => q3 ha⟩
      · have : decide ((-1 : Int) < 0) = true := by decide
        rw [this, no 0]
        refine ⟨0, false, rfl, (fun h => by cases h), fun c' l' e _ _ hc => ?_⟩
        rw [hcl] at e; injection e with e1 e2; subst e1; subst e2
        have := (hc h48).2
        omega
  · rw [decide_eq_false (by omega), cond_false]
    obtain ⟨m, b, q1, q2, q3⟩ := run
    exact ⟨m, b, q1, q2, fun c' l' _ _ ha _ => q3 ha⟩
/-- s is the number n's own text, and n has 32 bits -/
def numAt (s : ByteArray) (n : Int) : Prop := bl s = digI n ∧ withinB n (-2147483648) 2147483647 = true
theorem withinB_iff {n a b : Int} : withinB n a b = true ↔ a ≤ n ∧ n ≤ b := by simp [withinB]
theorem digN_head45 (n : Nat) {c : UInt8} {l : Tx} (h : digN n = c :: l) : c.toNat ≠ 45 := by
  have := List.all_eq_true.1 (digN_dg n) c (by rw [h]; simp)
  have := dg_iff.1 this
  omega
theorem digN_inj {a b : Nat} (h : digN a = digN b) : a = b := by rw [← undig_digN a, h, undig_digN]
theorem digI_inj {a b : Int} (h : digI a = digI b) : a = b := by
  unfold digI at h
  obtain ⟨ca, la, ea, _⟩ := digN_head a.toNat
  obtain ⟨cb, lb, eb, _⟩ := digN_head b.toNat
  have na := digN_head45 _ ea
  have nb := digN_head45 _ eb
  by_cases ha : a < 0
  · rw [if_pos ha] at h
    by_cases hb : b < 0
    · rw [if_pos hb] at h
      injection h with _ h
      have := digN_inj h
      omega
    · rw [if_neg hb, eb] at h
      injection h with h _
      exact absurd (by rw [← h]; rfl) nb
  · rw [if_neg ha] at h
    by_cases hb : b < 0
    · rw [if_pos hb, ea] at h
      injection h with h _
      exact absurd (by rw [h]; rfl) na
    · rw [if_neg hb] at h
      have := digN_inj h
      omega
theorem numAt_inj {s : ByteArray} {a b : Int} (ha : numAt s a) (hb : numAt s b) : a = b := digI_inj (ha.1.symm.trans hb.1)
theorem digN_len10 {n : Nat} (h : n ≤ 2147483648) : (digN n).length ≤ 10 := by
  have e : (10 : Nat) ^ (9 + 1) = 10000000000 := by decide
  exact digN_len 9 n (by rw [e]; omega)
theorem number_ev (s : ByteArray) : ∃ m b, ev E0 F_spec_l00Number [.p (.str s)] [] = rIB m b ∧ (b = true → -1000000000000000000 < m ∧ m < 1000000000000000000) ∧ (∀ n, numAt s n → b = true ∧ m = n) := by
  rw [spec_l00Number_0_ev, spec_l00Number_0_eq]
  have hz := bl_size s
  have plain : (∀ c l, bl s = c :: l → c.toNat ≠ 45) → ∃ m b, spec_l00Number_1 s 1 false = rIB m b ∧ (b = true → -1000000000000000000 < m ∧ m < 1000000000000000000) ∧ (∀ n, numAt s n → b = true ∧ m = n) := by
    intro h45
    rw [spec_l00Number_1_eq, cond_false]
    obtain ⟨m, b, q1, q2, q3⟩ := number2_ev s (sg := 1) (.inl rfl)
    refine ⟨m, b, q1, q2, fun n hn => ?_⟩
    have hb := withinB_iff.1 hn.2
    have h1 := hn.1
    unfold digI at h1
    by_cases hneg : n < 0
    · rw [if_pos hneg] at h1
      exact absurd rfl (h45 _ _ h1)
    · rw [if_neg hneg] at h1
      obtain ⟨c, l, e, hc⟩ := digN_head n.toNat
      have h2 := q3 c l (h1.trans e) (by rw [h1]; have := digN_len10 (n := n.toNat) (by omega); omega) (by rw [h1]; exact digN_dg _) (fun h48 => by
        have h0 : n.toNat = 0 := by
          rcases Nat.eq_zero_or_pos n.toNat with q | q
          · exact q
          · exact absurd h48 (hc q)
        rw [h0, digN_zero] at e
        injection e with e1 e2
        exact ⟨e2.symm, rfl⟩)
      refine ⟨h2.1, ?_⟩
      rw [h2.2, h1, undig_digN]
      omega
  by_cases h0 : s.size = 0
  · rw [decide_eq_false (by omega), cond_false]
    exact plain fun c l e => by rw [e] at hz; simp at hz; omega
  · rw [decide_eq_true (by omega), cond_true, if_pos (by omega)]
    obtain ⟨c, l, hcl⟩ : ∃ c l, bl s = c :: l := by
      cases h : bl s with
      | nil => rw [h] at hz; have : s.size = 0 := hz; omega
      | cons c l => exact ⟨c, l, rfl⟩
    have e0 : bt s (0 : Int).toNat = (c.toNat : Int) := by
      have : bt s (0 : Int).toNat = (((bl s).getD 0 0).toNat : Int) := rfl
      rw [this, hcl]; rfl
    rw [e0, beq_int]
    by_cases h45 : ¬ c.toNat = 45
    · rw [decide_eq_false (by omega)]
      exact plain fun c' l' e => by rw [hcl] at e; injection e with e1 e2; subst e1; exact h45
    have h45 : c.toNat = 45 := Decidable.not_not.1 h45
    rw [decide_eq_true (by omega), spec_l00Number_1_eq, cond_true, if_pos (by omega)]
    obtain ⟨t, ht, htb⟩ : ∃ t, s.extract (1 : Int).toNat ((s.size : Int) : Int).toNat = t ∧ bl t = l := by
      refine ⟨_, rfl, ?_⟩
      show (s.extract 1 ((s.size : Int)).toNat).data.toList = l
      rw [Int.toNat_natCast, Lib.extract_data]
      show ((bl s).drop 1).take (s.size - 1) = l
      rw [hcl, List.drop_succ_cons, List.drop_zero, List.take_of_length_le]
      rw [hz, hcl]; simp
    rw [ht]
    obtain ⟨m, b, q1, q2, q3⟩ := number2_ev t (sg := -1) (.inr rfl)
    refine ⟨m, b, q1, q2, fun n hn => ?_⟩
    have hb := withinB_iff.1 hn.2
    have h1 := hn.1
    rw [hcl] at h1
    unfold digI at h1
    by_cases hneg : n < 0
    · rw [if_pos hneg] at h1
      injection h1 with _ h1
      obtain ⟨c2, l2, e, hc⟩ := digN_head (-n).toNat
      have h2 := q3 c2 l2 (htb.trans (h1.trans e)) (by rw [htb, h1]; have := digN_len10 (n := (-n).toNat) (by omega); omega) (by rw [htb, h1]; exact digN_dg _) (fun h48 => absurd h48 (hc (by omega)))
      refine ⟨h2.1, ?_⟩
      rw [h2.2, htb, h1, undig_digN]
      omega
    · rw [if_neg hneg] at h1
      exact absurd h45 (digN_head45 _ h1.symm)
theorem spec_l01Int_ev (s : ByteArray) : ∃ m b, ev E0 F_spec_l01Int [.p (.str s)] [] = rIB m b ∧ (b = true → numAt s m) ∧ (∀ n, numAt s n → b = true ∧ m = n) := by
  obtain ⟨m, b, q1, q2, q3⟩ := number_ev s
  rw [spec_l01Int_0_ev, spec_l01Int_0_eq, q1, bIB]
  cases b with
  | false =>
    rw [cond_false]
    exact ⟨m, false, rfl, (fun h => by cases h), fun n hn => absurd (q3 n hn).1 (by decide)⟩
  | true =>
    have hr := q2 rfl
    rw [cond_true, digits_ev (by omega), bS]
    by_cases he : S (digI m) = s
    · rw [decide_eq_true he, cond_true, spec_IsInt_ev, bB]
      refine ⟨m, _, rfl, fun h => ⟨by rw [← he, bl_S], h⟩, fun n hn => ?_⟩
      have hm := (q3 n hn).2
      subst hm
      exact ⟨hn.2, rfl⟩
    · rw [decide_eq_false he, cond_false]
      refine ⟨m, false, rfl, (fun h => by cases h), fun n hn => ?_⟩
      have hm := (q3 n hn).2
      subst hm
      exact absurd (by rw [← hn.1, S_bl]) he
/-! ### the program -/
theorem foldl_ge : ∀ (l : Tx) (a : Nat), a ≤ l.foldl (fun a c => a * 10 + (c.toNat - 48)) a
  | [], a => Nat.le_refl _
  | c :: l, a => Nat.le_trans (by omega) (foldl_ge l (a * 10 + (c.toNat - 48)))
theorem parse_dg : ∀ (l : Tx) (a : Nat), l.all dg = true → l.foldl (fun a c => a * 10 + (c.toNat - 48)) a < 1000000000000000000 → Lib.parseUint10 a l = .ok (l.foldl (fun a c => a * 10 + (c.toNat - 48)) a)
  | [], a, _, _ => rfl
  | c :: l, a, h, hlt => by
    rw [List.all_cons, Bool.and_eq_true] at h
    have hd := dg_iff.1 h.1
    have hlt' : l.foldl (fun a c => a * 10 + (c.toNat - 48)) (a * 10 + (c.toNat - 48)) < 1000000000000000000 := hlt
    have hge := foldl_ge l (a * 10 + (c.toNat - 48))
    unfold Lib.parseUint10
    rw [if_pos hd, if_neg (by omega), if_neg (by omega), parse_dg l _ h.2 hlt']
    rfl
theorem mag_digN {n : Nat} (h : n < 1000000000000000000) : Lib.parseMag (digN n) = .ok n := by
  have hu := undig_digN n
  unfold undig at hu
  unfold Lib.parseMag
  rw [if_neg (digN_chars n).2, parse_dg _ _ (digN_dg n) (by rw [hu]; exact h), hu]
theorem atoi_digI {n : Int} (h : withinB n (-2147483648) 2147483647 = true) : Lib.atoiAll (digI n) = .ok n := by
  have hb := withinB_iff.1 h
  unfold digI
  by_cases hneg : n < 0
  · rw [if_pos hneg]
    have hm := mag_digN (n := (-n).toNat) (by omega)
    unfold Lib.atoiAll
    have e45 : (45 : UInt8).toNat = 45 := rfl
    simp only [e45, hm, or_true, if_true]
    rw [if_neg (by omega), if_neg (by omega)]
    congr 1
    omega
  · rw [if_neg hneg]
    have hm := mag_digN (n := n.toNat) (by omega)
    obtain ⟨c, l, e, _⟩ := digN_head n.toNat
    have hc := List.all_eq_true.1 (digN_dg n.toNat) c (by rw [e]; simp)
    have hc' := dg_iff.1 hc
    rw [e] at hm ⊢
    rw [Lib.atoiAll_plain c l (by omega) (by omega), hm]
    unfold Lib.signless
    have e3 : ((n.toNat : Nat) : Int) = n := by omega
    simp only [if_neg (show ¬ 9223372036854775808 ≤ n.toNat by omega), e3]
theorem trim_len (l : Tx) : (Lib.trimPrefix l [45]).length ≤ l.length := by
  unfold Lib.trimPrefix
  split
  · rw [List.length_drop]; omega
  · exact Nat.le_refl _
theorem numO_of {s : ByteArray} {n : Int} (h : numAt s n) : numO s = some n := by
  have hb := withinB_iff.1 h.2
  have h1 : s.data.toList = digI n := h.1
  unfold numO
  rw [h1, atoi_digI h.2]
  have hlen : (digI n).length ≤ 11 := digI_len h.2
  have := trim_len (digI n)
  simp only
  rw [if_pos ⟨itoa_digI n, by omega⟩]
theorem numO_text {s : ByteArray} {n : Int} (h : numO s = some n) : bl s = digI n := by
  unfold numO at h
  split at h
  · split at h
    · rename_i hc
      injection h with h; subst h
      rw [← itoa_digI]
      exact hc.1.symm
    · cases h
  · cases h
theorem numberOf_lib (s : ByteArray) : ev E0 F_impl_numberOf [.p (.str s)] [] = libD numL [.p (.str s)] [] := (ev_eq _ _ _ _).trans (by kernel_rfl)
theorem numberOf_ev {s : ByteArray} (hs : s.size ≤ 1000000000) : ev E0 F_impl_numberOf [.p (.str s)] [] = (match numO s with | some n => rIB n true | none => rIB 0 false) := by
  rw [numberOf_lib]
  simp only [libD, pures, numL, if_pos hs]
  cases numO s <;> rfl
theorem intOf_ev {s : ByteArray} (hs : s.size ≤ 1000000000) : ∃ m b, ev E0 F_impl_intOf [.p (.str s)] [] = rIB m b ∧ (b = true → numAt s m) ∧ (∀ n, numAt s n → b = true ∧ m = n) := by
  rw [impl_intOf_0_ev, impl_intOf_0_eq, numberOf_ev hs]
  cases h : numO s with
  | none =>
    simp only
    rw [bIB, Bool.not_false, cond_true, impl_intOf_1_eq, cond_true]
    refine ⟨0, false, rfl, (fun h => by cases h), fun n hn => ?_⟩
    rw [numO_of hn] at h
    cases h
  | some n =>
    simp only
    rw [bIB, Bool.not_true, cond_false, impl_IsInt_ev, bB]
    have ht := numO_text h
    cases hw : withinB n (-2147483648) 2147483647 with
    | true =>
      rw [Bool.not_true, impl_intOf_1_eq, cond_false]
      exact ⟨n, true, rfl, fun _ => ⟨ht, hw⟩, fun m hm => ⟨rfl, digI_inj (ht.symm.trans hm.1)⟩⟩
    | false =>
      rw [Bool.not_false, impl_intOf_1_eq, cond_true]
      refine ⟨0, false, rfl, (fun h => by cases h), fun m hm => ?_⟩
      have : m = n := digI_inj (hm.1.symm.trans ht)
      subst this
      rw [hm.2] at hw
      cases hw
end Go.Proofs.YtakbdjdafcjglaaGreatDoor.Dm
