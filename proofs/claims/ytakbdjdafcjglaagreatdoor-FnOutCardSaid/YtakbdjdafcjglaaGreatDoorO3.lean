/- Answers' values: when one is right, by the program and by the reference. -/
import Derived.Test.YtakbdjdafcjglaaGreatDoorO2
namespace Go.Proofs.YtakbdjdafcjglaaGreatDoor.Dm
set_option linter.unusedVariables false
set_option linter.unusedSimpArgs false

theorem bne_int (a b : Int) : (a != b) = !decide (a = b) := by rw [bne, beq_int]
def keysB (pre : List ByteArray) : List ByteArray → Bool
  | [] => true
  | k :: ks => nameB k && (!(pre.any fun x => decide (x = k)) && keysB (pre ++ [k]) ks)
def rightB (k n : Int) (t : ByteArray) (nk ni : Nat) : Bool :=
  if k = 0 then decide (n = 0) && (decide (t = ⟨#[]⟩) && (decide (nk = 0) && decide (ni = 0)))
  else if k = 1 then withinB n (-2147483648) 2147483647 && (decide (t = ⟨#[]⟩) && (decide (nk = 0) && decide (ni = 0)))
  else if k = 2 then decide (n = 0) && (nameB t && (decide (nk = 0) && decide (ni = 0)))
  else if k = 3 then decide (n = 0) && (decide (t = ⟨#[]⟩) && decide (nk = 0))
  else if k = 4 then decide (n = 0) && (decide (t = ⟨#[]⟩) && decide (nk = ni))
  else false
def fineO : Nat → GOut → Bool
  | 0, _ => false
  | d + 1, .mk k n t ks is => rightB k n t ks.length is.length && (keysB [] ks && is.all (fineO d))
mutual
def cntO : GOut → Nat
  | .mk _ _ _ _ is => 1 + cntOs is
def cntOs : List GOut → Nat
  | [] => 0
  | x :: xs => cntO x + cntOs xs
end
def outB (o : GOut) : Bool := fineO 20 o && decide (cntO o ≤ 4000)
theorem cntO_pos (o : GOut) : 1 ≤ cntO o := by cases o; simp only [cntO]; omega
theorem len_eq0 (n : Nat) : ((n : Int) == 0) = decide (n = 0) := by
  rw [beq_int]
  by_cases h : n = 0
  · rw [decide_eq_true h, decide_eq_true (by omega)]
  · rw [decide_eq_false h, decide_eq_false (by omega)]
theorem len_beq (a b : Nat) : ((a : Int) == (b : Int)) = decide (a = b) := by
  rw [beq_int]
  by_cases h : a = b
  · rw [decide_eq_true h, decide_eq_true (by omega)]
  · rw [decide_eq_false h, decide_eq_false (by omega)]

/-! ### the reference -/
theorem l04In_ev {xs : List ByteArray} (hl : xs.length ≤ 9223372036854775807) (s : ByteArray) : ev E0 F_spec_l04In [.p (.sl 1 (xs.map encS)), .p (.str s)] [] = rB (xs.any fun x => decide (x = s)) := by
  have hlen : (xs.map encS).length = xs.length := by simp
  have loop : ∀ (m i : Nat), i + m = xs.length → spec_l04In_1 (xs.map encS) s i = rB ((xs.drop i).any fun x => decide (x = s)) := by
    intro m
    induction m with
    | zero =>
      intro i h
      have : i = xs.length := by omega
      subst this
      rw [spec_l04In_1_eq, hlen, decide_eq_false (by omega), cond_false, List.drop_length]
      rfl
    | succ m ih =>
      intro i h
      have hlt : i < xs.length := by omega
      have hg : xs[i]? = some xs[i] := List.getElem?_eq_getElem hlt
      have e1 : asStr ((encS xs[i]).getD 0 .undef) = some xs[i] := rfl
      have e2 : IntKind.i64.wrap ((i : Int) + 1) = ((i + 1 : Nat) : Int) := by rw [wrap_id (by omega)]; omega
      rw [spec_l04In_1_eq, hlen, decide_eq_true (by omega), cond_true, if_pos (by omega), getD_enc hg, e1, Option.bind_some, e2, ih (i + 1) (by omega), List.drop_eq_getElem_cons hlt, List.any_cons]
      cases decide (xs[i] = s) <;> rfl
  have := loop xs.length 0 (by omega)
  rw [List.drop_zero] at this
  rw [spec_l04In_0_ev, spec_l04In_0_eq]
  exact this
abbrev rIB (n : Int) (b : Bool) : Option Res := some ([.p (.int .i64 n), .p (.bool b)], [])
theorem bIB {R : Type} (n : Int) (b : Bool) (K : Int → Bool → Option R) : ((rIB n b).bind fun r => (asInt .i64 (pAt 0 r.1)).bind fun n => (asBool (pAt 1 r.1)).bind fun b => if r.1.length = 2 then K n b else none) = K n b := by simp [pAt, asInt, asBool]
theorem cut_keys (ks : List ByteArray) (i : Nat) : ((ks.map encS).drop (0 : Int).toNat).take ((i : Int).toNat - (0 : Int).toNat) = (ks.take i).map encS := by simp [List.map_take]
theorem l08OK_loop {d : Nat} (hd : d + 1 ≤ 20) {k : Int} (n : Int) (t : ByteArray) {ks : List ByteArray} {is : List GOut} (hks : okL okS ks) (his : is.length ≤ 9223372036854775807)
    (h4 : k = 4 → ks.length = is.length) (h3 : k ≠ 4 → ks = [])
    (hrec : ∀ x ∈ is, ∃ q, ev E0 F_spec_l08OK [.p (.agg 5 x.enc), .p (.int .i64 d)] [] = rIB q (fineO d x && decide (cntO x ≤ 4000)) ∧ (fineO d x = true → cntO x ≤ 4000 → q = cntO x)) :
    ∀ (m i : Nat) (acc : Nat), i + m = is.length → acc ≤ 4000 → ∃ q, spec_l08OK_3 (d + 1 : Nat) acc i k n t (ks.map encS) (is.map GOut.enc) = rIB q (keysB (ks.take i) (ks.drop i) && ((is.drop i).all (fineO d) && decide (acc + cntOs (is.drop i) ≤ 4000))) ∧
      ((keysB (ks.take i) (ks.drop i) && ((is.drop i).all (fineO d) && decide (acc + cntOs (is.drop i) ≤ 4000))) = true → q = ((acc + cntOs (is.drop i) : Nat) : Int))
  | 0, i, acc, h, ha => by
    have hi : i = is.length := by omega
    subst hi
    have hlen : (is.map GOut.enc).length = is.length := by simp
    have hkd : ks.drop is.length = [] := by
      by_cases hk : k = 4
      · rw [← h4 hk, List.drop_length]
      · rw [h3 hk]; simp
    refine ⟨acc, ?_, fun _ => by rw [List.drop_length]; simp [cntOs]⟩
    rw [spec_l08OK_3_eq, hlen, decide_eq_false (by omega), cond_false, List.drop_length, hkd]
    simp [keysB, cntOs, ha]
  | m + 1, i, acc, h, ha => by
    have hlen : (is.map GOut.enc).length = is.length := by simp
    have hkl : (ks.map encS).length = ks.length := by simp
    have hlt : i < is.length := by omega
    have hg : is[i]? = some is[i] := List.getElem?_eq_getElem hlt
    have e2 : IntKind.i64.wrap ((i : Int) + 1) = ((i + 1 : Nat) : Int) := by rw [wrap_id (by omega)]; omega
    have ed : IntKind.i64.wrap (((d + 1 : Nat) : Int) - 1) = (d : Int) := by rw [wrap_id (by omega)]; omega
    obtain ⟨q, hq, hqv⟩ := hrec is[i] (List.getElem_mem _)
    -- the item, its key being right
    have item : ∀ (B : Bool), (keysB (ks.take i) (ks.drop i) = keysB (ks.take (i + 1)) (ks.drop (i + 1))) → ∃ q, spec_l08OK_4 (d + 1 : Nat) acc i false k n t (ks.map encS) (is.map GOut.enc) = rIB q (keysB (ks.take i) (ks.drop i) && ((is.drop i).all (fineO d) && decide (acc + cntOs (is.drop i) ≤ 4000))) ∧
        ((keysB (ks.take i) (ks.drop i) && ((is.drop i).all (fineO d) && decide (acc + cntOs (is.drop i) ≤ 4000))) = true → q = ((acc + cntOs (is.drop i) : Nat) : Int)) := by
      intro _ hkey
      have hcs : cntOs (is.drop i) = cntO is[i] + cntOs (is.drop (i + 1)) := by rw [List.drop_eq_getElem_cons hlt, cntOs]
      have hal : (is.drop i).all (fineO d) = (fineO d is[i] && (is.drop (i + 1)).all (fineO d)) := by rw [List.drop_eq_getElem_cons hlt, List.all_cons]
      rw [spec_l08OK_4_eq, cond_false, hlen, if_pos (by omega), getD_enc hg, ed, hq, bIB, hkey, hal, hcs]
      by_cases hok : fineO d is[i] = true ∧ cntO is[i] ≤ 4000
      · have hqq := hqv hok.1 hok.2
        subst hqq
        rw [hok.1, decide_eq_true hok.2, Bool.true_and, Bool.not_true, cond_false, Bool.true_and]
        have ew : IntKind.i64.wrap ((acc : Int) + (cntO is[i] : Int)) = ((acc + cntO is[i] : Nat) : Int) := by rw [wrap_id (by omega)]; omega
        rw [ew, spec_l08OK_5_eq]
        by_cases hs : acc + cntO is[i] ≤ 4000
        · rw [decide_eq_false (by omega), cond_false, e2]
          obtain ⟨q2, g1, g2⟩ := l08OK_loop hd n t hks his h4 h3 hrec m (i + 1) (acc + cntO is[i]) (by omega) hs
          have e3 : acc + (cntO is[i] + cntOs (is.drop (i + 1))) = acc + cntO is[i] + cntOs (is.drop (i + 1)) := by omega
          rw [e3]
          exact ⟨q2, g1, g2⟩
        · rw [decide_eq_true (by omega), cond_true]
          have : decide (acc + (cntO is[i] + cntOs (is.drop (i + 1))) ≤ 4000) = false := decide_eq_false (by omega)
          rw [this, Bool.and_false, Bool.and_false]
          exact ⟨0, rfl, fun h => by cases h⟩
      · have hf : (fineO d is[i] && decide (cntO is[i] ≤ 4000)) = false := by
          cases hx : fineO d is[i] with
          | false => rfl
          | true => rw [Bool.true_and]; exact decide_eq_false fun q => hok ⟨hx, q⟩
        rw [hf, Bool.not_false, cond_true, spec_l08OK_5_eq, cond_true]
        have : (fineO d is[i] && (is.drop (i + 1)).all (fineO d) && decide (acc + (cntO is[i] + cntOs (is.drop (i + 1))) ≤ 4000)) = false := by
          cases hx : fineO d is[i] with
          | false => simp
          | true =>
            have : decide (acc + (cntO is[i] + cntOs (is.drop (i + 1))) ≤ 4000) = false := decide_eq_false fun q => hok ⟨hx, by omega⟩
            rw [this, Bool.and_false]
        rw [this, Bool.and_false]
        exact ⟨0, rfl, fun h => by cases h⟩
    have bad : ∀ (B : Bool), keysB (ks.take i) (ks.drop i) = false → ∃ q, spec_l08OK_4 (d + 1 : Nat) acc i true k n t (ks.map encS) (is.map GOut.enc) = rIB q (keysB (ks.take i) (ks.drop i) && ((is.drop i).all (fineO d) && decide (acc + cntOs (is.drop i) ≤ 4000))) ∧
        ((keysB (ks.take i) (ks.drop i) && ((is.drop i).all (fineO d) && decide (acc + cntOs (is.drop i) ≤ 4000))) = true → q = ((acc + cntOs (is.drop i) : Nat) : Int)) := by
      intro _ hkey
      rw [spec_l08OK_4_eq, cond_true, hkey, Bool.false_and]
      exact ⟨0, rfl, fun h => by cases h⟩
    rw [spec_l08OK_3_eq, hlen, decide_eq_true (by omega), cond_true, beq_int]
    by_cases hk : k = 4
    · have hkk := h4 hk
      have hltk : i < ks.length := by omega
      have hgk : ks[i]? = some ks[i] := List.getElem?_eq_getElem hltk
      have e1 : asStr ((encS ks[i]).getD 0 .undef) = some ks[i] := rfl
      have hkl2 := hks.1
      have hs := hks.2 ks[i] (List.getElem_mem _)
      have htl : (ks.take i).length ≤ 9223372036854775807 := by rw [List.length_take]; omega
      have hkb : keysB (ks.take i) (ks.drop i) = (nameB ks[i] && (!((ks.take i).any fun x => decide (x = ks[i])) && keysB (ks.take (i + 1)) (ks.drop (i + 1)))) := by
        have ht : ks.take (i + 1) = ks.take i ++ [ks[i]] := (List.take_append_getElem hltk).symm
        rw [List.drop_eq_getElem_cons hltk, keysB, ht]
      rw [decide_eq_true hk, cond_true, hkl, if_pos (by omega), getD_enc hgk, e1, Option.bind_some, spec_NameOK_ev hs, bB]
      cases hn : nameB ks[i] with
      | false =>
        rw [Bool.not_false, cond_true]
        exact bad true (by rw [hkb, hn]; rfl)
      | true =>
        rw [Bool.not_true, cond_false, if_pos (by omega), if_pos (by omega), Option.bind_some, cut_keys, l04In_ev htl, bB]
        cases ha : (ks.take i).any fun x => decide (x = ks[i]) with
        | true => exact bad true (by rw [hkb, hn, ha]; rfl)
        | false => exact item true (by rw [hkb, hn, ha]; rfl)
    · rw [decide_eq_false hk, cond_false]
      have hn := h3 hk
      exact item true (by rw [hn]; simp [keysB])
theorem spec_l08OK_ev : ∀ (d : Nat) (o : GOut), d ≤ 20 → okOut o → ∃ q, ev E0 F_spec_l08OK [.p (.agg 5 o.enc), .p (.int .i64 d)] [] = rIB q (fineO d o && decide (cntO o ≤ 4000)) ∧ (fineO d o = true → cntO o ≤ 4000 → q = cntO o)
  | 0, .mk k n t ks is, hd, ho => by
    refine ⟨0, ?_, fun h => by simp [fineO] at h⟩
    unfold GOut.enc
    rw [spec_l08OK_0_ev, spec_l08OK_0_eq]
    rfl
  | d + 1, .mk k n t ks is, hd, ho => by
    obtain ⟨o1, o2, o3, o4⟩ := ho
    have hrec : ∀ x ∈ is, ∃ q, ev E0 F_spec_l08OK [.p (.agg 5 x.enc), .p (.int .i64 d)] [] = rIB q (fineO d x && decide (cntO x ≤ 4000)) ∧ (fineO d x = true → cntO x ≤ 4000 → q = cntO x) :=
      fun x hx => spec_l08OK_ev d x (by omega) (okOuts_mem o4 x hx)
    have hkl : (ks.map encS).length = ks.length := by simp
    have hil : (is.map GOut.enc).length = is.length := by simp
    unfold GOut.enc
    rw [spec_l08OK_0_ev, spec_l08OK_0_eq, GOut.encs_eq, hkl, hil, beq_int ((d + 1 : Nat) : Int) 0, decide_eq_false (by omega), cond_false, len_eq0, len_eq0]
    have hplain : (bif decide (ks.length = 0) then spec_l08OK_1 ((d + 1 : Nat) : Int) (decide (is.length = 0)) k n t (ks.map encS) (is.map GOut.enc) else spec_l08OK_1 ((d + 1 : Nat) : Int) false k n t (ks.map encS) (is.map GOut.enc)) = spec_l08OK_1 ((d + 1 : Nat) : Int) (decide (ks.length = 0) && decide (is.length = 0)) k n t (ks.map encS) (is.map GOut.enc) := by
      cases decide (ks.length = 0) <;> simp
    rw [hplain, spec_l08OK_1_eq, hkl]
    simp only [beq_int, bne_int]
    -- one that stands alone
    have leaf : ∀ (B : Bool), (rightB k n t ks.length is.length = (B && (decide (ks.length = 0) && decide (is.length = 0)))) → ∃ q, (bif (decide (ks.length = 0) && decide (is.length = 0)) then rIB 1 B else rIB 1 false) = rIB q (fineO (d + 1) (.mk k n t ks is) && decide (cntO (.mk k n t ks is) ≤ 4000)) ∧ (fineO (d + 1) (.mk k n t ks is) = true → cntO (.mk k n t ks is) ≤ 4000 → q = cntO (.mk k n t ks is)) := by
      intro B hB
      refine ⟨1, ?_, ?_⟩
      · simp only [fineO, hB]
        by_cases h1 : ks.length = 0
        · by_cases h2 : is.length = 0
          · have e1 : ks = [] := List.eq_nil_of_length_eq_zero h1
            have e2 : is = [] := List.eq_nil_of_length_eq_zero h2
            subst e1 e2
            simp [keysB, cntO, cntOs]
          · simp [h1, h2]
        · simp [h1]
      · intro hf _
        simp only [fineO, hB, Bool.and_eq_true, decide_eq_true_eq] at hf
        have e2 : is = [] := List.eq_nil_of_length_eq_zero hf.1.2.2
        subst e2
        simp [cntO, cntOs]
    have none_ : rightB k n t ks.length is.length = false → ∃ q, rIB 0 false = rIB q (fineO (d + 1) (.mk k n t ks is) && decide (cntO (.mk k n t ks is) ≤ 4000)) ∧ (fineO (d + 1) (.mk k n t ks is) = true → cntO (.mk k n t ks is) ≤ 4000 → q = cntO (.mk k n t ks is)) := by
      intro h
      have hf : fineO (d + 1) (.mk k n t ks is) = false := by simp [fineO, h]
      exact ⟨0, by rw [hf]; rfl, fun q => by rw [hf] at q; cases q⟩
    have row : rightB k n t ks.length is.length = true → (k = 4 → ks.length = is.length) → (k ≠ 4 → ks = []) → ∃ q, spec_l08OK_3 ((d + 1 : Nat) : Int) 1 0 k n t (ks.map encS) (is.map GOut.enc) = rIB q (fineO (d + 1) (.mk k n t ks is) && decide (cntO (.mk k n t ks is) ≤ 4000)) ∧ (fineO (d + 1) (.mk k n t ks is) = true → cntO (.mk k n t ks is) ≤ 4000 → q = cntO (.mk k n t ks is)) := by
      intro h h4 h3
      obtain ⟨q, g1, g2⟩ := l08OK_loop hd n t o2 o3 h4 h3 hrec is.length 0 1 (by omega) (by omega)
      have e : (keysB (ks.take 0) (ks.drop 0) && ((is.drop 0).all (fineO d) && decide (1 + cntOs (is.drop 0) ≤ 4000))) = (fineO (d + 1) (.mk k n t ks is) && decide (cntO (.mk k n t ks is) ≤ 4000)) := by
        simp only [fineO, h, cntO, List.take_zero, List.drop_zero, Bool.true_and]
        exact (Bool.and_assoc _ _ _).symm
      rw [e] at g1 g2
      refine ⟨q, g1, fun a b => ?_⟩
      have := g2 (by rw [a, decide_eq_true b]; rfl)
      rw [this]
      simp [cntO]
    by_cases k0 : k = 0
    · subst k0
      rw [decide_eq_true rfl, cond_true]
      have := leaf (decide (n = 0) && decide (t = ⟨#[]⟩)) (by unfold rightB; rw [if_pos rfl, Bool.and_assoc])
      obtain ⟨q, g1, g2⟩ := this
      refine ⟨q, ?_, g2⟩
      rw [← g1]
      cases decide (n = 0) <;> rfl
    rw [decide_eq_false k0, cond_false]
    by_cases k1 : k = 1
    · subst k1
      rw [decide_eq_true rfl, cond_true, spec_IsInt_ev, bB]
      have := leaf (withinB n (-2147483648) 2147483647 && decide (t = ⟨#[]⟩)) (by unfold rightB; rw [if_neg (by omega), if_pos rfl, Bool.and_assoc])
      obtain ⟨q, g1, g2⟩ := this
      refine ⟨q, ?_, g2⟩
      rw [← g1]
      cases withinB n (-2147483648) 2147483647 <;> rfl
    rw [decide_eq_false k1, cond_false]
    by_cases k2 : k = 2
    · subst k2
      rw [decide_eq_true rfl, cond_true, spec_NameOK_ev o1, bB]
      have := leaf (decide (n = 0) && nameB t) (by unfold rightB; rw [if_neg (by omega), if_neg (by omega), if_pos rfl, Bool.and_assoc])
      obtain ⟨q, g1, g2⟩ := this
      refine ⟨q, ?_, g2⟩
      rw [← g1]
      cases decide (n = 0) <;> rfl
    rw [decide_eq_false k2, cond_false]
    simp only [spec_l08OK_2_eq, int_gt0]
    by_cases k3 : k = 3
    · subst k3
      have hr : rightB 3 n t ks.length is.length = (decide (n = 0) && (decide (t = ⟨#[]⟩) && decide (ks.length = 0))) := rfl
      by_cases hn : n = 0
      · by_cases ht : t = ⟨#[]⟩
        · by_cases hk : ks.length = 0
          · have := row (by rw [hr, decide_eq_true hn, decide_eq_true ht, decide_eq_true hk]; rfl) (fun q => by omega) (fun _ => List.eq_nil_of_length_eq_zero hk)
            simpa [hn, ht, hk] using this
          · have := none_ (by rw [hr, decide_eq_false hk, Bool.and_false, Bool.and_false])
            simpa [hn, ht, hk, Nat.pos_of_ne_zero hk] using this
        · have := none_ (by rw [hr, decide_eq_false ht, Bool.false_and, Bool.and_false])
          simpa [hn, ht] using this
      · have := none_ (by rw [hr, decide_eq_false hn, Bool.false_and])
        simpa [hn] using this
    by_cases k4 : k = 4
    · subst k4
      have hr : rightB 4 n t ks.length is.length = (decide (n = 0) && (decide (t = ⟨#[]⟩) && decide (ks.length = is.length))) := rfl
      by_cases hn : n = 0
      · by_cases ht : t = ⟨#[]⟩
        · by_cases hk : ks.length = is.length
          · have := row (by rw [hr, decide_eq_true hn, decide_eq_true ht, decide_eq_true hk]; rfl) (fun _ => hk) (fun q => absurd rfl q)
            simpa [hn, ht, hk] using this
          · have := none_ (by rw [hr, decide_eq_false hk, Bool.and_false, Bool.and_false])
            have hk' : ¬ (ks.length : Int) = (is.length : Int) := by omega
            simpa [hn, ht, hk, hk'] using this
        · have := none_ (by rw [hr, decide_eq_false ht, Bool.false_and, Bool.and_false])
          simpa [hn, ht] using this
      · have := none_ (by rw [hr, decide_eq_false hn, Bool.false_and])
        simpa [hn] using this
    have := none_ (by unfold rightB; rw [if_neg k0, if_neg k1, if_neg k2, if_neg k3, if_neg k4])
    simpa [k3, k4] using this
theorem spec_OutOK_ev {o : GOut} (ho : okOut o) : ev E0 F_spec_OutOK [.p (.agg 5 o.enc)] [] = rB (outB o) := by
  obtain ⟨q, h1, _⟩ := spec_l08OK_ev 20 o (Nat.le_refl _) ho
  have e20 : ((20 : Nat) : Int) = 20 := rfl
  rw [e20] at h1
  cases o
  unfold GOut.enc at h1 ⊢
  rw [spec_OutOK_0_ev, spec_OutOK_0_eq, h1, bIB]
  rfl
end Go.Proofs.YtakbdjdafcjglaaGreatDoor.Dm
