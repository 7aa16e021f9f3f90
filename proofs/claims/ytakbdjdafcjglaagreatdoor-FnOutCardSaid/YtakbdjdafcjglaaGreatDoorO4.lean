/- Answers' values: the program's judgement. -/
import Derived.Test.YtakbdjdafcjglaaGreatDoorO3
namespace Go.Proofs.YtakbdjdafcjglaaGreatDoor.Dm
set_option maxRecDepth 4000
set_option linter.unusedVariables false
set_option linter.unusedSimpArgs false

/-! ### by itself -/
theorem isRight_ev {k n : Int} {t : ByteArray} (ht : okS t) (ks : List ByteArray) (is : List GOut) : ev E0 F_impl_Out_isRight [.p (.agg 5 [.int .i64 k, .int .i64 n, .str t, .sl 1 (ks.map encS), .sl 5 (is.map GOut.enc)])] [] = rB (rightB k n t ks.length is.length) := by
  have hkl : (ks.map encS).length = ks.length := by simp
  have hil : (is.map GOut.enc).length = is.length := by simp
  have r2 : ∀ b : Bool, impl_Out_isRight_2 k b k n t (ks.map encS) (is.map GOut.enc) = rB (bif b then decide (is.length = 0) else bif decide (k = 2) then (nameB t && decide (is.length = 0)) else bif decide (k = 3) then true else bif decide (k = 4) then decide (ks.length = is.length) else false) := by
    intro b
    rw [impl_Out_isRight_2_eq, hkl, hil, len_eq0, len_beq, beq_int, beq_int, beq_int, impl_NameOK_ev ht, bB]
    cases b <;> cases decide (k = 2) <;> cases nameB t <;> cases decide (k = 3) <;> cases decide (k = 4) <;> rfl
  have r1 : ∀ b : Bool, impl_Out_isRight_1 b k n t (ks.map encS) (is.map GOut.enc) = rB (!b && (bif (decide (k = 0) || decide (k = 1)) then decide (is.length = 0) else bif decide (k = 2) then (nameB t && decide (is.length = 0)) else bif decide (k = 3) then true else bif decide (k = 4) then decide (ks.length = is.length) else false)) := by
    intro b
    rw [impl_Out_isRight_1_eq, r2, r2, beq_int, beq_int]
    cases b <;> cases decide (k = 0) <;> cases decide (k = 1) <;> rfl
  rw [impl_Out_isRight_0_ev, impl_Out_isRight_0_eq, impl_IsInt_ev, bB, r1, r1, r1, hkl, bne_int, bne_int, bne_int, bne_int, int_gt0]
  have fin : ∀ (a1 n0 iv a2 te a4 nk : Bool) (z : Bool), (bif !a1 then bif !n0 then rB (!true && z) else bif !iv then rB (!true && z) else bif !a2 then bif !te then rB (!true && z) else bif !a4 then rB (!nk && z) else rB (!false && z) else bif !a4 then rB (!nk && z) else rB (!false && z) else
      bif !iv then rB (!true && z) else bif !a2 then bif !te then rB (!true && z) else bif !a4 then rB (!nk && z) else rB (!false && z) else bif !a4 then rB (!nk && z) else rB (!false && z)) = rB ((a1 || n0) && (iv && ((a2 || te) && ((a4 || !nk) && z)))) := by
    intro a1 n0 iv a2 te a4 nk z
    cases a1 <;> cases n0 <;> cases iv <;> cases a2 <;> cases te <;> cases a4 <;> cases nk <;> rfl
  refine (fin _ _ _ _ _ _ _ _).trans ?_
  have hnk : (!decide (0 < ks.length)) = decide (ks.length = 0) := by
    by_cases h : ks.length = 0
    · rw [decide_eq_true h, decide_eq_false (by omega)]; rfl
    · rw [decide_eq_false h, decide_eq_true (by omega)]; rfl
  rw [hnk]
  unfold rightB
  have w0 : withinB 0 (-2147483648) 2147483647 = true := by decide
  by_cases k0 : k = 0
  · subst k0
    by_cases hn : n = 0
    · subst hn; rw [w0]; simp
    · simp [hn]
  by_cases k1 : k = 1
  · subst k1; simp
  by_cases k2 : k = 2
  · subst k2
    by_cases hn : n = 0
    · subst hn
      rw [w0]
      simp
      cases nameB t <;> simp
    · simp [hn]
  by_cases k3 : k = 3
  · subst k3
    by_cases hn : n = 0
    · subst hn; rw [w0]; simp
    · simp [hn]
  by_cases k4 : k = 4
  · subst k4
    by_cases hn : n = 0
    · subst hn; rw [w0]; simp
    · simp [hn]
  simp [k0, k1, k2, k3, k4]

/-! ### keys -/
def seenM (l : List ByteArray) : List (ByteArray × Pd) := l.map fun k => (k, Pd.bool true)
theorem findM_seen (s : ByteArray) : ∀ l : List ByteArray, (findM (seenM l) s).getD (.bool false) = .bool (l.any fun x => decide (x = s))
  | [] => rfl
  | k :: l => by
    have ih := findM_seen s l
    simp only [seenM, List.map_cons, findM, List.any_cons]
    by_cases h : k = s
    · simp [h]
    · rw [if_neg h, decide_eq_false h, Bool.false_or]
      exact ih
theorem setM_seen (s : ByteArray) : ∀ l : List ByteArray, (l.any fun x => decide (x = s)) = false → setM (seenM l) s (.bool true) = seenM (l ++ [s])
  | [], _ => rfl
  | k :: l, h => by
    rw [List.any_cons, Bool.or_eq_false_iff] at h
    have hk : ¬ k = s := of_decide_eq_false h.1
    simp only [seenM, List.map_cons, setM, List.cons_append, if_neg hk]
    have := setM_seen s l h.2
    simp only [seenM] at this
    rw [this]
theorem keys_loop (deep : Int) (k n : Int) (t : ByteArray) {ks : List ByteArray} (hks : okL okS ks) (is : List GOut) (r : Int) : ∀ (m i : Nat), i + m = ks.length →
    impl_Out_okAt_5 deep (ks.map encS) ks.length i k n t (ks.map encS) (is.map GOut.enc) (seenM (ks.take i)) r = bif keysB (ks.take i) (ks.drop i) then impl_Out_okAt_8 deep (is.map GOut.enc) is.length 0 r else some ([.p (.bool false)], [.box 1 [.int .i64 r]])
  | 0, i, h => by
    have hi : i = ks.length := by omega
    subst hi
    have hil : (is.map GOut.enc).length = is.length := by simp
    rw [impl_Out_okAt_5_eq, decide_eq_false (by omega), cond_false, List.drop_length, hil]
    rfl
  | m + 1, i, h => by
    have hkl : (ks.map encS).length = ks.length := by simp
    have hlt : i < ks.length := by omega
    have hg : ks[i]? = some ks[i] := List.getElem?_eq_getElem hlt
    have e1 : asStr ((encS ks[i]).getD 0 .undef) = some ks[i] := rfl
    have hl := hks.1
    have e2 : IntKind.i64.wrap ((i : Int) + 1) = ((i + 1 : Nat) : Int) := by rw [wrap_id (by omega)]; omega
    have ht : ks.take (i + 1) = ks.take i ++ [ks[i]] := (List.take_append_getElem hlt).symm
    have hkb : keysB (ks.take i) (ks.drop i) = (nameB ks[i] && (!((ks.take i).any fun x => decide (x = ks[i])) && keysB (ks.take (i + 1)) (ks.drop (i + 1)))) := by
      rw [List.drop_eq_getElem_cons hlt, keysB, ht]
    have eb : ∀ b : Bool, asBool (.bool b) = some b := fun _ => rfl
    rw [impl_Out_okAt_5_eq, hkl, decide_eq_true (by omega), cond_true, if_pos (by omega), getD_enc hg, e1, Option.bind_some, impl_NameOK_ev (hks.2 _ (List.getElem_mem _)), bB, hkb, findM_seen, eb, Option.bind_some]
    cases hn : nameB ks[i] with
    | false =>
      rw [Bool.not_false, cond_true, impl_Out_okAt_7_eq, cond_true]
      rfl
    | true =>
      rw [Bool.not_true, cond_false]
      cases ha : (ks.take i).any fun x => decide (x = ks[i]) with
      | true =>
        rw [impl_Out_okAt_7_eq, cond_true]
        rfl
      | false =>
        rw [impl_Out_okAt_7_eq, cond_false, e2, setM_seen _ _ ha, ← ht, keys_loop deep k n t hks is r m (i + 1) (by omega)]
        rfl

/-! ### with all within -/
abbrev rBBox (b : Bool) (r : Int) : Option Res := some ([.p (.bool b)], [.box 1 [.int .i64 r]])
theorem fill_int (a b : Int) : fillF [.int .i64 a] [.int .i64 b] = [.int .i64 b] := rfl
theorem bBB {R : Type} (b : Bool) (r r0 : Int) (K : Bool → List Pd → Option R) : ((rBBox b r).bind fun x => (asBool (pAt 0 x.1)).bind fun b => if x.1.length = 1 then ((asFbox 1 [.int .i64 r0] (x.2.getD 0 .none)).bind fun c => if x.2.length = 1 then K b c else none) else none) = K b [.int .i64 r] := by simp [pAt, asBool, asFbox, fnSame]
theorem okAt_fold (deep : Int) (l : List (List Pd)) (m i r : Int) : impl_Out_okAt_10 deep l m i [.int .i64 r] = impl_Out_okAt_8 deep l m i r := rfl
theorem items_loop {d : Nat} {deep : Int} (hdeep : IntKind.i64.wrap (deep + 1) = 20 - (d : Int)) {is : List GOut} (his : is.length ≤ 9223372036854775807)
    (hrec : ∀ x ∈ is, ∀ r : Nat, r ≤ 4000 → ∃ r', ev E0 F_impl_Out_okAt [.p (.agg 5 x.enc), .p (.int .i64 (20 - (d : Int))), .ptr (.out 0) 0] [.box 1 [.int .i64 r]] = rBBox (fineO d x && decide (cntO x ≤ r)) r' ∧ (fineO d x = true → cntO x ≤ r → r' = (r : Int) - cntO x)) :
    ∀ (m i r : Nat), i + m = is.length → r ≤ 4000 → ∃ r', impl_Out_okAt_8 deep (is.map GOut.enc) is.length i r = rBBox ((is.drop i).all (fineO d) && decide (cntOs (is.drop i) ≤ r)) r' ∧ (((is.drop i).all (fineO d) && decide (cntOs (is.drop i) ≤ r)) = true → r' = (r : Int) - cntOs (is.drop i))
  | 0, i, r, h, hr => by
    have hi : i = is.length := by omega
    subst hi
    refine ⟨r, ?_, fun _ => by rw [List.drop_length]; simp [cntOs]⟩
    rw [impl_Out_okAt_8_eq, decide_eq_false (by omega), cond_false, List.drop_length]
    simp [cntOs]
  | m + 1, i, r, h, hr => by
    have hil : (is.map GOut.enc).length = is.length := by simp
    have hlt : i < is.length := by omega
    have hg : is[i]? = some is[i] := List.getElem?_eq_getElem hlt
    have e2 : IntKind.i64.wrap ((i : Int) + 1) = ((i + 1 : Nat) : Int) := by rw [wrap_id (by omega)]; omega
    obtain ⟨r1, q1, q2⟩ := hrec is[i] (List.getElem_mem _) r hr
    have hcs : cntOs (is.drop i) = cntO is[i] + cntOs (is.drop (i + 1)) := by rw [List.drop_eq_getElem_cons hlt, cntOs]
    have hal : (is.drop i).all (fineO d) = (fineO d is[i] && (is.drop (i + 1)).all (fineO d)) := by rw [List.drop_eq_getElem_cons hlt, List.all_cons]
    rw [impl_Out_okAt_8_eq, hil, decide_eq_true (by omega), cond_true, if_pos (by omega), getD_enc hg, hdeep, q1, bBB, fill_int, hcs, hal]
    by_cases hok : fineO d is[i] = true ∧ cntO is[i] ≤ r
    · have hr1 := q2 hok.1 hok.2
      rw [hok.1, decide_eq_true hok.2, Bool.true_and, Bool.not_true, cond_false, e2, okAt_fold, Bool.true_and]
      have er : r1 = ((r - cntO is[i] : Nat) : Int) := by omega
      subst er
      obtain ⟨r', g1, g2⟩ := items_loop hdeep his hrec m (i + 1) (r - cntO is[i]) (by omega) (by omega)
      have e3 : decide (cntOs (is.drop (i + 1)) ≤ r - cntO is[i]) = decide (cntO is[i] + cntOs (is.drop (i + 1)) ≤ r) := by
        by_cases hx : cntOs (is.drop (i + 1)) ≤ r - cntO is[i]
        · rw [decide_eq_true hx, decide_eq_true (by omega)]
        · rw [decide_eq_false hx, decide_eq_false (by omega)]
      rw [e3] at g1 g2
      exact ⟨r', g1, fun hx => by have := g2 hx; omega⟩
    · have hf : (fineO d is[i] && decide (cntO is[i] ≤ r)) = false := by
        cases hx : fineO d is[i] with
        | false => rfl
        | true => rw [Bool.true_and]; exact decide_eq_false fun q => hok ⟨hx, q⟩
      have hf2 : (fineO d is[i] && (is.drop (i + 1)).all (fineO d) && decide (cntO is[i] + cntOs (is.drop (i + 1)) ≤ r)) = false := by
        cases hx : fineO d is[i] with
        | false => simp
        | true =>
          have : decide (cntO is[i] + cntOs (is.drop (i + 1)) ≤ r) = false := decide_eq_false fun q => hok ⟨hx, by omega⟩
          rw [this, Bool.and_false]
      rw [hf, Bool.not_false, cond_true, hf2]
      exact ⟨r1, rfl, fun h => by cases h⟩
theorem okAt_ev : ∀ (d : Nat) (o : GOut), d ≤ 20 → okOut o → ∀ r : Nat, r ≤ 4000 → ∃ r', ev E0 F_impl_Out_okAt [.p (.agg 5 o.enc), .p (.int .i64 (20 - (d : Int))), .ptr (.out 0) 0] [.box 1 [.int .i64 r]] = rBBox (fineO d o && decide (cntO o ≤ r)) r' ∧ (fineO d o = true → cntO o ≤ r → r' = (r : Int) - cntO o)
  | d, .mk k n t ks is, hd, ho, r, hr => by
    obtain ⟨o1, o2, o3, o4⟩ := ho
    have ew : IntKind.i64.wrap ((r : Int) - 1) = (r : Int) - 1 := wrap_id (by omega)
    have hkl : (ks.map encS).length = ks.length := by simp
    have hil : (is.map GOut.enc).length = is.length := by simp
    unfold GOut.enc
    rw [impl_Out_okAt_0_ev, impl_Out_okAt_0_eq, GOut.encs_eq, ew]
    by_cases h0 : r = 0
    · subst h0
      rw [decide_eq_true (by omega), cond_true, impl_Out_okAt_3_eq, cond_true]
      have hc := cntO_pos (.mk k n t ks is)
      have : decide (cntO (.mk k n t ks is) ≤ 0) = false := decide_eq_false (by omega)
      rw [this, Bool.and_false]
      exact ⟨_, rfl, fun _ h => by omega⟩
    rw [decide_eq_false (by omega), cond_false]
    cases d with
    | zero =>
      rw [decide_eq_true (by omega), cond_true, impl_Out_okAt_3_eq, cond_true]
      exact ⟨_, rfl, fun h => by simp [fineO] at h⟩
    | succ d =>
      rw [decide_eq_false (by omega), cond_false, isRight_ev o1, bB, impl_Out_okAt_3_eq]
      cases hrt : rightB k n t ks.length is.length with
      | false =>
        have hf : fineO (d + 1) (.mk k n t ks is) = false := by simp [fineO, hrt]
        rw [Bool.not_false, cond_true, hf]
        exact ⟨_, rfl, fun h => by cases h⟩
      | true =>
        have hk0 := keys_loop (20 - ((d + 1 : Nat) : Int)) k n t o2 is ((r : Int) - 1) ks.length 0 (by omega)
        have hk0' : seenM (ks.take 0) = [] := by rw [List.take_zero]; rfl
        have e0 : ((0 : Nat) : Int) = 0 := rfl
        rw [hk0', e0, List.drop_zero, List.take_zero] at hk0
        rw [Bool.not_true, cond_false, hkl, hk0]
        have hf : fineO (d + 1) (.mk k n t ks is) = (keysB [] ks && is.all (fineO d)) := by simp only [fineO, hrt, Bool.true_and]
        have hc : cntO (.mk k n t ks is) = 1 + cntOs is := rfl
        rw [hf, hc]
        cases hkb : keysB [] ks with
        | false => exact ⟨_, rfl, fun h => by cases h⟩
        | true =>
          obtain ⟨r', g1, g2⟩ := items_loop (d := d) (deep := 20 - ((d + 1 : Nat) : Int)) (by rw [wrap_id (by omega)]; omega) o3 (fun x hx r hr => okAt_ev d x (by omega) (okOuts_mem o4 x hx) r hr) is.length 0 (r - 1) (by omega) (by omega)
          have er : ((r - 1 : Nat) : Int) = (r : Int) - 1 := by omega
          rw [e0, er, List.drop_zero] at g1
          rw [List.drop_zero] at g2
          have e3 : decide (cntOs is ≤ r - 1) = decide (1 + cntOs is ≤ r) := by
            by_cases hx : cntOs is ≤ r - 1
            · rw [decide_eq_true hx, decide_eq_true (by omega)]
            · rw [decide_eq_false hx, decide_eq_false (by omega)]
          rw [e3] at g1 g2
          rw [cond_true, g1, Bool.true_and]
          exact ⟨r', rfl, fun a b => by have := g2 (by rw [a, decide_eq_true b]; rfl); omega⟩
theorem impl_OutOK_ev {o : GOut} (ho : okOut o) : ev E0 F_impl_OutOK [.p (.agg 5 o.enc)] [] = rB (outB o) := by
  obtain ⟨r', h1, _⟩ := okAt_ev 20 o (Nat.le_refl _) ho 4000 (Nat.le_refl _)
  have e20 : (20 : Int) - ((20 : Nat) : Int) = 0 := by omega
  have e4 : ((4000 : Nat) : Int) = 4000 := rfl
  rw [e20, e4] at h1
  cases o
  unfold GOut.enc at h1 ⊢
  rw [impl_OutOK_0_ev, impl_OutOK_0_eq, h1]
  exact bBB (R := Res) _ _ _ (fun b _ => some ([.p (.bool b)], []))
end Go.Proofs.YtakbdjdafcjglaaGreatDoor.Dm
