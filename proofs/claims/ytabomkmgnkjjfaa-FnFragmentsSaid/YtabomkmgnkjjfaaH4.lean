/- Fragments by their names, the one operation. -/
import Derived.Test.YtabomkmgnkjjfaaH3
namespace Go.Proofs.Ytabomkmgnkjjfaa.Dm
set_option maxRecDepth 4000
set_option linter.unusedSectionVars false
set_option linter.unusedVariables false
set_option linter.unusedSimpArgs false

def inL (xs : List ByteArray) (s : ByteArray) : Bool := xs.any fun x => decide (x = s)
abbrev rDI (d : GDef) (c : Int) : Option Res := some ([.p (.agg 4 d.enc), .p (.int .i64 c)], [])
theorem bDI {R : Type} (d : GDef) (c : Int) (K : List Pd → Int → Option R) : ((rDI d c).bind fun r => (asAgg 4 (pAt 0 r.1)).bind fun a => (asInt .i64 (pAt 1 r.1)).bind fun c => if r.1.length = 2 then K a c else none) = K d.enc c := by simp [pAt, asAgg, asInt]
/-! ### the fragment of a name -/
def zeroDef : GDef := ⟨0, ⟨#[]⟩, ⟨#[]⟩, []⟩
def fragL (t : ByteArray) : List GDef → Option GDef
  | [] => none
  | d :: ds => if d.kind = 3 ∧ d.name = t then some d else fragL t ds
def fragD (t : ByteArray) (xs : List GDef) : GDef := (fragL t xs).getD zeroDef
abbrev rDB (d : GDef) (b : Bool) : Option Res := some ([.p (.agg 4 d.enc), .p (.bool b)], [])
theorem bDB {R : Type} (d : GDef) (b : Bool) (K : List Pd → Bool → Option R) : ((rDB d b).bind fun r => (asAgg 4 (pAt 0 r.1)).bind fun c => (asBool (pAt 1 r.1)).bind fun b => if r.1.length = 2 then K c b else none) = K d.enc b := by simp [pAt, asAgg, asBool]
theorem fragL_pos {t : ByteArray} {d : GDef} {ds : List GDef} (h : d.kind = 3 ∧ d.name = t) : fragL t (d :: ds) = some d := if_pos h
theorem fragL_neg {t : ByteArray} {d : GDef} {ds : List GDef} (h : ¬(d.kind = 3 ∧ d.name = t)) : fragL t (d :: ds) = fragL t ds := if_neg h
theorem fragD_pos {t : ByteArray} {d : GDef} {ds : List GDef} (h : d.kind = 3 ∧ d.name = t) : fragD t (d :: ds) = d := by unfold fragD; rw [fragL_pos h]; rfl
theorem fragD_neg {t : ByteArray} {d : GDef} {ds : List GDef} (h : ¬(d.kind = 3 ∧ d.name = t)) : fragD t (d :: ds) = fragD t ds := by unfold fragD; rw [fragL_neg h]
theorem fragL_mem {t : ByteArray} : ∀ {xs : List GDef} {d : GDef}, fragL t xs = some d → d ∈ xs
  | x :: xs, d, h => by
    unfold fragL at h
    split at h
    · injection h with h; subst h; exact List.mem_cons_self ..
    · exact List.mem_cons_of_mem _ (fragL_mem h)
theorem def_kind0 (d : GDef) : asInt .i64 ((GDef.enc d).getD 0 .undef) = some d.kind := asI _
theorem def_name0 (d : GDef) : asStr ((GDef.enc d).getD 1 .undef) = some d.name := rfl
theorem def_name1 (d : GDef) : asStr (((GDef.enc d).drop 1).getD 0 .undef) = some d.name := rfl
theorem l02Fragment_ev {xs : List GDef} (hl : xs.length ≤ 9223372036854775807) (t : ByteArray) : ev E0 F_spec_l02Fragment [.p (.agg 1 [.sl 4 (xs.map GDef.enc)]), .p (.str t)] [] = rDB (fragD t xs) (fragL t xs).isSome := by
  have hlen : (xs.map GDef.enc).length = xs.length := by simp
  have main : ∀ (m i : Nat), i + m = xs.length → spec_l02Fragment_1 t i (xs.map GDef.enc) 0 (⟨#[]⟩ : ByteArray) (⟨#[]⟩ : ByteArray) = rDB (fragD t (xs.drop i)) (fragL t (xs.drop i)).isSome := by
    intro m
    induction m with
    | zero =>
      intro i h
      rw [spec_l02Fragment_1_eq, hlen, decide_eq_false (by omega), cond_false, List.drop_of_length_le (by omega)]
      rfl
    | succ m ih =>
      intro i h
      have hlt : i < xs.length := by omega
      have hg : xs[i]? = some xs[i] := List.getElem?_eq_getElem hlt
      rw [List.drop_eq_getElem_cons hlt]
      generalize xs[i] = d at hg ⊢
      have e2 : ∀ b : Bool, spec_l02Fragment_2 t i b (xs.map GDef.enc) 0 (⟨#[]⟩ : ByteArray) (⟨#[]⟩ : ByteArray) = bif b then rDB d true else rDB (fragD t (xs.drop (i + 1))) (fragL t (xs.drop (i + 1))).isSome := by
        intro b
        rw [spec_l02Fragment_2_eq, hlen, if_pos (by omega), getD_enc hg, inc_i hlt hl, ih (i + 1) (by omega)]
      rw [spec_l02Fragment_1_eq, hlen, decide_eq_true (by omega), cond_true, if_pos (by omega), getD_enc hg, def_kind0, Option.bind_some, beq_int, if_pos (by omega), def_name1, Option.bind_some, e2, e2]
      by_cases h3 : d.kind = 3
      · rw [decide_eq_true h3, cond_true]
        by_cases hn : d.name = t
        · rw [decide_eq_true hn, cond_true, fragD_pos ⟨h3, hn⟩, fragL_pos ⟨h3, hn⟩]
          rfl
        · rw [decide_eq_false hn, cond_false, fragD_neg (fun q => hn q.2), fragL_neg (fun q => hn q.2)]
      · rw [decide_eq_false h3, cond_false, cond_false, fragD_neg (fun q => h3 q.1), fragL_neg (fun q => h3 q.1)]
  have := main xs.length 0 (by omega)
  rw [List.drop_zero] at this
  rw [spec_l02Fragment_0_ev, spec_l02Fragment_0_eq]
  exact this
abbrev rBS (b : Bool) (s : ByteArray) : Option Res := some ([.p (.bool b)], [.box 1 [.str s]])
abbrev rIS (n : Int) (s : ByteArray) : Option Res := some ([.p (.int .i64 n)], [.box 1 [.str s]])
theorem bBS {R : Type} (b : Bool) (s s0 : ByteArray) (K : Bool → List Pd → Option R) : ((rBS b s).bind fun x => (asBool (pAt 0 x.1)).bind fun b => if x.1.length = 1 then ((asFbox 1 [.str s0] (x.2.getD 0 .none)).bind fun c => if x.2.length = 1 then K b c else none) else none) = K b [.str s] := by simp [pAt, asBool, asFbox, fnSame]
theorem bIS {R : Type} (n : Int) (s s0 : ByteArray) (K : Int → Option R) : ((rIS n s).bind fun x => (asInt .i64 (pAt 0 x.1)).bind fun n => if x.1.length = 1 then ((asFbox 1 [.str s0] (x.2.getD 0 .none)).bind fun _ => if x.2.length = 1 then K n else none) else none) = K n := by simp [pAt, asInt, asFbox, fnSame]
theorem fill_str (a b : ByteArray) : fillF [.str a] [.str b] = [.str b] := rfl
theorem fragment_1_ev (d : GDef) (t : ByteArray) : ev E0 F_impl_Doc_fragment_1 [.p (.agg 4 d.enc), .ptr (.out 0) 0] [.box 1 [.str t]] = rBS (decide (d.kind = 3 ∧ d.name = t)) t := by
  rw [impl_Doc_fragment_1_0_ev, impl_Doc_fragment_1_0_eq, def_kind0, Option.bind_some, beq_int, def_name0, Option.bind_some]
  by_cases h3 : d.kind = 3
  · rw [decide_eq_true h3, cond_true]
    by_cases hn : d.name = t
    · rw [decide_eq_true hn, decide_eq_true ⟨h3, hn⟩]
    · rw [decide_eq_false hn, decide_eq_false (fun q => hn q.2)]
  · rw [decide_eq_false h3, cond_false, decide_eq_false (fun q => h3 q.1)]
theorem index_2_str (l : List (List Pd)) (n i : Int) (s : ByteArray) : slices_IndexFunc_impl_Def_impl_Def_4 l n i [.str s] = slices_IndexFunc_impl_Def_impl_Def_2 l n i s := rfl
theorem fragIdx_ev {xs : List GDef} (hl : xs.length ≤ 9223372036854775807) (t : ByteArray) : (fragL t xs = none ∧ ev E0 F_slices_IndexFunc_impl_Def_impl_Def [.p (.sl 4 (xs.map GDef.enc)), .fn F_impl_Doc_fragment_1 [.ptr (.out 0) 0]] [.box 1 [.str t]] = rIS (-1) t) ∨
    ∃ (i : Nat) (d : GDef), xs[i]? = some d ∧ fragL t xs = some d ∧ ev E0 F_slices_IndexFunc_impl_Def_impl_Def [.p (.sl 4 (xs.map GDef.enc)), .fn F_impl_Doc_fragment_1 [.ptr (.out 0) 0]] [.box 1 [.str t]] = rIS i t := by
  have hlen : (xs.map GDef.enc).length = xs.length := by simp
  have main : ∀ (m i : Nat), i + m = xs.length → (fragL t (xs.drop i) = none ∧ slices_IndexFunc_impl_Def_impl_Def_2 (xs.map GDef.enc) xs.length i t = rIS (-1) t) ∨
      ∃ (j : Nat) (d : GDef), xs[j]? = some d ∧ fragL t (xs.drop i) = some d ∧ slices_IndexFunc_impl_Def_impl_Def_2 (xs.map GDef.enc) xs.length i t = rIS j t := by
    intro m
    induction m with
    | zero =>
      intro i h
      left
      rw [slices_IndexFunc_impl_Def_impl_Def_2_eq, decide_eq_false (by omega), cond_false, List.drop_of_length_le (by omega)]
      exact ⟨rfl, rfl⟩
    | succ m ih =>
      intro i h
      have hlt : i < xs.length := by omega
      have hg : xs[i]? = some xs[i] := List.getElem?_eq_getElem hlt
      rw [List.drop_eq_getElem_cons hlt]
      generalize xs[i] = d at hg ⊢
      rw [slices_IndexFunc_impl_Def_impl_Def_2_eq, decide_eq_true (by omega), cond_true, hlen, if_pos (by omega), getD_enc hg, fragment_1_ev, bBS, fill_str, inc_i hlt hl, index_2_str]
      by_cases hq : d.kind = 3 ∧ d.name = t
      · right
        rw [decide_eq_true hq, cond_true, fragL_pos hq]
        exact ⟨i, d, hg, rfl, rfl⟩
      · rw [decide_eq_false hq, cond_false, fragL_neg hq]
        exact ih (i + 1) (by omega)
  have := main xs.length 0 (by omega)
  rw [List.drop_zero] at this
  rw [slices_IndexFunc_impl_Def_impl_Def_0_ev, slices_IndexFunc_impl_Def_impl_Def_0_eq, hlen]
  exact this
theorem Doc_fragment_ev {xs : List GDef} (hl : xs.length ≤ 9223372036854775807) (t : ByteArray) : ev E0 F_impl_Doc_fragment [.p (.agg 1 [.sl 4 (xs.map GDef.enc)]), .p (.str t)] [] = rDB (fragD t xs) (fragL t xs).isSome := by
  have hlen : (xs.map GDef.enc).length = xs.length := by simp
  rw [impl_Doc_fragment_0_ev, impl_Doc_fragment_0_eq]
  rcases fragIdx_ev hl t with ⟨h1, h2⟩ | ⟨i, d, h0, h1, h2⟩
  · rw [h2, bIS, decide_eq_true (by omega), cond_true]
    unfold fragD
    rw [h1]
    rfl
  · have hlt := lt_of_get h0
    rw [h2, bIS, decide_eq_false (by omega), cond_false, hlen, if_pos (by omega), getD_enc h0]
    unfold fragD
    rw [h1]
    rfl
theorem fragD_ok {xs : List GDef} (hx : okL okDef xs) (t : ByteArray) : okDef (fragD t xs) := by
  unfold fragD
  cases h : fragL t xs with
  | none => exact ⟨Nat.zero_le _, Nat.zero_le _, Nat.zero_le _, fun x hx => by cases hx⟩
  | some d => exact hx.2 d (fragL_mem h)
theorem bne_int (a b : Int) : (a != b) = !decide (a = b) := by rw [bne, beq_int]
/-- the names of fragments -/
def frN : List GDef → List ByteArray
  | [] => []
  | d :: ds => if d.kind = 3 then d.name :: frN ds else frN ds
theorem frN_append : ∀ a b : List GDef, frN (a ++ b) = frN a ++ frN b
  | [], b => rfl
  | d :: a, b => by
    have h := frN_append a b
    show (if d.kind = 3 then d.name :: frN (a ++ b) else frN (a ++ b)) = (if d.kind = 3 then d.name :: frN a else frN a) ++ frN b
    rw [h]
    split <;> rfl
/-- the one operation: how many came, the last, the fragments' names ahead -/
def opL : Nat → GDef → List ByteArray → List GDef → GDef × Int
  | n, out, _, [] => if n = 0 then (zeroDef, 5) else if 1 < n then (zeroDef, 6) else (out, 0)
  | n, out, pre, d :: ds => if d.kind = 3 then (if inL pre d.name = true then (zeroDef, 19) else opL n out (pre ++ [d.name]) ds) else opL (n + 1) d pre ds
theorem opL_op {n : Nat} {out : GDef} {pre : List ByteArray} {d : GDef} {ds : List GDef} (h : ¬d.kind = 3) : opL n out pre (d :: ds) = opL (n + 1) d pre ds := if_neg h
theorem opL_twice {n : Nat} {out : GDef} {pre : List ByteArray} {d : GDef} {ds : List GDef} (h : d.kind = 3) (h2 : inL pre d.name = true) : opL n out pre (d :: ds) = (zeroDef, 19) := by
  show (if d.kind = 3 then (if inL pre d.name = true then (zeroDef, 19) else opL n out (pre ++ [d.name]) ds) else opL (n + 1) d pre ds) = _
  rw [if_pos h, if_pos h2]
theorem opL_frag {n : Nat} {out : GDef} {pre : List ByteArray} {d : GDef} {ds : List GDef} (h : d.kind = 3) (h2 : inL pre d.name = false) : opL n out pre (d :: ds) = opL n out (pre ++ [d.name]) ds := by
  show (if d.kind = 3 then (if inL pre d.name = true then (zeroDef, 19) else opL n out (pre ++ [d.name]) ds) else opL (n + 1) d pre ds) = _
  rw [if_pos h, h2]; rfl
theorem inL_cons (x : ByteArray) (xs : List ByteArray) (s : ByteArray) : inL (x :: xs) s = (decide (x = s) || inL xs s) := by unfold inL; rw [List.any_cons]
theorem inL_app (xs ys : List ByteArray) (s : ByteArray) : inL (xs ++ ys) s = (inL xs s || inL ys s) := by unfold inL; rw [List.any_append]
theorem frN_take {xs : List GDef} {i : Nat} {d : GDef} (h : xs[i]? = some d) : frN (xs.take (i + 1)) = if d.kind = 3 then frN (xs.take i) ++ [d.name] else frN (xs.take i) := by
  rw [List.take_add_one, h, frN_append]
  show frN (xs.take i) ++ (if d.kind = 3 then [d.name] else []) = _
  split <;> simp
def seenM (l : List ByteArray) : List (ByteArray × Pd) := l.map fun k => (k, Pd.bool true)
theorem findM_seen (s : ByteArray) : ∀ l : List ByteArray, (findM (seenM l) s).getD (.bool false) = .bool (inL l s)
  | [] => rfl
  | k :: l => by
    have ih := findM_seen s l
    show ((if k = s then some (Pd.bool true) else findM (seenM l) s).getD (.bool false)) = _
    rw [inL_cons]
    by_cases h : k = s
    · rw [if_pos h, decide_eq_true h]; rfl
    · rw [if_neg h, decide_eq_false h, Bool.false_or]; exact ih
theorem setM_seen (s : ByteArray) : ∀ l : List ByteArray, inL l s = false → setM (seenM l) s (.bool true) = seenM (l ++ [s])
  | [], _ => rfl
  | k :: l, h => by
    rw [inL_cons, Bool.or_eq_false_iff] at h
    have hk : k ≠ s := of_decide_eq_false h.1
    show (if k = s then (k, Pd.bool true) :: seenM l else (k, Pd.bool true) :: setM (seenM l) s (.bool true)) = _
    rw [if_neg hk, setM_seen s l h.2]
    rfl
/-- the operations -/
def opsOf : List GDef → List GDef
  | [] => []
  | d :: ds => if d.kind = 3 then opsOf ds else d :: opsOf ds
theorem opsOf_append : ∀ a b : List GDef, opsOf (a ++ b) = opsOf a ++ opsOf b
  | [], b => rfl
  | d :: a, b => by
    have h := opsOf_append a b
    show (if d.kind = 3 then opsOf (a ++ b) else d :: opsOf (a ++ b)) = (if d.kind = 3 then opsOf a else d :: opsOf a) ++ opsOf b
    rw [h]
    split <;> rfl
theorem opsOf_take {xs : List GDef} {i : Nat} {d : GDef} (h : xs[i]? = some d) : opsOf (xs.take (i + 1)) = if d.kind = 3 then opsOf (xs.take i) else opsOf (xs.take i) ++ [d] := by
  rw [List.take_add_one, h, opsOf_append]
  show opsOf (xs.take i) ++ (if d.kind = 3 then [] else [d]) = _
  split <;> simp
theorem opsOf_len : ∀ xs : List GDef, (opsOf xs).length ≤ xs.length
  | [] => Nat.le_refl _
  | d :: ds => by
    have := opsOf_len ds
    show (if d.kind = 3 then opsOf ds else d :: opsOf ds).length ≤ _
    split <;> simp <;> omega
theorem Doc_opOf_ev {xs : List GDef} (hx : okL okDef xs) (hb : xs.length ≤ 1048576) : ev E0 F_impl_Doc_opOf [.p (.agg 1 [.sl 4 (xs.map GDef.enc)])] [] = rDI (opL 0 zeroDef [] xs).1 (opL 0 zeroDef [] xs).2 := by
  have hlen : (xs.map GDef.enc).length = xs.length := by simp
  have hxl := hx.1
  have hL : LIM = 140737488355328 := rfl
  have main : ∀ (m i : Nat), i + m = xs.length → impl_Doc_opOf_1 (xs.map GDef.enc) xs.length i 0 (⟨#[]⟩ : ByteArray) (⟨#[]⟩ : ByteArray) ((opsOf (xs.take i)).map GDef.enc) (seenM (frN (xs.take i))) =
      rDI (opL (opsOf (xs.take i)).length ((opsOf (xs.take i)).getLast?.getD zeroDef) (frN (xs.take i)) (xs.drop i)).1 (opL (opsOf (xs.take i)).length ((opsOf (xs.take i)).getLast?.getD zeroDef) (frN (xs.take i)) (xs.drop i)).2 := by
    intro m
    induction m with
    | zero =>
      intro i h
      have hol : ((opsOf (xs.take i)).map GDef.enc).length = (opsOf (xs.take i)).length := by simp
      rw [impl_Doc_opOf_1_eq, decide_eq_false (by omega), cond_false, List.drop_of_length_le (by omega), hol, beq_int, beq_int]
      generalize opsOf (xs.take i) = os
      match os with
      | [] => rfl
      | [d] => rfl
      | d :: e :: os =>
        have h1 : opL (d :: e :: os).length (((d :: e :: os).getLast?).getD zeroDef) (frN (xs.take i)) [] = (zeroDef, 6) := by
          unfold opL
          rw [if_neg (by simp), if_pos (by simp)]
        rw [h1, decide_eq_false (by simp; omega), cond_false, decide_eq_false (by simp; omega), cond_false]
        rfl
    | succ m ih =>
      intro i h
      have hlt : i < xs.length := by omega
      have hg : xs[i]? = some xs[i] := List.getElem?_eq_getElem hlt
      rw [List.drop_eq_getElem_cons hlt]
      generalize xs[i] = d at hg ⊢
      have hft := frN_take hg
      have hot := opsOf_take hg
      have hol : ((opsOf (xs.take i)).map GDef.enc).length = (opsOf (xs.take i)).length := by simp
      have hle := opsOf_len (xs.take i)
      rw [List.length_take] at hle
      have step := ih (i + 1) (by omega)
      rw [impl_Doc_opOf_1_eq, decide_eq_true (by omega), cond_true, hlen, if_pos (by omega), getD_enc hg, def_kind0, Option.bind_some, bne_int]
      by_cases h3 : d.kind = 3
      · rw [if_pos h3] at hft hot
        rw [hft, hot] at step
        rw [decide_eq_true h3, Bool.not_true, cond_false, def_name0, Option.bind_some, findM_seen, asB_, Option.bind_some]
        cases hq : inL (frN (xs.take i)) d.name with
        | true => rw [cond_true, opL_twice h3 hq]; rfl
        | false =>
          rw [cond_false, Option.bind_some, setM_seen _ _ hq, impl_Doc_opOf_2_eq, inc_i hlt hxl, opL_frag h3 hq]
          exact step
      · rw [if_neg h3] at hft hot
        rw [hft, hot] at step
        rw [decide_eq_false h3, Bool.not_false, cond_true, if_pos (by rw [hL, hol, List.length_singleton]; omega), impl_Doc_opOf_2_eq, inc_i hlt hxl, opL_op h3]
        rw [List.map_append, List.length_append, List.getLast?_append] at step
        exact step
  have := main xs.length 0 (by omega)
  rw [List.take_zero, List.drop_zero] at this
  rw [impl_Doc_opOf_0_ev, impl_Doc_opOf_0_eq, hlen]
  exact this
theorem opL_mem : ∀ (xs : List GDef) (n : Nat) (out : GDef) (pre : List ByteArray), (opL n out pre xs).1 = zeroDef ∨ (opL n out pre xs).1 = out ∨ (opL n out pre xs).1 ∈ xs
  | [], n, out, pre => by
    unfold opL
    split
    · exact .inl rfl
    · split
      · exact .inl rfl
      · exact .inr (.inl rfl)
  | d :: ds, n, out, pre => by
    by_cases h3 : d.kind = 3
    · cases hq : inL pre d.name with
      | true => rw [opL_twice h3 hq]; exact .inl rfl
      | false =>
        rw [opL_frag h3 hq]
        rcases opL_mem ds n out (pre ++ [d.name]) with q | q | q
        · exact .inl q
        · exact .inr (.inl q)
        · exact .inr (.inr (List.mem_cons_of_mem _ q))
    · rw [opL_op h3]
      rcases opL_mem ds (n + 1) d pre with q | q | q
      · exact .inl q
      · exact .inr (.inr (by rw [q]; exact List.mem_cons_self ..))
      · exact .inr (.inr (List.mem_cons_of_mem _ q))
/-! ### copies -/
theorem cloneA_ev {es : List (List Pd)} (h : es.length ≤ 1000) : ev E0 F_slices_Clone_impl_Arg_impl_Arg [.p (.sl 4 es)] [] = rL 4 es := by
  rw [slices_Clone_impl_Arg_impl_Arg_0_ev, slices_Clone_impl_Arg_impl_Arg_0_eq, List.nil_append, limK (by simp; omega)]
  cases es with
  | nil => exact agree_self _
  | cons x xs => rfl
theorem cloneD_ev {es : List (List Pd)} (h : es.length ≤ 1000) : ev E0 F_slices_Clone_impl_Dir_impl_Dir [.p (.sl 4 es)] [] = rL 4 es := by
  rw [slices_Clone_impl_Dir_impl_Dir_0_ev, slices_Clone_impl_Dir_impl_Dir_0_eq, List.nil_append, limK (by simp; omega)]
  cases es with
  | nil => exact agree_self _
  | cons x xs => rfl
theorem len_cnts : ∀ xs : List GSel, xs.length ≤ cnts xs
  | [] => Nat.le_refl _
  | x :: xs => by
    have := len_cnts xs
    simp only [List.length_cons, cnts, cntS_eq]; omega
theorem subs_cnts : ∀ {xs : List GSel} {x : GSel}, x ∈ xs → cnts x.subs < cnts xs
  | y :: xs, x, h => by
    simp only [cnts, cntS_eq]
    rcases List.mem_cons.1 h with q | q
    · rw [q]; omega
    · have := subs_cnts q; omega
theorem copySels_ev : ∀ (d : Nat) (xs : List GSel), fine d xs = true → cnts xs ≤ 60 → okL okSel xs → ev E0 F_impl_copySels [.p (.sl 6 (xs.map GSel.enc))] [] = rL 6 (xs.map GSel.enc)
  | 0, xs, hf, hc, hx => by
    cases xs with
    | nil => rw [impl_copySels_0_ev, impl_copySels_0_eq, impl_copySels_1_eq]; rfl
    | cons x xs => simp [fine] at hf
  | d + 1, xs, hf, hc, hx => by
    have hlen : (xs.map GSel.enc).length = xs.length := by simp
    have hl := len_cnts xs
    rw [impl_copySels_0_ev, impl_copySels_0_eq, hlen]
    have main : ∀ (m i : Nat), i + m = xs.length → impl_copySels_1 (xs.map GSel.enc) xs.length i ((xs.take i).map GSel.enc) = rL 6 (xs.map GSel.enc) := by
      intro m
      induction m with
      | zero =>
        intro i h
        rw [impl_copySels_1_eq, decide_eq_false (by omega), cond_false, List.take_of_length_le (by omega)]
      | succ m ihm =>
        intro i h
        have hg : xs[i]? = some (xs[i]'(by omega)) := List.getElem?_eq_getElem (by omega)
        have hmem := List.getElem_mem (l := xs) (n := i) (by omega)
        generalize xs[i]'(by omega) = x at hg hmem
        have step := ihm (i + 1) (by omega)
        rw [List.take_add_one, hg] at step
        obtain ⟨k, a, n, args, dirs, sels⟩ := x
        have hxf : (selB (.mk k a n args dirs sels) && fine d (GSel.mk k a n args dirs sels).subs) = true := List.all_eq_true.1 hf _ hmem
        rw [Bool.and_eq_true] at hxf
        obtain ⟨hs, hsf⟩ := hxf
        unfold selB at hs
        simp only [Bool.and_eq_true, decide_eq_true_eq] at hs
        have hcs := subs_cnts hmem
        have hos := subs_ok (hx.2 _ hmem)
        have ih := copySels_ev d (GSel.mk k a n args dirs sels).subs hsf (by omega) hos
        have e3 : asSl 4 ((GSel.enc (.mk k a n args dirs sels)).getD 3 .undef) = some (args.map GArg.enc) := by unfold GSel.enc; rfl
        have e4 : asSl 4 ((GSel.enc (.mk k a n args dirs sels)).getD 4 .undef) = some (dirs.map GDir.enc) := by unfold GSel.enc; rfl
        have htl : ((xs.take i).map GSel.enc).length ≤ 60 := by rw [List.length_map, List.length_take]; omega
        have ee : ((xs.take i) ++ (some (GSel.mk k a n args dirs sels)).toList).map GSel.enc = (xs.take i).map GSel.enc ++ [[(GSel.enc (.mk k a n args dirs sels)).getD 0 .undef, (GSel.enc (.mk k a n args dirs sels)).getD 1 .undef, (GSel.enc (.mk k a n args dirs sels)).getD 2 .undef, .sl 4 (args.map GArg.enc), .sl 4 (dirs.map GDir.enc), .sl 6 ((GSel.mk k a n args dirs sels).subs.map GSel.enc)]] := by
          rw [List.map_append]
          congr 1
          show [GSel.enc _] = _
          unfold GSel.enc
          rw [GSel.encs_eq]
          rfl
        rw [ee] at step
        rw [impl_copySels_1_eq, decide_eq_true (by omega), cond_true, if_pos (by omega), getD_enc hg, e3, Option.bind_some, cloneA_ev (by simp; omega), bL, e4, Option.bind_some, cloneD_ev (by simp; omega), bL, enc_get5, Option.bind_some, ih, bL, limK (by simp only [List.length_singleton]; omega), wrap_id (by omega)]
        exact step
    have := main xs.length 0 (by omega)
    rw [List.take_zero] at this
    exact this
end Go.Proofs.Ytabomkmgnkjjfaa.Dm
