/- What is included; copies of one's own; fragments. -/
import Derived.Test.YtmnoibkdmeajpaaGreatK9
namespace Go.Proofs.YtmnoibkdmeajpaaGreat.Dm
set_option maxRecDepth 4000
set_option linter.unusedVariables false
set_option linter.unusedSectionVars false
set_option linter.unusedSimpArgs false
def GSel.dirs : GSel → List GDir
 | .mk _ _ _ _ ds _ => ds
theorem selB_dirs {x : GSel} (h : selB x = true) : ∀ d ∈ x.dirs, valueB d.val = true := by
 cases x with
 | mk k a n ar ds ss =>
  unfold selB at h
  simp only [Bool.and_eq_true, List.all_eq_true] at h
  exact fun d hd => h.1 d hd
theorem impl_included_ev {vs : List GArg} (hv : vs.length ≤ 9223372036854775807) (hb : bindsB vs = true) : ∀ (x : GSel), okSel x → selB x = true → ev E0 F_zav [.p (.agg 6 x.enc), .p (.sl 4 (vs.map GArg.enc))] [] = rB (inB vs x.dirs)
 | .mk k al nm args dirs sels, hx, hs => by
  have hd := selB_dirs hs
  obtain ⟨x1, x2, x3, x4, x5, x6⟩ := hx
  unfold GSel.enc
  rw [zav_0_ev, zav_0_eq, contains_dirs2 hv x4.1 (fun d h => valOf_plain hb (hd d h)), bBoxB]
  unfold inB
  simp [GSel.dirs, List.all_eq_not_any_not]
theorem inc_i {i n : Nat} (h : i < n) (hn : n ≤ 9223372036854775807) : IntKind.i64.wrap ((i : Int) + 1) = ((i + 1 : Nat) : Int) := by rw [wrap_id (by omega)]; omega
theorem agree_self {R : Type} (r : R) : agree (some r) (some r) = some r := agree_some.2 ⟨rfl, rfl⟩
theorem cloneArg_ev {es : List (List Pd)} (h : es.length ≤ 1048576) (hw : wfEs T0 ckArg es) : ev E0 F_zdc [.p (.sl 4 es)] [] = some ([.arr (.out 0)], [.arr 142 4 48 false es]) := by
 have hL : LIM = 140737488355328 := rfl
 rw [zdc_0_ev, zdc_0_eq, List.nil_append, if_pos (c := (([] : List (List Pd)).length + es.length) * 48 ≤ LIM) (by rw [hL]; simp; omega), if_pos (okEs_flat flatArg hw)]
 cases es with
 | nil => exact agree_self _
 | cons x xs => rfl
theorem cloneDir_ev {es : List (List Pd)} (h : es.length ≤ 1048576) (hw : wfEs T0 ckDir es) : ev E0 F_zdd [.p (.sl 4 es)] [] = some ([.arr (.out 0)], [.arr 65 4 40 false es]) := by
 have hL : LIM = 140737488355328 := rfl
 rw [zdd_0_ev, zdd_0_eq, List.nil_append, if_pos (c := (([] : List (List Pd)).length + es.length) * 40 ≤ LIM) (by rw [hL]; simp; omega), if_pos (okEs_flat flatDir hw)]
 cases es with
 | nil => exact agree_self _
 | cons x xs => rfl
theorem take_snoc {es : List (List Pd)} {i : Nat} {x : List Pd} (h : es[i]? = some x) : es.take (i + 1) = es.take i ++ [x] := by rw [List.take_add_one, h]; rfl
theorem copySels_ev : ∀ (es : List (List Pd)), es.length ≤ 1048576 → wEs es ≤ 1048576 → wfEs T0 ckSel es → ev E0 F_zau [.p (.sl 6 es)] [] = some ([.arr (.out 0)], [.oarr 61 6 (ownEs T0 ckSel es)]) := by
 refine row_ind (cs := []) fun es ih hl hwt hw => ?_
 have hL : LIM = 140737488355328 := rfl
 rw [zau_0_ev, zau_0_eq]
 have main : ∀ (m i : Nat), i + m = es.length → zau_1 es es.length i (ownEs T0 ckSel (es.take i)) = some ([.arr (.out 0)], [.oarr 61 6 (ownEs T0 ckSel es)]) := by
  intro m
  induction m with
  | zero =>
   intro i h
   rw [zau_1_eq, decide_eq_false (by omega), cond_false, List.take_of_length_le (by omega)]
  | succ m ihm =>
   intro i h
   have hx : es[i]? = some (es[i]'(by omega)) := List.getElem?_eq_getElem (by omega)
   generalize es[i]'(by omega) = x at hx
   have step := ihm (i + 1) (by omega)
   rw [take_snoc hx, ownEs_map, List.map_append, ← ownEs_map] at step
   obtain ⟨v0, v1, v2, v3, v4, v5, rfl, q1, q2, q3, w3, q4, w4, q5, w5⟩ := decSel (wfEs_get hw hx)
   have hm : [.int .i64 v0, .str v1, .str v2, .sl 4 v3, .sl 4 v4, .sl 6 v5] ∈ es := List.mem_of_getElem? hx
   have hwx := wEs_mem hm
   simp only [wC, wP] at hwx
   have g3 := cloneArg_ev (es := v3) (by omega) w3
   have g4 := cloneDir_ev (es := v4) (by omega) w4
   have g5 := ih _ hm 6 v5 (by simp) (by omega) (by omega) w5
   have h3 : okEs v3 = true := okEs_flat flatArg w3
   have h4 : okEs v4 = true := okEs_flat flatDir w4
   have a3 : asSl 4 (([.int .i64 v0, .str v1, .str v2, .sl 4 v3, .sl 4 v4, .sl 6 v5] : List Pd).getD 3 .undef) = some v3 := asSl_ _ _
   have a4 : asSl 4 (([.int .i64 v0, .str v1, .str v2, .sl 4 v3, .sl 4 v4, .sl 6 v5] : List Pd).getD 4 .undef) = some v4 := asSl_ _ _
   have a5 : asSl 6 (([.int .i64 v0, .str v1, .str v2, .sl 4 v3, .sl 4 v4, .sl 6 v5] : List Pd).getD 5 .undef) = some v5 := asSl_ _ _
   have hol := ownEs_len T0 ckSel (es.take i)
   have htl : (es.take i).length ≤ 1048576 := by rw [List.length_take]; omega
   rw [zau_1_eq, decide_eq_true (by omega), cond_true, if_pos (by omega), getD_of hx, a3, Option.bind_some, g3, Option.bind_some, asOwn_ArgS h3, Option.bind_some, a4, Option.bind_some, g4, Option.bind_some, asOwn_DirS h4, Option.bind_some, a5, Option.bind_some, g5, Option.bind_some, asOwn_SelS, Option.bind_some]
   simp only [List.getD_cons_zero, List.getD_cons_succ]
   have s0 : scalPd (.int .i64 v0) = true := rfl
   have s1 : scalPd (.str v1) = true := rfl
   have s2 : scalPd (.str v2) = true := rfl
   rw [if_pos s0, if_pos s1, if_pos s2, if_pos ⟨by trivial, by trivial, h3⟩, if_pos ⟨by trivial, by trivial, h4⟩, if_pos (by rw [hL, hol, List.length_singleton]; omega), wrap_id (by omega)]
   rw [List.map_singleton, own_Sel, ownEs_flat T0 flatArg, ownEs_flat T0 flatDir] at step
   exact step
 have := main es.length 0 (by omega)
 rw [List.take_zero, ownEs] at this
 exact this
theorem l02OwnSels_ev : ∀ (es : List (List Pd)), es.length ≤ 1048576 → wEs es ≤ 1048576 → wfEs T0 ckSel es → ev E0 F_zdw [.p (.sl 6 es)] [] = rL 6 es := by
 refine row_ind (cs := []) fun es ih hl hwt hw => ?_
 have hL : LIM = 140737488355328 := rfl
 rw [zdw_0_ev, zdw_0_eq]
 have main : ∀ (m i : Nat), i + m = es.length → zdw_1 es i (es.take i) = rL 6 es := by
  intro m
  induction m with
  | zero =>
   intro i h
   rw [zdw_1_eq, decide_eq_false (by omega), cond_false, List.take_of_length_le (by omega)]
  | succ m ihm =>
   intro i h
   have hx : es[i]? = some (es[i]'(by omega)) := List.getElem?_eq_getElem (by omega)
   generalize es[i]'(by omega) = x at hx
   have step := ihm (i + 1) (by omega)
   rw [take_snoc hx] at step
   obtain ⟨v0, v1, v2, v3, v4, v5, rfl, q1, q2, q3, w3, q4, w4, q5, w5⟩ := decSel (wfEs_get hw hx)
   have hm : [.int .i64 v0, .str v1, .str v2, .sl 4 v3, .sl 4 v4, .sl 6 v5] ∈ es := List.mem_of_getElem? hx
   have hwx := wEs_mem hm
   simp only [wC, wP] at hwx
   have g5 := ih _ hm 6 v5 (by simp) (by omega) (by omega) w5
   have a3 : asSl 4 (([.int .i64 v0, .str v1, .str v2, .sl 4 v3, .sl 4 v4, .sl 6 v5] : List Pd).getD 3 .undef) = some v3 := asSl_ _ _
   have a4 : asSl 4 (([.int .i64 v0, .str v1, .str v2, .sl 4 v3, .sl 4 v4, .sl 6 v5] : List Pd).getD 4 .undef) = some v4 := asSl_ _ _
   have a5 : asSl 6 (([.int .i64 v0, .str v1, .str v2, .sl 4 v3, .sl 4 v4, .sl 6 v5] : List Pd).getD 5 .undef) = some v5 := asSl_ _ _
   have htl : (es.take i).length ≤ 1048576 := by rw [List.length_take]; omega
   rw [zdw_1_eq, decide_eq_true (by omega), cond_true, if_pos (by omega), getD_of hx, a3, Option.bind_some, if_pos (by rw [hL]; simp; omega), a4, Option.bind_some, if_pos (by rw [hL]; simp; omega), a5, Option.bind_some, g5, bL, List.nil_append, List.nil_append, if_pos (by rw [hL, List.length_singleton]; omega), wrap_id (by omega)]
   exact step
 have := main es.length 0 (by omega)
 rw [List.take_zero] at this
 exact this
def zeroDef : GDef := ⟨0, ⟨#[]⟩, ⟨#[]⟩, []⟩
def fragL (t : ByteArray) : List GDef → Option GDef
 | [] => none
 | d :: ds => if d.kind = 3 ∧ d.name = t then some d else fragL t ds
def fragD (t : ByteArray) (xs : List GDef) : GDef := (fragL t xs).getD zeroDef
abbrev rDB (d : GDef) (b : Bool) : Option Res := some ([.p (.agg 4 d.enc), .p (.bool b)], [])
theorem bDB {R : Type} (d : GDef) (b : Bool) (K : List Pd → Bool → Option R) : ((rDB d b).bind fun r => (asAgg 4 (pAt 0 r.1)).bind fun c => (asBool (pAt 1 r.1)).bind fun b => if r.1.length = 2 then K c b else none) = K d.enc b := by simp [pAt, asAgg, asBool]
theorem fragL_pos {t : ByteArray} {d : GDef} {ds : List GDef} (h : d.kind = 3 ∧ d.name = t) : fragL t (d :: ds) = some d := if_pos h
theorem fragL_neg {t : ByteArray} {d : GDef} {ds : List GDef} (h : ¬(d.kind = 3 ∧ d.name = t)) : fragL t (d :: ds) = fragL t ds := if_neg h
theorem fragD_pos {t : ByteArray} {d : GDef} {ds : List GDef} (h : d.kind = 3 ∧ d.name = t) : fragD t (d :: ds) = d := by unfold fragD; rw [fragL_pos h]; rfl
theorem fragD_neg {t : ByteArray} {d : GDef} {ds : List GDef} (h : ¬(d.kind = 3 ∧ d.name = t)) : fragD t (d :: ds) = fragD t ds := by unfold fragD; rw [fragL_neg h]
theorem fragL_mem {t : ByteArray} : ∀ {xs : List GDef} {d : GDef}, fragL t xs = some d → d ∈ xs
 | x :: xs, d, h => by
  unfold fragL at h
  split at h
  ·injection h with h; subst h; exact List.mem_cons_self ..
  ·exact List.mem_cons_of_mem _ (fragL_mem h)
theorem def_kind0 (d : GDef) : asInt .i64 ((GDef.enc d).getD 0 .undef) = some d.kind := asI _
theorem def_name0 (d : GDef) : asStr ((GDef.enc d).getD 1 .undef) = some d.name := rfl
theorem def_name1 (d : GDef) : asStr (((GDef.enc d).drop 1).getD 0 .undef) = some d.name := rfl
theorem l02Fragment_ev {xs : List GDef} (hl : xs.length ≤ 9223372036854775807) (t : ByteArray) : ev E0 F_zdv [.p (.agg 1 [.sl 4 (xs.map GDef.enc)]), .p (.str t)] [] = rDB (fragD t xs) (fragL t xs).isSome := by
 have hlen : (xs.map GDef.enc).length = xs.length := by simp
 have main : ∀ (m i : Nat), i + m = xs.length → zdv_1 t i (xs.map GDef.enc) 0 (⟨#[]⟩ : ByteArray) (⟨#[]⟩ : ByteArray) = rDB (fragD t (xs.drop i)) (fragL t (xs.drop i)).isSome := by
  intro m
  induction m with
  | zero =>
   intro i h
   rw [zdv_1_eq, hlen, decide_eq_false (by omega), cond_false, List.drop_of_length_le (by omega)]
   rfl
  | succ m ih =>
   intro i h
   have hlt : i < xs.length := by omega
   have hg : xs[i]? = some xs[i] := List.getElem?_eq_getElem hlt
   rw [List.drop_eq_getElem_cons hlt]
   generalize xs[i] = d at hg ⊢
   have e2 : ∀ b : Bool, zdv_2 t i b (xs.map GDef.enc) 0 (⟨#[]⟩ : ByteArray) (⟨#[]⟩ : ByteArray) = bif b then rDB d true else rDB (fragD t (xs.drop (i + 1))) (fragL t (xs.drop (i + 1))).isSome := by
    intro b
    rw [zdv_2_eq, hlen, if_pos (by omega), getD_enc hg, inc_i hlt hl, ih (i + 1) (by omega)]
   rw [zdv_1_eq, hlen, decide_eq_true (by omega), cond_true, if_pos (by omega), getD_enc hg, def_kind0, Option.bind_some, beq_int, if_pos (by omega), def_name1, Option.bind_some, e2, e2]
   by_cases h3 : d.kind = 3
   ·rw [decide_eq_true h3, cond_true]
    by_cases hn : d.name = t
    ·rw [decide_eq_true hn, cond_true, fragD_pos ⟨h3, hn⟩, fragL_pos ⟨h3, hn⟩]
     rfl
    ·rw [decide_eq_false hn, cond_false, fragD_neg (fun q => hn q.2), fragL_neg (fun q => hn q.2)]
   ·rw [decide_eq_false h3, cond_false, cond_false, fragD_neg (fun q => h3 q.1), fragL_neg (fun q => h3 q.1)]
 have := main xs.length 0 (by omega)
 rw [List.drop_zero] at this
 rw [zdv_0_ev, zdv_0_eq]
 exact this
abbrev rBS (b : Bool) (s : ByteArray) : Option Res := some ([.p (.bool b)], [.box 1 [.str s]])
abbrev rIS (n : Int) (s : ByteArray) : Option Res := some ([.p (.int .i64 n)], [.box 1 [.str s]])
theorem bBS {R : Type} (b : Bool) (s s0 : ByteArray) (K : Bool → List Pd → Option R) : ((rBS b s).bind fun x => (asBool (pAt 0 x.1)).bind fun b => if x.1.length = 1 then ((asFbox 1 [.str s0] (x.2.getD 0 .none)).bind fun c => if x.2.length = 1 then K b c else none) else none) = K b [.str s] := by simp [pAt, asBool, asFbox, fnSame]
theorem bIS {R : Type} (n : Int) (s s0 : ByteArray) (K : Int → Option R) : ((rIS n s).bind fun x => (asInt .i64 (pAt 0 x.1)).bind fun n => if x.1.length = 1 then ((asFbox 1 [.str s0] (x.2.getD 0 .none)).bind fun _ => if x.2.length = 1 then K n else none) else none) = K n := by simp [pAt, asInt, asFbox, fnSame]
theorem fill_str (a b : ByteArray) : fillF [.str a] [.str b] = [.str b] := rfl
theorem fragment_1_ev (d : GDef) (t : ByteArray) : ev E0 F_zai [.p (.agg 4 d.enc), .ptr (.out 0) 0] [.box 1 [.str t]] = rBS (decide (d.kind = 3 ∧ d.name = t)) t := by
 rw [zai_0_ev, zai_0_eq, def_kind0, Option.bind_some, beq_int, def_name0, Option.bind_some]
 by_cases h3 : d.kind = 3
 ·rw [decide_eq_true h3, cond_true]
  by_cases hn : d.name = t
  ·rw [decide_eq_true hn, decide_eq_true ⟨h3, hn⟩]
  ·rw [decide_eq_false hn, decide_eq_false (fun q => hn q.2)]
 ·rw [decide_eq_false h3, cond_false, decide_eq_false (fun q => h3 q.1)]
theorem index_2_str (l : List (List Pd)) (n i : Int) (s : ByteArray) : zdj_2 l n i [.str s] = zdj_1 l n i s := rfl
theorem fragIdx_ev {xs : List GDef} (hl : xs.length ≤ 9223372036854775807) (t : ByteArray) : (fragL t xs = none ∧ ev E0 F_zdj [.p (.sl 4 (xs.map GDef.enc)), .fn F_zai [.ptr (.out 0) 0]] [.box 1 [.str t]] = rIS (-1) t) ∨
 ∃ (i : Nat) (d : GDef), xs[i]? = some d ∧ fragL t xs = some d ∧ ev E0 F_zdj [.p (.sl 4 (xs.map GDef.enc)), .fn F_zai [.ptr (.out 0) 0]] [.box 1 [.str t]] = rIS i t := by
 have hlen : (xs.map GDef.enc).length = xs.length := by simp
 have main : ∀ (m i : Nat), i + m = xs.length → (fragL t (xs.drop i) = none ∧ zdj_1 (xs.map GDef.enc) xs.length i t = rIS (-1) t) ∨
  ∃ (j : Nat) (d : GDef), xs[j]? = some d ∧ fragL t (xs.drop i) = some d ∧ zdj_1 (xs.map GDef.enc) xs.length i t = rIS j t := by
  intro m
  induction m with
  | zero =>
   intro i h
   left
   rw [zdj_1_eq, decide_eq_false (by omega), cond_false, List.drop_of_length_le (by omega)]
   exact ⟨rfl, rfl⟩
  | succ m ih =>
   intro i h
   have hlt : i < xs.length := by omega
   have hg : xs[i]? = some xs[i] := List.getElem?_eq_getElem hlt
   rw [List.drop_eq_getElem_cons hlt]
   generalize xs[i] = d at hg ⊢
   rw [zdj_1_eq, decide_eq_true (by omega), cond_true, hlen, if_pos (by omega), getD_enc hg, fragment_1_ev, bBS, fill_str, inc_i hlt hl, index_2_str]
   by_cases hq : d.kind = 3 ∧ d.name = t
   ·right
    rw [decide_eq_true hq, cond_true, fragL_pos hq]
    exact ⟨i, d, hg, rfl, rfl⟩
   ·rw [decide_eq_false hq, cond_false, fragL_neg hq]
    exact ih (i + 1) (by omega)
 have := main xs.length 0 (by omega)
 rw [List.drop_zero] at this
 rw [zdj_0_ev, zdj_0_eq, hlen]
 exact this
theorem Doc_fragment_ev {xs : List GDef} (hl : xs.length ≤ 9223372036854775807) (t : ByteArray) : ev E0 F_zah [.p (.agg 1 [.sl 4 (xs.map GDef.enc)]), .p (.str t)] [] = rDB (fragD t xs) (fragL t xs).isSome := by
 have hlen : (xs.map GDef.enc).length = xs.length := by simp
 rw [zah_0_ev, zah_0_eq]
 rcases fragIdx_ev hl t with ⟨h1, h2⟩ | ⟨i, d, h0, h1, h2⟩
 ·rw [h2, bIS, decide_eq_true (by omega), cond_true]
  unfold fragD
  rw [h1]
  rfl
 ·have hlt := lt_of_get h0
  rw [h2, bIS, decide_eq_false (by omega), cond_false, hlen, if_pos (by omega), getD_enc h0]
  unfold fragD
  rw [h1]
  rfl
end Go.Proofs.YtmnoibkdmeajpaaGreat.Dm
