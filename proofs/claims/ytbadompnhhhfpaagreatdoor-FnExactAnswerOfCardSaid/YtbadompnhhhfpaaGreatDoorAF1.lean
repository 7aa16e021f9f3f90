/- The one operation of a document: reference and program. -/
import Derived.Test.YtbadompnhhhfpaaGreatDoorAT6
namespace Go.Proofs.YtbadompnhhhfpaaGreatDoor.Dm
set_option maxRecDepth 4000
set_option linter.unusedVariables false
set_option linter.unusedSimpArgs false
def encS (s : ByteArray) : List Pd := [.str s]
def okS (s : ByteArray) : Prop := s.size ≤ 9223372036854775807
theorem encS_get (s : ByteArray) : asStr ((encS s).getD 0 .undef) = some s := rfl
theorem wf_S {xs : List ByteArray} (h : ∀ x ∈ xs, okS x) : wfEs T0 ckString (xs.map encS) := wf_map (ok := okS) (fun a h => wfC_mk (wfP_str h) wfC_mk0) h
theorem inc_i {i n : Nat} (h : i < n) (hn : n ≤ 9223372036854775807) : IntKind.i64.wrap ((i : Int) + 1) = ((i + 1 : Nat) : Int) := by rw [wrap_id (by omega)]; omega
def inL (xs : List ByteArray) (s : ByteArray) : Bool := xs.any fun x => decide (x = s)
theorem l04In_ev {xs : List ByteArray} (hl : xs.length ≤ 9223372036854775807) (s : ByteArray) : ev E0 F_spec_l04In [.p (.sl 1 (xs.map encS)), .p (.str s)] [] = rB (inL xs s) := by
  have hlen : (xs.map encS).length = xs.length := by simp
  have loop : ∀ (m i : Nat), i + m = xs.length → spec_l04In_1 (xs.map encS) s i = rB (inL (xs.drop i) s) := by
    intro m
    induction m with
    | zero =>
      intro i h
      have : i = xs.length := by omega
      subst this
      rw [spec_l04In_1_eq, hlen, decide_eq_false (by omega), cond_false, List.drop_length]
      rfl
    | succ m ih =>
      intro i h
      have hlt : i < xs.length := by omega
      have hg : xs[i]? = some xs[i] := List.getElem?_eq_getElem hlt
      rw [spec_l04In_1_eq, hlen, decide_eq_true (by omega), cond_true, if_pos (by omega), getD_enc hg, encS_get, Option.bind_some, inc_i hlt hl, ih (i + 1) (by omega), List.drop_eq_getElem_cons hlt]
      unfold inL
      rw [List.any_cons]
      cases decide (xs[i] = s) <;> rfl
  have := loop xs.length 0 (by omega)
  rw [List.drop_zero] at this
  rw [spec_l04In_0_ev, spec_l04In_0_eq]
  exact this
theorem take_snoc {es : List (List Pd)} {i : Nat} {x : List Pd} (h : es[i]? = some x) : es.take (i + 1) = es.take i ++ [x] := by rw [List.take_add_one, h]; rfl
def zeroDef : GDef := ⟨0, ⟨#[]⟩, ⟨#[]⟩, []⟩
theorem def_kind0 (d : GDef) : asInt .i64 ((GDef.enc d).getD 0 .undef) = some d.kind := asI _
theorem def_name0 (d : GDef) : asStr ((GDef.enc d).getD 1 .undef) = some d.name := rfl
theorem def_name1 (d : GDef) : asStr (((GDef.enc d).drop 1).getD 0 .undef) = some d.name := rfl
abbrev rDI (d : GDef) (c : Int) : Option Res := some ([.p (.agg 4 d.enc), .p (.int .i64 c)], [])
theorem bDI {R : Type} (d : GDef) (c : Int) (K : List Pd → Int → Option R) : ((rDI d c).bind fun r => (asAgg 4 (pAt 0 r.1)).bind fun a => (asInt .i64 (pAt 1 r.1)).bind fun c => if r.1.length = 2 then K a c else none) = K d.enc c := by simp [pAt, asAgg, asInt]
theorem def_enc (d : GDef) : ([.int .i64 d.kind, .str d.name, .str d.on, .sl 6 (d.sels.map GSel.enc)] : List Pd) = d.enc := rfl
theorem zero_ok : okDef zeroDef := ⟨Nat.zero_le _, Nat.zero_le _, Nat.zero_le _, fun x hx => by cases hx⟩
theorem bne_int (a b : Int) : (a != b) = !decide (a = b) := by rw [bne, beq_int]
def frN : List GDef → List ByteArray
  | [] => []
  | d :: ds => if d.kind = 3 then d.name :: frN ds else frN ds
theorem frN_append : ∀ a b : List GDef, frN (a ++ b) = frN a ++ frN b
  | [], b => rfl
  | d :: a, b => by
    have h := frN_append a b
    show (if d.kind = 3 then d.name :: frN (a ++ b) else frN (a ++ b)) = (if d.kind = 3 then d.name :: frN a else frN a) ++ frN b
    rw [h]
    split <;> rfl
def opL : Nat → GDef → List ByteArray → List GDef → GDef × Int
  | n, out, _, [] => if n = 0 then (zeroDef, 5) else if 1 < n then (zeroDef, 6) else (out, 0)
  | n, out, pre, d :: ds => if d.kind = 3 then (if inL pre d.name = true then (zeroDef, 19) else opL n out (pre ++ [d.name]) ds) else opL (n + 1) d pre ds
theorem opL_op {n : Nat} {out : GDef} {pre : List ByteArray} {d : GDef} {ds : List GDef} (h : ¬d.kind = 3) : opL n out pre (d :: ds) = opL (n + 1) d pre ds := if_neg h
theorem opL_twice {n : Nat} {out : GDef} {pre : List ByteArray} {d : GDef} {ds : List GDef} (h : d.kind = 3) (h2 : inL pre d.name = true) : opL n out pre (d :: ds) = (zeroDef, 19) := by
  show (if d.kind = 3 then (if inL pre d.name = true then (zeroDef, 19) else opL n out (pre ++ [d.name]) ds) else opL (n + 1) d pre ds) = _
  rw [if_pos h, if_pos h2]
theorem opL_frag {n : Nat} {out : GDef} {pre : List ByteArray} {d : GDef} {ds : List GDef} (h : d.kind = 3) (h2 : inL pre d.name = false) : opL n out pre (d :: ds) = opL n out (pre ++ [d.name]) ds := by
  show (if d.kind = 3 then (if inL pre d.name = true then (zeroDef, 19) else opL n out (pre ++ [d.name]) ds) else opL (n + 1) d pre ds) = _
  rw [if_pos h, h2]; rfl
theorem inL_cons (x : ByteArray) (xs : List ByteArray) (s : ByteArray) : inL (x :: xs) s = (decide (x = s) || inL xs s) := by unfold inL; rw [List.any_cons]
theorem inL_app (xs ys : List ByteArray) (s : ByteArray) : inL (xs ++ ys) s = (inL xs s || inL ys s) := by unfold inL; rw [List.any_append]
theorem frN_take {xs : List GDef} {i : Nat} {d : GDef} (h : xs[i]? = some d) : frN (xs.take (i + 1)) = if d.kind = 3 then frN (xs.take i) ++ [d.name] else frN (xs.take i) := by
  rw [List.take_add_one, h, frN_append]
  show frN (xs.take i) ++ (if d.kind = 3 then [d.name] else []) = _
  split <;> simp
abbrev z5 (c : Int) : Option Res := some ([.p (.agg 4 [.int .i64 0, .str (⟨#[]⟩ : ByteArray), .str (⟨#[]⟩ : ByteArray), .sl 6 ([] : List (List Pd))]), .p (.int .i64 c)], [])
theorem z5_eq (c : Int) : z5 c = rDI zeroDef c := rfl
section
variable {xs : List GDef} (hx : okL okDef xs)
include hx
theorem l04Op_in3 {i : Nat} {d : GDef} (hg : xs[i]? = some d) (n : Nat) : ∀ (m k : Nat), k + m = i →
    spec_l04Op_3 n i k (xs.map GDef.enc) 0 (⟨#[]⟩ : ByteArray) (⟨#[]⟩ : ByteArray) 0 (⟨#[]⟩ : ByteArray) (⟨#[]⟩ : ByteArray) d.enc = bif inL (frN ((xs.take i).drop k)) d.name then z5 19 else spec_l04Op_1 n ((i + 1 : Nat) : Int) (xs.map GDef.enc) 0 (⟨#[]⟩ : ByteArray) (⟨#[]⟩ : ByteArray) 0 (⟨#[]⟩ : ByteArray) (⟨#[]⟩ : ByteArray) := by
  have hlen : (xs.map GDef.enc).length = xs.length := by simp
  have hxl := hx.1
  have hi := lt_of_get hg
  intro m
  induction m with
  | zero =>
    intro k h
    have : k = i := by omega
    subst this
    rw [spec_l04Op_3_eq, decide_eq_false (by omega), cond_false, spec_l04Op_6_eq, inc_i hi hxl, List.drop_of_length_le (by rw [List.length_take]; omega)]
    rfl
  | succ m ih =>
    intro k h
    have hlt : k < xs.length := by omega
    have hk : xs[k]? = some xs[k] := List.getElem?_eq_getElem hlt
    have hdr : (xs.take i).drop k = xs[k] :: (xs.take i).drop (k + 1) := by
      rw [List.drop_eq_getElem_cons (by rw [List.length_take]; omega)]
      simp
    rw [hdr]
    generalize xs[k] = e at hk ⊢
    have e5 : ∀ b : Bool, spec_l04Op_5 n i k b (xs.map GDef.enc) 0 (⟨#[]⟩ : ByteArray) (⟨#[]⟩ : ByteArray) 0 (⟨#[]⟩ : ByteArray) (⟨#[]⟩ : ByteArray) d.enc = bif b then z5 19 else bif inL (frN ((xs.take i).drop (k + 1))) d.name then z5 19 else spec_l04Op_1 n ((i + 1 : Nat) : Int) (xs.map GDef.enc) 0 (⟨#[]⟩ : ByteArray) (⟨#[]⟩ : ByteArray) 0 (⟨#[]⟩ : ByteArray) (⟨#[]⟩ : ByteArray) := by
      intro b
      rw [spec_l04Op_5_eq, inc_i hlt hxl, ih (k + 1) (by omega)]
    rw [spec_l04Op_3_eq, decide_eq_true (by omega), cond_true, hlen, if_pos (by omega), getD_enc hk, def_kind0, Option.bind_some, beq_int, if_pos (by omega), def_name1, Option.bind_some, def_name0, Option.bind_some, e5, e5]
    by_cases h3 : e.kind = 3
    · have hf : frN (e :: (xs.take i).drop (k + 1)) = e.name :: frN ((xs.take i).drop (k + 1)) := if_pos h3
      rw [decide_eq_true h3, cond_true, hf, inL_cons]
      cases decide (e.name = d.name) <;> rfl
    · have hf : frN (e :: (xs.take i).drop (k + 1)) = frN ((xs.take i).drop (k + 1)) := if_neg h3
      rw [decide_eq_false h3, cond_false, hf, cond_false]
theorem l04Op_in7 {i : Nat} {d : GDef} (hg : xs[i]? = some d) (n : Nat) (out : GDef) : ∀ (m k : Nat), k + m = i →
    spec_l04Op_7 n i k (xs.map GDef.enc) 0 (⟨#[]⟩ : ByteArray) (⟨#[]⟩ : ByteArray) out.enc d.enc = bif inL (frN ((xs.take i).drop k)) d.name then z5 19 else spec_l04Op_4 n ((i + 1 : Nat) : Int) (xs.map GDef.enc) 0 (⟨#[]⟩ : ByteArray) (⟨#[]⟩ : ByteArray) out.enc := by
  have hlen : (xs.map GDef.enc).length = xs.length := by simp
  have hxl := hx.1
  have hi := lt_of_get hg
  intro m
  induction m with
  | zero =>
    intro k h
    have : k = i := by omega
    subst this
    rw [spec_l04Op_7_eq, decide_eq_false (by omega), cond_false, spec_l04Op_2_eq, inc_i hi hxl, List.drop_of_length_le (by rw [List.length_take]; omega)]
    rfl
  | succ m ih =>
    intro k h
    have hlt : k < xs.length := by omega
    have hk : xs[k]? = some xs[k] := List.getElem?_eq_getElem hlt
    have hdr : (xs.take i).drop k = xs[k] :: (xs.take i).drop (k + 1) := by
      rw [List.drop_eq_getElem_cons (by rw [List.length_take]; omega)]
      simp
    rw [hdr]
    generalize xs[k] = e at hk ⊢
    have e5 : ∀ b : Bool, spec_l04Op_8 n i k b (xs.map GDef.enc) 0 (⟨#[]⟩ : ByteArray) (⟨#[]⟩ : ByteArray) out.enc d.enc = bif b then z5 19 else bif inL (frN ((xs.take i).drop (k + 1))) d.name then z5 19 else spec_l04Op_4 n ((i + 1 : Nat) : Int) (xs.map GDef.enc) 0 (⟨#[]⟩ : ByteArray) (⟨#[]⟩ : ByteArray) out.enc := by
      intro b
      rw [spec_l04Op_8_eq, inc_i hlt hxl, ih (k + 1) (by omega)]
    rw [spec_l04Op_7_eq, decide_eq_true (by omega), cond_true, hlen, if_pos (by omega), getD_enc hk, def_kind0, Option.bind_some, beq_int, if_pos (by omega), def_name1, Option.bind_some, def_name0, Option.bind_some, e5, e5]
    by_cases h3 : e.kind = 3
    · have hf : frN (e :: (xs.take i).drop (k + 1)) = e.name :: frN ((xs.take i).drop (k + 1)) := if_pos h3
      rw [decide_eq_true h3, cond_true, hf, inL_cons]
      cases decide (e.name = d.name) <;> rfl
    · have hf : frN (e :: (xs.take i).drop (k + 1)) = frN ((xs.take i).drop (k + 1)) := if_neg h3
      rw [decide_eq_false h3, cond_false, hf, cond_false]
theorem l04Op_4 : ∀ (m i n : Nat) (out : GDef), i + m = xs.length → n ≤ i → 1 ≤ n → spec_l04Op_4 n i (xs.map GDef.enc) 0 (⟨#[]⟩ : ByteArray) (⟨#[]⟩ : ByteArray) out.enc = rDI (opL n out (frN (xs.take i)) (xs.drop i)).1 (opL n out (frN (xs.take i)) (xs.drop i)).2 := by
  have hlen : (xs.map GDef.enc).length = xs.length := by simp
  have hxl := hx.1
  intro m
  induction m with
  | zero =>
    intro i n out h hn h1
    rw [spec_l04Op_4_eq, hlen, decide_eq_false (by omega), cond_false, List.drop_of_length_le (by omega), beq_int, decide_eq_false (by omega), cond_false]
    unfold opL
    rw [if_neg (by omega)]
    by_cases h2 : 1 < n
    · rw [decide_eq_true (by omega), cond_true, if_pos h2]; rfl
    · rw [decide_eq_false (by omega), cond_false, if_neg h2]
  | succ m ih =>
    intro i n out h hn h1
    have hlt : i < xs.length := by omega
    have hg : xs[i]? = some xs[i] := List.getElem?_eq_getElem hlt
    rw [List.drop_eq_getElem_cons hlt]
    generalize xs[i] = d at hg ⊢
    have ew : IntKind.i64.wrap ((n : Int) + 1) = ((n + 1 : Nat) : Int) := by rw [wrap_id (by omega)]; omega
    have hft := frN_take hg
    have hin := l04Op_in7 hx hg n out i 0 (by omega)
    rw [List.drop_zero] at hin
    have e0 : ((0 : Nat) : Int) = 0 := rfl
    rw [e0] at hin
    rw [spec_l04Op_4_eq, hlen, decide_eq_true (by omega), cond_true, if_pos (by omega), getD_enc hg, def_kind0, Option.bind_some, bne_int, hin, spec_l04Op_2_eq, inc_i hlt hxl, ew]
    by_cases h3 : d.kind = 3
    · rw [decide_eq_true h3, Bool.not_true, cond_false]
      rw [if_pos h3] at hft
      cases hq : inL (frN (xs.take i)) d.name with
      | true => rw [cond_true, opL_twice h3 hq]; rfl
      | false => rw [cond_false, opL_frag h3 hq, ih (i + 1) n out (by omega) (by omega) h1, hft]
    · rw [decide_eq_false h3, Bool.not_false, cond_true, opL_op h3]
      rw [if_neg h3] at hft
      rw [ih (i + 1) (n + 1) d (by omega) (by omega) (by omega), hft]
theorem l04Op_1 : ∀ (m i : Nat), i + m = xs.length → spec_l04Op_1 0 i (xs.map GDef.enc) 0 (⟨#[]⟩ : ByteArray) (⟨#[]⟩ : ByteArray) 0 (⟨#[]⟩ : ByteArray) (⟨#[]⟩ : ByteArray) = rDI (opL 0 zeroDef (frN (xs.take i)) (xs.drop i)).1 (opL 0 zeroDef (frN (xs.take i)) (xs.drop i)).2 := by
  have hlen : (xs.map GDef.enc).length = xs.length := by simp
  have hxl := hx.1
  intro m
  induction m with
  | zero =>
    intro i h
    rw [spec_l04Op_1_eq, hlen, decide_eq_false (by omega), cond_false, List.drop_of_length_le (by omega)]
    rfl
  | succ m ih =>
    intro i h
    have hlt : i < xs.length := by omega
    have hg : xs[i]? = some xs[i] := List.getElem?_eq_getElem hlt
    rw [List.drop_eq_getElem_cons hlt]
    generalize xs[i] = d at hg ⊢
    have ew : IntKind.i64.wrap ((0 : Int) + 1) = ((1 : Nat) : Int) := by decide
    have hft := frN_take hg
    have hin := l04Op_in3 hx hg 0 i 0 (by omega)
    rw [List.drop_zero] at hin
    have e0 : ((0 : Nat) : Int) = 0 := rfl
    rw [e0] at hin
    rw [spec_l04Op_1_eq, hlen, decide_eq_true (by omega), cond_true, if_pos (by omega), getD_enc hg, def_kind0, Option.bind_some, bne_int, hin, spec_l04Op_2_eq, inc_i hlt hxl, ew]
    by_cases h3 : d.kind = 3
    · rw [decide_eq_true h3, Bool.not_true, cond_false]
      rw [if_pos h3] at hft
      cases hq : inL (frN (xs.take i)) d.name with
      | true => rw [cond_true, opL_twice h3 hq]; rfl
      | false => rw [cond_false, opL_frag h3 hq, ih (i + 1) (by omega), hft]
    · rw [decide_eq_false h3, Bool.not_false, cond_true, opL_op h3]
      rw [if_neg h3] at hft
      rw [l04Op_4 hx m (i + 1) 1 d (by omega) (by omega) (by omega), hft]
theorem l04Op_ev : ev E0 F_spec_l04Op [.p (.agg 1 [.sl 4 (xs.map GDef.enc)])] [] = rDI (opL 0 zeroDef [] xs).1 (opL 0 zeroDef [] xs).2 := by
  have := l04Op_1 hx xs.length 0 (by omega)
  rw [List.take_zero, List.drop_zero] at this
  rw [spec_l04Op_0_ev, spec_l04Op_0_eq]
  exact this
end
def seenM (l : List ByteArray) : List (ByteArray × Pd) := l.map fun k => (k, Pd.bool true)
theorem findM_seen (s : ByteArray) : ∀ l : List ByteArray, (findM (seenM l) s).getD (.bool false) = .bool (inL l s)
  | [] => rfl
  | k :: l => by
    have ih := findM_seen s l
    show ((if k = s then some (Pd.bool true) else findM (seenM l) s).getD (.bool false)) = _
    rw [inL_cons]
    by_cases h : k = s
    · rw [if_pos h, decide_eq_true h]; rfl
    · rw [if_neg h, decide_eq_false h, Bool.false_or]; exact ih
theorem setM_seen (s : ByteArray) : ∀ l : List ByteArray, inL l s = false → setM (seenM l) s (.bool true) = seenM (l ++ [s])
  | [], _ => rfl
  | k :: l, h => by
    rw [inL_cons, Bool.or_eq_false_iff] at h
    have hk : k ≠ s := of_decide_eq_false h.1
    show (if k = s then (k, Pd.bool true) :: seenM l else (k, Pd.bool true) :: setM (seenM l) s (.bool true)) = _
    rw [if_neg hk, setM_seen s l h.2]
    rfl
def opsOf : List GDef → List GDef
  | [] => []
  | d :: ds => if d.kind = 3 then opsOf ds else d :: opsOf ds
theorem opsOf_append : ∀ a b : List GDef, opsOf (a ++ b) = opsOf a ++ opsOf b
  | [], b => rfl
  | d :: a, b => by
    have h := opsOf_append a b
    show (if d.kind = 3 then opsOf (a ++ b) else d :: opsOf (a ++ b)) = (if d.kind = 3 then opsOf a else d :: opsOf a) ++ opsOf b
    rw [h]
    split <;> rfl
theorem opsOf_take {xs : List GDef} {i : Nat} {d : GDef} (h : xs[i]? = some d) : opsOf (xs.take (i + 1)) = if d.kind = 3 then opsOf (xs.take i) else opsOf (xs.take i) ++ [d] := by
  rw [List.take_add_one, h, opsOf_append]
  show opsOf (xs.take i) ++ (if d.kind = 3 then [] else [d]) = _
  split <;> simp
theorem opsOf_len : ∀ xs : List GDef, (opsOf xs).length ≤ xs.length
  | [] => Nat.le_refl _
  | d :: ds => by
    have := opsOf_len ds
    show (if d.kind = 3 then opsOf ds else d :: opsOf ds).length ≤ _
    split <;> simp <;> omega
theorem Doc_opOf_ev {xs : List GDef} (hx : okL okDef xs) (hb : xs.length ≤ 1048576) : ev E0 F_impl_Doc_opOf [.p (.agg 1 [.sl 4 (xs.map GDef.enc)])] [] = rDI (opL 0 zeroDef [] xs).1 (opL 0 zeroDef [] xs).2 := by
  have hlen : (xs.map GDef.enc).length = xs.length := by simp
  have hxl := hx.1
  have hL : LIM = 140737488355328 := rfl
  have main : ∀ (m i : Nat), i + m = xs.length → impl_Doc_opOf_1 (xs.map GDef.enc) xs.length i 0 (⟨#[]⟩ : ByteArray) (⟨#[]⟩ : ByteArray) ((opsOf (xs.take i)).map GDef.enc) (seenM (frN (xs.take i))) =
      rDI (opL (opsOf (xs.take i)).length ((opsOf (xs.take i)).getLast?.getD zeroDef) (frN (xs.take i)) (xs.drop i)).1 (opL (opsOf (xs.take i)).length ((opsOf (xs.take i)).getLast?.getD zeroDef) (frN (xs.take i)) (xs.drop i)).2 := by
    intro m
    induction m with
    | zero =>
      intro i h
      have hol : ((opsOf (xs.take i)).map GDef.enc).length = (opsOf (xs.take i)).length := by simp
      rw [impl_Doc_opOf_1_eq, decide_eq_false (by omega), cond_false, List.drop_of_length_le (by omega), hol, beq_int, beq_int]
      generalize opsOf (xs.take i) = os
      match os with
      | [] => rfl
      | [d] => rfl
      | d :: e :: os =>
        have h1 : opL (d :: e :: os).length (((d :: e :: os).getLast?).getD zeroDef) (frN (xs.take i)) [] = (zeroDef, 6) := by
          unfold opL
          rw [if_neg (by simp), if_pos (by simp)]
        rw [h1, decide_eq_false (by simp; omega), cond_false, decide_eq_false (by simp; omega), cond_false]
        rfl
    | succ m ih =>
      intro i h
      have hlt : i < xs.length := by omega
      have hg : xs[i]? = some xs[i] := List.getElem?_eq_getElem hlt
      rw [List.drop_eq_getElem_cons hlt]
      generalize xs[i] = d at hg ⊢
      have hft := frN_take hg
      have hot := opsOf_take hg
      have hol : ((opsOf (xs.take i)).map GDef.enc).length = (opsOf (xs.take i)).length := by simp
      have hle := opsOf_len (xs.take i)
      rw [List.length_take] at hle
      have step := ih (i + 1) (by omega)
      rw [impl_Doc_opOf_1_eq, decide_eq_true (by omega), cond_true, hlen, if_pos (by omega), getD_enc hg, def_kind0, Option.bind_some, bne_int]
      by_cases h3 : d.kind = 3
      · rw [if_pos h3] at hft hot
        rw [hft, hot] at step
        rw [decide_eq_true h3, Bool.not_true, cond_false, def_name0, Option.bind_some, findM_seen, asB_, Option.bind_some]
        cases hq : inL (frN (xs.take i)) d.name with
        | true => rw [cond_true, opL_twice h3 hq]; rfl
        | false =>
          rw [cond_false, Option.bind_some, setM_seen _ _ hq, impl_Doc_opOf_2_eq, inc_i hlt hxl, opL_frag h3 hq]
          exact step
      · rw [if_neg h3] at hft hot
        rw [hft, hot] at step
        rw [decide_eq_false h3, Bool.not_false, cond_true, if_pos (by rw [hL, hol, List.length_singleton]; omega), impl_Doc_opOf_2_eq, inc_i hlt hxl, opL_op h3]
        rw [List.map_append, List.length_append, List.getLast?_append] at step
        exact step
  have := main xs.length 0 (by omega)
  rw [List.take_zero, List.drop_zero] at this
  rw [impl_Doc_opOf_0_ev, impl_Doc_opOf_0_eq, hlen]
  exact this
end Go.Proofs.YtbadompnhhhfpaaGreatDoor.Dm
