/- For any two requests the law FnExactSameRequest returns true. -/
import Derived.Test.YtlmmimhjfajhdaaT16
import Derived.Test.YtlmmimhjfajhdaaT12
namespace Go.Proofs.Ytlmmimhjfajhdaa.Dm
set_option linter.unusedVariables false
set_option linter.unusedSimpArgs false

def bindT (b : GArg) : Tx := bl b.name ++ 61 :: (vtx b.val ++ [32])
def bindsT (vs : List GArg) : Tx := vs.flatMap bindT
def reqT (l : List GDef) (vs : List GArg) : Tx := bindsT vs ++ ((if vs.isEmpty = true then [] else [124, 32]) ++ docT l)
theorem bindsT_cons (v : GArg) (vs : List GArg) : bindsT (v :: vs) = bindT v ++ bindsT vs := rfl
theorem okB_args : ∀ {vs pre : List GArg}, okB pre vs = true → ∀ a ∈ vs, argB a = true
  | [], _, _, a, ha => by cases ha
  | b :: bs, pre, h, a, ha => by
    unfold okB at h
    simp only [Bool.and_eq_true] at h
    rcases List.mem_cons.1 ha with q | q
    · rw [q]
      unfold argB
      rw [h.1.1.1, h.1.1.2]
      rfl
    · exact okB_args h.2.2 a q
theorem bindsB_cases {vs : List GArg} (h : bindsB vs = true) : (∀ a ∈ vs, argB a = true) ∧ vs.length ≤ 8 := by
  unfold bindsB at h
  simp only [Bool.and_eq_true, decide_eq_true_eq] at h
  exact ⟨okB_args h.1, h.2⟩
theorem docT_first {l : List GDef} (h : docB l = true) : ∃ k r, docT l = kwT k ++ 32 :: r := by
  obtain ⟨h1, h2, _⟩ := docB_cases h
  cases l with
  | nil => simp at h1
  | cons d ds =>
    rw [docT, def_open]
    by_cases hn : d.name = sNone
    · rw [if_pos hn]
      by_cases h3 : d.kind = 3
      · rw [if_pos h3]; exact ⟨_, _, rfl⟩
      · rw [if_neg h3]; exact ⟨_, _, rfl⟩
    · rw [if_neg hn]; exact ⟨_, _, rfl⟩
theorem binds_inj : ∀ {vs ws : List GArg} {r r' : Tx}, (∀ a ∈ vs, argB a = true) → (∀ a ∈ ws, argB a = true) → bindsT vs ++ 124 :: r = bindsT ws ++ 124 :: r' → vs = ws ∧ r = r'
  | [], [], r, r', _, _, h => by
    simp only [bindsT, List.flatMap_nil, List.nil_append, List.cons.injEq, true_and] at h
    exact ⟨rfl, h⟩
  | [], w :: ws, r, r', _, hw, h => by
    exfalso
    obtain ⟨c, l, e1, e2⟩ := (name_chars (argB_cases (hw w (List.mem_cons_self ..))).1).1
    rw [bindsT_cons, bindT, e1] at h
    simp only [bindsT, List.flatMap_nil, List.nil_append, List.cons_append, List.cons.injEq] at h
    rw [← h.1] at e2
    exact absurd e2 (by decide)
  | v :: vs, [], r, r', hv, _, h => by
    exfalso
    obtain ⟨c, l, e1, e2⟩ := (name_chars (argB_cases (hv v (List.mem_cons_self ..))).1).1
    rw [bindsT_cons, bindT, e1] at h
    simp only [bindsT, List.flatMap_nil, List.nil_append, List.cons_append, List.cons.injEq] at h
    rw [h.1] at e2
    exact absurd e2 (by decide)
  | v :: vs, w :: ws, r, r', hv, hw, h => by
    have h1 := argB_cases (hv v (List.mem_cons_self ..))
    have h2 := argB_cases (hw w (List.mem_cons_self ..))
    rw [bindsT_cons, bindsT_cons, bindT, bindT] at h
    simp only [List.append_assoc, List.cons_append, List.nil_append] at h
    obtain ⟨q1, _, q3⟩ := name_munch h1.1 h2.1 (by decide) (by decide) h
    obtain ⟨z1, _, z3⟩ := vtx_munch h1.2 h2.2 (by decide) (by decide) q3
    obtain ⟨y1, y2⟩ := binds_inj (fun x hx => hv x (List.mem_cons_of_mem _ hx)) (fun x hx => hw x (List.mem_cons_of_mem _ hx)) z3
    exact ⟨by rw [y1]; cases v; cases w; simp_all, y2⟩
theorem req_inj {l l' : List GDef} {vs ws : List GArg} (hl : docB l = true) (hl' : docB l' = true) (hv : bindsB vs = true) (hw : bindsB ws = true) (h : reqT l vs = reqT l' ws) : l = l' ∧ vs = ws := by
  obtain ⟨x1, x2, _⟩ := docB_cases hl
  obtain ⟨y1, y2, _⟩ := docB_cases hl'
  have docs : docT l = docT l' → l = l' := fun e => docT_inj x2 y2 (fun e => by rw [e] at x1; simp at x1) (fun e => by rw [e] at y1; simp at y1) e
  have va := (bindsB_cases hv).1
  have wa := (bindsB_cases hw).1
  have mixed : ∀ (v : GArg) (vs : List GArg) (l : List GDef) (r : Tx), argB v = true → docB l = true → bindsT (v :: vs) ++ r = docT l → False := by
    intro v vs l r hv hl h
    obtain ⟨k, r', e⟩ := docT_first hl
    rw [e, bindsT_cons, bindT] at h
    simp only [List.append_assoc, List.cons_append] at h
    obtain ⟨_, q, _⟩ := munch (name_chars (argB_cases hv).1).2.1 (kwT_nc k) (by decide) (by decide) h
    exact absurd q (by decide)
  unfold reqT at h
  cases vs with
  | nil =>
    cases ws with
    | nil => exact ⟨docs (by simpa [bindsT] using h), rfl⟩
    | cons w ws => exact (mixed w ws l _ (wa w (List.mem_cons_self ..)) hl (by simpa [bindsT] using h.symm)).elim
  | cons v vs =>
    cases ws with
    | nil => exact (mixed v vs l' _ (va v (List.mem_cons_self ..)) hl' (by simpa [bindsT] using h)).elim
    | cons w ws =>
      simp only [List.isEmpty_cons, Bool.false_eq_true, if_false, List.cons_append, List.nil_append] at h
      obtain ⟨q1, q2⟩ := binds_inj va wa h
      simp only [List.cons.injEq, true_and] at q2
      exact ⟨docs q2, q1⟩
theorem docT_len {l : List GDef} (h : docB l = true) : (docT l).length ≤ 50000 := by
  obtain ⟨h1, h2, h3⟩ := docB_cases h
  have : ∀ ds : List GDef, ds.all defB = true → (docR ds).length ≤ 111 * ds.length + 700 * total ds := by
    intro ds
    induction ds with
    | nil => intro _; simp [docR]
    | cons d ds ih =>
      intro hd
      rw [List.all_cons, Bool.and_eq_true] at hd
      have q1 := defT_len hd.1
      have q2 := ih hd.2
      have e : docR (d :: ds) = 32 :: (defT d ++ docR ds) := rfl
      have e2 : total (d :: ds) = cnts d.sels + total ds := by simp [total]
      rw [e, e2]
      simp only [List.length_cons, List.length_append]
      omega
  cases l with
  | nil => simp [docT]
  | cons d ds =>
    have := this (d :: ds) h2
    have e : docR (d :: ds) = 32 :: (defT d ++ docR ds) := rfl
    rw [e] at this
    rw [docT]
    simp only [List.length_cons, List.length_append] at this h1 ⊢
    omega
theorem reqText_ev {l : List GDef} (hok : okL okDef l) (hl : docB l = true) {vs : List GArg} (hv : bindsB vs = true) : ev E0 F_spec_l11Text [.p (.agg 2 (reqD l vs))] [] = rS (S (reqT l vs)) := by
  have hlim : (2 : Nat) ^ 40 ≤ LIM := by decide
  obtain ⟨va, v8⟩ := bindsB_cases hv
  have hlen : (vs.map GArg.enc).length = vs.length := by simp
  have hdl := docT_len hl
  have h61 : (⟨#[61]⟩ : ByteArray) = S [61] := rfl
  have h32 : (⟨#[32]⟩ : ByteArray) = S [32] := rfl
  have hbar : (⟨#[124, 32]⟩ : ByteArray) = S [124, 32] := rfl
  have fin : ∀ acc : Tx, acc.length ≤ 10000 → spec_l11Text_2 (S acc) (l.map GDef.enc) (vs.map GArg.enc) = rS (S (acc ++ docT l)) := by
    intro acc hacc
    rw [spec_l11Text_2_eq, print_ev hok hl, bS, lim_pos (by omega), S_append]
  have loop : ∀ (k i : Nat) (acc : Tx), i + k = vs.length → acc.length ≤ 100 * i → (acc = [] ↔ i = 0) → spec_l11Text_1 (S acc) i (l.map GDef.enc) (vs.map GArg.enc) = rS (S (acc ++ (bindsT (vs.drop i) ++ ((if vs.isEmpty = true then [] else [124, 32]) ++ docT l)))) := by
    intro k
    induction k with
    | zero =>
      intro i acc h hacc he
      have : i = vs.length := by omega
      subst this
      rw [spec_l11Text_1_eq, hlen, List.drop_length, decide_eq_false (by omega), cond_false]
      by_cases hn : acc = []
      · have : vs = [] := List.eq_nil_of_length_eq_zero (he.1 hn)
        subst this
        subst hn
        have hd : decide (S [] = (⟨#[]⟩ : ByteArray)) = true := decide_eq_true rfl
        rw [hd, Bool.not_true, cond_false, fin _ (by simp)]
        simp [bindsT]
      · have hd : decide (S acc = (⟨#[]⟩ : ByteArray)) = false := decide_eq_false fun q => hn (S_inj (b := []) q)
        have hvn : vs.isEmpty = false := by
          cases vs with
          | nil => exact absurd (he.2 rfl) hn
          | cons v vs => rfl
        rw [hd, Bool.not_false, cond_true, hbar, lim_pos (by simp only [List.length_cons, List.length_nil]; omega), S_append, fin _ (by simp only [List.length_append, List.length_cons, List.length_nil]; omega), hvn]
        simp [bindsT]
    | succ k ih =>
      intro i acc h hacc he
      have hlt : i < vs.length := by omega
      have hg : vs[i]? = some vs[i] := List.getElem?_eq_getElem hlt
      have e2 : IntKind.i64.wrap ((i : Int) + 1) = ((i + 1 : Nat) : Int) := by rw [wrap_id (by omega)]; omega
      have hb := argB_cases (va vs[i] (List.getElem_mem _))
      have hn := (name_chars hb.1).2.2
      have hvl := (vtx_props hb.2).2.2
      have en : asStr ((vs[i].enc).getD 0 .undef) = some (S (bl vs[i].name)) := by rw [S_bl]; rfl
      have ed : (vs[i].enc).drop 1 = [.int .i64 vs[i].val.kind, .int .i64 vs[i].val.n, .str vs[i].val.t] := rfl
      rw [spec_l11Text_1_eq, hlen, decide_eq_true (by omega), cond_true, if_pos (by omega), getD_enc hg, en, Option.bind_some, h61, lim_pos (by simp only [List.length_singleton]; omega), S_append, if_pos (by omega), ed, value_ev hb.2, bS, lim_pos (by simp only [List.length_append, List.length_singleton]; omega), S_append, h32, lim_pos (by simp only [List.length_append, List.length_singleton]; omega), S_append, lim_pos (by simp only [List.length_append, List.length_singleton]; omega), S_append, e2, ih (i + 1) _ (by omega) (by simp only [List.length_append, List.length_singleton]; omega) (by simp), List.drop_eq_getElem_cons hlt, bindsT_cons]
      simp [bindT]
  have e0 : ((0 : Nat) : Int) = 0 := rfl
  have := loop vs.length 0 [] (by omega) (by simp) (by simp)
  rw [e0, List.drop_zero] at this
  rw [spec_l11Text_0_ev, spec_l11Text_0_eq]
  exact this
theorem equal_binds {xs ys : List GArg} (hx : xs.length ≤ 9223372036854775807) : ev E0 F_slices_Equal_impl_Binding_impl_Binding [.p (.sl 4 (xs.map GArg.enc)), .p (.sl 4 (ys.map GArg.enc))] [] = rB (sameL sameArg xs ys) := by
  have hl : (xs.map GArg.enc).length = xs.length := by simp
  have hl' : (ys.map GArg.enc).length = ys.length := by simp
  rw [slices_Equal_impl_Binding_impl_Binding_0_ev, slices_Equal_impl_Binding_impl_Binding_0_eq, hl, hl', len_bne]
  by_cases h : xs.length = ys.length
  · rw [decide_eq_true h, Bool.not_true, cond_false]
    have := sameLoop (e := sameArg) (L := fun i => slices_Equal_impl_Binding_impl_Binding_1 (xs.map GArg.enc) (ys.map GArg.enc) xs.length i) h (fun i x y e1 e2 => by
      have hlt := lt_of_get e1
      have e3 : IntKind.i64.wrap ((i : Int) + 1) = (i : Int) + 1 := by rw [wrap_id (by omega)]
      rw [slices_Equal_impl_Binding_impl_Binding_1_eq, hl, hl', decide_eq_true (by omega), cond_true, if_pos (by omega), if_pos (by omega), getD_enc e1, getD_enc e2, argK0, argK0, argK1, argK1, argK2, argK2, argK3, argK3]
      simp only [Option.bind_some, slices_Equal_impl_Binding_impl_Binding_2_eq, beq_int, e3]
      unfold sameArg sameVal
      cases decide (x.name = y.name) <;> cases decide (x.val.kind = y.val.kind) <;> cases decide (x.val.n = y.val.n) <;> cases decide (x.val.t = y.val.t) <;> simp only [Bool.true_and, Bool.false_and, Bool.and_self, Bool.and_false, Bool.and_true, cond_true, cond_false, Bool.not_true, Bool.not_false]) (by
      rw [slices_Equal_impl_Binding_impl_Binding_1_eq, decide_eq_false (by omega), cond_false]) xs.length 0 (by omega)
    have e0 : ((0 : Nat) : Int) = 0 := rfl
    rw [e0, List.drop_zero, List.drop_zero] at this
    exact this
  · rw [decide_eq_false h, Bool.not_false, cond_true]
    cases hs : sameL sameArg xs ys with
    | false => rfl
    | true => exact absurd (sameL_len hs) h
open Classical in
theorem spec_SameRequest_ev {l l' : List GDef} {v v' : List GArg} (hl : okL okDef l) (hl' : okL okDef l') (hv : okL okArg v) (hv' : okL okArg v') : ev E0 F_spec_SameRequest [.p (.agg 2 (reqD l v)), .p (.agg 2 (reqD l' v'))] [] = rB ((docB l && bindsB v) && ((docB l' && bindsB v') && decide (l = l' ∧ v = v'))) := by
  rw [spec_SameRequest_0_ev, spec_SameRequest_0_eq, spec_RequestOK_ev hl hv, bB, spec_RequestOK_ev hl' hv', bB]
  cases h1 : docB l && bindsB v with
  | false => rfl
  | true =>
    cases h2 : docB l' && bindsB v' with
    | false => rfl
    | true =>
      rw [Bool.and_eq_true] at h1 h2
      rw [cond_true, cond_true, reqText_ev hl h1.1 h1.2, bS, reqText_ev hl' h2.1 h2.2, bS, Bool.true_and, Bool.true_and]
      by_cases q : l = l' ∧ v = v'
      · obtain ⟨q1, q2⟩ := q
        subst q1; subst q2
        simp
      · have : ¬ S (reqT l v) = S (reqT l' v') := fun e => q (req_inj h1.1 h2.1 h1.2 h2.2 (S_inj e))
        simp [q, this]
open Classical in
theorem impl_SameRequest_ev {l l' : List GDef} {v v' : List GArg} (hl : okL okDef l) (hl' : okL okDef l') (hv : okL okArg v) (hv' : okL okArg v') : ev E0 F_impl_SameRequest [.p (.agg 2 (reqD l v)), .p (.agg 2 (reqD l' v'))] [] = rB ((docB l && bindsB v) && ((docB l' && bindsB v') && decide (l = l' ∧ v = v'))) := by
  rw [impl_SameRequest_0_ev, impl_SameRequest_0_eq, impl_RequestOK_ev hl hv, bB, impl_RequestOK_ev hl' hv', bB]
  cases h1 : docB l && bindsB v with
  | false => rfl
  | true =>
    cases h2 : docB l' && bindsB v' with
    | false => rfl
    | true =>
      rw [Bool.and_eq_true] at h1 h2
      have hs : sameL sameArg v v' = decide (v = v') := by
        rw [Bool.eq_iff_iff, decide_eq_true_eq]
        exact sameL_iff fun x _ y => sameArg_iff x y
      have hone : ev E0 F_impl_sameRequest [.p (.agg 2 (reqD l v)), .p (.agg 2 (reqD l' v'))] [] = rB (decide (l = l' ∧ v = v')) := by
        rw [impl_sameRequest_0_ev, impl_sameRequest_0_eq, sameDoc_ev hl (docB_cases h1.1).2.1, bB, equal_binds hv.1, bB, hs]
        by_cases q1 : l = l' <;> by_cases q2 : v = v' <;> simp [q1, q2]
      rw [cond_true, cond_true, hone, bB]
      rfl
theorem law_SameRequest {l : List GDef} (hl : okL okDef l) {v : List GArg} (hv : okL okArg v) {l' : List GDef} (hl' : okL okDef l') {v' : List GArg} (hv' : okL okArg v') : ev E0 F_laws_FnExactSameRequest [.p (.agg 2 (reqD l v)), .p (.agg 2 (reqD l' v'))] [] = rB true := by
  rw [laws_FnExactSameRequest_0_ev, laws_FnExactSameRequest_0_eq, szRequest_ev hl hv (by omega) (by omega), bI]
  by_cases hw : szR l v 1048576 < 0
  · rw [decide_eq_true hw]
    rfl
  · obtain ⟨h1, h2⟩ := szR_nonneg hw
    rw [decide_eq_false hw, cond_false, szRequest_ev hl' hv' (by omega) (by omega), bI]
    by_cases hw2 : szR l' v' (szR l v 1048576) < 0
    · rw [decide_eq_true hw2]
      rfl
    · obtain ⟨h3, _⟩ := szR_nonneg hw2
      have ht := toRequest_ev (l := l) (by omega) (v := v) (wL_len (f := wArg) (by omega))
      have ht' := toRequest_ev (l := l') (by omega) (v := v') (wL_len (f := wArg) (by omega))
      rw [decide_eq_false hw2, cond_false, ht, bA, ht', bA, spec_SameRequest_ev hl hl' hv hv', bB, bA, bA, impl_SameRequest_ev hl hl' hv hv', bB, nb_self, cond_false, bA, eqRequest_ev hl hv.1, bB, Bool.not_true, cond_false, bA, eqRequest_ev hl' hv'.1, bB]
      rfl
end Go.Proofs.Ytlmmimhjfajhdaa.Dm
