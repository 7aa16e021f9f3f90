/- For every request the law FnExactRequestText returns true. -/
import Derived.Test.YtlmmimhjfajhdaaGreatDoorT19
import Derived.Test.YtlmmimhjfajhdaaGreatDoorT12R
namespace Go.Proofs.YtlmmimhjfajhdaaGreatDoor.Dm
set_option linter.unusedVariables false
set_option linter.unusedSimpArgs false

def bindT (b : GArg) : Tx := bl b.name ++ 61 :: (vtx b.val ++ [32])
def bindsT (vs : List GArg) : Tx := vs.flatMap bindT
def reqT (l : List GDef) (vs : List GArg) : Tx := bindsT vs ++ ((if vs.isEmpty = true then [] else [124, 32]) ++ docT l)
theorem bindsT_cons (v : GArg) (vs : List GArg) : bindsT (v :: vs) = bindT v ++ bindsT vs := rfl
theorem okB_args : ∀ {vs pre : List GArg}, okB pre vs = true → ∀ a ∈ vs, argB a = true
  | [], _, _, a, ha => by cases ha
  | b :: bs, pre, h, a, ha => by
    unfold okB at h
    simp only [Bool.and_eq_true] at h
    rcases List.mem_cons.1 ha with q | q
    · rw [q]
      unfold argB
      rw [h.1.1.1, h.1.1.2]
      rfl
    · exact okB_args h.2.2 a q
theorem bindsB_cases {vs : List GArg} (h : bindsB vs = true) : (∀ a ∈ vs, argB a = true) ∧ vs.length ≤ 8 := by
  unfold bindsB at h
  simp only [Bool.and_eq_true, decide_eq_true_eq] at h
  exact ⟨okB_args h.1, h.2⟩
theorem reqText_ev {l : List GDef} (hok : okL okDef l) (hl : docB l = true) {vs : List GArg} (hv : bindsB vs = true) : ev E0 F_spec_l11Text [.p (.agg 2 (reqD l vs))] [] = rS (S (reqT l vs)) := by
  have hlim : (2 : Nat) ^ 40 ≤ LIM := by decide
  obtain ⟨va, v8⟩ := bindsB_cases hv
  have hlen : (vs.map GArg.enc).length = vs.length := by simp
  have hdl := docT_len hl
  have h61 : (⟨#[61]⟩ : ByteArray) = S [61] := rfl
  have h32 : (⟨#[32]⟩ : ByteArray) = S [32] := rfl
  have hbar : (⟨#[124, 32]⟩ : ByteArray) = S [124, 32] := rfl
  have fin : ∀ acc : Tx, acc.length ≤ 10000 → spec_l11Text_2 (S acc) (l.map GDef.enc) (vs.map GArg.enc) = rS (S (acc ++ docT l)) := by
    intro acc hacc
    rw [spec_l11Text_2_eq, print_ev hok hl, bS, lim_pos (by omega), S_append]
  have loop : ∀ (k i : Nat) (acc : Tx), i + k = vs.length → acc.length ≤ 100 * i → (acc = [] ↔ i = 0) → spec_l11Text_1 (S acc) i (l.map GDef.enc) (vs.map GArg.enc) = rS (S (acc ++ (bindsT (vs.drop i) ++ ((if vs.isEmpty = true then [] else [124, 32]) ++ docT l)))) := by
    intro k
    induction k with
    | zero =>
      intro i acc h hacc he
      have : i = vs.length := by omega
      subst this
      rw [spec_l11Text_1_eq, hlen, List.drop_length, decide_eq_false (by omega), cond_false]
      by_cases hn : acc = []
      · have : vs = [] := List.eq_nil_of_length_eq_zero (he.1 hn)
        subst this
        subst hn
        have hd : decide (S [] = (⟨#[]⟩ : ByteArray)) = true := decide_eq_true rfl
        rw [hd, Bool.not_true, cond_false, fin _ (by simp)]
        simp [bindsT]
      · have hd : decide (S acc = (⟨#[]⟩ : ByteArray)) = false := decide_eq_false fun q => hn (S_inj (b := []) q)
        have hvn : vs.isEmpty = false := by
          cases vs with
          | nil => exact absurd (he.2 rfl) hn
          | cons v vs => rfl
        rw [hd, Bool.not_false, cond_true, hbar, lim_pos (by simp only [List.length_cons, List.length_nil]; omega), S_append, fin _ (by simp only [List.length_append, List.length_cons, List.length_nil]; omega), hvn]
        simp [bindsT]
    | succ k ih =>
      intro i acc h hacc he
      have hlt : i < vs.length := by omega
      have hg : vs[i]? = some vs[i] := List.getElem?_eq_getElem hlt
      have e2 : IntKind.i64.wrap ((i : Int) + 1) = ((i + 1 : Nat) : Int) := by rw [wrap_id (by omega)]; omega
      have hb := argB_cases (va vs[i] (List.getElem_mem _))
      have hn := (name_chars hb.1).2.2
      have hvl := (vtx_props hb.2).2.2
      have en : asStr ((vs[i].enc).getD 0 .undef) = some (S (bl vs[i].name)) := by rw [S_bl]; rfl
      have ed : (vs[i].enc).drop 1 = [.int .i64 vs[i].val.kind, .int .i64 vs[i].val.n, .str vs[i].val.t] := rfl
      rw [spec_l11Text_1_eq, hlen, decide_eq_true (by omega), cond_true, if_pos (by omega), getD_enc hg, en, Option.bind_some, h61, lim_pos (by simp only [List.length_singleton]; omega), S_append, if_pos (by omega), ed, value_ev hb.2, bS, lim_pos (by simp only [List.length_append, List.length_singleton]; omega), S_append, h32, lim_pos (by simp only [List.length_append, List.length_singleton]; omega), S_append, lim_pos (by simp only [List.length_append, List.length_singleton]; omega), S_append, e2, ih (i + 1) _ (by omega) (by simp only [List.length_append, List.length_singleton]; omega) (by simp), List.drop_eq_getElem_cons hlt, bindsT_cons]
      simp [bindT]
  have e0 : ((0 : Nat) : Int) = 0 := rfl
  have := loop vs.length 0 [] (by omega) (by simp) (by simp)
  rw [e0, List.drop_zero] at this
  rw [spec_l11Text_0_ev, spec_l11Text_0_eq]
  exact this
/-- what both answer -/
abbrev rSI (v : ByteArray) (n : Int) : Option Res := some ([.p (.str v), .p (.int .i64 n)], [])
theorem bSI {R : Type} (v : ByteArray) (n : Int) (K : ByteArray → Int → Option R) : ((rSI v n).bind fun r => (asStr (pAt 0 r.1)).bind fun v => (asInt .i64 (pAt 1 r.1)).bind fun n => if r.1.length = 2 then K v n else none) = K v n := by simp [pAt, asStr, asInt]
def reqPrintB (l : List GDef) (vs : List GArg) : Option Res := bif (docB l && bindsB vs) then rSI (S (reqT l vs)) 0 else rSI (⟨#[]⟩ : ByteArray) 1
theorem spec_RequestText_ev {l : List GDef} (hok : okL okDef l) {vs : List GArg} (hv : okL okArg vs) : ev E0 F_spec_RequestText [.p (.agg 2 (reqD l vs))] [] = reqPrintB l vs := by
  rw [spec_RequestText_0_ev, spec_RequestText_0_eq, spec_RequestOK_ev hok hv, bB]
  unfold reqPrintB
  cases h : docB l && bindsB vs with
  | false => rfl
  | true =>
    rw [Bool.and_eq_true] at h
    rw [Bool.not_true, cond_false, reqText_ev hok h.1 h.2, bS]
    rfl
theorem impl_RequestText_ev {l : List GDef} (hok : okL okDef l) {vs : List GArg} (hv : okL okArg vs) : ev E0 F_impl_RequestText [.p (.agg 2 (reqD l vs))] [] = reqPrintB l vs := by
  rw [impl_RequestText_0_ev, impl_RequestText_0_eq, impl_RequestOK_ev hok hv, bB]
  unfold reqPrintB
  cases hb : docB l && bindsB vs with
  | false => rfl
  | true =>
    rw [Bool.and_eq_true] at hb
    rw [Bool.not_true, cond_false, cond_true]
    have hlim : (2 : Nat) ^ 40 ≤ LIM := by decide
    obtain ⟨va, v8⟩ := bindsB_cases hb.2
    have hlen : (vs.map GArg.enc).length = vs.length := by simp
    have hdl := docT_len hb.1
    have h61 : (⟨#[61]⟩ : ByteArray) = S [61] := rfl
    have h32 : (⟨#[32]⟩ : ByteArray) = S [32] := rfl
    have hbar : (⟨#[124, 32]⟩ : ByteArray) = S [124, 32] := rfl
    have fin : ∀ acc : Tx, acc.length ≤ 10000 → impl_RequestText_2 (S acc) (l.map GDef.enc) (vs.map GArg.enc) = rSI (S (acc ++ docT l)) 0 := by
      intro acc hacc
      rw [impl_RequestText_2_eq, iprint_ev hok hb.1, bS, lim_pos (by omega), S_append]
    have loop : ∀ (k i : Nat) (acc : Tx), i + k = vs.length → acc.length ≤ 100 * i → impl_RequestText_1 (S acc) (vs.map GArg.enc) vs.length i (l.map GDef.enc) (vs.map GArg.enc) = rSI (S (acc ++ (bindsT (vs.drop i) ++ ((if vs.isEmpty = true then [] else [124, 32]) ++ docT l)))) 0 := by
      intro k
      induction k with
      | zero =>
        intro i acc h hacc
        have : i = vs.length := by omega
        subst this
        have hacc' : acc.length ≤ 10000 := by omega
        rw [impl_RequestText_1_eq, hlen, List.drop_length, decide_eq_false (by omega), cond_false, int_gt0]
        cases hvs : vs with
        | nil =>
          subst hvs
          rw [decide_eq_false (by simp), cond_false]
          have := fin acc hacc'
          simp only [List.map_nil] at this
          rw [List.map_nil, this]
          simp [bindsT]
        | cons v ws =>
          rw [← hvs]
          have hp : 0 < vs.length := by rw [hvs]; simp
          have he : vs.isEmpty = false := by rw [hvs]; rfl
          rw [decide_eq_true hp, cond_true, hbar, lim_pos (by simp only [List.length_cons, List.length_nil]; omega), S_append, fin _ (by simp only [List.length_append, List.length_cons, List.length_nil]; omega), he]
          simp [bindsT]
      | succ k ih =>
        intro i acc h hacc
        have hlt : i < vs.length := by omega
        have hg : vs[i]? = some vs[i] := List.getElem?_eq_getElem hlt
        have e2 : IntKind.i64.wrap ((i : Int) + 1) = ((i + 1 : Nat) : Int) := by rw [wrap_id (by omega)]; omega
        have hb := argB_cases (va vs[i] (List.getElem_mem _))
        have hn := (name_chars hb.1).2.2
        have hvl := (vtx_props hb.2).2.2
        have en : asStr ((vs[i].enc).getD 0 .undef) = some (S (bl vs[i].name)) := by rw [S_bl]; rfl
        have ed : (vs[i].enc).drop 1 = [.int .i64 vs[i].val.kind, .int .i64 vs[i].val.n, .str vs[i].val.t] := rfl
        rw [impl_RequestText_1_eq, hlen, decide_eq_true (by omega), cond_true, if_pos (by omega), getD_enc hg, en, Option.bind_some, h61, lim_pos (by simp only [List.length_singleton]; omega), S_append, ed, ivalue_ev hb.2, bS, lim_pos (by simp only [List.length_append, List.length_singleton]; omega), S_append, h32, lim_pos (by simp only [List.length_append, List.length_singleton]; omega), S_append, lim_pos (by simp only [List.length_append, List.length_singleton]; omega), S_append, e2, ih (i + 1) _ (by omega) (by simp only [List.length_append, List.length_singleton]; omega), List.drop_eq_getElem_cons hlt, bindsT_cons]
        simp [bindT]
    have e0 : ((0 : Nat) : Int) = 0 := rfl
    have := loop vs.length 0 [] (by omega) (by simp)
    rw [e0, List.drop_zero] at this
    rw [hlen]
    exact this
theorem reqPrintB_get (l : List GDef) (vs : List GArg) : ∃ s n, reqPrintB l vs = rSI s n := by
  unfold reqPrintB
  cases (docB l && bindsB vs)
  · exact ⟨_, _, rfl⟩
  · exact ⟨_, _, rfl⟩
theorem law_RequestText {l : List GDef} (hl : okL okDef l) {v : List GArg} (hv : okL okArg v) : ev E0 F_laws_FnExactRequestText [.p (.agg 2 (reqD l v))] [] = rB true := by
  rw [laws_FnExactRequestText_0_ev, laws_FnExactRequestText_0_eq, szRequest_ev hl hv (by omega) (by omega), bI]
  by_cases hw : szR l v 1048576 < 0
  · rw [decide_eq_true hw]
    rfl
  · obtain ⟨h1, h2⟩ := szR_nonneg hw
    obtain ⟨s, n, hp⟩ := reqPrintB_get l v
    have hne : ((n : Int) != n) = false := by simp
    have ht := toRequest_ev (l := l) (by omega) (v := v) (wL_len (f := wArg) (by omega))
    rw [decide_eq_false hw, cond_false, ht, bA, spec_RequestText_ev hl hv, hp, bSI, bA, impl_RequestText_ev hl hv, hp, bSI, decide_eq_true rfl, Bool.not_true, cond_false, hne, laws_FnExactRequestText_1_eq, cond_false, ht, bA, eqRequest_ev hl hv.1, bB]
    rfl
end Go.Proofs.YtlmmimhjfajhdaaGreatDoor.Dm
