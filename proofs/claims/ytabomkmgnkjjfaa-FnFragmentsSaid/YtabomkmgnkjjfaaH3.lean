/- The drawn document whose fragments spread one another. -/
import Derived.Test.YtabomkmgnkjjfaaH2
namespace Go.Proofs.Ytabomkmgnkjjfaa.Dm
set_option maxRecDepth 4000
set_option linter.unusedSectionVars false
set_option linter.unusedVariables false
set_option linter.unusedSimpArgs false

theorem cyc5 (n : Int) (e1 : List (List Pd)) (j : Nat) (e3 e4 : List (List Pd)) (c : List Pd) : spec_l00Src_cyclic_5 n e1 j e3 e4 c = spec_l00Src_cyclic_1 n (setCs e1 j 4 3 1 [.ow 120 6 e4]) e3 c := by
  rw [spec_l00Src_cyclic_5_eq, spec_l00Src_cyclic_1_eq]
theorem cyc6 (n : Int) (e1 : List (List Pd)) (j : Nat) (e3 e4 : List (List Pd)) (c : List Pd) : spec_l00Src_cyclic_6 n e1 j e3 e4 c = spec_l00Src_cyclic_1 n (setCs e1 j 4 3 1 [.ow 120 6 e4]) e3 c := by
  rw [spec_l00Src_cyclic_6_eq, spec_l00Src_cyclic_1_eq]
abbrev tNode : ByteArray := ⟨#[78, 111, 100, 101]⟩
abbrev tId : ByteArray := ⟨#[105, 100]⟩
abbrev tF : ByteArray := ⟨#[102]⟩
abbrev tG : ByteArray := ⟨#[103]⟩
abbrev tH : ByteArray := ⟨#[104]⟩
def idSel : GSel := .mk 1 ⟨#[]⟩ tId [] [] []
def spSel (t : ByteArray) : GSel := .mk 2 ⟨#[]⟩ t [] [] []
def cf (n : ByteArray) : Option ByteArray → GDef
  | none => ⟨3, n, tNode, [idSel]⟩
  | some t => ⟨3, n, tNode, [idSel, spSel t]⟩
abbrev ow0 (k : Int) (n : ByteArray) : List Pd := [.int .i64 k, .str (⟨#[]⟩ : ByteArray), .str n, .ow 127 4 ([] : List (List Pd)), .ow 130 4 ([] : List (List Pd)), .ow 120 6 ([] : List (List Pd))]
abbrev crow (n : ByteArray) (ss : List (List Pd)) : List Pd := [.int .i64 3, .str n, .str tNode, .ow 120 6 ss]
theorem colds_app : ∀ a b : List (List Pd), colds (a ++ b) = colds a ++ colds b
  | [], b => rfl
  | c :: a, b => by rw [List.cons_append, colds, colds, colds_app a b, List.cons_append]
theorem cold_cf0 (n : ByteArray) : colds [crow n [ow0 1 tId]] = [cf n none].map GDef.enc := rfl
theorem cold_cf1 (n t : ByteArray) : colds [crow n [ow0 1 tId, ow0 2 t]] = [cf n (some t)].map GDef.enc := rfl
theorem setLast {E : List (List Pd)} {a b c d x : Pd} {j : Nat} (h : j = E.length) : setCs (E ++ [[a, b, c, d]]) j 4 3 1 [x] = E ++ [[a, b, c, x]] := by
  subst h
  have e : (E ++ [[a, b, c, d]]).getD E.length [] = [a, b, c, d] := by simp [List.getD_eq_getElem?_getD]
  unfold setCs
  rw [if_neg (by omega), e]
  have e2 : mixP 4 3 1 [a, b, c, d] [x] = [a, b, c, x] := rfl
  rw [e2]
  simp
theorem getLast' {E : List (List Pd)} {r : List Pd} {j : Nat} (h : j = E.length) : (E ++ [r]).getD j [] = r := by
  subst h; simp [List.getD_eq_getElem?_getD]
abbrev fgh : List (List Pd) := [[.str tF], [.str tG], [.str tH]]
def fghN : List ByteArray := [tF, tG, tH]
theorem fgh_get {i : Nat} (h : i < 3) : asStr ((fgh.getD ((i : Int).toNat) []).getD 0 .undef) = some (fghN.getD i ⟨#[]⟩) := by
  match i, h with
  | 0, _ => rfl
  | 1, _ => rfl
  | 2, _ => rfl
def cfs : List ByteArray → List (Option ByteArray) → List GDef
  | n :: ns, o :: os => cf n o :: cfs ns os
  | _, _ => []
theorem cyc_loop : ∀ (k i m : Nat) (s : Src) (E : List (List Pd)), i + k = 3 → E.length = i + 1 → okSrc (m + 2 * k) s → ∃ (os : List (Option ByteArray)) (s' : Src),
    spec_l00Src_cyclic_1 i E fgh s.enc = some ([.p (.agg 1 [.sl 4 (colds E ++ (cfs (fghN.drop i) os).map GDef.enc)])], [.box 3 s'.enc]) ∧ (os.length = k ∧ ∀ t, some t ∈ os → t ∈ fghN) ∧ okSrc m s' := by
  intro k
  induction k with
  | zero =>
    intro i m s E hi hE h
    refine ⟨[], s, ?_, ⟨rfl, fun t ht => by cases ht⟩, h.le (by omega)⟩
    have : i = 3 := by omega
    subst this
    rw [spec_l00Src_cyclic_1_eq, decide_eq_false (by omega), cond_false]
    have : (cfs (fghN.drop 3) []).map GDef.enc = [] := rfl
    rw [this, List.append_nil]
  | succ k ih =>
    intro i m s E hi hE h
    have hi3 : i < 3 := by omega
    have hdrop : fghN.drop i = fghN.getD i ⟨#[]⟩ :: fghN.drop (i + 1) := by
      match i, hi3 with
      | 0, _ => rfl
      | 1, _ => rfl
      | 2, _ => rfl
    have hg := fgh_get hi3
    rw [spec_l00Src_cyclic_1_eq, decide_eq_true (by omega), cond_true, if_pos (by simp; omega), if_pos (by simp; omega), hg, Option.bind_some]
    generalize fghN.getD i ⟨#[]⟩ = n at hdrop ⊢
    have ei : IntKind.i64.wrap ((i : Int) + 1) = ((i + 1 : Nat) : Int) := by rw [wrap_id (by omega)]; omega
    obtain ⟨b, s1, e1, h1⟩ := chance_ev (m := m + 2 * k + 1) (n := 2) (by omega) (h.le (by omega))
    rw [limK (by simp; omega), e1, gB, fill_enc, ei]
    cases b with
    | false =>
      obtain ⟨os, s', q1, ⟨q2, q3⟩, q4⟩ := ih (i + 1) m s1 (E ++ [crow n [ow0 1 tId]]) (by omega) (by simp; omega) (h1.le (by omega))
      rw [cond_false, spec_l00Src_cyclic_4_eq, ei]
      refine ⟨none :: os, s', q1.trans ?_, ⟨by simp [q2], fun t ht => q3 t (by simpa using ht)⟩, q4⟩
      rw [colds_app, cold_cf0, hdrop, cfs, List.map_cons, List.append_assoc]
      rfl
    | true =>
      rw [cond_true]
      obtain ⟨r, s2, e2, hr, h2⟩ := next_ev (m := m + 2 * k) (n := 3) (by omega) h1
      obtain ⟨t, ht, htm⟩ : ∃ t, asStr ((fgh.getD (r.toNat) []).getD 0 .undef) = some t ∧ t ∈ fghN := by
        have : r.toNat < 3 := by omega
        match r.toNat, this with
        | 0, _ => exact ⟨tF, rfl, by simp [fghN]⟩
        | 1, _ => exact ⟨tG, rfl, by simp [fghN]⟩
        | 2, _ => exact ⟨tH, rfl, by simp [fghN]⟩
      have hlen : (E ++ [crow n [ow0 1 tId]]).length = i + 2 := by simp; omega
      have hj : (((i + 1 : Nat) : Int)).toNat = E.length := by omega
      have ho : asOw 120 6 (((E ++ [crow n [ow0 1 tId]]).getD (((i + 1 : Nat) : Int)).toNat []).getD 3 .undef) = some [ow0 1 tId] := by
        rw [getLast' hj]; exact asOw_ _ _ _
      obtain ⟨os, s', q1, ⟨q2, q3⟩, q4⟩ := ih (i + 1) m s2 (E ++ [crow n [ow0 1 tId, ow0 2 t]]) (by omega) (by simp; omega) h2
      rw [if_pos (by rw [hlen]; omega), if_pos ⟨rfl, by rw [hlen]; omega, by omega, by decide, rfl⟩, ho, Option.bind_some, e2, gI, fill_enc, if_pos (by simp; omega), if_pos (by simp; omega), ht, Option.bind_some, limK (by simp), setLast hj, setLast hj,
        if_pos (by simp; omega), if_pos (by simp; omega), spec_l00Src_cyclic_2_eq, cyc5, setLast hj, ei]
      rw [if_pos (by rw [hlen]; omega), if_pos ⟨rfl, by rw [hlen]; omega, by omega, by decide, rfl⟩, Option.bind_some, gI, fill_enc, if_pos (by simp; omega), if_pos (by simp; omega), ht, Option.bind_some, limK (by simp), if_pos (by simp; omega), if_pos (by simp; omega), if_pos (by simp), if_pos (by simp), spec_l00Src_cyclic_3_eq, cyc6, setLast hj, ei]
      have e5 : setCs ([ow0 1 tId] ++ [ow0 0 (⟨#[]⟩ : ByteArray)]) ((([ow0 1 tId].length : Int)).toNat) 6 0 6 (ow0 2 t) = [ow0 1 tId, ow0 2 t] := rfl
      rw [e5, List.singleton_append, q1, agree_self]
      refine ⟨some t :: os, s', ?_, ⟨by simp [q2], fun u hu => ?_⟩, q4⟩
      · rw [colds_app, cold_cf1, hdrop, cfs, List.map_cons, List.append_assoc]
        rfl
      · rcases List.mem_cons.1 hu with q | q
        · injection q with q; rw [q]; exact htm
        · exact q3 u q
def yC : Nat := 6 + rC
/-- the query, then three fragments -/
def cycDoc (xs : List GSel) (a b c : Option ByteArray) : List GDef := [⟨1, ⟨#[]⟩, ⟨#[]⟩, xs⟩, cf tF a, cf tG b, cf tH c]
theorem cyclic_ev {m : Nat} {s : Src} (h : okSrc (m + yC) s) : ∃ (xs : List GSel) (a b c : Option ByteArray) (s' : Src), ev E0 F_spec_l00Src_cyclic [.ptr (.out 0) 0] [.box 3 s.enc] = some ([.p (.agg 1 [.sl 4 ((cycDoc xs a b c).map GDef.enc)])], [.box 3 s'.enc]) ∧ (okL okSel xs ∧ 1 ≤ xs.length ∧ xs.length ≤ 3) ∧ (∀ t, a = some t ∨ b = some t ∨ c = some t → t ∈ fghN) := by
  obtain ⟨xs, s1, e1, hx, h1⟩ := rootSels_ev 1 (m := m + 6) (h.le (by unfold yC; omega))
  obtain ⟨os, s2, e2, ⟨ho, ht⟩, _⟩ := cyc_loop 3 0 m s1 [[.int .i64 1, .str (⟨#[]⟩ : ByteArray), .str (⟨#[]⟩ : ByteArray), .sl 6 (xs.map GSel.enc)]] rfl rfl h1
  rw [spec_l00Src_cyclic_0_ev, spec_l00Src_cyclic_0_eq, e1, gL, fill_enc]
  match os, ho with
  | [a, b, c], _ =>
    refine ⟨xs, a, b, c, s2, e2, hx, fun t q => ht t ?_⟩
    rcases q with q | q | q <;> simp [q]
end Go.Proofs.Ytabomkmgnkjjfaa.Dm
