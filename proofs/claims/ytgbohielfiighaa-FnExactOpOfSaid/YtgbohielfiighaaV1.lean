/- Texts in rows: whether one is among them; the variables of documents: by the reference, by the program. -/
import Derived.Test.YtgbohielfiighaaT6
namespace Go.Proofs.Ytgbohielfiighaa.Dm
set_option maxRecDepth 4000
set_option linter.unusedVariables false
set_option linter.unusedSimpArgs false

def encS (s : ByteArray) : List Pd := [.str s]
def okS (s : ByteArray) : Prop := s.size ≤ 9223372036854775807
theorem encS_get (s : ByteArray) : asStr ((encS s).getD 0 .undef) = some s := rfl
theorem wf_S {xs : List ByteArray} (h : ∀ x ∈ xs, okS x) : wfEs T0 ckString (xs.map encS) := wf_map (ok := okS) (fun a h => wfC_mk (wfP_str h) wfC_mk0) h
theorem inc_i {i n : Nat} (h : i < n) (hn : n ≤ 9223372036854775807) : IntKind.i64.wrap ((i : Int) + 1) = ((i + 1 : Nat) : Int) := by rw [wrap_id (by omega)]; omega
/-! ### among -/
def inL (xs : List ByteArray) (s : ByteArray) : Bool := xs.any fun x => decide (x = s)
theorem l04In_ev {xs : List ByteArray} (hl : xs.length ≤ 9223372036854775807) (s : ByteArray) : ev E0 F_spec_l04In [.p (.sl 1 (xs.map encS)), .p (.str s)] [] = rB (inL xs s) := by
  have hlen : (xs.map encS).length = xs.length := by simp
  have loop : ∀ (m i : Nat), i + m = xs.length → spec_l04In_1 (xs.map encS) s i = rB (inL (xs.drop i) s) := by
    intro m
    induction m with
    | zero =>
      intro i h
      have : i = xs.length := by omega
      subst this
      rw [spec_l04In_1_eq, hlen, decide_eq_false (by omega), cond_false, List.drop_length]
      rfl
    | succ m ih =>
      intro i h
      have hlt : i < xs.length := by omega
      have hg : xs[i]? = some xs[i] := List.getElem?_eq_getElem hlt
      rw [spec_l04In_1_eq, hlen, decide_eq_true (by omega), cond_true, if_pos (by omega), getD_enc hg, encS_get, Option.bind_some, inc_i hlt hl, ih (i + 1) (by omega), List.drop_eq_getElem_cons hlt]
      unfold inL
      rw [List.any_cons]
      cases decide (xs[i] = s) <;> rfl
  have := loop xs.length 0 (by omega)
  rw [List.drop_zero] at this
  rw [spec_l04In_0_ev, spec_l04In_0_eq]
  exact this
theorem contains_ev {xs : List ByteArray} (hl : xs.length ≤ 9223372036854775807) (s : ByteArray) : ev E0 F_slices_Contains_string_string [.p (.sl 1 (xs.map encS)), .p (.str s)] [] = rB (inL xs s) := by
  have hlen : (xs.map encS).length = xs.length := by simp
  have loop : ∀ (m i : Nat), i + m = xs.length → ∃ n : Int, slices_Index_string_string_1 (xs.map encS) s xs.length i = rI n ∧ decide (n ≥ 0) = inL (xs.drop i) s := by
    intro m
    induction m with
    | zero =>
      intro i h
      have : i = xs.length := by omega
      subst this
      rw [slices_Index_string_string_1_eq, decide_eq_false (by omega), cond_false, List.drop_length]
      exact ⟨-1, rfl, rfl⟩
    | succ m ih =>
      intro i h
      have hlt : i < xs.length := by omega
      have hg : xs[i]? = some xs[i] := List.getElem?_eq_getElem hlt
      rw [slices_Index_string_string_1_eq, hlen, decide_eq_true (by omega), cond_true, if_pos (by omega), getD_enc hg, encS_get, Option.bind_some, inc_i hlt hl, List.drop_eq_getElem_cons hlt]
      unfold inL
      rw [List.any_cons]
      by_cases hq : xs[i] = s
      · rw [decide_eq_true hq.symm, cond_true, decide_eq_true hq]
        exact ⟨i, rfl, by rw [decide_eq_true (by omega)]; rfl⟩
      · rw [decide_eq_false (fun e => hq e.symm), cond_false, decide_eq_false hq, Bool.false_or]
        exact ih (i + 1) (by omega)
  obtain ⟨n, h1, h2⟩ := loop xs.length 0 (by omega)
  rw [List.drop_zero] at h2
  have e0 : ((0 : Nat) : Int) = 0 := rfl
  rw [e0] at h1
  rw [slices_Contains_string_string_0_ev, slices_Contains_string_string_0_eq, slices_Index_string_string_0_ev, slices_Index_string_string_0_eq, hlen, h1, bI, h2]
/-! ### each once, as they come -/
def addV (o : List ByteArray) (t : ByteArray) : List ByteArray := if inL o t = true then o else o ++ [t]
def addVs (o ts : List ByteArray) : List ByteArray := ts.foldl addV o
theorem addV_len (o : List ByteArray) (t : ByteArray) : (addV o t).length ≤ o.length + 1 := by
  unfold addV; split
  · omega
  · rw [List.length_append]; simp
theorem addVs_len : ∀ (ts o : List ByteArray), (addVs o ts).length ≤ o.length + ts.length
  | [], o => by simp [addVs]
  | t :: ts, o => by
    have h1 := addVs_len ts (addV o t)
    have h2 := addV_len o t
    have h3 : addVs o (t :: ts) = addVs (addV o t) ts := rfl
    rw [h3, List.length_cons]; omega
theorem addVs_append (o a b : List ByteArray) : addVs o (a ++ b) = addVs (addVs o a) b := by unfold addVs; rw [List.foldl_append]
theorem inL_mem {xs : List ByteArray} {s : ByteArray} : inL xs s = true ↔ s ∈ xs := by
  unfold inL
  rw [List.any_eq_true]
  exact ⟨fun ⟨x, h1, h2⟩ => of_decide_eq_true h2 ▸ h1, fun h => ⟨s, h, decide_eq_true rfl⟩⟩
theorem addV_mem {o : List ByteArray} {t x : ByteArray} : x ∈ addV o t ↔ x ∈ o ∨ x = t := by
  unfold addV
  split
  · rename_i h
    have := inL_mem.1 h
    exact ⟨.inl, fun q => q.elim id fun e => e ▸ this⟩
  · simp
theorem addVs_mem : ∀ {ts o : List ByteArray} {x : ByteArray}, x ∈ addVs o ts ↔ x ∈ o ∨ x ∈ ts
  | [], o, x => by simp [addVs]
  | t :: ts, o, x => by
    have h3 : addVs o (t :: ts) = addVs (addV o t) ts := rfl
    rw [h3, addVs_mem, addV_mem, List.mem_cons, or_assoc]
theorem addVs_dedup (o : List ByteArray) : ∀ (a b : List ByteArray), addVs (addVs o a) (addVs [] b) = addVs (addVs o a) b := by
  intro a b
  generalize addVs o a = o
  have key : ∀ (n : Nat) (b : List ByteArray), b.length = n → addVs o (addVs [] b) = addVs o b := by
    intro n
    induction n with
    | zero => intro b h; rw [List.eq_nil_of_length_eq_zero h]; rfl
    | succ n ih =>
      intro b h
      have hb : b ≠ [] := by intro q; subst q; cases h
      obtain ⟨c, t, rfl⟩ : ∃ c t, b = c ++ [t] := ⟨b.dropLast, b.getLast hb, (List.dropLast_concat_getLast hb).symm⟩
      have hc : c.length = n := by simpa using h
      have e1 : addVs [] (c ++ [t]) = addV (addVs [] c) t := by rw [addVs_append]; rfl
      have e2 : addVs o (c ++ [t]) = addV (addVs o c) t := by rw [addVs_append]; rfl
      rw [e1, e2]
      by_cases q : inL (addVs [] c) t = true
      · have q1 : t ∈ c := by
          have := addVs_mem.1 (inL_mem.1 q)
          rcases this with h | h
          · cases h
          · exact h
        have q2 : inL (addVs o c) t = true := inL_mem.2 (addVs_mem.2 (.inr q1))
        unfold addV
        rw [if_pos q, if_pos q2, ih c hc]
      · have e3 : addV (addVs [] c) t = addVs [] c ++ [t] := if_neg q
        rw [e3, addVs_append, ih c hc]
        rfl
  exact key _ b rfl
/-! ### the variables of selections -/
def vV (v : GVal) : List ByteArray := if v.kind = 4 then [v.t] else []
def vA : List GArg → List ByteArray
  | [] => []
  | a :: l => vV a.val ++ vA l
def vD : List GDir → List ByteArray
  | [] => []
  | a :: l => vV a.val ++ vD l
mutual
def vS : GSel → List ByteArray
  | .mk _ _ _ args dirs sels => vA args ++ (vD dirs ++ vSs sels)
def vSs : List GSel → List ByteArray
  | [] => []
  | x :: xs => vS x ++ vSs xs
end
theorem vV_len (v : GVal) : (vV v).length ≤ 1 := by unfold vV; split <;> simp
theorem vA_len : ∀ xs : List GArg, (vA xs).length ≤ xs.length
  | [] => Nat.le_refl _
  | x :: xs => by have := vA_len xs; have := vV_len x.val; rw [vA, List.length_append, List.length_cons]; omega
theorem vD_len : ∀ xs : List GDir, (vD xs).length ≤ xs.length
  | [] => Nat.le_refl _
  | x :: xs => by have := vD_len xs; have := vV_len x.val; rw [vD, List.length_append, List.length_cons]; omega
mutual
theorem vS_len : ∀ x : GSel, (vS x).length ≤ wC x.enc
  | .mk k a n args dirs sels => by
    have h1 := vA_len args
    have h2 := vD_len dirs
    have h3 := vSs_len sels
    unfold GSel.enc
    simp only [wC, wP, vS, List.length_append, List.length_map]
    omega
theorem vSs_len : ∀ xs : List GSel, (vSs xs).length ≤ wEs (GSel.encs xs)
  | [] => by simp [vSs]
  | x :: xs => by
    have h1 := vS_len x
    have h2 := vSs_len xs
    rw [vSs, GSel.encs, wEs, List.length_append]
    omega
end
theorem vV_ok {v : GVal} (h : okVal v) : ∀ t ∈ vV v, okS t := by
  intro t ht
  unfold vV at ht
  split at ht
  · rw [List.mem_singleton] at ht; subst ht; exact h
  · cases ht
theorem vA_ok : ∀ {xs : List GArg}, (∀ a ∈ xs, okArg a) → ∀ t ∈ vA xs, okS t
  | [], _, t, ht => by cases ht
  | x :: xs, h, t, ht => by
    rw [vA] at ht
    rcases List.mem_append.1 ht with q | q
    · exact vV_ok (h x (List.mem_cons_self ..)).2 t q
    · exact vA_ok (fun a ha => h a (List.mem_cons_of_mem _ ha)) t q
theorem vD_ok : ∀ {xs : List GDir}, (∀ a ∈ xs, okDir a) → ∀ t ∈ vD xs, okS t
  | [], _, t, ht => by cases ht
  | x :: xs, h, t, ht => by
    rw [vD] at ht
    rcases List.mem_append.1 ht with q | q
    · exact vV_ok (h x (List.mem_cons_self ..)) t q
    · exact vD_ok (fun a ha => h a (List.mem_cons_of_mem _ ha)) t q
mutual
theorem vS_ok : ∀ x : GSel, okSel x → ∀ t ∈ vS x, okS t
  | .mk k a n args dirs sels, h, t, ht => by
    obtain ⟨h1, h2, h3, h4, h5, h6⟩ := h
    rw [vS] at ht
    rcases List.mem_append.1 ht with q | q
    · exact vA_ok h3.2 t q
    · rcases List.mem_append.1 q with q | q
      · exact vD_ok h4.2 t q
      · exact vSs_ok sels h6 t q
theorem vSs_ok : ∀ xs : List GSel, okSels xs → ∀ t ∈ vSs xs, okS t
  | [], _, t, ht => by cases ht
  | x :: xs, h, t, ht => by
    rw [vSs] at ht
    rcases List.mem_append.1 ht with q | q
    · exact vS_ok x h.1 t q
    · exact vSs_ok xs h.2 t q
end
def vDoc : List GDef → List ByteArray
  | [] => []
  | d :: ds => vSs d.sels ++ vDoc ds
theorem vDoc_len : ∀ xs : List GDef, (vDoc xs).length ≤ wEs (xs.map GDef.enc)
  | [] => by simp [vDoc]
  | d :: ds => by
    have h1 := vSs_len d.sels
    have h2 := vDoc_len ds
    rw [GSel.encs_eq] at h1
    have e : wC d.enc = d.name.size + (d.on.size + (d.sels.map GSel.enc).length + wEs (d.sels.map GSel.enc)) := by unfold GDef.enc; simp only [wC, wP]; omega
    rw [vDoc, List.map_cons, wEs, List.length_append, e]
    omega
theorem vDoc_ok : ∀ {xs : List GDef}, (∀ d ∈ xs, okDef d) → ∀ t ∈ vDoc xs, okS t
  | [], _, t, ht => by cases ht
  | d :: ds, h, t, ht => by
    rw [vDoc] at ht
    rcases List.mem_append.1 ht with q | q
    · exact vSs_ok d.sels (okSels_of (h d (List.mem_cons_self ..)).2.2.2) t q
    · exact vDoc_ok (fun a ha => h a (List.mem_cons_of_mem _ ha)) t q
end Go.Proofs.Ytgbohielfiighaa.Dm
