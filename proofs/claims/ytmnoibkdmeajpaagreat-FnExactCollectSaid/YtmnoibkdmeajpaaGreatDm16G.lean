/- The machine over plain data: where an order is drawn, each order comes to the same. -/
import Derived.Test.YtmnoibkdmeajpaaGreatDm16F
namespace Go.Proofs.YtmnoibkdmeajpaaGreat.Dm
set_option linter.unusedSectionVars false
open Go.RowKit
set_option linter.unusedVariables false
set_option linter.unusedSimpArgs false
variable [Cfg] {P : Program} {st st' st1 : St} {o : Oper} {d : Dv}
theorem AgG.ag {ops : Array Oper} {f : Fp} (h : AgG ops o f st st') (hs : f.sk = false) : Ag o f st st' := ⟨h.n, h.t hs, h.b, h.l, h.m⟩
theorem locG {call : CallF} {ops : Array Oper} {f : Fp} (hf : fpG ops P o st = some f) (hp : PreS o st) (h : opS call P ops o st = some st1) : LocG call P ops o f st st1 := by
 have go : (∀ t ∈ guT ops o, nudD (st.T.getD t ud) = true ∧ ∀ m, mentD m (st.T.getD t ud) = false) → fpK P o st = some f → stpM call P o st = some st1 → (∀ st', AgG ops o f st st' → opS call P ops o st' = stpM call P o st' ∧ fpG ops P o st' = fpK P o st') → LocG call P ops o f st st1 := by
  intro hg hf h heq
  obtain ⟨⟨u, is, w, again⟩, wr, sc, e, hwr⟩ := loc hf hp h
  subst e
  refine ⟨u, is, w, tells_mk hg hwr, fun st' ag pr => ?_⟩
  obtain ⟨q1, q2⟩ := heq st' ag
  obtain ⟨s1, e1, e2, e3⟩ := again st' (ag.ag rfl) pr
  exact ⟨s1, q1.trans e1, q2.trans e2, e3, w.to ag.b ag.l ag.m⟩
 have skip : (∀ t ∈ guT ops o, nudD (st.T.getD t ud) = true ∧ ∀ m, mentD m (st.T.getD t ud) = false) → f = ⟨[], [], [], true, true⟩ → st1 = st.put o.dst nix → (∀ st', AgG ops o f st st' → opS call P ops o st' = some (st'.put o.dst nix) ∧ fpG ops P o st' = some f) → LocG call P ops o f st st1 := by
  intro hg e1 e2 heq
  subst e1 e2
  have is : ∀ st0 : St, Is ⟨nix, [], [], []⟩ o st0 (st0.put o.dst nix) := fun st0 => is_put st0.L st0.O rfl rfl fun m => rfl
  have w : ∀ st0 : St, Wf ⟨nix, [], [], []⟩ ⟨[], [], [], true, true⟩ o st0 := fun st0 => ⟨rfl, (fun m hm => by cases hm), (fun m hm => by cases hm), (fun q hq => by cases hq), (fun n hn => by cases hn), (fun m hm => by simp [mentD, mentDs] at hm), (fun q hq => by cases hq), (fun q hq => by cases hq), fun _ => rfl, fun _ => rfl⟩
  refine ⟨_, is st, w st, ⟨(fun _ q => by cases q), hg, (fun q => by cases q), fun B _ _ _ _ i hi => by rcases hi with q | q <;> cases q⟩, fun st' ag pr => ?_⟩
  obtain ⟨q1, q2⟩ := heq st' ag
  exact ⟨_, q1, q2, is st', w st'⟩
 unfold fpG at hf
 unfold opS at h
 cases hg : o.guard with
 | none =>
  simp only [hg] at hf h
  refine go (fun t ht => by unfold guT at ht; rw [hg] at ht; cases ht) hf h fun st' _ => ⟨?_, ?_⟩
  ·unfold opS; rw [hg]; rfl
  ·unfold fpG; rw [hg]
 | some jw =>
  obtain ⟨j, want⟩ := jw
  simp only [hg] at hf h
  cases hs : gslot ops j with
  | none => simp only [hs] at hf; cases hf
  | some g =>
   simp only [hs] at hf h
   have hgu : ∀ t ∈ guT ops o, t = g := fun t ht => by
    unfold guT at ht
    rw [hg] at ht
    simp only [hs, Option.toList] at ht
    simpa using ht
   have hmem : g ∈ guT ops o := by
    unfold guT
    rw [hg]
    simp [hs]
   split at hf
   ·rename_i b hb
    have hgg : ∀ t ∈ guT ops o, nudD (st.T.getD t ud) = true ∧ ∀ m, mentD m (st.T.getD t ud) = false := fun t ht => by
     rw [hgu t ht, hb]
     exact ⟨rfl, fun _ => rfl⟩
    rw [hb] at h
    dsimp only at h
    split at hf
    ·rename_i e
     rw [if_pos e] at h
     refine go hgg hf h fun st' ag => ?_
     have hb' := (ag.g g hmem).trans hb
     constructor
     ·unfold opS
      simp only [hg, hs, hb']
      rw [if_pos e]
      rfl
     ·unfold fpG
      simp only [hg, hs, hb']
      rw [if_pos e]
    ·rename_i e
     rw [if_neg e] at h
     injection hf with hf
     injection h with h
     refine skip hgg hf.symm h.symm fun st' ag => ?_
     have hb' := (ag.g g hmem).trans hb
     constructor
     ·unfold opS
      simp only [hg, hs, hb']
      rw [if_neg e]
     ·unfold fpG
      simp only [hg, hs, hb']
      rw [if_neg e, hf]
   ·rename_i hb
    have hgg : ∀ t ∈ guT ops o, nudD (st.T.getD t ud) = true ∧ ∀ m, mentD m (st.T.getD t ud) = false := fun t ht => by
     rw [hgu t ht, hb]
     exact ⟨rfl, fun _ => rfl⟩
    rw [hb] at h
    injection hf with hf
    injection h with h
    refine skip hgg hf.symm h.symm fun st' ag => ?_
    have hb' := (ag.g g hmem).trans hb
    constructor
    ·unfold opS
     simp only [hg, hs, hb']
    ·unfold fpG
     simp only [hg, hs, hb']
     rw [hf]
   ·cases hf
def runV {X : Type} (V : Nat → X → X → Prop) : List Nat → X → X → Prop
 | [], s, s' => s = s'
 | i :: l, s, s' => ∃ s1, V i s s1 ∧ runV V l s1 s'
theorem preAll_len (ops : Array Oper) : ∀ n, (preAll ops n).length = n
 | 0 => rfl
 | n + 1 => by simp [preAll, preAll_len ops n]
theorem preAll_get (ops : Array Oper) (n : Nat) : ∀ k j, j < n → (preAll ops (n + k)).getD j [] = (preAll ops n).getD j []
 | 0, j, h => rfl
 | k + 1, j, h => by
  rw [← preAll_get ops n k j h, ← Nat.add_assoc]
  simp only [preAll, List.getD_eq_getElem?_getD]
  rw [List.getElem?_append_left (by rw [preAll_len]; omega)]
theorem mem_foldl1 : ∀ (l s : List Nat) (p : Nat), p ∈ l.foldl (fun s p => if s.contains p then s else p :: s) s → p ∈ l ∨ p ∈ s
 | [], s, p, h => .inr h
 | x :: l, s, p, h => by
  simp only [List.foldl_cons] at h
  rcases mem_foldl1 l _ p h with q | q
  ·exact .inl (List.mem_cons_of_mem _ q)
  ·split at q
   ·exact .inr q
   ·rcases List.mem_cons.1 q with q | q
    ·exact .inl (q ▸ List.mem_cons_self ..)
    ·exact .inr q
theorem mem_pre1 {acc : List (List Nat)} {p : Nat} : ∀ (l : List Edge) (s : List Nat), p ∈ l.foldl (fun s e => if Region.binds .any e then (acc.getD e.on []).foldl (fun s p => if s.contains p then s else p :: s) (if s.contains e.on then s else e.on :: s) else s) s →
 p ∈ s ∨ ∃ e ∈ l, Region.binds .any e = true ∧ (p = e.on ∨ p ∈ acc.getD e.on [])
 | [], s, h => .inl h
 | x :: l, s, h => by
  simp only [List.foldl_cons] at h
  rcases mem_pre1 l _ h with q | ⟨e, q1, q2⟩
  ·split at q
   ·rename_i hb
    rcases mem_foldl1 _ _ _ q with q | q
    ·exact .inr ⟨x, List.mem_cons_self .., hb, .inr q⟩
    ·split at q
     ·exact .inl q
     ·rcases List.mem_cons.1 q with q | q
      ·exact .inr ⟨x, List.mem_cons_self .., hb, .inl q⟩
      ·exact .inl q
   ·exact .inl q
  ·exact .inr ⟨e, List.mem_cons_of_mem _ q1, q2⟩
theorem pre_listed {ops : Array Oper} {Ls : Nat → Prop} (hL : ∀ j o, Ls j → ops[j]? = some o → ∀ e ∈ o.after, Region.binds .any e = true → Ls e.on) :
 ∀ n j o, j < n → ops[j]? = some o → (∀ e ∈ o.after, Region.binds .any e = true → Ls e.on) → ∀ p ∈ (preAll ops n).getD j [], Ls p
 | 0, j, o, h, _, _, _, _ => by cases h
 | n + 1, j, o, h, ho, he, p, hp => by
  rcases Nat.lt_or_ge j n with hlt | hge
  ·rw [preAll_get ops n 1 j hlt] at hp
   exact pre_listed hL n j o hlt ho he p hp
  ·have : j = n := by omega
   subst this
   have hx : (preAll ops (j + 1)).getD j [] = pre1 (preAll ops j) o := by
    simp only [preAll, List.getD_eq_getElem?_getD, ho]
    rw [List.getElem?_append_right (by rw [preAll_len]; omega), preAll_len]
    simp
   rw [hx] at hp
   unfold pre1 at hp
   rcases mem_pre1 _ _ hp with q | ⟨e, q1, q2, q3⟩
   ·cases q
   ·have q1' : e ∈ o.after := by simpa using q1
    rcases q3 with q3 | q3
    ·rw [q3]; exact he e q1' q2
    ·
     rcases Nat.lt_or_ge e.on j with h2 | h2
     ·cases hoe : ops[e.on]? with
      | none =>
       exfalso
       have hjlt := (Array.getElem?_eq_some_iff.1 ho).1
       rw [Array.getElem?_eq_none_iff] at hoe
       omega
      | some oe => exact pre_listed hL j e.on oe h2 hoe (hL e.on oe (he e q1' q2) hoe) p q3
     ·exfalso
      rw [getD_ge (by rw [preAll_len]; omega)] at q3
      cases q3
theorem pre_lt {ops : Array Oper} (hback : ∀ j o, ops[j]? = some o → ∀ e ∈ o.after, Region.binds .any e = true → e.on < j) : ∀ n j p, j < n → p ∈ (preAll ops n).getD j [] → p < j
 | 0, j, p, h, _ => by cases h
 | n + 1, j, p, h, hp => by
  rcases Nat.lt_or_ge j n with hlt | hge
  ·rw [preAll_get ops n 1 j hlt] at hp
   exact pre_lt hback n j p hlt hp
  ·have : j = n := by omega
   subst this
   cases ho : ops[j]? with
   | none =>
    exfalso
    have hx : (preAll ops (j + 1)).getD j [] = [] := by
     simp only [preAll, List.getD_eq_getElem?_getD, ho]
     rw [List.getElem?_append_right (by rw [preAll_len]; omega), preAll_len]
     simp
    rw [hx] at hp
    cases hp
   | some o =>
    have hx : (preAll ops (j + 1)).getD j [] = pre1 (preAll ops j) o := by
     simp only [preAll, List.getD_eq_getElem?_getD, ho]
     rw [List.getElem?_append_right (by rw [preAll_len]; omega), preAll_len]
     simp
    rw [hx] at hp
    unfold pre1 at hp
    rcases mem_pre1 _ _ hp with q | ⟨e, q1, q2, q3⟩
    ·cases q
    ·have q1' : e ∈ o.after := by simpa using q1
     have hlt := hback j o ho e q1' q2
     rcases q3 with q3 | q3
     ·omega
     ·have := pre_lt hback j e.on p hlt q3
      omega
def doneFor (ops : Array Oper) (R : Nat → Prop) (j : Nat) : Prop := ∀ p ∈ (preAll ops ops.size).getD j [], ¬ R p
theorem move_front {ops : Array Oper} {X : Type} {V : Nat → X → X → Prop} {i : Nat} {l2 : List Nat} {st' : X} {J : (Nat → Prop) → X → Prop} (hmono : ∀ (R R' : Nat → Prop) st, (∀ k, R' k → R k) → (∀ k, k < ops.size → R k → R' k) → J R st → J R' st)
 {Good : Nat → Prop} (hstep : ∀ j (R : Nat → Prop) st st1, Good j → R j → doneFor ops R j → J R st → V j st st1 → J (fun k => R k ∧ k ≠ j) st1) : ∀ (l1 : List Nat) (R : Nat → Prop) (st : X), J R st → l1.Pairwise (· < ·) → i ∉ l1 → (∀ j ∈ l1, R j ∧ Good j) → (∀ j ∈ l1, ∀ p ∈ (preAll ops ops.size).getD j [], ¬ R p ∨ (p ∈ l1 ∧ p < j)) → R i → doneFor ops R i →
 (∀ j ∈ l1, ∀ (R : Nat → Prop) s s1 s2, R j → R i → doneFor ops R j → doneFor ops R i → J R s → V j s s1 → V i s1 s2 → ∃ s1', V i s s1' ∧ V j s1' s2) →
 runV V (l1 ++ i :: l2) st st' → ∃ st1, V i st st1 ∧ runV V (l1 ++ l2) st1 st'
 | [], R, st, _, _, _, _, _, _, _, _, h => by
  exact h
 | j :: l1, R, st, hJ, hnd, hi, hR, hpre, hRi, hDi, hsw, h => by
  obtain ⟨s1, h1, h2⟩ := h
  have hj := (hR j (List.mem_cons_self ..)).1
  have hg := (hR j (List.mem_cons_self ..)).2
  rw [List.pairwise_cons] at hnd
  have hij : i ≠ j := fun e => hi (by rw [e]; exact List.mem_cons_self ..)
  have hDj : doneFor ops R j := by
   intro p hp
   rcases hpre j (List.mem_cons_self ..) p hp with q | ⟨q1, q2⟩
   ·exact q
   ·exfalso
    rcases List.mem_cons.1 q1 with q1 | q1
    ·omega
    ·have := hnd.1 p q1; omega
  obtain ⟨s2, h3, h4⟩ := move_front hmono hstep l1 (fun k => R k ∧ k ≠ j) s1 (hstep j R st s1 hg hj hDj hJ h1) hnd.2 (fun q => hi (List.mem_cons_of_mem _ q)) (fun k hk => ⟨⟨(hR k (List.mem_cons_of_mem _ hk)).1, fun e => by have := hnd.1 k hk; omega⟩, (hR k (List.mem_cons_of_mem _ hk)).2⟩) (fun k hk p hp => by
   rcases hpre k (List.mem_cons_of_mem _ hk) p hp with q | ⟨q1, q2⟩
   ·exact .inl fun q' => q q'.1
   ·rcases List.mem_cons.1 q1 with q1 | q1
    ·exact .inl fun q' => q'.2 q1
    ·exact .inr ⟨q1, q2⟩) ⟨hRi, hij⟩ (fun p hp q => hDi p hp q.1) (fun k hk => hsw k (List.mem_cons_of_mem _ hk)) h2
  obtain ⟨s1', q1, q2⟩ := hsw j (List.mem_cons_self ..) R st s1 s2 hj hRi hDj hDi hJ h1 h3
  exact ⟨s1', q1, s2, q2, h4⟩
theorem order_ok {ops : Array Oper} {X : Type} {V : Nat → X → X → Prop} {J : (Nat → Prop) → X → Prop} (hm : P.follows .mixedOrders = true) (hback : drBack ops = true) (hmono : ∀ (R R' : Nat → Prop) st, (∀ k, R' k → R k) → (∀ k, k < ops.size → R k → R' k) → J R st → J R' st)
 {Good : Nat → Prop} (n : Nat) (hgood : ∀ j, j < n → Good j) (hsl : ∀ j, n ≤ j → j < ops.size → ∀ k, k < j → k ∈ (preAll ops ops.size).getD j []) (hempty : ∀ st (R : Nat → Prop), (∀ k, R k → n ≤ k) → J R st)
 (hstep : ∀ j (R : Nat → Prop) st st1, Good j → R j → doneFor ops R j → J R st → V j st st1 → J (fun k => R k ∧ k ≠ j) st1)
 (hswap : ∀ i j x y (R : Nat → Prop) s s1 s2, i < j → ops[i]? = some x → ops[j]? = some y → i ∉ (preAll ops ops.size).getD j [] → R i → R j → doneFor ops R i → doneFor ops R j → J R s → V i s s1 → V j s1 s2 → ∃ s1', V j s s1' ∧ V i s1' s2)
 {st st' : X} (h0 : J (fun _ => True) st) (hev : runV V (List.range ops.size) st st') (t : Nat) : runV V (Region.schedule (P.follows .mixedOrders) ops t) st st' := by
 simp only [Region.schedule, hm, Bool.true_or, if_true]
 have hback : ∀ j o, ops[j]? = some o → ∀ e ∈ o.after, Region.binds .any e = true → e.on < j := by
  intro j o ho e he hb
  unfold drBack at hback
  rw [List.all_eq_true] at hback
  have hmem : (o, j) ∈ ops.toList.zipIdx := by
   rw [List.mem_zipIdx_iff_getElem?]
   simpa using ho
  have := Array.all_eq_true_iff_forall_mem.1 (hback _ hmem) e he
  simpa [hb] using this
 have main : ∀ (fuel t : Nat) (listed : Array Bool) (st : X), J (fun k => listed.getD k true = false) st → listed.size = ops.size → ((List.range ops.size).filter fun i => !listed.getD i true).length ≤ fuel →
  (∀ j o, listed.getD j false = true → ops[j]? = some o → ∀ e ∈ o.after, Region.binds .any e = true → listed.getD e.on false = true) →
  runV V ((List.range ops.size).filter fun i => !listed.getD i true) st st' → runV V (Region.linearise.go .any ops fuel t listed []) st st' := by
  intro fuel
  induction fuel with
  | zero =>
   intro t listed st hJ hsz hf hcl h
   have : ((List.range ops.size).filter fun i => !listed.getD i true) = [] := List.eq_nil_of_length_eq_zero (by omega)
   rw [this] at h
   simpa [Region.linearise.go] using h
  | succ fuel ih =>
   intro t listed st hJ hsz hf hcl h
   simp only [Region.linearise.go]
   change runV V (match (Region.ready .any ops listed)[t % (Region.ready .any ops listed).length]? with
    | some i => Region.linearise.go .any ops fuel (t / (Region.ready .any ops listed).length) (listed.setIfInBounds i true) [i]
    | none => [].reverse) st st'
   cases hi : (Region.ready .any ops listed)[t % (Region.ready .any ops listed).length]? with
   | none =>
    have hnil : Region.ready .any ops listed = [] := by
     cases hr : Region.ready .any ops listed with
     | nil => rfl
     | cons x xs =>
      rw [hr] at hi
      have hlt : t % (x :: xs).length < (x :: xs).length := Nat.mod_lt _ (by simp)
      simp at hi
      simp at hlt
      omega
    have hrem : ((List.range ops.size).filter fun i => !listed.getD i true) = [] := by
     cases hrr : ((List.range ops.size).filter fun i => !listed.getD i true) with
     | nil => rfl
     | cons x xs =>
      exfalso
      obtain ⟨n, hn, hmin⟩ := least (p := fun i => i < ops.size ∧ listed.getD i true = false) ⟨x, by
       have : x ∈ ((List.range ops.size).filter fun i => !listed.getD i true) := by rw [hrr]; simp
       simpa [List.mem_filter] using this⟩
      have ho : ops[n]? = some ops[n] := Array.getElem?_eq_getElem hn.1
      have : n ∈ Region.ready .any ops listed := mem_ready.2 ⟨hn.2, ops[n], ho, fun e he hb => by
       have hlt := hback n _ ho e he hb
       cases hx : listed.getD e.on false with
       | true => rfl
       | false =>
        exfalso
        have hlt' : e.on < listed.size := by omega
        have h2 : listed.getD e.on true = false := by simpa [Array.getD_eq_getD_getElem?, hlt'] using hx
        have := hmin e.on ⟨by omega, h2⟩
        omega⟩
      rw [hnil] at this
      cases this
    rw [hrem] at h
    simpa using h
   | some i =>
    have hir : i ∈ Region.ready .any ops listed := List.mem_of_getElem? hi
    obtain ⟨hun, o, ho, hall⟩ := mem_ready.1 hir
    have hlt : i < ops.size := (Array.getElem?_eq_some_iff.1 ho).1
    simp only []
    rw [linearise_go_acc, List.reverse_singleton, List.singleton_append]
    have hsplit : ∀ p : Nat → Bool, (List.range ops.size).filter p = (List.range i).filter p ++ ((List.range' i (ops.size - i)).filter p) := by
     intro p
     rw [← List.filter_append, List.range_eq_range', List.range_eq_range']
     have := List.range'_append_1 (s := 0) (m := i) (n := ops.size - i)
     rw [Nat.zero_add, Nat.add_sub_cancel' (Nat.le_of_lt hlt)] at this
     rw [this]
    have hsplit2 : List.range' i (ops.size - i) = i :: List.range' (i + 1) (ops.size - i - 1) := by
     have : ops.size - i = (ops.size - i - 1) + 1 := by omega
     rw [this, List.range'_succ]
     rfl
    rw [hsplit, hsplit2, List.filter_cons_of_pos (by simp [hun])] at h
    have hun' : listed.getD i true = false := by simpa using hun
    have hDi : doneFor ops (fun k => listed.getD k true = false) i := by
     intro p hp q
     have := pre_listed (Ls := fun j => listed.getD j false = true) hcl ops.size i o hlt ho hall p hp
     have hps : p < listed.size := by
      rcases Nat.lt_or_ge p listed.size with h | h
      ·exact h
      ·rw [Array.getD_eq_getD_getElem?, Array.getElem?_eq_none h] at q
       cases q
     simp [Array.getD_eq_getD_getElem?, hps] at this q
     rw [this] at q
     cases q
    obtain ⟨st1, h1, h2⟩ := move_front hmono hstep ((List.range i).filter fun k => !listed.getD k true) (fun k => listed.getD k true = false) st hJ (List.pairwise_lt_range.filter _) (fun q => by
     rw [List.mem_filter, List.mem_range] at q
     omega) (fun j hj => by
     rw [List.mem_filter, List.mem_range] at hj
     refine ⟨by simpa using hj.2, ?_⟩
     rcases Nat.lt_or_ge j n with q | q
     ·exact hgood j q
     ·exfalso
      have hju : listed.getD j true = false := by simpa using hj.2
      have := pre_listed (Ls := fun j => listed.getD j false = true) hcl ops.size i o hlt ho hall j (hsl i (by omega) hlt j hj.1)
      have hjs : j < listed.size := by omega
      simp [Array.getD_eq_getD_getElem?, hjs] at this hju
      rw [this] at hju
      cases hju) (fun j hj p hp => by
     rw [List.mem_filter, List.mem_range] at hj
     have hpj : p < j := pre_lt hback ops.size j p (by omega) hp
     cases hx : listed.getD p true with
     | true => exact .inl (by simp)
     | false => exact .inr ⟨List.mem_filter.2 ⟨List.mem_range.2 (by omega), by simp [hx]⟩, hpj⟩) hun' hDi (fun j hj R s s1 s2 r1 r2 d1 d2 hJs q1 q2 => by
     rw [List.mem_filter, List.mem_range] at hj
     obtain ⟨hji, hju⟩ := hj
     have hju : listed.getD j true = false := by simpa using hju
     have hoj : ops[j]? = some (ops[j]'(by omega)) := Array.getElem?_eq_getElem (by omega)
     refine hswap j i _ _ R s s1 s2 hji hoj ho (fun q => ?_) r1 r2 d1 d2 hJs q1 q2
     have := pre_listed (Ls := fun j => listed.getD j false = true) hcl ops.size i o hlt ho hall j q
     have hjs : j < listed.size := by omega
     simp [Array.getD_eq_getD_getElem?, hjs] at this hju
     rw [this] at hju
     cases hju) h
    have hrest : ((List.range ops.size).filter fun k => !(listed.setIfInBounds i true).getD k true) = (List.range i).filter (fun k => !listed.getD k true) ++ (List.range' (i + 1) (ops.size - i - 1)).filter (fun k => !listed.getD k true) := by
     rw [hsplit, hsplit2, List.filter_cons_of_neg (by simp [hsz, hlt])]
     congr 1
     ·refine List.filter_congr fun k hk => ?_
      rw [List.mem_range] at hk
      rw [getD_set_ne true (by omega)]
     ·refine List.filter_congr fun k hk => ?_
      rw [List.mem_range'_1] at hk
      rw [getD_set_ne true (by omega)]
    refine ⟨st1, h1, ?_⟩
    have hk0 : ∀ k, (listed.setIfInBounds i true).getD k true = false → listed.getD k true = false ∧ k ≠ i := fun k hk => by
     by_cases e : i = k
     ·subst e
      exfalso
      simp [hsz, hlt] at hk
     ·rw [getD_set_ne true e] at hk
      exact ⟨hk, fun q => e q.symm⟩
    have hJ1 : J (fun k => (listed.setIfInBounds i true).getD k true = false) st1 := by
     rcases Nat.lt_or_ge i n with hg | hg
     ·exact hmono _ _ _ hk0 (fun k hk q => (getD_set_ne true (fun e => q.2 e.symm)).trans q.1) (hstep i _ st st1 (hgood i hg) hun' hDi hJ h1)
     ·refine hempty st1 _ (fun k hk => Nat.le_of_not_lt fun hkn => ?_)
      obtain ⟨e1, e2⟩ := hk0 k hk
      have hks : k < listed.size := by
       rcases Nat.lt_or_ge k listed.size with h | h
       ·exact h
       ·rw [Array.getD_eq_getD_getElem?, Array.getElem?_eq_none h] at e1
        cases e1
      have := pre_listed (Ls := fun j => listed.getD j false = true) hcl ops.size i o hlt ho hall k (hsl i hg hlt k (by omega))
      simp [Array.getD_eq_getD_getElem?, hks] at this e1
      rw [this] at e1
      cases e1
    refine ih _ _ st1 hJ1 (by simp [hsz]) ?_ ?_ (by rw [hrest]; exact h2)
    ·have : ((List.range ops.size).filter fun k => !listed.getD k true).length = ((List.range ops.size).filter fun k => !(listed.setIfInBounds i true).getD k true).length + 1 := by
      rw [hrest, hsplit, hsplit2, List.filter_cons_of_pos (by simp [hun])]
      simp
      omega
     omega
    ·intro j oj hj hoj e he hb
     by_cases hij : i = j
     ·subst hij
      rw [ho] at hoj
      injection hoj with hoj
      subst hoj
      exact getD_set_true (hall e he hb)
     ·rw [getD_set_ne false hij] at hj
      exact getD_set_true (hcl j oj hj hoj e he hb)
 unfold Region.linearise
 refine main ops.size t (Array.replicate ops.size false) st (hmono _ _ _ (fun _ _ => trivial) (fun k hk _ => by simp [hk]) h0) (by simp) (by
  refine Nat.le_trans (List.length_filter_le _ _) ?_
  simp) (fun j o hj => ?_) ?_
 ·exfalso
  rw [Array.getD_eq_getD_getElem?, Array.getElem?_replicate] at hj
  split at hj <;> cases hj
 ·have : ((List.range ops.size).filter fun i => !(Array.replicate ops.size false).getD i true) = List.range ops.size := by
   rw [List.filter_eq_self]
   intro i hi
   rw [List.mem_range] at hi
   simp [hi]
  rw [this]
  exact hev
end Go.Proofs.YtmnoibkdmeajpaaGreat.Dm
