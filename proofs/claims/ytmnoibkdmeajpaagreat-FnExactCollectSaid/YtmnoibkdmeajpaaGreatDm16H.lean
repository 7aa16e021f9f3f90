/- The machine over plain data: regions whose order is drawn. -/
import Derived.Test.YtmnoibkdmeajpaaGreatDm16G
namespace Go.Proofs.YtmnoibkdmeajpaaGreat.Dm
set_option linter.unusedSectionVars false
open Go.RowKit
set_option linter.unusedVariables false
set_option linter.unusedSimpArgs false
variable [Cfg] {P : Program} {st st' st1 : St} {o : Oper} {d : Dv}
theorem runV_mono {V V' : Nat → St → St → Prop} : ∀ (l : List Nat) (s s' : St), (∀ i ∈ l, ∀ a b, V i a b → V' i a b) → runV V l s s' → runV V' l s s'
 | [], s, s', _, h => h
 | i :: l, s, s', hv, ⟨s1, h1, h2⟩ => ⟨s1, hv i (List.mem_cons_self ..) _ _ h1, runV_mono l s1 s' (fun j hj => hv j (List.mem_cons_of_mem _ hj)) h2⟩
def VF (call : CallF) (P : Program) (ops : Array Oper) (n : Nat) (F : Nat → Fp) (i : Nat) (s s1 : St) : Prop := op1 call P ops i s = some s1 ∧ ∀ o, ops[i]? = some o → i < n → fpG ops P o s = some (F i)
theorem run_evalL {call : CallF} {ops : Array Oper} {n : Nat} {F : Nat → Fp} : ∀ (l : List Nat) (s s' : St), runV (VF call P ops n F) l s s' → evalL call P ops l s = some s'
 | [], s, s', h => by
  have h : s = s' := h
  subst h; rfl
 | i :: l, s, s', ⟨s1, h1, h2⟩ => by
  simp only [evalL, h1.1, Option.bind_some]
  exact run_evalL l s1 s' h2
def fpZ : Fp := ⟨[], [], [], true, true⟩
theorem indep_nil (f : Fp) : indep f fpZ = true := by
 unfold indep disjN fpZ
 simp
theorem nil_indep (f : Fp) : indep fpZ f = true := by
 unfold indep disjN fpZ
 simp
theorem evalO_run {call : CallF} {ops : Array Oper} {n : Nat} {F : Nat → Fp} : ∀ (l : List Oper) (i : Nat) (st st' : St), n ≤ i → ops.toList.drop i = l → evalO call P ops l st = some st' → runV (VF call P ops n F) (List.range' i l.length) st st'
 | [], i, st, st', _, _, h => by
  simp only [evalO] at h
  injection h
 | o :: l, i, st, st', hn, hl, h => by
  simp only [evalO] at h
  obtain ⟨s1, h1, h2⟩ := Option.bind_eq_some_iff.1 h
  have ho : ops[i]? = some o := by
   have : ops.toList[i]? = some o := by
    have := congrArg (fun l => l[0]?) hl
    simpa using this
   simpa using this
  have hl' : ops.toList.drop (i + 1) = l := by
   have := congrArg List.tail hl
   rw [List.tail_drop] at this
   simpa using this
  rw [List.length_cons, List.range'_succ]
  refine ⟨s1, ⟨by unfold op1; rw [ho]; exact h1, fun _ _ q => by omega⟩, evalO_run l (i + 1) s1 st' (by omega) hl' h2⟩
theorem evalD_run {R : Type} {call : CallF} {ops : Array Oper} {n : Nat} {k : St → Option R} {r : R} : ∀ (l : List Oper) (i : Nat) (lg : List (Nat × Fp)) (st : St), ops.toList.drop i = l → evalD call P ops n i lg l st k = some r →
 ∃ (F : Nat → Fp) (st' : St), k st' = some r ∧ runV (VF call P ops n F) (List.range' i l.length) st st' ∧ (∀ j, i ≤ j → j < n → ∀ q ∈ lg, q.1 ∈ (preAll ops ops.size).getD j [] ∨ indep q.2 (F j) = true) ∧
  ∀ a b, i ≤ a → a < b → b < n → a ∈ (preAll ops ops.size).getD b [] ∨ indep (F a) (F b) = true
 | [], i, lg, st, hl, h => ⟨fun _ => fpZ, st, h, rfl, fun j _ _ q _ => .inr (indep_nil _), fun a b _ _ _ => .inr (indep_nil _)⟩
 | o :: l, i, lg, st, hl, h => by
  have ho : ops[i]? = some o := by
   have : ops.toList[i]? = some o := by
    have := congrArg (fun l => l[0]?) hl
    simpa using this
   simpa using this
  have hl' : ops.toList.drop (i + 1) = l := by
   have := congrArg List.tail hl
   rw [List.tail_drop] at this
   simpa using this
  have glue : ∀ (f : Fp) (lg' : List (Nat × Fp)) (st1 : St), opS call P ops o st = some st1 → (i < n → fpG ops P o st = some f) → (∀ q ∈ lg, q.1 ∈ (preAll ops ops.size).getD i [] ∨ indep q.2 f = true) → (∀ q ∈ lg, q ∈ lg') → (f = fpZ ∨ (i, f) ∈ lg') →
   (∃ (F : Nat → Fp) (st' : St), k st' = some r ∧ runV (VF call P ops n F) (List.range' (i + 1) l.length) st1 st' ∧ (∀ j, i + 1 ≤ j → j < n → ∀ q ∈ lg', q.1 ∈ (preAll ops ops.size).getD j [] ∨ indep q.2 (F j) = true) ∧
    ∀ a b, i + 1 ≤ a → a < b → b < n → a ∈ (preAll ops ops.size).getD b [] ∨ indep (F a) (F b) = true) →
   ∃ (F : Nat → Fp) (st' : St), k st' = some r ∧ runV (VF call P ops n F) (List.range' i (o :: l).length) st st' ∧ (∀ j, i ≤ j → j < n → ∀ q ∈ lg, q.1 ∈ (preAll ops ops.size).getD j [] ∨ indep q.2 (F j) = true) ∧
    ∀ a b, i ≤ a → a < b → b < n → a ∈ (preAll ops ops.size).getD b [] ∨ indep (F a) (F b) = true := by
   rintro f lg' st1 hop hfp hok hsub hf ⟨F, st', q1, q2, q3, q4⟩
   obtain ⟨F2, g0, g1⟩ : ∃ F2 : Nat → Fp, F2 i = f ∧ ∀ j, j ≠ i → F2 j = F j := ⟨fun j => if j = i then f else F j, if_pos rfl, fun j h => if_neg h⟩
   refine ⟨F2, st', q1, ?_, fun j hij hjn q hq => ?_, fun a b ha hab hb => ?_⟩
   ·rw [List.length_cons, List.range'_succ]
    refine ⟨st1, ⟨by unfold op1; rw [ho]; exact hop, fun o' ho' hin => ?_⟩, runV_mono _ _ _ (fun j hj a b hv => ⟨hv.1, fun o' ho' hjn => ?_⟩) q2⟩
    ·rw [ho] at ho'; injection ho' with ho'; subst ho'
     rw [g0]; exact hfp hin
    ·rw [List.mem_range'_1] at hj
     rw [g1 j (by omega)]
     exact hv.2 o' ho' hjn
   ·by_cases e : j = i
    ·subst e; rw [g0]; exact hok q hq
    ·rw [g1 j e]; exact q3 j (by omega) hjn q (hsub q hq)
   ·by_cases e : a = i
    ·subst e
     rw [g0, g1 b (by omega)]
     rcases hf with rfl | hf
     ·exact .inr (nil_indep _)
     ·exact q3 b (by omega) hb _ hf
    ·rw [g1 a e, g1 b (by omega)]
     exact q4 a b (by omega) hab hb
  unfold evalD at h
  cases hb : Nat.ble n i with
  | true =>
   rw [hb, cond_true, evalOps_eq] at h
   obtain ⟨st', h1, h2⟩ := Option.bind_eq_some_iff.1 h
   have hni := Nat.le_of_ble_eq_true hb
   exact ⟨fun _ => fpZ, st', h2, evalO_run (o :: l) i st st' hni hl h1, fun j _ _ q _ => .inr (indep_nil _), fun a b _ _ _ => .inr (indep_nil _)⟩
  | false =>
   rw [hb, cond_false] at h
   have stepK : (∀ st0 : St, st0 = st → (match fpK P o st0 with
    | some f => bif okLog ops i lg f then stepM call P o st0 fun d st' => evalD call P ops n (i + 1) ((i, f) :: lg) l (st'.put o.dst d) k else none
    | none => none) = some r → (stpM call P o st = opS call P ops o st) → (fpK P o st = fpG ops P o st) → ∃ (F : Nat → Fp) (st' : St), k st' = some r ∧ runV (VF call P ops n F) (List.range' i (o :: l).length) st st' ∧ (∀ j, i ≤ j → j < n → ∀ q ∈ lg, q.1 ∈ (preAll ops ops.size).getD j [] ∨ indep q.2 (F j) = true) ∧
    ∀ a b, i ≤ a → a < b → b < n → a ∈ (preAll ops ops.size).getD b [] ∨ indep (F a) (F b) = true) := by
    intro st0 e hh e1 e2
    subst e
    split at hh
    ·rename_i f hf
     cases hx : okLog ops i lg f with
     | false => rw [hx] at hh; cases hh
     | true =>
      rw [hx, cond_true, stepM_bind] at hh
      obtain ⟨q, h1, h2⟩ := Option.bind_eq_some_iff.1 hh
      refine glue f ((i, f) :: lg) (q.2.put o.dst q.1) (by rw [← e1]; unfold stpM; rw [h1]; rfl) (fun _ => by rw [← e2]; exact hf) (fun q hq => ?_) (fun q hq => List.mem_cons_of_mem _ hq) (.inr (List.mem_cons_self ..)) (evalD_run l (i + 1) _ _ hl' h2)
      have := List.all_eq_true.1 hx q hq
      simpa using this
    ·cases hh
   have skip : evalD call P ops n (i + 1) lg l (st.put o.dst nix) k = some r → opS call P ops o st = some (st.put o.dst nix) → fpG ops P o st = some fpZ → ∃ (F : Nat → Fp) (st' : St), k st' = some r ∧ runV (VF call P ops n F) (List.range' i (o :: l).length) st st' ∧ (∀ j, i ≤ j → j < n → ∀ q ∈ lg, q.1 ∈ (preAll ops ops.size).getD j [] ∨ indep q.2 (F j) = true) ∧
    ∀ a b, i ≤ a → a < b → b < n → a ∈ (preAll ops ops.size).getD b [] ∨ indep (F a) (F b) = true := fun h e1 e2 =>
    glue fpZ lg _ e1 (fun _ => e2) (fun q _ => .inr (indep_nil _)) (fun q hq => hq) (.inl rfl) (evalD_run l (i + 1) _ _ hl' h)
   cases hgd : o.guard with
   | none =>
    simp only [hgd] at h
    exact stepK st rfl h (by unfold opS; rw [hgd]; rfl) (by unfold fpG; rw [hgd])
   | some jw =>
    obtain ⟨j, want⟩ := jw
    simp only [hgd] at h
    cases hgs : gslot ops j with
    | none => simp only [hgs] at h; cases h
    | some g =>
     simp only [hgs] at h
     split at h
     ·rename_i b hbv
      have e3 : st.put (some g) (.p (.bool b)) = st := put_same hbv
      have e4 : b = want → stpM call P o st = opS call P ops o st := fun e => by
       unfold opS; simp only [hgd, hgs, hbv, if_pos e]; rfl
      have e5 : b = want → fpK P o st = fpG ops P o st := fun e => by
       unfold fpG; simp only [hgd, hgs, hbv, if_pos e]
      have e6 : b ≠ want → opS call P ops o st = some (st.put o.dst nix) := fun e => by
       unfold opS; simp only [hgd, hgs, hbv, if_neg e]
      have e7 : b ≠ want → fpG ops P o st = some fpZ := fun e => by
       unfold fpG; simp only [hgd, hgs, hbv, if_neg e]; rfl
      cases b <;> cases want <;> simp only [cond_true, cond_false] at h
      ·exact stepK _ e3 h (e4 rfl) (e5 rfl)
      ·rw [e3] at h
       exact skip h (e6 (by simp)) (e7 (by simp))
      ·rw [e3] at h
       exact skip h (e6 (by simp)) (e7 (by simp))
      ·exact stepK _ e3 h (e4 rfl) (e5 rfl)
     ·rename_i hbv
      exact skip h (by unfold opS; simp only [hgd, hgs, hbv]) (by unfold fpG; simp only [hgd, hgs, hbv]; rfl)
     ·cases h
theorem ment_scrubAll {m : Nm} : ∀ {sc : List Nm} {d : Dv}, mentD m (scrubAll sc d) = true → mentD m d = true
 | [], d, h => h
 | n :: sc, d, h => by
  have := ment_scrubAll (sc := sc) (d := scrub n d) h
  cases hx : mentD m d with
  | true => rfl
  | false => rw [scrub_keeps d hx] at this; cases this
theorem fresh_step {call : CallF} {ops : Array Oper} {f : Fp} (hp : PreS o st) (hf : Fresh st) (h : LocG call P ops o f st st1) : Fresh st1 := by
 obtain ⟨u, is, w, tl, _⟩ := h
 have old := tl.old st.L.length hp.sz (fun _ t _ i hi => (hf i hi).T t) (fun n i hi => ment_getOb (hf i hi) n) (fun i hi m => ment_none m hi)
 intro s hs
 rw [is.l] at hs
 have may : May f st u.new.length (.loc s) → False := fun h => by
  rcases h with q | q | ⟨n, q1, q2⟩ | ⟨i, q1, q2⟩
  ·have := old s (.inl q); omega
  ·have := old s (.inr q); omega
  ·rw [ment_getOb (hf s (by omega)) n] at q2; cases q2
  ·injection q2 with q2; omega
 have ob : ∀ n, mentOb (.loc s) (getOb st1.L st1.O n) = false := fun n => by
  cases hx : mentOb (.loc s) (getOb st1.L st1.O n) with
  | false => rfl
  | true =>
   exfalso
   rcases off_or st.L.length u.new.length n with q | ⟨i, q1, q2⟩
   ·rw [is.b n q] at hx
    cases hu : upGet u.up n with
    | some ob => rw [hu] at hx; exact may (w.c _ (upGet_mem hu) _ hx)
    | none =>
     rw [hu] at hx
     have := ment_scrubObAll hx
     rw [ment_getOb (hf s (by omega)) n] at this
     cases this
   ·subst q2
    rw [is.w i q1, List.getD_eq_getElem?_getD, List.getElem?_eq_getElem q1] at hx
    have h9 := w.nw _ (List.getElem_mem q1) (.loc s)
    rw [show (some u.new[i]).getD Ob.none = u.new[i] from rfl, h9] at hx
    cases hx
 refine ⟨fun j => ?_, fun o' ho' => ?_, fun o' ho' => ?_⟩
 ·rw [is.t]
  split
  ·cases hx : mentD (.loc s) u.v with
   | false => rfl
   | true => exact (may (w.v _ hx)).elim
  ·cases hx : mentD (.loc s) (scrubAll u.sc (st.T.getD j ud)) with
   | false => rfl
   | true =>
    have := ment_scrubAll hx
    rw [(hf s (by omega)).T j] at this
    cases this
 ·obtain ⟨i, hi⟩ := List.mem_iff_getElem?.1 ho'
  have := ob (.loc i)
  simpa [getOb, List.getD_eq_getElem?_getD, hi] using this
 ·obtain ⟨i, hi⟩ := List.mem_iff_getElem?.1 ho'
  have := ob (.out i)
  simpa [getOb, List.getD_eq_getElem?_getD, hi] using this
def JP (n N : Nat) (A : Prop) (R : Nat → Prop) (st : St) : Prop := (∃ k, R k ∧ k < n) → st.T.n = N ∧ N ≤ st.L.length ∧ (A → Fresh st)
theorem JP.pre {ops : Array Oper} {n N : Nat} {A : Prop} {R : Nat → Prop} (hA : ∀ k o, k < n → ops[k]? = some o → ownO o = true → A) (h : JP n N A R st) {k : Nat} (hR : R k) (hk : k < n) (ho : ops[k]? = some o) : PreS o st := by
 obtain ⟨h1, h2, h3⟩ := h ⟨k, hR, hk⟩
 exact ⟨fun q => h3 (hA k o hk ho q), by rw [h1]; exact h2⟩
theorem JP.step {call : CallF} {ops : Array Oper} {n N : Nat} {A : Prop} (hA : ∀ k o, k < n → ops[k]? = some o → ownO o = true → A) {R : Nat → Prop} {j : Nat} {oj : Oper} {f : Fp} (hj : j < n) (hRj : R j) (hJ : JP n N A R st) (hoj : ops[j]? = some oj) (hf : fpG ops P oj st = some f) (h : opS call P ops oj st = some st1) :
 JP n N A (fun k => R k ∧ k ≠ j) st1 := by
 have hp := hJ.pre hA hRj hj hoj
 obtain ⟨g1, g2, g3⟩ := hJ ⟨j, hRj, hj⟩
 have hl := locG hf hp h
 have hl' := hl
 obtain ⟨u, is, _⟩ := hl'
 exact fun _ => ⟨is.n.trans g1, by rw [is.l]; omega, fun a => fresh_step hp (g3 a) hl⟩
theorem apart_get {ops : Array Oper} {n : Nat} (h : apartAll ops n = true) {i j : Nat} {x y : Oper} (hij : i < j) (hjn : j < n) (hx : ops[i]? = some x) (hy : ops[j]? = some y) (hn : i ∉ (preAll ops ops.size).getD j []) : x.apart ops y = true ∧ (ownO x = false ∨ ownO y = false) := by
 have h1 := List.all_eq_true.1 (List.all_eq_true.1 h j (List.mem_range.2 hjn)) i (List.mem_range.2 hij)
 simp only [hx, hy, Bool.or_eq_true, List.contains_iff_mem, Bool.and_eq_true, Bool.not_eq_true', Bool.and_eq_false_iff] at h1
 exact h1.resolve_left hn
theorem tailM_sealed (ops : Array Oper) : ∀ m, tailM ops m = 0 ∨ sealed ops (tailM ops m) = true
 | 0 => .inl rfl
 | m + 1 => by
  unfold tailM
  cases h : sealed ops (m + 1) with
  | true => right; rw [cond_true]; exact h
  | false => rw [cond_false]; exact tailM_sealed ops m
theorem own_app_ops {ops : Array Oper} {n k : Nat} (hk : k < n) (ho : ops[k]? = some o) : o ∈ ops.toList.take n := by
 have : (ops.toList.take n)[k]? = some o := by rw [List.getElem?_take, if_pos hk]; simpa using ho
 exact List.mem_of_getElem? this
theorem drawn_ok (hm : P.follows .mixedOrders = true) {R : Type} {call : CallF} {ops : Array Oper} {st : St} {k : St → Option R} {r : R} (hdr : drS ops st = true) (h : evalD call P ops (tailN ops) 0 [] ops.toList st k = some r) :
 ∃ st', k st' = some r ∧ ∀ t, evalL call P ops (Region.schedule (P.follows .mixedOrders) ops t) st = some st' := by
 unfold drS at hdr
 simp only [Bool.and_eq_true, Bool.or_eq_true, Bool.not_eq_true'] at hdr
 obtain ⟨hsz, hb, hap, hun⟩ := hdr
 have hsz := Nat.le_of_ble_eq_true hsz
 have hn : ∀ j, tailN ops ≤ j → j < ops.size → ∀ k, k < j → k ∈ (preAll ops ops.size).getD j [] := by
  intro j hj hjs k hk
  unfold tailN at hj
  rcases tailM_sealed ops 12 with q | hse
  ·omega
  ·unfold sealed at hse
   have e : ops.size - 1 - (ops.size - 1 - j) = j := by omega
   have := List.all_eq_true.1 (List.all_eq_true.1 hse (ops.size - 1 - j) (List.mem_range.2 (by omega))) k (List.mem_range.2 (by omega))
   rw [e] at this
   simpa using this
 generalize tailN ops = n at *
 have hA : ∀ k o, k < n → ops[k]? = some o → ownO o = true → ((ops.toList.take n).any ownO) = true := fun k o hk ho q => List.any_eq_true.2 ⟨o, own_app_ops hk ho, q⟩
 obtain ⟨F, st', q1, q2, _, q4⟩ := evalD_run ops.toList 0 [] st (by simp) h
 refine ⟨st', q1, fun t => ?_⟩
 have base : JP n st.T.n (((ops.toList.take n).any ownO) = true) (fun _ => True) st := fun _ => ⟨rfl, hsz, fun a => by
  rcases hun with q | q
  ·rw [a] at q; cases q
  ·exact fresh_of q⟩
 have hrun : runV (VF call P ops n F) (List.range ops.size) st st' := by
  rw [List.range_eq_range']
  have := q2
  rw [show ops.toList.length = ops.size by simp] at this
  exact this
 refine run_evalL _ _ _ (order_ok (V := VF call P ops n F) (J := JP n st.T.n (((ops.toList.take n).any ownO) = true)) (Good := fun j => j < n ∨ ops.size ≤ j) hm hb (fun R R' st h1 h2 hJ hk => ?_) n (fun j hj => .inl hj) hn (fun st R h hk => ?_) (fun j R s s1 hg hRj hD hJ hV => ?_) (fun i j x y R s s1 s2 hij hx hy hn' ri rj di dj hJ v1 v2 => ?_) base hrun t)
 ·obtain ⟨k, hk1, hk2⟩ := hk
  exact hJ ⟨k, h1 k hk1, hk2⟩
 ·obtain ⟨k, hk1, hk2⟩ := hk
  exact absurd hk2 (Nat.not_lt.2 (h k hk1))
 ·obtain ⟨v1, v2⟩ := hV
  unfold op1 at v1
  cases hoj : ops[j]? with
  | none =>
   rw [hoj] at v1
   injection v1 with v1
   subst v1
   rintro ⟨k, hk, hkn⟩
   exact hJ ⟨k, hk.1, hkn⟩
  | some oj =>
   rw [hoj] at v1
   have hjs := (Array.getElem?_eq_some_iff.1 hoj).1
   have hjn : j < n := by rcases hg with q | q <;> omega
   exact hJ.step hA hjn hRj hoj (v2 oj hoj hjn) v1
 ·obtain ⟨v1, f1⟩ := v1
  obtain ⟨v2, f2⟩ := v2
  have hjs := (Array.getElem?_eq_some_iff.1 hy).1
  have hjn : j < n := by
   rcases Nat.lt_or_ge j n with q | q
   ·exact q
   ·exact absurd (hn j q hjs i hij) hn'
  have hin : i < n := by omega
  have f1 := f1 x hx hin
  have f2 := f2 y hy hjn
  unfold op1 at v1 v2
  rw [hx] at v1
  rw [hy] at v2
  obtain ⟨hapart, hown⟩ := apart_get hap hij hjn hx hy hn'
  obtain ⟨a1, a2, a3⟩ := Oper.apart_spec hapart
  have px := hJ.pre hA ri hin hx
  have py := hJ.pre hA rj hjn hy
  have hJ1 := hJ.step hA hin ri hx f1 v1
  have py1 := hJ1.pre hA (k := j) ⟨rj, by omega⟩ hjn hy
  have hind : indep (F i) (F j) = true := (q4 i j (Nat.zero_le _) hij hjn).resolve_left hn'
  obtain ⟨s1', b1, b2, b3, b4⟩ := swap (locG f1 px v1) (locG f2 py1 v2) px py (fun s1' g1 g2 => (hJ.step hA hjn rj hy g2 g1).pre hA (k := i) ⟨ri, by omega⟩ hin hx) (fun t ht => ⟨a1 t ht, a2 t ht⟩) (fun t ht => a3 t ht) hind hown
  refine ⟨s1', ⟨by unfold op1; rw [hy]; exact b1, fun o ho _ => ?_⟩, ⟨by unfold op1; rw [hx]; exact b3, fun o ho _ => ?_⟩⟩
  ·rw [hy] at ho; injection ho with ho; subst ho; exact b2
  ·rw [hx] at ho; injection ho with ho; subst ho; exact b4
end Go.Proofs.YtmnoibkdmeajpaaGreat.Dm
