/- The machine over plain data: rows that grow where they stand, where an order is drawn. -/
import Derived.Test.YtmnoibkdmeajpaaGreatDm16E
namespace Go.Proofs.YtmnoibkdmeajpaaGreat.Dm
set_option linter.unusedSectionVars false
open Go.RowKit
set_option linter.unusedVariables false
set_option linter.unusedSimpArgs false
variable [Cfg] {P : Program} {st st' st1 : St} {o : Oper} {d : Dv} {L O L' O' : List Ob} {mx : Bool}
theorem pack1_ag {r : Option (Nat × Nat)} (h : ∀ m, mentD m d = true → getOb L' O' m = getOb L O m) : pack1 mx L' O' r d = pack1 mx L O r d := by
 unfold pack1
 cases d with
 | arr m => simp only [h m (by simp [mentD])]
 | _ => rfl
theorem packs_ag : ∀ (rs : List (Option (Nat × Nat))) (ds : List Dv), (∀ d ∈ ds, ∀ m, mentD m d = true → getOb L' O' m = getOb L O m) → packs mx L' O' rs ds = packs mx L O rs ds
 | _, [], _ => rfl
 | rs, d :: ds, h => by simp only [packs, pack1_ag (h d (List.mem_cons_self ..)), packs_ag rs.tail ds fun x hx => h x (List.mem_cons_of_mem _ hx)]
theorem packV_ag {t : TypeId} (h : ∀ m, mentD m d = true → getOb L' O' m = getOb L O m) : packV mx P L' O' t d = packV mx P L O t d := by
 have one : packs mx L' O' (rowTs P 8 t) [d] = packs mx L O (rowTs P 8 t) [d] := packs_ag _ _ fun x hx => by rw [List.mem_singleton.1 hx]; exact h
 unfold packV
 cases d with
 | agg n ds =>
  dsimp only
  rw [packs_ag _ _ fun x hx m hm => h m (by simp only [mentD]; exact mentDs_of_mem hx hm)]
 | p x => rfl
 | _ => exact one
theorem packEs_ag {e : TypeId} : ∀ (ds : List Dv), (∀ d ∈ ds, ∀ m, mentD m d = true → getOb L' O' m = getOb L O m) → packEs mx P L' O' e ds = packEs mx P L O e ds
 | [], _ => rfl
 | d :: ds, h => by simp only [packEs, packV_ag (h d (List.mem_cons_self ..)), packEs_ag ds fun x hx => h x (List.mem_cons_of_mem _ hx)]
theorem moveY_ag {e z : Nat} (h : ∀ m, mentD m d = true → getOb L' O' m = getOb L O m) : moveY mx L' O' e z d = moveY mx L O e z d := by
 unfold moveY
 cases d with
 | arr m => simp only [h m (by simp [mentD])]
 | p x => cases x <;> rfl
 | _ => rfl
theorem pack1_ns {r : Option (Nat × Nat)} {x : Pd} {ms : List Nm} (h : pack1 mx L O r d = some (x, ms)) : ∀ n ∈ ms, mentD n d = true := by
 unfold pack1 at h
 repeat' split at h
 all_goals first
  | (cases h; done)
  | (injection h with h; injection h with e1 e2; subst e2; intro n hn; first | (cases hn; done) | (rw [List.mem_singleton.1 hn]; simp [mentD]))
theorem packs_ns : ∀ (rs : List (Option (Nat × Nat))) (ds : List Dv) {xs : List Pd} {ms : List Nm}, packs mx L O rs ds = some (xs, ms) → ∀ n ∈ ms, mentDs n ds = true
 | _, [], xs, ms, h, n, hn => by
  simp only [packs] at h
  injection h with h; injection h with e1 e2; subst e2
  cases hn
 | rs, d :: ds, xs, ms, h, n, hn => by
  simp only [packs] at h
  split at h
  ·rename_i x m1 h1
   split at h
   ·rename_i ys m2 h2
    injection h with h; injection h with e1 e2; subst e2
    simp only [mentDs, Bool.or_eq_true]
    rcases List.mem_append.1 hn with q | q
    ·exact .inl (pack1_ns h1 n q)
    ·exact .inr (packs_ns rs.tail ds h2 n q)
   ·cases h
  ·cases h
theorem packV_ns {t : TypeId} {xs : List Pd} {ms : List Nm} (h : packV mx P L O t d = some (xs, ms)) : ∀ n ∈ ms, mentD n d = true := by
 have one : packs mx L O (rowTs P 8 t) [d] = some (xs, ms) → ∀ n ∈ ms, mentD n d = true := fun h n hn => by
  have := packs_ns _ _ h n hn
  simpa [mentDs] using this
 unfold packV at h
 split at h
 ·split at h
  ·injection h with h; injection h with e1 e2; subst e2
   intro n hn; cases hn
  ·cases h
 ·split at h
  ·intro n hn
   simp only [mentD]
   exact packs_ns _ _ h n hn
  ·cases h
 ·exact one h
theorem packEs_ns {e : TypeId} : ∀ (ds : List Dv) {xs : List (List Pd)} {ms : List Nm}, packEs mx P L O e ds = some (xs, ms) → ∀ n ∈ ms, mentDs n ds = true
 | [], xs, ms, h, n, hn => by
  simp only [packEs] at h
  injection h with h; injection h with e1 e2; subst e2
  cases hn
 | d :: ds, xs, ms, h, n, hn => by
  simp only [packEs] at h
  split at h
  ·rename_i x m1 h1
   split at h
   ·rename_i ys m2 h2
    injection h with h; injection h with e1 e2; subst e2
    simp only [mentDs, Bool.or_eq_true]
    rcases List.mem_append.1 hn with q | q
    ·exact .inl (packV_ns h1 n q)
    ·exact .inr (packEs_ns ds h2 n q)
   ·cases h
  ·cases h
theorem moveY_ns {e z : Nat} {ys : List (List Pd)} {ms : List Nm} (h : moveY mx L O e z d = some (ys, ms)) : ∀ n ∈ ms, mentD n d = true := by
 unfold moveY at h
 repeat' split at h
 all_goals first
  | (cases h; done)
  | (injection h with h; injection h with e1 e2; subst e2; intro n hn; first | (cases hn; done) | (rw [List.mem_singleton.1 hn]; simp [mentD]))
theorem rmAll_len : ∀ (ns : List Nm) (L : List Ob), (rmAll ns L).length = L.length
 | [], L => rfl
 | n :: ns, L => by
  rw [rmAll, rmAll_len ns]
  cases n <;> simp [setL]
def noneN (ns : List Nm) : List (Nm × Ob) := ns.map fun n => (n, Ob.none)
theorem noneN_get : ∀ (ns : List Nm) (m : Nm), upGet (noneN ns) m = if m ∈ ns then some .none else none
 | [], m => rfl
 | n :: ns, m => by
  have := noneN_get ns m
  simp only [noneN, List.map_cons, upGet] at this ⊢
  rw [this]
  by_cases h1 : m ∈ ns
  ·rw [if_pos h1, if_pos (List.mem_cons_of_mem _ h1)]
  ·rw [if_neg h1]
   by_cases h2 : n = m
   ·rw [if_pos h2, if_pos (by rw [h2]; exact List.mem_cons_self ..)]
   ·rw [if_neg h2, if_neg fun q => by rcases List.mem_cons.1 q with q | q; exact h2 q.symm; exact h1 q]
theorem rm_scrub {ns : List Nm} (hns : ∀ n ∈ ns, isLoc n = true) (m m' : Nm) : getOb ((rmAll ns st.L).map (scrubOb m)) (st.O.map (scrubOb m)) m' = (upGet (noneN ns) m').getD (scrubOb m (getOb st.L st.O m')) := by
 rw [getOb_map _ _ (scrubOb_none _), getOb_rmAll ns st.L st.O hns, noneN_get]
 split <;> rfl
theorem mixN_same (h : SameX P o st st') (hb : ∀ m ∈ refsO P o st, getOb st'.L st'.O m = getOb st.L st.O m) : mixN P o st' = mixN P o st := by
 unfold mixN
 cases ho : o.op with
 | lookup t x y ok =>
  cases o.dst with
  | none => rfl
  | some s =>
   have hx : x ∈ o.op.operands.toList := by rw [ho]; simp [Op.operands]
   have hy : y ∈ o.op.operands.toList := by rw [ho]; simp [Op.operands]
   dsimp only
   rw [h x hx t, h y hy 0]
   cases ha : opd P st t x with
   | mp m =>
    have e := hb m (refsO_of (t := t) hx (by rw [ha]; simp [refsD]))
    cases opd P st 0 y with
    | p k =>
     cases k with
     | str key => dsimp only; rw [e]
     | _ => rfl
    | _ => rfl
   | _ => rfl
 | call c =>
  cases o.dst with
  | none => rfl
  | some s => dsimp only; rw [opds_sameX ho h]
 | _ => cases o.dst <;> rfl
theorem isMix_own (h : isMix P o st = true) : ownO o = false := by
 unfold ownO
 cases ho : o.op with
 | call c =>
  dsimp only
  unfold isMix at h
  rw [ho] at h
  dsimp only at h
  cases hc : c.callee with
  | value x => rw [hc] at h; cases h
  | _ => rfl
 | _ => rfl
theorem fpK_mix (h0 : (noLink P o st && dstOK o st) = true) (h1 : (Cfg.mix && isMix P o st) = true) : fpK P o st = some (mkFp P o st (mixN P o st ++ refsO P o st) (mixN P o st)) := by
 unfold fpK
 rw [h0, h1]
 rfl
theorem stpM_mix {call : CallF} (h0 : noLink P o st = true) (h1 : (Cfg.mix && isMix P o st) = true) : stpM call P o st = (mixOp P o st pr).map fun q => q.2.put o.dst q.1 := by
 unfold stpM
 rw [stepM_plain h0, h1]
 rfl
theorem locM {call : CallF} {u : Upd} (h0 : (noLink P o st && dstOK o st) = true) (h1 : (Cfg.mix && isMix P o st) = true) (hn : u.new = []) (hsc : u.sc = mixN P o st) (hup : ∀ q ∈ u.up, q.1 ∈ mixN P o st ∨ q.1 ∈ refsO P o st)
 (hv : ∀ m, mentD m u.v = true → m ∈ mixN P o st ∨ m ∈ refsO P o st) (hc : ∀ q ∈ u.up, ∀ m, mentOb m q.2 = true → m ∈ mixN P o st ∨ m ∈ refsO P o st) (is : Is u o st st1)
 (again : ∀ st', Ag o (mkFp P o st (mixN P o st ++ refsO P o st) (mixN P o st)) st st' → PreS o st' → ∃ s2, mixOp P o st' pr = some (u.v, s2) ∧ Is u o st' (s2.put o.dst u.v)) :
 Loc call P o (mkFp P o st (mixN P o st ++ refsO P o st) (mixN P o st)) st st1 := by
 have h1' := h1
 simp only [Bool.and_eq_true] at h1'
 have hno := isMix_own h1'.2
 have mem : ∀ {k : Nat} {m : Nm}, m ∈ mixN P o st ∨ m ∈ refsO P o st → May (mkFp P o st (mixN P o st ++ refsO P o st) (mixN P o st)) st k m := fun {k m} h =>
  .inr (.inl (List.mem_append_left _ (List.mem_append.2 h)))
 refine ⟨u, is, wf_mk hsc (fun m hm => List.mem_append_left _ hm) (fun q hq => List.mem_append.2 (hup q hq)) (fun m hm => mem (hv m hm)) (fun q hq m hm => mem (hc q hq m hm)) (fun q hq => by rw [hn] at hq; cases hq) (fun _ => hn) (fun q => by rw [hno] at q; cases q), fun st' ag pr => ?_⟩
 have h0n : (noLink P o st' && dstOK o st') = true := by rw [ag.noLink, dstOK_same ag.n]; exact h0
 have h1n : (Cfg.mix && isMix P o st') = true := by rw [isMix_same ag.x ag.refs]; exact h1
 have h0n' := h0n
 simp only [Bool.and_eq_true] at h0n'
 obtain ⟨s2, g1, g2⟩ := again st' ag pr
 refine ⟨_, ?_, ?_, g2⟩
 ·rw [stpM_mix h0n'.1 h1n, g1]; rfl
 ·have e := ag.same
  rw [fpK_mix h0n h1n, mixN_same ag.x ag.refs, refsO_same ag.x, e]
theorem mixNew_is {s e z : Nat} {xs : List (List Pd)} {ns : List Nm} (hd : o.dst = some s) (hs : s < st.T.n) (hz : st.T.n ≤ st.L.length) (hg : goodNs (.loc s) ns = true) :
 mixNew st s e z xs ns pr = some (.arr (.loc s), St.fresh { st with L := rmAll ns st.L } s (.marr e z xs none)) ∧ Is ⟨.arr (.loc s), [.loc s], noneN ns ++ [(.loc s, .marr e z xs none)], []⟩ o st ((St.fresh { st with L := rmAll ns st.L } s (.marr e z xs none)).put o.dst (.arr (.loc s))) := by
 obtain ⟨k1, k2, k3, k4⟩ := goodNs_get hg
 refine ⟨?_, fresh_is (L := rmAll ns st.L) (up := noneN ns) hs hz hd rfl (rmAll_len ns st.L) fun m => rm_scrub k2 _ m⟩
 unfold mixNew
 rw [if_pos hg]
 rfl
theorem noneN_ok {ns : List Nm} {q : Nm × Ob} (h : q ∈ noneN ns) : q.1 ∈ ns ∧ q.2 = .none := by
 obtain ⟨n, q1, rfl⟩ := List.mem_map.1 h
 exact ⟨q1, rfl⟩
theorem mentDs_inv {m : Nm} : ∀ {ds : List Dv}, mentDs m ds = true → ∃ d ∈ ds, mentD m d = true
 | d :: ds, h => by
  simp only [mentDs, Bool.or_eq_true] at h
  rcases h with h | h
  ·exact ⟨d, List.mem_cons_self .., h⟩
  ·obtain ⟨x, q1, q2⟩ := mentDs_inv h
   exact ⟨x, List.mem_cons_of_mem _ q1, q2⟩
theorem dst_lt {s : Nat} (h : dstOK o st = true) (hd : o.dst = some s) : s < st.T.n := by
 unfold dstOK at h
 rw [hd] at h
 simpa [blt_eq] using h
theorem loc_mixBuild {call : CallF} {t : TypeId} {len : Nat} {ps : Array (Nat × Operand)} (ho : o.op = .buildSlice t len ps) (h0 : (noLink P o st && dstOK o st) = true) (h1 : (Cfg.mix && isMix P o st) = true) (hp : PreS o st) (h : stpM call P o st = some st1) :
 Loc call P o (mkFp P o st (mixN P o st ++ refsO P o st) (mixN P o st)) st st1 := by
 have h0' := h0
 simp only [Bool.and_eq_true] at h0'
 rw [stpM_mix h0'.1 h1] at h
 obtain ⟨q, g1, g2⟩ := Option.map_eq_some_iff.1 h
 have inOp : ∀ {m : Nm} {e : TypeId}, mentDs m (ps.toList.map fun q => opd P st e q.2) = true → m ∈ refsO P o st := fun {m e} hm => by
  obtain ⟨d, q1, q2⟩ := mentDs_inv hm
  obtain ⟨q, q3, rfl⟩ := List.mem_map.1 q1
  refine refsO_mem (x := q.2) ?_ q2
  have hq' : q ∈ ps := by simpa using q3
  rw [ho]
  simp only [Op.operands, Array.toList_map, List.mem_map]
  exact ⟨q, by simpa using hq', rfl⟩
 unfold mixOp at g1
 rw [ho] at g1
 dsimp only at g1
 split at g1
 ·rename_i e s he hd
  split at g1
  ·cases g1
  ·rename_i c1
   split at g1
   ·rename_i c2
    split at g1
    ·rename_i c3
     rw [packEsK_eq] at g1
     split at g1
     ·rename_i xs ns hpk
      have hmix : mixN P o st = [.loc s] := by unfold mixN; rw [ho, hd]
      unfold mixNew at g1
      split at g1
      ·rename_i hg
       injection g1 with g1; subst g1
       have new := fun (st0 : St) (k1 : s < st0.T.n) (k2 : st0.T.n ≤ st0.L.length) => mixNew_is (o := o) (st := st0) (e := e) (z := P.cellsOf e) (xs := xs) hd k1 k2 hg
       subst g2
       refine locM (u := ⟨.arr (.loc s), [.loc s], noneN ns ++ [(.loc s, .marr e (P.cellsOf e) xs none)], []⟩) h0 h1 rfl hmix.symm (fun q hq => ?_) (fun m hm => ?_) (fun q hq m hm => ?_) (new st (dst_lt h0'.2 hd) hp.sz).2 fun st' ag pr => ?_
       ·rcases List.mem_append.1 hq with hq | hq
        ·exact .inr (inOp (packEs_ns _ hpk _ (noneN_ok hq).1))
        ·rw [List.mem_singleton.1 hq, hmix]; exact .inl (by simp)
       ·simp only [mentD, decide_eq_true_eq] at hm
        rw [← hm, hmix]; exact .inl (by simp)
       ·rcases List.mem_append.1 hq with hq | hq
        ·rw [(noneN_ok hq).2] at hm; cases hm
        ·rw [List.mem_singleton.1 hq] at hm; cases hm
       ·have hps := build_ops (P := P) ho (Ag.x (P := P) ag) e
        have hn := new st' (by rw [ag.n]; exact dst_lt h0'.2 hd) pr.sz
        refine ⟨_, ?_, hn.2⟩
        unfold mixOp
        rw [ho]
        simp only [he, hd]
        rw [if_neg c1, if_pos c2, hps, if_pos c3, packEsK_eq, packEs_ag _ fun d hd m hm => ag.refs m (inOp (mentDs_of_mem hd hm)), hpk]
        exact hn.1
      ·cases g1
     ·cases g1
    ·cases g1
   ·cases g1
 ·cases g1
theorem two_up (a b : Nm × Ob) : ([a, b] : List (Nm × Ob)) = [a] ++ [b] := rfl
theorem unp_is {m : Nm} {s : Nat} {ob1 ob2 : Ob} {v : Dv} (hd : o.dst = some s) (hs : s < st.T.n) (hz : st.T.n ≤ st.L.length) (hne : m ≠ .loc s) (hm : getOb st.L st.O m ≠ .none) :
 Is ⟨v, [.loc s], [(m, ob1), (.loc s, ob2)], []⟩ o st ((⟨st.T.map (scrub (.loc s)), setL (setL (st.L.map (scrubOb (.loc s))) m ob1) (.loc s) ob2, setO (st.O.map (scrubOb (.loc s))) m ob1⟩ : St).put o.dst v) := by
 have h1 := put_LO (⟨st.T.map (scrub (.loc s)), setL (setL (st.L.map (scrubOb (.loc s))) m ob1) (.loc s) ob2, setO (st.O.map (scrubOb (.loc s))) m ob1⟩ : St) o.dst v
 have hlen := setLO_len (st.L.map (scrubOb (.loc s))) (st.O.map (scrubOb (.loc s))) m ob1
 refine ⟨by cases o.dst <;> rfl, fun t => ?_, by rw [h1.1]; show ((setL (st.L.map (scrubOb (.loc s))) m ob1).set s ob2).length = _; rw [List.length_set, hlen.1, List.length_map]; rfl, by rw [h1.2, hlen.2]; simp, fun m' _ => ?_, fun i hi => by cases hi⟩
 ·rw [hd]
  show ((st.T.map (scrub (.loc s))).set s v).getD t ud = _
  rw [Tm.getD_set]
  by_cases e : s = t
  ·subst e
   rw [if_pos rfl, if_pos (show s < (st.T.map (scrub (.loc s))).n from hs), if_pos ⟨rfl, hs⟩]
  ·rw [if_neg e, if_neg fun q => e (by injection q.1), Tm.getD_map rfl]
   rfl
 ·rw [h1.1, h1.2]
  show getOb (setL (setL (st.L.map (scrubOb (.loc s))) m ob1) (.loc s) ob2) (setO (st.O.map (scrubOb (.loc s))) m ob1) m' = _
  have hOO : setO (st.O.map (scrubOb (.loc s))) m ob1 = setO (setO (st.O.map (scrubOb (.loc s))) m ob1) (.loc s) ob2 := rfl
  by_cases e1 : m' = .loc s
  ·subst e1
   have : upGet [(m, ob1), (.loc s, ob2)] (.loc s) = some ob2 := by rw [two_up, upGet_snoc, if_pos rfl]
   rw [this]
   show (((setL (st.L.map (scrubOb (.loc s))) m ob1)).set s ob2).getD s .none = ob2
   rw [List.getD_eq_getElem?_getD, List.getElem?_set_self (by rw [hlen.1, List.length_map]; omega)]
   rfl
  ·rw [hOO, getOb_ne _ _ e1]
   by_cases e2 : m' = m
   ·subst e2
    have : upGet [(m', ob1), (.loc s, ob2)] m' = some ob1 := by rw [two_up, upGet_snoc, if_neg fun q => e1 q.symm]; simp [upGet]
    rw [this]
    exact getOb_self _ _ (by rw [getOb_map _ _ (scrubOb_none _)]; exact fun q => hm (scrubOb_eq_none q)) _
   ·have : upGet [(m, ob1), (.loc s, ob2)] m' = none := by
     rw [two_up, upGet_snoc, if_neg fun q => e1 q.symm]
     simp only [upGet]
     rw [if_neg fun q => e2 q.symm]
    rw [this, getOb_ne _ _ e2, getOb_map _ _ (scrubOb_none _)]
    rfl
theorem loc_mixLoad {call : CallF} {t : TypeId} {a : Operand} (ho : o.op = .load t a) (h0 : (noLink P o st && dstOK o st) = true) (h1 : (Cfg.mix && isMix P o st) = true) (hp : PreS o st) (h : stpM call P o st = some st1) :
 Loc call P o (mkFp P o st (mixN P o st ++ refsO P o st) (mixN P o st)) st st1 := by
 have h0' := h0
 simp only [Bool.and_eq_true] at h0'
 rw [stpM_mix h0'.1 h1] at h
 obtain ⟨q, g1, g2⟩ := Option.map_eq_some_iff.1 h
 have hao : a ∈ o.op.operands.toList := by rw [ho]; simp [Op.operands]
 unfold mixOp at g1
 rw [ho] at g1
 dsimp only at g1
 split at g1
 ·rename_i m j z off s hx hd
  have hmr : m ∈ refsO P o st := refsO_mem (t := 0) hao (by rw [hx]; simp [mentD])
  have hmix : mixN P o st = [.loc s] := by unfold mixN; rw [ho, hd]
  unfold mixLoad at g1
  split at g1
  ·rename_i e' e z' es hu hm
   split at g1
   ·rename_i hc
    obtain ⟨es', g3, g4⟩ := Option.bind_eq_some_iff.1 g1
    injection g4 with g4; subst g4
    have is := fun (st0 : St) (k1 : s < st0.T.n) (k2 : st0.T.n ≤ st0.L.length) (k3 : getOb st0.L st0.O m = .marr e z' es none) =>
     unp_is (o := o) (v := .arr (.loc s)) (st := st0) (ob1 := .marr e z (setCs es j z off 1 [.undef]) (some (j, off, .loc s))) (ob2 := .marr e' (P.cellsOf e') es' none) hd k1 k2 hc.2.2.2.1 (by rw [k3]; exact fun q => by cases q)
    subst g2
    refine locM (u := ⟨.arr (.loc s), [.loc s], [(m, .marr e z (setCs es j z off 1 [.undef]) (some (j, off, .loc s))), (.loc s, .marr e' (P.cellsOf e') es' none)], []⟩) h0 h1 rfl hmix.symm (fun q hq => ?_) (fun n hn => ?_) (fun q hq n hn => ?_) (is st (dst_lt h0'.2 hd) hp.sz hm) fun st' ag pr => ?_
    ·rcases List.mem_cons.1 hq with hq | hq
     ·subst hq; exact .inr hmr
     ·rw [List.mem_singleton.1 hq, hmix]; exact .inl (by simp)
    ·simp only [mentD, decide_eq_true_eq] at hn
     rw [← hn, hmix]; exact .inl (by simp)
    ·rcases List.mem_cons.1 hq with hq | hq
     ·subst hq
      simp only [mentOb, decide_eq_true_eq] at hn
      rw [← hn, hmix]; exact .inl (by simp)
     ·rw [List.mem_singleton.1 hq] at hn; cases hn
    ·have hm' : getOb st'.L st'.O m = .marr e z' es none := (ag.refs m hmr).trans hm
     have hx' : opd P st' 0 a = .el m j z off := (Ag.x (P := P) ag a hao 0).trans hx
     refine ⟨_, ?_, is st' (by rw [ag.n]; exact dst_lt h0'.2 hd) pr.sz hm'⟩
     unfold mixOp
     rw [ho]
     simp only [hx', hd]
     unfold mixLoad
     simp only [hu, hm']
     rw [if_pos hc, g3]
     rfl
   ·cases g1
  ·cases g1
 ·cases g1
theorem loc_mixStore {call : CallF} {t : TypeId} {a v : Operand} (ho : o.op = .store t a v) (h0 : (noLink P o st && dstOK o st) = true) (h1 : (Cfg.mix && isMix P o st) = true) (hp : PreS o st) (h : stpM call P o st = some st1) :
 Loc call P o (mkFp P o st (mixN P o st ++ refsO P o st) (mixN P o st)) st st1 := by
 have h0' := h0
 simp only [Bool.and_eq_true] at h0'
 rw [stpM_mix h0'.1 h1] at h
 obtain ⟨q, g1, g2⟩ := Option.map_eq_some_iff.1 h
 have hao : a ∈ o.op.operands.toList := by rw [ho]; simp [Op.operands]
 have hvo : v ∈ o.op.operands.toList := by rw [ho]; simp [Op.operands]
 have hmix : mixN P o st = [] := by unfold mixN; rw [ho]
 unfold mixOp at g1
 rw [ho] at g1
 dsimp only at g1
 split at g1
 ·rename_i m j z off hx
  have hmr : m ∈ refsO P o st := refsO_mem (t := 0) hao (by rw [hx]; simp [mentD])
  split at g1
  ·cases g1
  rename_i hz
  rw [mixStore_bind] at g1
  obtain ⟨st2, g3, g4⟩ := Option.bind_eq_some_iff.1 g1
  injection g4 with g4; subst g4
  have run : ∀ st0 : St, opd P st0 0 a = .el m j z off → mixOp P o st0 pr = (mixStore P st0 t m j z off (opd P st0 t v) some).bind fun st' => pr ud st' := fun st0 k0 => by
   unfold mixOp
   rw [ho]
   simp only [k0]
   rw [if_neg hz, mixStore_bind]
  have fin : ∀ (up : List (Nm × Ob)), (∀ q ∈ up, q.1 ∈ refsO P o st ∧ ∀ n, mentOb n q.2 = true → n ∈ refsO P o st) → Is ⟨ud, [], up, []⟩ o st (st2.put o.dst ud) →
   (∀ st', Ag o (mkFp P o st (mixN P o st ++ refsO P o st) (mixN P o st)) st st' → ∃ s2, mixStore P st' t m j z off (opd P st' t v) some = some s2 ∧ Is ⟨ud, [], up, []⟩ o st' (s2.put o.dst ud)) → Loc call P o (mkFp P o st (mixN P o st ++ refsO P o st) (mixN P o st)) st st1 := by
   intro up k1 k2 k3
   subst g2
   refine locM (u := ⟨ud, [], up, []⟩) h0 h1 rfl hmix.symm (fun q hq => .inr (k1 q hq).1) (fun n hn => by cases hn) (fun q hq n hn => .inr ((k1 q hq).2 n hn)) k2 fun st' ag pr' => ?_
   obtain ⟨s2, e1, e2⟩ := k3 st' ag
   exact ⟨s2, by rw [run st' ((Ag.x (P := P) ag a hao 0).trans hx), e1]; rfl, e2⟩
  unfold mixStore at g3
  split at g3
  case isFalse => cases g3
  rename_i hn
  split at g3
  ·rename_i e z' es hm
   split at g3
   case isFalse => cases g3
   rename_i hc
   have hml : ∀ {st0 : St}, getOb st0.L st0.O m = .marr e z' es none → getOb st0.L st0.O m ≠ .none := fun k => by rw [k]; exact fun q => by cases q
   split at g3
   ·rename_i n hy
    split at g3
    ·rename_i e1 s1 hrt
     split at g3
     ·rename_i hg
      injection g3 with g3; subst g3
      have hnr : n ∈ refsO P o st := refsO_mem (t := t) hvo (by rw [hy]; simp [mentD])
      have is : ∀ st0 : St, getOb st0.L st0.O m = .marr e z' es none → Is ⟨ud, [], [(m, .marr e z (setCs es j z off 1 [.undef]) (some (j, off, n)))], []⟩ o st0 ((⟨st0.T, setL st0.L m (.marr e z (setCs es j z off 1 [.undef]) (some (j, off, n))), setO st0.O m (.marr e z (setCs es j z off 1 [.undef]) (some (j, off, n)))⟩ : St).put o.dst ud) := fun st0 k0 => by
       have hlen := setLO_len st0.L st0.O m (.marr e z (setCs es j z off 1 [.undef]) (some (j, off, n)))
       refine is_put _ _ hlen.1 hlen.2 fun m' => ?_
       by_cases e0 : m = m'
       ·subst e0
        rw [getOb_self _ _ (hml k0)]
        simp [upGet]
       ·rw [getOb_ne _ _ fun q => e0 q.symm]
        simp [upGet, e0]
      refine fin _ (fun q hq => ?_) (is st hm) fun st' ag => ?_
      ·rw [List.mem_singleton.1 hq]
       refine ⟨hmr, fun k hk => ?_⟩
       simp only [mentOb, decide_eq_true_eq] at hk
       rw [← hk]; exact hnr
      ·have hm' : getOb st'.L st'.O m = .marr e z' es none := (ag.refs m hmr).trans hm
       have hn' : getOb st'.L st'.O n = getOb st.L st.O n := ag.refs n hnr
       have hv' := Ag.x (P := P) ag v hvo t
       refine ⟨_, ?_, is st' hm'⟩
       unfold mixStore
       rw [hv', if_pos hn]
       simp only [hm']
       rw [if_pos hc]
       simp only [hy, hrt]
       rw [hn', if_pos hg]
     ·cases g3
    ·cases g3
   ·rename_i hnarr
    rw [packVK_eq] at g3
    split at g3
    ·rename_i xs ns hpk
     split at g3
     ·rename_i hg
      injection g3 with g3; subst g3
      obtain ⟨k2, k3, k4⟩ := mixNs_get hg
      have is : ∀ st0 : St, getOb st0.L st0.O m = .marr e z' es none → Is ⟨ud, [], noneN ns ++ [(m, .marr e z (setCs es j z off (P.cellsOf t) xs) none)], []⟩ o st0 ((⟨st0.T, setL (rmAll ns st0.L) m (.marr e z (setCs es j z off (P.cellsOf t) xs) none), setO st0.O m (.marr e z (setCs es j z off (P.cellsOf t) xs) none)⟩ : St).put o.dst ud) := fun st0 k0 => by
       have hlen := setLO_len (rmAll ns st0.L) st0.O m (.marr e z (setCs es j z off (P.cellsOf t) xs) none)
       refine is_put _ _ (hlen.1.trans (rmAll_len ns st0.L)) hlen.2 fun m' => ?_
       rw [upGet_snoc]
       by_cases e0 : m = m'
       ·subst e0
        rw [if_pos rfl, getOb_self _ _ (by rw [getOb_rmAll ns _ _ k2, if_neg k4]; exact hml k0)]
        rfl
       ·rw [if_neg e0, getOb_ne _ _ fun q => e0 q.symm, getOb_rmAll ns _ _ k2, noneN_get]
        split <;> rfl
      refine fin _ (fun q hq => ?_) (is st hm) fun st' ag => ?_
      ·rcases List.mem_append.1 hq with hq | hq
       ·exact ⟨refsO_mem hvo (packV_ns hpk _ (noneN_ok hq).1), fun k hk => by rw [(noneN_ok hq).2] at hk; cases hk⟩
       ·rw [List.mem_singleton.1 hq]
        exact ⟨hmr, fun k hk => by cases hk⟩
      ·have hm' : getOb st'.L st'.O m = .marr e z' es none := (ag.refs m hmr).trans hm
       have hv' := Ag.x (P := P) ag v hvo t
       refine ⟨_, ?_, is st' hm'⟩
       unfold mixStore
       rw [hv', if_pos hn]
       simp only [hm']
       rw [if_pos hc]
       have key : packVK true P st'.L st'.O t (opd P st t v) (fun xs ns => if (ns.all isLoc && (nodupN ns && !ns.contains m)) = true then some (⟨st'.T, setL (rmAll ns st'.L) m (.marr e z (setCs es j z off (P.cellsOf t) xs) none), setO st'.O m (.marr e z (setCs es j z off (P.cellsOf t) xs) none)⟩ : St) else none) =
        some ⟨st'.T, setL (rmAll ns st'.L) m (.marr e z (setCs es j z off (P.cellsOf t) xs) none), setO st'.O m (.marr e z (setCs es j z off (P.cellsOf t) xs) none)⟩ := by
        rw [packVK_eq, packV_ag fun k hk => ag.refs k (refsO_mem hvo hk), hpk]
        dsimp only
        rw [if_pos hg]
       cases hdv : opd P st t v
       case arr n => exact absurd hdv (hnarr n)
       all_goals (rw [hdv] at key; exact key)
     ·cases g3
    ·cases g3
  ·cases g3
 ·cases g1
theorem loc_mixMake {call : CallF} {t : TypeId} {l c : Operand} (ho : o.op = .makeSlice t l c) (h0 : (noLink P o st && dstOK o st) = true) (h1 : (Cfg.mix && isMix P o st) = true) (hp : PreS o st) (h : stpM call P o st = some st1) :
 Loc call P o (mkFp P o st (mixN P o st ++ refsO P o st) (mixN P o st)) st st1 := by
 have h0' := h0
 simp only [Bool.and_eq_true] at h0'
 rw [stpM_mix h0'.1 h1] at h
 obtain ⟨q, g1, g2⟩ := Option.map_eq_some_iff.1 h
 have hlo : l ∈ o.op.operands.toList := by rw [ho]; simp [Op.operands]
 have hco : c ∈ o.op.operands.toList := by rw [ho]; simp [Op.operands]
 unfold mixOp at g1
 rw [ho] at g1
 dsimp only at g1
 split at g1
 ·rename_i e s n m he hd hl hc
  have hmix : mixN P o st = [.loc s] := by unfold mixN; rw [ho, hd]
  split at g1
  ·cases g1
  ·rename_i c1
   split at g1
   ·rename_i c2
    split at g1
    ·rename_i zs hzs
     split at g1
     ·cases g1
     ·rename_i c3
      split at g1
      ·rename_i xs hpk
       unfold mixNew at g1
       split at g1
       ·rename_i hg
        injection g1 with g1; subst g1
        have new := fun (st0 : St) (k1 : s < st0.T.n) (k2 : st0.T.n ≤ st0.L.length) => mixNew_is (o := o) (st := st0) (e := e) (z := P.cellsOf e) (xs := List.replicate n.toNat xs) hd k1 k2 hg
        subst g2
        refine locM (u := ⟨.arr (.loc s), [.loc s], noneN [] ++ [(.loc s, .marr e (P.cellsOf e) (List.replicate n.toNat xs) none)], []⟩) h0 h1 rfl hmix.symm (fun q hq => ?_) (fun m hm => ?_) (fun q hq m hm => ?_) (new st (dst_lt h0'.2 hd) hp.sz).2 fun st' ag pr => ?_
        ·rcases List.mem_append.1 hq with hq | hq
         ·cases hq
         ·rw [List.mem_singleton.1 hq, hmix]; exact .inl (by simp)
        ·simp only [mentD, decide_eq_true_eq] at hm
         rw [← hm, hmix]; exact .inl (by simp)
        ·rcases List.mem_append.1 hq with hq | hq
         ·cases hq
         ·rw [List.mem_singleton.1 hq] at hm; cases hm
        ·have hn := new st' (by rw [ag.n]; exact dst_lt h0'.2 hd) pr.sz
         have hl' := (Ag.x (P := P) ag l hlo 0).trans hl
         have hc' := (Ag.x (P := P) ag c hco 0).trans hc
         have hpk' : packs true st'.L st'.O (rowTs P 8 e) zs = some (xs, []) := by
          rw [packs_ag (L := st.L) (O := st.O) _ _ fun d hd m hm => by
           have := zeroD_ment (P := P) (m := m) hzs
           rw [mentDs_iff] at this
           rw [this d hd] at hm; cases hm]
          exact hpk
         refine ⟨_, ?_, hn.2⟩
         unfold mixOp
         rw [ho]
         simp only [he, hd, hl', hc']
         rw [if_neg c1, if_pos c2]
         simp only [hzs]
         rw [if_neg c3]
         simp only [hpk']
         exact hn.1
       ·cases g1
      ·cases g1
    ·cases g1
   ·cases g1
 ·cases g1
theorem loc_mixApp {call : CallF} {c : Call} (ho : o.op = .call c) (h0 : (noLink P o st && dstOK o st) = true) (h1 : (Cfg.mix && isMix P o st) = true) (hp : PreS o st) (h : stpM call P o st = some st1) :
 Loc call P o (mkFp P o st (mixN P o st ++ refsO P o st) (mixN P o st)) st st1 := by
 have h0' := h0
 simp only [Bool.and_eq_true] at h0'
 rw [stpM_mix h0'.1 h1] at h
 obtain ⟨q, g1, g2⟩ := Option.map_eq_some_iff.1 h
 unfold mixOp at g1
 rw [ho] at g1
 dsimp only at g1
 split at g1
 case h_2 => cases g1
 rename_i x y t t' s hargs hts hd
 split at g1
 case isFalse => cases g1
 rename_i htt
 have hxo : x ∈ o.op.operands.toList := args_mem ho (by rw [hargs]; simp)
 have hyo : y ∈ o.op.operands.toList := args_mem ho (by rw [hargs]; simp)
 have run : ∀ st0 : St, mixOp P o st0 pr = mixAppend P st0 s t (opd P st0 t x) (opd P st0 t y) pr := fun st0 => by
  unfold mixOp
  rw [ho]
  simp only [hargs, hts, hd]
  rw [if_pos htt]
 have hmN : mixN P o st = match opd P st t x with | .arr m => [m] | _ => [.loc s] := by
  unfold mixN
  rw [ho, hd]
  dsimp only
  rw [hargs, hts]
  show (match opd P st t x :: opds P st [y] [t'] with | .arr m :: _ => [m] | _ => [.loc s]) = _
  cases opd P st t x <;> rfl
 unfold mixAppend at g1
 split at g1
 case h_2 => cases g1
 rename_i e he
 split at g1
 ·cases g1
 rename_i c1
 split at g1
 ·rename_i z hx
  have hmix : mixN P o st = [.loc s] := by rw [hmN, hx]
  rw [moveYK_eq] at g1
  split at g1
  ·rename_i ys ns hmv
   split at g1
   ·rename_i c2
    unfold mixNew at g1
    split at g1
    ·rename_i hg
     injection g1 with g1; subst g1
     have new := fun (st0 : St) (k1 : s < st0.T.n) (k2 : st0.T.n ≤ st0.L.length) => mixNew_is (o := o) (st := st0) (e := e) (z := P.cellsOf e) (xs := ys) hd k1 k2 hg
     subst g2
     refine locM (u := ⟨.arr (.loc s), [.loc s], noneN ns ++ [(.loc s, .marr e (P.cellsOf e) ys none)], []⟩) h0 h1 rfl hmix.symm (fun q hq => ?_) (fun m hm => ?_) (fun q hq m hm => ?_) (new st (dst_lt h0'.2 hd) hp.sz).2 fun st' ag pr => ?_
     ·rcases List.mem_append.1 hq with hq | hq
      ·exact .inr (refsO_mem hyo (moveY_ns hmv _ (noneN_ok hq).1))
      ·rw [List.mem_singleton.1 hq, hmix]; exact .inl (by simp)
     ·simp only [mentD, decide_eq_true_eq] at hm
      rw [← hm, hmix]; exact .inl (by simp)
     ·rcases List.mem_append.1 hq with hq | hq
      ·rw [(noneN_ok hq).2] at hm; cases hm
      ·rw [List.mem_singleton.1 hq] at hm; cases hm
     ·have hn := new st' (by rw [ag.n]; exact dst_lt h0'.2 hd) pr.sz
      have hx' := (Ag.x (P := P) ag x hxo t).trans hx
      have hy' := Ag.x (P := P) ag y hyo t
      refine ⟨_, ?_, hn.2⟩
      rw [run]
      unfold mixAppend
      simp only [he, hx', hy']
      rw [if_neg c1, moveYK_eq, moveY_ag fun k hk => ag.refs k (refsO_mem hyo hk), hmv]
      dsimp only
      rw [if_pos c2]
      exact hn.1
    ·cases g1
   ·cases g1
  ·cases g1
 ·rename_i m hx
  have hmr : m ∈ refsO P o st := refsO_mem (t := t) hxo (by rw [hx]; simp [mentD])
  have hmix : mixN P o st = [m] := by rw [hmN, hx]
  split at g1
  ·rename_i e' s' es hm
   split at g1
   case isFalse => cases g1
   rename_i c2
   rw [moveYK_eq] at g1
   split at g1
   ·rename_i ys ns hmv
    split at g1
    ·rename_i hg
     split at g1
     ·rename_i c3
      injection g1 with g1; subst g1
      obtain ⟨k2, k3, k4⟩ := mixNs_get hg
      have is : ∀ st0 : St, getOb st0.L st0.O m = .marr e' s' es none → Is ⟨.arr m, [m], noneN ns ++ [(m, .marr e (P.cellsOf e) (es ++ ys) none)], []⟩ o st0 ((⟨st0.T.map (scrub m), setL ((rmAll ns st0.L).map (scrubOb m)) m (.marr e (P.cellsOf e) (es ++ ys) none), setO (st0.O.map (scrubOb m)) m (.marr e (P.cellsOf e) (es ++ ys) none)⟩ : St).put o.dst (.arr m)) := fun st0 k0 =>
       scr_is (st := st0) (L := rmAll ns st0.L) (up := noneN ns) (rmAll_len ns st0.L) (fun m' => rm_scrub k2 _ m') (by rw [rm_scrub k2, noneN_get, if_neg k4, k0]; exact fun q => by cases q)
      subst g2
      refine locM (u := ⟨.arr m, [m], noneN ns ++ [(m, .marr e (P.cellsOf e) (es ++ ys) none)], []⟩) h0 h1 rfl hmix.symm (fun q hq => ?_) (fun k hk => ?_) (fun q hq k hk => ?_) (is st hm) fun st' ag pr => ?_
      ·rcases List.mem_append.1 hq with hq | hq
       ·exact .inr (refsO_mem hyo (moveY_ns hmv _ (noneN_ok hq).1))
       ·rw [List.mem_singleton.1 hq, hmix]; exact .inl (by simp)
      ·simp only [mentD, decide_eq_true_eq] at hk
       rw [← hk, hmix]; exact .inl (by simp)
      ·rcases List.mem_append.1 hq with hq | hq
       ·rw [(noneN_ok hq).2] at hk; cases hk
       ·rw [List.mem_singleton.1 hq] at hk; cases hk
      ·have hm' : getOb st'.L st'.O m = .marr e' s' es none := (ag.refs m hmr).trans hm
       have hx' := (Ag.x (P := P) ag x hxo t).trans hx
       have hy' := Ag.x (P := P) ag y hyo t
       refine ⟨_, ?_, is st' hm'⟩
       rw [run]
       unfold mixAppend
       simp only [he, hx', hy']
       rw [if_neg c1]
       simp only [hm']
       rw [if_pos c2, moveYK_eq, moveY_ag fun k hk => ag.refs k (refsO_mem hyo hk), hmv]
       dsimp only
       rw [if_pos hg, if_pos c3]
       rfl
     ·cases g1
    ·cases g1
   ·cases g1
  ·cases g1
 ·cases g1
theorem loc_mixMap {call : CallF} {t : TypeId} {r : Option Operand} (ho : o.op = .makeMap t r) (h0 : (noLink P o st && dstOK o st) = true) (h1 : (Cfg.mix && isMix P o st) = true) (hp : PreS o st) (h : stpM call P o st = some st1) :
 Loc call P o (mkFp P o st (mixN P o st ++ refsO P o st) (mixN P o st)) st st1 := by
 have h0' := h0
 simp only [Bool.and_eq_true] at h0'
 rw [stpM_mix h0'.1 h1] at h
 obtain ⟨q, g1, g2⟩ := Option.map_eq_some_iff.1 h
 unfold mixOp at g1
 rw [ho] at g1
 dsimp only at g1
 split at g1
 ·rename_i et s het hd
  have hmix : mixN P o st = [.loc s] := by unfold mixN; rw [ho, hd]
  split at g1
  ·rename_i e hu
   split at g1
   ·cases g1
   ·rename_i c1
    injection g1 with g1; subst g1
    have is := fun (st0 : St) (k1 : s < st0.T.n) (k2 : st0.T.n ≤ st0.L.length) => fresh_is (o := o) (st := st0) (v := .mp (.loc s)) (ob := .gmap e (P.cellsOf e) [] none) (L := st0.L) (up := []) k1 k2 hd rfl rfl fun m => by rw [getOb_map _ _ (scrubOb_none _)]; rfl
    subst g2
    refine locM (u := ⟨.mp (.loc s), [.loc s], [] ++ [(.loc s, .gmap e (P.cellsOf e) [] none)], []⟩) h0 h1 rfl hmix.symm (fun q hq => ?_) (fun m hm => ?_) (fun q hq m hm => ?_) (is st (dst_lt h0'.2 hd) hp.sz) fun st' ag pr => ?_
    ·rw [List.nil_append] at hq
     rw [List.mem_singleton.1 hq, hmix]; exact .inl (by simp)
    ·simp only [mentD, decide_eq_true_eq] at hm
     rw [← hm, hmix]; exact .inl (by simp)
    ·rw [List.nil_append] at hq
     rw [List.mem_singleton.1 hq] at hm; cases hm
    ·refine ⟨_, ?_, is st' (by rw [ag.n]; exact dst_lt h0'.2 hd) pr.sz⟩
     unfold mixOp
     rw [ho]
     simp only [het, hd, hu]
     rw [if_neg c1]
     rfl
  ·cases g1
 ·cases g1
theorem withOk_ment {m : Nm} {ok b : Bool} {d : Dv} : mentD m (withOk ok d b) = mentD m d := by
 cases ok
 ·rfl
 ·simp [withOk, mentD, mentDs]
theorem loc_mixLook {call : CallF} {t : TypeId} {x y : Operand} {ok : Bool} (ho : o.op = .lookup t x y ok) (h0 : (noLink P o st && dstOK o st) = true) (h1 : (Cfg.mix && isMix P o st) = true) (hp : PreS o st) (h : stpM call P o st = some st1) :
 Loc call P o (mkFp P o st (mixN P o st ++ refsO P o st) (mixN P o st)) st st1 := by
 have h0' := h0
 simp only [Bool.and_eq_true] at h0'
 rw [stpM_mix h0'.1 h1] at h
 obtain ⟨q, g1, g2⟩ := Option.map_eq_some_iff.1 h
 have hxo : x ∈ o.op.operands.toList := by rw [ho]; simp [Op.operands]
 have hyo : y ∈ o.op.operands.toList := by rw [ho]; simp [Op.operands]
 unfold mixOp at g1
 rw [ho] at g1
 dsimp only at g1
 split at g1
 case h_2 => cases g1
 rename_i et m key s het hx hy hd
 have hmr : m ∈ refsO P o st := refsO_mem (t := t) hxo (by rw [hx]; simp [mentD])
 have run : ∀ st0 : St, opd P st0 t x = .mp m → opd P st0 0 y = .p (.str key) → mixOp P o st0 pr = mixLook P st0 s et m key ok pr := fun st0 k1 k2 => by
  unfold mixOp
  rw [ho]
  simp only [k1, k2, het, hd]
 unfold mixLook at g1
 split at g1
 case h_2 => cases g1
 rename_i e' e z es hu hm
 split at g1
 case isFalse => cases g1
 rename_i hc
 have hmixN : mixN P o st = if Cfg.fr = true ∨ (findM es key).isNone = true then [] else [.loc s] := by
  unfold mixN
  rw [ho, hd]
  simp only [hx, hy, hm]
 have fin : ∀ (d : Dv) (up : List (Nm × Ob)) (sc : List Nm) (st2 : St → St), mixN P o st = sc → (∀ n, mentD n d = true → n ∈ sc ∨ n ∈ refsO P o st) → (∀ q ∈ up, (q.1 ∈ sc ∨ q.1 ∈ refsO P o st) ∧ ∀ n, mentOb n q.2 = true → n ∈ sc ∨ n ∈ refsO P o st) → q = (d, st2 st) →
  (∀ st0 : St, s < st0.T.n → st0.T.n ≤ st0.L.length → getOb st0.L st0.O m = .gmap e z es none → Is ⟨d, sc, up, []⟩ o st0 ((st2 st0).put o.dst d) ∧ mixLook P st0 s et m key ok pr = some (d, st2 st0)) →
  Loc call P o (mkFp P o st (mixN P o st ++ refsO P o st) (mixN P o st)) st st1 := by
  intro d up sc st2 k1 k2 k3 k4 k5
  subst k4
  subst g2
  subst k1
  refine locM (u := ⟨d, mixN P o st, up, []⟩) h0 h1 rfl rfl (fun q hq => (k3 q hq).1) k2 (fun q hq n hn => (k3 q hq).2 n hn) (k5 st (dst_lt h0'.2 hd) hp.sz hm).1 fun st' ag pr' => ?_
  have := k5 st' (by rw [ag.n]; exact dst_lt h0'.2 hd) pr'.sz ((ag.refs m hmr).trans hm)
  exact ⟨_, by rw [run st' ((Ag.x (P := P) ag x hxo t).trans hx) ((Ag.x (P := P) ag y hyo 0).trans hy)]; exact this.2, this.1⟩
 have look : ∀ st0 : St, getOb st0.L st0.O m = .gmap e z es none → mixLook P st0 s et m key ok pr = onM (findM es key) (if nilT P et = true then pr (withOk ok (.nilsl z) false) st0 else none) fun x =>
  (if Cfg.fr = true then (coldRow z x).bind fun rows => pr (withOk ok (.p (.sl z rows)) true) { st0 with L := setL st0.L m (.gmap e z (setM es key (.sl z rows)) none), O := setO st0.O m (.gmap e z (setM es key (.sl z rows)) none) }
  else (asOw e z x).bind fun rows => pr (withOk ok (.arr (.loc s)) true) (unpackG m (.loc s) e z (idxM es key) es e z rows st0)) := fun st0 k => by
  unfold mixLook
  simp only [hu, k]
  rw [if_pos hc]
 cases hf : findM es key with
 | none =>
  rw [hf] at g1
  simp only [onM] at g1
  split at g1
  ·rename_i hn
   injection g1 with g1
   refine fin (withOk ok (.nilsl z) false) [] [] (fun st0 => st0) (by rw [hmixN, hf]; simp) (fun n hn => by rw [withOk_ment] at hn; cases hn) (fun q hq => by cases hq) g1.symm fun st0 k1 k2 k3 => ⟨is_put st0.L st0.O rfl rfl fun m => rfl, ?_⟩
   rw [look st0 k3, hf]
   simp only [onM]
   rw [if_pos hn]
   rfl
  ·cases g1
 | some x' =>
  rw [hf] at g1
  simp only [onM] at g1
  split at g1
  ·rename_i hfr
   obtain ⟨rows, q1, q2⟩ := Option.bind_eq_some_iff.1 g1
   injection q2 with q2
   refine fin (withOk ok (.p (.sl z rows)) true) [(m, .gmap e z (setM es key (.sl z rows)) none)] [] (fun st0 => { st0 with L := setL st0.L m (.gmap e z (setM es key (.sl z rows)) none), O := setO st0.O m (.gmap e z (setM es key (.sl z rows)) none) }) (by rw [hmixN]; simp [hfr]) (fun n hn => by rw [withOk_ment] at hn; cases hn) (fun q hq => ?_) q2.symm fun st0 k1 k2 k3 => ⟨?_, ?_⟩
   ·rw [List.mem_singleton.1 hq]
    exact ⟨.inr hmr, fun n hn => by cases hn⟩
   ·have hlen := setLO_len st0.L st0.O m (.gmap e z (setM es key (.sl z rows)) none)
    refine is_put _ _ hlen.1 hlen.2 fun m' => ?_
    by_cases e0 : m = m'
    ·subst e0
     rw [getOb_self _ _ (by rw [k3]; exact fun q => by cases q)]
     simp [upGet]
    ·rw [getOb_ne _ _ fun q => e0 q.symm]
     simp [upGet, e0]
   ·rw [look st0 k3, hf]
    simp only [onM]
    rw [if_pos hfr, q1]
    rfl
  ·rename_i hfr
   obtain ⟨rows, q1, q2⟩ := Option.bind_eq_some_iff.1 g1
   injection q2 with q2
   refine fin (withOk ok (.arr (.loc s)) true) [(m, .gmap e z (setAt es (idxM es key) .undef) (some (idxM es key, .loc s))), (.loc s, .marr e z rows none)] [.loc s] (unpackG m (.loc s) e z (idxM es key) es e z rows) (by rw [hmixN, hf]; simp [hfr]) (fun n hn => ?_) (fun q hq => ?_) q2.symm fun st0 k1 k2 k3 => ⟨?_, ?_⟩
   ·rw [withOk_ment] at hn
    simp only [mentD, decide_eq_true_eq] at hn
    rw [← hn]; exact .inl (by simp)
   ·rcases List.mem_cons.1 hq with hq | hq
    ·subst hq
     refine ⟨.inr hmr, fun n hn => ?_⟩
     simp only [mentOb, decide_eq_true_eq] at hn
     rw [← hn]; exact .inl (by simp)
    ·rw [List.mem_singleton.1 hq]
     exact ⟨.inl (by simp), fun n hn => by cases hn⟩
   ·exact unp_is (o := o) (st := st0) hd k1 k2 hc.2.2.2 (by rw [k3]; exact fun q => by cases q)
   ·rw [look st0 k3, hf]
    simp only [onM]
    rw [if_neg hfr, q1]
    rfl
theorem loc_mixUpd {call : CallF} {t : TypeId} {x y z : Operand} (ho : o.op = .mapUpdate t x y z) (h0 : (noLink P o st && dstOK o st) = true) (h1 : (Cfg.mix && isMix P o st) = true) (hp : PreS o st) (h : stpM call P o st = some st1) :
 Loc call P o (mkFp P o st (mixN P o st ++ refsO P o st) (mixN P o st)) st st1 := by
 have h0' := h0
 simp only [Bool.and_eq_true] at h0'
 rw [stpM_mix h0'.1 h1] at h
 obtain ⟨q, g1, g2⟩ := Option.map_eq_some_iff.1 h
 have hxo : x ∈ o.op.operands.toList := by rw [ho]; simp [Op.operands]
 have hyo : y ∈ o.op.operands.toList := by rw [ho]; simp [Op.operands]
 have hzo : z ∈ o.op.operands.toList := by rw [ho]; simp [Op.operands]
 have hmix : mixN P o st = [] := by unfold mixN; rw [ho]
 unfold mixOp at g1
 rw [ho] at g1
 dsimp only at g1
 split at g1
 case h_2 => cases g1
 rename_i et het
 split at g1
 case h_2 => cases g1
 rename_i m key hx hy
 have hmr : m ∈ refsO P o st := refsO_mem (t := t) hxo (by rw [hx]; simp [mentD])
 rw [mixUpd_bind] at g1
 obtain ⟨st2, g3, g4⟩ := Option.bind_eq_some_iff.1 g1
 injection g4 with g4; subst g4
 have run : ∀ st0 : St, opd P st0 t x = .mp m → opd P st0 0 y = .p (.str key) → mixOp P o st0 pr = (mixUpd P st0 et m key (opd P st0 et z) some).bind fun st' => pr ud st' := fun st0 k1 k2 => by
  unfold mixOp
  rw [ho]
  simp only [k1, k2, het]
  rw [mixUpd_bind]
 unfold mixUpd at g3
 split at g3
 case h_2 => cases g3
 rename_i e' e zz es hu hm
 split at g3
 case isFalse => cases g3
 rename_i hc
 have fin : ∀ (u : Pd) (lk : Option (Nat × Nm)), (∀ j n, lk = some (j, n) → n ∈ refsO P o st) → st2 = { st with L := setL st.L m (.gmap e zz (setM es key u) lk), O := setO st.O m (.gmap e zz (setM es key u) lk) } →
  (∀ st' : St, getOb st'.L st'.O m = .gmap e zz es none → (∀ n, lk.map (·.2) = some n → getOb st'.L st'.O n = getOb st.L st.O n) → opd P st' et z = opd P st et z → mixUpd P st' et m key (opd P st' et z) some = some { st' with L := setL st'.L m (.gmap e zz (setM es key u) lk), O := setO st'.O m (.gmap e zz (setM es key u) lk) }) →
  Loc call P o (mkFp P o st (mixN P o st ++ refsO P o st) (mixN P o st)) st st1 := by
  intro u lk k1 k2 k3
  have is : ∀ st0 : St, getOb st0.L st0.O m = .gmap e zz es none → Is ⟨ud, [], [(m, .gmap e zz (setM es key u) lk)], []⟩ o st0 ((⟨st0.T, setL st0.L m (.gmap e zz (setM es key u) lk), setO st0.O m (.gmap e zz (setM es key u) lk)⟩ : St).put o.dst ud) := fun st0 k0 => by
   have hlen := setLO_len st0.L st0.O m (.gmap e zz (setM es key u) lk)
   refine is_put _ _ hlen.1 hlen.2 fun m' => ?_
   by_cases e0 : m = m'
   ·subst e0
    rw [getOb_self _ _ (by rw [k0]; exact fun q => by cases q)]
    simp [upGet]
   ·rw [getOb_ne _ _ fun q => e0 q.symm]
    simp [upGet, e0]
  subst k2
  subst g2
  refine locM (u := ⟨ud, [], [(m, .gmap e zz (setM es key u) lk)], []⟩) h0 h1 rfl hmix.symm (fun q hq => ?_) (fun n hn => by cases hn) (fun q hq n hn => ?_) (is st hm) fun st' ag pr' => ?_
  ·rw [List.mem_singleton.1 hq]; exact .inr hmr
  ·rw [List.mem_singleton.1 hq] at hn
   cases lk with
   | none => cases hn
   | some l =>
    obtain ⟨j, n'⟩ := l
    simp only [mentOb, decide_eq_true_eq] at hn
    rw [← hn]; exact .inr (k1 j n' rfl)
  ·have hm' : getOb st'.L st'.O m = .gmap e zz es none := (ag.refs m hmr).trans hm
   refine ⟨_, ?_, is st' hm'⟩
   rw [run st' ((Ag.x (P := P) ag x hxo t).trans hx) ((Ag.x (P := P) ag y hyo 0).trans hy), k3 st' hm' (fun n hn => ?_) (Ag.x (P := P) ag z hzo et)]
   ·rfl
   ·cases lk with
    | none => cases hn
    | some l =>
     obtain ⟨j, n'⟩ := l
     injection hn with hn; subst hn
     exact ag.refs _ (k1 j _ rfl)
 split at g3
 ·rename_i n hz
  split at g3
  ·rename_i hg
   injection g3 with g3
   refine fin .undef (some (idxM es key, n)) (fun j n' q => ?_) g3.symm fun st' k1 k2 k3 => ?_
   ·injection q with q; injection q with q1 q2; subst q2
    exact refsO_mem (t := et) hzo (by rw [hz]; simp [mentD])
   ·unfold mixUpd
    simp only [hu, k1, k3, hz]
    rw [if_pos hc, k2 n rfl, if_pos hg]
  ·cases g3
 ·rename_i z' rows hz
  split at g3
  ·rename_i hzz
   injection g3 with g3
   refine fin (.sl zz rows) none (fun j n' q => nomatch q) g3.symm fun st' k1 k2 k3 => ?_
   unfold mixUpd
   simp only [hu, k1, k3, hz]
   rw [if_pos hc, if_pos hzz]
  ·cases g3
 ·cases g3
theorem boxNs_ment {L O : List Ob} {m : Nm} : ∀ (ds : List Dv) (ns : List Nm), boxNs L O ds = some ns → m ∈ ns → ∃ d ∈ ds, mentD m d = true
 | [], ns, h, hm => by
  simp only [boxNs] at h
  injection h with h; subst h; cases hm
 | .p x :: ds, ns, h, hm => by
  simp only [boxNs] at h
  obtain ⟨d, q1, q2⟩ := boxNs_ment ds ns h hm
  exact ⟨d, List.mem_cons_of_mem _ q1, q2⟩
 | .nilsl s :: ds, ns, h, hm => by
  simp only [boxNs] at h
  obtain ⟨d, q1, q2⟩ := boxNs_ment ds ns h hm
  exact ⟨d, List.mem_cons_of_mem _ q1, q2⟩
 | .ptr m' off :: ds, ns, h, hm => by
  simp only [boxNs] at h
  split at h
  ·split at h
   ·rename_i ns' hns
    injection h with h; subst h
    rcases List.mem_cons.1 hm with rfl | hm
    ·exact ⟨_, List.mem_cons_self .., by simp [mentD]⟩
    ·obtain ⟨d, q1, q2⟩ := boxNs_ment ds ns' hns hm
     exact ⟨d, List.mem_cons_of_mem _ q1, q2⟩
   ·cases h
  ·cases h
 | .arr _ :: _, _, h, _ => by cases h
 | .el .. :: _, _, h, _ => by cases h
 | .ro .. :: _, _, h, _ => by cases h
 | .agg .. :: _, _, h, _ => by cases h
 | .fn .. :: _, _, h, _ => by cases h
 | .tup _ :: _, _, h, _ => by cases h
 | .mp _ :: _, _, h, _ => by cases h
 | .sub .. :: _, _, h, _ => by cases h
theorem loc {call : CallF} {f : Fp} (hf : fpK P o st = some f) (hp : PreS o st) (h : stpM call P o st = some st1) :
 Loc call P o f st st1 ∧ ∃ wr sc, f = mkFp P o st wr sc ∧ ∀ m ∈ wr, m ∈ refsO P o st ∨ ∃ s, m = .loc s ∧ s < st.T.n := by
 unfold fpK at hf
 cases h0 : (noLink P o st && dstOK o st) with
 | false => rw [h0] at hf; cases hf
 | true =>
 have h0' := h0
 simp only [Bool.and_eq_true] at h0'
 rw [h0] at hf
 simp only [Bool.not_true, cond_false] at hf
 cases h1 : (Cfg.mix && isMix P o st) with
 | true =>
  rw [h1, cond_true] at hf
  injection hf with hf; subst hf
  refine ⟨?_, _, _, rfl, fun m hm => ?_⟩
  ·have hi := h1
   simp only [Bool.and_eq_true] at hi
   have hi := hi.2
   unfold isMix at hi
   cases ho : o.op with
   | store t a v => exact loc_mixStore ho h0 h1 hp h
   | load t a => exact loc_mixLoad ho h0 h1 hp h
   | buildSlice t len ps => exact loc_mixBuild ho h0 h1 hp h
   | makeSlice t l c => exact loc_mixMake ho h0 h1 hp h
   | call c => exact loc_mixApp ho h0 h1 hp h
   | makeMap t r => exact loc_mixMap ho h0 h1 hp h
   | lookup t x y ok => exact loc_mixLook ho h0 h1 hp h
   | mapUpdate t x y z => exact loc_mixUpd ho h0 h1 hp h
   | _ => rw [ho] at hi; cases hi
  ·rcases List.mem_append.1 hm with q | q
   ·unfold mixN at q
    split at q
    ·cases q
    ·cases q
    ·rename_i t m' x ok s ho hd
     repeat' split at q
     all_goals first
      | (cases q; done)
      | (rw [List.mem_singleton] at q; exact .inr ⟨s, q, dst_lt h0'.2 hd⟩)
    ·rename_i c s ho hd
     split at q
     ·rename_i m' ds hds
      rw [List.mem_singleton] at q
      subst q
      left
      obtain ⟨x, q1, t, q2⟩ := opds_sub (P := P) (st := st) c.args.toList c.argTypes.toList m (by rw [hds]; simp [refsDs, refsD])
      exact refsO_mem (args_mem ho q1) q2
     ·rw [List.mem_singleton] at q
      exact .inr ⟨s, q, dst_lt h0'.2 hd⟩
    ·rename_i hd _ _ _ _
     rw [List.mem_singleton] at q
     exact .inr ⟨_, q, dst_lt h0'.2 hd⟩
    ·cases q
   ·exact .inl q
 | false =>
  rw [h1, cond_false] at hf
  cases hno : ownO o with
  | true =>
   rw [hno, cond_true] at hf
   injection hf with hf; subst hf
   exact ⟨loc_own h0 h1 hno hp h, _, _, rfl, fun m hm => by cases hm⟩
  | false =>
   rw [hno, cond_false] at hf
   cases hs : storeN P o st with
   | some m =>
    rw [hs] at hf
    injection hf with hf; subst hf
    refine ⟨loc_store h0 h1 hs h, _, _, rfl, fun m' hm => ?_⟩
    rw [List.mem_singleton.1 hm]
    obtain ⟨t, a, v, off, ho, ha⟩ := store_inv hs
    exact .inl (refsO_mem (x := a) (t := 0) (by rw [ho]; simp [Op.operands]) (by rw [ha]; simp [mentD]))
   | none =>
    rw [hs] at hf
    dsimp only at hf
    cases hc : callN P o st with
    | some ns =>
     rw [hc] at hf
     injection hf with hf; subst hf
     refine ⟨loc_call h0 h1 hc h, _, _, rfl, fun m hm => ?_⟩
     obtain ⟨c, g, n, ns', ho, _, _, hb, e, _⟩ := callN_inv hc
     rw [e] at hm
     obtain ⟨d, q1, q2⟩ := boxNs_ment _ _ hb hm
     obtain ⟨x, q3, t, rfl⟩ := opds_mem _ _ d q1
     exact .inl (refsO_mem (args_mem ho q3) q2)
    | none =>
     rw [hc] at hf
     dsimp only at hf
     cases ha : appN P o st with
     | some m =>
      rw [ha] at hf
      injection hf with hf; subst hf
      refine ⟨loc_app h0 h1 ha hp h, _, _, rfl, fun m' hm => ?_⟩
      rw [List.mem_singleton.1 hm]
      obtain ⟨c, s, x, y, t, t', ho, hd, hcl, hargs, hts, hpu, hcase⟩ := appN_inv ha
      rcases hcase with ⟨hx, _⟩ | ⟨_, _, q⟩
      ·exact .inl (refsO_mem (x := x) (t := t) (args_mem ho (by rw [hargs]; simp)) (by rw [hx]; simp [mentD]))
      ·exact .inr ⟨s, q, dst_lt h0'.2 hd⟩
     | none =>
      rw [ha] at hf
      dsimp only at hf
      cases ha2 : app2N P o st with
      | some q =>
       obtain ⟨m, n⟩ := q
       rw [ha2] at hf
       injection hf with hf; subst hf
       refine ⟨loc_app2 h0 h1 ha ha2 hp h, _, _, rfl, fun m' hm => ?_⟩
       obtain ⟨c, s, x, y, t, t', k, e, z, b, ro, es, rfl, ho, hd, hcl, hargs, hts, hy, hk, hcase⟩ := app2N_inv ha2
       rcases List.mem_cons.1 hm with hm | hm
       ·subst hm
        rcases hcase with ⟨hx, _⟩ | ⟨_, _, q, _⟩
        ·exact .inl (refsO_mem (x := x) (t := t) (args_mem ho (by rw [hargs]; simp)) (by rw [hx]; simp [mentD]))
        ·exact .inr ⟨s, q, dst_lt h0'.2 hd⟩
       ·rw [List.mem_singleton.1 hm]
        exact .inl (refsO_mem (x := y) (t := t) (args_mem ho (by rw [hargs]; simp)) (by rw [hy]; simp [mentD]))
      | none =>
      rw [ha2] at hf
      dsimp only at hf
      cases hc2 : call2N P o st with
      | some k =>
       rw [hc2] at hf
       injection hf with hf; subst hf
       refine ⟨loc_call2 h0 h1 hc hc2 h, _, _, rfl, fun m' hm => ?_⟩
       rw [List.mem_singleton.1 hm]
       exact .inl (call2N_ref hc2)
      | none =>
      rw [hc2] at hf
      dsimp only at hf
      cases hq : quietOK P o st with
      | false => rw [hq] at hf; cases hf
      | true =>
       rw [hq, cond_true] at hf
       cases hl : lookOp o.op with
       | true =>
        rw [hl, cond_true] at hf
        injection hf with hf; subst hf
        exact ⟨loc_look h0 h1 hno hq hl h, _, _, rfl, fun m hm => by cases hm⟩
       | false =>
        rw [hl, cond_false] at hf
        cases hb : isBo o with
        | false => rw [hb] at hf; cases hf
        | true =>
         rw [hb, cond_true] at hf
         split at hf
         ·rename_i s hd
          injection hf with hf; subst hf
          exact ⟨loc_bo h0 h1 hq hb hd hp h, _, _, rfl, fun m hm => .inr ⟨s, List.mem_singleton.1 hm, dst_lt h0'.2 hd⟩⟩
         ·cases hf
end Go.Proofs.YtmnoibkdmeajpaaGreat.Dm
