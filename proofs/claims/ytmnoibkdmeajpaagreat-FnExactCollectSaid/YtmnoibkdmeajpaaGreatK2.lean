/- Groups: the reference's. -/
import Derived.Test.YtmnoibkdmeajpaaGreatK1
namespace Go.Proofs.YtmnoibkdmeajpaaGreat.Dm
set_option maxRecDepth 4000
set_option linter.unusedSectionVars false
set_option linter.unusedVariables false
set_option linter.unusedSimpArgs false
variable {xs : List GDef} {vs : List GArg}
def nF : List Grp → Nat
 | [] => 0
 | g :: gs => 1 + g.2.length + nF gs
def tot (s : Col) : Nat := nF s.1 + s.2.length
theorem nF_add (x : GSel) : ∀ gs : List Grp, nF gs ≤ nF (addG gs x) ∧ nF (addG gs x) ≤ nF gs + 2
 | [] => by simp [addG, nF]
 | g :: gs => by
  rw [addG]
  have ih := nF_add x gs
  split
  ·simp [nF]; omega
  ·simp only [nF]; omega
theorem nF_len : ∀ gs : List Grp, gs.length ≤ nF gs
 | [] => Nat.zero_le _
 | g :: gs => by have := nF_len gs; simp [nF]; omega
theorem nF_mem : ∀ {gs : List Grp} {g : Grp}, g ∈ gs → g.2.length ≤ nF gs
 | g' :: gs, g, h => by
  rcases List.mem_cons.1 h with rfl | h
  ·simp [nF]; omega
  ·have := nF_mem h; simp [nF]; omega
def bud : List GDef → List ByteArray → Nat
 | [], _ => 0
 | d :: ds, S => (if d.kind = 3 ∧ inL S d.name = false then cnts d.sels else 0) + bud ds S
theorem inL_snoc (S : List ByteArray) (t u : ByteArray) : inL (S ++ [t]) u = (inL S u || decide (t = u)) := by rw [inL_app]; simp [inL]
theorem bud_sub (t : ByteArray) (S : List ByteArray) : ∀ ds : List GDef, bud ds (S ++ [t]) ≤ bud ds S
 | [] => Nat.le_refl _
 | d :: ds => by
  have ih := bud_sub t S ds
  simp only [bud]
  by_cases c1 : d.kind = 3 ∧ inL (S ++ [t]) d.name = false
  ·have c2 : d.kind = 3 ∧ inL S d.name = false := ⟨c1.1, by have := c1.2; rw [inL_snoc, Bool.or_eq_false_iff] at this; exact this.1⟩
   rw [if_pos c1, if_pos c2]; omega
  ·rw [if_neg c1]; split <;> omega
theorem bud_frag {t : ByteArray} {S : List ByteArray} (hn : inL S t = false) : ∀ ds : List GDef, bud ds (S ++ [t]) + cnts (fragD t ds).sels ≤ bud ds S
 | [] => by simp [bud, fragD, fragL, zeroDef, cnts]
 | d :: ds => by
  by_cases h : d.kind = 3 ∧ d.name = t
  ·rw [fragD_pos h]
   have := bud_sub t S ds
   simp only [bud, inL_snoc]
   rw [if_pos (show d.kind = 3 ∧ inL S d.name = false from ⟨h.1, by rw [h.2]; exact hn⟩), if_neg (by rw [h.2]; simp)]
   omega
  ·rw [fragD_neg h]
   have ih := bud_frag hn ds
   simp only [bud, inL_snoc]
   by_cases h3 : d.kind = 3
   ·have ht : ¬ t = d.name := fun q => h ⟨h3, q.symm⟩
    simp only [ht, decide_false, Bool.or_false]
    omega
   ·simp only [h3, false_and, if_false]
    omega
theorem coll_cost : ∀ (n : Nat) (l : List GSel) (s r : Col), coll xs vs n l s = some r → tot s ≤ tot r ∧ tot r + 2 * bud xs r.2 ≤ tot s + 2 * cnts l + 2 * bud xs s.2
 | 0, l, s, r, h => by cases h
 | n + 1, [], s, r, h => by
  rw [coll] at h
  injection h with h; subst h
  simp [cnts]
 | n + 1, x :: l, s, r, h => by
  have ih := coll_cost n
  rw [coll] at h
  simp only [cnts, cntS_eq]
  by_cases h1 : inB vs x.dirs = true
  ·rw [if_pos h1] at h
   by_cases h2 : x.kd = 1
   ·rw [if_pos h2] at h
    have q := ih _ _ _ h
    have a := nF_add x s.1
    simp only [tot] at q ⊢
    omega
   ·rw [if_neg h2] at h
    by_cases h3 : x.kd = 3
    ·rw [if_pos h3] at h
     obtain ⟨m, e1, e2⟩ := Option.bind_eq_some_iff.1 h
     have q1 := ih _ _ _ e1
     have q2 := ih _ _ _ e2
     omega
    ·rw [if_neg h3] at h
     cases h4 : inL s.2 x.nm with
     | true =>
      rw [h4, if_pos rfl] at h
      have q := ih _ _ _ h
      omega
     | false =>
      rw [h4, if_neg (by simp)] at h
      obtain ⟨m, e1, e2⟩ := Option.bind_eq_some_iff.1 h
      have q1 := ih _ _ _ e1
      have q2 := ih _ _ _ e2
      have b := bud_frag h4 xs
      simp only [tot, List.length_append, List.length_singleton] at q1 q2 ⊢
      omega
  ·rw [if_neg h1] at h
   have q := ih _ _ _ h
   omega
def keys (gs : List Grp) : List ByteArray := gs.map (·.1)
theorem keys_add (x : GSel) : ∀ gs : List Grp, keys (addG gs x) = if inL (keys gs) (keyOf x) = true then keys gs else keys gs ++ [keyOf x]
 | [] => by simp [addG, keys, inL]
 | g :: gs => by
  have ih := keys_add x gs
  have hk : keys (g :: gs) = g.1 :: keys gs := rfl
  rw [addG, hk, inL_cons]
  by_cases h : g.1 = keyOf x
  ·rw [if_pos h, decide_eq_true h, Bool.true_or, if_pos rfl]; rfl
  ·rw [if_neg h, decide_eq_false h, Bool.false_or]
   have e : keys (g :: addG gs x) = g.1 :: keys (addG gs x) := rfl
   rw [e, ih]
   cases inL (keys gs) (keyOf x) <;> simp
theorem nodup_add {gs : List Grp} (x : GSel) (h : (keys gs).Nodup) : (keys (addG gs x)).Nodup := by
 rw [keys_add]
 cases hm : inL (keys gs) (keyOf x) with
 | true => rw [if_pos rfl]; exact h
 | false =>
  rw [if_neg (by simp), List.nodup_append]
  refine ⟨h, by simp, fun a ha b hb e => ?_⟩
  rw [List.mem_singleton.1 hb] at e
  have := inL_mem.2 (e ▸ ha)
  rw [hm] at this; cases this
def gE (g : Grp) : List Pd := [.str g.1, .sl 6 (g.2.map GSel.enc)]
def upd (x : GSel) (g : Grp) : Grp := if g.1 = keyOf x then (g.1, g.2 ++ [x]) else g
def restG (x : GSel) (b : Bool) (gs : List Grp) : List Grp := gs.map (upd x) ++ (if (b || gs.any fun g => decide (g.1 = keyOf x)) = true then [] else [(keyOf x, [x])])
theorem restG_add {x : GSel} : ∀ {gs : List Grp}, (keys gs).Nodup → restG x false gs = addG gs x
 | [], _ => by simp [restG, addG]
 | g :: gs, h => by
  have hk : (keys gs).Nodup := (List.nodup_cons.1 h).2
  have hn : g.1 ∉ keys gs := (List.nodup_cons.1 h).1
  have ih := restG_add (x := x) hk
  rw [addG]
  by_cases q : g.1 = keyOf x
  ·rw [if_pos q]
   have hu : gs.map (upd x) = gs := by
    refine (List.map_congr_left (g := id) fun g' hg' => ?_).trans (List.map_id _)
    unfold upd
    rw [if_neg]
    ·rfl
    ·intro e
     exact hn (q.trans e.symm ▸ List.mem_map.2 ⟨g', hg', rfl⟩)
   unfold restG
   rw [List.map_cons, hu]
   simp [upd, q]
  ·rw [if_neg q, ← ih]
   have hd : decide (g.1 = keyOf x) = false := decide_eq_false q
   unfold restG
   simp only [List.map_cons, List.any_cons, hd, Bool.false_or, upd, if_neg q, List.cons_append]
theorem colds_app : ∀ a b : List (List Pd), colds (a ++ b) = colds a ++ colds b
 | [], b => rfl
 | x :: a, b => by rw [List.cons_append, colds, colds, colds_app a b]; rfl
theorem coldc_enc (x : GSel) : coldc x.enc = x.enc := by cases x; rfl
theorem colds_enc : ∀ l : List GSel, colds (l.map GSel.enc) = l.map GSel.enc
 | [] => rfl
 | x :: l => by rw [List.map_cons, colds, coldc_enc, colds_enc l]
theorem l04Key_ev (x : GSel) : ev E0 F_zea [.p (.agg 6 x.enc)] [] = rS' (keyOf x) := by
 cases x with
 | mk k a n ar ds ss =>
  unfold GSel.enc
  rw [zea_0_ev, zea_0_eq]
  unfold keyOf GSel.al GSel.nm
  by_cases h : a = ⟨#[]⟩
  ·rw [if_pos h, decide_eq_true h]; rfl
  ·rw [if_neg h, decide_eq_false h]; rfl
theorem key_ev (x : GSel) : ev E0 F_zao [.p (.agg 6 x.enc)] [] = rS' (keyOf x) := by
 cases x with
 | mk k a n ar ds ss =>
  unfold GSel.enc
  rw [zao_0_ev, zao_0_eq]
  unfold keyOf GSel.al GSel.nm
  by_cases h : a = ⟨#[]⟩
  ·rw [if_pos h, decide_eq_true h]; rfl
  ·rw [if_neg h, decide_eq_false h]; rfl
theorem l05Add_ev {gs : List Grp} (hs : nF gs ≤ 100000) (x : GSel) : ev E0 F_zeb [.p (.sl 2 (gs.map gE)), .p (.agg 6 x.enc)] [] = rL 2 ((restG x false gs).map gE) := by
 cases hx : x with
 | mk k a n ar ds ss =>
 have hl := nF_len gs
 have hlen : (gs.map gE).length = gs.length := by simp
 have hL : LIM = 140737488355328 := rfl
 have hkey := l04Key_ev x
 rw [hx] at hkey
 unfold GSel.enc at hkey
 have main : ∀ (m i : Nat) (b : Bool) (e : List (List Pd)), i + m = gs.length → e.length = i → zeb_1 (gs.map gE) b i k a n (ar.map GArg.enc) (ds.map GDir.enc) (GSel.encs ss) e = rL 2 (colds e ++ (restG x b (gs.drop i)).map gE) := by
  intro m
  induction m with
  | zero =>
   intro i b e h he
   obtain rfl : i = gs.length := by omega
   rw [zeb_1_eq, hlen, decide_eq_false (by omega), cond_false, List.drop_length]
   cases b with
   | true =>
    rw [Bool.not_true, cond_false, zeb_4_eq]
    simp [restG]
   | false =>
    rw [Bool.not_false, cond_true, hkey, bS', if_pos (by rw [hL]; simp; omega), zeb_4_eq, colds_app]
    have hc : colds [x.enc] = [x.enc] := colds_enc [x]
    have ht : [[Pd.int .i64 k, .str a, .str n, .sl 4 (ar.map GArg.enc), .sl 4 (ds.map GDir.enc), .sl 6 (GSel.encs ss)]] = [x.enc] := by rw [hx]; unfold GSel.enc; rfl
    have hcc : colds [[Pd.str (keyOf x), Pd.ow 61 6 [x.enc]]] = [gE (keyOf x, [x])] := by
     rw [colds, colds, coldc, coldc, coldc, cold, cold, hc]
     rfl
    rw [ht, ← hx, hcc]
    rfl
  | succ m ih =>
   intro i b e h he
   have hlt : i < gs.length := by omega
   have hg : gs[i]? = some gs[i] := List.getElem?_eq_getElem hlt
   have hmem : gs[i] ∈ gs := List.getElem_mem _
   have hfl := nF_mem hmem
   have hget : (gs.map gE).getD (i : Int).toNat [] = gE gs[i] := getD_enc hg
   have hdrop : gs.drop i = gs[i] :: gs.drop (i + 1) := List.drop_eq_getElem_cons hlt
   generalize gs[i] = g at hget hdrop hfl hmem
   have g0 : asStr ((gE g).getD 0 .undef) = some g.1 := rfl
   have g1 : asSl 6 ((gE g).getD 1 .undef) = some (g.2.map GSel.enc) := asSl_ _ _
   rw [zeb_1_eq, hlen, decide_eq_true (by omega), cond_true, if_pos (by omega), hget, g0, Option.bind_some, hkey, bS']
   by_cases q : g.1 = keyOf (.mk k a n ar ds ss)
   ·rw [decide_eq_true q, cond_true, g1, Option.bind_some, if_pos (by rw [hL]; simp; omega), if_pos (by rw [hL]; simp; omega), zeb_2_eq, if_pos (by rw [hL]; simp; omega), inc_i (n := gs.length) hlt (by omega), ih (i + 1) true _ (by omega) (by simp [he]), colds_app, hdrop]
    have hc : colds ((g.2 ++ [x]).map GSel.enc) = (g.2 ++ [x]).map GSel.enc := colds_enc _
    have hu : upd x g = (g.1, g.2 ++ [x]) := by unfold upd; rw [if_pos (by rw [hx]; exact q)]
    have hr : restG x b (g :: gs.drop (i + 1)) = (g.1, g.2 ++ [x]) :: restG x true (gs.drop (i + 1)) := by
     unfold restG
     have : decide (g.1 = keyOf x) = true := decide_eq_true (by rw [hx]; exact q)
     simp [hu, this]
    rw [hr]
    have ht : ([] ++ g.2.map GSel.enc) ++ [[Pd.int .i64 k, .str a, .str n, .sl 4 (ar.map GArg.enc), .sl 4 (ds.map GDir.enc), .sl 6 (GSel.encs ss)]] = (g.2 ++ [x]).map GSel.enc := by
     rw [hx, List.map_append, List.nil_append]
     simp [GSel.enc]
    rw [ht]
    have hcc : colds [[(gE g).getD 0 .undef, Pd.ow 61 6 ((g.2 ++ [x]).map GSel.enc)]] = [gE (g.1, g.2 ++ [x])] := by
     rw [colds, colds, coldc, coldc, coldc, cold, hc]
     rfl
    rw [hcc, List.map_cons, List.append_assoc]
    rfl
   ·rw [decide_eq_false q, cond_false, zeb_3_eq, if_pos (by rw [hL]; simp; omega), inc_i (n := gs.length) hlt (by omega), ih (i + 1) b _ (by omega) (by simp [he]), colds_app, hdrop]
    have hu : upd x g = g := by unfold upd; rw [if_neg (by rw [hx]; exact q)]
    have hr : restG x b (g :: gs.drop (i + 1)) = g :: restG x b (gs.drop (i + 1)) := by
     unfold restG
     have : decide (g.1 = keyOf x) = false := decide_eq_false (by rw [hx]; exact q)
     simp only [List.map_cons, List.any_cons, this, Bool.false_or, hu, List.cons_append]
    have hcc : colds [gE g] = [gE g] := rfl
    rw [hr, hcc, List.map_cons, List.append_assoc]
    rfl
 have := main gs.length 0 false [] (by omega) rfl
 unfold GSel.enc
 rw [zeb_0_ev, zeb_0_eq]
 rw [List.drop_zero] at this
 rw [← hx]
 exact this
end Go.Proofs.YtmnoibkdmeajpaaGreat.Dm
