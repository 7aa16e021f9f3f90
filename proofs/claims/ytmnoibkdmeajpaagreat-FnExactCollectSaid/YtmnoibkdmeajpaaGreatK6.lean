/- Groups: the two answers are one. -/
import Derived.Test.YtmnoibkdmeajpaaGreatK4
namespace Go.Proofs.YtmnoibkdmeajpaaGreat.Dm
set_option maxRecDepth 4000
set_option linter.unusedSectionVars false
set_option linter.unusedVariables false
set_option linter.unusedSimpArgs false
variable {xs : List GDef} {vs : List GArg}
theorem thru_own {T : Nat → De} : ∀ (es : List (List Pd)) (cs : List CK), wfEs T cs es → thruPss (ownEs T cs es) = true := by
 refine row_ind (cs := []) fun es ih cs h => ?_
 have elem : ∀ x ∈ es, ∀ (cs : List CK) (ys : List Pd), (∀ y ∈ ys, y ∈ x) → wfC T cs ys → thruPs (ownC T cs ys) = true := by
  intro x hx cs
  induction cs with
  | nil => intro ys _ hy; rw [wfC_nil hy, ownC_nil]; rfl
  | cons c cs ihc =>
   intro ys hys hy
   obtain ⟨y, ys, rfl, h1, h2⟩ := wfC_cons hy
   rw [ownC, thruPs, ihc ys (fun z hz => hys z (List.mem_cons_of_mem _ hz)) h2, Bool.and_true]
   cases c with
   | i => obtain ⟨n, rfl⟩ := wfP_i h1; rw [ownP_i]; rfl
   | b => obtain ⟨n, rfl⟩ := wfP_b h1; rw [ownP_b]; rfl
   | s => obtain ⟨n, rfl, _⟩ := wfP_s h1; rw [ownP_s]; rfl
   | r d' =>
    obtain ⟨ss, rfl, _, h5⟩ := wfP_r h1
    rw [ownP, thruP, ih x hx _ ss (hys _ (List.mem_cons_self ..)) _ h5]
 have all : ∀ es', (∀ x ∈ es', x ∈ es) → wfEs T cs es' → thruPss (ownEs T cs es') = true := by
  intro es'
  induction es' with
  | nil => intro _ _; rw [ownEs]; rfl
  | cons x es' ih' =>
   intro hm hw
   rw [wfEs] at hw
   rw [ownEs, thruPss, elem x (hm x (List.mem_cons_self ..)) _ x (fun y hy => hy) hw.1, ih' (fun y hy => hm y (List.mem_cons_of_mem _ hy)) hw.2]
   rfl
 exact all es (fun x hx => hx) h
def gO (g : Grp) : List Pd := [.str g.1, .ow 61 6 (ownEs T0 ckSel (g.2.map GSel.enc))]
theorem own_gE (gs : List Grp) : ownEs T0 ckGroup (gs.map gE) = gs.map gO := by
 rw [ownEs_map, List.map_map]
 refine List.map_congr_left fun g _ => ?_
 exact own_Group
abbrev rOwnG (gs : List Grp) (c : Int) : Option Res := some ([.arr (.out 0), .p (.int .i64 c)], [.oarr 55 2 (ownEs T0 ckGroup (gs.map gE))])
theorem collect_3 {gs : List Grp} (h : gok gs) (hw : gw gs ≤ 1000000) (hl : gs.length ≤ 100000) : zac_3 gs.length 0 (gs.map grE) = rOwnG gs 0 := by
 have main : ∀ (m i : Nat), i + m = gs.length → zac_3 gs.length i ((gs.take i).map gO ++ (gs.drop i).map grE) = rOwnG gs 0 := by
  intro m
  induction m with
  | zero =>
   intro i e
   rw [zac_3_eq, decide_eq_false (by omega), cond_false, List.take_of_length_le (by omega), List.drop_of_length_le (by omega), List.map_nil, List.append_nil, ← own_gE, if_pos (thru_own _ _ (wf_G h hw))]
  | succ m ih =>
   intro i e
   have hlt : i < gs.length := by omega
   have hg : gs[i]? = some gs[i] := List.getElem?_eq_getElem hlt
   have hmem : gs[i] ∈ gs := List.getElem_mem _
   have step := ih (i + 1) (by omega)
   have hd := List.drop_eq_getElem_cons hlt
   rw [List.take_add_one, hg] at step
   generalize gs[i] = g at hg hmem step hd
   have h1 := h g hmem
   have h2 := gw_mem hmem
   unfold cw at h2
   have hl2 : g.2.length ≤ 1000000 := by simp only [List.length_map] at h2; omega
   have htk : ((gs.take i).map gO).length = i := by simp; omega
   have hE : ∀ c, ((gs.take i).map gO ++ (gs.drop i).map grE).set i c = (gs.take i).map gO ++ c :: (gs.drop (i + 1)).map grE := by
    intro c
    rw [List.set_append_right _ _ (by omega), htk, Nat.sub_self, hd]
    rfl
   have hlen : ((gs.take i).map gO ++ (gs.drop i).map grE).length = gs.length := by simp; omega
   have hrow : ((gs.take i).map gO ++ (gs.drop i).map grE).getD i [] = [.str g.1, .ow 61 6 (g.2.map GSel.enc)] := by
    rw [hd, List.map_cons, List.getD_eq_getElem?_getD, List.getElem?_append_right (by omega), htk, Nat.sub_self]
    rfl
   generalize hEE : (gs.take i).map gO ++ (gs.drop i).map grE = EE at hE hlen hrow
   have hlj : i < EE.length := by omega
   have en : ((i : Int)).toNat = i := Int.toNat_natCast i
   have r0 : setCs EE i 2 1 1 [.undef] = EE.set i [.str g.1, .undef] := by rw [setCs_mix (by omega) hrow]; rfl
   have r2 : ∀ l, setCs (EE.set i [.str g.1, .undef]) i 2 1 1 [.ow 61 6 l] = EE.set i [.str g.1, .ow 61 6 l] := fun l => setCs_set (by omega) hlj rfl
   have r1 : ∀ l, setCs (EE.set i [.str g.1, .ow 61 6 l]) i 2 1 1 [.undef] = EE.set i [.str g.1, .undef] := fun l => setCs_set (by omega) hlj rfl
   have p1 : (0 ≤ (i : Int) ∧ (i : Int) < (EE.length : Int)) := by omega
   have ln : ∀ c, (EE.set i c).length = EE.length := fun c => by simp
   have a1 : asOw 61 6 ((EE.getD i []).getD 1 .undef) = some (g.2.map GSel.enc) := by rw [hrow]; exact asOw_ _ _ _
   rw [zac_3_eq, decide_eq_true (by omega), cond_true, en]
   simp only [r0, r2, r1, a1, Option.bind_some, ln, colds_enc]
   rw [if_pos p1, if_pos ⟨by trivial, hlj, by omega, by simp, by trivial⟩, copySels_ev _ (by omega) (by omega) (wf_SelS ⟨by omega, h1.2⟩), Option.bind_some, asOwn_SelS, Option.bind_some, if_pos p1, if_pos ⟨by trivial, hlj, by omega⟩, inc_i (n := gs.length) hlt (by omega)]
   rw [hE]
   have e1 : (gs.take i ++ [g]).map gO ++ (gs.drop (i + 1)).map grE = (gs.take i).map gO ++ gO g :: (gs.drop (i + 1)).map grE := by simp
   have e2 : (gs.take i ++ (some g).toList) = gs.take i ++ [g] := rfl
   rw [e2, e1] at step
   exact step
 have := main gs.length 0 (by omega)
 rw [List.take_zero, List.map_nil, List.nil_append, List.drop_zero] at this
 exact this
theorem asOwn_Gs (es : List (List Pd)) (c : Int) : asOwn E0.P [30, 3] ([.arr (.out 0), .p (.int .i64 c)], [.oarr 55 2 es]) = some ([.undef, .int .i64 c], [es]) := by kernel_rfl
abbrev rGI (gs : List Grp) (c : Int) : Option Res := some ([.p (.sl 2 (gs.map gE)), .p (.int .i64 c)], [])
theorem bGI {R : Type} (gs : List Grp) (c : Int) (K : List (List Pd) → Int → Option R) : ((rGI gs c).bind fun r => (asSl 2 (pAt 0 r.1)).bind fun l => (asInt .i64 (pAt 1 r.1)).bind fun n => if r.1.length = 2 then K l n else none) = K (gs.map gE) c := by simp [pAt, asSl, asInt]
theorem bud_total : ∀ xs : List GDef, bud xs [] ≤ total xs
 | [] => Nat.zero_le _
 | d :: ds => by
  have ih := bud_total ds
  simp only [bud, total, List.map_cons, List.sum_cons] at ih ⊢
  split <;> omega
theorem budw_total : ∀ xs : List GDef, (∀ d ∈ xs, fl d.sels) → budw xs [] ≤ 600 * total xs
 | [], _ => Nat.zero_le _
 | d :: ds, h => by
  have ih := budw_total ds fun x hx => h x (List.mem_cons_of_mem _ hx)
  obtain ⟨_, k, hk⟩ := h d (List.mem_cons_self ..)
  have := cw_le k d.sels hk
  simp only [budw, total, List.map_cons, List.sum_cons] at ih ⊢
  split <;> omega
theorem areSels_ev {L : List GSel} (hL : okL okSel L) : ev E0 F_zar [.p (.sl 6 (L.map GSel.enc))] [] = rB (fine 7 L && decide (cnts L ≤ 60)) := by
 obtain ⟨r', h, _⟩ := areRight_ev 7 L 60 (by omega) hL (by omega)
 have e7 : ((7 : Nat) : Int) = 7 := rfl
 have e60 : ((60 : Nat) : Int) = 60 := rfl
 rw [e7, e60] at h
 rw [zar_0_ev, zar_0_eq, h, bBox]
theorem both (hx : okL okDef xs) {L : List GSel} (hL : okL okSel L) (hv : okL okArg vs) : ∃ (gs : List Grp) (c : Int), ev E0 F_zdm [.p (.agg 1 [.sl 4 (xs.map GDef.enc)]), .p (.sl 6 (L.map GSel.enc)), .p (.sl 4 (vs.map GArg.enc))] [] = rGI gs c ∧ ev E0 F_zac [.p (.agg 1 [.sl 4 (xs.map GDef.enc)]), .p (.sl 6 (L.map GSel.enc)), .p (.sl 4 (vs.map GArg.enc))] [] = rOwnG gs c ∧ gok gs ∧ gw gs ≤ 1000000 ∧ gs.length ≤ 1000 := by
 have h0 : gok [] := fun g hg => by cases hg
 have hLl := hL.1
 have hvl := hv.1
 have lenL : (L.map GSel.enc).length = L.length := by simp
 have lenV : (vs.map GArg.enc).length = vs.length := by simp
 have e7 : ((7 : Nat) : Int) = 7 := rfl
 have hno : ∀ c : Int, rGI [] c = some ([.p (.sl 2 []), .p (.int .i64 c)], []) := fun c => rfl
 have hnO : ∀ c : Int, rOwnG [] c = some ([.arr (.out 0), .p (.int .i64 c)], [.oarr 55 2 []]) := fun c => by unfold rOwnG; rw [List.map_nil, ownEs]
 by_cases h1 : L.length > 4096 ∨ vs.length > 4096
 ·refine ⟨[], 2, ?_, ?_, h0, by simp [gw], by simp⟩
  ·rw [zdm_0_ev, zdm_0_eq, lenL, lenV]
   by_cases q : L.length > 4096
   ·rw [decide_eq_true (by omega), cond_true, zdm_1_eq, cond_true]; rfl
   ·rw [decide_eq_false (by omega), cond_false, decide_eq_true (by omega), zdm_1_eq, cond_true]; rfl
  ·rw [zac_0_ev, zac_0_eq, zba_0_ev, zba_0_eq, lenL, bB]
   by_cases q : L.length > 4096
   ·rw [decide_eq_false (by omega), Bool.not_false, cond_true, zac_1_eq, cond_true, hnO]
   ·rw [decide_eq_true (by omega), Bool.not_true, cond_false, zaz_0_ev, zaz_0_eq, lenV, bB, decide_eq_false (by omega), Bool.not_false, zac_1_eq, cond_true, hnO]
 have q1 : ¬L.length > 4096 := fun q => h1 (Or.inl q)
 have q2 : ¬vs.length > 4096 := fun q => h1 (Or.inr q)
 have hs : ev E0 F_zdm [.p (.agg 1 [.sl 4 (xs.map GDef.enc)]), .p (.sl 6 (L.map GSel.enc)), .p (.sl 4 (vs.map GArg.enc))] [] = zdm_2 (L.map GSel.enc) (vs.map GArg.enc) (!(docB xs && ((fine 7 L && decide (cnts L ≤ 60)) && bindsB vs))) (xs.map GDef.enc) := by
  have hf := l02Sels_ev 7 L (by omega) hL
  rw [e7] at hf
  rw [zdm_0_ev, zdm_0_eq, lenL, lenV, decide_eq_false (by omega), cond_false, decide_eq_false (by omega), zdm_1_eq, cond_false, hf]
  by_cases q : fine 7 L = true ∧ cnts L ≤ 60
  ·rw [if_pos q, b2, Bool.not_true, cond_false, spec_DocOK_ev hx, bB, q.1, decide_eq_true q.2]
   cases docB xs with
   | false => rfl
   | true => rw [Bool.not_true, cond_false, spec_BindingsOK_ev hv, bB]; rfl
  ·rw [if_neg q, b2, Bool.not_false, cond_true]
   have : (fine 7 L && decide (cnts L ≤ 60)) = false := by
    cases hfl : fine 7 L with
    | false => rfl
    | true => rw [Bool.true_and, decide_eq_false (fun z => q ⟨hfl, z⟩)]
   rw [this, Bool.false_and, Bool.and_false]
   rfl
 have hi : ev E0 F_zac [.p (.agg 1 [.sl 4 (xs.map GDef.enc)]), .p (.sl 6 (L.map GSel.enc)), .p (.sl 4 (vs.map GArg.enc))] [] = zac_2 (L.map GSel.enc) (vs.map GArg.enc) (!(docB xs && ((fine 7 L && decide (cnts L ≤ 60)) && bindsB vs))) (xs.map GDef.enc) := by
  rw [zac_0_ev, zac_0_eq, zba_0_ev, zba_0_eq, lenL, bB, decide_eq_true (by omega), Bool.not_true, cond_false, zaz_0_ev, zaz_0_eq, lenV, bB, decide_eq_true (by omega), Bool.not_true, zac_1_eq, cond_false, impl_DocOK_ev hx, bB]
  cases docB xs with
  | false => rfl
  | true =>
   rw [Bool.not_true, cond_false, areSels_ev hL, bB]
   cases (fine 7 L && decide (cnts L ≤ 60)) with
   | false => rfl
   | true => rw [Bool.not_true, cond_false, impl_BindingsOK_ev hv, bB]; rfl
 rw [hs, hi, zdm_2_eq, zac_2_eq]
 cases hb : (docB xs && ((fine 7 L && decide (cnts L ≤ 60)) && bindsB vs)) with
 | false =>
  refine ⟨[], 1, ?_, ?_, h0, by simp [gw], by simp⟩
  ·rw [Bool.not_false, cond_true]; rfl
  ·rw [Bool.not_false, cond_true, hnO]
 | true =>
  simp only [Bool.and_eq_true, decide_eq_true_eq] at hb
  obtain ⟨d1, ⟨d2, d3⟩, d4⟩ := hb
  obtain ⟨hd, ht⟩ := fl_docB hx d1
  have hf : fl L := ⟨hL, 7, d2⟩
  obtain ⟨k, r, e, _⟩ := coll_ex (xs := xs) (vs := vs) (unv xs []) (cnts L) L ([], []) (Nat.le_refl _) (Nat.le_refl _)
  obtain ⟨_, c1⟩ := coll_cost _ _ _ _ e
  obtain ⟨_, o2, o3⟩ := coll_ok hd _ _ _ _ hf e (by simp [keys]) h0
  have b1 := bud_total xs
  have b2' := budw_total xs hd
  have b3 := cw_le 7 L d2
  have htot : tot r ≤ 240 := by
   have : tot (([], []) : Col) = 0 := rfl
   dsimp only at c1
   omega
  have hgw : gw r.1 ≤ 100000 := by
   have : gw [] = 0 := rfl
   dsimp only at o3
   omega
  have hgl := nF_len r.1
  have hgl2 : r.1.length ≤ 240 := by unfold tot at htot; omega
  refine ⟨r.1, 0, ?_, ?_, o2, by omega, by omega⟩
  ·have c : ev E0 F_zec [.p (.agg 1 [.sl 4 (xs.map GDef.enc)]), .p (.sl 6 (L.map GSel.enc)), .p (.sl 4 (vs.map GArg.enc)), .p (.sl 2 []), .p (.sl 1 [])] [] = rG r := by
    rw [zec_0_ev, zec_0_eq]
    exact spec_coll hx hd hvl k L 0 ([], []) r hf (Nat.zero_le _) e (by omega) (by simp [keys]) h0
   rw [Bool.not_true, cond_false, c, bG, l05Own_ev o2 (by omega) (by omega), bL]
  ·have hm : ∀ l : List (List Pd), asMarr 55 2 (([.marr 55 2 l none] : List Ob).getD 0 .none) = some l := fun l => rfl
   rw [Bool.not_true, cond_false, Doc_collect_ev hx hd hvl d4 hf e (by omega), Option.bind_some, hm, Option.bind_some, if_pos ⟨rfl, rfl⟩, List.length_map]
   exact collect_3 o2 (by omega) (by omega)
end Go.Proofs.YtmnoibkdmeajpaaGreat.Dm
