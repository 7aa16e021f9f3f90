/- Groups: what is collected, by the program. -/
import Derived.Test.YtmnoibkdmeajpaaGreatK3
namespace Go.Proofs.YtmnoibkdmeajpaaGreat.Dm
set_option maxRecDepth 4000
set_option linter.unusedSectionVars false
set_option linter.unusedVariables false
set_option linter.unusedSimpArgs false
variable {xs : List GDef} {vs : List GArg}
theorem agree_id {R : Type} (r : Option R) : agree r r = r := by
 unfold agree
 cases r with
 | none => rfl
 | some x => simp
theorem coll_6 {gs : List Grp} {j : Nat} {g : Grp} (x : GSel) (hj : gs[j]? = some g) (hl : g.2.length ≤ 100000) (L : List (List Pd)) (n i : Int) (l5 l6 : List (List Pd)) (m7 m8 : List (ByteArray × Pd)) : zag_6 (j : Int) L n i x.enc l5 l6 m7 m8 (gs.map grE) = zag_4 L n i l5 l6 m7 m8 ((gs.set j (g.1, g.2 ++ [x])).map grE) := by
 have hlt := lt_of_get hj
 have hL : LIM = 140737488355328 := rfl
 have hlen : (gs.map grE).length = gs.length := by simp
 have hlj : j < (gs.map grE).length := by omega
 have en : ((j : Int)).toNat = j := Int.toNat_natCast j
 have hrow : (gs.map grE).getD j [] = [.str g.1, .ow 61 6 (g.2.map GSel.enc)] := by
  have := getD_enc (f := grE) hj
  rw [en] at this
  exact this
 have r0 : setCs (gs.map grE) j 2 1 1 [.undef] = (gs.map grE).set j [.str g.1, .undef] := by rw [setCs_mix (by omega) hrow]; rfl
 have r1 : setCs ((gs.map grE).set j [.str g.1, .undef]) j 2 1 1 [.undef] = (gs.map grE).set j [.str g.1, .undef] := setCs_set (by omega) hlj rfl
 have r2 : ∀ l, setCs ((gs.map grE).set j [.str g.1, .undef]) j 2 1 1 [.ow 61 6 l] = (gs.map grE).set j [.str g.1, .ow 61 6 l] := fun l => setCs_set (by omega) hlj rfl
 have r3 : (gs.map grE).set j [.str g.1, .ow 61 6 ((g.2 ++ [x]).map GSel.enc)] = (gs.set j (g.1, g.2 ++ [x])).map grE := by rw [List.map_set]; rfl
 have ea : (g.2.map GSel.enc) ++ [x.enc] = (g.2 ++ [x]).map GSel.enc := by simp
 have r4 : ∀ z : List Pd, setCs (g.2.map GSel.enc ++ [z]) (g.2.map GSel.enc).length 6 0 6 x.enc = (g.2 ++ [x]).map GSel.enc := by
  intro z
  rw [setCs_all, List.set_append_right _ _ (Nat.le_refl _), Nat.sub_self, ← ea]
  rfl
 have hgl : (g.2.map GSel.enc).length = g.2.length := by simp
 have p1 : (0 ≤ (j : Int) ∧ (j : Int) < ((gs.map grE).length : Int)) := by omega
 have ln : ∀ c, ((gs.map grE).set j c).length = (gs.map grE).length := fun c => by simp
 have a1 : asOw 61 6 (((gs.map grE).getD j []).getD 1 .undef) = some (g.2.map GSel.enc) := by rw [hrow]; exact asOw_ _ _ _
 rw [zag_6_eq, en]
 simp only [r0, r1, r2, a1, Option.bind_some, Int.toNat_natCast, r4, ea, r3, ln]
 rw [if_pos p1, if_pos ⟨by trivial, hlj, by omega, by simp, by trivial⟩, if_pos (by rw [hL]; simp; omega), if_pos p1, if_pos ⟨by trivial, hlj, by omega⟩, if_pos p1, if_pos ⟨by trivial, hlj, by omega, by simp, by trivial⟩, if_pos (by rw [hL]; simp; omega), if_pos p1, if_pos ⟨by trivial, hlj, by omega⟩, if_pos (by simp; omega), if_pos ⟨by trivial, by simp, by omega⟩]
 exact agree_id _
theorem coll_32 (L : List (List Pd)) (n i : Int) (v d : List (List Pd)) (m p : List (ByteArray × Pd)) (e : List (List Pd)) : zag_3 L n i [.sl 4 v] [.sl 4 d] m p e = zag_2 L n i v d m p e := rfl
abbrev obC (vs : List GArg) (xs : List GDef) (s : Col) : List Ob := [.box 1 [.sl 4 (vs.map GArg.enc)], .mbox 1 [.mp (.out 6)], .box 1 [.sl 4 (xs.map GDef.enc)], .mbox 1 [.fn F_zag [.ptr (.out 0) 0, .ptr (.out 1) 0, .ptr (.out 2) 0, .ptr (.out 3) 0, .ptr (.out 4) 0, .ptr (.out 5) 0]], .mbox 1 [.mp (.out 7)], .mbox 1 [.arr (.out 8)], .map (seenM s.2), .map (placeM 0 s.1), .marr 55 2 (s.1.map grE) none]
abbrev rC (vs : List GArg) (xs : List GDef) (s : Col) : Option Res := some ([], obC vs xs s)
theorem bC {R : Type} (s : Col) (K : List Pd → List Pd → List (ByteArray × Pd) → List (ByteArray × Pd) → List (List Pd) → Option R) : ((rC vs xs s).bind fun r => if r.1.length = 0 then ((asFbox 1 [.sl 4 (vs.map GArg.enc)] (r.2.getD 0 .none)).bind fun c1 => (asMbox 1 [.mp (.out 6)] (r.2.getD 1 .none)).bind fun _ => (asFbox 1 [.sl 4 (xs.map GDef.enc)] (r.2.getD 2 .none)).bind fun c3 => (asMbox 1 [.fn F_zag [.ptr (.out 0) 0, .ptr (.out 1) 0, .ptr (.out 2) 0, .ptr (.out 3) 0, .ptr (.out 4) 0, .ptr (.out 5) 0]] (r.2.getD 3 .none)).bind fun _ => (asMbox 1 [.mp (.out 7)] (r.2.getD 4 .none)).bind fun _ => (asMbox 1 [.arr (.out 8)] (r.2.getD 5 .none)).bind fun _ => (asMap (r.2.getD 6 .none)).bind fun m => (asMap (r.2.getD 7 .none)).bind fun p => (asMarr 55 2 (r.2.getD 8 .none)).bind fun l => if r.2.length = 9 then K c1 c3 m p l else none) else none) = K [.sl 4 (vs.map GArg.enc)] [.sl 4 (xs.map GDef.enc)] (seenM s.2) (placeM 0 s.1) (s.1.map grE) := rfl
theorem impl_coll (hx : okL okDef xs) (hd : ∀ d ∈ xs, fl d.sels) (hv : vs.length ≤ 9223372036854775807) (hvb : bindsB vs = true) : ∀ (n : Nat) (L : List GSel) (i : Nat) (s r : Col), fl L → i ≤ L.length → coll xs vs n (L.drop i) s = some r → tot r ≤ 100000 → zag_2 (L.map GSel.enc) L.length i (vs.map GArg.enc) (xs.map GDef.enc) (seenM s.2) (placeM 0 s.1) (s.1.map grE) = rC vs xs r
 | 0, L, i, s, r, _, _, h, _ => by cases h
 | n + 1, L, i, s, r, hL, hi, h, ht => by
  have hlen : (L.map GSel.enc).length = L.length := by simp
  have hLl := hL.1.1
  have hLIM : LIM = 140737488355328 := rfl
  have ih := impl_coll hx hd hv hvb n
  have hcost := (coll_cost _ _ _ _ h).1
  have hts : nF s.1 + s.2.length ≤ 100000 := Nat.le_trans hcost ht
  have hgl := nF_len s.1
  by_cases hlt : i < L.length
  ·have hg : L[i]? = some L[i] := List.getElem?_eq_getElem hlt
   have hmem : L[i] ∈ L := List.getElem_mem _
   rw [List.drop_eq_getElem_cons hlt] at h
   generalize L[i] = x at hg hmem h
   obtain ⟨ho, hb, hs⟩ := fl_mem hL hmem
   have hin := impl_included_ev hv hvb x ho hb
   have rest : ∀ s' : Col, coll xs vs n (L.drop (i + 1)) s' = some r → zag_4 (L.map GSel.enc) L.length i (vs.map GArg.enc) (xs.map GDef.enc) (seenM s'.2) (placeM 0 s'.1) (s'.1.map grE) = rC vs xs r := by
    intro s' e
    rw [zag_4_eq, inc_i hlt hLl]
    exact ih L (i + 1) s' r hL (by omega) e ht
   have rest5 : ∀ s' : Col, coll xs vs n (L.drop (i + 1)) s' = some r → zag_5 (L.map GSel.enc) L.length i [.sl 4 (vs.map GArg.enc)] [.sl 4 (xs.map GDef.enc)] (seenM s'.2) (placeM 0 s'.1) (s'.1.map grE) = rC vs xs r := by
    intro s' e
    rw [zag_5_eq, inc_i hlt hLl, coll_32]
    exact ih L (i + 1) s' r hL (by omega) e ht
   have call : ∀ (L' : List GSel) (s' m : Col), fl L' → coll xs vs n L' s' = some m → coll xs vs n (L.drop (i + 1)) m = some r → ev E0 F_zag [.p (.sl 6 (L'.map GSel.enc)), .ptr (.out 0) 0, .ptr (.out 1) 0, .ptr (.out 2) 0, .ptr (.out 3) 0, .ptr (.out 4) 0, .ptr (.out 5) 0] (obC vs xs s') = rC vs xs m := by
    intro L' s' m f e e2
    have hlen' : ((L'.map GSel.enc).length : Int) = L'.length := by simp
    have := (coll_cost _ _ _ _ e2).1
    rw [zag_0_ev, zag_0_eq, hlen']
    exact ih L' 0 s' m f (Nat.zero_le _) e (by omega)
   rw [coll] at h
   rw [zag_2_eq, hlen, decide_eq_true (by omega), cond_true, if_pos (by omega), getD_enc hg, hin, bB]
   by_cases h1 : inB vs x.dirs = true
   ·rw [if_pos h1] at h
    rw [h1, Bool.not_true, cond_false, enc_get0, Option.bind_some, beq_int]
    by_cases h2 : x.kd = 1
    ·rw [if_pos h2] at h
     rw [decide_eq_false (by omega), cond_false, beq_int, decide_eq_false (by omega), cond_false, key_ev, bS', findM_place]
     cases hi : idxG 0 s.1 (keyOf x) with
     | none =>
      have e := addG_none hi
      have a := coll_6 (gs := s.1 ++ [(keyOf x, [])]) (j := s.1.length) (g := (keyOf x, [])) x (by rw [List.getElem?_append_right (Nat.le_refl _), Nat.sub_self]; rfl) (by simp) (L.map GSel.enc) L.length i (vs.map GArg.enc) (xs.map GDef.enc) (seenM s.2) (placeM 0 (s.1 ++ [(keyOf x, [])]))
      have ee : (s.1 ++ [(keyOf x, [])]).set s.1.length (keyOf x, ([] : List GSel) ++ [x]) = addG s.1 x := by
       rw [List.set_append_right _ _ (Nat.le_refl _), Nat.sub_self, e]; rfl
      have em : (s.1 ++ [(keyOf x, [])]).map grE = s.1.map grE ++ [[.str (keyOf x), .ow 61 6 []]] := by rw [List.map_append]; rfl
      have ep := setM_place (keyOf x) 0 s.1 hi s.1.length (by omega) []
      have ek := placeM_keys 0 (s.1 ++ [(keyOf x, [])]) (addG s.1 x) (by rw [e]; simp)
      rw [ee, em, ek] at a
      simp only [Option.map_none, Option.getD_none, asI, Option.bind_some, Option.isSome_none, Bool.not_false, cond_true, List.length_map]
      have k1 : ∀ K : ByteArray → Option Res, ((asStr (pAt 0 [Dv.p (Pd.str (keyOf x))])).bind fun s => if [Dv.p (Pd.str (keyOf x))].length = 1 then K s else none) = K (keyOf x) := fun _ => rfl
      rw [k1, k1, if_pos (by rw [hLIM, List.length_singleton]; omega), ep, ek, a]
      exact rest (addG s.1 x, s.2) h
     | some j =>
      obtain ⟨k, g, q1, q2, q3, q4⟩ := addG_some hi
      obtain rfl : j = k := by omega
      have hm := nF_mem (List.mem_of_getElem? q2)
      have a := coll_6 x q2 (by omega) (L.map GSel.enc) L.length i (vs.map GArg.enc) (xs.map GDef.enc) (seenM s.2) (placeM 0 s.1)
      have ek := placeM_keys 0 s.1 (addG s.1 x) (by
       rw [q4, List.map_set]
       refine (List.ext_getElem? fun m => ?_)
       rw [List.getElem?_set, List.getElem?_map]
       split
       ·rename_i hjm
        subst hjm
        rw [q2]
        simp
        exact lt_of_get q2
       ·rfl)
      rw [← q4, ek] at a
      simp only [Option.map_some, Option.getD_some, asI, Option.bind_some, Option.isSome_some, Bool.not_true, cond_false]
      rw [← ek] at a
      rw [a, ek]
      exact rest (addG s.1 x, s.2) h
    ·rw [if_neg h2] at h
     by_cases h3 : x.kd = 3
     ·rw [if_pos h3] at h
      obtain ⟨m, e1, e2⟩ := Option.bind_eq_some_iff.1 h
      rw [decide_eq_false (by omega), cond_false, beq_int, decide_eq_true h3, cond_true, enc_get5, Option.bind_some, call _ s m hs e1 e2, bC, fillF_self, fillF_self]
      exact rest5 m e2
     ·rw [if_neg h3] at h
      have h2' : x.kd = 2 := by rcases (sel_kd hb).1 with q | q | q; exact absurd q h2; exact q; exact absurd q h3
      rw [decide_eq_true h2', cond_true, enc_get2, Option.bind_some, findM_seen, asB_, Option.bind_some]
      cases h4 : inL s.2 x.nm with
      | true =>
       rw [h4, if_pos rfl] at h
       rw [Bool.not_true, cond_false]
       exact rest s h
      | false =>
       rw [h4, if_neg (by simp)] at h
       obtain ⟨m, e1, e2⟩ := Option.bind_eq_some_iff.1 h
       have c := call _ (s.1, s.2 ++ [x.nm]) m (fl_frag hd x.nm) e1 e2
       simp only [obC] at c
       rw [← setM_seen _ _ h4] at c
       rw [Bool.not_false, cond_true, Option.bind_some, Option.bind_some, Doc_fragment_ev hx.1, bDB, def_sels0, Option.bind_some, c, bC, fillF_self, fillF_self]
       exact rest5 m e2
   ·rw [if_neg h1] at h
    rw [Bool.not_eq_true] at h1
    rw [h1, Bool.not_false, cond_true]
    exact rest s h
  ·have : i = L.length := by omega
   subst this
   rw [List.drop_length, coll] at h
   injection h with h
   subst h
   rw [zag_2_eq, decide_eq_false (by omega), cond_false]
theorem Doc_collect_ev (hx : okL okDef xs) (hd : ∀ d ∈ xs, fl d.sels) (hv : vs.length ≤ 9223372036854775807) (hvb : bindsB vs = true) {n : Nat} {L : List GSel} {r : Col} (hL : fl L) (h : coll xs vs n L ([], []) = some r) (ht : tot r ≤ 100000) : ev E0 F_zaf [.p (.agg 1 [.sl 4 (xs.map GDef.enc)]), .p (.sl 6 (L.map GSel.enc)), .p (.sl 4 (vs.map GArg.enc))] [] = some ([.arr (.out 0)], [.marr 55 2 (r.1.map grE) none]) := by
 have hlen' : ((L.map GSel.enc).length : Int) = L.length := by simp
 have c : ev E0 F_zag [.p (.sl 6 (L.map GSel.enc)), .ptr (.out 0) 0, .ptr (.out 1) 0, .ptr (.out 2) 0, .ptr (.out 3) 0, .ptr (.out 4) 0, .ptr (.out 5) 0] (obC vs xs ([], [])) = rC vs xs r := by
  rw [zag_0_ev, zag_0_eq, hlen']
  exact impl_coll hx hd hv hvb n L 0 ([], []) r hL (Nat.zero_le _) h ht
 have e1 : seenM [] = [] := rfl
 have e2 : placeM 0 [] = [] := rfl
 have e3 : ([] : List Grp).map grE = [] := rfl
 simp only [obC, e1, e2, e3] at c
 rw [zaf_0_ev, zaf_0_eq, c, bC]
end Go.Proofs.YtmnoibkdmeajpaaGreat.Dm
