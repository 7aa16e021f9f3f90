/- For every document and run the law FnExactAnswerOf returns true. -/
import Derived.Test.YtbadompnhhhfpaaGreatDoorAE9
import Derived.Test.YtbadompnhhhfpaaGreatDoorAF2
namespace Go.Proofs.YtbadompnhhhfpaaGreatDoor.Dm
set_option linter.unusedVariables false
set_option linter.unusedSimpArgs false
set_option maxRecDepth 4000
theorem wf_Put (p : GPut) : wfC T0 ckPut p.enc := wfC_mk (wfP_int _) (wfC_mk (wfP_int _) wfC_mk0)
theorem wf_Puts (ps : List GPut) : wfEs T0 ckPut (ps.map GPut.enc) := wf_map (ok := fun _ => True) (fun a _ => wf_Put a) fun _ _ => trivial
theorem wf_Str {ks : List ByteArray} (h : okL okS ks) : wfEs T0 ckString (ks.map encS) := wf_map (ok := okS) (fun a h => wfC_mk (wfP_str h) wfC_mk0) h.2
mutual
theorem wf_Out : ∀ (x : GOut), okOut x → wfC T0 ckOut x.enc
  | .mk k n t ks is, h => by
    obtain ⟨h1, h2, h3, h4⟩ := h
    unfold GOut.enc
    have e : (GOut.encs is).length = is.length := by rw [GOut.encs_eq, List.length_map]
    exact wfC_mk (wfP_int _) (wfC_mk (wfP_int _) (wfC_mk (wfP_str h1) (wfC_mk (wfP_sl (T := T0) (d := 0) (by rw [List.length_map]; exact h2.1) (wf_Str h2)) (wfC_mk (wfP_sl (T := T0) (d := 7) (by rw [e]; exact h3) (wf_Outs is h4)) wfC_mk0))))
theorem wf_Outs : ∀ (xs : List GOut), okOuts xs → wfEs T0 ckOut (GOut.encs xs)
  | [], _ => by rw [GOut.encs, wfEs]; trivial
  | x :: xs, h => by
    rw [GOut.encs, wfEs]
    exact ⟨wf_Out x h.1, wf_Outs xs h.2⟩
end
/-- the text of an answer -/
noncomputable def ansX (ds : List GDef) (o : GOut) (es : List ByteArray) : Tx := dataX (outT (if (opL 0 zeroDef [] ds).1.kind = 2 ∧ es ≠ [] then .mk 0 0 ⟨#[]⟩ [] [] else o)) (es.map bl)
theorem zero_outB : outB (.mk 0 0 ⟨#[]⟩ [] []) = true := by decide
theorem zero_okOut : okOut (.mk 0 0 ⟨#[]⟩ [] []) := ⟨show (0 : Nat) ≤ 9223372036854775807 by omega, ⟨by simp, fun x hx => by cases hx⟩, by simp, trivial⟩
noncomputable def ansR (c : Int) (ds : List GDef) (o : GOut) (es : List ByteArray) : Option Res := if c = 0 then rSI (S (ansX ds o es)) 0 else rSI (⟨#[]⟩ : ByteArray) c
section
variable {ds : List GDef} {need : Int} {rs : List (List Pd)} {ps : List GPut} {k n : Int} {t : ByteArray} {ks : List ByteArray} {is : List GOut} {es : List ByteArray}
theorem codeR_zero {o : GOut} (h : codeR ds need ps o es = 0) : outB o = true := by
  unfold codeR at h
  split at h
  · rename_i hc
    simp only [Bool.and_eq_true] at hc
    exact hc.2.2.1
  · cases h
theorem kind_beq (a : Int) : (a == 2) = decide (a = 2) := beq_int a 2
theorem es_pos : decide (((es.length : Nat) : Int) > 0) = decide (es ≠ []) := by
  cases es with
  | nil => rfl
  | cons x xs =>
    rw [decide_eq_true (by simp), decide_eq_true (by simp)]
theorem pick_out (b1 b2 : Prop) [Decidable b1] [Decidable b2] (x y : GOut) : (if b1 ∧ b2 then x else y) = bif (decide b1 && decide b2) then x else y := by
  by_cases h1 : b1 <;> by_cases h2 : b2 <;> simp [h1, h2]
theorem spec_AnswerOf_ev (hd : okL okDef ds) (hp : ps.length ≤ 1048576) (ho : okOut (.mk k n t ks is)) (he : okPaths es) (hz : ∀ s ∈ es, s.size ≤ 1000000000) :
    ev E0 F_spec_AnswerOf [.p (.agg 1 [.sl 4 (ds.map GDef.enc)]), .p (.agg 9 [.int .i64 need, .sl 1 rs, .sl 2 (ps.map GPut.enc), .int .i64 k, .int .i64 n, .str t, .sl 1 (ks.map encS), .sl 5 (GOut.encs is), .sl 1 (es.map encS)])] [] = ansR (codeR ds need ps (.mk k n t ks is) es) ds (.mk k n t ks is) es := by
  have hel := he.1
  rw [spec_AnswerOf_0_ev, spec_AnswerOf_0_eq, spec_code_ev hd (by omega) ho hz (by omega), bI, bne_dec]
  unfold ansR
  by_cases h0 : codeR ds need ps (.mk k n t ks is) es = 0
  · have hB := codeR_zero h0
    have d1 := spec_data_ev ho hB he
    have d2 := spec_data_ev zero_okOut zero_outB he
    unfold GOut.enc at d1 d2
    rw [GOut.encs] at d2
    have hm : ev E0 F_spec_l09Mutates [.p (.agg 1 [.sl 4 (ds.map GDef.enc)])] [] = rB (decide ((opL 0 zeroDef [] ds).1.kind = 2)) := by
      rw [spec_l09Mutates_0_ev, spec_l09Mutates_0_eq, l04Op_ev hd, bDI]
      have e : asInt .i64 ((opL 0 zeroDef [] ds).1.enc.getD 0 .undef) = some (opL 0 zeroDef [] ds).1.kind := asI _
      rw [e, Option.bind_some, kind_beq]
    have hlen : (es.map encS).length = es.length := by simp
    have fin : ∀ x : Bool, spec_l09Answer_1 x need rs (ps.map GPut.enc) k n t (ks.map encS) (GOut.encs is) (es.map encS) = rS (S (dataX (outT (bif x then .mk 0 0 ⟨#[]⟩ [] [] else .mk k n t ks is)) (es.map bl))) := fun x => by
      rw [spec_l09Answer_1_eq]
      cases x
      · rw [cond_false, d1, bS]; rfl
      · rw [cond_true]
        have d2' : ev E0 F_spec_l08Data [.p (.agg 5 [.int .i64 0, .int .i64 0, .str (⟨#[]⟩ : ByteArray), .sl 1 ([] : List (List Pd)), .sl 5 ([] : List (List Pd))]), .p (.sl 1 (es.map encS))] [] = _ := d2
        rw [d2', bS]; rfl
    have ha : ev E0 F_spec_l09Answer [.p (.agg 1 [.sl 4 (ds.map GDef.enc)]), .p (.agg 9 [.int .i64 need, .sl 1 rs, .sl 2 (ps.map GPut.enc), .int .i64 k, .int .i64 n, .str t, .sl 1 (ks.map encS), .sl 5 (GOut.encs is), .sl 1 (es.map encS)])] [] = rS (S (ansX ds (.mk k n t ks is) es)) := by
      rw [spec_l09Answer_0_ev, spec_l09Answer_0_eq, hm, bB, hlen, es_pos, fin, fin]
      unfold ansX
      rw [pick_out]
      cases decide ((opL 0 zeroDef [] ds).1.kind = 2) <;> rfl
    rw [decide_eq_true h0, Bool.not_true, cond_false, if_pos h0, ha, bS]
  · rw [decide_eq_false h0, if_neg h0]
    rfl
theorem impl_AnswerOf_ev (hd : okL okDef ds) (hdl : ds.length ≤ 1048576) (hp : ps.length ≤ 1048576) (ho : okOut (.mk k n t ks is)) (he : okPaths es) (hz : ∀ s ∈ es, s.size ≤ 1000000000) :
    ev E0 F_impl_AnswerOf [.p (.agg 1 [.sl 4 (ds.map GDef.enc)]), .p (.agg 9 [.int .i64 need, .sl 1 rs, .sl 2 (ps.map GPut.enc), .int .i64 k, .int .i64 n, .str t, .sl 1 (ks.map encS), .sl 5 (GOut.encs is), .sl 1 (es.map encS)])] [] = ansR (codeR ds need ps (.mk k n t ks is) es) ds (.mk k n t ks is) es := by
  have hel := he.1
  rw [impl_AnswerOf_0_ev, impl_AnswerOf_0_eq, impl_code_ev hd hdl (by omega) ho hz (by omega), bI, bne_dec]
  unfold ansR
  by_cases h0 : codeR ds need ps (.mk k n t ks is) es = 0
  · have hB := codeR_zero h0
    have d1 := impl_data_ev ho hB he
    have d2 := impl_data_ev zero_okOut zero_outB he
    unfold GOut.enc at d1 d2
    rw [GOut.encs] at d2
    have hlen : (es.map encS).length = es.length := by simp
    have fin : ∀ x : Bool, impl_Doc_answer_1 x need rs (ps.map GPut.enc) k n t (ks.map encS) (GOut.encs is) (es.map encS) = rS (S (dataX (outT (bif x then .mk 0 0 ⟨#[]⟩ [] [] else .mk k n t ks is)) (es.map bl))) := fun x => by
      rw [impl_Doc_answer_1_eq]
      cases x
      · rw [cond_false, d1, bS]; rfl
      · rw [cond_true]
        have d2' : ev E0 F_impl_dataText [.p (.agg 5 [.int .i64 0, .int .i64 0, .str (⟨#[]⟩ : ByteArray), .sl 1 ([] : List (List Pd)), .sl 5 ([] : List (List Pd))]), .p (.sl 1 (es.map encS))] [] = _ := d2
        rw [d2', bS]; rfl
    have ha : ev E0 F_impl_Doc_answer [.p (.agg 1 [.sl 4 (ds.map GDef.enc)]), .p (.agg 9 [.int .i64 need, .sl 1 rs, .sl 2 (ps.map GPut.enc), .int .i64 k, .int .i64 n, .str t, .sl 1 (ks.map encS), .sl 5 (GOut.encs is), .sl 1 (es.map encS)])] [] = rS (S (ansX ds (.mk k n t ks is) es)) := by
      have e : asInt .i64 ((opL 0 zeroDef [] ds).1.enc.getD 0 .undef) = some (opL 0 zeroDef [] ds).1.kind := asI _
      rw [impl_Doc_answer_0_ev, impl_Doc_answer_0_eq, Doc_opOf_ev hd hdl, bDI, e, Option.bind_some, kind_beq, hlen, es_pos, fin, fin]
      unfold ansX
      rw [pick_out]
      cases decide ((opL 0 zeroDef [] ds).1.kind = 2) <;> rfl
    rw [decide_eq_true h0, Bool.not_true, cond_false, if_pos h0, ha, bS]
  · rw [decide_eq_false h0, if_neg h0]
    rfl
theorem ansR_get (c : Int) (o : GOut) : ∃ s m, ansR c ds o es = rSI s m := by
  unfold ansR
  split
  · exact ⟨_, _, rfl⟩
  · exact ⟨_, _, rfl⟩
theorem law_AnswerOf (hd : okL okDef ds) (hrl : rs.length ≤ 9223372036854775807) (hr : wfEs T0 ckInt rs) (hpl : ps.length ≤ 9223372036854775807) (ho : okOut (.mk k n t ks is)) (he : okL okS es) :
    ev E0 F_laws_FnExactAnswerOf [.p (.agg 1 [.sl 4 (ds.map GDef.enc)]), .p (.agg 9 [.int .i64 need, .sl 1 rs, .sl 2 (ps.map GPut.enc), .int .i64 k, .int .i64 n, .str t, .sl 1 (ks.map encS), .sl 5 (GOut.encs is), .sl 1 (es.map encS)])] [] = rB true := by
  have ho' := ho
  obtain ⟨ht, hks, hil, his⟩ := ho
  have wd := wf_DefS hd
  have wp := wf_Puts ps
  have wk := wf_Str hks
  have wi := wf_Outs is his
  have we := wf_Str he
  have ld : (ds.map GDef.enc).length ≤ 9223372036854775807 := len_map hd.1
  have lp : (ps.map GPut.enc).length ≤ 9223372036854775807 := len_map hpl
  have lk : (ks.map encS).length ≤ 9223372036854775807 := len_map hks.1
  have li : (GOut.encs is).length ≤ 9223372036854775807 := by rw [GOut.encs_eq, List.length_map]; exact hil
  have le : (es.map encS).length ≤ 9223372036854775807 := len_map he.1
  have h1 := szDoc_ev (v0 := ds.map GDef.enc) (szDefS_ev _ ld wd) 1048576 (by omega) (by omega)
  by_cases hs : ¬ (((ds.map GDef.enc).length + wEs (ds.map GDef.enc) : Nat) : Int) ≤ 1048576
  · rw [laws_FnExactAnswerOf_0_ev, laws_FnExactAnswerOf_0_eq, h1, bI, szV_neg hs]
    rfl
  have hs : (((ds.map GDef.enc).length + wEs (ds.map GDef.enc) : Nat) : Int) ≤ 1048576 := Decidable.not_not.1 hs
  have h1b := szRun_ev (v0 := need) (v1 := rs) (v2 := ps.map GPut.enc) (v3 := k) (v4 := n) (v5 := t) (v6 := ks.map encS) (v7 := GOut.encs is) (v8 := es.map encS) ht (szIntS_ev _ hrl hr) (szPutS_ev _ lp wp) (szStringS_ev _ lk wk) (szOutS_ev _ li wi) (szStringS_ev _ le we) (1048576 - (((ds.map GDef.enc).length + wEs (ds.map GDef.enc) : Nat) : Int)) (by omega) (by omega)
  generalize hW : (rs.length + wEs rs) + ((ps.map GPut.enc).length + wEs (ps.map GPut.enc)) + (t.size + ((ks.map encS).length + wEs (ks.map encS)) + ((GOut.encs is).length + wEs (GOut.encs is))) + ((es.map encS).length + wEs (es.map encS)) = W at h1b
  by_cases hv : ¬ (W : Int) ≤ 1048576 - (((ds.map GDef.enc).length + wEs (ds.map GDef.enc) : Nat) : Int)
  · rw [laws_FnExactAnswerOf_0_ev, laws_FnExactAnswerOf_0_eq, h1, bI, szV_pos hs, decide_eq_false (by omega), cond_false, h1b, bI, szV_neg hv]
    rfl
  have hv : (W : Int) ≤ 1048576 - (((ds.map GDef.enc).length + wEs (ds.map GDef.enc) : Nat) : Int) := Decidable.not_not.1 hv
  have hez : ∀ s ∈ es, s.size ≤ 1000000000 := fun s hs => by
    have : ∀ l : List ByteArray, s ∈ l → s.size ≤ wEs (l.map encS) := by
      intro l
      induction l with
      | nil => intro h; cases h
      | cons a l ih =>
        intro h
        have e : wC (encS a) = a.size := by unfold encS; simp [wC, wP]
        rw [List.map_cons, wEs, e]
        rcases List.mem_cons.1 h with q | q
        · subst q; omega
        · have := ih q; omega
    have := this es hs
    omega
  have hel : es.length ≤ 1048576 := by rw [List.length_map] at hW; simp only [List.length_map] at hW; omega
  have hpl' : ps.length ≤ 1048576 := by simp only [List.length_map] at hW; omega
  have hdl : ds.length ≤ 1048576 := by simp only [List.length_map] at hs; omega
  have hok : okPaths es := ⟨by omega, by
    have hsum : ∀ l : List ByteArray, (l.map ByteArray.size).sum = wEs (l.map encS) := by
      intro l
      induction l with
      | nil => rw [List.map_nil, List.map_nil, wEs]; rfl
      | cons a l ih =>
        have e : wC (encS a) = a.size := by unfold encS; simp [wC, wP]
        rw [List.map_cons, List.map_cons, wEs, e, List.sum_cons, ih]
    rw [sum13, hsum]
    omega⟩
  have h2 := spec_AnswerOf_ev (need := need) (rs := rs) (ps := ps) (es := es) hd hpl' ho' hok hez
  have h3 := impl_AnswerOf_ev (need := need) (rs := rs) (ps := ps) (es := es) hd hdl hpl' ho' hok hez
  have h4 := eqDoc_ev (v0 := ds.map GDef.enc) (eqDefS_ev _ ld wd)
  have h4b := eqRun_ev (v0 := need) (v1 := rs) (v2 := ps.map GPut.enc) (v3 := k) (v4 := n) (v5 := t) (v6 := ks.map encS) (v7 := GOut.encs is) (v8 := es.map encS) (eqIntS_ev _ hrl hr) (eqPutS_ev _ lp wp) (eqStringS_ev _ lk wk) (eqOutS_ev _ li wi) (eqStringS_ev _ le we)
  have bd : (ds.map GDef.enc).length ≤ 1048576 := by omega
  have cd : wEs (ds.map GDef.enc) ≤ 1048576 := by omega
  have h5 := toDoc_ev (v0 := ds.map GDef.enc) bd cd wd
  have h5b := toRun_ev (v0 := need) (v1 := rs) (v2 := ps.map GPut.enc) (v3 := k) (v4 := n) (v5 := t) (v6 := ks.map encS) (v7 := GOut.encs is) (v8 := es.map encS) (by omega) (by omega) hr (by omega) (by omega) wp (by omega) (by omega) wk (by omega) (by omega) wi (by omega) (by omega) we
  have hcd : colds (ownEs T0 ckDef (ds.map GDef.enc)) = ds.map GDef.enc := colds_own _ _ wd
  have hci : colds (ownEs T0 ckOut (GOut.encs is)) = GOut.encs is := colds_own _ _ wi
  have hcD := coldDoc (v0 := ds.map GDef.enc) wd
  have hcR := coldRun (v0 := need) (v1 := rs) (v2 := ps.map GPut.enc) (v3 := k) (v4 := n) (v5 := t) (v6 := ks.map encS) (v7 := GOut.encs is) (v8 := es.map encS) hr wp wk wi we
  have oi : okEs rs = true := okEs_flat flatInt hr
  have op : okEs (ps.map GPut.enc) = true := okEs_flat flatPut wp
  have ok : okEs (ks.map encS) = true := okEs_flat flatString wk
  have oe : okEs (es.map encS) = true := okEs_flat flatString we
  obtain ⟨s, m, hp⟩ := ansR_get (ds := ds) (es := es) (codeR ds need ps (.mk k n t ks is) es) (.mk k n t ks is)
  rw [hp] at h2 h3
  have hne : ((m : Int) != m) = false := by simp
  rw [laws_FnExactAnswerOf_0_ev, laws_FnExactAnswerOf_0_eq, h1, bI, szV_pos hs, decide_eq_false (by omega), cond_false, h1b, bI, szV_pos hv, decide_eq_false (by omega), cond_false, h5, hcD, bA, h5b, hcR, bA, h2, bSI, Option.bind_some, asOwn_Doc, Option.bind_some, Option.bind_some, asOwn_Run oi op ok oe, Option.bind_some]
  simp only [List.getD_cons_zero, List.getD_cons_succ, asI, asS_, Option.bind_some, hcd, hci]
  rw [h3, bSI, decide_eq_true rfl, Bool.not_true, cond_false, hne, laws_FnExactAnswerOf_1_eq, cond_false, h5, Option.bind_some, asOwn_Doc, Option.bind_some]
  simp only [List.getD_cons_zero, List.getD_cons_succ, hcd, hci]
  rw [h4, bB, Bool.not_true, cond_false, h5b, Option.bind_some, asOwn_Run oi op ok oe, Option.bind_some]
  simp only [List.getD_cons_zero, List.getD_cons_succ, asI, asS_, Option.bind_some, hci]
  rw [h4b, bB]
  rfl
end
end Go.Proofs.YtbadompnhhhfpaaGreatDoor.Dm
