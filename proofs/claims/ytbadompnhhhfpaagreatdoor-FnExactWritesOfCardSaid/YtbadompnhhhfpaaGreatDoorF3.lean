/- For every document and run the law FnExactWritesOf returns true. -/
import Derived.Test.YtbadompnhhhfpaaGreatDoorF2
namespace Go.Proofs.YtbadompnhhhfpaaGreatDoor.Dm
set_option linter.unusedVariables false
set_option linter.unusedSimpArgs false
set_option maxRecDepth 4000
theorem wf_Put (p : GPut) : wfC T0 ckPut p.enc := wfC_mk (wfP_int _) (wfC_mk (wfP_int _) wfC_mk0)
theorem wf_Puts (ps : List GPut) : wfEs T0 ckPut (ps.map GPut.enc) := wf_map (ok := fun _ => True) (fun a _ => wf_Put a) fun _ _ => trivial
theorem wf_Str {ks : List ByteArray} (h : okL okS ks) : wfEs T0 ckString (ks.map encS) := wf_map (ok := okS) (fun a h => wfC_mk (wfP_str h) wfC_mk0) h.2
mutual
theorem wf_Out : ∀ (x : GOut), okOut x → wfC T0 ckOut x.enc
  | .mk k n t ks is, h => by
    obtain ⟨h1, h2, h3, h4⟩ := h
    unfold GOut.enc
    have e : (GOut.encs is).length = is.length := by rw [GOut.encs_eq, List.length_map]
    exact wfC_mk (wfP_int _) (wfC_mk (wfP_int _) (wfC_mk (wfP_str h1) (wfC_mk (wfP_sl (T := T0) (d := 0) (by rw [List.length_map]; exact h2.1) (wf_Str h2)) (wfC_mk (wfP_sl (T := T0) (d := 7) (by rw [e]; exact h3) (wf_Outs is h4)) wfC_mk0))))
theorem wf_Outs : ∀ (xs : List GOut), okOuts xs → wfEs T0 ckOut (GOut.encs xs)
  | [], _ => by rw [GOut.encs, wfEs]; trivial
  | x :: xs, h => by
    rw [GOut.encs, wfEs]
    exact ⟨wf_Out x h.1, wf_Outs xs h.2⟩
end
theorem asOwn_PutI (c : Int) {es : List (List Pd)} (h : okEs es = true) : asOwn E0.P [35, 3] ([.arr (.out 0), .p (.int .i64 c)], [.arr 84 2 16 false es]) = some ([.undef, .int .i64 c], [es]) := by
  have e : asOwnK E0.P [35, 3] ([.arr (.out 0), .p (.int .i64 c)], [.arr 84 2 16 false es]) = (if okEs es = true then some ([.undef, .int .i64 c], [es]) else none) := by kernel_rfl
  rw [asOwnK_eq, e, if_pos h]
theorem clonePut_ev {es : List (List Pd)} (h : es.length ≤ 1048576) (hw : wfEs T0 ckPut es) : ev E0 F_slices_Clone_impl_Put_impl_Put [.p (.sl 2 es)] [] = some ([.arr (.out 0)], [.arr 84 2 16 false es]) := by
  have hL : LIM = 140737488355328 := rfl
  rw [slices_Clone_impl_Put_impl_Put_0_ev, slices_Clone_impl_Put_impl_Put_0_eq, List.nil_append, if_pos (c := (([] : List (List Pd)).length + es.length) * 16 ≤ LIM) (by rw [hL]; simp; omega), if_pos (okEs_flat flatPut hw)]
  cases es with
  | nil => exact (if_neg (by simp)).trans (agree_some.2 ⟨rfl, rfl⟩)
  | cons x xs => rfl
/-- what a run writes -/
noncomputable def writesR (c : Int) (ps : List GPut) (es : List ByteArray) : List GPut := if c = 0 ∧ es = [] then ps else []
noncomputable abbrev rWr (c : Int) (ws : List GPut) : Option Res := some ([.arr (.out 0), .p (.int .i64 c)], [.arr 84 2 16 false (ws.map GPut.enc)])
section
variable {ds : List GDef} {need : Int} {rs : List (List Pd)} {ps : List GPut} {k n : Int} {t : ByteArray} {ks : List ByteArray} {is : List GOut} {es : List ByteArray}
theorem spec_WritesOf_ev (hd : okL okDef ds) (hp : ps.length ≤ 1048576) (ho : okOut (.mk k n t ks is)) (hz : ∀ s ∈ es, s.size ≤ 1000000000) (hl : es.length ≤ 1000000000) :
    ev E0 F_spec_WritesOf [.p (.agg 1 [.sl 4 (ds.map GDef.enc)]), .p (.agg 9 [.int .i64 need, .sl 1 rs, .sl 2 (ps.map GPut.enc), .int .i64 k, .int .i64 n, .str t, .sl 1 (ks.map encS), .sl 5 (GOut.encs is), .sl 1 (es.map encS)])] [] = rWr (codeR ds need ps (.mk k n t ks is) es) (writesR (codeR ds need ps (.mk k n t ks is) es) ps es) := by
  have hL : LIM = 140737488355328 := rfl
  rw [spec_WritesOf_0_ev, spec_WritesOf_0_eq, spec_code_ev hd (by omega) ho hz hl, bI, bne_dec]
  generalize codeR ds need ps (.mk k n t ks is) es = c
  have hlen : (es.map encS).length = es.length := by simp
  unfold writesR
  by_cases h0 : c = 0
  · rw [decide_eq_true h0, Bool.not_true, cond_false, spec_l09Writes_0_ev, spec_l09Writes_0_eq, hlen]
    by_cases h1 : es = []
    · subst h1
      rw [decide_eq_false (by simp), cond_false, bL, if_pos (c := (([] : List (List Pd)).length + (ps.map GPut.enc).length) * 16 ≤ LIM) (by rw [hL]; simp; omega), List.nil_append, if_pos (okEs_flat flatPut (wf_Puts ps)), if_pos ⟨h0, rfl⟩, h0]
    · have hpos : 0 < es.length := List.length_pos_iff.2 h1
      rw [decide_eq_true (by omega), cond_true, bL, if_pos (c := (([] : List (List Pd)).length + ([] : List (List Pd)).length) * 16 ≤ LIM) (by rw [hL]; simp), List.nil_append, if_pos (show okEs [] = true from rfl), if_neg (fun q => h1 q.2), h0]
      rfl
  · rw [decide_eq_false h0, Bool.not_false, cond_true, if_pos (show okEs [] = true from rfl), if_neg (fun q => h0 q.1)]
    rfl
theorem impl_WritesOf_ev (hd : okL okDef ds) (hdl : ds.length ≤ 1048576) (hp : ps.length ≤ 1048576) (ho : okOut (.mk k n t ks is)) (hz : ∀ s ∈ es, s.size ≤ 1000000000) (hl : es.length ≤ 1000000000) :
    ev E0 F_impl_WritesOf [.p (.agg 1 [.sl 4 (ds.map GDef.enc)]), .p (.agg 9 [.int .i64 need, .sl 1 rs, .sl 2 (ps.map GPut.enc), .int .i64 k, .int .i64 n, .str t, .sl 1 (ks.map encS), .sl 5 (GOut.encs is), .sl 1 (es.map encS)])] [] = rWr (codeR ds need ps (.mk k n t ks is) es) (writesR (codeR ds need ps (.mk k n t ks is) es) ps es) := by
  rw [impl_WritesOf_0_ev, impl_WritesOf_0_eq, impl_code_ev hd hdl (by omega) ho hz hl, bI, bne_dec]
  generalize codeR ds need ps (.mk k n t ks is) es = c
  have hlen : (es.map encS).length = es.length := by simp
  unfold writesR
  by_cases h0 : c = 0
  · rw [decide_eq_true h0, Bool.not_true, cond_false, impl_Run_writes_0_ev, impl_Run_writes_0_eq, hlen]
    by_cases h1 : es = []
    · subst h1
      rw [decide_eq_false (by simp), cond_false, clonePut_ev (by simpa using hp) (wf_Puts ps), Option.bind_some, asOwn_PutS (okEs_flat flatPut (wf_Puts ps)), Option.bind_some]
      simp only [List.getD_cons_zero]
      rw [if_pos (okEs_flat flatPut (wf_Puts ps)), Option.bind_some, asOwn_PutS (okEs_flat flatPut (wf_Puts ps)), Option.bind_some]
      simp only [List.getD_cons_zero]
      rw [if_pos (okEs_flat flatPut (wf_Puts ps)), if_pos (by first | exact ⟨h0, rfl⟩ | exact ⟨h0, trivial⟩), h0]
    · have hpos : 0 < es.length := List.length_pos_iff.2 h1
      rw [decide_eq_true (by omega), cond_true, Option.bind_some, asOwn_PutS (show okEs [] = true from rfl), Option.bind_some]
      simp only [List.getD_cons_zero]
      rw [if_pos (show okEs [] = true from rfl), if_neg (fun q => h1 q.2), h0]
      rfl
  · rw [decide_eq_false h0, Bool.not_false, cond_true, if_neg (fun q => h0 q.1)]
    rfl
theorem wEs_put : ∀ ws : List GPut, wEs (ws.map GPut.enc) = 0
  | [] => by rw [List.map_nil, wEs]
  | w :: ws => by
    have e : wC w.enc = 0 := by unfold GPut.enc; simp [wC, wP]
    rw [List.map_cons, wEs, wEs_put ws, e]
theorem writesR_fine (c : Int) : (writesR c ps es).length ≤ ps.length := by
  unfold writesR
  split
  · exact Nat.le_refl _
  · simp
theorem law_WritesOf (hd : okL okDef ds) (hrl : rs.length ≤ 9223372036854775807) (hr : wfEs T0 ckInt rs) (hpl : ps.length ≤ 9223372036854775807) (ho : okOut (.mk k n t ks is)) (he : okL okS es) :
    ev E0 F_laws_FnExactWritesOf [.p (.agg 1 [.sl 4 (ds.map GDef.enc)]), .p (.agg 9 [.int .i64 need, .sl 1 rs, .sl 2 (ps.map GPut.enc), .int .i64 k, .int .i64 n, .str t, .sl 1 (ks.map encS), .sl 5 (GOut.encs is), .sl 1 (es.map encS)])] [] = rB true := by
  have ho' := ho
  obtain ⟨ht, hks, hil, his⟩ := ho
  have wd := wf_DefS hd
  have wp := wf_Puts ps
  have wk := wf_Str hks
  have wi := wf_Outs is his
  have we := wf_Str he
  have ld : (ds.map GDef.enc).length ≤ 9223372036854775807 := len_map hd.1
  have lp : (ps.map GPut.enc).length ≤ 9223372036854775807 := len_map hpl
  have lk : (ks.map encS).length ≤ 9223372036854775807 := len_map hks.1
  have li : (GOut.encs is).length ≤ 9223372036854775807 := by rw [GOut.encs_eq, List.length_map]; exact hil
  have le : (es.map encS).length ≤ 9223372036854775807 := len_map he.1
  have h1 := szDoc_ev (v0 := ds.map GDef.enc) (szDefS_ev _ ld wd) 1048576 (by omega) (by omega)
  by_cases hs : ¬ (((ds.map GDef.enc).length + wEs (ds.map GDef.enc) : Nat) : Int) ≤ 1048576
  · rw [laws_FnExactWritesOf_0_ev, laws_FnExactWritesOf_0_eq, h1, bI, szV_neg hs]
    rfl
  have hs : (((ds.map GDef.enc).length + wEs (ds.map GDef.enc) : Nat) : Int) ≤ 1048576 := Decidable.not_not.1 hs
  have h1b := szRun_ev (v0 := need) (v1 := rs) (v2 := ps.map GPut.enc) (v3 := k) (v4 := n) (v5 := t) (v6 := ks.map encS) (v7 := GOut.encs is) (v8 := es.map encS) ht (szIntS_ev _ hrl hr) (szPutS_ev _ lp wp) (szStringS_ev _ lk wk) (szOutS_ev _ li wi) (szStringS_ev _ le we) (1048576 - (((ds.map GDef.enc).length + wEs (ds.map GDef.enc) : Nat) : Int)) (by omega) (by omega)
  generalize hW : (rs.length + wEs rs) + ((ps.map GPut.enc).length + wEs (ps.map GPut.enc)) + (t.size + ((ks.map encS).length + wEs (ks.map encS)) + ((GOut.encs is).length + wEs (GOut.encs is))) + ((es.map encS).length + wEs (es.map encS)) = W at h1b
  by_cases hv : ¬ (W : Int) ≤ 1048576 - (((ds.map GDef.enc).length + wEs (ds.map GDef.enc) : Nat) : Int)
  · rw [laws_FnExactWritesOf_0_ev, laws_FnExactWritesOf_0_eq, h1, bI, szV_pos hs, decide_eq_false (by omega), cond_false, h1b, bI, szV_neg hv]
    rfl
  have hv : (W : Int) ≤ 1048576 - (((ds.map GDef.enc).length + wEs (ds.map GDef.enc) : Nat) : Int) := Decidable.not_not.1 hv
  have hez : ∀ s ∈ es, s.size ≤ 1000000000 := fun s hs => by
    have : ∀ l : List ByteArray, s ∈ l → s.size ≤ wEs (l.map encS) := by
      intro l
      induction l with
      | nil => intro h; cases h
      | cons a l ih =>
        intro h
        have e : wC (encS a) = a.size := by unfold encS; simp [wC, wP]
        rw [List.map_cons, wEs, e]
        rcases List.mem_cons.1 h with q | q
        · subst q; omega
        · have := ih q; omega
    have := this es hs
    omega
  have hel : es.length ≤ 1048576 := by rw [List.length_map] at hW; simp only [List.length_map] at hW; omega
  have hpl' : ps.length ≤ 1048576 := by simp only [List.length_map] at hW; omega
  have hdl : ds.length ≤ 1048576 := by simp only [List.length_map] at hs; omega
  have h2 := spec_WritesOf_ev (need := need) (rs := rs) (ps := ps) (es := es) hd hpl' ho' hez (by omega)
  have h3 := impl_WritesOf_ev (need := need) (rs := rs) (ps := ps) (es := es) hd hdl hpl' ho' hez (by omega)
  have h4 := eqDoc_ev (v0 := ds.map GDef.enc) (eqDefS_ev _ ld wd)
  have h4b := eqRun_ev (v0 := need) (v1 := rs) (v2 := ps.map GPut.enc) (v3 := k) (v4 := n) (v5 := t) (v6 := ks.map encS) (v7 := GOut.encs is) (v8 := es.map encS) (eqIntS_ev _ hrl hr) (eqPutS_ev _ lp wp) (eqStringS_ev _ lk wk) (eqOutS_ev _ li wi) (eqStringS_ev _ le we)
  have bd : (ds.map GDef.enc).length ≤ 1048576 := by omega
  have cd : wEs (ds.map GDef.enc) ≤ 1048576 := by omega
  have h5 := toDoc_ev (v0 := ds.map GDef.enc) bd cd wd
  have h5b := toRun_ev (v0 := need) (v1 := rs) (v2 := ps.map GPut.enc) (v3 := k) (v4 := n) (v5 := t) (v6 := ks.map encS) (v7 := GOut.encs is) (v8 := es.map encS) (by omega) (by omega) hr (by omega) (by omega) wp (by omega) (by omega) wk (by omega) (by omega) wi (by omega) (by omega) we
  have hcd : colds (ownEs T0 ckDef (ds.map GDef.enc)) = ds.map GDef.enc := colds_own _ _ wd
  have hci : colds (ownEs T0 ckOut (GOut.encs is)) = GOut.encs is := colds_own _ _ wi
  have m1 := cEs_le T0_le (ds.map GDef.enc) 5 wd
  have m2 := cEs_le T0_le rs 1 hr
  have m3 := cEs_le T0_le (ps.map GPut.enc) 6 wp
  have m4 := cEs_le T0_le (ks.map encS) 0 wk
  have m5 := cEs_le T0_le (GOut.encs is) 7 wi
  have m6 := cEs_le T0_le (es.map encS) 0 we
  have h7 := markDoc_ev (v0 := ds.map GDef.enc) bd cd wd 1 (by omega) (by omega)
  have h7b := markRun_ev (v0 := need) (v1 := rs) (v2 := ps.map GPut.enc) (v3 := k) (v4 := n) (v5 := t) (v6 := ks.map encS) (v7 := GOut.encs is) (v8 := es.map encS) (by omega) (by omega) hr (by omega) (by omega) wp (by omega) (by omega) wk (by omega) (by omega) wi (by omega) (by omega) we (1 + ((cEs (ds.map GDef.enc) : Nat) : Int)) (by omega) (by omega)
  have oi : okEs rs = true := okEs_flat flatInt hr
  have op : okEs (ps.map GPut.enc) = true := okEs_flat flatPut wp
  have ok : okEs (ks.map encS) = true := okEs_flat flatString wk
  have oe : okEs (es.map encS) = true := okEs_flat flatString we
  simp only [ownEs_flat T0 flatInt, ownEs_flat T0 flatPut, ownEs_flat T0 flatString] at h7b
  have hwf := writesR_fine (ps := ps) (es := es) (codeR ds need ps (.mk k n t ks is) es)
  generalize hws : writesR (codeR ds need ps (.mk k n t ks is) es) ps es = ws at h2 h3 hwf
  clear hws
  generalize codeR ds need ps (.mk k n t ks is) es = c at h2 h3
  have ww := wf_Puts ws
  have ow : okEs (ws.map GPut.enc) = true := okEs_flat flatPut ww
  have lw : (ws.map GPut.enc).length ≤ 1048576 := by rw [List.length_map]; omega
  have cw : wEs (ws.map GPut.enc) ≤ 1048576 := by rw [wEs_put]; omega
  have m7 := cEs_le T0_le (ws.map GPut.enc) 6 ww
  have h8 := eqPutS_ev (ws.map GPut.enc) (by omega) ww
  have h9 := markPutS_ev (ws.map GPut.enc) lw cw ww 1 (by omega) (by omega)
  have h10 := heldPutS_ev (ws.map GPut.enc) lw cw ww 1 (by omega) (by omega)
  simp only [ownEs_flat T0 flatPut] at h9
  have hck : colds (mkEs mt 1 (ws.map GPut.enc)) = mkEs mt 1 (ws.map GPut.enc) := by
    have := colds_own (T := T0) (mkEs mt 1 (ws.map GPut.enc)) ckPut (wfEs_mk mt_size _ ckPut 1 ww)
    rw [ownEs_flat T0 flatPut] at this
    exact this
  have hne : ∀ z : Int, (z != z) = false := fun z => by simp
  rw [laws_FnExactWritesOf_0_ev, laws_FnExactWritesOf_0_eq, h1, bI, szV_pos hs, decide_eq_false (by omega), cond_false, h1b, bI, szV_pos hv, decide_eq_false (by omega), cond_false, h5, Option.bind_some, asOwn_Doc, Option.bind_some, h5b, Option.bind_some, asOwn_Run oi op ok oe, Option.bind_some]
  simp only [List.getD_cons_zero, List.getD_cons_succ, asI, asS_, Option.bind_some, hcd, hci]
  rw [h2, Option.bind_some, asOwn_PutI c ow, Option.bind_some]
  simp only [List.getD_cons_zero, List.getD_cons_succ, asI, asS_, Option.bind_some]
  rw [asOwn_Doc, Option.bind_some, asOwn_Run oi op ok oe, Option.bind_some]
  simp only [List.getD_cons_zero, List.getD_cons_succ, asI, asS_, Option.bind_some, hcd, hci]
  rw [h3, Option.bind_some, asOwn_PutI c ow, Option.bind_some]
  simp only [List.getD_cons_zero, List.getD_cons_succ, asI, asS_, Option.bind_some]
  rw [h8, bB, Bool.not_true, cond_false, hne, laws_FnExactWritesOf_1_eq, cond_false, h5, Option.bind_some, asOwn_Doc, Option.bind_some]
  simp only [List.getD_cons_zero, List.getD_cons_succ, hcd, hci]
  rw [h4, bB, Bool.not_true, cond_false, h5b, Option.bind_some, asOwn_Run oi op ok oe, Option.bind_some]
  simp only [List.getD_cons_zero, List.getD_cons_succ, asI, asS_, Option.bind_some, hci]
  rw [h4b, bB, Bool.not_true, cond_false, h7, bW, if_pos oe, if_pos ok, if_pos op, if_pos oi, h7b, bW5, decide_eq_false (by omega), cond_false, h8, bB, Bool.not_true, cond_false, hne, laws_FnExactWritesOf_2_eq, cond_false, if_pos ow, h9, bW, hck, h10, bI, decide_eq_false (by omega), cond_false, hne, cond_false, h5, Option.bind_some, asOwn_Doc, Option.bind_some, h5b, Option.bind_some, asOwn_Run oi op ok oe, Option.bind_some]
  simp only [List.getD_cons_zero, List.getD_cons_succ, asI, asS_, Option.bind_some, hcd, hci]
  rw [h3, Option.bind_some, asOwn_PutI c ow, Option.bind_some]
  simp only [List.getD_cons_zero, List.getD_cons_succ, asI, asS_, Option.bind_some]
  rw [h8, bB, Bool.not_true, cond_false, hne, laws_FnExactWritesOf_3_eq, cond_false, hck, h10, bI, decide_eq_false (by omega), cond_false, hne, cond_false]
end
end Go.Proofs.YtbadompnhhhfpaaGreatDoor.Dm
