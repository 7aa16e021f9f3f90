/- For every document, selections and bindings the law FnExactCollect returns true. -/
import Derived.Test.YtmnoibkdmeajpaaGreatK6
namespace Go.Proofs.YtmnoibkdmeajpaaGreat.Dm
set_option maxRecDepth 4000
set_option linter.unusedSectionVars false
set_option linter.unusedVariables false
set_option linter.unusedSimpArgs false
theorem dec_SelS {xs : List Pd} (h : WT Tryz.prog 25 xs) : ∃ l : List GSel, xs = [.sl 6 (l.map GSel.enc)] ∧ okL okSel l := by
 obtain ⟨es, e, l, _, x⟩ := h.sl_inv Tryz.underlying25
 rw [c_Sel] at e
 obtain ⟨ss, q, o⟩ := list_dec (f := GSel.enc) (ok := okSel) (fun y hy => dec_Sel _ y (Nat.le_refl _) (x y hy))
 subst q
 exact ⟨ss, e, by simpa using l, o⟩
theorem law_Collect {xs : List GDef} (hx : okL okDef xs) {L : List GSel} (hL : okL okSel L) {vs : List GArg} (hv : okL okArg vs) : ev E0 F_zbd [.p (.agg 1 [.sl 4 (xs.map GDef.enc)]), .p (.sl 6 (L.map GSel.enc)), .p (.sl 4 (vs.map GArg.enc))] [] = rB true := by
 have hw := wf_DefS hx
 have hwL := wf_SelS hL
 have hwV : wfEs T0 ckBinding (vs.map GArg.enc) := wf_map (fun a h => wf_Arg h) hv.2
 have hl : (xs.map GDef.enc).length ≤ 9223372036854775807 := len_map hx.1
 have hlL : (L.map GSel.enc).length ≤ 9223372036854775807 := len_map hL.1
 have hlV : (vs.map GArg.enc).length ≤ 9223372036854775807 := len_map hv.1
 obtain ⟨gs, c, h2, h3, ho, hgw, hgl⟩ := both hx hL hv
 have h1 := szDoc_ev (v0 := xs.map GDef.enc) (szDefS_ev _ hl hw) 1048576 (by omega) (by omega)
 rw [zbd_0_ev, zbd_0_eq, h1, bI]
 generalize hW : (xs.map GDef.enc).length + wEs (xs.map GDef.enc) = W
 by_cases hs : ((W : Nat) : Int) ≤ 1048576
 case neg => rw [szV_neg hs]; rfl
 rw [szV_pos hs, decide_eq_false (by omega), cond_false, szSelS_ev _ hlL hwL _ (by omega) (by omega), bI]
 generalize hW2 : (L.map GSel.enc).length + wEs (L.map GSel.enc) = W2
 by_cases hs2 : ((W2 : Nat) : Int) ≤ 1048576 - W
 case neg => rw [szV_neg hs2]; rfl
 rw [szV_pos hs2, decide_eq_false (by omega), cond_false, szBindingS_ev _ hlV hwV _ (by omega) (by omega), bI]
 generalize hW3 : (vs.map GArg.enc).length + wEs (vs.map GArg.enc) = W3
 by_cases hs3 : ((W3 : Nat) : Int) ≤ 1048576 - W - W2
 case neg => rw [szV_neg hs3]; rfl
 have h5 := toDoc_ev (v0 := xs.map GDef.enc) (by omega) (by omega) hw
 have h5L := toSelS_ev (L.map GSel.enc) (by omega) (by omega) hwL
 have h5V := toBindingS_ev (vs.map GArg.enc) (by omega) (by omega) hwV
 have hkV : okEs (vs.map GArg.enc) = true := okEs_flat flatBinding hwV
 have hcd : colds (ownEs T0 ckDef (xs.map GDef.enc)) = xs.map GDef.enc := colds_own _ _ hw
 have hcL : colds (ownEs T0 ckSel (L.map GSel.enc)) = L.map GSel.enc := colds_own _ _ hwL
 have h4 := eqDoc_ev (v0 := xs.map GDef.enc) (eqDefS_ev _ hl hw)
 have h4L := eqSelS_ev _ hlL hwL
 have h4V := eqBindingS_ev _ hlV hwV
 have hm := cEs_le T0_le (xs.map GDef.enc) 3 hw
 have hmL := cEs_le T0_le (L.map GSel.enc) 2 hwL
 have hmV := cEs_le T0_le (vs.map GArg.enc) 4 hwV
 have h7 := markDoc_ev (v0 := xs.map GDef.enc) (by omega) (by omega) hw 1 (by omega) (by omega)
 have h7L := markSelS_ev (L.map GSel.enc) (by omega) (by omega) hwL (1 + ((cEs (xs.map GDef.enc) : Nat) : Int)) (by omega) (by omega)
 have h7V := markBindingS_ev (vs.map GArg.enc) (by omega) (by omega) hwV (1 + ((cEs (xs.map GDef.enc) : Nat) : Int) + cEs (L.map GSel.enc)) (by omega) (by omega)
 rw [ownEs_flat T0 flatBinding, ownEs_flat T0 flatBinding] at h7V
 have hgE : (gs.map gE).length = gs.length := by simp
 have hGw := wf_G ho hgw
 have hGb := gE_w ho
 have hGc : wEs (gs.map gE) ≤ 1048576 := by omega
 have hGd : colds (ownEs T0 ckGroup (gs.map gE)) = gs.map gE := colds_own _ _ hGw
 have h8 := eqGroupS_ev (gs.map gE) (by omega) hGw
 have hmG := cEs_le T0_le (gs.map gE) 5 hGw
 have h9 := markGroupS_ev (gs.map gE) (by omega) hGc hGw 1 (by omega) (by omega)
 have h10 := heldGroupS_ev (gs.map gE) (by omega) hGc hGw 1 (by omega) (by omega)
 have hck : colds (ownEs T0 ckGroup (mkEs mt 1 (gs.map gE))) = mkEs mt 1 (gs.map gE) := colds_own _ _ (wfEs_mk mt_size _ ckGroup 1 hGw)
 have hne : ∀ z : Int, (z != z) = false := fun z => by simp
 rw [szV_pos hs3, decide_eq_false (by omega), cond_false, h5, Option.bind_some, asOwn_Doc, Option.bind_some, h5L, Option.bind_some, asOwn_SelS, Option.bind_some, h5V, Option.bind_some, asOwn_BindingS hkV, Option.bind_some]
 simp only [List.getD_cons_zero, List.getD_cons_succ, hcd, hcL]
 rw [h2, bGI, Option.bind_some, asOwn_Doc, Option.bind_some, Option.bind_some, asOwn_SelS, Option.bind_some, Option.bind_some, asOwn_BindingS hkV, Option.bind_some]
 simp only [List.getD_cons_zero, List.getD_cons_succ, hcd, hcL]
 rw [h3, Option.bind_some, asOwn_Gs, Option.bind_some]
 simp only [List.getD_cons_zero, List.getD_cons_succ, asI, Option.bind_some, hGd]
 rw [h8, bB, Bool.not_true, cond_false, hne, zbd_1_eq, cond_false, h5, Option.bind_some, asOwn_Doc, Option.bind_some]
 simp only [List.getD_cons_zero, List.getD_cons_succ, hcd]
 rw [h4, bB, Bool.not_true, cond_false, h5L, Option.bind_some, asOwn_SelS, Option.bind_some]
 simp only [List.getD_cons_zero, List.getD_cons_succ, hcL]
 rw [h4L, bB, Bool.not_true, cond_false, h5V, Option.bind_some, asOwn_BindingS hkV, Option.bind_some]
 simp only [List.getD_cons_zero, List.getD_cons_succ]
 rw [h4V, bB, Bool.not_true, cond_false, h7, bW, h7L, bW, if_pos hkV, h7V, bW, decide_eq_false (by omega), cond_false, hGd, h8, bB, Bool.not_true, cond_false, hne, zbd_2_eq, cond_false, h9, bW, hck, h10, bI, decide_eq_false (by omega), cond_false, hne, cond_false, h5, Option.bind_some, asOwn_Doc, Option.bind_some, h5L, Option.bind_some, asOwn_SelS, Option.bind_some, h5V, Option.bind_some, asOwn_BindingS hkV, Option.bind_some]
 simp only [List.getD_cons_zero, List.getD_cons_succ, hcd, hcL]
 rw [h3, Option.bind_some, asOwn_Gs, Option.bind_some]
 simp only [List.getD_cons_zero, List.getD_cons_succ, asI, Option.bind_some, hGd]
 rw [h8, bB, Bool.not_true, cond_false, hne, zbd_3_eq, cond_false, hck, h10, bI, decide_eq_false (by omega), cond_false, hne, cond_false]
end Go.Proofs.YtmnoibkdmeajpaaGreat.Dm
