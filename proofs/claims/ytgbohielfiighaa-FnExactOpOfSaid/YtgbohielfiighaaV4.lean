/- For every document the law FnExactUsedVars returns true. -/
import Derived.Test.YtgbohielfiighaaV3
namespace Go.Proofs.Ytgbohielfiighaa.Dm
set_option maxRecDepth 4000
set_option linter.unusedVariables false
set_option linter.unusedSimpArgs false

theorem asOwn_SI (c : Int) {es : List (List Pd)} (h : okEs es = true) : asOwn E0.P [26, 3] ([.arr (.out 0), .p (.int .i64 c)], [.arr 9 1 16 false es]) = some ([.undef, .int .i64 c], [es]) := by
  have e : asOwnK E0.P [26, 3] ([.arr (.out 0), .p (.int .i64 c)], [.arr 9 1 16 false es]) = (if okEs es = true then some ([.undef, .int .i64 c], [es]) else none) := by kernel_rfl
  rw [asOwnK_eq, e, if_pos h]
/-! ### how long the variables' names are, together -/
def sN : List ByteArray → Nat
  | [] => 0
  | t :: ts => t.size + sN ts
theorem sN_eq : ∀ ts : List ByteArray, wEs (ts.map encS) = sN ts
  | [] => by rw [List.map_nil, wEs]; rfl
  | t :: ts => by
    have e : wC (encS t) = t.size := by unfold encS; simp [wC, wP]
    rw [List.map_cons, wEs, sN_eq ts, e]; rfl
theorem sN_app : ∀ a b : List ByteArray, sN (a ++ b) = sN a + sN b
  | [], b => by simp [sN]
  | t :: a, b => by rw [List.cons_append, sN, sN, sN_app a b]; omega
theorem sN_addV (o : List ByteArray) (t : ByteArray) : sN (addV o t) ≤ sN o + t.size := by
  unfold addV; split
  · omega
  · rw [sN_app]; simp [sN]
theorem sN_addVs : ∀ (ts o : List ByteArray), sN (addVs o ts) ≤ sN o + sN ts
  | [], o => by simp [addVs, sN]
  | t :: ts, o => by
    have h1 := sN_addVs ts (addV o t)
    have h2 := sN_addV o t
    have h3 : addVs o (t :: ts) = addVs (addV o t) ts := rfl
    rw [h3, sN]; omega
theorem sN_vV (v : GVal) : sN (vV v) ≤ v.t.size := by unfold vV; split <;> simp [sN]
theorem sN_vA : ∀ xs : List GArg, sN (vA xs) ≤ wEs (xs.map GArg.enc)
  | [] => by simp [vA, sN]
  | x :: xs => by
    have h1 := sN_vA xs
    have h2 := sN_vV x.val
    have e : wC x.enc = x.name.size + x.val.t.size := by unfold GArg.enc; simp only [wC, wP]; omega
    rw [vA, sN_app, List.map_cons, wEs, e]; omega
theorem sN_vD : ∀ xs : List GDir, sN (vD xs) ≤ wEs (xs.map GDir.enc)
  | [] => by simp [vD, sN]
  | x :: xs => by
    have h1 := sN_vD xs
    have h2 := sN_vV x.val
    have e : wC x.enc = x.val.t.size := by unfold GDir.enc; simp only [wC, wP]; omega
    rw [vD, sN_app, List.map_cons, wEs, e]; omega
mutual
theorem sN_vS : ∀ x : GSel, sN (vS x) ≤ wC x.enc
  | .mk k a n args dirs sels => by
    have h1 := sN_vA args
    have h2 := sN_vD dirs
    have h3 := sN_vSs sels
    have e : wC (GSel.mk k a n args dirs sels).enc = a.size + n.size + ((args.map GArg.enc).length + wEs (args.map GArg.enc)) + ((dirs.map GDir.enc).length + wEs (dirs.map GDir.enc)) + ((GSel.encs sels).length + wEs (GSel.encs sels)) := by unfold GSel.enc; simp only [wC, wP]; omega
    rw [vS, sN_app, sN_app, e]
    omega
theorem sN_vSs : ∀ xs : List GSel, sN (vSs xs) ≤ wEs (GSel.encs xs)
  | [] => by simp [vSs, sN]
  | x :: xs => by
    have h1 := sN_vS x
    have h2 := sN_vSs xs
    rw [vSs, sN_app, GSel.encs, wEs]
    omega
end
theorem sN_vDoc : ∀ xs : List GDef, sN (vDoc xs) ≤ wEs (xs.map GDef.enc)
  | [] => by simp [vDoc, sN]
  | d :: ds => by
    have h1 := sN_vSs d.sels
    have h2 := sN_vDoc ds
    rw [GSel.encs_eq] at h1
    have e : wC d.enc = d.name.size + (d.on.size + (d.sels.map GSel.enc).length + wEs (d.sels.map GSel.enc)) := by unfold GDef.enc; simp only [wC, wP]; omega
    rw [vDoc, sN_app, List.map_cons, wEs, e]
    omega
theorem law_UsedVars {xs : List GDef} (hx : okL okDef xs) : ev E0 F_laws_FnExactUsedVars [.p (.agg 1 [.sl 4 (xs.map GDef.enc)])] [] = rB true := by
  have hw := wf_DefS hx
  have hl : (xs.map GDef.enc).length ≤ 9223372036854775807 := len_map hx.1
  have h1 := szDoc_ev (v0 := xs.map GDef.enc) (szDefS_ev _ hl hw) 1048576 (by omega) (by omega)
  by_cases hs : (((xs.map GDef.enc).length + wEs (xs.map GDef.enc) : Nat) : Int) ≤ 1048576
  · have hb : (xs.map GDef.enc).length ≤ 1048576 := by omega
    have hc : wEs (xs.map GDef.enc) ≤ 1048576 := by omega
    have hv := vDoc_len xs
    have h2 := spec_UsedVars_ev hx (by omega)
    have h3 := impl_UsedVars_ev hx (by omega)
    have h4 := eqDoc_ev (v0 := xs.map GDef.enc) (eqDefS_ev _ hl hw)
    have h5 := toDoc_ev (v0 := xs.map GDef.enc) hb hc hw
    have h6 := coldDoc (v0 := xs.map GDef.enc) hw
    have hcold : (ev E0 F_laws_toDoc [.p (.agg 1 [.sl 4 (xs.map GDef.enc)])] []).bind coldR = rA 1 [.sl 4 (xs.map GDef.enc)] := by rw [h5]; exact h6
    have hcd : colds (ownEs T0 ckDef (xs.map GDef.enc)) = xs.map GDef.enc := colds_own _ _ hw
    -- the marks on the document
    have hm := cEs_le T0_le (xs.map GDef.enc) 4 hw
    have h7 := markDoc_ev (v0 := xs.map GDef.enc) hb hc hw 1 (by omega) (by omega)
    -- the answer
    have hr : ∀ t ∈ varsR xs, okS t := by
      intro t ht
      unfold varsR at ht
      split at ht
      · rcases addVs_mem.1 ht with q | q
        · cases q
        · exact vDoc_ok hx.2 t q
      · cases ht
    have hrl : (varsR xs).length ≤ 1048576 := by
      unfold varsR
      split
      · have := addVs_len (vDoc xs) []; simp at this; omega
      · simp
    have hwr := wf_S hr
    have hrb : ((varsR xs).map encS).length ≤ 1048576 := len_map hrl
    have h8 := eqStringS_ev ((varsR xs).map encS) (by omega) hwr
    have hrw : wEs ((varsR xs).map encS) ≤ 1048576 := by
      rw [sN_eq]
      have h := sN_vDoc xs
      unfold varsR
      split
      · have h2 := sN_addVs (vDoc xs) []
        simp [sN] at h2
        omega
      · simp [sN]
    have hm2 := cEs_le T0_le ((varsR xs).map encS) 0 hwr
    have h9 := markStringS_ev ((varsR xs).map encS) hrb hrw hwr 1 (by omega) (by omega)
    have h10 := heldStringS_ev ((varsR xs).map encS) hrb hrw hwr 1 (by omega) (by omega)
    rw [ownEs_flat T0 flatString, ownEs_flat T0 flatString] at h9
    have hck : colds (mkEs mt 1 ((varsR xs).map encS)) = mkEs mt 1 ((varsR xs).map encS) := by
      have := colds_own (T := T0) _ _ (wfEs_mk mt_size _ ckString 1 hwr)
      rw [ownEs_flat T0 flatString] at this
      exact this
    have hne : ∀ z : Int, (z != z) = false := fun z => by simp
    have hok := okEs_S (varsR xs)
    rw [laws_FnExactUsedVars_0_ev, laws_FnExactUsedVars_0_eq, h1, bI, szV_pos hs, decide_eq_false (by omega), cond_false, h5, Option.bind_some, asOwn_Doc, Option.bind_some]
    simp only [List.getD_cons_zero, List.getD_cons_succ, hcd]
    rw [h2, bLI, Option.bind_some, asOwn_Doc, Option.bind_some]
    simp only [List.getD_cons_zero, List.getD_cons_succ, hcd]
    rw [h3, Option.bind_some, asOwn_SI _ hok, Option.bind_some]
    simp only [List.getD_cons_zero, List.getD_cons_succ, asI, Option.bind_some]
    rw [h8, bB, Bool.not_true, cond_false, hne, laws_FnExactUsedVars_1_eq, cond_false, h5, Option.bind_some, asOwn_Doc, Option.bind_some]
    simp only [List.getD_cons_zero, List.getD_cons_succ, hcd]
    rw [h4, bB, Bool.not_true, cond_false, h7, bW, decide_eq_false (by omega), cond_false, h8, bB, Bool.not_true, cond_false, hne,
      laws_FnExactUsedVars_2_eq, cond_false, if_pos hok, h9, bW, hck, h10, bI, decide_eq_false (by omega), cond_false, hne, cond_false, h5, Option.bind_some, asOwn_Doc, Option.bind_some]
    simp only [List.getD_cons_zero, List.getD_cons_succ, hcd]
    rw [h3, Option.bind_some, asOwn_SI _ hok, Option.bind_some]
    simp only [List.getD_cons_zero, List.getD_cons_succ, asI, Option.bind_some]
    rw [h8, bB, Bool.not_true, cond_false, hne, laws_FnExactUsedVars_3_eq, cond_false, hck, h10, bI, decide_eq_false (by omega), cond_false, hne, cond_false]
  · rw [laws_FnExactUsedVars_0_ev, laws_FnExactUsedVars_0_eq, h1, bI, szV_neg hs]
    rfl
end Go.Proofs.Ytgbohielfiighaa.Dm
