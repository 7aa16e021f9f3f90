/- For every document and name the law FnExactFragmentOf returns true. -/
import Derived.Test.YtgbohielfiighaaV5
namespace Go.Proofs.Ytgbohielfiighaa.Dm
set_option maxRecDepth 4000
set_option linter.unusedVariables false
set_option linter.unusedSimpArgs false

abbrev rDI (d : GDef) (c : Int) : Option Res := some ([.p (.agg 4 d.enc), .p (.int .i64 c)], [])
theorem bDI {R : Type} (d : GDef) (c : Int) (K : List Pd → Int → Option R) : ((rDI d c).bind fun r => (asAgg 4 (pAt 0 r.1)).bind fun a => (asInt .i64 (pAt 1 r.1)).bind fun c => if r.1.length = 2 then K a c else none) = K d.enc c := by simp [pAt, asAgg, asInt]
abbrev rOwnDef (d : GDef) (c : Int) : Option Res := some ([.agg 4 [.p (.int .i64 d.kind), .p (.str d.name), .p (.str d.on), .arr (.out 0)], .p (.int .i64 c)], [.oarr 131 6 (ownEs T0 ckSel (d.sels.map GSel.enc))])
theorem def_enc (d : GDef) : ([.int .i64 d.kind, .str d.name, .str d.on, .sl 6 (d.sels.map GSel.enc)] : List Pd) = d.enc := rfl
theorem zero_own (c : Int) : (some ([.agg 4 [.p (.int .i64 0), .p (.str (⟨#[]⟩ : ByteArray)), .p (.str (⟨#[]⟩ : ByteArray)), .arr (.out 0)], .p (.int .i64 c)], [.oarr 131 6 []]) : Option Res) = rOwnDef zeroDef c := by
  unfold rOwnDef zeroDef
  rw [List.map_nil, ownEs]
theorem zero_ok : okDef zeroDef := ⟨Nat.zero_le _, Nat.zero_le _, Nat.zero_le _, fun x hx => by cases hx⟩
theorem isText_ev (key : ByteArray) : ev E0 F_impl_isText [.p (.sl 1 [[.str key]])] [] = rB (!decide ((key.size : Int) > 65536)) := by
  have e0 : asStr ((([[Pd.str key]] : List (List Pd)).getD ((0 : Int)).toNat []).getD 0 .undef) = some key := rfl
  have e1 : IntKind.i64.wrap ((0 : Int) + 1) = 1 := by decide
  have l1 : (([[Pd.str key]] : List (List Pd)).length : Int) = 1 := rfl
  rw [impl_isText_0_ev, impl_isText_0_eq, slices_ContainsFunc_string_string_0_ev, slices_ContainsFunc_string_string_0_eq, slices_IndexFunc_string_string_0_ev, slices_IndexFunc_string_string_0_eq, slices_IndexFunc_string_string_1_eq, l1, decide_eq_true (by omega), cond_true, if_pos (by omega), e0, Option.bind_some, impl_isText_1_0_ev, impl_isText_1_0_eq, bB, e1]
  cases h : decide ((key.size : Int) > 65536) with
  | true => rw [cond_true, bI, bB]; rfl
  | false => rw [cond_false, slices_IndexFunc_string_string_1_eq, decide_eq_false (by omega), cond_false, bI, bB]; rfl
theorem l02OwnDef_ev {d : GDef} (hd : okDef d) (hl : (d.sels.map GSel.enc).length ≤ 1048576) (hw : wEs (d.sels.map GSel.enc) ≤ 1048576) : ev E0 F_spec_l02OwnDef [.p (.agg 4 d.enc)] [] = rA 4 d.enc := by
  unfold GDef.enc
  rw [spec_l02OwnDef_0_ev, spec_l02OwnDef_0_eq, l02OwnSels_ev _ hl hw (wf_SelS hd.2.2), bL]
def fragA (xs : List GDef) (t : ByteArray) : GDef × Int := if t.size > 65536 then (zeroDef, 2) else if docB xs = true then (fragD t xs, if (fragL t xs).isSome = true then 0 else 5) else (zeroDef, 1)
theorem fragD_none {xs : List GDef} {t : ByteArray} (h : (fragL t xs).isSome = false) : fragD t xs = zeroDef := by
  unfold fragD
  cases hq : fragL t xs with
  | none => rfl
  | some d => rw [hq] at h; cases h
theorem spec_FragmentOf_ev {xs : List GDef} (hx : okL okDef xs) (hw : wEs (xs.map GDef.enc) ≤ 1048576) (t : ByteArray) : ev E0 F_spec_FragmentOf [.p (.agg 1 [.sl 4 (xs.map GDef.enc)]), .p (.str t)] [] = rDI (fragA xs t).1 (fragA xs t).2 := by
  rw [spec_FragmentOf_0_ev, spec_FragmentOf_0_eq]
  unfold fragA
  by_cases hs : t.size > 65536
  · rw [decide_eq_true (by omega), cond_true, if_pos hs]
    rfl
  rw [decide_eq_false (by omega), cond_false, if_neg hs, spec_DocOK_ev hx, bB]
  cases hb : docB xs with
  | false => rfl
  | true =>
    have hfw := fragD_w (xs := xs) t
    rw [Bool.not_true, cond_false, l02Fragment_ev hx.1, bDB, if_pos rfl]
    cases hi : (fragL t xs).isSome with
    | false =>
      rw [Bool.not_false, cond_true, fragD_none hi]
      rfl
    | true =>
      rw [Bool.not_true, cond_false, l02OwnDef_ev (fragD_ok hx t) (by omega) (by omega), bA]
      rfl
theorem def_sels0 (d : GDef) : asSl 6 ((GDef.enc d).getD 3 .undef) = some (d.sels.map GSel.enc) := rfl
theorem impl_FragmentOf_ev {xs : List GDef} (hx : okL okDef xs) (hw : wEs (xs.map GDef.enc) ≤ 1048576) (t : ByteArray) : ev E0 F_impl_FragmentOf [.p (.agg 1 [.sl 4 (xs.map GDef.enc)]), .p (.str t)] [] = rOwnDef (fragA xs t).1 (fragA xs t).2 := by
  rw [impl_FragmentOf_0_ev, impl_FragmentOf_0_eq, isText_ev, bB]
  unfold fragA
  by_cases hs : t.size > 65536
  · rw [decide_eq_true (by omega), Bool.not_true, Bool.not_false, cond_true, if_pos hs]
    exact zero_own 2
  rw [decide_eq_false (by omega), Bool.not_false, Bool.not_true, cond_false, if_neg hs, impl_DocOK_ev hx, bB]
  cases hb : docB xs with
  | false => exact zero_own 1
  | true =>
    have hfw := fragD_w (xs := xs) t
    rw [Bool.not_true, cond_false, Doc_fragment_ev hx.1, bDB, if_pos rfl]
    cases hi : (fragL t xs).isSome with
    | false =>
      rw [Bool.not_false, cond_true, fragD_none hi]
      exact zero_own 5
    | true =>
      rw [Bool.not_true, cond_false, def_sels0, Option.bind_some, copySels_ev _ (by omega) (by omega) (wf_SelS (fragD_ok hx t).2.2), Option.bind_some, asOwn_SelS, Option.bind_some]
      rfl
theorem fragA_fine {xs : List GDef} (hx : okL okDef xs) (hw : wEs (xs.map GDef.enc) ≤ 1048576) (t : ByteArray) : okDef (fragA xs t).1 ∧ ((fragA xs t).1.sels.map GSel.enc).length + wEs ((fragA xs t).1.sels.map GSel.enc) ≤ 1048576 := by
  have hz : okDef zeroDef ∧ (zeroDef.sels.map GSel.enc).length + wEs (zeroDef.sels.map GSel.enc) ≤ 1048576 := ⟨zero_ok, by simp [zeroDef, wEs]⟩
  unfold fragA
  split
  · exact hz
  · split
    · have := fragD_w (xs := xs) t
      exact ⟨fragD_ok hx t, Nat.le_trans this hw⟩
    · exact hz
theorem law_FragmentOf {xs : List GDef} (hx : okL okDef xs) (t : ByteArray) : ev E0 F_laws_FnExactFragmentOf [.p (.agg 1 [.sl 4 (xs.map GDef.enc)]), .p (.str t)] [] = rB true := by
  have hw := wf_DefS hx
  have hl : (xs.map GDef.enc).length ≤ 9223372036854775807 := len_map hx.1
  have h1 := szDoc_ev (v0 := xs.map GDef.enc) (szDefS_ev _ hl hw) 1048576 (by omega) (by omega)
  by_cases hks : t.size > 1048576
  · rw [laws_FnExactFragmentOf_0_ev, laws_FnExactFragmentOf_0_eq, decide_eq_true (by omega)]
    rfl
  by_cases hs : (((xs.map GDef.enc).length + wEs (xs.map GDef.enc) : Nat) : Int) ≤ 1048576
  · have hb : (xs.map GDef.enc).length ≤ 1048576 := by omega
    have hc : wEs (xs.map GDef.enc) ≤ 1048576 := by omega
    have h2 := spec_FragmentOf_ev hx hc t
    have h3 := impl_FragmentOf_ev hx hc t
    have h4 := eqDoc_ev (v0 := xs.map GDef.enc) (eqDefS_ev _ hl hw)
    have h5 := toDoc_ev (v0 := xs.map GDef.enc) hb hc hw
    have hcd : colds (ownEs T0 ckDef (xs.map GDef.enc)) = xs.map GDef.enc := colds_own _ _ hw
    have hm := cEs_le T0_le (xs.map GDef.enc) 4 hw
    have h7 := markDoc_ev (v0 := xs.map GDef.enc) hb hc hw 1 (by omega) (by omega)
    obtain ⟨g1, g2⟩ := fragA_fine hx hc t
    generalize fragA xs t = gc at h2 h3 g1 g2
    obtain ⟨g, c⟩ := gc
    dsimp only at h2 h3 g1 g2
    unfold rOwnDef at h3
    have hgw := wf_SelS g1.2.2
    have hgb : (g.sels.map GSel.enc).length ≤ 1048576 := by omega
    have hgc : wEs (g.sels.map GSel.enc) ≤ 1048576 := by omega
    have hgd : colds (ownEs T0 ckSel (g.sels.map GSel.enc)) = g.sels.map GSel.enc := colds_own _ _ hgw
    have h8 : ev E0 F_laws_eqDef [.p (.agg 4 [.int .i64 g.kind, .str g.name, .str g.on, .sl 6 (g.sels.map GSel.enc)]), .p (.agg 4 g.enc)] [] = rB true := eqDef_ev (v0 := g.kind) (v1 := g.name) (v2 := g.on) (v3 := g.sels.map GSel.enc) (eqSelS_ev _ (by omega) hgw)
    have hm2 := cEs_le T0_le (g.sels.map GSel.enc) 3 hgw
    have h9 := markDef_ev (v0 := g.kind) (v1 := g.name) (v2 := g.on) (v3 := g.sels.map GSel.enc) hgb hgc hgw 1 (by omega) (by omega)
    have h10 := heldDef_ev (v0 := g.kind) (v1 := g.name) (v2 := g.on) (v3 := g.sels.map GSel.enc) hgb hgc hgw 1 (by omega) (by omega)
    have hck : colds (ownEs T0 ckSel (mkEs mt 1 (g.sels.map GSel.enc))) = mkEs mt 1 (g.sels.map GSel.enc) := colds_own _ _ (wfEs_mk mt_size _ ckSel 1 hgw)
    have hne : ∀ z : Int, (z != z) = false := fun z => by simp
    rw [laws_FnExactFragmentOf_0_ev, laws_FnExactFragmentOf_0_eq, decide_eq_false (by omega), cond_false, h1, bI, szV_pos hs, decide_eq_false (by omega), cond_false, h5, Option.bind_some, asOwn_Doc, Option.bind_some]
    simp only [List.getD_cons_zero, List.getD_cons_succ, hcd]
    rw [h2, bDI, Option.bind_some, asOwn_Doc, Option.bind_some]
    simp only [List.getD_cons_zero, List.getD_cons_succ, hcd]
    rw [h3, Option.bind_some, asOwn_Def2, Option.bind_some]
    simp only [List.getD_cons_zero, List.getD_cons_succ, asI, asS_, Option.bind_some, hgd]
    rw [h8, bB, Bool.not_true, cond_false, hne, laws_FnExactFragmentOf_1_eq, cond_false, h5, Option.bind_some, asOwn_Doc, Option.bind_some]
    simp only [List.getD_cons_zero, List.getD_cons_succ, hcd]
    rw [h4, bB, Bool.not_true, cond_false, h7, bW, decide_eq_false (by omega), cond_false, hgd, h8, bB, Bool.not_true, cond_false, hne,
      laws_FnExactFragmentOf_2_eq, cond_false, h9, bW, hck, h10, bI, decide_eq_false (by omega), cond_false, hne, cond_false, h5, Option.bind_some, asOwn_Doc, Option.bind_some]
    simp only [List.getD_cons_zero, List.getD_cons_succ, hcd]
    rw [h3, Option.bind_some, asOwn_Def2, Option.bind_some]
    simp only [List.getD_cons_zero, List.getD_cons_succ, asI, asS_, Option.bind_some, hgd]
    rw [h8, bB, Bool.not_true, cond_false, hne, laws_FnExactFragmentOf_3_eq, cond_false, hck, h10, bI, decide_eq_false (by omega), cond_false, hne, cond_false]
  · rw [laws_FnExactFragmentOf_0_ev, laws_FnExactFragmentOf_0_eq, decide_eq_false (by omega), cond_false, h1, bI, szV_neg hs]
    rfl
end Go.Proofs.Ytgbohielfiighaa.Dm
