/- What a run's code is: writes that are right, data that is right, errors that are paths. -/
import Derived.Test.YtbadompnhhhfpaaGreatDoorAE8
namespace Go.Proofs.YtbadompnhhhfpaaGreatDoor.Dm
set_option linter.unusedVariables false
set_option linter.unusedSimpArgs false
set_option maxRecDepth 4000
structure GPut where
  key : Int
  value : Int
def GPut.enc (p : GPut) : List Pd := [.int .i64 p.key, .int .i64 p.value]
def valB (k v : Int) : Bool := bif (k.tmod 2 : Int) == 1 then withinB v 0 8 else withinB v (-2147483648) 2147483647
def putB (p : GPut) : Bool := withinB p.key 0 15 && valB p.key p.value
def putsB (ps : List GPut) : Bool := ps.all putB && decide (ps.length ≤ 400)
theorem spec_value_ev (k v : Int) : ev E0 F_spec_l06Value [.p (.int .i64 k), .p (.int .i64 v)] [] = rB (valB k v) := by
  rw [spec_l06Value_0_ev, spec_l06Value_0_eq, l01In_ev, bB, spec_IsInt_ev, bB]
  unfold valB
  cases (k.tmod 2 : Int) == 1 <;> rfl
theorem impl_fits_ev (k v : Int) : ev E0 F_impl_fits [.p (.int .i64 k), .p (.int .i64 v)] [] = rB (valB k v) := by
  rw [impl_fits_0_ev, impl_fits_0_eq, within_ev, bB, impl_IsInt_ev, bB]
  unfold valB
  cases (k.tmod 2 : Int) == 1 <;> rfl
theorem impl_isPut_ev (p : GPut) : ev E0 F_impl_isPut [.p (.agg 2 p.enc)] [] = rB (putB p) := by
  have h1 : ev E0 F_impl_isKey [.p (.int .i64 p.key)] [] = rB (withinB p.key 0 15) := by
    rw [impl_isKey_0_ev, impl_isKey_0_eq, within_ev, bB]
  unfold GPut.enc putB
  rw [impl_isPut_0_ev, impl_isPut_0_eq, h1, bB, impl_fits_ev, bB]
  cases withinB p.key 0 15 <;> rfl
section
variable {ps : List GPut}
theorem spec_puts_ev (hl : ps.length ≤ 1000000000) : ev E0 F_spec_l06Puts [.p (.sl 2 (ps.map GPut.enc))] [] = rB (putsB ps) := by
  have hlen : (ps.map GPut.enc).length = ps.length := by simp
  have hle : decide (((ps.length : Nat) : Int) ≤ 400) = decide (ps.length ≤ 400) := by
    by_cases h : ps.length ≤ 400
    · rw [decide_eq_true h, decide_eq_true (by omega)]
    · rw [decide_eq_false h, decide_eq_false (by omega)]
  have loop : ∀ (m i : Nat), i + m = ps.length → spec_l06Puts_1 (ps.map GPut.enc) i = rB ((ps.drop i).all putB && decide (ps.length ≤ 400)) := by
    intro m
    induction m with
    | zero =>
      intro i h
      rw [spec_l06Puts_1_eq, hlen, decide_eq_false (by omega), cond_false, hle, List.drop_of_length_le (by omega)]
      rfl
    | succ m ih =>
      intro i h
      have hlt : i < ps.length := by omega
      have hg : ps[i]? = some ps[i] := List.getElem?_eq_getElem hlt
      have e1 : asInt .i64 ((GPut.enc ps[i]).getD 0 .undef) = some ps[i].key := asI _
      have e2 : asInt .i64 (((GPut.enc ps[i]).drop 1).getD 0 .undef) = some ps[i].value := asI _
      have hw : IntKind.i64.wrap ((i : Int) + 1) = ((i + 1 : Nat) : Int) := by rw [wrap_id (by omega)]; omega
      have fin : ∀ x : Bool, spec_l06Puts_2 (ps.map GPut.enc) i x = rB (!x && ((ps.drop (i + 1)).all putB && decide (ps.length ≤ 400))) := fun x => by
        rw [spec_l06Puts_2_eq]
        cases x
        · rw [cond_false, hw, ih (i + 1) (by omega)]; rfl
        · rfl
      rw [spec_l06Puts_1_eq, hlen, decide_eq_true (by omega), cond_true, if_pos (by omega), getD_enc hg, e1, Option.bind_some, l01In_ev, bB, if_pos (by omega), Option.bind_some, if_pos (by omega), e2, Option.bind_some, spec_value_ev, bB, fin, fin, List.drop_eq_getElem_cons hlt, List.all_cons]
      unfold putB
      cases withinB ps[i].key 0 15 <;> cases valB ps[i].key ps[i].value <;> rfl
  have := loop ps.length 0 (by omega)
  rw [List.drop_zero] at this
  rw [spec_l06Puts_0_ev, spec_l06Puts_0_eq]
  exact this
theorem impl_puts_ev (hl : ps.length ≤ 1000000000) : ev E0 F_impl_arePuts [.p (.sl 2 (ps.map GPut.enc))] [] = rB (putsB ps) := by
  have hlen : (ps.map GPut.enc).length = ps.length := by simp
  have clo : ∀ p : GPut, ev E0 F_impl_arePuts_1 [.p (.agg 2 p.enc)] [] = rB (!putB p) := fun p => by
    have h := impl_isPut_ev p
    unfold GPut.enc at h ⊢
    rw [impl_arePuts_1_0_ev, impl_arePuts_1_0_eq, h, bB]
  have hle : decide (((ps.length : Nat) : Int) ≤ 400) = decide (ps.length ≤ 400) := by
    by_cases h : ps.length ≤ 400
    · rw [decide_eq_true h, decide_eq_true (by omega)]
    · rw [decide_eq_false h, decide_eq_false (by omega)]
  obtain ⟨r, h1, h2⟩ := index_loop (n := ps.length) (L := fun i => slices_IndexFunc_impl_Put_impl_Put_1 (ps.map GPut.enc) (ps.length : Int) i) (f := fun i => !putB (ps.getD i ⟨0, 0⟩)) (by omega) (fun i hi => by
      have e : ps.getD i ⟨0, 0⟩ = ps[i] := by rw [List.getD_eq_getElem?_getD, List.getElem?_eq_getElem hi]; rfl
      have hg : ps[i]? = some ps[i] := List.getElem?_eq_getElem hi
      show slices_IndexFunc_impl_Put_impl_Put_1 (ps.map GPut.enc) (ps.length : Int) i = _
      rw [slices_IndexFunc_impl_Put_impl_Put_1_eq, decide_eq_true (by omega), cond_true, hlen, if_pos (by omega), getD_enc hg, clo, bB, e])
    (by show slices_IndexFunc_impl_Put_impl_Put_1 (ps.map GPut.enc) (ps.length : Int) (ps.length : Int) = _
        rw [slices_IndexFunc_impl_Put_impl_Put_1_eq, decide_eq_false (by omega), cond_false]) ps.length 0 (by omega)
  have h1 : slices_IndexFunc_impl_Put_impl_Put_1 (ps.map GPut.enc) (ps.length : Int) 0 = rI r := h1
  have hany : ((List.range ps.length).any fun j => !putB (ps.getD (0 + j) ⟨0, 0⟩)) = ps.any fun w => !putB w := any_range (f := fun w => !putB w) (g := fun i => !putB (ps.getD i ⟨0, 0⟩)) fun i hi => by
    have e : ps.getD i ⟨0, 0⟩ = ps[i] := by rw [List.getD_eq_getElem?_getD, List.getElem?_eq_getElem hi]; rfl
    show (!putB (ps.getD i ⟨0, 0⟩)) = !putB ps[i]
    rw [e]
  have ha : (!ps.any fun w => !putB w) = ps.all putB := by
    rw [List.any_eq_not_all_not, Bool.not_not]
    simp
  rw [impl_arePuts_0_ev, impl_arePuts_0_eq, hlen, hle, slices_ContainsFunc_impl_Put_impl_Put_0_ev, slices_ContainsFunc_impl_Put_impl_Put_0_eq, slices_IndexFunc_impl_Put_impl_Put_0_ev, slices_IndexFunc_impl_Put_impl_Put_0_eq, hlen, h1, bI, h2, hany, bB, ha]
  unfold putsB
  by_cases h : ps.length ≤ 400
  · rw [decide_eq_true h, cond_true, Bool.and_true]
  · rw [decide_eq_false h, cond_false, Bool.and_false]
end
noncomputable def codeR (ds : List GDef) (need : Int) (ps : List GPut) (o : GOut) (es : List ByteArray) : Int :=
  if (docB ds && (decide ((opL 0 zeroDef [] ds).2 = 0) && (outB o && (putsB ps && es.all pathB)))) = true then (if need = -1 then 0 else 5) else 1
section
variable {ds : List GDef} {need : Int} {rs : List (List Pd)} {ps : List GPut} {k n : Int} {t : ByteArray} {ks : List ByteArray} {is : List GOut} {es : List ByteArray}
theorem bne_dec (a b : Int) : (a != b) = !decide (a = b) := bne_int a b
theorem spec_code_ev (hd : okL okDef ds) (hp : ps.length ≤ 1000000000) (ho : okOut (.mk k n t ks is)) (hz : ∀ s ∈ es, s.size ≤ 1000000000) (hl : es.length ≤ 1000000000) :
    ev E0 F_spec_l09RunOK [.p (.agg 1 [.sl 4 (ds.map GDef.enc)]), .p (.agg 9 [.int .i64 need, .sl 1 rs, .sl 2 (ps.map GPut.enc), .int .i64 k, .int .i64 n, .str t, .sl 1 (ks.map encS), .sl 5 (GOut.encs is), .sl 1 (es.map encS)])] [] = rI (codeR ds need ps (.mk k n t ks is) es) := by
  have h1 := spec_OutOK_ev ho
  unfold GOut.enc at h1
  have hlen : (es.map encS).length = es.length := by simp
  have loop : ∀ (m i : Nat), i + m = es.length → spec_l09RunOK_2 i need rs (ps.map GPut.enc) k n t (ks.map encS) (GOut.encs is) (es.map encS) = rI (if (es.drop i).all pathB = true then (if need = -1 then 0 else 5) else 1) := by
    intro m
    induction m with
    | zero =>
      intro i h
      rw [spec_l09RunOK_2_eq, hlen, decide_eq_false (by omega), cond_false, List.drop_of_length_le (by omega), bne_dec]
      by_cases h0 : need = -1
      · rw [decide_eq_true h0, h0]; rfl
      · rw [decide_eq_false h0, if_pos (show ([] : List ByteArray).all pathB = true from rfl), if_neg h0]; rfl
    | succ m ih =>
      intro i h
      have hlt : i < es.length := by omega
      have hg : es[i]? = some es[i] := List.getElem?_eq_getElem hlt
      have e1 : asStr ((encS es[i]).getD 0 .undef) = some es[i] := rfl
      have hw : IntKind.i64.wrap ((i : Int) + 1) = ((i + 1 : Nat) : Int) := by rw [wrap_id (by omega)]; omega
      rw [spec_l09RunOK_2_eq, hlen, decide_eq_true (by omega), cond_true, if_pos (by omega), getD_enc hg, e1, Option.bind_some, spec_path_ev (hz _ (List.getElem_mem hlt)), bB, List.drop_eq_getElem_cons hlt, List.all_cons]
      cases hP : pathB es[i] with
      | false => rfl
      | true => rw [Bool.not_true, cond_false, hw, ih (i + 1) (by omega), Bool.true_and]
  have l0 := loop es.length 0 (by omega)
  rw [List.drop_zero] at l0
  have l0 : spec_l09RunOK_2 0 need rs (ps.map GPut.enc) k n t (ks.map encS) (GOut.encs is) (es.map encS) = _ := l0
  have fin : ∀ x : Bool, spec_l09RunOK_1 x need rs (ps.map GPut.enc) k n t (ks.map encS) (GOut.encs is) (es.map encS) = rI (if (!x && es.all pathB) = true then (if need = -1 then 0 else 5) else 1) := fun x => by
    rw [spec_l09RunOK_1_eq]
    cases x
    · rw [cond_false, l0]; rfl
    · rfl
  rw [spec_l09RunOK_0_ev, spec_l09RunOK_0_eq, l04Op_ev hd, bDI, spec_DocOK_ev hd, bB, h1, bB, spec_puts_ev hp, bB, fin, fin, bne_dec]
  unfold codeR
  cases docB ds <;> cases decide ((opL 0 zeroDef [] ds).2 = 0) <;> cases outB (.mk k n t ks is) <;> cases putsB ps <;> rfl
theorem impl_code_ev (hd : okL okDef ds) (hdl : ds.length ≤ 1048576) (hp : ps.length ≤ 1000000000) (ho : okOut (.mk k n t ks is)) (hz : ∀ s ∈ es, s.size ≤ 1000000000) (hl : es.length ≤ 1000000000) :
    ev E0 F_impl_doneCode [.p (.agg 1 [.sl 4 (ds.map GDef.enc)]), .p (.agg 9 [.int .i64 need, .sl 1 rs, .sl 2 (ps.map GPut.enc), .int .i64 k, .int .i64 n, .str t, .sl 1 (ks.map encS), .sl 5 (GOut.encs is), .sl 1 (es.map encS)])] [] = rI (codeR ds need ps (.mk k n t ks is) es) := by
  have h1 := impl_OutOK_ev ho
  unfold GOut.enc at h1
  have fin : ∀ x : Bool, impl_doneCode_1 x need rs (ps.map GPut.enc) k n t (ks.map encS) (GOut.encs is) (es.map encS) = rI (if (!x) = true then (if need = -1 then 0 else 5) else 1) := fun x => by
    rw [impl_doneCode_1_eq, bne_dec]
    cases x
    · by_cases h0 : need = -1
      · rw [decide_eq_true h0, h0]; rfl
      · rw [decide_eq_false h0, Bool.not_false, if_pos rfl, if_neg h0]; rfl
    · rfl
  rw [impl_doneCode_0_ev, impl_doneCode_0_eq, impl_DocOK_ev hd, bB, Doc_opOf_ev hd hdl, bDI, h1, bB, impl_puts_ev hp, bB, impl_arePaths_ev hz hl, bB, fin, fin, bne_dec]
  unfold codeR
  cases docB ds <;> cases decide ((opL 0 zeroDef [] ds).2 = 0) <;> cases outB (.mk k n t ks is) <;> cases putsB ps <;> cases es.all pathB <;> rfl
end
end Go.Proofs.YtbadompnhhhfpaaGreatDoor.Dm
