/- For all bytes the law FnFragments returns true. -/
import Derived.Test.YtabomkmgnkjjfaaH6
import Derived.Test.YtabomkmgnkjjfaaW0
namespace Go.Proofs.Ytabomkmgnkjjfaa.Dm
set_option maxRecDepth 4000
set_option linter.unusedSectionVars false
set_option linter.unusedVariables false
set_option linter.unusedSimpArgs false

abbrev tNothing : ByteArray := ⟨#[110, 111, 116, 104, 105, 110, 103]⟩
theorem isText_ev {t : ByteArray} (h : t.size ≤ 65536) : ev E0 F_impl_isText [.p (.sl 1 [[.str t]])] [] = rB true := by
  have e1 : decide ((t.size : Int) > 65536) = false := decide_eq_false (by omega)
  have e0 : asStr ((([[.str t]] : List (List Pd)).getD ((0 : Int)).toNat []).getD 0 .undef) = some t := rfl
  rw [impl_isText_0_ev, impl_isText_0_eq, slices_ContainsFunc_string_string_0_ev, slices_ContainsFunc_string_string_0_eq, slices_IndexFunc_string_string_0_ev, slices_IndexFunc_string_string_0_eq, List.length_singleton]
  rw [slices_IndexFunc_string_string_1_eq, decide_eq_true (by omega), cond_true, if_pos (by simp), e0, Option.bind_some, impl_isText_1_0_ev, impl_isText_1_0_eq, e1, bB, cond_false, wrap_id (by omega), slices_IndexFunc_string_string_1_eq, decide_eq_false (by omega), cond_false, bI, bB]
  rfl
theorem fragD_fine {xs : List GDef} (hb : docB xs = true) (t : ByteArray) : fine 7 (fragD t xs).sels = true ∧ total xs ≤ 60 := by
  unfold docB at hb
  simp only [Bool.and_eq_true, decide_eq_true_eq] at hb
  refine ⟨?_, hb.2.2⟩
  unfold fragD
  cases e : fragL t xs with
  | none => rfl
  | some d =>
    have := List.all_eq_true.1 hb.2.1 d (fragL_mem e)
    unfold defB at this
    rw [Bool.and_eq_true] at this
    exact this.2
theorem FragmentOf_ev {xs : List GDef} (hx : okL okDef xs) (hb : docB xs = true) {t : ByteArray} (ht : t.size ≤ 65536) : ev E0 F_impl_FragmentOf [.p (.agg 1 [.sl 4 (xs.map GDef.enc)]), .p (.str t)] [] = rDI (fragD t xs) (bif fnd xs t then 0 else 5) := by
  obtain ⟨hf, h60⟩ := fragD_fine hb t
  have e3 : asSl 6 ((fragD t xs).enc.getD 3 .undef) = some ((fragD t xs).sels.map GSel.enc) := asSl_ _ _
  have hc := frag_cnts (xs := xs) t
  rw [impl_FragmentOf_0_ev, impl_FragmentOf_0_eq, isText_ev ht, bB, Bool.not_true, cond_false, impl_DocOK_ev hx, hb, bB, Bool.not_true, cond_false, Doc_fragment_ev hx.1, bDB, e3, Option.bind_some, copySels_ev 7 _ hf (by omega) (fragD_ok hx t).2.2, bL]
  change (bif !fnd xs t then _ else _) = _
  cases h : fnd xs t with
  | true => rfl
  | false =>
    unfold fnd at h
    unfold fragD
    cases e : fragL t xs with
    | none => rfl
    | some d => rw [e] at h; cases h
theorem cf_ok {n : ByteArray} (hn : n.size ≤ 100) {o : Option ByteArray} (ho : ∀ t, o = some t → t ∈ fghN) : okDef (cf n o) := by
  have h1 : okSel idSel := mkSel_ok (by show (0 : Nat) ≤ _; omega) (short_of (ws := [tId]) (by decide) (List.mem_singleton.2 rfl)) ok_nil ok_nil ok_nil
  have hN : tNode.size ≤ 9223372036854775807 := short_of (ws := [tNode]) (by decide) (List.mem_singleton.2 rfl)
  cases o with
  | none => exact ⟨by show n.size ≤ _; omega, hN, ok_one h1⟩
  | some t =>
    have h2 : okSel (spSel t) := mkSel_ok (by show (0 : Nat) ≤ _; omega) (short_of (by decide) (ho t rfl)) ok_nil ok_nil ok_nil
    refine ⟨by show n.size ≤ _; omega, hN, by show (2 : Nat) ≤ _; omega, fun x hx => ?_⟩
    rcases List.mem_cons.1 hx with rfl | hx
    · exact h1
    · rw [List.mem_singleton.1 hx]; exact h2
theorem cyc_ok {xs : List GSel} {a b c : Option ByteArray} (hx : okL okSel xs) (ht : ∀ t, a = some t ∨ b = some t ∨ c = some t → t ∈ fghN) : okL okDef (cycDoc xs a b c) := by
  refine ⟨by show (4 : Nat) ≤ _; omega, fun d hd => ?_⟩
  unfold cycDoc at hd
  simp only [List.mem_cons, List.not_mem_nil, or_false] at hd
  rcases hd with rfl | rfl | rfl | rfl
  · exact ⟨by show (0 : Nat) ≤ _; omega, by show (0 : Nat) ≤ _; omega, hx⟩
  · exact cf_ok (by decide) fun t h => ht t (.inl h)
  · exact cf_ok (by decide) fun t h => ht t (.inr (.inl h))
  · exact cf_ok (by decide) fun t h => ht t (.inr (.inr h))
theorem cf_kind (n : ByteArray) (o : Option ByteArray) : (cf n o).kind = 3 ∧ (cf n o).name = n ∧ (cf n o).on = tNode ∧ 0 < (cf n o).sels.length := by cases o <;> exact ⟨rfl, rfl, rfl, by simp [cf]⟩
def byteOK (l : List Int) : Prop := ∀ n ∈ l, 0 ≤ n ∧ n < 256
theorem law_Fragments {code : List Int} (hc : byteOK code) : ev E0 F_laws_FnFragments [.p (.sl 1 (code.map encB))] [] = rB true := by
  rw [laws_FnFragments_0_ev, laws_FnFragments_0_eq, List.length_map]
  by_cases hbig : (code.length : Int) > 1048576
  · rw [decide_eq_true hbig, cond_true]
  · rw [decide_eq_false hbig, cond_false]
    have hs := source_ok (code := code) hc (by omega) (m := 0 + yC) (by decide)
    obtain ⟨xs, a, b, c, s', e, ⟨hx, h1, h3⟩, ht⟩ := cyclic_ev hs
    have hd : ev E0 F_spec_CyclicDoc [.p (.sl 1 (code.map encB))] [] = rA 1 [.sl 4 ((cycDoc xs a b c).map GDef.enc)] := by
      rw [spec_CyclicDoc_0_ev, spec_CyclicDoc_0_eq, source_ev, Option.bind_some]
      have e1 : asBoxN 3 (([Ob.box 3 (Src.enc ⟨code, 0, (code.length : Int).tmod 1000⟩)] : List Ob).getD 0 .none) = some (Src.enc ⟨code, 0, (code.length : Int).tmod 1000⟩) := rfl
      rw [e1, Option.bind_some, if_pos ⟨rfl, rfl⟩, e, Option.bind_some]
      simp [pAt, asAgg, fbox_enc]
    have ho := cyc_ok (a := a) (b := b) (c := c) hx ht
    rw [hd, bA, spec_DocOK_ev ho, bB, impl_DocOK_ev ho]
    cases hb : docB (cycDoc xs a b c) with
    | false => rfl
    | true =>
      rw [Bool.not_true, cond_false]
      have ka := cf_kind tF a
      have kb := cf_kind tG b
      have kc := cf_kind tH c
      have f1 : fragL tF (cycDoc xs a b c) = some (cf tF a) := by
        unfold cycDoc
        rw [fragL_neg (fun q => absurd (show (1 : Int) = 3 from q.1) (by decide)), fragL_pos ⟨ka.1, ka.2.1⟩]
      have f2 : fragL tNothing (cycDoc xs a b c) = none := by
        unfold cycDoc
        rw [fragL_neg (fun q => absurd (show (1 : Int) = 3 from q.1) (by decide)), fragL_neg (fun q => by rw [ka.2.1] at q; exact absurd q.2 (by decide)), fragL_neg (fun q => by rw [kb.2.1] at q; exact absurd q.2 (by decide)), fragL_neg (fun q => by rw [kc.2.1] at q; exact absurd q.2 (by decide))]
        rfl
      have g1 : fragD tF (cycDoc xs a b c) = cf tF a := by unfold fragD; rw [f1]; rfl
      have n1 : fnd (cycDoc xs a b c) tF = true := by unfold fnd; rw [f1]; rfl
      have n2 : fnd (cycDoc xs a b c) tNothing = false := by unfold fnd; rw [f2]; rfl
      have hnd : (frN (cycDoc xs a b c)).Nodup := by
        have : frN (cycDoc xs a b c) = [tF, tG, tH] := by
          unfold cycDoc
          show frN (cf tF a :: cf tG b :: cf tH c :: []) = _
          unfold frN
          rw [if_pos ka.1, ka.2.1]
          unfold frN
          rw [if_pos kb.1, kb.2.1]
          unfold frN
          rw [if_pos kc.1, kc.2.1]
          rfl
        rw [this]
        decide
      obtain ⟨h7, h60⟩ := fragD_fine hb tF
      obtain ⟨cy, y1, y2⟩ := cycle_same ho h60 hnd
      have hop : opL 0 zeroDef [] (cycDoc xs a b c) = (⟨1, ⟨#[]⟩, ⟨#[]⟩, xs⟩, 0) := by
        unfold cycDoc
        rw [opL_op (fun q => absurd (show (1 : Int) = 3 from q) (by decide)), opL_frag ka.1 (by rfl), opL_frag kb.1 (by rw [ka.2.1, kb.2.1]; rfl), opL_frag kc.1 (by rw [ka.2.1, kb.2.1, kc.2.1]; rfl)]
        rfl
      have hfx : fine 7 xs = true ∧ cnts xs ≤ 60 := by
        unfold docB at hb
        simp only [Bool.and_eq_true, decide_eq_true_eq] at hb
        have hm : (⟨1, ⟨#[]⟩, ⟨#[]⟩, xs⟩ : GDef) ∈ cycDoc xs a b c := List.mem_cons_self ..
        have := List.all_eq_true.1 hb.2.1 _ hm
        unfold defB at this
        rw [Bool.and_eq_true] at this
        exact ⟨this.2, Nat.le_trans (cnts_total hm) h60⟩
      have i1 : ev E0 F_impl_HasCycle [.p (.agg 1 [.sl 4 ((cycDoc xs a b c).map GDef.enc)])] [] = some ([.p (.bool cy), .p (.int .i64 0)], []) := by
        rw [impl_HasCycle_0_ev, impl_HasCycle_0_eq, impl_DocOK_ev ho, hb, bB, Bool.not_true, cond_false, y1, bB]
      have i2 : ev E0 F_spec_HasCycle [.p (.agg 1 [.sl 4 ((cycDoc xs a b c).map GDef.enc)])] [] = some ([.p (.bool cy), .p (.int .i64 0)], []) := by
        rw [spec_HasCycle_0_ev, spec_HasCycle_0_eq, spec_DocOK_ev ho, hb, bB, Bool.not_true, cond_false, y2, bB]
      have i3 : ev E0 F_impl_OpOf [.p (.agg 1 [.sl 4 ((cycDoc xs a b c).map GDef.enc)])] [] = rDI ⟨1, ⟨#[]⟩, ⟨#[]⟩, xs⟩ 0 := by
        have e3 : asSl 6 ((GDef.enc ⟨1, ⟨#[]⟩, ⟨#[]⟩, xs⟩).getD 3 .undef) = some (xs.map GSel.enc) := asSl_ _ _
        rw [impl_OpOf_0_ev, impl_OpOf_0_eq, impl_DocOK_ev ho, hb, bB, Bool.not_true, cond_false, Doc_opOf_ev ho (by show (4 : Nat) ≤ _; omega), hop, bDI, e3, Option.bind_some, copySels_ev 7 xs hfx.1 hfx.2 hx, bL]
        rfl
      have i4 : ev E0 F_impl_ValueOK [.p (.agg 3 [.int .i64 3, .int .i64 0, .str (⟨#[]⟩ : ByteArray)])] [] = rB true :=
        (impl_ValueOK_ev (v := ⟨3, 0, ⟨#[]⟩⟩) (by show (0 : Nat) ≤ _; omega)).trans (by rfl)
      have b2' : ∀ {R : Type} (n : Int) (b : Bool) (K : Bool → Int → Option R), ((some ([.p (.bool b), .p (.int .i64 n)], []) : Option Res).bind fun r => (asBool (pAt 0 r.1)).bind fun b => (asInt .i64 (pAt 1 r.1)).bind fun n => if r.1.length = 2 then K b n else none) = K b n := by intros; simp [pAt, asInt, asBool]
      rw [FragmentOf_ev ho hb (by decide), bDI, FragmentOf_ev ho hb (by decide), bDI, i1, b2', i2, b2', i3, bDI, n1, n2, g1, i4]
      have q1 : asStr ((cf tF a).enc.getD 1 .undef) = some tF := by cases a <;> rfl
      have q2 : asStr ((cf tF a).enc.getD 2 .undef) = some tNode := by cases a <;> rfl
      have q3 : asSl 6 ((cf tF a).enc.getD 3 .undef) = some ((cf tF a).sels.map GSel.enc) := asSl_ _ _
      have q4 : asInt .i64 ((GDef.enc ⟨1, ⟨#[]⟩, ⟨#[]⟩, xs⟩).getD 0 .undef) = some 1 := asI _
      have q5 : (cy == cy) = true := by simp
      rw [q1, q2, q3, q4, Option.bind_some, Option.bind_some, Option.bind_some, Option.bind_some, q5, bB]
      have q6 : decide ((((cf tF a).sels.map GSel.enc).length : Int) > 0) = true := decide_eq_true (by rw [List.length_map]; have := ka.2.2.2; omega)
      rw [q6]
      rfl
def byteTypes : List TypeId := [22, 5]
theorem c_u8 : Try.prog.cellsOf 5 = 1 := by kernel_rfl
theorem dec_Bytes {xs : List Pd} (h : WT Try.prog 22 xs) : ∃ l : List Int, xs = [.sl 1 (l.map encB)] ∧ byteOK l := by
  obtain ⟨es, rfl, h1, h2, h3⟩ := WT.sl_inv Try.underlying22 h
  obtain ⟨l, rfl, hl⟩ := list_dec (f := encB) (ok := fun n => 0 ≤ n ∧ n < 256) (es := es) fun x hx => by
    obtain ⟨n, e, w⟩ := (h3 x hx).int_inv Try.underlying5
    refine ⟨n, e, ?_⟩
    have w : (decide ((0 : Int) ≤ n) && decide (n ≤ 255)) = true := w
    simp only [Bool.and_eq_true, decide_eq_true_eq] at w
    omega
  exact ⟨l, by rw [c_u8], hl⟩
end Go.Proofs.Ytabomkmgnkjjfaa.Dm
