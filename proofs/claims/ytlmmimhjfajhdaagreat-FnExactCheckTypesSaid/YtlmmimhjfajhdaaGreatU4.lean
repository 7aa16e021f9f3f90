/- For every schema and document the law FnExactCheckTypes returns true. -/
import Derived.Test.YtlmmimhjfajhdaaGreatU3
namespace Go.Proofs.YtlmmimhjfajhdaaGreat.Dm
set_option linter.unusedVariables false
set_option linter.unusedSimpArgs false

def dirG (d : GDir) : Bool := decide (d.val.kind = 2) || decide (d.val.kind = 4)
def dirsG (dirs : List GDir) : Bool := allI (fun _ d => dirG d) 0 dirs
def fragOn (D : List GDef) (n nm : ByteArray) : Bool := match D.find? (fragP n) with
  | some d => decide (d.on = nm)
  | none => false
mutual
def selC (S : List GTD) (D : List GDef) : ByteArray → GSel → Int
  | nm, .mk k _ n args dirs sels => bif dirsG dirs then (bif decide (k = 2) then (bif fragOn D n nm then 0 else 12) else
      bif decide (k = 3) then (bif decide (n = sNone) || decide (n = nm) then selsC S D nm sels else 12) else
      bif decide (n = sTn) then (bif decide (0 < args.length) then 10 else (bif decide (0 < sels.length) then 11 else 0)) else
      match S.find? (nmT nm) with
      | none => 0
      | some t => match t.fields.find? (nmF n) with
        | none => 9
        | some f => bif argsN f args == 0 then (bif decide (f.type = sInt) == decide (sels.length = 0) then selsC S D f.type sels else 11) else argsN f args) else 10
def selsC (S : List GTD) (D : List GDef) : ByteArray → List GSel → Int
  | _, [] => 0
  | nm, x :: xs => bif selC S D nm x == 0 then selsC S D nm xs else selC S D nm x
end
theorem selB_cases' {k : Int} {al nm : ByteArray} {args : List GArg} {dirs : List GDir} {sels : List GSel} (h : selB (.mk k al nm args dirs sels) = true) : (∀ d ∈ dirs, dirB d = true) ∧ (∀ a ∈ args, argB a = true) ∧ dirs.length ≤ 4 ∧ args.length ≤ 4 ∧ kindB k al nm args.length sels.length = true := by
  unfold selB at h
  simp only [Bool.and_eq_true, List.all_eq_true, decide_eq_true_eq] at h
  exact ⟨h.1, h.2.1, h.2.2.1.1, h.2.2.1.2, h.2.2.2⟩
theorem bne_def (a b : Int) : (a != b) = !(a == b) := rfl
theorem boolP (a : Bool) : (bif !a then (some ([.p (.str sNone), .p (.int .i64 12)], []) : Option Res) else some ([.p (.str sNone), .p (.int .i64 0)], [])) = some ([.p (.str sNone), .p (.int .i64 (bif a then 0 else 12))], []) := by cases a <;> rfl
theorem boolP2 (a : Bool) : (bif !a then rI 12 else rI 0) = rI (bif a then 0 else 12) := by cases a <;> rfl
theorem dirK (d : GDir) : asInt .i64 ((d.enc.drop 1).getD 0 .undef) = some d.val.kind := rfl
theorem fd2' (f : GFD) : asStr ((f.enc.drop 2).getD 0 .undef) = some f.type := rfl
theorem boolD (X : Option Res) (a b : Bool) : (bif !a then (bif !b then rI 10 else X) else (bif false then rI 10 else X)) = bif a || b then X else rI 10 := by cases a <;> cases b <;> rfl
theorem boolE (v : Int) (a b : Bool) : (bif !a then (bif !b then rI 12 else rI v) else (bif false then rI 12 else rI v)) = rI (bif a || b then v else 12) := by cases a <;> cases b <;> rfl
theorem boolH (a b : Bool) : (bif a then rI 10 else (bif b then rI 11 else rI 0)) = rI (bif a then 10 else (bif b then 11 else 0)) := by cases a <;> cases b <;> rfl
section
variable {S : List GTD} {D : List GDef}
theorem spec_sel (hS : okL okTD S) (hsch : schB S = true) (hD : D.length ≤ 9223372036854775807) {nm : ByteArray} (hfind : (S.find? (nmT nm)).isSome = true) : ∀ (x : GSel), okSel x →
    (∀ nm', ((S.find? (nmT nm')).isSome = true ∨ x.subs = []) → ev E0 F_spec_l04Sels [.p (.agg 1 [.sl 2 (S.map GTD.enc)]), .p (.agg 1 [.sl 4 (D.map GDef.enc)]), .p (.str nm'), .p (.sl 6 (x.subs.map GSel.enc))] [] = rI (selsC S D nm' x.subs)) →
    ev E0 F_spec_l04Sel [.p (.agg 1 [.sl 2 (S.map GTD.enc)]), .p (.agg 1 [.sl 4 (D.map GDef.enc)]), .p (.str nm), .p (.agg 6 x.enc)] [] = rI (selC S D nm x)
  | .mk k al n args dirs sels, hx, IH => by
    obtain ⟨x1, x2, x3, x4, x5, x6⟩ := hx
    have IH : ∀ nm', ((S.find? (nmT nm')).isSome = true ∨ sels = []) → ev E0 F_spec_l04Sels [.p (.agg 1 [.sl 2 (S.map GTD.enc)]), .p (.agg 1 [.sl 4 (D.map GDef.enc)]), .p (.str nm'), .p (.sl 6 (sels.map GSel.enc))] [] = rI (selsC S D nm' sels) := IH
    have hld : (dirs.map GDir.enc).length = dirs.length := by simp
    have hla : (args.map GArg.enc).length = args.length := by simp
    have hls : (sels.map GSel.enc).length = sels.length := by simp
    have hlS : (S.map GTD.enc).length = S.length := by simp
    have hxd := x4.1
    have loop := andLoop (p := fun _ d => dirG d) (L := fun i => spec_l04Sel_1 nm i (S.map GTD.enc) (D.map GDef.enc) k al n (args.map GArg.enc) (dirs.map GDir.enc) (sels.map GSel.enc)) (D := spec_l04Sel_1 nm (dirs.length : Nat) (S.map GTD.enc) (D.map GDef.enc) k al n (args.map GArg.enc) (dirs.map GDir.enc) (sels.map GSel.enc)) (E := rI 10) (l := dirs) (fun i d hd => by
      have hlt := lt_of_get hd
      rw [spec_l04Sel_1_eq, hld, decide_eq_true (by omega), cond_true, if_pos (by omega), getD_enc hd, dirK, Option.bind_some, Option.bind_some, int_bne, int_bne, spec_l04Sel_2_eq, spec_l04Sel_2_eq, wrap_id (by omega)]
      exact boolD _ _ _) rfl dirs.length 0 (by omega)
    have e0 : ((0 : Nat) : Int) = 0 := rfl
    rw [List.drop_zero, e0] at loop
    unfold GSel.enc
    rw [GSel.encs_eq, spec_l04Sel_0_ev, spec_l04Sel_0_eq, loop]
    unfold selC dirsG
    cases allI (fun _ d => dirG d) 0 dirs with
    | false => rfl
    | true =>
      rw [cond_true, cond_true, spec_l04Sel_1_eq, hld, decide_eq_false (by omega), cond_false, beq_int k 2, beq_int k 3]
      by_cases k2 : k = 2
      · rw [decide_eq_true k2, cond_true, cond_true, spec_frag hD, bF]
        unfold fragOn
        cases D.find? (fragP n) with
        | none =>
          dsimp only
          rw [spec_l04Sel_3_eq]
          rfl
        | some d =>
          have e : asStr (d.enc.getD 2 .undef) = some d.on := rfl
          dsimp only
          simp only [e, Option.bind_some, spec_l04Sel_3_eq, Bool.not_true, cond_false]
          exact boolP2 _
      · rw [decide_eq_false k2, cond_false, cond_false]
        by_cases k3 : k = 3
        · rw [decide_eq_true k3, cond_true, cond_true, spec_l04Sel_4_eq, spec_l04Sel_4_eq, IH nm (.inl hfind), bI]
          exact boolE _ _ _
        · rw [decide_eq_false k3, cond_false, cond_false, hla, hls, int_gt0, int_gt0]
          by_cases ht : n = sTn
          · rw [decide_eq_true ht, cond_true, cond_true]
            exact boolH _ _
          · rw [decide_eq_false ht, cond_false, cond_false, spec_find hS.1, bI, hlS]
            rcases idx_find (nmT nm) S with ⟨q1, q2⟩ | ⟨j, t, q1, q2, q3, q4⟩
            · rw [q1] at hfind; cases hfind
            · have hj := lt_of_get q3
              have hokt := hS.2 t (List.mem_of_getElem? q3)
              have hlf : (t.fields.map GFD.enc).length = t.fields.length := by simp
              rw [q1, q2, if_pos (by omega), getD_enc q3, spec_field hokt.2.1, bI]
              dsimp only
              rcases idx_find (nmF n) t.fields with ⟨p1, p2⟩ | ⟨m, f, p1, p2, p3, p4⟩
              · rw [p1, p2, decide_eq_true (show (-1 : Int) < 0 by omega), cond_true]
              · have hm := lt_of_get p3
                have hokf := hokt.2.2 f (List.mem_of_getElem? p3)
                rw [p1, p2, decide_eq_false (by omega), cond_false, td1, Option.bind_some, hlf, if_pos (by omega), getD_enc p3, spec_args hokf x3.1, bI, bne_def]
                dsimp only
                cases hN : (argsN f args == 0) with
                | true =>
                  rw [Bool.not_true, cond_false, cond_true, Option.bind_some, hlf, if_pos (by omega), getD_enc p3, fd2', Option.bind_some, int_eq0, Option.bind_some, hlf, if_pos (by omega), getD_enc p3, fd2', Option.bind_some]
                  cases hE : (decide (f.type = sInt) == decide (sels.length = 0)) with
                  | false => rfl
                  | true =>
                    rw [Bool.not_true, cond_false, cond_true, IH f.type (by
                      by_cases hs : sels = []
                      · exact .inr hs
                      · left
                        have h0 : decide (sels.length = 0) = false := decide_eq_false fun q => hs (List.eq_nil_of_length_eq_zero q)
                        rw [h0] at hE
                        rcases schB_type hsch (List.mem_of_getElem? q3) (List.mem_of_getElem? p3) with q | q
                        · rw [decide_eq_true q] at hE; cases hE
                        · exact q), bI]
                | false => rw [Bool.not_false, cond_true, cond_false]
theorem spec_sels (hS : okL okTD S) (hsch : schB S = true) (hD : D.length ≤ 9223372036854775807) : ∀ (z : Nat) (xs : List GSel) (nm : ByteArray), SizeOf.sizeOf xs ≤ z → okL okSel xs → ((S.find? (nmT nm)).isSome = true ∨ xs = []) →
    ev E0 F_spec_l04Sels [.p (.agg 1 [.sl 2 (S.map GTD.enc)]), .p (.agg 1 [.sl 4 (D.map GDef.enc)]), .p (.str nm), .p (.sl 6 (xs.map GSel.enc))] [] = rI (selsC S D nm xs)
  | z, xs, nm, hz, hok, hfind => by
    have hlen : (xs.map GSel.enc).length = xs.length := by simp
    have hxl := hok.1
    have loop : ∀ (k i : Nat), i + k = xs.length → spec_l04Sels_1 nm (xs.map GSel.enc) i (S.map GTD.enc) (D.map GDef.enc) = rI (selsC S D nm (xs.drop i)) := by
      intro k
      induction k with
      | zero =>
        intro i h
        have : i = xs.length := by omega
        subst this
        rw [spec_l04Sels_1_eq, hlen, List.drop_length, decide_eq_false (by omega), cond_false, selsC]
      | succ k ih =>
        intro i h
        have hlt : i < xs.length := by omega
        have hg : xs[i]? = some xs[i] := List.getElem?_eq_getElem hlt
        have e2 : IntKind.i64.wrap ((i : Int) + 1) = ((i + 1 : Nat) : Int) := by rw [wrap_id (by omega)]; omega
        have hm := List.getElem_mem hlt
        have hokx := hok.2 _ hm
        have hsz := List.sizeOf_lt_of_mem hm
        have hf : (S.find? (nmT nm)).isSome = true := by
          rcases hfind with q | q
          · exact q
          · rw [q] at hlt; simp at hlt
        have hone := spec_sel hS hsch hD hf xs[i] hokx (fun nm' hn' => by
          cases hx : xs[i] with
          | mk kk al n args dirs sels =>
            rw [hx] at hsz hokx hn'
            cases z with
            | zero => omega
            | succ z => exact spec_sels hS hsch hD z sels nm' (by simp at hsz; omega) (subs_ok hokx) hn')
        rw [spec_l04Sels_1_eq, hlen, decide_eq_true (by omega), cond_true, if_pos (by omega), getD_enc hg, hone, bI, bne_def, e2, ih (i + 1) (by omega), List.drop_eq_getElem_cons hlt, selsC]
        cases (selC S D nm xs[i] == 0) <;> rfl
    have e0 : ((0 : Nat) : Int) = 0 := rfl
    have := loop xs.length 0 (by omega)
    rw [e0, List.drop_zero] at this
    rw [spec_l04Sels_0_ev, spec_l04Sels_0_eq, this]

/-! ### the program -/
def selW (D : List GDef) (t : GTD) : GSel → ByteArray × Int
  | .mk k _ n args dirs sels => bif dirsG dirs then (bif decide (k = 2) then (sNone, bif fragOn D n t.name then 0 else 12) else
      bif decide (k = 3) then (bif decide (n = sNone) || decide (n = t.name) then (t.name, 0) else (sNone, 12)) else
      bif decide (n = sTn) then (sNone, bif decide (0 < args.length) then 10 else (bif decide (0 < sels.length) then 11 else 0)) else
      match t.fields.find? (nmF n) with
        | none => (sNone, 9)
        | some f => bif argsN f args == 0 then (bif decide (f.type = sInt) == decide (sels.length = 0) then (f.type, 0) else (sNone, 11)) else (sNone, argsN f args)) else (sNone, 10)
abbrev rW (p : ByteArray × Int) : Option Res := some ([.p (.str p.1), .p (.int .i64 p.2)], [])
theorem bW {R : Type} (p : ByteArray × Int) (K : ByteArray → Int → Option R) : ((rW p).bind fun r => (asStr (pAt 0 r.1)).bind fun s => (asInt .i64 (pAt 1 r.1)).bind fun n => if r.1.length = 2 then K s n else none) = K p.1 p.2 := by simp [pAt, asInt, asStr]
theorem any_dirs : ∀ (i : Nat) (dirs : List GDir), dirs.any (fun d => !dirG d) = !allI (fun _ d => dirG d) i dirs
  | _, [] => rfl
  | i, d :: ds => by rw [List.any_cons, allI, any_dirs (i + 1) ds]; cases dirG d <;> rfl
theorem contains_dirG {dirs : List GDir} (hl : dirs.length ≤ 9223372036854775807) : ev E0 F_slices_ContainsFunc_impl_Dir_impl_Dir [.p (.sl 4 (dirs.map GDir.enc)), .p (.fn F_impl_checker_sel_1)] [] = rB (!dirsG dirs) := by
  have hlen : (dirs.map GDir.enc).length = dirs.length := by simp
  have hf : ∀ x : GDir, ev E0 F_impl_checker_sel_1 [.p (.agg 4 x.enc)] [] = rB (!dirG x) := fun x => by
    unfold GDir.enc
    rw [impl_checker_sel_1_0_ev, impl_checker_sel_1_0_eq, int_bne, int_bne]
    unfold dirG
    cases decide (x.val.kind = 2) <;> rfl
  have := findLoop (p := fun d : GDir => !dirG d) (L := fun i => slices_IndexFunc_impl_Dir_impl_Dir_3 (dirs.map GDir.enc) dirs.length i) (ret := fun i => rI i) (l := dirs) (fun i x hx => by
    have hlt := lt_of_get hx
    rw [slices_IndexFunc_impl_Dir_impl_Dir_3_eq, hlen, decide_eq_true (by omega), cond_true, if_pos (by omega), getD_enc hx, hf, bB, wrap_id (by omega)]) (by rw [slices_IndexFunc_impl_Dir_impl_Dir_3_eq, decide_eq_false (by omega), cond_false]) dirs.length 0 (by omega)
  have e0 : ((0 : Nat) : Int) = 0 := rfl
  rw [e0, List.drop_zero] at this
  rw [slices_ContainsFunc_impl_Dir_impl_Dir_1_ev, slices_ContainsFunc_impl_Dir_impl_Dir_1_eq, slices_IndexFunc_impl_Dir_impl_Dir_1_ev, slices_IndexFunc_impl_Dir_impl_Dir_1_eq, hlen, this, bI]
  have h2 := idx_any (fun d : GDir => !dirG d) dirs
  unfold idx at h2
  rw [h2, any_dirs 0]
  rfl
theorem boolK (w : ByteArray) (a b : Bool) : (bif !a then (bif !b then rW (sNone, 12) else rW (w, 0)) else (bif false then rW (sNone, 12) else rW (w, 0))) = rW (bif a || b then (w, 0) else (sNone, 12)) := by cases a <;> cases b <;> rfl
theorem boolM (a b : Bool) : (bif a then rW (sNone, 10) else (bif b then rW (sNone, 11) else rW (sNone, 0))) = rW (sNone, bif a then 10 else (bif b then 11 else 0)) := by cases a <;> cases b <;> rfl
theorem impl_sel (hD : D.length ≤ 9223372036854775807) {t : GTD} (ht : okTD t) : ∀ (x : GSel), okSel x →
    ev E0 F_impl_checker_sel [.p (.agg 2 [.sl 2 (S.map GTD.enc), .sl 4 (D.map GDef.enc)]), .p (.agg 2 t.enc), .p (.agg 6 x.enc)] [] = rW (selW D t x)
  | .mk k al n args dirs sels, hx => by
    obtain ⟨x1, x2, x3, x4, x5, x6⟩ := hx
    have hla : (args.map GArg.enc).length = args.length := by simp
    have hls : (sels.map GSel.enc).length = sels.length := by simp
    have hlf : (t.fields.map GFD.enc).length = t.fields.length := by simp
    have hfl := impl_field ht.2.1 n
    unfold GTD.enc at hfl ⊢
    unfold GSel.enc
    rw [GSel.encs_eq, impl_checker_sel_0_ev, impl_checker_sel_0_eq, contains_dirG x4.1, bB, impl_frag hD, bF, beq_int k 2, beq_int k 3, impl_checker_sel_2_eq, impl_checker_sel_2_eq, impl_checker_field_0_ev, impl_checker_field_0_eq, hfl, bI, hla, hls, int_gt0, int_gt0]
    rw [selW]
    cases dirsG dirs with
    | false => rfl
    | true =>
      simp only [Bool.not_true, cond_false, cond_true]
      by_cases k2 : k = 2
      · simp only [decide_eq_true k2, cond_true]
        unfold fragOn
        cases D.find? (fragP n) with
        | none =>
          dsimp only
          rw [impl_checker_sel_1_eq]
          rfl
        | some d =>
          have e : asStr (d.enc.getD 2 .undef) = some d.on := rfl
          simp only [Bool.not_true, cond_false, e, Option.bind_some, impl_checker_sel_1_eq]
          exact boolP _
      · simp only [decide_eq_false k2, cond_false]
        by_cases k3 : k = 3
        · simp only [decide_eq_true k3, cond_true]
          exact boolK _ _ _
        · simp only [decide_eq_false k3, cond_false]
          by_cases htn : n = sTn
          · simp only [decide_eq_true htn, cond_true]
            refine (congrArg (fun o : Option Res => o.bind fun r117 => (asStr (pAt 0 r117.1)).bind fun s118 => (asInt .i64 (pAt 1 r117.1)).bind fun n119 => if r117.1.length = 2 then (some ([.p (.str s118), .p (.int .i64 n119)], []) : Option Res) else none) (boolM (decide (0 < args.length)) (decide (0 < sels.length)))).trans ?_
            exact bW (sNone, bif decide (0 < args.length) then 10 else (bif decide (0 < sels.length) then 11 else 0)) (fun (s : ByteArray) (n : Int) => (some ([Dv.p (.str s), Dv.p (.int .i64 n)], []) : Option Res))
          · simp only [decide_eq_false htn, cond_false]
            rcases idx_find (nmF n) t.fields with ⟨p1, p2⟩ | ⟨m, f, p1, p2, p3, p4⟩
            · rw [p1, p2, decide_eq_true (show (-1 : Int) < 0 by omega), cond_true]
              rfl
            · have hm := lt_of_get p3
              have hokf := ht.2.2 f (List.mem_of_getElem? p3)
              rw [p1, p2, decide_eq_false (by omega), cond_false, hlf, if_pos (by omega), getD_enc p3, impl_args hokf x3.1, bI, bne_def, fd2, Option.bind_some, Option.bind_some, int_eq0]
              dsimp only
              cases hN : (argsN f args == 0) with
              | true =>
                simp only [Bool.not_true, cond_false, cond_true]
                cases hE : (decide (f.type = sInt) == decide (sels.length = 0)) with
                | false => rfl
                | true => rfl
              | false =>
                simp only [Bool.not_false, cond_false, cond_true]
                rfl
theorem find_name {nm : ByteArray} {t : GTD} (h : S.find? (nmT nm) = some t) : t.name = nm ∧ t ∈ S := by
  have h1 := List.find?_some h
  unfold nmT at h1
  exact ⟨of_decide_eq_true h1, List.mem_of_find?_eq_some h⟩
theorem selC_W {nm : ByteArray} {t : GTD} (h : S.find? (nmT nm) = some t) : ∀ (x : GSel), selB x = true → selC S D nm x = bif (selW D t x).2 == 0 then selsC S D (selW D t x).1 x.subs else (selW D t x).2
  | .mk k al n args dirs sels, hs => by
    obtain ⟨_, _, _, _, hk⟩ := selB_cases' hs
    obtain ⟨hn, hm⟩ := find_name h
    rw [selC, selW, hn]
    cases dirsG dirs with
    | false => rfl
    | true =>
      rw [cond_true, cond_true]
      by_cases k2 : k = 2
      · have he : sels = [] := by
          unfold kindB at hk
          rw [if_neg (by omega), if_pos k2] at hk
          simp only [Bool.and_eq_true, decide_eq_true_eq] at hk
          exact List.eq_nil_of_length_eq_zero hk.2
        subst he
        rw [decide_eq_true k2, cond_true, cond_true]
        cases fragOn D n nm <;> rfl
      · rw [decide_eq_false k2, cond_false, cond_false]
        by_cases k3 : k = 3
        · rw [decide_eq_true k3, cond_true, cond_true]
          cases (decide (n = sNone) || decide (n = nm)) <;> rfl
        · rw [decide_eq_false k3, cond_false, cond_false]
          by_cases htn : n = sTn
          · rw [decide_eq_true htn, cond_true, cond_true]
            dsimp only
            cases decide (0 < args.length) with
            | true => rfl
            | false =>
              by_cases h0 : 0 < sels.length
              · rw [decide_eq_true h0]; rfl
              · have : sels = [] := List.eq_nil_of_length_eq_zero (by omega)
                subst this
                rfl
          · rw [decide_eq_false htn, cond_false, cond_false, h]
            dsimp only
            cases t.fields.find? (nmF n) with
            | none => rfl
            | some f =>
              dsimp only
              cases hN : (argsN f args == 0) with
              | true => cases (decide (f.type = sInt) == decide (sels.length = 0)) <;> rfl
              | false =>
                simp only [cond_false]
                rw [hN]
                rfl
theorem sel_next (hsch : schB S = true) {nm : ByteArray} {t : GTD} (h : S.find? (nmT nm) = some t) : ∀ (x : GSel), selB x = true → (selW D t x).2 = 0 → (S.find? (nmT (selW D t x).1)).isSome = true ∨ x.subs = []
  | .mk k al n args dirs sels, hs, hw => by
    obtain ⟨_, _, _, _, hk⟩ := selB_cases' hs
    obtain ⟨hn, hm⟩ := find_name h
    show _ ∨ sels = []
    rw [selW] at hw ⊢
    cases hd : dirsG dirs with
    | false => rw [hd] at hw; exact absurd hw (by show ¬ (10 : Int) = 0; omega)
    | true =>
      rw [hd, cond_true] at hw
      rw [cond_true]
      by_cases k2 : k = 2
      · right
        unfold kindB at hk
        rw [if_neg (by omega), if_pos k2] at hk
        simp only [Bool.and_eq_true, decide_eq_true_eq] at hk
        exact List.eq_nil_of_length_eq_zero hk.2
      · rw [decide_eq_false k2, cond_false] at hw ⊢
        by_cases k3 : k = 3
        · rw [decide_eq_true k3, cond_true] at hw ⊢
          cases hc : (decide (n = sNone) || decide (n = t.name)) with
          | false => rw [hc] at hw; exact absurd hw (by show ¬ (12 : Int) = 0; omega)
          | true =>
            left
            rw [cond_true]
            show (S.find? (nmT t.name)).isSome = true
            rw [hn, h]
            rfl
        · rw [decide_eq_false k3, cond_false] at hw ⊢
          by_cases htn : n = sTn
          · right
            rw [decide_eq_true htn, cond_true] at hw
            dsimp only at hw
            cases ha : decide (0 < args.length) with
            | true => rw [ha] at hw; exact absurd hw (by show ¬ (10 : Int) = 0; omega)
            | false =>
              rw [ha, cond_false] at hw
              by_cases h0 : 0 < sels.length
              · rw [decide_eq_true h0] at hw; exact absurd hw (by show ¬ (11 : Int) = 0; omega)
              · exact List.eq_nil_of_length_eq_zero (by omega)
          · rw [decide_eq_false htn, cond_false] at hw ⊢
            cases hf : t.fields.find? (nmF n) with
            | none => rw [hf] at hw; exact absurd hw (by show ¬ (9 : Int) = 0; omega)
            | some f =>
              rw [hf] at hw
              dsimp only at hw ⊢
              cases hN : (argsN f args == 0) with
              | true =>
                rw [hN, cond_true] at hw
                rw [cond_true]
                cases hE : (decide (f.type = sInt) == decide (sels.length = 0)) with
                | false => rw [hE] at hw; exact absurd hw (by show ¬ (11 : Int) = 0; omega)
                | true =>
                  rw [cond_true]
                  by_cases hs : sels = []
                  · exact .inr hs
                  · left
                    have h0 : decide (sels.length = 0) = false := decide_eq_false fun q => hs (List.eq_nil_of_length_eq_zero q)
                    rw [h0] at hE
                    rcases schB_type hsch hm (List.mem_of_find?_eq_some hf) with q | q
                    · rw [decide_eq_true q] at hE; cases hE
                    · exact q
              | false =>
                rw [hN, cond_false] at hw
                have hw : argsN f args = 0 := hw
                rw [hw] at hN
                exact absurd hN (by decide)
theorem boolN (a v : Int) : (bif !(a == 0) then rI a else rI v) = rI (bif a == 0 then v else a) := by cases (a == 0) <;> rfl
theorem firstOf_ev (c : Int) : ev E0 F_impl_firstOf [.p (.sl 1 [[.int .i64 c]])] [] = rI c := by
  rw [impl_firstOf_0_ev, impl_firstOf_0_eq, impl_firstOf_1_eq]
  have e : asInt .i64 ((([[.int .i64 c]] : List (List Pd)).getD (0 : Int).toNat []).getD 0 .undef) = some c := rfl
  rw [e, Option.bind_some, int_bne]
  have hl : (([[.int .i64 c]] : List (List Pd)).length : Int) = 1 := rfl
  rw [hl, decide_eq_true (by omega), cond_true, if_pos (by omega), wrap_id (by omega), impl_firstOf_1_eq, hl, decide_eq_false (show ¬ ((0 : Int) + 1 < 1) by omega), cond_false]
  by_cases h : c = 0
  · rw [decide_eq_true h, h]; rfl
  · rw [decide_eq_false h]; rfl
theorem impl_sels (hS : okL okTD S) (hsch : schB S = true) (hD : D.length ≤ 9223372036854775807) : ∀ (d : Nat) (xs : List GSel) (nm : ByteArray), fine d xs = true → okL okSel xs → ((S.find? (nmT nm)).isSome = true ∨ xs = []) →
    ev E0 F_impl_checker_sels [.p (.agg 2 [.sl 2 (S.map GTD.enc), .sl 4 (D.map GDef.enc)]), .p (.str nm), .p (.sl 6 (xs.map GSel.enc))] [] = rI (selsC S D nm xs)
  | d, xs, nm, hfine, hok, hfind => by
    have hlen : (xs.map GSel.enc).length = xs.length := by simp
    have hlS : (S.map GTD.enc).length = S.length := by simp
    have hxl := hok.1
    rw [impl_checker_sels_0_ev, impl_checker_sels_0_eq, hlen, int_eq0]
    by_cases h0 : xs.length = 0
    · have : xs = [] := List.eq_nil_of_length_eq_zero h0
      subst this
      rw [decide_eq_true h0, cond_true, selsC]
    · have hf : (S.find? (nmT nm)).isSome = true := by
        rcases hfind with q | q
        · exact q
        · rw [q] at h0; exact absurd rfl h0
      rw [decide_eq_false h0, cond_false, impl_find hS.1, bI]
      rcases idx_find (nmT nm) S with ⟨q1, q2⟩ | ⟨j, t, q1, q2, q3, q4⟩
      · rw [q1] at hf; cases hf
      · have hj := lt_of_get q3
        have hokt := hS.2 t (List.mem_of_getElem? q3)
        rw [q2, hlS, if_pos (by omega), getD_enc q3]
        have loop : ∀ (k i : Nat), i + k = xs.length → impl_checker_sels_1 (xs.map GSel.enc) xs.length i (S.map GTD.enc) (D.map GDef.enc) t.enc = rI (selsC S D nm (xs.drop i)) := by
          intro k
          induction k with
          | zero =>
            intro i h
            have : i = xs.length := by omega
            subst this
            rw [impl_checker_sels_1_eq, List.drop_length, decide_eq_false (by omega), cond_false, selsC]
          | succ k ih =>
            intro i h
            have hlt : i < xs.length := by omega
            have hg : xs[i]? = some xs[i] := List.getElem?_eq_getElem hlt
            have e2 : IntKind.i64.wrap ((i : Int) + 1) = ((i + 1 : Nat) : Int) := by rw [wrap_id (by omega)]; omega
            have hm := List.getElem_mem hlt
            have hokx := hok.2 _ hm
            cases d with
            | zero =>
              simp only [fine, List.isEmpty_iff] at hfine
              rw [hfine] at hlt
              simp at hlt
            | succ d =>
              have hfx : selB xs[i] = true ∧ fine d xs[i].subs = true := by
                simp only [fine, List.all_eq_true, Bool.and_eq_true] at hfine
                exact hfine _ hm
              rw [impl_checker_sels_1_eq, decide_eq_true (by omega), cond_true, hlen, if_pos (by omega), getD_enc hg, impl_sel hD hokt xs[i] hokx, bW, firstOf_ev, bI, enc_get5, Option.bind_some, bne_def, e2, ih (i + 1) (by omega), List.drop_eq_getElem_cons hlt, selsC, selC_W q1 xs[i] hfx.1]
              cases hw : ((selW D t xs[i]).2 == 0) with
              | true =>
                rw [Bool.not_true, cond_false, cond_true, impl_sels hS hsch hD d xs[i].subs _ hfx.2 (subs_ok hokx) (sel_next hsch q1 xs[i] hfx.1 (by simpa using hw)), bI, bne_def]
                exact boolN _ _
              | false =>
                rw [Bool.not_false, cond_true, cond_false, hw, cond_false]
        have e0 : ((0 : Nat) : Int) = 0 := rfl
        have := loop xs.length 0 (by omega)
        rw [e0, List.drop_zero] at this
        exact this
  termination_by d => d

/-! ### documents -/
def rootN (d : GDef) : ByteArray := bif decide (d.kind = 1) then sQuery else (bif decide (d.kind = 2) then sMut else d.on)
def typesC (S : List GTD) (D : List GDef) : List GDef → Int
  | [] => 0
  | d :: ds => bif (S.find? (nmT (rootN d))).isNone then 12 else (bif selsC S D (rootN d) d.sels == 0 then typesC S D ds else selsC S D (rootN d) d.sels)
theorem root_get {d : GDef} (h : d.kind = 1 ∨ d.kind = 2 ∨ d.kind = 3) : (0 ≤ d.kind ∧ d.kind < 4) ∧ d.kind.toNat < 4 ∧ ((([[.str (⟨#[]⟩ : ByteArray)], [.str sQuery], [.str sMut], [.str d.on]] : List (List Pd)).getD d.kind.toNat []).getD 0 .undef) = .str (rootN d) := by
  unfold rootN
  rcases h with h | h | h <;> rw [h]
  · exact ⟨by decide, by decide, rfl⟩
  · exact ⟨by decide, by decide, rfl⟩
  · exact ⟨by decide, by decide, rfl⟩
theorem spec_types (hS : okL okTD S) (hsch : schB S = true) (hD : okL okDef D) (hdoc : docB D = true) : ev E0 F_spec_l04Types [.p (.agg 1 [.sl 2 (S.map GTD.enc)]), .p (.agg 1 [.sl 4 (D.map GDef.enc)])] [] = rI (typesC S D D) := by
  have hlen : (D.map GDef.enc).length = D.length := by simp
  have hDl := hD.1
  have loop : ∀ (k i : Nat), i + k = D.length → spec_l04Types_1 i (S.map GTD.enc) (D.map GDef.enc) = rI (typesC S D (D.drop i)) := by
    intro k
    induction k with
    | zero =>
      intro i h
      have : i = D.length := by omega
      subst this
      rw [spec_l04Types_1_eq, hlen, List.drop_length, decide_eq_false (by omega), cond_false, typesC]
    | succ k ih =>
      intro i h
      have hlt : i < D.length := by omega
      have hg : D[i]? = some D[i] := List.getElem?_eq_getElem hlt
      have e2 : IntKind.i64.wrap ((i : Int) + 1) = ((i + 1 : Nat) : Int) := by rw [wrap_id (by omega)]; omega
      have hm := List.getElem_mem hlt
      have hokx := hD.2 _ hm
      have hk : D[i].kind = 1 ∨ D[i].kind = 2 ∨ D[i].kind = 3 := by
        unfold docB at hdoc
        simp only [Bool.and_eq_true] at hdoc
        have := List.all_eq_true.1 hdoc.2.1 _ hm
        unfold defB at this
        simp only [Bool.and_eq_true] at this
        have h1 := this.1.1
        unfold kindD at h1
        by_cases q : D[i].kind = 1 ∨ D[i].kind = 2
        · rcases q with q | q
          · exact .inl q
          · exact .inr (.inl q)
        · rw [if_neg q] at h1
          by_cases q3 : D[i].kind = 3
          · exact .inr (.inr q3)
          · rw [if_neg q3] at h1; cases h1
      obtain ⟨r1, r2, r3⟩ := root_get hk
      have d0 : asInt .i64 (D[i].enc.getD 0 .undef) = some D[i].kind := rfl
      have d2 : asStr ((D[i].enc.drop 2).getD 0 .undef) = some D[i].on := rfl
      have d3 : asSl 6 ((D[i].enc.drop 3).getD 0 .undef) = some (D[i].sels.map GSel.enc) := rfl
      have hstr : asStr (.str (rootN D[i])) = some (rootN D[i]) := rfl
      rw [spec_l04Types_1_eq, hlen, decide_eq_true (by omega), cond_true, if_pos (by omega), getD_enc hg, d2, Option.bind_some, if_pos (by omega), d0, Option.bind_some, if_pos (by simpa using r1), if_pos ⟨rfl, by simpa using r2, by omega⟩, r3, hstr, Option.bind_some, spec_find hS.1, bI, idx_neg, if_pos (by omega), d3, Option.bind_some, e2, ih (i + 1) (by omega), List.drop_eq_getElem_cons hlt, typesC]
      cases hfd : S.find? (nmT (rootN D[i])) with
      | none => rfl
      | some t =>
        rw [spec_sels hS hsch hDl _ D[i].sels (rootN D[i]) (Nat.le_refl _) hokx.2.2 (.inl (by rw [hfd]; rfl)), bI, bne_def]
        exact boolN _ _
  have e0 : ((0 : Nat) : Int) = 0 := rfl
  have := loop D.length 0 (by omega)
  rw [e0, List.drop_zero] at this
  rw [spec_l04Types_0_ev, spec_l04Types_0_eq, this]
theorem rootOf_ev (d : GDef) : ev E0 F_impl_Def_rootOf [.p (.agg 4 d.enc)] [] = some ([.p (.str (rootN d))], []) := by
  unfold GDef.enc
  rw [impl_Def_rootOf_0_ev, impl_Def_rootOf_0_eq, beq_int, beq_int]
  unfold rootN
  cases decide (d.kind = 1) <;> cases decide (d.kind = 2) <;> rfl
theorem bStr {R : Type} (v : ByteArray) (K : ByteArray → Option R) : ((some ([.p (.str v)], []) : Option Res).bind fun r => (asStr (pAt 0 r.1)).bind fun v => if r.1.length = 1 then K v else none) = K v := by simp [pAt, asStr]
theorem impl_types (hS : okL okTD S) (hsch : schB S = true) (hD : okL okDef D) (hdoc : docB D = true) : ev E0 F_impl_checkTypes [.p (.agg 1 [.sl 2 (S.map GTD.enc)]), .p (.agg 1 [.sl 4 (D.map GDef.enc)])] [] = rI (typesC S D D) := by
  have hlen : (D.map GDef.enc).length = D.length := by simp
  have hDl := hD.1
  have loop : ∀ (k i : Nat), i + k = D.length → impl_checkTypes_1 (D.map GDef.enc) D.length i (S.map GTD.enc) (S.map GTD.enc) (D.map GDef.enc) = rI (typesC S D (D.drop i)) := by
    intro k
    induction k with
    | zero =>
      intro i h
      have : i = D.length := by omega
      subst this
      rw [impl_checkTypes_1_eq, List.drop_length, decide_eq_false (by omega), cond_false, typesC]
    | succ k ih =>
      intro i h
      have hlt : i < D.length := by omega
      have hg : D[i]? = some D[i] := List.getElem?_eq_getElem hlt
      have e2 : IntKind.i64.wrap ((i : Int) + 1) = ((i + 1 : Nat) : Int) := by rw [wrap_id (by omega)]; omega
      have hm := List.getElem_mem hlt
      have hokx := hD.2 _ hm
      have hfx : fine 7 D[i].sels = true := by
        unfold docB at hdoc
        simp only [Bool.and_eq_true] at hdoc
        have := List.all_eq_true.1 hdoc.2.1 _ hm
        unfold defB at this
        simp only [Bool.and_eq_true] at this
        exact this.2
      have d3 : asSl 6 (D[i].enc.getD 3 .undef) = some (D[i].sels.map GSel.enc) := rfl
      rw [impl_checkTypes_1_eq, decide_eq_true (by omega), cond_true, hlen, if_pos (by omega), getD_enc hg, rootOf_ev, bStr, impl_find hS.1, bI, idx_neg, bStr, d3, Option.bind_some, e2, ih (i + 1) (by omega), List.drop_eq_getElem_cons hlt, typesC]
      cases hfd : S.find? (nmT (rootN D[i])) with
      | none => rfl
      | some t =>
        rw [impl_sels hS hsch hDl 7 D[i].sels (rootN D[i]) hfx hokx.2.2 (.inl (by rw [hfd]; rfl)), bI, bne_def]
        exact boolN _ _
  have e0 : ((0 : Nat) : Int) = 0 := rfl
  have := loop D.length 0 (by omega)
  rw [e0, List.drop_zero] at this
  rw [impl_checkTypes_0_ev, impl_checkTypes_0_eq, hlen, this]
abbrev rII (a b : Int) : Option Res := some ([.p (.int .i64 a), .p (.int .i64 b)], [])
theorem bII {R : Type} (a b : Int) (K : Int → Int → Option R) : ((rII a b).bind fun r => (asInt .i64 (pAt 0 r.1)).bind fun a => (asInt .i64 (pAt 1 r.1)).bind fun b => if r.1.length = 2 then K a b else none) = K a b := by simp [pAt, asInt]
def ctR (S : List GTD) (D : List GDef) : Int × Int := bif schB S && docB D then (typesC S D D, 0) else (0, 1)
theorem spec_CheckTypes_ev (hS : okL okTD S) (hD : okL okDef D) : ev E0 F_spec_CheckTypes [.p (.agg 1 [.sl 2 (S.map GTD.enc)]), .p (.agg 1 [.sl 4 (D.map GDef.enc)])] [] = rII (ctR S D).1 (ctR S D).2 := by
  rw [spec_CheckTypes_0_ev, spec_CheckTypes_0_eq, spec_schema hS, bB, spec_DocOK_ev hD, bB, spec_CheckTypes_1_eq, spec_CheckTypes_1_eq]
  unfold ctR
  cases h1 : schB S with
  | false => rfl
  | true =>
    cases h2 : docB D with
    | false => rfl
    | true =>
      rw [spec_types hS h1 hD h2, bI]
      rfl
theorem impl_CheckTypes_ev (hS : okL okTD S) (hD : okL okDef D) : ev E0 F_impl_CheckTypes [.p (.agg 1 [.sl 2 (S.map GTD.enc)]), .p (.agg 1 [.sl 4 (D.map GDef.enc)])] [] = rII (ctR S D).1 (ctR S D).2 := by
  rw [impl_CheckTypes_0_ev, impl_CheckTypes_0_eq, impl_schema hS, bB, impl_DocOK_ev hD, bB, impl_CheckTypes_1_eq, impl_CheckTypes_1_eq]
  unfold ctR
  cases h1 : schB S with
  | false => rfl
  | true =>
    cases h2 : docB D with
    | false => rfl
    | true =>
      rw [impl_types hS h1 hD h2, bI]
      rfl
theorem law_CheckTypes (hS : okL okTD S) (hD : okL okDef D) : ev E0 F_laws_FnExactCheckTypes [.p (.agg 1 [.sl 2 (S.map GTD.enc)]), .p (.agg 1 [.sl 4 (D.map GDef.enc)])] [] = rB true := by
  rw [laws_FnExactCheckTypes_0_ev, laws_FnExactCheckTypes_0_eq, szSchema_ev hS (by omega) (by omega), bI]
  by_cases hw : (wL wTD S : Int) ≤ 1048576
  · rw [szV_pos hw, decide_eq_false (by omega), cond_false, szDoc_ev hD (by omega) (by omega), bI]
    by_cases hw2 : (wL wDef D : Int) ≤ 1048576 - wL wTD S
    · have ne : ∀ a : Int, (a != a) = false := fun a => by simp
      rw [szV_pos hw2, decide_eq_false (by omega), cond_false, toSchema_ev (by omega), bA, toDoc_ev (by omega), bA, spec_CheckTypes_ev hS hD, bII, bA, bA, impl_CheckTypes_ev hS hD, bII, ne, cond_false, ne, laws_FnExactCheckTypes_1_eq, cond_false, toSchema_ev (by omega), bA, eqSchema_ev hS, bB, Bool.not_true, cond_false, toDoc_ev (by omega), bA, eqDoc_ev hD, bB]
      rfl
    · rw [szV_neg hw2]
      rfl
  · rw [szV_neg hw]
    rfl
end
end Go.Proofs.YtlmmimhjfajhdaaGreat.Dm
