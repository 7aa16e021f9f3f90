/- A document's types: the program's codes and the reference's are one. -/
import Derived.Test.YtlmmimhjfajhdaaGreatU2
namespace Go.Proofs.YtlmmimhjfajhdaaGreat.Dm
set_option linter.unusedVariables false
set_option linter.unusedSimpArgs false

theorem anyLoop {α : Type} {p : α → Bool} {L : Int → Option Res} {D E : Option Res} {l : List α} (step : ∀ (i : Nat) (x : α), l[i]? = some x → L i = bif p x then E else L ((i : Int) + 1)) (done : L l.length = D) : ∀ (k i : Nat), i + k = l.length → L i = bif (l.drop i).any p then E else D
  | 0, i, h => by
    have : i = l.length := by omega
    subst this
    rw [done, List.drop_length]
    rfl
  | k + 1, i, h => by
    have hlt : i < l.length := by omega
    have ih := anyLoop step done k (i + 1) (by omega)
    have e2 : ((i + 1 : Nat) : Int) = (i : Int) + 1 := by omega
    rw [e2] at ih
    rw [step i l[i] (List.getElem?_eq_getElem hlt), List.drop_eq_getElem_cons hlt, List.any_cons, ih]
    cases p l[i] <;> rfl
theorem findLoopO {α : Type} {p : α → Bool} {L : Int → Option Res} {ret : Option α → Option Res} {l : List α} (step : ∀ (i : Nat) (x : α), l[i]? = some x → L i = bif p x then ret (some x) else L ((i : Int) + 1)) (done : L l.length = ret none) : ∀ (k i : Nat), i + k = l.length → L i = ret ((l.drop i).find? p)
  | 0, i, h => by
    have : i = l.length := by omega
    subst this
    rw [done, List.drop_length]
    rfl
  | k + 1, i, h => by
    have hlt : i < l.length := by omega
    have ih := findLoopO step done k (i + 1) (by omega)
    have e2 : ((i + 1 : Nat) : Int) = (i : Int) + 1 := by omega
    rw [e2] at ih
    rw [step i l[i] (List.getElem?_eq_getElem hlt), List.drop_eq_getElem_cons hlt, List.find?_cons, ih]
    cases p l[i] <;> rfl

/-! ### arguments of a field -/
def dupA (ws : List GArg) (nm : ByteArray) : Bool := ws.any fun b => decide (b.name = nm)
def argX (f : GFD) (a : GArg) : Bool := match f.args.find? (nmA a.name) with
  | none => true
  | some d => decide (a.val.kind = 2) || (decide (a.val.kind = 3) && d.need)
def argS (f : GFD) (args : List GArg) (i : Nat) (a : GArg) : Bool := !argX f a && !dupA (args.take i) a.name
def needS (args : List GArg) (d : GAD) : Bool := !d.need || dupA args d.name
def argsN (f : GFD) (args : List GArg) : Int := bif allI (argS f args) 0 args && allI (fun _ d => needS args d) 0 f.args then 0 else 10
theorem argN0 (a : GArg) : asStr (a.enc.getD 0 .undef) = some a.name := rfl
theorem argN1 (a : GArg) : asInt .i64 (a.enc.getD 1 .undef) = some a.val.kind := rfl
theorem argN1' (a : GArg) : asInt .i64 ((a.enc.drop 1).getD 0 .undef) = some a.val.kind := rfl
theorem adN (d : GAD) : asBool ((d.enc.drop 1).getD 0 .undef) = some d.need := rfl
theorem adN' (d : GAD) : asBool (d.enc.getD 1 .undef) = some d.need := rfl
theorem boolX (X : Option Res) (b1 b2 : Bool) : (bif b1 then rI 10 else (bif b2 then rI 10 else X)) = bif !b1 && !b2 then X else rI 10 := by cases b1 <;> cases b2 <;> rfl
theorem boolY (X : Option Res) (b1 b2 : Bool) : (bif b1 || b2 then X else rI 10) = bif b1 || b2 then X else rI 10 := rfl
theorem boolZ (b1 b2 : Bool) : (bif b1 then (bif b2 then rI 0 else rI 10) else rI 10) = rI (bif b1 && b2 then 0 else 10) := by cases b1 <;> cases b2 <;> rfl
theorem boolW (X : Option Res) (b d u : Bool) : (bif b then (bif true || u then X else rI 10) else (bif d || u then X else rI 10)) = bif b || (d || u) then X else rI 10 := by cases b <;> cases d <;> cases u <;> rfl
theorem boolV (X : Option Res) (b2 b3 nd u : Bool) : (bif b2 then (bif true then rI 10 else (bif u then rI 10 else X)) else (bif b3 then (bif nd then rI 10 else (bif u then rI 10 else X)) else (bif false then rI 10 else (bif u then rI 10 else X)))) = bif !(b2 || (b3 && nd)) && !u then X else rI 10 := by cases b2 <;> cases b3 <;> cases nd <;> cases u <;> rfl
theorem boolU (X : Option Res) (nd u : Bool) : (bif nd then (bif !u then rI 10 else X) else (bif false then rI 10 else X)) = bif !nd || u then X else rI 10 := by cases nd <;> cases u <;> rfl
theorem boolR (X : Option Res) (b2 b3 nd u : Bool) : (bif b2 then (bif true then rI 10 else X) else (bif b3 then (bif nd then (bif true then rI 10 else X) else (bif u then rI 10 else X)) else (bif u then rI 10 else X))) = bif !(b2 || (b3 && nd)) && !u then X else rI 10 := by cases b2 <;> cases b3 <;> cases nd <;> cases u <;> rfl
theorem boolQ (X Y : Option Res) (b c : Bool) : (bif b then (bif c then X else Y) else (bif false then X else Y)) = bif b && c then X else Y := by cases b <;> cases c <;> rfl
theorem spec_args {f : GFD} (hf : okFD f) {args : List GArg} (ha : args.length ≤ 9223372036854775807) : ev E0 F_spec_l04Args [.p (.agg 5 f.enc), .p (.sl 4 (args.map GArg.enc))] [] = rI (argsN f args) := by
  have hfl := hf.2.1.1
  have hla : (args.map GArg.enc).length = args.length := by simp
  have hlf : (f.args.map GAD.enc).length = f.args.length := by simp
  have hsa := fun nm => spec_arg hfl nm
  unfold GFD.enc at hsa ⊢
  generalize hF : f.args.map GAD.enc = F at *
  -- the same name ahead
  have dup : ∀ (i : Nat) (a : GArg), args[i]? = some a → spec_l04Args_4 (args.map GArg.enc) i 0 f.name F f.type f.list f.bang = bif dupA (args.take i) a.name then rI 10 else spec_l04Args_1 (args.map GArg.enc) ((i : Int) + 1) f.name F f.type f.list f.bang := by
    intro i a hi
    have hlt := lt_of_get hi
    have hti : (args.take i).length = i := by rw [List.length_take]; omega
    have := anyLoop (p := fun b : GArg => decide (b.name = a.name)) (L := fun m => spec_l04Args_4 (args.map GArg.enc) i m f.name F f.type f.list f.bang) (D := spec_l04Args_1 (args.map GArg.enc) ((i : Int) + 1) f.name F f.type f.list f.bang) (E := rI 10) (l := args.take i) (fun m x hx => by
      have hm : m < i := by have := lt_of_get hx; omega
      have hx' : args[m]? = some x := by rw [List.getElem?_take, if_pos hm] at hx; exact hx
      rw [spec_l04Args_4_eq, decide_eq_true (by omega), cond_true, hla, if_pos (by omega), getD_enc hx', argN0, Option.bind_some, if_pos (by omega), getD_enc hi, argN0, Option.bind_some, wrap_id (by omega)]) (by
      rw [hti, spec_l04Args_4_eq, decide_eq_false (by omega), cond_false, wrap_id (by omega)]) i 0 (by omega)
    rw [List.drop_zero] at this
    exact this
  -- what must be there
  have found : ∀ (i : Nat) (d : GAD), f.args[i]? = some d → ∀ (k m : Nat) (b : Bool), m + k = args.length → spec_l04Args_5 (args.map GArg.enc) i b m f.name F f.type f.list f.bang = bif b || dupA (args.drop m) d.name then spec_l04Args_3 (args.map GArg.enc) ((i : Int) + 1) f.name F f.type f.list f.bang else rI 10 := by
    intro i d hi k
    have hlt := lt_of_get hi
    have hgd : F.getD (i : Int).toNat [] = d.enc := by rw [← hF]; exact getD_enc hi
    induction k with
    | zero =>
      intro m b h
      have : m = args.length := by omega
      subst this
      rw [spec_l04Args_5_eq, hla, decide_eq_false (by omega), cond_false, wrap_id (by omega), List.drop_length]
      cases b <;> rfl
    | succ k ih =>
      intro m b h
      have hm : m < args.length := by omega
      have hx : args[m]? = some args[m] := List.getElem?_eq_getElem hm
      have e2 : IntKind.i64.wrap ((m : Int) + 1) = ((m + 1 : Nat) : Int) := by rw [wrap_id (by omega)]; omega
      have ih := ih (m + 1)
      rw [spec_l04Args_5_eq, hla, decide_eq_true (by omega), cond_true, if_pos (by omega), getD_enc hx, argN0, Option.bind_some, if_pos (by omega), hgd, ad0, Option.bind_some, spec_l04Args_6_eq, spec_l04Args_6_eq, e2, ih true (by omega), ih _ (by omega), List.drop_eq_getElem_cons hm]
      have : dupA (args[m] :: args.drop (m + 1)) d.name = (decide (args[m].name = d.name) || dupA (args.drop (m + 1)) d.name) := rfl
      rw [this]
      exact boolW _ _ _ _
  have second := andLoop (p := fun _ d => needS args d) (L := fun i => spec_l04Args_3 (args.map GArg.enc) i f.name F f.type f.list f.bang) (D := rI 0) (E := rI 10) (l := f.args) (fun i d hd => by
    have hlt := lt_of_get hd
    have hgd : F.getD (i : Int).toNat [] = d.enc := by rw [← hF]; exact getD_enc hd
    have e0 : ((0 : Nat) : Int) = 0 := rfl
    have h5 := found i d hd args.length 0 (!d.need) (by omega)
    rw [e0, List.drop_zero] at h5
    rw [spec_l04Args_3_eq, hlf, decide_eq_true (by omega), cond_true, if_pos (by omega), hgd, adN, Option.bind_some, h5]
    rfl) (by rw [spec_l04Args_3_eq, hlf, decide_eq_false (by omega), cond_false]) f.args.length 0 (by omega)
  have e0 : ((0 : Nat) : Int) = 0 := rfl
  rw [List.drop_zero, e0] at second
  have first := andLoop (p := argS f args) (L := fun i => spec_l04Args_1 (args.map GArg.enc) i f.name F f.type f.list f.bang) (D := bif allI (fun _ d => needS args d) 0 f.args then rI 0 else rI 10) (E := rI 10) (l := args) (fun i a hi => by
    have hlt := lt_of_get hi
    have h2 : ∀ b, spec_l04Args_2 (args.map GArg.enc) i b f.name F f.type f.list f.bang = bif b then rI 10 else (bif dupA (args.take i) a.name then rI 10 else spec_l04Args_1 (args.map GArg.enc) ((i : Int) + 1) f.name F f.type f.list f.bang) := fun b => by rw [spec_l04Args_2_eq, dup i a hi]
    rw [spec_l04Args_1_eq, hla, decide_eq_true (by omega), cond_true, if_pos (by omega), getD_enc hi, argN0, Option.bind_some, hsa, bI, if_pos (by omega), argN1', Option.bind_some, Option.bind_some, h2, h2, beq_int, beq_int]
    unfold argS argX
    rcases idx_find (nmA a.name) f.args with ⟨q1, q2⟩ | ⟨j, d, q1, q2, q3, q4⟩
    · rw [q1, q2, show decide ((-1 : Int) < 0) = true from rfl, cond_true]
      exact boolX _ true _
    · have hgd : F.getD (j : Int).toNat [] = d.enc := by rw [← hF]; exact getD_enc q3
      have hj := lt_of_get q3
      rw [q1, q2, decide_eq_false (show ¬ ((j : Int) < 0) by omega), cond_false, hlf, if_pos (by omega), hgd, adN, Option.bind_some, h2]
      exact boolV _ _ _ _ _) (by rw [spec_l04Args_1_eq, hla, decide_eq_false (by omega), cond_false]; exact second) args.length 0 (by omega)
  rw [List.drop_zero, e0] at first
  rw [spec_l04Args_0_ev, spec_l04Args_0_eq, first]
  exact boolZ _ _
theorem contains1 {ws : List GArg} (hl : ws.length ≤ 9223372036854775807) (a : GArg) : ev E0 F_slices_ContainsFunc_impl_Arg_impl_Arg [.p (.sl 4 (ws.map GArg.enc)), .fn F_impl_argsCode_1 [.ptr (.out 0) 0]] [.box 4 a.enc] = some ([.p (.bool (dupA ws a.name))], [.box 4 a.enc]) := by
  have hlen : (ws.map GArg.enc).length = ws.length := by simp
  have hf : ∀ x : GArg, ev E0 F_impl_argsCode_1 [.p (.agg 4 x.enc), .ptr (.out 0) 0] [.box 4 a.enc] = some ([.p (.bool (decide (x.name = a.name)))], [.box 4 a.enc]) := fun x => by
    rw [impl_argsCode_1_0_ev, impl_argsCode_1_0_eq]
    rfl
  have := findLoop (p := fun b : GArg => decide (b.name = a.name)) (L := fun i => slices_IndexFunc_impl_Arg_impl_Arg_4 (ws.map GArg.enc) ws.length i a.enc) (ret := fun i => some ([.p (.int .i64 i)], [.box 4 a.enc])) (l := ws) (fun i x hx => by
    have hlt := lt_of_get hx
    rw [slices_IndexFunc_impl_Arg_impl_Arg_4_eq, hlen, decide_eq_true (by omega), cond_true, if_pos (by omega), getD_enc hx, hf, bBoxB, wrap_id (by omega)]) (by rw [slices_IndexFunc_impl_Arg_impl_Arg_4_eq, decide_eq_false (by omega), cond_false]) ws.length 0 (by omega)
  have e0 : ((0 : Nat) : Int) = 0 := rfl
  rw [e0, List.drop_zero] at this
  rw [slices_ContainsFunc_impl_Arg_impl_Arg_1_ev, slices_ContainsFunc_impl_Arg_impl_Arg_1_eq, slices_IndexFunc_impl_Arg_impl_Arg_1_ev, slices_IndexFunc_impl_Arg_impl_Arg_1_eq, hlen, this, bBoxI]
  have h2 := idx_any (fun b : GArg => decide (b.name = a.name)) ws
  unfold idx at h2
  rw [h2]
  rfl
theorem contains2 {ws : List GArg} (hl : ws.length ≤ 9223372036854775807) (a : GAD) : ev E0 F_slices_ContainsFunc_impl_Arg_impl_Arg [.p (.sl 4 (ws.map GArg.enc)), .fn F_impl_argsCode_2 [.ptr (.out 0) 0]] [.box 2 a.enc] = some ([.p (.bool (dupA ws a.name))], [.box 2 a.enc]) := by
  have hlen : (ws.map GArg.enc).length = ws.length := by simp
  have hf : ∀ x : GArg, ev E0 F_impl_argsCode_2 [.p (.agg 4 x.enc), .ptr (.out 0) 0] [.box 2 a.enc] = some ([.p (.bool (decide (x.name = a.name)))], [.box 2 a.enc]) := fun x => by
    rw [impl_argsCode_2_0_ev, impl_argsCode_2_0_eq]
    rfl
  have := findLoop (p := fun b : GArg => decide (b.name = a.name)) (L := fun i => slices_IndexFunc_impl_Arg_impl_Arg_5 (ws.map GArg.enc) ws.length i a.enc) (ret := fun i => some ([.p (.int .i64 i)], [.box 2 a.enc])) (l := ws) (fun i x hx => by
    have hlt := lt_of_get hx
    rw [slices_IndexFunc_impl_Arg_impl_Arg_5_eq, hlen, decide_eq_true (by omega), cond_true, if_pos (by omega), getD_enc hx, hf, bBoxB, wrap_id (by omega)]) (by rw [slices_IndexFunc_impl_Arg_impl_Arg_5_eq, decide_eq_false (by omega), cond_false]) ws.length 0 (by omega)
  have e0 : ((0 : Nat) : Int) = 0 := rfl
  rw [e0, List.drop_zero] at this
  rw [slices_ContainsFunc_impl_Arg_impl_Arg_2_ev, slices_ContainsFunc_impl_Arg_impl_Arg_2_eq, slices_IndexFunc_impl_Arg_impl_Arg_2_ev, slices_IndexFunc_impl_Arg_impl_Arg_2_eq, hlen, this, bBoxI]
  have h2 := idx_any (fun b : GArg => decide (b.name = a.name)) ws
  unfold idx at h2
  rw [h2]
  rfl
theorem impl_args {f : GFD} (hf : okFD f) {args : List GArg} (ha : args.length ≤ 9223372036854775807) : ev E0 F_impl_argsCode [.p (.agg 5 f.enc), .p (.sl 4 (args.map GArg.enc))] [] = rI (argsN f args) := by
  have hfl := hf.2.1.1
  have hla : (args.map GArg.enc).length = args.length := by simp
  have hlf : (f.args.map GAD.enc).length = f.args.length := by simp
  have hsa := fun nm => impl_arg hfl nm
  unfold GFD.enc at hsa ⊢
  generalize hF : f.args.map GAD.enc = F at *
  have second := andLoop (p := fun _ d => needS args d) (L := fun i => impl_argsCode_3 (args.map GArg.enc) F f.args.length i) (D := rI 0) (E := rI 10) (l := f.args) (fun i d hd => by
    have hlt := lt_of_get hd
    have hgd : F.getD (i : Int).toNat [] = d.enc := by rw [← hF]; exact getD_enc hd
    rw [impl_argsCode_3_eq, hlf, decide_eq_true (by omega), cond_true, if_pos (by omega), hgd, adN', Option.bind_some, contains2 ha, bBoxB, impl_argsCode_4_eq, impl_argsCode_4_eq, wrap_id (by omega)]
    unfold needS
    exact boolU _ _ _) (by rw [impl_argsCode_3_eq, decide_eq_false (by omega), cond_false]) f.args.length 0 (by omega)
  have e0 : ((0 : Nat) : Int) = 0 := rfl
  rw [List.drop_zero, e0] at second
  have first := andLoop (p := argS f args) (L := fun i => impl_argsCode_1 (args.map GArg.enc) (args.map GArg.enc) args.length i f.name F f.type f.list f.bang) (D := bif allI (fun _ d => needS args d) 0 f.args then rI 0 else rI 10) (E := rI 10) (l := args) (fun i a hi => by
    have hlt := lt_of_get hi
    have hti : (args.take i).length ≤ 9223372036854775807 := by rw [List.length_take]; omega
    have hs : (((args.map GArg.enc).drop (0 : Int).toNat).take ((i : Int).toNat - (0 : Int).toNat)) = (args.take i).map GArg.enc := by
      have e0 : (0 : Int).toNat = 0 := rfl
      rw [e0, List.drop_zero, Int.toNat_natCast, Nat.sub_zero, List.map_take]
    have h2 : ∀ b, impl_argsCode_2 (args.map GArg.enc) (args.map GArg.enc) args.length i b f.name F f.type f.list f.bang = bif b then rI 10 else impl_argsCode_1 (args.map GArg.enc) (args.map GArg.enc) args.length ((i : Int) + 1) f.name F f.type f.list f.bang := fun b => by rw [impl_argsCode_2_eq, wrap_id (by omega)]
    rw [impl_argsCode_1_eq, decide_eq_true (by omega), cond_true, hla, if_pos (by omega), getD_enc hi, argN0, Option.bind_some, hsa, bI, if_pos (by omega), hs, contains1 hti, bBoxB, argN1, Option.bind_some, Option.bind_some, h2, h2, beq_int, beq_int]
    unfold argS argX
    rcases idx_find (nmA a.name) f.args with ⟨q1, q2⟩ | ⟨j, d, q1, q2, q3, q4⟩
    · rw [q1, q2]
      rfl
    · have hgd : F.getD (j : Int).toNat [] = d.enc := by rw [← hF]; exact getD_enc q3
      have hj := lt_of_get q3
      rw [q1, q2, decide_eq_false (show ¬ ((j : Int) < 0) by omega), cond_false, hlf, if_pos (by omega), hgd, adN, Option.bind_some]
      exact boolR _ _ _ _ _) (by rw [impl_argsCode_1_eq, decide_eq_false (by omega), cond_false, hlf]; exact second) args.length 0 (by omega)
  rw [List.drop_zero, e0] at first
  rw [impl_argsCode_0_ev, impl_argsCode_0_eq, hla, first]
  exact boolZ _ _

/-! ### fragments -/
def fragP (nm : ByteArray) (d : GDef) : Bool := decide (d.kind = 3) && decide (d.name = nm)
def rF : Option GDef → Option Res
  | some d => some ([.p (.agg 4 d.enc), .p (.bool true)], [])
  | none => some ([.p (.agg 4 [.int .i64 0, .str ⟨#[]⟩, .str ⟨#[]⟩, .sl 6 []]), .p (.bool false)], [])
theorem bF {R : Type} (o : Option GDef) (K : List Pd → Bool → Option R) : ((rF o).bind fun r => (asAgg 4 (pAt 0 r.1)).bind fun c => (asBool (pAt 1 r.1)).bind fun b => if r.1.length = 2 then K c b else none) = match o with | some d => K d.enc true | none => K [.int .i64 0, .str ⟨#[]⟩, .str ⟨#[]⟩, .sl 6 []] false := by
  cases o <;> simp [rF, pAt, asAgg, asBool]
theorem spec_frag {D : List GDef} (hD : D.length ≤ 9223372036854775807) (nm : ByteArray) : ev E0 F_spec_l02Fragment [.p (.agg 1 [.sl 4 (D.map GDef.enc)]), .p (.str nm)] [] = rF (D.find? (fragP nm)) := by
  have hlen : (D.map GDef.enc).length = D.length := by simp
  have := findLoopO (p := fragP nm) (L := fun i => spec_l02Fragment_1 nm i (D.map GDef.enc) 0 ⟨#[]⟩ ⟨#[]⟩) (ret := rF) (l := D) (fun i x hx => by
    have hlt := lt_of_get hx
    have e : asInt .i64 (x.enc.getD 0 .undef) = some x.kind := rfl
    have e2 : asStr ((x.enc.drop 1).getD 0 .undef) = some x.name := rfl
    rw [spec_l02Fragment_1_eq, hlen, decide_eq_true (by omega), cond_true, if_pos (by omega), getD_enc hx, e, Option.bind_some, if_pos (by omega), e2, Option.bind_some, spec_l02Fragment_2_eq, spec_l02Fragment_2_eq, hlen, if_pos (by omega), getD_enc hx, wrap_id (by omega), beq_int]
    unfold fragP
    exact boolQ _ _ _ _) (by
    rw [spec_l02Fragment_1_eq, hlen, decide_eq_false (by omega), cond_false]
    rfl) D.length 0 (by omega)
  rw [spec_l02Fragment_0_ev, spec_l02Fragment_0_eq]
  exact this
theorem impl_frag {D : List GDef} (hD : D.length ≤ 9223372036854775807) (nm : ByteArray) : ev E0 F_impl_Doc_fragment [.p (.agg 1 [.sl 4 (D.map GDef.enc)]), .p (.str nm)] [] = rF (D.find? (fragP nm)) := by
  have hlen : (D.map GDef.enc).length = D.length := by simp
  have hf : ∀ x : GDef, ev E0 F_impl_Doc_fragment_1 [.p (.agg 4 x.enc), .ptr (.out 0) 0] [.box 1 [.str nm]] = some ([.p (.bool (fragP nm x))], [.box 1 [.str nm]]) := fun x => by
    have e : asInt .i64 (x.enc.getD 0 .undef) = some x.kind := rfl
    have e2 : asStr (x.enc.getD 1 .undef) = some x.name := rfl
    rw [impl_Doc_fragment_1_0_ev, impl_Doc_fragment_1_0_eq, e, Option.bind_some, e2, Option.bind_some, beq_int]
    unfold fragP
    cases decide (x.kind = 3) <;> rfl
  have fold : ∀ (l : List (List Pd)) (n i : Int), slices_IndexFunc_impl_Def_impl_Def_2 l n i [.str nm] = slices_IndexFunc_impl_Def_impl_Def_1 l n i nm := fun _ _ _ => rfl
  have := findLoop (p := fragP nm) (L := fun i => slices_IndexFunc_impl_Def_impl_Def_1 (D.map GDef.enc) D.length i nm) (ret := fun i => some ([.p (.int .i64 i)], [.box 1 [.str nm]])) (l := D) (fun i x hx => by
    have hlt := lt_of_get hx
    rw [slices_IndexFunc_impl_Def_impl_Def_1_eq, hlen, decide_eq_true (by omega), cond_true, if_pos (by omega), getD_enc hx, hf, bBoxB, wrap_id (by omega), fold]) (by rw [slices_IndexFunc_impl_Def_impl_Def_1_eq, decide_eq_false (by omega), cond_false]) D.length 0 (by omega)
  have e0 : ((0 : Nat) : Int) = 0 := rfl
  rw [e0, List.drop_zero] at this
  rw [impl_Doc_fragment_0_ev, impl_Doc_fragment_0_eq, slices_IndexFunc_impl_Def_impl_Def_0_ev, slices_IndexFunc_impl_Def_impl_Def_0_eq, hlen, this, bBoxI]
  rcases idx_find (fragP nm) D with ⟨q1, q2⟩ | ⟨j, d, q1, q2, q3, q4⟩
  · unfold idx at q2
    rw [q1, q2]
    rfl
  · have hj := lt_of_get q3
    unfold idx at q2
    rw [q1, q2, decide_eq_false (by omega), cond_false, if_pos (by omega), getD_enc q3]
    rfl
end Go.Proofs.YtlmmimhjfajhdaaGreat.Dm
