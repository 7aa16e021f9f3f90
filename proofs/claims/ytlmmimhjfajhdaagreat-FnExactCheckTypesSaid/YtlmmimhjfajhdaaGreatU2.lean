/- Schemas: the program's judgement and the reference's are one. -/
import Derived.Test.YtlmmimhjfajhdaaGreatU1
namespace Go.Proofs.YtlmmimhjfajhdaaGreat.Dm
set_option linter.unusedVariables false
set_option linter.unusedSimpArgs false

theorem bBoxI {R : Type} (s : Nat) (c : List Pd) (n : Int) (K : Int → List Pd → Option R) : ((some ([.p (.int .i64 n)], [.box s c]) : Option Res).bind fun r => (asInt .i64 (pAt 0 r.1)).bind fun b => if r.1.length = 1 then ((asBox s (r.2.getD 0 .none)).bind fun c => if r.2.length = 1 then K b c else none) else none) = K n c := by simp [pAt, asInt, asBox]
theorem bBoxB {R : Type} (s : Nat) (c : List Pd) (n : Bool) (K : Bool → List Pd → Option R) : ((some ([.p (.bool n)], [.box s c]) : Option Res).bind fun r => (asBool (pAt 0 r.1)).bind fun b => if r.1.length = 1 then ((asBox s (r.2.getD 0 .none)).bind fun c => if r.2.length = 1 then K b c else none) else none) = K n c := by simp [pAt, asBool, asBox]
/-! ### the first that is so -/
def idxF {α : Type} (p : α → Bool) : Nat → List α → Int
  | _, [] => -1
  | i, x :: xs => if p x = true then (i : Int) else idxF p (i + 1) xs
def idx {α : Type} (p : α → Bool) (l : List α) : Int := idxF p 0 l
theorem findLoop {α : Type} {p : α → Bool} {L : Int → Option Res} {ret : Int → Option Res} {l : List α} (step : ∀ (i : Nat) (x : α), l[i]? = some x → L i = bif p x then ret i else L ((i : Int) + 1)) (done : L l.length = ret (-1)) : ∀ (k i : Nat), i + k = l.length → L i = ret (idxF p i (l.drop i))
  | 0, i, h => by
    have : i = l.length := by omega
    subst this
    rw [done, List.drop_length]
    rfl
  | k + 1, i, h => by
    have hlt : i < l.length := by omega
    have ih := findLoop step done k (i + 1) (by omega)
    have e2 : ((i + 1 : Nat) : Int) = (i : Int) + 1 := by omega
    rw [e2] at ih
    rw [step i l[i] (List.getElem?_eq_getElem hlt), List.drop_eq_getElem_cons hlt, idxF, ih]
    cases p l[i] <;> rfl
theorem idxF_find {α : Type} {p : α → Bool} : ∀ (l : List α) (i : Nat), (l.find? p = none ∧ idxF p i l = -1) ∨ ∃ j x, l.find? p = some x ∧ idxF p i l = ((i + j : Nat) : Int) ∧ l[j]? = some x ∧ p x = true
  | [], i => .inl ⟨rfl, rfl⟩
  | y :: ys, i => by
    unfold idxF
    by_cases h : p y = true
    · exact .inr ⟨0, y, by simp [h], by rw [if_pos h]; rfl, rfl, h⟩
    · rw [if_neg h, List.find?_cons_of_neg h]
      rcases idxF_find ys (i + 1) with ⟨a, b⟩ | ⟨j, x, a, b, c, d⟩
      · exact .inl ⟨a, b⟩
      · exact .inr ⟨j + 1, x, a, by rw [b]; congr 1; omega, by simpa using c, d⟩
theorem idx_find {α : Type} (p : α → Bool) (l : List α) : (l.find? p = none ∧ idx p l = -1) ∨ ∃ (j : Nat) (x : α), l.find? p = some x ∧ idx p l = (j : Int) ∧ l[j]? = some x ∧ p x = true := by
  rcases idxF_find (p := p) l 0 with h | ⟨j, x, a, b, c, d⟩
  · exact .inl h
  · exact .inr ⟨j, x, a, by rw [Nat.zero_add] at b; exact b, c, d⟩
theorem idx_any {α : Type} (p : α → Bool) (l : List α) : decide (idx p l ≥ 0) = l.any p := by
  rcases idx_find p l with ⟨a, b⟩ | ⟨j, x, a, b, c, d⟩
  · rw [b]
    have : l.any p = false := by
      rw [List.any_eq_false]
      intro x hx
      simpa using List.find?_eq_none.1 a x hx
    rw [this]
    rfl
  · rw [b, decide_eq_true (by omega)]
    exact (List.any_eq_true.2 ⟨x, List.mem_of_getElem? c, d⟩).symm
theorem idx_neg {α : Type} (p : α → Bool) (l : List α) : decide (idx p l < 0) = (l.find? p).isNone := by
  rcases idx_find p l with ⟨a, b⟩ | ⟨j, x, a, b, c, d⟩
  · rw [a, b]; rfl
  · rw [a, b, decide_eq_false (by omega)]; rfl
def allI {α : Type} (p : Nat → α → Bool) : Nat → List α → Bool
  | _, [] => true
  | i, x :: xs => p i x && allI p (i + 1) xs
theorem andLoop {α : Type} {p : Nat → α → Bool} {L : Int → Option Res} {D E : Option Res} {l : List α} (step : ∀ (i : Nat) (x : α), l[i]? = some x → L i = bif p i x then L ((i : Int) + 1) else E) (done : L l.length = D) : ∀ (k i : Nat), i + k = l.length → L i = bif allI p i (l.drop i) then D else E
  | 0, i, h => by
    have : i = l.length := by omega
    subst this
    rw [done, List.drop_length]
    rfl
  | k + 1, i, h => by
    have hlt : i < l.length := by omega
    have ih := andLoop step done k (i + 1) (by omega)
    have e2 : ((i + 1 : Nat) : Int) = (i : Int) + 1 := by omega
    rw [e2] at ih
    rw [step i l[i] (List.getElem?_eq_getElem hlt), List.drop_eq_getElem_cons hlt, allI, ih]
    cases p i l[i] <;> rfl
theorem allI_get {α : Type} {p : Nat → α → Bool} : ∀ {l : List α} {i j : Nat} {x : α}, allI p i l = true → l[j]? = some x → p (i + j) x = true
  | y :: ys, i, 0, x, h, hx => by
    unfold allI at h
    rw [Bool.and_eq_true] at h
    simp only [List.getElem?_cons_zero, Option.some.injEq] at hx
    subst hx
    exact h.1
  | y :: ys, i, j + 1, x, h, hx => by
    unfold allI at h
    rw [Bool.and_eq_true] at h
    have := allI_get (i := i + 1) h.2 (j := j) (x := x) (by simpa using hx)
    rw [Nat.add_assoc, Nat.add_comm 1 j] at this
    exact this

/-! ### places by names -/
def nmT (nm : ByteArray) (t : GTD) : Bool := decide (t.name = nm)
def nmF (nm : ByteArray) (t : GFD) : Bool := decide (t.name = nm)
def nmA (nm : ByteArray) (t : GAD) : Bool := decide (t.name = nm)
theorem spec_find {S : List GTD} (hS : S.length ≤ 9223372036854775807) (nm : ByteArray) : ev E0 F_spec_l03Find [.p (.agg 1 [.sl 2 (S.map GTD.enc)]), .p (.str nm)] [] = rI (idx (nmT nm) S) := by
  have hlen : (S.map GTD.enc).length = S.length := by simp
  have := findLoop (p := nmT nm) (L := fun i => spec_l03Find_1 nm i (S.map GTD.enc)) (ret := fun i => rI i) (l := S) (fun i x hx => by
    have hlt := lt_of_get hx
    have e : asStr (x.enc.getD 0 .undef) = some x.name := rfl
    rw [spec_l03Find_1_eq, hlen, decide_eq_true (by omega), cond_true, if_pos (by omega), getD_enc hx, e, Option.bind_some, wrap_id (by omega)]
    rfl) (by rw [spec_l03Find_1_eq, hlen, decide_eq_false (by omega), cond_false]) S.length 0 (by omega)
  rw [spec_l03Find_0_ev, spec_l03Find_0_eq]
  exact this
theorem spec_field {t : GTD} (hS : t.fields.length ≤ 9223372036854775807) (nm : ByteArray) : ev E0 F_spec_l03Field [.p (.agg 2 t.enc), .p (.str nm)] [] = rI (idx (nmF nm) t.fields) := by
  have hlen : (t.fields.map GFD.enc).length = t.fields.length := by simp
  have := findLoop (p := nmF nm) (L := fun i => spec_l03Field_1 nm i t.name (t.fields.map GFD.enc)) (ret := fun i => rI i) (l := t.fields) (fun i x hx => by
    have hlt := lt_of_get hx
    have e : asStr (x.enc.getD 0 .undef) = some x.name := rfl
    rw [spec_l03Field_1_eq, hlen, decide_eq_true (by omega), cond_true, if_pos (by omega), getD_enc hx, e, Option.bind_some, wrap_id (by omega)]
    rfl) (by rw [spec_l03Field_1_eq, hlen, decide_eq_false (by omega), cond_false]) t.fields.length 0 (by omega)
  unfold GTD.enc
  rw [spec_l03Field_0_ev, spec_l03Field_0_eq]
  exact this
theorem spec_arg {t : GFD} (hS : t.args.length ≤ 9223372036854775807) (nm : ByteArray) : ev E0 F_spec_l03Arg [.p (.agg 5 t.enc), .p (.str nm)] [] = rI (idx (nmA nm) t.args) := by
  have hlen : (t.args.map GAD.enc).length = t.args.length := by simp
  have := findLoop (p := nmA nm) (L := fun i => spec_l03Arg_1 nm i t.name (t.args.map GAD.enc) t.type t.list t.bang) (ret := fun i => rI i) (l := t.args) (fun i x hx => by
    have hlt := lt_of_get hx
    have e : asStr (x.enc.getD 0 .undef) = some x.name := rfl
    rw [spec_l03Arg_1_eq, hlen, decide_eq_true (by omega), cond_true, if_pos (by omega), getD_enc hx, e, Option.bind_some, wrap_id (by omega)]
    rfl) (by rw [spec_l03Arg_1_eq, hlen, decide_eq_false (by omega), cond_false]) t.args.length 0 (by omega)
  unfold GFD.enc
  rw [spec_l03Arg_0_ev, spec_l03Arg_0_eq]
  exact this
theorem impl_find {S : List GTD} (hS : S.length ≤ 9223372036854775807) (nm : ByteArray) : ev E0 F_impl_Schema_typeAt [.p (.agg 1 [.sl 2 (S.map GTD.enc)]), .p (.str nm)] [] = rI (idx (nmT nm) S) := by
  have hlen : (S.map GTD.enc).length = S.length := by simp
  have hf : ∀ x : GTD, ev E0 F_impl_Schema_typeAt_1 [.p (.agg 2 x.enc), .ptr (.out 0) 0] [.box 1 [.str nm]] = some ([.p (.bool (nmT nm x))], [.box 1 [.str nm]]) := fun x => by
    rw [impl_Schema_typeAt_1_0_ev, impl_Schema_typeAt_1_0_eq]
    rfl
  have fold : ∀ (l : List (List Pd)) (n i : Int), slices_IndexFunc_impl_TypeDef_impl_TypeDef_2 l n i [.str nm] = slices_IndexFunc_impl_TypeDef_impl_TypeDef_1 l n i nm := fun _ _ _ => rfl
  have := findLoop (p := nmT nm) (L := fun i => slices_IndexFunc_impl_TypeDef_impl_TypeDef_1 (S.map GTD.enc) S.length i nm) (ret := fun i => some ([.p (.int .i64 i)], [.box 1 [.str nm]])) (l := S) (fun i x hx => by
    have hlt := lt_of_get hx
    rw [slices_IndexFunc_impl_TypeDef_impl_TypeDef_1_eq, hlen, decide_eq_true (by omega), cond_true, if_pos (by omega), getD_enc hx, hf, bBoxB, wrap_id (by omega), fold]) (by rw [slices_IndexFunc_impl_TypeDef_impl_TypeDef_1_eq, decide_eq_false (by omega), cond_false]) S.length 0 (by omega)
  have e0 : ((0 : Nat) : Int) = 0 := rfl
  rw [e0, List.drop_zero] at this
  rw [impl_Schema_typeAt_0_ev, impl_Schema_typeAt_0_eq, slices_IndexFunc_impl_TypeDef_impl_TypeDef_0_ev, slices_IndexFunc_impl_TypeDef_impl_TypeDef_0_eq, hlen, this, bBoxI]
  rfl
theorem impl_field {t : GTD} (hS : t.fields.length ≤ 9223372036854775807) (nm : ByteArray) : ev E0 F_impl_TypeDef_fieldAt [.p (.agg 2 t.enc), .p (.str nm)] [] = rI (idx (nmF nm) t.fields) := by
  have hlen : (t.fields.map GFD.enc).length = t.fields.length := by simp
  have hf : ∀ x : GFD, ev E0 F_impl_TypeDef_fieldAt_1 [.p (.agg 5 x.enc), .ptr (.out 0) 0] [.box 1 [.str nm]] = some ([.p (.bool (nmF nm x))], [.box 1 [.str nm]]) := fun x => by
    rw [impl_TypeDef_fieldAt_1_0_ev, impl_TypeDef_fieldAt_1_0_eq]
    rfl
  have fold : ∀ (l : List (List Pd)) (n i : Int), slices_IndexFunc_impl_FieldDef_impl_FieldDef_2 l n i [.str nm] = slices_IndexFunc_impl_FieldDef_impl_FieldDef_1 l n i nm := fun _ _ _ => rfl
  have := findLoop (p := nmF nm) (L := fun i => slices_IndexFunc_impl_FieldDef_impl_FieldDef_1 (t.fields.map GFD.enc) t.fields.length i nm) (ret := fun i => some ([.p (.int .i64 i)], [.box 1 [.str nm]])) (l := t.fields) (fun i x hx => by
    have hlt := lt_of_get hx
    rw [slices_IndexFunc_impl_FieldDef_impl_FieldDef_1_eq, hlen, decide_eq_true (by omega), cond_true, if_pos (by omega), getD_enc hx, hf, bBoxB, wrap_id (by omega), fold]) (by rw [slices_IndexFunc_impl_FieldDef_impl_FieldDef_1_eq, decide_eq_false (by omega), cond_false]) t.fields.length 0 (by omega)
  have e0 : ((0 : Nat) : Int) = 0 := rfl
  rw [e0, List.drop_zero] at this
  unfold GTD.enc
  rw [impl_TypeDef_fieldAt_0_ev, impl_TypeDef_fieldAt_0_eq, slices_IndexFunc_impl_FieldDef_impl_FieldDef_0_ev, slices_IndexFunc_impl_FieldDef_impl_FieldDef_0_eq, hlen, this, bBoxI]
  rfl
theorem impl_arg {t : GFD} (hS : t.args.length ≤ 9223372036854775807) (nm : ByteArray) : ev E0 F_impl_FieldDef_argAt [.p (.agg 5 t.enc), .p (.str nm)] [] = rI (idx (nmA nm) t.args) := by
  have hlen : (t.args.map GAD.enc).length = t.args.length := by simp
  have hf : ∀ x : GAD, ev E0 F_impl_FieldDef_argAt_1 [.p (.agg 2 x.enc), .ptr (.out 0) 0] [.box 1 [.str nm]] = some ([.p (.bool (nmA nm x))], [.box 1 [.str nm]]) := fun x => by
    rw [impl_FieldDef_argAt_1_0_ev, impl_FieldDef_argAt_1_0_eq]
    rfl
  have fold : ∀ (l : List (List Pd)) (n i : Int), slices_IndexFunc_impl_ArgDef_impl_ArgDef_2 l n i [.str nm] = slices_IndexFunc_impl_ArgDef_impl_ArgDef_1 l n i nm := fun _ _ _ => rfl
  have := findLoop (p := nmA nm) (L := fun i => slices_IndexFunc_impl_ArgDef_impl_ArgDef_1 (t.args.map GAD.enc) t.args.length i nm) (ret := fun i => some ([.p (.int .i64 i)], [.box 1 [.str nm]])) (l := t.args) (fun i x hx => by
    have hlt := lt_of_get hx
    rw [slices_IndexFunc_impl_ArgDef_impl_ArgDef_1_eq, hlen, decide_eq_true (by omega), cond_true, if_pos (by omega), getD_enc hx, hf, bBoxB, wrap_id (by omega), fold]) (by rw [slices_IndexFunc_impl_ArgDef_impl_ArgDef_1_eq, decide_eq_false (by omega), cond_false]) t.args.length 0 (by omega)
  have e0 : ((0 : Nat) : Int) = 0 := rfl
  rw [e0, List.drop_zero] at this
  unfold GFD.enc
  rw [impl_FieldDef_argAt_0_ev, impl_FieldDef_argAt_0_eq, slices_IndexFunc_impl_ArgDef_impl_ArgDef_0_ev, slices_IndexFunc_impl_ArgDef_impl_ArgDef_0_eq, hlen, this, bBoxI]
  rfl

/-! ### right schemas -/
abbrev sInt : ByteArray := ⟨#[73, 110, 116]⟩
abbrev sTn : ByteArray := ⟨#[95, 95, 116, 121, 112, 101, 110, 97, 109, 101]⟩
abbrev sQuery : ByteArray := ⟨#[81, 117, 101, 114, 121]⟩
abbrev sMut : ByteArray := ⟨#[77, 117, 116, 97, 116, 105, 111, 110]⟩
def argD (f : GFD) (n : Nat) (a : GAD) : Bool := nameB a.name && decide (idx (nmA a.name) f.args = (n : Int))
def fieldO (S : List GTD) (f : GFD) : Bool := nameB f.name && (!decide (f.name = sTn) && ((decide (f.type = sInt) || !decide (idx (nmT f.type) S < 0)) && (decide (f.args.length ≤ 4) && allI (argD f) 0 f.args)))
def fieldD (S : List GTD) (t : GTD) (k : Nat) (f : GFD) : Bool := fieldO S f && decide (idx (nmF f.name) t.fields = (k : Int))
def typeD (S : List GTD) (i : Nat) (t : GTD) : Bool := (nameB t.name && (!decide (t.name = sInt) && (decide (idx (nmT t.name) S = (i : Int)) && withinB t.fields.length 1 10))) && allI (fieldD S t) 0 t.fields
def schB (S : List GTD) : Bool := withinB S.length 1 8 && (!decide (idx (nmT sQuery) S < 0) && allI (typeD S) 0 S)
theorem td0 (t : GTD) : asStr (t.enc.getD 0 .undef) = some t.name := rfl
theorem td1 (t : GTD) : asSl 5 (t.enc.getD 1 .undef) = some (t.fields.map GFD.enc) := rfl
theorem fd0 (t : GFD) : asStr (t.enc.getD 0 .undef) = some t.name := rfl
theorem fd1 (t : GFD) : asSl 2 (t.enc.getD 1 .undef) = some (t.args.map GAD.enc) := rfl
theorem fd2 (t : GFD) : asStr (t.enc.getD 2 .undef) = some t.type := rfl
theorem ad0 (t : GAD) : asStr (t.enc.getD 0 .undef) = some t.name := rfl
theorem int_bne (a b : Int) : (a != b) = !decide (a = b) := by
  by_cases h : a = b <;> simp [h]
theorem gt4 (n : Nat) : decide ((n : Int) > 4) = !decide (n ≤ 4) := by
  by_cases h : n ≤ 4
  · rw [decide_eq_true h, decide_eq_false (by omega)]; rfl
  · rw [decide_eq_false h, decide_eq_true (by omega)]; rfl
theorem boolA (X : Option Res) (b1 b2 : Bool) : (bif !b1 then (bif true then rB false else X) else (bif !b2 then rB false else X)) = bif b1 && b2 then X else rB false := by cases b1 <;> cases b2 <;> rfl
theorem boolF (X : Option Res) (b1 b2 b3 b4 b5 b6 b7 : Bool) : (bif !b1 then (bif true then rB false else (bif b7 then X else rB false)) else (bif b2 then (bif true then rB false else (bif b7 then X else rB false)) else (bif !b3 then (bif true then rB false else (bif b7 then X else rB false)) else (bif !b4 then (bif b5 then (bif true then rB false else (bif b7 then X else rB false)) else (bif !b6 then rB false else (bif b7 then X else rB false))) else (bif !b6 then rB false else (bif b7 then X else rB false)))))) = bif (b1 && (!b2 && ((b4 || !b5) && (b6 && b7)))) && b3 then X else rB false := by
  cases b1 <;> cases b2 <;> cases b3 <;> cases b4 <;> cases b5 <;> cases b6 <;> cases b7 <;> rfl
theorem boolG (b1 b2 b4 b5 b6 b7 : Bool) : (bif !b1 then (bif true then rB false else (bif b7 then rB true else rB false)) else (bif b2 then (bif true then rB false else (bif b7 then rB true else rB false)) else (bif !b4 then (bif b5 then (bif true then rB false else (bif b7 then rB true else rB false)) else (bif !b6 then rB false else (bif b7 then rB true else rB false))) else (bif !b6 then rB false else (bif b7 then rB true else rB false))))) = rB (b1 && (!b2 && ((b4 || !b5) && (b6 && b7)))) := by
  cases b1 <;> cases b2 <;> cases b4 <;> cases b5 <;> cases b6 <;> cases b7 <;> rfl
theorem boolT (X : Option Res) (b1 b2 b3 b4 b5 : Bool) : (bif !b1 then (bif true then rB false else (bif b5 then X else rB false)) else (bif b2 then (bif true then rB false else (bif b5 then X else rB false)) else (bif !b3 then (bif true then rB false else (bif b5 then X else rB false)) else (bif !b4 then rB false else (bif b5 then X else rB false))))) = bif (b1 && (!b2 && (b3 && b4))) && b5 then X else rB false := by
  cases b1 <;> cases b2 <;> cases b3 <;> cases b4 <;> cases b5 <;> rfl
theorem boolS (b1 b2 b3 : Bool) : (bif !b1 then (bif true then rB false else (bif b3 then rB true else rB false)) else (bif b2 then rB false else (bif b3 then rB true else rB false))) = rB (b1 && (!b2 && b3)) := by
  cases b1 <;> cases b2 <;> cases b3 <;> rfl
theorem spec_schema_args {S : List GTD} (n0 n1 : Int) (c4 : List Pd) (f : GFD) (hf : okFD f) : spec_SchemaOK_6 n0 n1 0 (S.map GTD.enc) c4 f.enc = bif allI (argD f) 0 f.args then spec_SchemaOK_4 n0 (IntKind.i64.wrap (n1 + 1)) (S.map GTD.enc) c4 else rB false := by
  have hl : (f.args.map GAD.enc).length = f.args.length := by simp
  have hfl := hf.2.1.1
  have := andLoop (p := argD f) (L := fun i => spec_SchemaOK_6 n0 n1 i (S.map GTD.enc) c4 f.enc) (D := spec_SchemaOK_4 n0 (IntKind.i64.wrap (n1 + 1)) (S.map GTD.enc) c4) (E := rB false) (l := f.args) (fun i x hx => by
    have hlt := lt_of_get hx
    have hokx := hf.2.1.2 x (List.mem_of_getElem? hx)
    rw [spec_SchemaOK_6_eq, fd1, Option.bind_some, hl, decide_eq_true (by omega), cond_true, Option.bind_some, hl, if_pos (by omega), getD_enc hx, ad0, Option.bind_some, spec_NameOK_ev hokx, bB, Option.bind_some, hl, if_pos (by omega), getD_enc hx, ad0, Option.bind_some, spec_arg hfl, bI, int_bne, spec_SchemaOK_7_eq, spec_SchemaOK_7_eq, wrap_id (by omega)]
    unfold argD
    exact boolA _ _ _) (by
    rw [spec_SchemaOK_6_eq, fd1, Option.bind_some, hl, decide_eq_false (by omega), cond_false]) f.args.length 0 (by omega)
  rw [List.drop_zero] at this
  exact this
theorem spec_schema_fields {S : List GTD} (hSl : S.length ≤ 9223372036854775807) (n0 : Int) (t : GTD) (ht : okTD t) : spec_SchemaOK_4 n0 0 (S.map GTD.enc) t.enc = bif allI (fieldD S t) 0 t.fields then spec_SchemaOK_2 (IntKind.i64.wrap (n0 + 1)) (S.map GTD.enc) else rB false := by
  have hl : (t.fields.map GFD.enc).length = t.fields.length := by simp
  have htl := ht.2.1
  have := andLoop (p := fieldD S t) (L := fun i => spec_SchemaOK_4 n0 i (S.map GTD.enc) t.enc) (D := spec_SchemaOK_2 (IntKind.i64.wrap (n0 + 1)) (S.map GTD.enc)) (E := rB false) (l := t.fields) (fun i x hx => by
    have hlt := lt_of_get hx
    have hokx := ht.2.2 x (List.mem_of_getElem? hx)
    have hla : (x.args.map GAD.enc).length = x.args.length := by simp
    have h5 : ∀ b, spec_SchemaOK_5 n0 i b (S.map GTD.enc) t.enc x.enc = bif b then rB false else (bif allI (argD x) 0 x.args then spec_SchemaOK_4 n0 ((i : Int) + 1) (S.map GTD.enc) t.enc else rB false) := fun b => by
      rw [spec_SchemaOK_5_eq, spec_schema_args n0 i t.enc x hokx, wrap_id (by omega)]
    rw [spec_SchemaOK_4_eq, td1, Option.bind_some, hl, decide_eq_true (by omega), cond_true, Option.bind_some, hl, if_pos (by omega), getD_enc hx, fd0, Option.bind_some, spec_NameOK_ev hokx.1, bB, Option.bind_some, Option.bind_some, spec_field htl, bI, fd2, Option.bind_some, Option.bind_some, spec_find hSl, bI, fd1, Option.bind_some, hla, gt4, int_bne, h5, h5]
    unfold fieldD fieldO
    exact boolF _ _ _ _ _ _ _ _) (by
    rw [spec_SchemaOK_4_eq, td1, Option.bind_some, hl, decide_eq_false (by omega), cond_false]) t.fields.length 0 (by omega)
  rw [List.drop_zero] at this
  exact this
theorem spec_schema {S : List GTD} (hS : okL okTD S) : ev E0 F_spec_SchemaOK [.p (.agg 1 [.sl 2 (S.map GTD.enc)])] [] = rB (schB S) := by
  have hSl := hS.1
  have hlen : (S.map GTD.enc).length = S.length := by simp
  have types := andLoop (p := typeD S) (L := fun i => spec_SchemaOK_2 i (S.map GTD.enc)) (D := rB true) (E := rB false) (l := S) (fun i x hx => by
      have hlt := lt_of_get hx
      have hokx := hS.2 x (List.mem_of_getElem? hx)
      have hla : (x.fields.map GFD.enc).length = x.fields.length := by simp
      have h3 : ∀ b, spec_SchemaOK_3 i b (S.map GTD.enc) x.enc = bif b then rB false else (bif allI (fieldD S x) 0 x.fields then spec_SchemaOK_2 ((i : Int) + 1) (S.map GTD.enc) else rB false) := fun b => by
        rw [spec_SchemaOK_3_eq, spec_schema_fields hSl i x hokx, wrap_id (by omega)]
      rw [spec_SchemaOK_2_eq, hlen, decide_eq_true (by omega), cond_true, if_pos (by omega), getD_enc hx, td0, Option.bind_some, spec_NameOK_ev hokx.1, bB, Option.bind_some, Option.bind_some, spec_find hSl, bI, td1, Option.bind_some, hla, l01In_ev, bB, int_bne, h3, h3]
      unfold typeD
      exact boolT _ _ _ _ _ _) (by
      rw [spec_SchemaOK_2_eq, hlen, decide_eq_false (by omega), cond_false]) S.length 0 (by omega)
  have e0 : ((0 : Nat) : Int) = 0 := rfl
  rw [List.drop_zero, e0] at types
  rw [spec_SchemaOK_0_ev, spec_SchemaOK_0_eq, hlen, l01In_ev, bB, spec_find hSl, bI, spec_SchemaOK_1_eq, spec_SchemaOK_1_eq, types]
  unfold schB
  exact boolS _ _ _
theorem impl_fieldOK {S : List GTD} (hSl : S.length ≤ 9223372036854775807) {f : GFD} (hf : okFD f) : ev E0 F_impl_Schema_fieldOK [.p (.agg 1 [.sl 2 (S.map GTD.enc)]), .p (.agg 5 f.enc)] [] = rB (fieldO S f) := by
  have hl : (f.args.map GAD.enc).length = f.args.length := by simp
  have hfl := hf.2.1.1
  have := andLoop (p := argD f) (L := fun i => impl_Schema_fieldOK_2 (f.args.map GAD.enc) f.args.length i f.name (f.args.map GAD.enc) f.type f.list f.bang) (D := rB true) (E := rB false) (l := f.args) (fun i x hx => by
    have hlt := lt_of_get hx
    have hokx := hf.2.1.2 x (List.mem_of_getElem? hx)
    have ha := impl_arg hfl x.name
    unfold GFD.enc at ha
    rw [impl_Schema_fieldOK_2_eq, decide_eq_true (by omega), cond_true, hl, if_pos (by omega), getD_enc hx, ad0, Option.bind_some, impl_NameOK_ev hokx, bB, Option.bind_some, ha, bI, int_bne, impl_Schema_fieldOK_3_eq, impl_Schema_fieldOK_3_eq, wrap_id (by omega)]
    unfold argD
    exact boolA _ _ _) (by
    rw [impl_Schema_fieldOK_2_eq, decide_eq_false (by omega), cond_false]) f.args.length 0 (by omega)
  have e0 : ((0 : Nat) : Int) = 0 := rfl
  rw [List.drop_zero, e0] at this
  unfold GFD.enc
  have h1 : ∀ b, impl_Schema_fieldOK_1 b f.name (f.args.map GAD.enc) f.type f.list f.bang = bif b then rB false else (bif allI (argD f) 0 f.args then rB true else rB false) := fun b => by
    rw [impl_Schema_fieldOK_1_eq, hl, this]
  rw [impl_Schema_fieldOK_0_ev, impl_Schema_fieldOK_0_eq, impl_NameOK_ev hf.1, bB, impl_find hSl, bI, hl, gt4, h1, h1]
  unfold fieldO
  exact boolG _ _ _ _ _ _
theorem impl_schema {S : List GTD} (hS : okL okTD S) : ev E0 F_impl_SchemaOK [.p (.agg 1 [.sl 2 (S.map GTD.enc)])] [] = rB (schB S) := by
  have hSl := hS.1
  have hlen : (S.map GTD.enc).length = S.length := by simp
  have fields : ∀ (i : Nat) (t : GTD), okTD t → impl_SchemaOK_4 (S.map GTD.enc) S.length i (t.fields.map GFD.enc) t.fields.length 0 (S.map GTD.enc) t.enc = bif allI (fieldD S t) 0 t.fields then impl_SchemaOK_2 (S.map GTD.enc) S.length (IntKind.i64.wrap ((i : Int) + 1)) (S.map GTD.enc) else rB false := by
    intro n0 t ht
    have hl : (t.fields.map GFD.enc).length = t.fields.length := by simp
    have htl := ht.2.1
    have := andLoop (p := fieldD S t) (L := fun i => impl_SchemaOK_4 (S.map GTD.enc) S.length n0 (t.fields.map GFD.enc) t.fields.length i (S.map GTD.enc) t.enc) (D := impl_SchemaOK_2 (S.map GTD.enc) S.length (IntKind.i64.wrap ((n0 : Int) + 1)) (S.map GTD.enc)) (E := rB false) (l := t.fields) (fun i x hx => by
      have hlt := lt_of_get hx
      have hokx := ht.2.2 x (List.mem_of_getElem? hx)
      rw [impl_SchemaOK_4_eq, decide_eq_true (by omega), cond_true, hl, if_pos (by omega), getD_enc hx, impl_fieldOK hSl hokx, bB, fd0, Option.bind_some, impl_field htl, bI, int_bne, impl_SchemaOK_5_eq, impl_SchemaOK_5_eq, wrap_id (by omega)]
      unfold fieldD
      exact boolA _ _ _) (by
      rw [impl_SchemaOK_4_eq, decide_eq_false (by omega), cond_false]) t.fields.length 0 (by omega)
    rw [List.drop_zero] at this
    exact this
  have types := andLoop (p := typeD S) (L := fun i => impl_SchemaOK_2 (S.map GTD.enc) S.length i (S.map GTD.enc)) (D := rB true) (E := rB false) (l := S) (fun i x hx => by
      have hlt := lt_of_get hx
      have hokx := hS.2 x (List.mem_of_getElem? hx)
      have hla : (x.fields.map GFD.enc).length = x.fields.length := by simp
      have h3 : ∀ b, impl_SchemaOK_3 (S.map GTD.enc) S.length i b (S.map GTD.enc) x.enc = bif b then rB false else (bif allI (fieldD S x) 0 x.fields then impl_SchemaOK_2 (S.map GTD.enc) S.length ((i : Int) + 1) (S.map GTD.enc) else rB false) := fun b => by
        rw [impl_SchemaOK_3_eq, td1, Option.bind_some, hla, fields i x hokx, wrap_id (by omega)]
      rw [impl_SchemaOK_2_eq, decide_eq_true (by omega), cond_true, hlen, if_pos (by omega), getD_enc hx, td0, Option.bind_some, impl_NameOK_ev hokx.1, bB, Option.bind_some, Option.bind_some, impl_find hSl, bI, td1, Option.bind_some, hla, within_ev, bB, int_bne, h3, h3]
      unfold typeD
      exact boolT _ _ _ _ _ _) (by
      rw [impl_SchemaOK_2_eq, decide_eq_false (by omega), cond_false]) S.length 0 (by omega)
  have e0 : ((0 : Nat) : Int) = 0 := rfl
  rw [List.drop_zero, e0] at types
  rw [impl_SchemaOK_0_ev, impl_SchemaOK_0_eq, hlen, within_ev, bB, impl_find hSl, bI, impl_SchemaOK_1_eq, impl_SchemaOK_1_eq, hlen, types]
  unfold schB
  exact boolS _ _ _
/-- a field's type is there, where it is none of its own -/
theorem schB_type {S : List GTD} (h : schB S = true) {t : GTD} (ht : t ∈ S) {f : GFD} (hf : f ∈ t.fields) : f.type = sInt ∨ (S.find? (nmT f.type)).isSome = true := by
  unfold schB at h
  simp only [Bool.and_eq_true] at h
  obtain ⟨i, hi, e⟩ := List.getElem_of_mem ht
  have h1 := allI_get h.2.2 (j := i) (x := t) (by rw [List.getElem?_eq_getElem hi, e])
  unfold typeD at h1
  rw [Bool.and_eq_true] at h1
  obtain ⟨k, hk, e2⟩ := List.getElem_of_mem hf
  have h2 := allI_get h1.2 (j := k) (x := f) (by rw [List.getElem?_eq_getElem hk, e2])
  unfold fieldD fieldO at h2
  simp only [Bool.and_eq_true, Bool.or_eq_true, decide_eq_true_eq, idx_neg] at h2
  rcases h2.1.2.2.1 with q | q
  · exact .inl q
  · right
    cases hfd : S.find? (nmT f.type) with
    | none => rw [hfd] at q; simp at q
    | some x => rfl
end Go.Proofs.YtlmmimhjfajhdaaGreat.Dm
