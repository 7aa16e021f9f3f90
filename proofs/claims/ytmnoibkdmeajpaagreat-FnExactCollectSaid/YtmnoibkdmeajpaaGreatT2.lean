/- Documents read out of memory are documents as data. -/
import Derived.Test.YtmnoibkdmeajpaaGreatT1
import Derived.Test.YtmnoibkdmeajpaaGreatDm19
namespace Go.Proofs.YtmnoibkdmeajpaaGreat.Dm
set_option linter.unusedVariables false
set_option linter.unusedSimpArgs false
section
variable {P : Program} {t : TypeId} {xs : List Pd}
theorem WT.int_inv {k : IntKind} (hu : P.underlying t = some (.int k)) (h : WT P t xs) : ∃ n, xs = [.int k n] ∧ (Lit.int k n).wf = true := by
 cases h with
 | int q w => rw [hu] at q; injection q with q; injection q with q; subst q; exact ⟨_, rfl, w⟩
 | bool q => rw [hu] at q; cases q
 | str q => rw [hu] at q; cases q
 | sl q => rw [hu] at q; cases q
 | struct q => rw [hu] at q; cases q
theorem WT.bool_inv (hu : P.underlying t = some .bool) (h : WT P t xs) : ∃ b, xs = [.bool b] := by
 cases h with
 | bool q => exact ⟨_, rfl⟩
 | int q => rw [hu] at q; cases q
 | str q => rw [hu] at q; cases q
 | sl q => rw [hu] at q; cases q
 | struct q => rw [hu] at q; cases q
theorem WT.str_inv (hu : P.underlying t = some .string) (h : WT P t xs) : ∃ s, xs = [.str s] ∧ s.size ≤ 9223372036854775807 := by
 cases h with
 | str q w => exact ⟨_, rfl, w⟩
 | int q => rw [hu] at q; cases q
 | bool q => rw [hu] at q; cases q
 | sl q => rw [hu] at q; cases q
 | struct q => rw [hu] at q; cases q
theorem WT.sl_inv {e : TypeId} (hu : P.underlying t = some (.slice e)) (h : WT P t xs) : ∃ es, xs = [.sl (P.cellsOf e) es] ∧ es.length ≤ 9223372036854775807 ∧ (∀ x ∈ es, x.length = P.cellsOf e) ∧ ∀ x ∈ es, WT P e x := by
 cases h with
 | sl q h1 h2 h3 => rw [hu] at q; injection q with q; injection q with q; subst q; exact ⟨_, rfl, h1, h2, h3⟩
 | int q => rw [hu] at q; cases q
 | bool q => rw [hu] at q; cases q
 | str q => rw [hu] at q; cases q
 | struct q => rw [hu] at q; cases q
theorem WT.struct_inv {fs : Array Field} (hu : P.underlying t = some (.struct fs)) (h : WT P t xs) : xs.length = P.cellsOf t ∧ ∀ f ∈ fs.toList, WT P f.type ((xs.drop f.offset).take (P.cellsOf f.type)) := by
 cases h with
 | struct q h1 h2 => rw [hu] at q; injection q with q; injection q with q; subst q; exact ⟨h1, h2⟩
 | int q => rw [hu] at q; cases q
 | bool q => rw [hu] at q; cases q
 | str q => rw [hu] at q; cases q
 | sl q => rw [hu] at q; cases q
end
theorem len1 {l : List Pd} (h : l.length = 1) : ∃ a, l = [a] := by
 match l, h with
 | [a], _ => exact ⟨a, rfl⟩
theorem len3 {l : List Pd} (h : l.length = 3) : ∃ a b c, l = [a, b, c] := by
 match l, h with
 | [a, b, c], _ => exact ⟨a, b, c, rfl⟩
theorem len4 {l : List Pd} (h : l.length = 4) : ∃ a b c d, l = [a, b, c, d] := by
 match l, h with
 | [a, b, c, d], _ => exact ⟨a, b, c, d, rfl⟩
theorem len6 {l : List Pd} (h : l.length = 6) : ∃ a b c d e f, l = [a, b, c, d, e, f] := by
 match l, h with
 | [a, b, c, d, e, f], _ => exact ⟨a, b, c, d, e, f, rfl⟩
theorem list_dec {α : Type} {f : α → List Pd} {ok : α → Prop} : ∀ {es : List (List Pd)}, (∀ x ∈ es, ∃ v, x = f v ∧ ok v) → ∃ l : List α, es = l.map f ∧ ∀ v ∈ l, ok v
 | [], _ => ⟨[], rfl, fun v h => by cases h⟩
 | x :: es, h => by
  obtain ⟨v, e1, e2⟩ := h x (List.mem_cons_self ..)
  obtain ⟨l, q1, q2⟩ := list_dec (fun y hy => h y (List.mem_cons_of_mem _ hy))
  exact ⟨v :: l, by rw [e1, q1]; rfl, fun w hw => by
   rcases List.mem_cons.1 hw with q | q
   ·exact q ▸ e2
   ·exact q2 w q⟩
theorem c_int : Tryz.prog.cellsOf 3 = 1 := by kernel_rfl
theorem c_bool : Tryz.prog.cellsOf 4 = 1 := by kernel_rfl
theorem c_string : Tryz.prog.cellsOf 9 = 1 := by kernel_rfl
theorem c_Value : Tryz.prog.cellsOf 78 = 3 := by kernel_rfl
theorem c_Arg : Tryz.prog.cellsOf 168 = 4 := by kernel_rfl
theorem c_Dir : Tryz.prog.cellsOf 171 = 4 := by kernel_rfl
theorem c_Sel : Tryz.prog.cellsOf 76 = 6 := by kernel_rfl
theorem c_Def : Tryz.prog.cellsOf 115 = 4 := by kernel_rfl
theorem c_Doc : Tryz.prog.cellsOf 24 = 1 := by kernel_rfl
theorem c_ArgS : Tryz.prog.cellsOf 73 = 1 := by kernel_rfl
theorem c_DirS : Tryz.prog.cellsOf 74 = 1 := by kernel_rfl
theorem c_SelS : Tryz.prog.cellsOf 25 = 1 := by kernel_rfl
theorem c_DefS : Tryz.prog.cellsOf 22 = 1 := by kernel_rfl
theorem dec_Value {xs : List Pd} (h : WT Tryz.prog 78 xs) : ∃ v : GVal, xs = v.enc ∧ okVal v := by
 obtain ⟨hl, hf⟩ := h.struct_inv Tryz.underlying78
 rw [c_Value] at hl
 obtain ⟨a, b, c, rfl⟩ := len3 hl
 simp only [List.mem_cons, List.not_mem_nil, or_false, forall_eq_or_imp, forall_eq, c_int, c_string] at hf
 obtain ⟨h1, h2, h3⟩ := hf
 obtain ⟨k, e1, _⟩ := h1.int_inv Tryz.underlying3
 obtain ⟨n, e2, _⟩ := h2.int_inv Tryz.underlying3
 obtain ⟨s, e3, w⟩ := h3.str_inv Tryz.underlying9
 simp at e1 e2 e3
 subst e1 e2 e3
 exact ⟨⟨k, n, s⟩, rfl, w⟩
theorem dec_Arg {xs : List Pd} (h : WT Tryz.prog 168 xs) : ∃ v : GArg, xs = v.enc ∧ okArg v := by
 obtain ⟨hl, hf⟩ := h.struct_inv Tryz.underlying168
 rw [c_Arg] at hl
 obtain ⟨a, b, c, d, rfl⟩ := len4 hl
 simp only [List.mem_cons, List.not_mem_nil, or_false, forall_eq_or_imp, forall_eq, c_Value, c_string] at hf
 obtain ⟨h1, h2⟩ := hf
 obtain ⟨s, e1, w⟩ := h1.str_inv Tryz.underlying9
 obtain ⟨v, e2, w2⟩ := dec_Value h2
 unfold GVal.enc at e2
 simp at e1 e2
 obtain ⟨e2, e3, e4⟩ := e2
 subst e1 e2 e3 e4
 exact ⟨⟨s, v⟩, rfl, w, w2⟩
theorem dec_Dir {xs : List Pd} (h : WT Tryz.prog 171 xs) : ∃ v : GDir, xs = v.enc ∧ okDir v := by
 obtain ⟨hl, hf⟩ := h.struct_inv Tryz.underlying171
 rw [c_Dir] at hl
 obtain ⟨a, b, c, d, rfl⟩ := len4 hl
 simp only [List.mem_cons, List.not_mem_nil, or_false, forall_eq_or_imp, forall_eq, c_Value, c_bool] at hf
 obtain ⟨h1, h2⟩ := hf
 obtain ⟨s, e1⟩ := h1.bool_inv Tryz.underlying4
 obtain ⟨v, e2, w2⟩ := dec_Value h2
 unfold GVal.enc at e2
 simp at e1 e2
 obtain ⟨e2, e3, e4⟩ := e2
 subst e1 e2 e3 e4
 exact ⟨⟨s, v⟩, rfl, w2⟩
theorem okSels_of : ∀ {xs : List GSel}, (∀ x ∈ xs, okSel x) → okSels xs
 | [], _ => trivial
 | x :: xs, h => ⟨h x (List.mem_cons_self ..), okSels_of fun y hy => h y (List.mem_cons_of_mem _ hy)⟩
theorem dec_Sel : ∀ (n : Nat) (xs : List Pd), SizeOf.sizeOf xs ≤ n → WT Tryz.prog 76 xs → ∃ v : GSel, xs = v.enc ∧ okSel v
 | n, xs, hn, h => by
  obtain ⟨hl, hf⟩ := h.struct_inv Tryz.underlying76
  rw [c_Sel] at hl
  obtain ⟨a, b, c, d, e, f, rfl⟩ := len6 hl
  simp only [List.mem_cons, List.not_mem_nil, or_false, forall_eq_or_imp, forall_eq, c_int, c_string, c_ArgS, c_DirS, c_SelS] at hf
  obtain ⟨h1, h2, h3, h4, h5, h6⟩ := hf
  obtain ⟨k, e1, _⟩ := h1.int_inv Tryz.underlying3
  obtain ⟨al, e2, w2⟩ := h2.str_inv Tryz.underlying9
  obtain ⟨nm, e3, w3⟩ := h3.str_inv Tryz.underlying9
  obtain ⟨es4, e4, l4, _, x4⟩ := h4.sl_inv Tryz.underlying73
  obtain ⟨es5, e5, l5, _, x5⟩ := h5.sl_inv Tryz.underlying74
  obtain ⟨es6, e6, l6, _, x6⟩ := h6.sl_inv Tryz.underlying25
  rw [c_Arg] at e4
  rw [c_Dir] at e5
  rw [c_Sel] at e6
  simp at e1 e2 e3 e4 e5 e6
  subst e1 e2 e3 e4 e5 e6
  obtain ⟨ars, q4, o4⟩ := list_dec (f := GArg.enc) (ok := okArg) (fun x hx => dec_Arg (x4 x hx))
  obtain ⟨ds, q5, o5⟩ := list_dec (f := GDir.enc) (ok := okDir) (fun x hx => dec_Dir (x5 x hx))
  have hrec : ∀ x ∈ es6, ∃ v, x = GSel.enc v ∧ okSel v := fun x hx => by
   have hlt := List.sizeOf_lt_of_mem hx
   cases n with
   | zero => simp at hn
   | succ n => exact dec_Sel n x (by simp at hn; omega) (x6 x hx)
  obtain ⟨ss, q6, o6⟩ := list_dec (f := GSel.enc) (ok := okSel) hrec
  subst q4 q5 q6
  refine ⟨.mk k al nm ars ds ss, ?_, w2, w3, ⟨by simpa using l4, o4⟩, ⟨by simpa using l5, o5⟩, by simpa using l6, okSels_of o6⟩
  unfold GSel.enc
  rw [GSel.encs_eq]
theorem dec_Def {xs : List Pd} (h : WT Tryz.prog 115 xs) : ∃ v : GDef, xs = v.enc ∧ okDef v := by
 obtain ⟨hl, hf⟩ := h.struct_inv Tryz.underlying115
 rw [c_Def] at hl
 obtain ⟨a, b, c, d, rfl⟩ := len4 hl
 simp only [List.mem_cons, List.not_mem_nil, or_false, forall_eq_or_imp, forall_eq, c_int, c_string, c_SelS] at hf
 obtain ⟨h1, h2, h3, h6⟩ := hf
 obtain ⟨k, e1, _⟩ := h1.int_inv Tryz.underlying3
 obtain ⟨al, e2, w2⟩ := h2.str_inv Tryz.underlying9
 obtain ⟨nm, e3, w3⟩ := h3.str_inv Tryz.underlying9
 obtain ⟨es6, e6, l6, _, x6⟩ := h6.sl_inv Tryz.underlying25
 rw [c_Sel] at e6
 simp at e1 e2 e3 e6
 subst e1 e2 e3 e6
 obtain ⟨ss, q6, o6⟩ := list_dec (f := GSel.enc) (ok := okSel) (fun x hx => dec_Sel _ x (Nat.le_refl _) (x6 x hx))
 subst q6
 exact ⟨⟨k, al, nm, ss⟩, rfl, w2, w3, by simpa using l6, o6⟩
theorem dec_Doc {xs : List Pd} (h : WT Tryz.prog 24 xs) : ∃ l : List GDef, xs = [.sl 4 (l.map GDef.enc)] ∧ okL okDef l := by
 obtain ⟨hl, hf⟩ := h.struct_inv Tryz.underlying24
 rw [c_Doc] at hl
 obtain ⟨a, rfl⟩ := len1 hl
 simp only [List.mem_cons, List.not_mem_nil, or_false, forall_eq_or_imp, forall_eq, c_DefS] at hf
 obtain ⟨es6, e6, l6, _, x6⟩ := hf.sl_inv Tryz.underlying22
 rw [c_Def] at e6
 simp at e6
 subst e6
 obtain ⟨ss, q6, o6⟩ := list_dec (f := GDef.enc) (ok := okDef) (fun x hx => dec_Def (x6 x hx))
 subst q6
 exact ⟨ss, rfl, by simpa using l6, o6⟩
def docTypes : List TypeId := [3, 4, 9, 78, 168, 171, 76, 115, 24, 73, 74, 25, 22]
end Go.Proofs.YtmnoibkdmeajpaaGreat.Dm
