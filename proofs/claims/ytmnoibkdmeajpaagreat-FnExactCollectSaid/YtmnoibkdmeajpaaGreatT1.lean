/- Documents as data, typed; the same as rows of cells. -/
import Derived.Test.YtmnoibkdmeajpaaGreatD3
namespace Go.Proofs.YtmnoibkdmeajpaaGreat.Dm
set_option linter.unusedVariables false
set_option linter.unusedSimpArgs false
structure GVal where
 kind : Int
 n : Int
 t : ByteArray
structure GArg where
 name : ByteArray
 val : GVal
structure GDir where
 skip : Bool
 val : GVal
inductive GSel where
 | mk (kind : Int) (alias name : ByteArray) (args : List GArg) (dirs : List GDir) (sels : List GSel)
structure GDef where
 kind : Int
 name : ByteArray
 on : ByteArray
 sels : List GSel
structure GBind where
 name : ByteArray
 val : GVal
def GVal.enc (v : GVal) : List Pd := [.int .i64 v.kind, .int .i64 v.n, .str v.t]
def GArg.enc (a : GArg) : List Pd := [.str a.name, .int .i64 a.val.kind, .int .i64 a.val.n, .str a.val.t]
def GDir.enc (a : GDir) : List Pd := [.bool a.skip, .int .i64 a.val.kind, .int .i64 a.val.n, .str a.val.t]
def GBind.enc (a : GBind) : List Pd := [.str a.name, .int .i64 a.val.kind, .int .i64 a.val.n, .str a.val.t]
mutual
def GSel.enc : GSel → List Pd
 | .mk k a n args dirs sels => [.int .i64 k, .str a, .str n, .sl 4 (args.map GArg.enc), .sl 4 (dirs.map GDir.enc), .sl 6 (GSel.encs sels)]
def GSel.encs : List GSel → List (List Pd)
 | [] => []
 | x :: xs => GSel.enc x :: GSel.encs xs
end
theorem GSel.encs_eq : ∀ xs : List GSel, GSel.encs xs = xs.map GSel.enc
 | [] => rfl
 | x :: xs => by rw [GSel.encs, GSel.encs_eq xs]; rfl
def GDef.enc (d : GDef) : List Pd := [.int .i64 d.kind, .str d.name, .str d.on, .sl 6 (d.sels.map GSel.enc)]
def okVal (v : GVal) : Prop := v.t.size ≤ 9223372036854775807
def okArg (a : GArg) : Prop := a.name.size ≤ 9223372036854775807 ∧ okVal a.val
def okDir (a : GDir) : Prop := okVal a.val
mutual
def okSel : GSel → Prop
 | .mk _ a n args dirs sels => a.size ≤ 9223372036854775807 ∧ n.size ≤ 9223372036854775807 ∧ okL okArg args ∧ okL okDir dirs ∧ sels.length ≤ 9223372036854775807 ∧ okSels sels
def okSels : List GSel → Prop
 | [] => True
 | x :: xs => okSel x ∧ okSels xs
end
theorem okSels_mem : ∀ {xs : List GSel}, okSels xs → ∀ x ∈ xs, okSel x
 | x :: xs, h, y, hy => by
  rcases List.mem_cons.1 hy with q | q
  ·exact q ▸ h.1
  ·exact okSels_mem h.2 y q
def okDef (d : GDef) : Prop := d.name.size ≤ 9223372036854775807 ∧ d.on.size ≤ 9223372036854775807 ∧ okL okSel d.sels
theorem okSels_of' : ∀ {xs : List GSel}, (∀ x ∈ xs, okSel x) → okSels xs
 | [], _ => trivial
 | x :: xs, h => ⟨h x (List.mem_cons_self ..), okSels_of' fun y hy => h y (List.mem_cons_of_mem _ hy)⟩
theorem wf_Arg {a : GArg} (h : okArg a) : wfC T0 ckArg a.enc :=
 wfC_mk (wfP_str h.1) (wfC_mk (wfP_int _) (wfC_mk (wfP_int _) (wfC_mk (wfP_str h.2) wfC_mk0)))
theorem wf_Dir {a : GDir} (h : okDir a) : wfC T0 ckDir a.enc :=
 wfC_mk (wfP_bool _) (wfC_mk (wfP_int _) (wfC_mk (wfP_int _) (wfC_mk (wfP_str h) wfC_mk0)))
theorem wf_map {α : Type} {f : α → List Pd} {ok : α → Prop} {cs : List CK} (hf : ∀ a, ok a → wfC T0 cs (f a)) {xs : List α} (h : ∀ x ∈ xs, ok x) : wfEs T0 cs (xs.map f) :=
 wfEs_of fun y hy => by
  obtain ⟨x, hx, rfl⟩ := List.mem_map.1 hy
  exact hf x (h x hx)
mutual
theorem wf_Sel : ∀ (x : GSel), okSel x → wfC T0 ckSel x.enc
 | .mk k a n args dirs sels, h => by
  obtain ⟨h1, h2, h3, h4, h5, h6⟩ := h
  unfold GSel.enc
  have e : (GSel.encs sels).length = sels.length := by rw [GSel.encs_eq, List.length_map]
  exact wfC_mk (wfP_int _) (wfC_mk (wfP_str h1) (wfC_mk (wfP_str h2) (wfC_mk (wfP_sl (T := T0) (d := 0) (by rw [List.length_map]; exact h3.1) (wf_map (fun a h => wf_Arg h) h3.2)) (wfC_mk (wfP_sl (T := T0) (d := 1) (by rw [List.length_map]; exact h4.1) (wf_map (fun a h => wf_Dir h) h4.2)) (wfC_mk (wfP_sl (T := T0) (d := 2) (by rw [e]; exact h5) (wf_Sels sels h6)) wfC_mk0)))))
theorem wf_Sels : ∀ (xs : List GSel), okSels xs → wfEs T0 ckSel (GSel.encs xs)
 | [], _ => by rw [GSel.encs, wfEs]; trivial
 | x :: xs, h => by
  rw [GSel.encs, wfEs]
  exact ⟨wf_Sel x h.1, wf_Sels xs h.2⟩
end
theorem wf_SelS {xs : List GSel} (h : okL okSel xs) : wfEs T0 ckSel (xs.map GSel.enc) := by
 rw [← GSel.encs_eq]; exact wf_Sels xs (okSels_of' h.2)
theorem wf_Def {d : GDef} (h : okDef d) : wfC T0 ckDef d.enc :=
 wfC_mk (wfP_int _) (wfC_mk (wfP_str h.1) (wfC_mk (wfP_str h.2.1) (wfC_mk (wfP_sl (T := T0) (d := 2) (by rw [List.length_map]; exact h.2.2.1) (wf_SelS h.2.2)) wfC_mk0)))
theorem wf_DefS {xs : List GDef} (h : okL okDef xs) : wfEs T0 ckDef (xs.map GDef.enc) := wf_map (fun a h => wf_Def h) h.2
theorem len_map {α : Type} {f : α → List Pd} {xs : List α} {n : Nat} (h : xs.length ≤ n) : (xs.map f).length ≤ n := by rw [List.length_map]; exact h
end Go.Proofs.YtmnoibkdmeajpaaGreat.Dm
