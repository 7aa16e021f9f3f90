/- The machine over plain data and memory: from a function's equation to its call. -/
import Derived.Test.YtmnoibkdmeajpaaGreatDm18
import Derived.WalkKit
import Derived.ProofKit
import Derived.OpenShut
import Derived.ShutString
import Derived.ChangeOld
import Derived.Below
import Derived.Carry
import Derived.SizedLaws
namespace Go.Proofs.YtmnoibkdmeajpaaGreat.Dm
set_option linter.unusedSectionVars false
open Go.ChangeShapes Go.WideShapes Go.ChangeAt Go.RowKit
open Go.ChangeMaps (open_string shut_string)
set_option linter.unusedVariables false
set_option linter.unusedSimpArgs false
variable [Cfg]
def argP (P : Program) (t : TypeId) (xs : List Pd) : Pd := if isAggT P t = true then .agg (P.cellsOf t) xs else xs.getD 0 .undef
theorem dataT_one {P : Program} {ts : List TypeId} {t : TypeId} (h : dataT P ts t = true) (ha : isAggT P t = false) : P.cellsOf t = 1 := by
 unfold dataT at h
 unfold isAggT at ha
 split at h <;> simp_all
theorem arg_vd {H : Type} {enc : TypeId × Value → H} {P : Program} {W : World} {spare : Nat → Bool} {held : Bool} {ts : List TypeId} (hts : dataSet P ts = true) {t : TypeId} (ht : t ∈ ts) {r : Reach} {b0 : Nat} {v : Value} (hval : Value.okWide P W r b0 t v) {d : DataW H} {p : List MemPlace}
 (h : DataW.Trod enc P W 0 spare held t v d p) : ∃ xs, WT P t xs ∧ xs.length = P.cellsOf t ∧ VP (SW W) W (argP P t xs) v := by
 obtain ⟨fuel, hf⟩ := h
 obtain ⟨xs, g⟩ := trod_vp hts fuel t ht _ _ hf
 refine ⟨xs, g.wt, g.lx, ?_⟩
 have hd := List.all_eq_true.1 hts t ht
 unfold argP
 cases ha : isAggT P t with
 | true =>
  rw [if_pos rfl]
  have hs : ∃ fs, P.underlying t = some (.struct fs) := by
   unfold isAggT at ha
   unfold dataT at hd
   split at ha
   ·exact ⟨_, by assumption⟩
   ·rename_i hu; rw [hu] at hd; cases hd
   ·cases ha
  obtain ⟨fs, hu⟩ := hs
  obtain ⟨cs, rfl, hsz⟩ := okWide_struct hu hval
  have e : ∀ j, (Value.agg cs).cells.toList.getD j undef = cs.getD j undef := fun j => by
   simp [Value.cells, List.getD_eq_getElem?_getD, Array.getD_eq_getD_getElem?]
  exact .agg hsz (fun j hj => e j ▸ g.one j hj) (fun j hj => e j ▸ g.vp j hj)
 | false =>
  rw [if_neg (by simp)]
  have h1 := dataT_one hd ha
  have hcells : v.cells = #[v] := by
   have hne : ∀ cs, v ≠ .agg cs := by
    intro cs q
    unfold dataT at hd
    split at hd
    ·rename_i hu; obtain ⟨a, q', _⟩ := open_bool hu hval ⟨fuel, hf⟩; rw [q] at q'; cases q'
    ·rename_i k hu; obtain ⟨a, q', _⟩ := open_int hu hval ⟨fuel, hf⟩; rw [q] at q'; cases q'
    ·rename_i hu; obtain ⟨a, q', _⟩ := open_string hu hval ⟨fuel, hf⟩; rw [q] at q'; cases q'
    ·rename_i e hu; obtain ⟨a, l, c, q'⟩ := okWide_slice hu hval; rw [q] at q'; cases q'
    ·rename_i fs hu; unfold isAggT at ha; rw [hu] at ha; cases ha
    ·cases hd
   cases v <;> first | rfl | exact absurd rfl (hne _)
  have := g.vp 0 (by omega)
  rw [hcells] at this
  simpa using this
theorem ev_callsK {E : Env} (hdr : ∀ C : Cfg, @DrOK C E.P) (hq : QuietOK E.P) {κ : Kp} (hlib : LibOK E κ) {f : FuncId} {args : List Pd} {x : Pd} (hev : ev E f (args.map .p) [] = some ([.p x], [])) {w : World} (hK : κ.K w) (hg : ∀ b, κ.g b → b < w.heap.size) {vs : Array Value} (hn : vs.size = args.length) (hv : ∀ j, j < args.length → VP (SZ w) w (args.getD j .undef) (vs.getD j undef)) :
 Calls E.P f vs w fun e w' => ∃ v S', e = .returned v ∧ VP S' w' x v ∧ Below w.heap.size w w' := by
 let ρ : Nm → Rz := fun _ => Rz.of none undef
 refine (ev_sound hdr hq hlib f (args.map .p) [] _ hev w ρ (SZ w) vs ⟨hK, fun b hb => ⟨hg b hb, fun _ => hg b hb⟩⟩ (Core.base0 w ρ) (by simp [hn]) (fun j hj => ?_)).mono ?_
 ·rw [List.length_map] at hj
  have : (args.map Dv.p).getD j ud = .p (args.getD j .undef) := by
   rw [List.getD_eq_getElem?_getD, List.getElem?_map, List.getD_eq_getElem?_getD]
   cases args[j]? <;> rfl
  rw [this]
  exact .p (hv j hj)
 ·rintro e w' ⟨v, ρ', S', rfl, hc, hd⟩
  have hF : ∀ b, ¬ (cx0 w (SZ w) ρ []).F b := by
   rintro b ⟨m, q1, _⟩
   cases m <;> simp [getOb] at q1
  have hd : VD ρ' S' w' (.p x) v := hd
  cases hd with
  | p hd => exact ⟨v, S', rfl, hd, hc.os, hc.tape, hc.output, hc.ws, fun k hk => hc.fr k hk (hF k)⟩
theorem ev_true {E : Env} (hdr : ∀ C : Cfg, @DrOK C E.P) (hq : QuietOK E.P) (hlib : ∀ f, E.lib f = .none) {f : FuncId} {args : List Pd} (hev : ev E f (args.map .p) [] = some ([.p (.bool true)], [])) {w : World} {vs : Array Value} (hn : vs.size = args.length) (hv : ∀ j, j < args.length → VP (SZ w) w (args.getD j .undef) (vs.getD j undef)) :
 Calls E.P f vs w fun e w' => e = .returned (.bool true) ∧ Below w.heap.size w w' :=
 (ev_callsK hdr hq (κ := Kp.nothing) (.none hlib) hev trivial (fun _ q => q.elim) hn hv).mono fun e w' ⟨v, S', h1, h2, h3⟩ => by
  cases h2
  exact ⟨h1, h3⟩
end Go.Proofs.YtmnoibkdmeajpaaGreat.Dm
