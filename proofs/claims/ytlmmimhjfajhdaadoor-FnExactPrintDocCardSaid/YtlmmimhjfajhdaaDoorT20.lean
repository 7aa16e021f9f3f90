/- For every document the law FnExactPrintDoc returns true. -/
import Derived.Test.YtlmmimhjfajhdaaDoorT19
namespace Go.Proofs.YtlmmimhjfajhdaaDoor.Dm
set_option linter.unusedVariables false
set_option linter.unusedSimpArgs false

abbrev rSI (v : ByteArray) (n : Int) : Option Res := some ([.p (.str v), .p (.int .i64 n)], [])
theorem bSI {R : Type} (v : ByteArray) (n : Int) (K : ByteArray → Int → Option R) : ((rSI v n).bind fun r => (asStr (pAt 0 r.1)).bind fun v => (asInt .i64 (pAt 1 r.1)).bind fun n => if r.1.length = 2 then K v n else none) = K v n := by simp [pAt, asStr, asInt]
/-- what both answer -/
def printB (xs : List GDef) : Option Res := bif docB xs then rSI (S (docT xs)) 0 else rSI (⟨#[]⟩ : ByteArray) 1
theorem spec_PrintDoc_ev {xs : List GDef} (hok : okL okDef xs) : ev E0 F_spec_PrintDoc [.p (.agg 1 [.sl 4 (xs.map GDef.enc)])] [] = printB xs := by
  rw [spec_PrintDoc_0_ev, spec_PrintDoc_0_eq, spec_DocOK_ev hok, bB]
  unfold printB
  cases h : docB xs with
  | false => rfl
  | true => rw [Bool.not_true, cond_false, print_ev hok h, bS]; rfl
theorem impl_PrintDoc_ev {xs : List GDef} (hok : okL okDef xs) : ev E0 F_impl_PrintDoc [.p (.agg 1 [.sl 4 (xs.map GDef.enc)])] [] = printB xs := by
  rw [impl_PrintDoc_0_ev, impl_PrintDoc_0_eq, impl_DocOK_ev hok, bB]
  unfold printB
  cases h : docB xs with
  | false => rfl
  | true => rw [Bool.not_true, cond_false, iprint_ev hok h, bS]; rfl
theorem printB_get (xs : List GDef) : ∃ s n, printB xs = rSI s n := by
  unfold printB
  cases docB xs
  · exact ⟨_, _, rfl⟩
  · exact ⟨_, _, rfl⟩
theorem law_PrintDoc {xs : List GDef} (hx : okL okDef xs) : ev E0 F_laws_FnExactPrintDoc [.p (.agg 1 [.sl 4 (xs.map GDef.enc)])] [] = rB true := by
  rw [laws_FnExactPrintDoc_0_ev, laws_FnExactPrintDoc_0_eq, szDoc_ev hx (by omega) (by omega), bI]
  by_cases hw : (wL wDef xs : Int) ≤ 1048576
  · obtain ⟨s, n, hp⟩ := printB_get xs
    have hne : ((n : Int) != n) = false := by simp
    rw [szV_pos hw, decide_eq_false (by omega), cond_false, toDoc_ev (by omega), bA, spec_PrintDoc_ev hx, hp, bSI, bA, impl_PrintDoc_ev hx, hp, bSI, decide_eq_true rfl, Bool.not_true, cond_false, hne, laws_FnExactPrintDoc_1_eq, cond_false, toDoc_ev (by omega), bA, eqDoc_ev hx, bB]
    rfl
  · rw [szV_neg hw]
    rfl
end Go.Proofs.YtlmmimhjfajhdaaDoor.Dm
