/- For every value the law FnExactOutText returns true. -/
import Derived.Test.YtopogjafbmlfgaaDoorO5
namespace Go.Proofs.YtopogjafbmlfgaaDoor.Dm
set_option linter.unusedVariables false
set_option linter.unusedSimpArgs false

abbrev rSI (v : ByteArray) (n : Int) : Option Res := some ([.p (.str v), .p (.int .i64 n)], [])
theorem bSI {R : Type} (v : ByteArray) (n : Int) (K : ByteArray → Int → Option R) : ((rSI v n).bind fun r => (asStr (pAt 0 r.1)).bind fun v => (asInt .i64 (pAt 1 r.1)).bind fun n => if r.1.length = 2 then K v n else none) = K v n := by simp [pAt, asStr, asInt]
/-- what both answer -/
def otextB (o : GOut) : Option Res := bif outB o then rSI (S (outT o)) 0 else rSI (⟨#[]⟩ : ByteArray) 1
theorem spec_OutText_ev {o : GOut} (ho : okOut o) : ev E0 F_spec_OutText [.p (.agg 5 o.enc)] [] = otextB o := by
  have h1 := spec_OutOK_ev ho
  have h2 : outB o = true → ev E0 F_spec_l08Text [.p (.agg 5 o.enc)] [] = rS (S (outT o)) := fun h => stext_ev 20 o (outB_parts h).1 ho (outB_parts h).2
  unfold otextB
  cases o
  unfold GOut.enc at h1 h2 ⊢
  rw [spec_OutText_0_ev, spec_OutText_0_eq, h1, bB]
  cases h : outB _ with
  | false => rfl
  | true => rw [Bool.not_true, cond_false, h2 h, bS]; rfl
theorem impl_OutText_ev {o : GOut} (ho : okOut o) : ev E0 F_impl_OutText [.p (.agg 5 o.enc)] [] = otextB o := by
  have h1 := impl_OutOK_ev ho
  have h2 : outB o = true → ev E0 F_impl_Out_text [.p (.agg 5 o.enc)] [] = rS (S (outT o)) := fun h => itext_ev 20 o (outB_parts h).1 ho (outB_parts h).2
  unfold otextB
  cases o
  unfold GOut.enc at h1 h2 ⊢
  rw [impl_OutText_0_ev, impl_OutText_0_eq, h1, bB]
  cases h : outB _ with
  | false => rfl
  | true => rw [Bool.not_true, cond_false, h2 h, bS]; rfl
theorem otextB_get (o : GOut) : ∃ s n, otextB o = rSI s n := by
  unfold otextB
  cases outB o
  · exact ⟨_, _, rfl⟩
  · exact ⟨_, _, rfl⟩
theorem law_OutText {o : GOut} (ho : okOut o) : ev E0 F_laws_FnExactOutText [.p (.agg 5 o.enc)] [] = rB true := by
  have h1 := szOut_ev o ho 1048576 (by omega) (by omega)
  have h2 := spec_OutText_ev ho
  have h3 := impl_OutText_ev ho
  have h4 := eqOut_ev o ho
  by_cases hw : (wOut o : Int) ≤ 1048576
  · have h5 := toOut_ev o (by omega)
    obtain ⟨s, n, hp⟩ := otextB_get o
    rw [hp] at h2 h3
    have hne : ((n : Int) != n) = false := by simp
    cases o
    unfold GOut.enc at h1 h2 h3 h4 h5 ⊢
    rw [laws_FnExactOutText_0_ev, laws_FnExactOutText_0_eq, h1, bI, szV_pos hw, decide_eq_false (by omega), cond_false, h5, bA, h2, bSI, bA, h3, bSI, decide_eq_true rfl, Bool.not_true, cond_false, hne, laws_FnExactOutText_1_eq, cond_false, h5, bA, h4, bB]
    rfl
  · cases o
    unfold GOut.enc at h1 ⊢
    rw [laws_FnExactOutText_0_ev, laws_FnExactOutText_0_eq, h1, bI, szV_neg hw]
    rfl
end Go.Proofs.YtopogjafbmlfgaaDoor.Dm
