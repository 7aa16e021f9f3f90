/- For every request the law FnExactRequestOK returns true. -/
import Derived.Test.YtlmmimhjfajhdaaT6
import Derived.Test.YtlmmimhjfajhdaaT10
namespace Go.Proofs.Ytlmmimhjfajhdaa.Dm
set_option linter.unusedVariables false
set_option linter.unusedSimpArgs false

theorem c_BindS : Try.prog.cellsOf 27 = 1 := by kernel_rfl
theorem c_Request : Try.prog.cellsOf 47 = 2 := by kernel_rfl
theorem len2 {l : List Pd} (h : l.length = 2) : ∃ a b, l = [a, b] := by
  match l, h with
  | [a, b], _ => exact ⟨a, b, rfl⟩
theorem dec_Request {xs : List Pd} (h : WT Try.prog 47 xs) : ∃ (l : List GDef) (v : List GArg), xs = [.sl 4 (l.map GDef.enc), .sl 4 (v.map GArg.enc)] ∧ okL okDef l ∧ okL okArg v := by
  obtain ⟨hl, hf⟩ := h.struct_inv Try.underlying47
  rw [c_Request] at hl
  obtain ⟨a, b, rfl⟩ := len2 hl
  simp only [List.mem_cons, List.not_mem_nil, or_false, forall_eq_or_imp, forall_eq, c_Doc, c_BindS] at hf
  obtain ⟨h1, h2⟩ := hf
  obtain ⟨l, e1, o1⟩ := dec_Doc h1
  obtain ⟨v, e2, o2⟩ := dec_BindS h2
  simp at e1 e2
  subst e1 e2
  exact ⟨l, v, rfl, o1, o2⟩
abbrev reqD (l : List GDef) (v : List GArg) : List Pd := [.sl 4 (l.map GDef.enc), .sl 4 (v.map GArg.enc)]
/-- the size of a request -/
def szR (l : List GDef) (v : List GArg) (left : Int) : Int := if (wL wDef l : Int) ≤ left then szV (wL wArg v) (left - wL wDef l) else -1
theorem szRequest_ev {l : List GDef} (hl : okL okDef l) {v : List GArg} (hv : okL okArg v) {left : Int} (h0 : 0 ≤ left) (h1 : left ≤ 1048576) : ev E0 F_laws_szRequest [.p (.agg 2 (reqD l v)), .p (.int .i64 left)] [] = rI (szR l v left) := by
  rw [laws_szRequest_0_ev, laws_szRequest_0_eq, szDoc_ev hl h0 h1, bI]
  unfold szR
  by_cases h : (wL wDef l : Int) ≤ left
  · rw [szV_pos h, decide_eq_false (by omega), cond_false, szBindingS_ev hv (by omega) (by omega), bI, if_pos h]
    by_cases h2 : (wL wArg v : Int) ≤ left - wL wDef l
    · rw [szV_pos h2, decide_eq_false (by omega), cond_false]
    · rw [szV_neg h2, decide_eq_true (by omega), cond_true]
  · rw [szV_neg h, decide_eq_true (by omega), cond_true, if_neg h]
theorem toRequest_ev {l : List GDef} (hl : wL wDef l ≤ 1048576) {v : List GArg} (hv : v.length ≤ 1048576) : ev E0 F_laws_toRequest [.p (.agg 2 (reqD l v))] [] = rA 2 (reqD l v) := by
  rw [laws_toRequest_0_ev, laws_toRequest_0_eq, toDoc_ev hl, bA, toBindingS_ev hv, bL]
  rfl
theorem eqRequest_ev {l : List GDef} (hl : okL okDef l) {v : List GArg} (hv : v.length ≤ 9223372036854775807) : ev E0 F_laws_eqRequest [.p (.agg 2 (reqD l v)), .p (.agg 2 (reqD l v))] [] = rB true := by
  rw [laws_eqRequest_0_ev, laws_eqRequest_0_eq, eqDoc_ev hl, bB, eqBindingS_ev hv, bB]
  rfl
theorem spec_RequestOK_ev {l : List GDef} (hl : okL okDef l) {v : List GArg} (hv : okL okArg v) : ev E0 F_spec_RequestOK [.p (.agg 2 (reqD l v))] [] = rB (docB l && bindsB v) := by
  rw [spec_RequestOK_0_ev, spec_RequestOK_0_eq, spec_DocOK_ev hl, bB, spec_BindingsOK_ev hv, bB]
  cases docB l <;> rfl
theorem impl_RequestOK_ev {l : List GDef} (hl : okL okDef l) {v : List GArg} (hv : okL okArg v) : ev E0 F_impl_RequestOK [.p (.agg 2 (reqD l v))] [] = rB (docB l && bindsB v) := by
  rw [impl_RequestOK_0_ev, impl_RequestOK_0_eq, impl_DocOK_ev hl, bB, impl_BindingsOK_ev hv, bB]
  cases docB l <;> rfl
theorem szR_nonneg {l : List GDef} {v : List GArg} {left : Int} (h : ¬ szR l v left < 0) : wL wDef l + wL wArg v ≤ left ∧ szR l v left = left - wL wDef l - wL wArg v := by
  unfold szR at h ⊢
  split
  · rename_i h1
    rw [if_pos h1] at h
    unfold szV at h ⊢
    split
    · omega
    · rename_i h2
      rw [if_neg h2] at h
      omega
  · rename_i h1
    rw [if_neg h1] at h
    omega
theorem law_RequestOK {l : List GDef} (hl : okL okDef l) {v : List GArg} (hv : okL okArg v) : ev E0 F_laws_FnExactRequestOK [.p (.agg 2 (reqD l v))] [] = rB true := by
  rw [laws_FnExactRequestOK_0_ev, laws_FnExactRequestOK_0_eq, szRequest_ev hl hv (by omega) (by omega), bI]
  by_cases hw : szR l v 1048576 < 0
  · rw [decide_eq_true hw]
    rfl
  · obtain ⟨h1, _⟩ := szR_nonneg hw
    have ht := toRequest_ev (l := l) (by omega) (v := v) (wL_len (f := wArg) (by omega))
    rw [decide_eq_false hw, cond_false, ht, bA, spec_RequestOK_ev hl hv, bB, bA, impl_RequestOK_ev hl hv, bB, nb_self, cond_false, bA, eqRequest_ev hl hv.1, bB]
    rfl
end Go.Proofs.Ytlmmimhjfajhdaa.Dm
