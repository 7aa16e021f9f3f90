/- Printed by gen_data.py: sizes, copies, comparisons, marks of the laws' data. -/
import Derived.Test.YtmnoibkdmeajpaaGreatS2
import Derived.Test.YtmnoibkdmeajpaaGreatD2
namespace Go.Proofs.YtmnoibkdmeajpaaGreat.Dm
set_option linter.unusedVariables false
set_option linter.unusedSimpArgs false
set_option maxRecDepth 4000
def ckArg : List CK := [.s, .i, .i, .s]
def ckDir : List CK := [.b, .i, .i, .s]
def ckSel : List CK := [.i, .s, .s, .r 0, .r 1, .r 2]
def ckDef : List CK := [.i, .s, .s, .r 2]
def ckBinding : List CK := [.s, .i, .i, .s]
def ckGroup : List CK := [.s, .r 2]
def T0 : Nat → De
 | 0 => ⟨142, 4, ckArg⟩
 | 1 => ⟨65, 4, ckDir⟩
 | 2 => ⟨61, 6, ckSel⟩
 | 3 => ⟨122, 4, ckDef⟩
 | 4 => ⟨69, 4, ckBinding⟩
 | 5 => ⟨55, 2, ckGroup⟩
 | _ => ⟨0, 0, []⟩
theorem T0_le (d : Nat) : (T0 d).cks.length ≤ 8 := by
 unfold T0
 split <;> decide
theorem flatArg : ∀ c ∈ ckArg, ∀ d, c ≠ .r d := by
 intro c hc d e
 subst e
 simp [ckArg] at hc
theorem flatDir : ∀ c ∈ ckDir, ∀ d, c ≠ .r d := by
 intro c hc d e
 subst e
 simp [ckDir] at hc
theorem flatBinding : ∀ c ∈ ckBinding, ∀ d, c ≠ .r d := by
 intro c hc d e
 subst e
 simp [ckBinding] at hc
theorem decArg {x : List Pd} (h : wfC T0 ckArg x) : ∃ v0 v1 v2 v3, x = [.str v0, .int .i64 v1, .int .i64 v2, .str v3] ∧ v0.size ≤ 9223372036854775807 ∧ v3.size ≤ 9223372036854775807 := by
 obtain ⟨y0, z0, rfl, a0, h⟩ := wfC_cons h
 obtain ⟨y1, z1, rfl, a1, h⟩ := wfC_cons h
 obtain ⟨y2, z2, rfl, a2, h⟩ := wfC_cons h
 obtain ⟨y3, z3, rfl, a3, h⟩ := wfC_cons h
 obtain rfl := wfC_nil h
 obtain ⟨v0, rfl, q0⟩ := wfP_s a0
 obtain ⟨v1, rfl⟩ := wfP_i a1
 obtain ⟨v2, rfl⟩ := wfP_i a2
 obtain ⟨v3, rfl, q3⟩ := wfP_s a3
 exact ⟨v0, v1, v2, v3, rfl, q0, q3⟩
theorem decDir {x : List Pd} (h : wfC T0 ckDir x) : ∃ v0 v1 v2 v3, x = [.bool v0, .int .i64 v1, .int .i64 v2, .str v3] ∧ v3.size ≤ 9223372036854775807 := by
 obtain ⟨y0, z0, rfl, a0, h⟩ := wfC_cons h
 obtain ⟨y1, z1, rfl, a1, h⟩ := wfC_cons h
 obtain ⟨y2, z2, rfl, a2, h⟩ := wfC_cons h
 obtain ⟨y3, z3, rfl, a3, h⟩ := wfC_cons h
 obtain rfl := wfC_nil h
 obtain ⟨v0, rfl⟩ := wfP_b a0
 obtain ⟨v1, rfl⟩ := wfP_i a1
 obtain ⟨v2, rfl⟩ := wfP_i a2
 obtain ⟨v3, rfl, q3⟩ := wfP_s a3
 exact ⟨v0, v1, v2, v3, rfl, q3⟩
theorem decSel {x : List Pd} (h : wfC T0 ckSel x) : ∃ v0 v1 v2 v3 v4 v5, x = [.int .i64 v0, .str v1, .str v2, .sl 4 v3, .sl 4 v4, .sl 6 v5] ∧ v1.size ≤ 9223372036854775807 ∧ v2.size ≤ 9223372036854775807 ∧ v3.length ≤ 9223372036854775807 ∧ wfEs T0 ckArg v3 ∧ v4.length ≤ 9223372036854775807 ∧ wfEs T0 ckDir v4 ∧ v5.length ≤ 9223372036854775807 ∧ wfEs T0 ckSel v5 := by
 obtain ⟨y0, z0, rfl, a0, h⟩ := wfC_cons h
 obtain ⟨y1, z1, rfl, a1, h⟩ := wfC_cons h
 obtain ⟨y2, z2, rfl, a2, h⟩ := wfC_cons h
 obtain ⟨y3, z3, rfl, a3, h⟩ := wfC_cons h
 obtain ⟨y4, z4, rfl, a4, h⟩ := wfC_cons h
 obtain ⟨y5, z5, rfl, a5, h⟩ := wfC_cons h
 obtain rfl := wfC_nil h
 obtain ⟨v0, rfl⟩ := wfP_i a0
 obtain ⟨v1, rfl, q1⟩ := wfP_s a1
 obtain ⟨v2, rfl, q2⟩ := wfP_s a2
 obtain ⟨v3, rfl, q3, w3⟩ := wfP_r a3
 obtain ⟨v4, rfl, q4, w4⟩ := wfP_r a4
 obtain ⟨v5, rfl, q5, w5⟩ := wfP_r a5
 exact ⟨v0, v1, v2, v3, v4, v5, rfl, q1, q2, q3, w3, q4, w4, q5, w5⟩
theorem decDef {x : List Pd} (h : wfC T0 ckDef x) : ∃ v0 v1 v2 v3, x = [.int .i64 v0, .str v1, .str v2, .sl 6 v3] ∧ v1.size ≤ 9223372036854775807 ∧ v2.size ≤ 9223372036854775807 ∧ v3.length ≤ 9223372036854775807 ∧ wfEs T0 ckSel v3 := by
 obtain ⟨y0, z0, rfl, a0, h⟩ := wfC_cons h
 obtain ⟨y1, z1, rfl, a1, h⟩ := wfC_cons h
 obtain ⟨y2, z2, rfl, a2, h⟩ := wfC_cons h
 obtain ⟨y3, z3, rfl, a3, h⟩ := wfC_cons h
 obtain rfl := wfC_nil h
 obtain ⟨v0, rfl⟩ := wfP_i a0
 obtain ⟨v1, rfl, q1⟩ := wfP_s a1
 obtain ⟨v2, rfl, q2⟩ := wfP_s a2
 obtain ⟨v3, rfl, q3, w3⟩ := wfP_r a3
 exact ⟨v0, v1, v2, v3, rfl, q1, q2, q3, w3⟩
theorem decBinding {x : List Pd} (h : wfC T0 ckBinding x) : ∃ v0 v1 v2 v3, x = [.str v0, .int .i64 v1, .int .i64 v2, .str v3] ∧ v0.size ≤ 9223372036854775807 ∧ v3.size ≤ 9223372036854775807 := by
 obtain ⟨y0, z0, rfl, a0, h⟩ := wfC_cons h
 obtain ⟨y1, z1, rfl, a1, h⟩ := wfC_cons h
 obtain ⟨y2, z2, rfl, a2, h⟩ := wfC_cons h
 obtain ⟨y3, z3, rfl, a3, h⟩ := wfC_cons h
 obtain rfl := wfC_nil h
 obtain ⟨v0, rfl, q0⟩ := wfP_s a0
 obtain ⟨v1, rfl⟩ := wfP_i a1
 obtain ⟨v2, rfl⟩ := wfP_i a2
 obtain ⟨v3, rfl, q3⟩ := wfP_s a3
 exact ⟨v0, v1, v2, v3, rfl, q0, q3⟩
theorem decGroup {x : List Pd} (h : wfC T0 ckGroup x) : ∃ v0 v1, x = [.str v0, .sl 6 v1] ∧ v0.size ≤ 9223372036854775807 ∧ v1.length ≤ 9223372036854775807 ∧ wfEs T0 ckSel v1 := by
 obtain ⟨y0, z0, rfl, a0, h⟩ := wfC_cons h
 obtain ⟨y1, z1, rfl, a1, h⟩ := wfC_cons h
 obtain rfl := wfC_nil h
 obtain ⟨v0, rfl, q0⟩ := wfP_s a0
 obtain ⟨v1, rfl, q1, w1⟩ := wfP_r a1
 exact ⟨v0, v1, rfl, q0, q1, w1⟩
theorem szValue_ev {v0 : Int} {v1 : Int} {v2 : ByteArray} (q2 : v2.size ≤ 9223372036854775807) (left : Int) (l0 : 0 ≤ left) (l1 : left ≤ 1048576) : ev E0 F_zcp [.p (.agg 3 [.int .i64 v0, .int .i64 v1, .str v2]), .p (.int .i64 left)] [] = rI (szV (v2.size) left) := by
 rw [zcp_0_ev, zcp_0_eq]
 rw [wrap_id (n := left - (v2.size : Int)) (by omega)]
 by_cases c0 : ((v2.size : Nat) : Int) ≤ left
 case neg => rw [decide_eq_true (by omega), cond_true]; try exact szNo (by omega)
 rw [decide_eq_false (by omega), cond_false]
 try exact szYes (by omega) (by omega)
theorem szArg_ev {v0 : ByteArray} {v1 : Int} {v2 : Int} {v3 : ByteArray} (q0 : v0.size ≤ 9223372036854775807) (q3 : v3.size ≤ 9223372036854775807) (left : Int) (l0 : 0 ≤ left) (l1 : left ≤ 1048576) : ev E0 F_zce [.p (.agg 4 [.str v0, .int .i64 v1, .int .i64 v2, .str v3]), .p (.int .i64 left)] [] = rI (szV (v0.size + (v3.size)) left) := by
 rw [zce_0_ev, zce_0_eq]
 rw [wrap_id (n := left - (v0.size : Int)) (by omega)]
 by_cases c0 : ((v0.size : Nat) : Int) ≤ left
 case neg => rw [decide_eq_true (by omega), cond_true]; try exact szNo (by omega)
 rw [decide_eq_false (by omega), cond_false]
 rw [szValue_ev q3 (left - ((v0.size : Nat) : Int)) (by omega) (by omega), bI]
 by_cases c1 : (((v3.size) : Nat) : Int) ≤ left - ((v0.size : Nat) : Int)
 case neg => rw [szV_neg c1, decide_eq_true (by omega), cond_true]; try exact szNo (by omega)
 rw [szV_pos c1, decide_eq_false (by omega), cond_false]
 try exact szYes (by omega) (by omega)
theorem szArgS_ev : ∀ (es : List (List Pd)), es.length ≤ 9223372036854775807 → wfEs T0 ckArg es → ∀ left : Int, 0 ≤ left → left ≤ 1048576 → ev E0 F_zcf [.p (.sl 4 es), .p (.int .i64 left)] [] = rI (szV (es.length + wEs es) left) := by
 intro es hl hw left l0 l1
 rw [zcf_0_ev, zcf_0_eq]
 refine sz_row (L := fun left i => zcf_1 es left i) hl l0 l1 (fun i x hx left l0 l1 => ?_) (fun left => ?_)
 ·have hi := lt_of_get hx
  obtain ⟨v0, v1, v2, v3, rfl, q0, q3⟩ := decArg (wfEs_get hw hx)
  have hm : [.str v0, .int .i64 v1, .int .i64 v2, .str v3] ∈ es := List.mem_of_getElem? hx
  show zcf_1 es left i = _
  have hW : wC [.str v0, .int .i64 v1, .int .i64 v2, .str v3] = v0.size + v3.size := by simp only [wC, wP]; omega
  rw [zcf_1_eq, hW]
  exact szStep hi hl (by rw [getD_of hx]; exact szArg_ev q0 q3 left l0 l1) l0 (fun left i => zcf_1 es left i)
 ·show zcf_1 es left es.length = _
  rw [zcf_1_eq]; exact szDone
theorem szDir_ev {v0 : Bool} {v1 : Int} {v2 : Int} {v3 : ByteArray} (q3 : v3.size ≤ 9223372036854775807) (left : Int) (l0 : 0 ≤ left) (l1 : left ≤ 1048576) : ev E0 F_zck [.p (.agg 4 [.bool v0, .int .i64 v1, .int .i64 v2, .str v3]), .p (.int .i64 left)] [] = rI (szV ((v3.size)) left) := by
 rw [zck_0_ev, zck_0_eq]
 rw [szValue_ev q3 (left) (by omega) (by omega), bI]
 by_cases c0 : (((v3.size) : Nat) : Int) ≤ left
 case neg => rw [szV_neg c0, decide_eq_true (by omega), cond_true]; try exact szNo (by omega)
 rw [szV_pos c0, decide_eq_false (by omega), cond_false]
 try exact szYes (by omega) (by omega)
theorem szDirS_ev : ∀ (es : List (List Pd)), es.length ≤ 9223372036854775807 → wfEs T0 ckDir es → ∀ left : Int, 0 ≤ left → left ≤ 1048576 → ev E0 F_zcl [.p (.sl 4 es), .p (.int .i64 left)] [] = rI (szV (es.length + wEs es) left) := by
 intro es hl hw left l0 l1
 rw [zcl_0_ev, zcl_0_eq]
 refine sz_row (L := fun left i => zcl_1 es left i) hl l0 l1 (fun i x hx left l0 l1 => ?_) (fun left => ?_)
 ·have hi := lt_of_get hx
  obtain ⟨v0, v1, v2, v3, rfl, q3⟩ := decDir (wfEs_get hw hx)
  have hm : [.bool v0, .int .i64 v1, .int .i64 v2, .str v3] ∈ es := List.mem_of_getElem? hx
  show zcl_1 es left i = _
  have hW : wC [.bool v0, .int .i64 v1, .int .i64 v2, .str v3] = v3.size := by simp only [wC, wP]; omega
  rw [zcl_1_eq, hW]
  exact szStep hi hl (by rw [getD_of hx]; exact szDir_ev q3 left l0 l1) l0 (fun left i => zcl_1 es left i)
 ·show zcl_1 es left es.length = _
  rw [zcl_1_eq]; exact szDone
theorem szSel_ev {v0 : Int} {v1 : ByteArray} {v2 : ByteArray} {v3 : List (List Pd)} {v4 : List (List Pd)} {v5 : List (List Pd)} (q1 : v1.size ≤ 9223372036854775807) (q2 : v2.size ≤ 9223372036854775807) (g3 : ∀ left : Int, 0 ≤ left → left ≤ 1048576 → ev E0 F_zcf [.p (.sl 4 v3), .p (.int .i64 left)] [] = rI (szV (v3.length + wEs v3) left)) (g4 : ∀ left : Int, 0 ≤ left → left ≤ 1048576 → ev E0 F_zcl [.p (.sl 4 v4), .p (.int .i64 left)] [] = rI (szV (v4.length + wEs v4) left)) (g5 : ∀ left : Int, 0 ≤ left → left ≤ 1048576 → ev E0 F_zco [.p (.sl 6 v5), .p (.int .i64 left)] [] = rI (szV (v5.length + wEs v5) left)) (left : Int) (l0 : 0 ≤ left) (l1 : left ≤ 1048576) : ev E0 F_zcn [.p (.agg 6 [.int .i64 v0, .str v1, .str v2, .sl 4 v3, .sl 4 v4, .sl 6 v5]), .p (.int .i64 left)] [] = rI (szV (v1.size + v2.size + (v3.length + wEs v3) + (v4.length + wEs v4) + (v5.length + wEs v5)) left) := by
 rw [zcn_0_ev, zcn_0_eq]
 rw [wrap_id (n := left - (v1.size : Int)) (by omega)]
 by_cases c0 : ((v1.size : Nat) : Int) ≤ left
 case neg => rw [decide_eq_true (by omega), cond_true]; try exact szNo (by omega)
 rw [decide_eq_false (by omega), cond_false]
 rw [wrap_id (n := left - ((v1.size : Nat) : Int) - (v2.size : Int)) (by omega)]
 by_cases c1 : ((v2.size : Nat) : Int) ≤ left - ((v1.size : Nat) : Int)
 case neg => rw [decide_eq_true (by omega), cond_true]; try exact szNo (by omega)
 rw [decide_eq_false (by omega), cond_false]
 rw [g3 (left - ((v1.size : Nat) : Int) - ((v2.size : Nat) : Int)) (by omega) (by omega), bI]
 by_cases c2 : (((v3.length + wEs v3) : Nat) : Int) ≤ left - ((v1.size : Nat) : Int) - ((v2.size : Nat) : Int)
 case neg => rw [szV_neg c2, decide_eq_true (by omega), cond_true]; try exact szNo (by omega)
 rw [szV_pos c2, decide_eq_false (by omega), cond_false]
 rw [g4 (left - ((v1.size : Nat) : Int) - ((v2.size : Nat) : Int) - (((v3.length + wEs v3) : Nat) : Int)) (by omega) (by omega), bI]
 by_cases c3 : (((v4.length + wEs v4) : Nat) : Int) ≤ left - ((v1.size : Nat) : Int) - ((v2.size : Nat) : Int) - (((v3.length + wEs v3) : Nat) : Int)
 case neg => rw [szV_neg c3, decide_eq_true (by omega), cond_true]; try exact szNo (by omega)
 rw [szV_pos c3, decide_eq_false (by omega), cond_false]
 rw [g5 (left - ((v1.size : Nat) : Int) - ((v2.size : Nat) : Int) - (((v3.length + wEs v3) : Nat) : Int) - (((v4.length + wEs v4) : Nat) : Int)) (by omega) (by omega), bI]
 by_cases c4 : (((v5.length + wEs v5) : Nat) : Int) ≤ left - ((v1.size : Nat) : Int) - ((v2.size : Nat) : Int) - (((v3.length + wEs v3) : Nat) : Int) - (((v4.length + wEs v4) : Nat) : Int)
 case neg => rw [szV_neg c4, decide_eq_true (by omega), cond_true]; try exact szNo (by omega)
 rw [szV_pos c4, decide_eq_false (by omega), cond_false]
 try exact szYes (by omega) (by omega)
theorem szSelS_ev : ∀ (es : List (List Pd)), es.length ≤ 9223372036854775807 → wfEs T0 ckSel es → ∀ left : Int, 0 ≤ left → left ≤ 1048576 → ev E0 F_zco [.p (.sl 6 es), .p (.int .i64 left)] [] = rI (szV (es.length + wEs es) left) := by
 refine row_ind (cs := []) fun es ih hl hw left l0 l1 => ?_
 rw [zco_0_ev, zco_0_eq]
 refine sz_row (L := fun left i => zco_1 es left i) hl l0 l1 (fun i x hx left l0 l1 => ?_) (fun left => ?_)
 ·have hi := lt_of_get hx
  obtain ⟨v0, v1, v2, v3, v4, v5, rfl, q1, q2, q3, w3, q4, w4, q5, w5⟩ := decSel (wfEs_get hw hx)
  have hm : [.int .i64 v0, .str v1, .str v2, .sl 4 v3, .sl 4 v4, .sl 6 v5] ∈ es := List.mem_of_getElem? hx
  show zco_1 es left i = _
  have hW : wC [.int .i64 v0, .str v1, .str v2, .sl 4 v3, .sl 4 v4, .sl 6 v5] = v1.size + v2.size + (v3.length + wEs v3) + (v4.length + wEs v4) + (v5.length + wEs v5) := by simp only [wC, wP]; omega
  rw [zco_1_eq, hW]
  exact szStep hi hl (by rw [getD_of hx]; exact szSel_ev q1 q2 (szArgS_ev v3 q3 w3) (szDirS_ev v4 q4 w4) (ih _ hm 6 v5 (by simp) q5 w5) left l0 l1) l0 (fun left i => zco_1 es left i)
 ·show zco_1 es left es.length = _
  rw [zco_1_eq]; exact szDone
theorem szDef_ev {v0 : Int} {v1 : ByteArray} {v2 : ByteArray} {v3 : List (List Pd)} (q1 : v1.size ≤ 9223372036854775807) (q2 : v2.size ≤ 9223372036854775807) (g3 : ∀ left : Int, 0 ≤ left → left ≤ 1048576 → ev E0 F_zco [.p (.sl 6 v3), .p (.int .i64 left)] [] = rI (szV (v3.length + wEs v3) left)) (left : Int) (l0 : 0 ≤ left) (l1 : left ≤ 1048576) : ev E0 F_zci [.p (.agg 4 [.int .i64 v0, .str v1, .str v2, .sl 6 v3]), .p (.int .i64 left)] [] = rI (szV (v1.size + v2.size + (v3.length + wEs v3)) left) := by
 rw [zci_0_ev, zci_0_eq]
 rw [wrap_id (n := left - (v1.size : Int)) (by omega)]
 by_cases c0 : ((v1.size : Nat) : Int) ≤ left
 case neg => rw [decide_eq_true (by omega), cond_true]; try exact szNo (by omega)
 rw [decide_eq_false (by omega), cond_false]
 rw [wrap_id (n := left - ((v1.size : Nat) : Int) - (v2.size : Int)) (by omega)]
 by_cases c1 : ((v2.size : Nat) : Int) ≤ left - ((v1.size : Nat) : Int)
 case neg => rw [decide_eq_true (by omega), cond_true]; try exact szNo (by omega)
 rw [decide_eq_false (by omega), cond_false]
 rw [g3 (left - ((v1.size : Nat) : Int) - ((v2.size : Nat) : Int)) (by omega) (by omega), bI]
 by_cases c2 : (((v3.length + wEs v3) : Nat) : Int) ≤ left - ((v1.size : Nat) : Int) - ((v2.size : Nat) : Int)
 case neg => rw [szV_neg c2, decide_eq_true (by omega), cond_true]; try exact szNo (by omega)
 rw [szV_pos c2, decide_eq_false (by omega), cond_false]
 try exact szYes (by omega) (by omega)
theorem szDefS_ev : ∀ (es : List (List Pd)), es.length ≤ 9223372036854775807 → wfEs T0 ckDef es → ∀ left : Int, 0 ≤ left → left ≤ 1048576 → ev E0 F_zcj [.p (.sl 4 es), .p (.int .i64 left)] [] = rI (szV (es.length + wEs es) left) := by
 intro es hl hw left l0 l1
 rw [zcj_0_ev, zcj_0_eq]
 refine sz_row (L := fun left i => zcj_1 es left i) hl l0 l1 (fun i x hx left l0 l1 => ?_) (fun left => ?_)
 ·have hi := lt_of_get hx
  obtain ⟨v0, v1, v2, v3, rfl, q1, q2, q3, w3⟩ := decDef (wfEs_get hw hx)
  have hm : [.int .i64 v0, .str v1, .str v2, .sl 6 v3] ∈ es := List.mem_of_getElem? hx
  show zcj_1 es left i = _
  have hW : wC [.int .i64 v0, .str v1, .str v2, .sl 6 v3] = v1.size + v2.size + (v3.length + wEs v3) := by simp only [wC, wP]; omega
  rw [zcj_1_eq, hW]
  exact szStep hi hl (by rw [getD_of hx]; exact szDef_ev q1 q2 (szSelS_ev v3 q3 w3) left l0 l1) l0 (fun left i => zcj_1 es left i)
 ·show zcj_1 es left es.length = _
  rw [zcj_1_eq]; exact szDone
theorem szBinding_ev {v0 : ByteArray} {v1 : Int} {v2 : Int} {v3 : ByteArray} (q0 : v0.size ≤ 9223372036854775807) (q3 : v3.size ≤ 9223372036854775807) (left : Int) (l0 : 0 ≤ left) (l1 : left ≤ 1048576) : ev E0 F_zcg [.p (.agg 4 [.str v0, .int .i64 v1, .int .i64 v2, .str v3]), .p (.int .i64 left)] [] = rI (szV (v0.size + (v3.size)) left) := by
 rw [zcg_0_ev, zcg_0_eq]
 rw [wrap_id (n := left - (v0.size : Int)) (by omega)]
 by_cases c0 : ((v0.size : Nat) : Int) ≤ left
 case neg => rw [decide_eq_true (by omega), cond_true]; try exact szNo (by omega)
 rw [decide_eq_false (by omega), cond_false]
 rw [szValue_ev q3 (left - ((v0.size : Nat) : Int)) (by omega) (by omega), bI]
 by_cases c1 : (((v3.size) : Nat) : Int) ≤ left - ((v0.size : Nat) : Int)
 case neg => rw [szV_neg c1, decide_eq_true (by omega), cond_true]; try exact szNo (by omega)
 rw [szV_pos c1, decide_eq_false (by omega), cond_false]
 try exact szYes (by omega) (by omega)
theorem szBindingS_ev : ∀ (es : List (List Pd)), es.length ≤ 9223372036854775807 → wfEs T0 ckBinding es → ∀ left : Int, 0 ≤ left → left ≤ 1048576 → ev E0 F_zch [.p (.sl 4 es), .p (.int .i64 left)] [] = rI (szV (es.length + wEs es) left) := by
 intro es hl hw left l0 l1
 rw [zch_0_ev, zch_0_eq]
 refine sz_row (L := fun left i => zch_1 es left i) hl l0 l1 (fun i x hx left l0 l1 => ?_) (fun left => ?_)
 ·have hi := lt_of_get hx
  obtain ⟨v0, v1, v2, v3, rfl, q0, q3⟩ := decBinding (wfEs_get hw hx)
  have hm : [.str v0, .int .i64 v1, .int .i64 v2, .str v3] ∈ es := List.mem_of_getElem? hx
  show zch_1 es left i = _
  have hW : wC [.str v0, .int .i64 v1, .int .i64 v2, .str v3] = v0.size + v3.size := by simp only [wC, wP]; omega
  rw [zch_1_eq, hW]
  exact szStep hi hl (by rw [getD_of hx]; exact szBinding_ev q0 q3 left l0 l1) l0 (fun left i => zch_1 es left i)
 ·show zch_1 es left es.length = _
  rw [zch_1_eq]; exact szDone
theorem szDoc_ev {v0 : List (List Pd)} (g0 : ∀ left : Int, 0 ≤ left → left ≤ 1048576 → ev E0 F_zcj [.p (.sl 4 v0), .p (.int .i64 left)] [] = rI (szV (v0.length + wEs v0) left)) (left : Int) (l0 : 0 ≤ left) (l1 : left ≤ 1048576) : ev E0 F_zcm [.p (.agg 1 [.sl 4 v0]), .p (.int .i64 left)] [] = rI (szV ((v0.length + wEs v0)) left) := by
 rw [zcm_0_ev, zcm_0_eq]
 rw [g0 (left) (by omega) (by omega), bI]
 by_cases c0 : (((v0.length + wEs v0) : Nat) : Int) ≤ left
 case neg => rw [szV_neg c0, decide_eq_true (by omega), cond_true]; try exact szNo (by omega)
 rw [szV_pos c0, decide_eq_false (by omega), cond_false]
 try exact szYes (by omega) (by omega)
theorem eqValue_ev {v0 : Int} {v1 : Int} {v2 : ByteArray} : ev E0 F_zbr [.p (.agg 3 [.int .i64 v0, .int .i64 v1, .str v2]), .p (.agg 3 [.int .i64 v0, .int .i64 v1, .str v2])] [] = rB true := by
 rw [zbr_0_ev, zbr_0_eq]
 rw [ne_self v0, cond_false]
 rw [ne_self v1, cond_false]
 rw [nd_self v2, cond_false]
theorem eqArg_ev {v0 : ByteArray} {v1 : Int} {v2 : Int} {v3 : ByteArray} : ev E0 F_zbe [.p (.agg 4 [.str v0, .int .i64 v1, .int .i64 v2, .str v3]), .p (.agg 4 [.str v0, .int .i64 v1, .int .i64 v2, .str v3])] [] = rB true := by
 rw [zbe_0_ev, zbe_0_eq]
 rw [nd_self v0, cond_false]
 rw [eqValue_ev, bB, Bool.not_true, cond_false]
theorem eqArgS_ev : ∀ (es : List (List Pd)), es.length ≤ 9223372036854775807 → wfEs T0 ckArg es → ev E0 F_zbf [.p (.sl 4 es), .p (.sl 4 es)] [] = rB true := by
 intro es hl hw
 rw [zbf_0_ev, zbf_0_eq, ne_self, cond_false]
 refine eqLoop (L := fun i => zbf_1 es es i) (n := es.length) (fun i hi => ?_) (by show zbf_1 es es es.length = _; rw [zbf_1_eq]; exact szDone) es.length 0 (by omega)
 have hx : es[i]? = some es[i] := List.getElem?_eq_getElem hi
 generalize es[i] = x at hx
 obtain ⟨v0, v1, v2, v3, rfl, q0, q3⟩ := decArg (wfEs_get hw hx)
 have hm : [.str v0, .int .i64 v1, .int .i64 v2, .str v3] ∈ es := List.mem_of_getElem? hx
 show zbf_1 es es i = _
 rw [zbf_1_eq]
 exact eqStep hi hl (by rw [getD_of hx]; exact eqArg_ev ) (fun i => zbf_1 es es i)
theorem eqDir_ev {v0 : Bool} {v1 : Int} {v2 : Int} {v3 : ByteArray} : ev E0 F_zbk [.p (.agg 4 [.bool v0, .int .i64 v1, .int .i64 v2, .str v3]), .p (.agg 4 [.bool v0, .int .i64 v1, .int .i64 v2, .str v3])] [] = rB true := by
 rw [zbk_0_ev, zbk_0_eq]
 rw [nb_self v0, cond_false]
 rw [eqValue_ev, bB, Bool.not_true, cond_false]
theorem eqDirS_ev : ∀ (es : List (List Pd)), es.length ≤ 9223372036854775807 → wfEs T0 ckDir es → ev E0 F_zbl [.p (.sl 4 es), .p (.sl 4 es)] [] = rB true := by
 intro es hl hw
 rw [zbl_0_ev, zbl_0_eq, ne_self, cond_false]
 refine eqLoop (L := fun i => zbl_1 es es i) (n := es.length) (fun i hi => ?_) (by show zbl_1 es es es.length = _; rw [zbl_1_eq]; exact szDone) es.length 0 (by omega)
 have hx : es[i]? = some es[i] := List.getElem?_eq_getElem hi
 generalize es[i] = x at hx
 obtain ⟨v0, v1, v2, v3, rfl, q3⟩ := decDir (wfEs_get hw hx)
 have hm : [.bool v0, .int .i64 v1, .int .i64 v2, .str v3] ∈ es := List.mem_of_getElem? hx
 show zbl_1 es es i = _
 rw [zbl_1_eq]
 exact eqStep hi hl (by rw [getD_of hx]; exact eqDir_ev ) (fun i => zbl_1 es es i)
theorem eqSel_ev {v0 : Int} {v1 : ByteArray} {v2 : ByteArray} {v3 : List (List Pd)} {v4 : List (List Pd)} {v5 : List (List Pd)} (g3 : ev E0 F_zbf [.p (.sl 4 v3), .p (.sl 4 v3)] [] = rB true) (g4 : ev E0 F_zbl [.p (.sl 4 v4), .p (.sl 4 v4)] [] = rB true) (g5 : ev E0 F_zbq [.p (.sl 6 v5), .p (.sl 6 v5)] [] = rB true) : ev E0 F_zbp [.p (.agg 6 [.int .i64 v0, .str v1, .str v2, .sl 4 v3, .sl 4 v4, .sl 6 v5]), .p (.agg 6 [.int .i64 v0, .str v1, .str v2, .sl 4 v3, .sl 4 v4, .sl 6 v5])] [] = rB true := by
 rw [zbp_0_ev, zbp_0_eq]
 rw [ne_self v0, cond_false]
 rw [nd_self v1, cond_false]
 rw [nd_self v2, cond_false]
 rw [g3, bB, Bool.not_true, cond_false]
 rw [g4, bB, Bool.not_true, cond_false]
 rw [g5, bB, Bool.not_true, cond_false]
theorem eqSelS_ev : ∀ (es : List (List Pd)), es.length ≤ 9223372036854775807 → wfEs T0 ckSel es → ev E0 F_zbq [.p (.sl 6 es), .p (.sl 6 es)] [] = rB true := by
 refine row_ind (cs := []) fun es ih hl hw => ?_
 rw [zbq_0_ev, zbq_0_eq, ne_self, cond_false]
 refine eqLoop (L := fun i => zbq_1 es es i) (n := es.length) (fun i hi => ?_) (by show zbq_1 es es es.length = _; rw [zbq_1_eq]; exact szDone) es.length 0 (by omega)
 have hx : es[i]? = some es[i] := List.getElem?_eq_getElem hi
 generalize es[i] = x at hx
 obtain ⟨v0, v1, v2, v3, v4, v5, rfl, q1, q2, q3, w3, q4, w4, q5, w5⟩ := decSel (wfEs_get hw hx)
 have hm : [.int .i64 v0, .str v1, .str v2, .sl 4 v3, .sl 4 v4, .sl 6 v5] ∈ es := List.mem_of_getElem? hx
 show zbq_1 es es i = _
 rw [zbq_1_eq]
 exact eqStep hi hl (by rw [getD_of hx]; exact eqSel_ev (eqArgS_ev v3 q3 w3) (eqDirS_ev v4 q4 w4) (ih _ hm 6 v5 (by simp) q5 w5)) (fun i => zbq_1 es es i)
theorem eqDef_ev {v0 : Int} {v1 : ByteArray} {v2 : ByteArray} {v3 : List (List Pd)} (g3 : ev E0 F_zbq [.p (.sl 6 v3), .p (.sl 6 v3)] [] = rB true) : ev E0 F_zbi [.p (.agg 4 [.int .i64 v0, .str v1, .str v2, .sl 6 v3]), .p (.agg 4 [.int .i64 v0, .str v1, .str v2, .sl 6 v3])] [] = rB true := by
 rw [zbi_0_ev, zbi_0_eq]
 rw [ne_self v0, cond_false]
 rw [nd_self v1, cond_false]
 rw [nd_self v2, cond_false]
 rw [g3, bB, Bool.not_true, cond_false]
theorem eqDefS_ev : ∀ (es : List (List Pd)), es.length ≤ 9223372036854775807 → wfEs T0 ckDef es → ev E0 F_zbj [.p (.sl 4 es), .p (.sl 4 es)] [] = rB true := by
 intro es hl hw
 rw [zbj_0_ev, zbj_0_eq, ne_self, cond_false]
 refine eqLoop (L := fun i => zbj_1 es es i) (n := es.length) (fun i hi => ?_) (by show zbj_1 es es es.length = _; rw [zbj_1_eq]; exact szDone) es.length 0 (by omega)
 have hx : es[i]? = some es[i] := List.getElem?_eq_getElem hi
 generalize es[i] = x at hx
 obtain ⟨v0, v1, v2, v3, rfl, q1, q2, q3, w3⟩ := decDef (wfEs_get hw hx)
 have hm : [.int .i64 v0, .str v1, .str v2, .sl 6 v3] ∈ es := List.mem_of_getElem? hx
 show zbj_1 es es i = _
 rw [zbj_1_eq]
 exact eqStep hi hl (by rw [getD_of hx]; exact eqDef_ev (eqSelS_ev v3 q3 w3)) (fun i => zbj_1 es es i)
theorem eqBinding_ev {v0 : ByteArray} {v1 : Int} {v2 : Int} {v3 : ByteArray} : ev E0 F_zbg [.p (.agg 4 [.str v0, .int .i64 v1, .int .i64 v2, .str v3]), .p (.agg 4 [.str v0, .int .i64 v1, .int .i64 v2, .str v3])] [] = rB true := by
 rw [zbg_0_ev, zbg_0_eq]
 rw [nd_self v0, cond_false]
 rw [eqValue_ev, bB, Bool.not_true, cond_false]
theorem eqBindingS_ev : ∀ (es : List (List Pd)), es.length ≤ 9223372036854775807 → wfEs T0 ckBinding es → ev E0 F_zbh [.p (.sl 4 es), .p (.sl 4 es)] [] = rB true := by
 intro es hl hw
 rw [zbh_0_ev, zbh_0_eq, ne_self, cond_false]
 refine eqLoop (L := fun i => zbh_1 es es i) (n := es.length) (fun i hi => ?_) (by show zbh_1 es es es.length = _; rw [zbh_1_eq]; exact szDone) es.length 0 (by omega)
 have hx : es[i]? = some es[i] := List.getElem?_eq_getElem hi
 generalize es[i] = x at hx
 obtain ⟨v0, v1, v2, v3, rfl, q0, q3⟩ := decBinding (wfEs_get hw hx)
 have hm : [.str v0, .int .i64 v1, .int .i64 v2, .str v3] ∈ es := List.mem_of_getElem? hx
 show zbh_1 es es i = _
 rw [zbh_1_eq]
 exact eqStep hi hl (by rw [getD_of hx]; exact eqBinding_ev ) (fun i => zbh_1 es es i)
theorem eqGroup_ev {v0 : ByteArray} {v1 : List (List Pd)} (g1 : ev E0 F_zbq [.p (.sl 6 v1), .p (.sl 6 v1)] [] = rB true) : ev E0 F_zbn [.p (.agg 2 [.str v0, .sl 6 v1]), .p (.agg 2 [.str v0, .sl 6 v1])] [] = rB true := by
 rw [zbn_0_ev, zbn_0_eq]
 rw [nd_self v0, cond_false]
 rw [g1, bB, Bool.not_true, cond_false]
theorem eqGroupS_ev : ∀ (es : List (List Pd)), es.length ≤ 9223372036854775807 → wfEs T0 ckGroup es → ev E0 F_zbo [.p (.sl 2 es), .p (.sl 2 es)] [] = rB true := by
 intro es hl hw
 rw [zbo_0_ev, zbo_0_eq, ne_self, cond_false]
 refine eqLoop (L := fun i => zbo_1 es es i) (n := es.length) (fun i hi => ?_) (by show zbo_1 es es es.length = _; rw [zbo_1_eq]; exact szDone) es.length 0 (by omega)
 have hx : es[i]? = some es[i] := List.getElem?_eq_getElem hi
 generalize es[i] = x at hx
 obtain ⟨v0, v1, rfl, q0, q1, w1⟩ := decGroup (wfEs_get hw hx)
 have hm : [.str v0, .sl 6 v1] ∈ es := List.mem_of_getElem? hx
 show zbo_1 es es i = _
 rw [zbo_1_eq]
 exact eqStep hi hl (by rw [getD_of hx]; exact eqGroup_ev (eqSelS_ev v1 q1 w1)) (fun i => zbo_1 es es i)
theorem eqDoc_ev {v0 : List (List Pd)} (g0 : ev E0 F_zbj [.p (.sl 4 v0), .p (.sl 4 v0)] [] = rB true) : ev E0 F_zbm [.p (.agg 1 [.sl 4 v0]), .p (.agg 1 [.sl 4 v0])] [] = rB true := by
 rw [zbm_0_ev, zbm_0_eq]
 rw [g0, bB, Bool.not_true, cond_false]
theorem asOwn_ArgS {es : List (List Pd)} (h : okEs es = true) : asOwn E0.P [58] ([.arr (.out 0)], [.arr 142 4 48 false es]) = some ([.undef], [es]) := by
 have e : asOwnK E0.P [58] ([.arr (.out 0)], [.arr 142 4 48 false es]) = (if okEs es = true then some ([Pd.undef], [es]) else none) := by kernel_rfl
 rw [asOwnK_eq, e, if_pos h]
theorem asOwn_DirS {es : List (List Pd)} (h : okEs es = true) : asOwn E0.P [59] ([.arr (.out 0)], [.arr 65 4 40 false es]) = some ([.undef], [es]) := by
 have e : asOwnK E0.P [59] ([.arr (.out 0)], [.arr 65 4 40 false es]) = (if okEs es = true then some ([Pd.undef], [es]) else none) := by kernel_rfl
 rw [asOwnK_eq, e, if_pos h]
theorem asOwn_SelS (es : List (List Pd)) : asOwn E0.P [37] ([.arr (.out 0)], [.oarr 61 6 es]) = some ([.undef], [es]) := by kernel_rfl
theorem asOwn_DefS (es : List (List Pd)) : asOwn E0.P [33] ([.arr (.out 0)], [.oarr 122 4 es]) = some ([.undef], [es]) := by kernel_rfl
theorem asOwn_BindingS {es : List (List Pd)} (h : okEs es = true) : asOwn E0.P [39] ([.arr (.out 0)], [.arr 69 4 48 false es]) = some ([.undef], [es]) := by
 have e : asOwnK E0.P [39] ([.arr (.out 0)], [.arr 69 4 48 false es]) = (if okEs es = true then some ([Pd.undef], [es]) else none) := by kernel_rfl
 rw [asOwnK_eq, e, if_pos h]
theorem asOwn_Sel {v0 : Int} {v1 : ByteArray} {v2 : ByteArray} {l3 : List (List Pd)} {l4 : List (List Pd)} {l5 : List (List Pd)} (h3 : okEs l3 = true) (h4 : okEs l4 = true) : asOwn E0.P [61] ([.agg 6 [.p (.int .i64 v0), .p (.str v1), .p (.str v2), .arr (.out 0), .arr (.out 1), .arr (.out 2)]], [.arr 142 4 48 false l3, .arr 65 4 40 false l4, .oarr 61 6 l5]) = some ([.int .i64 v0, .str v1, .str v2, .undef, .undef, .undef], [l3, l4, l5]) := by
 have e : asOwnK E0.P [61] ([.agg 6 [.p (.int .i64 v0), .p (.str v1), .p (.str v2), .arr (.out 0), .arr (.out 1), .arr (.out 2)]], [.arr 142 4 48 false l3, .arr 65 4 40 false l4, .oarr 61 6 l5]) = (if okEs l3 = true then (if okEs l4 = true then (some ([.int .i64 v0, .str v1, .str v2, .undef, .undef, .undef], [l3, l4, l5])) else none) else none) := by kernel_rfl
 rw [asOwnK_eq, e, if_pos h3, if_pos h4]
theorem asOwn_Def {v0 : Int} {v1 : ByteArray} {v2 : ByteArray} {l3 : List (List Pd)} : asOwn E0.P [122] ([.agg 4 [.p (.int .i64 v0), .p (.str v1), .p (.str v2), .arr (.out 0)]], [.oarr 61 6 l3]) = some ([.int .i64 v0, .str v1, .str v2, .undef], [l3]) := by
 kernel_rfl
theorem asOwn_Doc {l0 : List (List Pd)} : asOwn E0.P [35] ([.agg 1 [.arr (.out 0)]], [.oarr 122 4 l0]) = some ([.undef], [l0]) := by
 kernel_rfl
theorem own_Arg {v0 : ByteArray} {v1 : Int} {v2 : Int} {v3 : ByteArray} : ownC T0 ckArg [.str v0, .int .i64 v1, .int .i64 v2, .str v3] = [.str v0, .int .i64 v1, .int .i64 v2, .str v3] := by
 unfold ckArg
 simp only [ownC, ownP]
 try rfl
theorem own_Dir {v0 : Bool} {v1 : Int} {v2 : Int} {v3 : ByteArray} : ownC T0 ckDir [.bool v0, .int .i64 v1, .int .i64 v2, .str v3] = [.bool v0, .int .i64 v1, .int .i64 v2, .str v3] := by
 unfold ckDir
 simp only [ownC, ownP]
 try rfl
theorem own_Sel {v0 : Int} {v1 : ByteArray} {v2 : ByteArray} {v3 : List (List Pd)} {v4 : List (List Pd)} {v5 : List (List Pd)} : ownC T0 ckSel [.int .i64 v0, .str v1, .str v2, .sl 4 v3, .sl 4 v4, .sl 6 v5] = [.int .i64 v0, .str v1, .str v2, .ow 142 4 (ownEs T0 ckArg v3), .ow 65 4 (ownEs T0 ckDir v4), .ow 61 6 (ownEs T0 ckSel v5)] := by
 unfold ckSel
 simp only [ownC, ownP]
 try rfl
theorem own_Def {v0 : Int} {v1 : ByteArray} {v2 : ByteArray} {v3 : List (List Pd)} : ownC T0 ckDef [.int .i64 v0, .str v1, .str v2, .sl 6 v3] = [.int .i64 v0, .str v1, .str v2, .ow 61 6 (ownEs T0 ckSel v3)] := by
 unfold ckDef
 simp only [ownC, ownP]
 try rfl
theorem own_Binding {v0 : ByteArray} {v1 : Int} {v2 : Int} {v3 : ByteArray} : ownC T0 ckBinding [.str v0, .int .i64 v1, .int .i64 v2, .str v3] = [.str v0, .int .i64 v1, .int .i64 v2, .str v3] := by
 unfold ckBinding
 simp only [ownC, ownP]
 try rfl
theorem own_Group {v0 : ByteArray} {v1 : List (List Pd)} : ownC T0 ckGroup [.str v0, .sl 6 v1] = [.str v0, .ow 61 6 (ownEs T0 ckSel v1)] := by
 unfold ckGroup
 simp only [ownC, ownP]
 try rfl
theorem toValue_ev {v0 : Int} {v1 : Int} {v2 : ByteArray} : ev E0 F_zdb [.p (.agg 3 [.int .i64 v0, .int .i64 v1, .str v2])] [] = rA 3 [.int .i64 v0, .int .i64 v1, .str v2] := by
 rw [zdb_0_ev, zdb_0_eq]
theorem toArg_ev {v0 : ByteArray} {v1 : Int} {v2 : Int} {v3 : ByteArray} : ev E0 F_zcq [.p (.agg 4 [.str v0, .int .i64 v1, .int .i64 v2, .str v3])] [] = rA 4 [.str v0, .int .i64 v1, .int .i64 v2, .str v3] := by
 rw [zcq_0_ev, zcq_0_eq]
 rw [toValue_ev, bA]
 rfl
theorem toArgS_ev : ∀ (es : List (List Pd)), es.length ≤ 1048576 → wEs es ≤ 1048576 → wfEs T0 ckArg es → ev E0 F_zcr [.p (.sl 4 es)] [] = some ([.arr (.out 0)], [.arr 142 4 48 false es]) := by
 intro es hl hwt hw
 rw [zcr_0_ev, zcr_0_eq, toFront (by omega) (by omega)]
 refine to_loop (L := fun i es' => zcr_1 es i es') (ys := es) (fun i y hx es' he => ?_) ?_ _ (by simp)
 ·have hi := lt_of_get hx
  obtain ⟨v0, v1, v2, v3, rfl, q0, q3⟩ := decArg (wfEs_get hw hx)
  show zcr_1 es i es' = _
  rw [zcr_1_eq]
  exact toStep hi (by omega) (by rw [getD_of hx]; exact toArg_ev) es' he (fun i es' => zcr_1 es i es')
 ·show zcr_1 es es.length es = _
  rw [zcr_1_eq, decide_eq_false (by omega), cond_false, if_pos (okEs_flat flatArg hw)]
theorem toDir_ev {v0 : Bool} {v1 : Int} {v2 : Int} {v3 : ByteArray} : ev E0 F_zcw [.p (.agg 4 [.bool v0, .int .i64 v1, .int .i64 v2, .str v3])] [] = rA 4 [.bool v0, .int .i64 v1, .int .i64 v2, .str v3] := by
 rw [zcw_0_ev, zcw_0_eq]
 rw [toValue_ev, bA]
 rfl
theorem toDirS_ev : ∀ (es : List (List Pd)), es.length ≤ 1048576 → wEs es ≤ 1048576 → wfEs T0 ckDir es → ev E0 F_zcx [.p (.sl 4 es)] [] = some ([.arr (.out 0)], [.arr 65 4 40 false es]) := by
 intro es hl hwt hw
 rw [zcx_0_ev, zcx_0_eq, toFront (by omega) (by omega)]
 refine to_loop (L := fun i es' => zcx_1 es i es') (ys := es) (fun i y hx es' he => ?_) ?_ _ (by simp)
 ·have hi := lt_of_get hx
  obtain ⟨v0, v1, v2, v3, rfl, q3⟩ := decDir (wfEs_get hw hx)
  show zcx_1 es i es' = _
  rw [zcx_1_eq]
  exact toStep hi (by omega) (by rw [getD_of hx]; exact toDir_ev) es' he (fun i es' => zcx_1 es i es')
 ·show zcx_1 es es.length es = _
  rw [zcx_1_eq, decide_eq_false (by omega), cond_false, if_pos (okEs_flat flatDir hw)]
theorem toSel_of {v0 : Int} {v1 : ByteArray} {v2 : ByteArray} {v3 : List (List Pd)} {v4 : List (List Pd)} {v5 : List (List Pd)} (g3 : ev E0 F_zcr [.p (.sl 4 v3)] [] = some ([.arr (.out 0)], [.arr 142 4 48 false v3])) (g4 : ev E0 F_zcx [.p (.sl 4 v4)] [] = some ([.arr (.out 0)], [.arr 65 4 40 false v4])) (g5 : ev E0 F_zda [.p (.sl 6 v5)] [] = some ([.arr (.out 0)], [.oarr 61 6 (ownEs T0 ckSel v5)])) (h3 : okEs v3 = true) (h4 : okEs v4 = true) : ev E0 F_zcz [.p (.agg 6 [.int .i64 v0, .str v1, .str v2, .sl 4 v3, .sl 4 v4, .sl 6 v5])] [] = some ([.agg 6 [.p (.int .i64 v0), .p (.str v1), .p (.str v2), .arr (.out 0), .arr (.out 1), .arr (.out 2)]], [.arr 142 4 48 false v3, .arr 65 4 40 false v4, .oarr 61 6 (ownEs T0 ckSel v5)]) := by
 rw [zcz_0_ev, zcz_0_eq]
 rw [g3, Option.bind_some, asOwn_ArgS h3, Option.bind_some]
 rw [g4, Option.bind_some, asOwn_DirS h4, Option.bind_some]
 rw [g5, Option.bind_some, asOwn_SelS, Option.bind_some]
 simp only [List.getD_cons_zero, List.getD_cons_succ, asI, asS_, asB_, Option.bind_some]
 rw [if_pos h3, if_pos h4]
theorem toSelS_ev : ∀ (es : List (List Pd)), es.length ≤ 1048576 → wEs es ≤ 1048576 → wfEs T0 ckSel es → ev E0 F_zda [.p (.sl 6 es)] [] = some ([.arr (.out 0)], [.oarr 61 6 (ownEs T0 ckSel es)]) := by
 refine row_ind (cs := []) fun es ih hl hwt hw => ?_
 rw [zda_0_ev, zda_0_eq, toFront (by omega) (by omega)]
 have hol := ownEs_len T0 ckSel es
 refine to_loop (L := fun i es' => zda_1 es i es') (ys := ownEs T0 ckSel es) (fun i y hy es' he => ?_) ?_ _ (by simp [hol])
 ·rw [ownEs_map, List.getElem?_map] at hy
  cases hx : es[i]? with
  | none => rw [hx] at hy; cases hy
  | some x =>
  rw [hx] at hy
  injection hy with hy
  subst hy
  have hi := lt_of_get hx
  obtain ⟨v0, v1, v2, v3, v4, v5, rfl, q1, q2, q3, w3, q4, w4, q5, w5⟩ := decSel (wfEs_get hw hx)
  have hm : [.int .i64 v0, .str v1, .str v2, .sl 4 v3, .sl 4 v4, .sl 6 v5] ∈ es := List.mem_of_getElem? hx
  have hwx := wEs_mem hm
  simp only [wC, wP] at hwx
  have h3 : okEs v3 = true := okEs_flat flatArg w3
  have h4 : okEs v4 = true := okEs_flat flatDir w4
  have hto := toSel_of (v0 := v0) (v1 := v1) (v2 := v2) (v3 := v3) (v4 := v4) (v5 := v5) (toArgS_ev v3 (by omega) (by omega) w3) (toDirS_ev v4 (by omega) (by omega) w4) (ih _ hm 6 v5 (by simp) (by omega) (by omega) w5) h3 h4
  rw [own_Sel]
  rw [ownEs_flat T0 flatArg v3]
  rw [ownEs_flat T0 flatDir v4]
  show zda_1 es i es' = _
  rw [zda_1_eq, decide_eq_true (by omega), cond_true, if_pos (by omega), getD_of hx, hto, Option.bind_some, asOwn_Sel h3 h4, Option.bind_some]
  simp only [List.getD_cons_zero, List.getD_cons_succ, asI, asS_, asB_, Option.bind_some]
  rw [if_pos (by omega), if_pos ⟨by trivial, by omega, by omega⟩, if_pos ⟨by trivial, by trivial, h3⟩, if_pos ⟨by trivial, by trivial, h4⟩, wrap_id (by omega), setCs_all]
  rfl
 ·show zda_1 es (ownEs T0 ckSel es).length (ownEs T0 ckSel es) = _
  rw [zda_1_eq, decide_eq_false (by omega), cond_false]
theorem toDef_of {v0 : Int} {v1 : ByteArray} {v2 : ByteArray} {v3 : List (List Pd)} (g3 : ev E0 F_zda [.p (.sl 6 v3)] [] = some ([.arr (.out 0)], [.oarr 61 6 (ownEs T0 ckSel v3)])) : ev E0 F_zcu [.p (.agg 4 [.int .i64 v0, .str v1, .str v2, .sl 6 v3])] [] = some ([.agg 4 [.p (.int .i64 v0), .p (.str v1), .p (.str v2), .arr (.out 0)]], [.oarr 61 6 (ownEs T0 ckSel v3)]) := by
 rw [zcu_0_ev, zcu_0_eq]
 rw [g3, Option.bind_some, asOwn_SelS, Option.bind_some]
 rfl
theorem toDefS_ev : ∀ (es : List (List Pd)), es.length ≤ 1048576 → wEs es ≤ 1048576 → wfEs T0 ckDef es → ev E0 F_zcv [.p (.sl 4 es)] [] = some ([.arr (.out 0)], [.oarr 122 4 (ownEs T0 ckDef es)]) := by
 intro es hl hwt hw
 rw [zcv_0_ev, zcv_0_eq, toFront (by omega) (by omega)]
 have hol := ownEs_len T0 ckDef es
 refine to_loop (L := fun i es' => zcv_1 es i es') (ys := ownEs T0 ckDef es) (fun i y hy es' he => ?_) ?_ _ (by simp [hol])
 ·rw [ownEs_map, List.getElem?_map] at hy
  cases hx : es[i]? with
  | none => rw [hx] at hy; cases hy
  | some x =>
  rw [hx] at hy
  injection hy with hy
  subst hy
  have hi := lt_of_get hx
  obtain ⟨v0, v1, v2, v3, rfl, q1, q2, q3, w3⟩ := decDef (wfEs_get hw hx)
  have hm : [.int .i64 v0, .str v1, .str v2, .sl 6 v3] ∈ es := List.mem_of_getElem? hx
  have hwx := wEs_mem hm
  simp only [wC, wP] at hwx
  have hto := toDef_of (v0 := v0) (v1 := v1) (v2 := v2) (v3 := v3) (toSelS_ev v3 (by omega) (by omega) w3)
  rw [own_Def]
  show zcv_1 es i es' = _
  rw [zcv_1_eq, decide_eq_true (by omega), cond_true, if_pos (by omega), getD_of hx, hto, Option.bind_some, asOwn_Def, Option.bind_some]
  simp only [List.getD_cons_zero, List.getD_cons_succ, asI, asS_, asB_, Option.bind_some]
  rw [if_pos (by omega), if_pos ⟨by trivial, by omega, by omega⟩, wrap_id (by omega), setCs_all]
  rfl
 ·show zcv_1 es (ownEs T0 ckDef es).length (ownEs T0 ckDef es) = _
  rw [zcv_1_eq, decide_eq_false (by omega), cond_false]
theorem toBinding_ev {v0 : ByteArray} {v1 : Int} {v2 : Int} {v3 : ByteArray} : ev E0 F_zcs [.p (.agg 4 [.str v0, .int .i64 v1, .int .i64 v2, .str v3])] [] = rA 4 [.str v0, .int .i64 v1, .int .i64 v2, .str v3] := by
 rw [zcs_0_ev, zcs_0_eq]
 rw [toValue_ev, bA]
 rfl
theorem toBindingS_ev : ∀ (es : List (List Pd)), es.length ≤ 1048576 → wEs es ≤ 1048576 → wfEs T0 ckBinding es → ev E0 F_zct [.p (.sl 4 es)] [] = some ([.arr (.out 0)], [.arr 69 4 48 false es]) := by
 intro es hl hwt hw
 rw [zct_0_ev, zct_0_eq, toFront (by omega) (by omega)]
 refine to_loop (L := fun i es' => zct_1 es i es') (ys := es) (fun i y hx es' he => ?_) ?_ _ (by simp)
 ·have hi := lt_of_get hx
  obtain ⟨v0, v1, v2, v3, rfl, q0, q3⟩ := decBinding (wfEs_get hw hx)
  show zct_1 es i es' = _
  rw [zct_1_eq]
  exact toStep hi (by omega) (by rw [getD_of hx]; exact toBinding_ev) es' he (fun i es' => zct_1 es i es')
 ·show zct_1 es es.length es = _
  rw [zct_1_eq, decide_eq_false (by omega), cond_false, if_pos (okEs_flat flatBinding hw)]
theorem toDoc_of {v0 : List (List Pd)} (g0 : ev E0 F_zcv [.p (.sl 4 v0)] [] = some ([.arr (.out 0)], [.oarr 122 4 (ownEs T0 ckDef v0)])) : ev E0 F_zcy [.p (.agg 1 [.sl 4 v0])] [] = some ([.agg 1 [.arr (.out 0)]], [.oarr 122 4 (ownEs T0 ckDef v0)]) := by
 rw [zcy_0_ev, zcy_0_eq]
 rw [g0, Option.bind_some, asOwn_DefS, Option.bind_some]
 rfl
theorem toDoc_ev {v0 : List (List Pd)} (b0 : v0.length ≤ 1048576) (c0 : wEs v0 ≤ 1048576) (w0 : wfEs T0 ckDef v0) : ev E0 F_zcy [.p (.agg 1 [.sl 4 v0])] [] = some ([.agg 1 [.arr (.out 0)]], [.oarr 122 4 (ownEs T0 ckDef v0)]) :=
 toDoc_of (toDefS_ev v0 b0 c0 w0)
theorem markText_loop : ∀ (m : Nat), m ≤ 20 → ∀ (n : Nat), n < 10 ^ m → (n : Int) ≤ 9223372036854775807 → ∀ s : ByteArray, s.size + m ≤ 1000 → ∃ r : ByteArray, r.size ≤ 1001 ∧ zcd_1 n s = rS' r
 | 0, _, n, hn, _, s, hs => by
  have : n = 0 := by simpa using hn
  subst this
  have hL : LIM = 140737488355328 := rfl
  rw [zcd_1_eq, decide_eq_false (by omega), cond_false, if_pos (by rw [hL]; show 1 + s.size ≤ _; omega)]
  exact ⟨_, by rw [bcat_eq, ByteArray.size_append]; show 1 + s.size ≤ _; omega, rfl⟩
 | m + 1, hm, n, hn, hb, s, hs => by
  have hL : LIM = 140737488355328 := rfl
  rw [zcd_1_eq]
  by_cases h0 : n = 0
  ·subst h0
   rw [decide_eq_false (by omega), cond_false, if_pos (by rw [hL]; show 1 + s.size ≤ _; omega)]
   exact ⟨_, by rw [bcat_eq, ByteArray.size_append]; show 1 + s.size ≤ _; omega, rfl⟩
  ·rw [decide_eq_true (by omega), cond_true]
   have e1 : ∀ x : Int, bytesOf [[.int .u8 x]] = some [UInt8.ofNat x.toNat] := fun _ => rfl
   have e2 : ((n : Int).tdiv 10) = ((n / 10 : Nat) : Int) := by rw [Int.tdiv_eq_ediv_of_nonneg (by omega)]; omega
   have e3 : IntKind.i64.wrap ((n / 10 : Nat) : Int) = ((n / 10 : Nat) : Int) := wrap_id (by omega)
   rw [e1, Option.bind_some, e2, e3, if_pos (by rw [hL]; show 1 + s.size ≤ _; omega)]
   refine markText_loop m (by omega) (n / 10) (by rw [Nat.pow_succ] at hn; omega) (by omega) _ ?_
   rw [bcat_eq, ByteArray.size_append]
   show 1 + s.size + m ≤ 1000
   omega
theorem markText_ex {k : Int} (h : 0 ≤ k ∧ k ≤ 1000000000) : ∃ s : ByteArray, s.size ≤ 1001 ∧ ev E0 F_zcd [.p (.int .i64 k)] [] = rS' s := by
 rw [zcd_0_ev, zcd_0_eq]
 by_cases h0 : k ≤ 0
 ·rw [decide_eq_true h0]; exact ⟨_, by decide, rfl⟩
 ·rw [decide_eq_false h0, cond_false]
  have e : k = ((k.toNat : Nat) : Int) := by omega
  rw [e]
  exact markText_loop 10 (by omega) k.toNat (by omega) (by omega) _ (by show 0 + 10 ≤ 1000; omega)
open Classical in
noncomputable def mt (k : Int) : ByteArray := if h : ∃ s : ByteArray, s.size ≤ 1001 ∧ ev E0 F_zcd [.p (.int .i64 k)] [] = rS' s then Classical.choose h else ⟨#[]⟩
theorem mt_ev {k : Int} (h : 0 ≤ k ∧ k ≤ 1000000000) : ev E0 F_zcd [.p (.int .i64 k)] [] = rS' (mt k) := by
 have := markText_ex h
 unfold mt
 rw [dif_pos this]
 exact (Classical.choose_spec this).2
theorem mt_size (k : Int) : (mt k).size ≤ 9223372036854775807 := by
 unfold mt
 split
 ·rename_i h
  have := (Classical.choose_spec h).1
  omega
 ·exact Nat.zero_le _
theorem mk_Arg (k : Int) {v0 : ByteArray} {v1 : Int} {v2 : Int} {v3 : ByteArray} : mkC mt k [.str v0, .int .i64 v1, .int .i64 v2, .str v3] = [.str (mt (k)), .int .i64 (k + 1), .int .i64 (k + 2), .str (mt (k + 3))] := by
 simp only [mkC, mkP, cP]
 have e0 : k + ((1 : Nat) : Int) = k + 1 := by omega
 have e1 : k + 1 + ((1 : Nat) : Int) = k + 2 := by omega
 have e2 : k + 2 + ((1 : Nat) : Int) = k + 3 := by omega
 rw [e0]
 rw [e1]
 rw [e2]
theorem cC_Arg {v0 : ByteArray} {v1 : Int} {v2 : Int} {v3 : ByteArray} : cC [.str v0, .int .i64 v1, .int .i64 v2, .str v3] = 1 + 1 + 1 + 1 := by
 simp only [cC, cP]
 try omega
theorem mk_Dir (k : Int) {v0 : Bool} {v1 : Int} {v2 : Int} {v3 : ByteArray} : mkC mt k [.bool v0, .int .i64 v1, .int .i64 v2, .str v3] = [.bool (((k).tmod 3 : Int) == 0), .int .i64 (k + 1), .int .i64 (k + 2), .str (mt (k + 3))] := by
 simp only [mkC, mkP, cP]
 have e0 : k + ((1 : Nat) : Int) = k + 1 := by omega
 have e1 : k + 1 + ((1 : Nat) : Int) = k + 2 := by omega
 have e2 : k + 2 + ((1 : Nat) : Int) = k + 3 := by omega
 rw [e0]
 rw [e1]
 rw [e2]
theorem cC_Dir {v0 : Bool} {v1 : Int} {v2 : Int} {v3 : ByteArray} : cC [.bool v0, .int .i64 v1, .int .i64 v2, .str v3] = 1 + 1 + 1 + 1 := by
 simp only [cC, cP]
 try omega
theorem mk_Sel (k : Int) {v0 : Int} {v1 : ByteArray} {v2 : ByteArray} {v3 : List (List Pd)} {v4 : List (List Pd)} {v5 : List (List Pd)} : mkC mt k [.int .i64 v0, .str v1, .str v2, .sl 4 v3, .sl 4 v4, .sl 6 v5] = [.int .i64 (k), .str (mt (k + 1)), .str (mt (k + 2)), .sl 4 (mkEs mt (k + 3) v3), .sl 4 (mkEs mt (k + 3 + ((cEs v3 : Nat) : Int)) v4), .sl 6 (mkEs mt (k + 3 + ((cEs v3 : Nat) : Int) + ((cEs v4 : Nat) : Int)) v5)] := by
 simp only [mkC, mkP, cP]
 have e0 : k + ((1 : Nat) : Int) = k + 1 := by omega
 have e1 : k + 1 + ((1 : Nat) : Int) = k + 2 := by omega
 have e2 : k + 2 + ((1 : Nat) : Int) = k + 3 := by omega
 rw [e0]
 rw [e1]
 rw [e2]
theorem cC_Sel {v0 : Int} {v1 : ByteArray} {v2 : ByteArray} {v3 : List (List Pd)} {v4 : List (List Pd)} {v5 : List (List Pd)} : cC [.int .i64 v0, .str v1, .str v2, .sl 4 v3, .sl 4 v4, .sl 6 v5] = 1 + 1 + 1 + cEs v3 + cEs v4 + cEs v5 := by
 simp only [cC, cP]
 try omega
theorem mk_Def (k : Int) {v0 : Int} {v1 : ByteArray} {v2 : ByteArray} {v3 : List (List Pd)} : mkC mt k [.int .i64 v0, .str v1, .str v2, .sl 6 v3] = [.int .i64 (k), .str (mt (k + 1)), .str (mt (k + 2)), .sl 6 (mkEs mt (k + 3) v3)] := by
 simp only [mkC, mkP, cP]
 have e0 : k + ((1 : Nat) : Int) = k + 1 := by omega
 have e1 : k + 1 + ((1 : Nat) : Int) = k + 2 := by omega
 have e2 : k + 2 + ((1 : Nat) : Int) = k + 3 := by omega
 rw [e0]
 rw [e1]
 rw [e2]
theorem cC_Def {v0 : Int} {v1 : ByteArray} {v2 : ByteArray} {v3 : List (List Pd)} : cC [.int .i64 v0, .str v1, .str v2, .sl 6 v3] = 1 + 1 + 1 + cEs v3 := by
 simp only [cC, cP]
 try omega
theorem mk_Binding (k : Int) {v0 : ByteArray} {v1 : Int} {v2 : Int} {v3 : ByteArray} : mkC mt k [.str v0, .int .i64 v1, .int .i64 v2, .str v3] = [.str (mt (k)), .int .i64 (k + 1), .int .i64 (k + 2), .str (mt (k + 3))] := by
 simp only [mkC, mkP, cP]
 have e0 : k + ((1 : Nat) : Int) = k + 1 := by omega
 have e1 : k + 1 + ((1 : Nat) : Int) = k + 2 := by omega
 have e2 : k + 2 + ((1 : Nat) : Int) = k + 3 := by omega
 rw [e0]
 rw [e1]
 rw [e2]
theorem cC_Binding {v0 : ByteArray} {v1 : Int} {v2 : Int} {v3 : ByteArray} : cC [.str v0, .int .i64 v1, .int .i64 v2, .str v3] = 1 + 1 + 1 + 1 := by
 simp only [cC, cP]
 try omega
theorem mk_Group (k : Int) {v0 : ByteArray} {v1 : List (List Pd)} : mkC mt k [.str v0, .sl 6 v1] = [.str (mt (k)), .sl 6 (mkEs mt (k + 1) v1)] := by
 simp only [mkC, mkP, cP]
 have e0 : k + ((1 : Nat) : Int) = k + 1 := by omega
 rw [e0]
theorem cC_Group {v0 : ByteArray} {v1 : List (List Pd)} : cC [.str v0, .sl 6 v1] = 1 + cEs v1 := by
 simp only [cC, cP]
 try omega
theorem markstep_Arg {es : List (List Pd)} {i : Nat} {k : Int} {v0 s0 : ByteArray} {v1 : Int} {v2 : Int} {v3 s3 : ByteArray} (hi : i < es.length) (hsm : es.length ≤ 1048576) (hrow : es.getD i [] = [.str v0, .int .i64 v1, .int .i64 v2, .str v3]) (k0 : 0 ≤ k) (k1 : k ≤ 1000000000) (h0 : ev E0 F_zcd [.p (.int .i64 (k))] [] = rS' s0) (h3 : ev E0 F_zcd [.p (.int .i64 (k + 3))] [] = rS' s3) :
 zbw_1 k i es = zbw_1 (k + 4) ((i + 1 : Nat) : Int) (es.set i [.str s0, .int .i64 (k + 1), .int .i64 (k + 2), .str s3]) := by
 have e0 : IntKind.i64.wrap (k + 1) = k + 1 := by rw [wrap_id (by omega)]
 have e1 : IntKind.i64.wrap (k + 1 + 1) = k + 2 := by rw [wrap_id (by omega)]; omega
 have e2 : IntKind.i64.wrap (k + 2 + 1) = k + 3 := by rw [wrap_id (by omega)]; omega
 have e3 : IntKind.i64.wrap (k + 3 + 1) = k + 4 := by rw [wrap_id (by omega)]; omega
 have ei : IntKind.i64.wrap ((i : Int) + 1) = ((i + 1 : Nat) : Int) := by rw [wrap_id (by omega)]; omega
 have en : ((i : Int)).toNat = i := by omega
 have ln : ∀ c, (es.set i c).length = es.length := fun c => by simp
 have p1 : (0 ≤ (i : Int) ∧ (i : Int) < (es.length : Int)) := by omega
 have r0 : setCs es i 4 0 1 [.str s0] = es.set i [.str s0, .int .i64 v1, .int .i64 v2, .str v3] := by rw [setCs_mix (by omega) hrow]; rfl
 have r1 : setCs (es.set i [.str s0, .int .i64 v1, .int .i64 v2, .str v3]) i 4 1 1 [.int .i64 (k + 1)] = es.set i [.str s0, .int .i64 (k + 1), .int .i64 v2, .str v3] := setCs_set (by omega) hi rfl
 have r2 : setCs (es.set i [.str s0, .int .i64 (k + 1), .int .i64 v2, .str v3]) i 4 2 1 [.int .i64 (k + 2)] = es.set i [.str s0, .int .i64 (k + 1), .int .i64 (k + 2), .str v3] := setCs_set (by omega) hi rfl
 have r3 : setCs (es.set i [.str s0, .int .i64 (k + 1), .int .i64 (k + 2), .str v3]) i 4 3 1 [.str s3] = es.set i [.str s0, .int .i64 (k + 1), .int .i64 (k + 2), .str s3] := setCs_set (by omega) hi rfl
 rw [zbw_1_eq, e0, e1, e2, e3, ei, en, decide_eq_true (show (i : Int) < (es.length : Int) by omega), cond_true]
 rw [h0, bS', if_pos p1, if_pos ⟨by trivial, hi, by omega⟩]
 simp only [r0, ln]
 rw [if_pos p1, if_pos ⟨by trivial, hi, by omega⟩]
 simp only [r1, ln]
 rw [if_pos p1, if_pos ⟨by trivial, hi, by omega⟩]
 simp only [r2, ln]
 rw [h3, bS', if_pos p1, if_pos ⟨by trivial, hi, by omega⟩]
 simp only [r3, ln]
theorem markArgS_ev : ∀ (es : List (List Pd)), es.length ≤ 1048576 → wEs es ≤ 1048576 → wfEs T0 ckArg es → ∀ k : Int, 0 ≤ k → k + cEs es ≤ 1000000000 → ev E0 F_zbw [.arr (.out 0), .p (.int .i64 k)] [.oarr 142 4 (ownEs T0 ckArg es)] = rW (k + cEs es) (.oarr 142 4 (ownEs T0 ckArg (mkEs mt k es))) := by
 intro es hl hwt hw k k0 k1
 rw [zbw_0_ev, zbw_0_eq]
 refine mark_loop (L := fun k i es => zbw_1 k i es) k0 k1 (fun i x hx k es' k0 k1 hl' hrow => ?_) (fun k es' hl' => ?_)
 ·obtain ⟨v0, v1, v2, v3, rfl, q0, q3⟩ := decArg (wfEs_get hw hx)
  have hi : i < es'.length := by have := lt_of_get hx; omega
  have hm : [.str v0, .int .i64 v1, .int .i64 v2, .str v3] ∈ es := List.mem_of_getElem? hx
  have hwx := wEs_mem hm
  simp only [wC, wP] at hwx
  have hc := cC_Arg (v0 := v0) (v1 := v1) (v2 := v2) (v3 := v3)
  rw [hc] at k1
  rw [own_Arg] at hrow
  rw [mk_Arg, own_Arg, hc]
  show zbw_1 k i es' = _
  have hs := markstep_Arg (k := k) hi (by omega) hrow (by omega) (by omega) (mt_ev (by omega)) (mt_ev (by omega))
  rw [hs]
  have ek : k + (((1 + 1 + 1 + 1 : Nat)) : Int) = k + 4 := by omega
  rw [ek]
 ·show zbw_1 k es.length es' = _
  rw [zbw_1_eq, decide_eq_false (by omega), cond_false]
theorem markstep_Dir {es : List (List Pd)} {i : Nat} {k : Int} {v0 : Bool} {v1 : Int} {v2 : Int} {v3 s3 : ByteArray} (hi : i < es.length) (hsm : es.length ≤ 1048576) (hrow : es.getD i [] = [.bool v0, .int .i64 v1, .int .i64 v2, .str v3]) (k0 : 0 ≤ k) (k1 : k ≤ 1000000000) (h3 : ev E0 F_zcd [.p (.int .i64 (k + 3))] [] = rS' s3) :
 zbz_1 k i es = zbz_1 (k + 4) ((i + 1 : Nat) : Int) (es.set i [.bool (((k).tmod 3 : Int) == 0), .int .i64 (k + 1), .int .i64 (k + 2), .str s3]) := by
 have e0 : IntKind.i64.wrap (k + 1) = k + 1 := by rw [wrap_id (by omega)]
 have e1 : IntKind.i64.wrap (k + 1 + 1) = k + 2 := by rw [wrap_id (by omega)]; omega
 have e2 : IntKind.i64.wrap (k + 2 + 1) = k + 3 := by rw [wrap_id (by omega)]; omega
 have e3 : IntKind.i64.wrap (k + 3 + 1) = k + 4 := by rw [wrap_id (by omega)]; omega
 have ei : IntKind.i64.wrap ((i : Int) + 1) = ((i + 1 : Nat) : Int) := by rw [wrap_id (by omega)]; omega
 have en : ((i : Int)).toNat = i := by omega
 have ln : ∀ c, (es.set i c).length = es.length := fun c => by simp
 have p1 : (0 ≤ (i : Int) ∧ (i : Int) < (es.length : Int)) := by omega
 have r0 : setCs es i 4 0 1 [.bool (((k).tmod 3 : Int) == 0)] = es.set i [.bool (((k).tmod 3 : Int) == 0), .int .i64 v1, .int .i64 v2, .str v3] := by rw [setCs_mix (by omega) hrow]; rfl
 have r1 : setCs (es.set i [.bool (((k).tmod 3 : Int) == 0), .int .i64 v1, .int .i64 v2, .str v3]) i 4 1 1 [.int .i64 (k + 1)] = es.set i [.bool (((k).tmod 3 : Int) == 0), .int .i64 (k + 1), .int .i64 v2, .str v3] := setCs_set (by omega) hi rfl
 have r2 : setCs (es.set i [.bool (((k).tmod 3 : Int) == 0), .int .i64 (k + 1), .int .i64 v2, .str v3]) i 4 2 1 [.int .i64 (k + 2)] = es.set i [.bool (((k).tmod 3 : Int) == 0), .int .i64 (k + 1), .int .i64 (k + 2), .str v3] := setCs_set (by omega) hi rfl
 have r3 : setCs (es.set i [.bool (((k).tmod 3 : Int) == 0), .int .i64 (k + 1), .int .i64 (k + 2), .str v3]) i 4 3 1 [.str s3] = es.set i [.bool (((k).tmod 3 : Int) == 0), .int .i64 (k + 1), .int .i64 (k + 2), .str s3] := setCs_set (by omega) hi rfl
 rw [zbz_1_eq, e0, e1, e2, e3, ei, en, decide_eq_true (show (i : Int) < (es.length : Int) by omega), cond_true]
 rw [if_pos p1, if_pos ⟨by trivial, hi, by omega⟩]
 simp only [r0, ln]
 rw [if_pos p1, if_pos ⟨by trivial, hi, by omega⟩]
 simp only [r1, ln]
 rw [if_pos p1, if_pos ⟨by trivial, hi, by omega⟩]
 simp only [r2, ln]
 rw [h3, bS', if_pos p1, if_pos ⟨by trivial, hi, by omega⟩]
 simp only [r3, ln]
theorem markDirS_ev : ∀ (es : List (List Pd)), es.length ≤ 1048576 → wEs es ≤ 1048576 → wfEs T0 ckDir es → ∀ k : Int, 0 ≤ k → k + cEs es ≤ 1000000000 → ev E0 F_zbz [.arr (.out 0), .p (.int .i64 k)] [.oarr 65 4 (ownEs T0 ckDir es)] = rW (k + cEs es) (.oarr 65 4 (ownEs T0 ckDir (mkEs mt k es))) := by
 intro es hl hwt hw k k0 k1
 rw [zbz_0_ev, zbz_0_eq]
 refine mark_loop (L := fun k i es => zbz_1 k i es) k0 k1 (fun i x hx k es' k0 k1 hl' hrow => ?_) (fun k es' hl' => ?_)
 ·obtain ⟨v0, v1, v2, v3, rfl, q3⟩ := decDir (wfEs_get hw hx)
  have hi : i < es'.length := by have := lt_of_get hx; omega
  have hm : [.bool v0, .int .i64 v1, .int .i64 v2, .str v3] ∈ es := List.mem_of_getElem? hx
  have hwx := wEs_mem hm
  simp only [wC, wP] at hwx
  have hc := cC_Dir (v0 := v0) (v1 := v1) (v2 := v2) (v3 := v3)
  rw [hc] at k1
  rw [own_Dir] at hrow
  rw [mk_Dir, own_Dir, hc]
  show zbz_1 k i es' = _
  have hs := markstep_Dir (k := k) hi (by omega) hrow (by omega) (by omega) (mt_ev (by omega))
  rw [hs]
  have ek : k + (((1 + 1 + 1 + 1 : Nat)) : Int) = k + 4 := by omega
  rw [ek]
 ·show zbz_1 k es.length es' = _
  rw [zbz_1_eq, decide_eq_false (by omega), cond_false]
theorem markstep_Sel {es : List (List Pd)} {i : Nat} {k : Int} {v0 : Int} {v1 s1 : ByteArray} {v2 s2 : ByteArray} {l3 m3 : List (List Pd)} {n3 : Int} {l4 m4 : List (List Pd)} {n4 : Int} {l5 m5 : List (List Pd)} {n5 : Int} (hi : i < es.length) (hsm : es.length ≤ 1048576) (hrow : es.getD i [] = [.int .i64 v0, .str v1, .str v2, .ow 142 4 l3, .ow 65 4 l4, .ow 61 6 l5]) (k0 : 0 ≤ k) (k1 : k ≤ 1000000000) (h1 : ev E0 F_zcd [.p (.int .i64 (k + 1))] [] = rS' s1) (h2 : ev E0 F_zcd [.p (.int .i64 (k + 2))] [] = rS' s2) (h3 : ev E0 F_zbw [.arr (.out 0), .p (.int .i64 (k + 3))] [.oarr 142 4 l3] = rW n3 (.oarr 142 4 m3)) (h4 : ev E0 F_zbz [.arr (.out 0), .p (.int .i64 (n3))] [.oarr 65 4 l4] = rW n4 (.oarr 65 4 m4)) (h5 : ev E0 F_zcc [.arr (.out 0), .p (.int .i64 (n4))] [.oarr 61 6 l5] = rW n5 (.oarr 61 6 m5)) :
 zcc_1 k i es = zcc_1 (n5) ((i + 1 : Nat) : Int) (es.set i [.int .i64 (k), .str s1, .str s2, .ow 142 4 m3, .ow 65 4 m4, .ow 61 6 m5]) := by
 have e0 : IntKind.i64.wrap (k + 1) = k + 1 := by rw [wrap_id (by omega)]
 have e1 : IntKind.i64.wrap (k + 1 + 1) = k + 2 := by rw [wrap_id (by omega)]; omega
 have e2 : IntKind.i64.wrap (k + 2 + 1) = k + 3 := by rw [wrap_id (by omega)]; omega
 have ei : IntKind.i64.wrap ((i : Int) + 1) = ((i + 1 : Nat) : Int) := by rw [wrap_id (by omega)]; omega
 have en : ((i : Int)).toNat = i := by omega
 have ln : ∀ c, (es.set i c).length = es.length := fun c => by simp
 have p1 : (0 ≤ (i : Int) ∧ (i : Int) < (es.length : Int)) := by omega
 have r0 : setCs es i 6 0 1 [.int .i64 (k)] = es.set i [.int .i64 (k), .str v1, .str v2, .ow 142 4 l3, .ow 65 4 l4, .ow 61 6 l5] := by rw [setCs_mix (by omega) hrow]; rfl
 have r1 : setCs (es.set i [.int .i64 (k), .str v1, .str v2, .ow 142 4 l3, .ow 65 4 l4, .ow 61 6 l5]) i 6 1 1 [.str s1] = es.set i [.int .i64 (k), .str s1, .str v2, .ow 142 4 l3, .ow 65 4 l4, .ow 61 6 l5] := setCs_set (by omega) hi rfl
 have r2 : setCs (es.set i [.int .i64 (k), .str s1, .str v2, .ow 142 4 l3, .ow 65 4 l4, .ow 61 6 l5]) i 6 2 1 [.str s2] = es.set i [.int .i64 (k), .str s1, .str s2, .ow 142 4 l3, .ow 65 4 l4, .ow 61 6 l5] := setCs_set (by omega) hi rfl
 have r3 : setCs (es.set i [.int .i64 (k), .str s1, .str s2, .ow 142 4 l3, .ow 65 4 l4, .ow 61 6 l5]) i 6 3 1 [.ow 142 4 m3] = es.set i [.int .i64 (k), .str s1, .str s2, .ow 142 4 m3, .ow 65 4 l4, .ow 61 6 l5] := setCs_set (by omega) hi rfl
 have a3 : asOw 142 4 (((es.set i [.int .i64 (k), .str s1, .str s2, .ow 142 4 l3, .ow 65 4 l4, .ow 61 6 l5]).getD i []).getD 3 .undef) = some l3 := by rw [getD_set_self hi]; exact asOw_ 142 4 l3
 have r4 : setCs (es.set i [.int .i64 (k), .str s1, .str s2, .ow 142 4 m3, .ow 65 4 l4, .ow 61 6 l5]) i 6 4 1 [.ow 65 4 m4] = es.set i [.int .i64 (k), .str s1, .str s2, .ow 142 4 m3, .ow 65 4 m4, .ow 61 6 l5] := setCs_set (by omega) hi rfl
 have a4 : asOw 65 4 (((es.set i [.int .i64 (k), .str s1, .str s2, .ow 142 4 m3, .ow 65 4 l4, .ow 61 6 l5]).getD i []).getD 4 .undef) = some l4 := by rw [getD_set_self hi]; exact asOw_ 65 4 l4
 have r5 : setCs (es.set i [.int .i64 (k), .str s1, .str s2, .ow 142 4 m3, .ow 65 4 m4, .ow 61 6 l5]) i 6 5 1 [.ow 61 6 m5] = es.set i [.int .i64 (k), .str s1, .str s2, .ow 142 4 m3, .ow 65 4 m4, .ow 61 6 m5] := setCs_set (by omega) hi rfl
 have a5 : asOw 61 6 (((es.set i [.int .i64 (k), .str s1, .str s2, .ow 142 4 m3, .ow 65 4 m4, .ow 61 6 l5]).getD i []).getD 5 .undef) = some l5 := by rw [getD_set_self hi]; exact asOw_ 61 6 l5
 rw [zcc_1_eq, e0, e1, e2, ei, en, decide_eq_true (show (i : Int) < (es.length : Int) by omega), cond_true]
 rw [if_pos p1, if_pos ⟨by trivial, hi, by omega⟩]
 simp only [r0, ln]
 rw [h1, bS', if_pos p1, if_pos ⟨by trivial, hi, by omega⟩]
 simp only [r1, ln]
 rw [h2, bS', if_pos p1, if_pos ⟨by trivial, hi, by omega⟩]
 simp only [r2, ln]
 rw [if_pos p1, if_pos ⟨by trivial, hi, by omega⟩]
 simp only [a3, Option.bind_some]
 rw [if_pos ⟨by trivial, hi, by omega⟩, h3, bW]
 simp only [r3, ln]
 rw [if_pos p1, if_pos ⟨by trivial, hi, by omega⟩]
 simp only [a4, Option.bind_some]
 rw [if_pos ⟨by trivial, hi, by omega⟩, h4, bW]
 simp only [r4, ln]
 rw [if_pos p1, if_pos ⟨by trivial, hi, by omega⟩]
 simp only [a5, Option.bind_some]
 rw [if_pos ⟨by trivial, hi, by omega⟩, h5, bW]
 simp only [r5, ln]
theorem markSelS_ev : ∀ (es : List (List Pd)), es.length ≤ 1048576 → wEs es ≤ 1048576 → wfEs T0 ckSel es → ∀ k : Int, 0 ≤ k → k + cEs es ≤ 1000000000 → ev E0 F_zcc [.arr (.out 0), .p (.int .i64 k)] [.oarr 61 6 (ownEs T0 ckSel es)] = rW (k + cEs es) (.oarr 61 6 (ownEs T0 ckSel (mkEs mt k es))) := by
 refine row_ind (cs := []) fun es ih hl hwt hw k k0 k1 => ?_
 rw [zcc_0_ev, zcc_0_eq]
 refine mark_loop (L := fun k i es => zcc_1 k i es) k0 k1 (fun i x hx k es' k0 k1 hl' hrow => ?_) (fun k es' hl' => ?_)
 ·obtain ⟨v0, v1, v2, v3, v4, v5, rfl, q1, q2, q3, w3, q4, w4, q5, w5⟩ := decSel (wfEs_get hw hx)
  have hi : i < es'.length := by have := lt_of_get hx; omega
  have hm : [.int .i64 v0, .str v1, .str v2, .sl 4 v3, .sl 4 v4, .sl 6 v5] ∈ es := List.mem_of_getElem? hx
  have hwx := wEs_mem hm
  simp only [wC, wP] at hwx
  have hc := cC_Sel (v0 := v0) (v1 := v1) (v2 := v2) (v3 := v3) (v4 := v4) (v5 := v5)
  rw [hc] at k1
  rw [own_Sel] at hrow
  rw [mk_Sel, own_Sel, hc]
  show zcc_1 k i es' = _
  have g3 := markArgS_ev v3 (by omega) (by omega) w3 (k + 3) (by omega) (by omega)
  have g4 := markDirS_ev v4 (by omega) (by omega) w4 (k + 3 + ((cEs v3 : Nat) : Int)) (by omega) (by omega)
  have g5 := ih _ hm 6 v5 (by simp) (by omega) (by omega) w5 (k + 3 + ((cEs v3 : Nat) : Int) + ((cEs v4 : Nat) : Int)) (by omega) (by omega)
  have hs := markstep_Sel (k := k) hi (by omega) hrow (by omega) (by omega) (mt_ev (by omega)) (mt_ev (by omega)) g3 g4 g5
  rw [hs]
  have ek : k + (((1 + 1 + 1 + cEs v3 + cEs v4 + cEs v5 : Nat)) : Int) = k + 3 + ((cEs v3 : Nat) : Int) + ((cEs v4 : Nat) : Int) + ((cEs v5 : Nat) : Int) := by omega
  rw [ek]
 ·show zcc_1 k es.length es' = _
  rw [zcc_1_eq, decide_eq_false (by omega), cond_false]
theorem markstep_Def {es : List (List Pd)} {i : Nat} {k : Int} {v0 : Int} {v1 s1 : ByteArray} {v2 s2 : ByteArray} {l3 m3 : List (List Pd)} {n3 : Int} (hi : i < es.length) (hsm : es.length ≤ 1048576) (hrow : es.getD i [] = [.int .i64 v0, .str v1, .str v2, .ow 61 6 l3]) (k0 : 0 ≤ k) (k1 : k ≤ 1000000000) (h1 : ev E0 F_zcd [.p (.int .i64 (k + 1))] [] = rS' s1) (h2 : ev E0 F_zcd [.p (.int .i64 (k + 2))] [] = rS' s2) (h3 : ev E0 F_zcc [.arr (.out 0), .p (.int .i64 (k + 3))] [.oarr 61 6 l3] = rW n3 (.oarr 61 6 m3)) :
 zby_1 k i es = zby_1 (n3) ((i + 1 : Nat) : Int) (es.set i [.int .i64 (k), .str s1, .str s2, .ow 61 6 m3]) := by
 have e0 : IntKind.i64.wrap (k + 1) = k + 1 := by rw [wrap_id (by omega)]
 have e1 : IntKind.i64.wrap (k + 1 + 1) = k + 2 := by rw [wrap_id (by omega)]; omega
 have e2 : IntKind.i64.wrap (k + 2 + 1) = k + 3 := by rw [wrap_id (by omega)]; omega
 have ei : IntKind.i64.wrap ((i : Int) + 1) = ((i + 1 : Nat) : Int) := by rw [wrap_id (by omega)]; omega
 have en : ((i : Int)).toNat = i := by omega
 have ln : ∀ c, (es.set i c).length = es.length := fun c => by simp
 have p1 : (0 ≤ (i : Int) ∧ (i : Int) < (es.length : Int)) := by omega
 have r0 : setCs es i 4 0 1 [.int .i64 (k)] = es.set i [.int .i64 (k), .str v1, .str v2, .ow 61 6 l3] := by rw [setCs_mix (by omega) hrow]; rfl
 have r1 : setCs (es.set i [.int .i64 (k), .str v1, .str v2, .ow 61 6 l3]) i 4 1 1 [.str s1] = es.set i [.int .i64 (k), .str s1, .str v2, .ow 61 6 l3] := setCs_set (by omega) hi rfl
 have r2 : setCs (es.set i [.int .i64 (k), .str s1, .str v2, .ow 61 6 l3]) i 4 2 1 [.str s2] = es.set i [.int .i64 (k), .str s1, .str s2, .ow 61 6 l3] := setCs_set (by omega) hi rfl
 have r3 : setCs (es.set i [.int .i64 (k), .str s1, .str s2, .ow 61 6 l3]) i 4 3 1 [.ow 61 6 m3] = es.set i [.int .i64 (k), .str s1, .str s2, .ow 61 6 m3] := setCs_set (by omega) hi rfl
 have a3 : asOw 61 6 (((es.set i [.int .i64 (k), .str s1, .str s2, .ow 61 6 l3]).getD i []).getD 3 .undef) = some l3 := by rw [getD_set_self hi]; exact asOw_ 61 6 l3
 rw [zby_1_eq, e0, e1, e2, ei, en, decide_eq_true (show (i : Int) < (es.length : Int) by omega), cond_true]
 rw [if_pos p1, if_pos ⟨by trivial, hi, by omega⟩]
 simp only [r0, ln]
 rw [h1, bS', if_pos p1, if_pos ⟨by trivial, hi, by omega⟩]
 simp only [r1, ln]
 rw [h2, bS', if_pos p1, if_pos ⟨by trivial, hi, by omega⟩]
 simp only [r2, ln]
 rw [if_pos p1, if_pos ⟨by trivial, hi, by omega⟩]
 simp only [a3, Option.bind_some]
 rw [if_pos ⟨by trivial, hi, by omega⟩, h3, bW]
 simp only [r3, ln]
theorem markDefS_ev : ∀ (es : List (List Pd)), es.length ≤ 1048576 → wEs es ≤ 1048576 → wfEs T0 ckDef es → ∀ k : Int, 0 ≤ k → k + cEs es ≤ 1000000000 → ev E0 F_zby [.arr (.out 0), .p (.int .i64 k)] [.oarr 122 4 (ownEs T0 ckDef es)] = rW (k + cEs es) (.oarr 122 4 (ownEs T0 ckDef (mkEs mt k es))) := by
 intro es hl hwt hw k k0 k1
 rw [zby_0_ev, zby_0_eq]
 refine mark_loop (L := fun k i es => zby_1 k i es) k0 k1 (fun i x hx k es' k0 k1 hl' hrow => ?_) (fun k es' hl' => ?_)
 ·obtain ⟨v0, v1, v2, v3, rfl, q1, q2, q3, w3⟩ := decDef (wfEs_get hw hx)
  have hi : i < es'.length := by have := lt_of_get hx; omega
  have hm : [.int .i64 v0, .str v1, .str v2, .sl 6 v3] ∈ es := List.mem_of_getElem? hx
  have hwx := wEs_mem hm
  simp only [wC, wP] at hwx
  have hc := cC_Def (v0 := v0) (v1 := v1) (v2 := v2) (v3 := v3)
  rw [hc] at k1
  rw [own_Def] at hrow
  rw [mk_Def, own_Def, hc]
  show zby_1 k i es' = _
  have g3 := markSelS_ev v3 (by omega) (by omega) w3 (k + 3) (by omega) (by omega)
  have hs := markstep_Def (k := k) hi (by omega) hrow (by omega) (by omega) (mt_ev (by omega)) (mt_ev (by omega)) g3
  rw [hs]
  have ek : k + (((1 + 1 + 1 + cEs v3 : Nat)) : Int) = k + 3 + ((cEs v3 : Nat) : Int) := by omega
  rw [ek]
 ·show zby_1 k es.length es' = _
  rw [zby_1_eq, decide_eq_false (by omega), cond_false]
theorem markstep_Binding {es : List (List Pd)} {i : Nat} {k : Int} {v0 s0 : ByteArray} {v1 : Int} {v2 : Int} {v3 s3 : ByteArray} (hi : i < es.length) (hsm : es.length ≤ 1048576) (hrow : es.getD i [] = [.str v0, .int .i64 v1, .int .i64 v2, .str v3]) (k0 : 0 ≤ k) (k1 : k ≤ 1000000000) (h0 : ev E0 F_zcd [.p (.int .i64 (k))] [] = rS' s0) (h3 : ev E0 F_zcd [.p (.int .i64 (k + 3))] [] = rS' s3) :
 zbx_1 k i es = zbx_1 (k + 4) ((i + 1 : Nat) : Int) (es.set i [.str s0, .int .i64 (k + 1), .int .i64 (k + 2), .str s3]) := by
 have e0 : IntKind.i64.wrap (k + 1) = k + 1 := by rw [wrap_id (by omega)]
 have e1 : IntKind.i64.wrap (k + 1 + 1) = k + 2 := by rw [wrap_id (by omega)]; omega
 have e2 : IntKind.i64.wrap (k + 2 + 1) = k + 3 := by rw [wrap_id (by omega)]; omega
 have e3 : IntKind.i64.wrap (k + 3 + 1) = k + 4 := by rw [wrap_id (by omega)]; omega
 have ei : IntKind.i64.wrap ((i : Int) + 1) = ((i + 1 : Nat) : Int) := by rw [wrap_id (by omega)]; omega
 have en : ((i : Int)).toNat = i := by omega
 have ln : ∀ c, (es.set i c).length = es.length := fun c => by simp
 have p1 : (0 ≤ (i : Int) ∧ (i : Int) < (es.length : Int)) := by omega
 have r0 : setCs es i 4 0 1 [.str s0] = es.set i [.str s0, .int .i64 v1, .int .i64 v2, .str v3] := by rw [setCs_mix (by omega) hrow]; rfl
 have r1 : setCs (es.set i [.str s0, .int .i64 v1, .int .i64 v2, .str v3]) i 4 1 1 [.int .i64 (k + 1)] = es.set i [.str s0, .int .i64 (k + 1), .int .i64 v2, .str v3] := setCs_set (by omega) hi rfl
 have r2 : setCs (es.set i [.str s0, .int .i64 (k + 1), .int .i64 v2, .str v3]) i 4 2 1 [.int .i64 (k + 2)] = es.set i [.str s0, .int .i64 (k + 1), .int .i64 (k + 2), .str v3] := setCs_set (by omega) hi rfl
 have r3 : setCs (es.set i [.str s0, .int .i64 (k + 1), .int .i64 (k + 2), .str v3]) i 4 3 1 [.str s3] = es.set i [.str s0, .int .i64 (k + 1), .int .i64 (k + 2), .str s3] := setCs_set (by omega) hi rfl
 rw [zbx_1_eq, e0, e1, e2, e3, ei, en, decide_eq_true (show (i : Int) < (es.length : Int) by omega), cond_true]
 rw [h0, bS', if_pos p1, if_pos ⟨by trivial, hi, by omega⟩]
 simp only [r0, ln]
 rw [if_pos p1, if_pos ⟨by trivial, hi, by omega⟩]
 simp only [r1, ln]
 rw [if_pos p1, if_pos ⟨by trivial, hi, by omega⟩]
 simp only [r2, ln]
 rw [h3, bS', if_pos p1, if_pos ⟨by trivial, hi, by omega⟩]
 simp only [r3, ln]
theorem markBindingS_ev : ∀ (es : List (List Pd)), es.length ≤ 1048576 → wEs es ≤ 1048576 → wfEs T0 ckBinding es → ∀ k : Int, 0 ≤ k → k + cEs es ≤ 1000000000 → ev E0 F_zbx [.arr (.out 0), .p (.int .i64 k)] [.oarr 69 4 (ownEs T0 ckBinding es)] = rW (k + cEs es) (.oarr 69 4 (ownEs T0 ckBinding (mkEs mt k es))) := by
 intro es hl hwt hw k k0 k1
 rw [zbx_0_ev, zbx_0_eq]
 refine mark_loop (L := fun k i es => zbx_1 k i es) k0 k1 (fun i x hx k es' k0 k1 hl' hrow => ?_) (fun k es' hl' => ?_)
 ·obtain ⟨v0, v1, v2, v3, rfl, q0, q3⟩ := decBinding (wfEs_get hw hx)
  have hi : i < es'.length := by have := lt_of_get hx; omega
  have hm : [.str v0, .int .i64 v1, .int .i64 v2, .str v3] ∈ es := List.mem_of_getElem? hx
  have hwx := wEs_mem hm
  simp only [wC, wP] at hwx
  have hc := cC_Binding (v0 := v0) (v1 := v1) (v2 := v2) (v3 := v3)
  rw [hc] at k1
  rw [own_Binding] at hrow
  rw [mk_Binding, own_Binding, hc]
  show zbx_1 k i es' = _
  have hs := markstep_Binding (k := k) hi (by omega) hrow (by omega) (by omega) (mt_ev (by omega)) (mt_ev (by omega))
  rw [hs]
  have ek : k + (((1 + 1 + 1 + 1 : Nat)) : Int) = k + 4 := by omega
  rw [ek]
 ·show zbx_1 k es.length es' = _
  rw [zbx_1_eq, decide_eq_false (by omega), cond_false]
theorem markstep_Group {es : List (List Pd)} {i : Nat} {k : Int} {v0 s0 : ByteArray} {l1 m1 : List (List Pd)} {n1 : Int} (hi : i < es.length) (hsm : es.length ≤ 1048576) (hrow : es.getD i [] = [.str v0, .ow 61 6 l1]) (k0 : 0 ≤ k) (k1 : k ≤ 1000000000) (h0 : ev E0 F_zcd [.p (.int .i64 (k))] [] = rS' s0) (h1 : ev E0 F_zcc [.arr (.out 0), .p (.int .i64 (k + 1))] [.oarr 61 6 l1] = rW n1 (.oarr 61 6 m1)) :
 zcb_1 k i es = zcb_1 (n1) ((i + 1 : Nat) : Int) (es.set i [.str s0, .ow 61 6 m1]) := by
 have e0 : IntKind.i64.wrap (k + 1) = k + 1 := by rw [wrap_id (by omega)]
 have ei : IntKind.i64.wrap ((i : Int) + 1) = ((i + 1 : Nat) : Int) := by rw [wrap_id (by omega)]; omega
 have en : ((i : Int)).toNat = i := by omega
 have ln : ∀ c, (es.set i c).length = es.length := fun c => by simp
 have p1 : (0 ≤ (i : Int) ∧ (i : Int) < (es.length : Int)) := by omega
 have r0 : setCs es i 2 0 1 [.str s0] = es.set i [.str s0, .ow 61 6 l1] := by rw [setCs_mix (by omega) hrow]; rfl
 have r1 : setCs (es.set i [.str s0, .ow 61 6 l1]) i 2 1 1 [.ow 61 6 m1] = es.set i [.str s0, .ow 61 6 m1] := setCs_set (by omega) hi rfl
 have a1 : asOw 61 6 (((es.set i [.str s0, .ow 61 6 l1]).getD i []).getD 1 .undef) = some l1 := by rw [getD_set_self hi]; exact asOw_ 61 6 l1
 rw [zcb_1_eq, e0, ei, en, decide_eq_true (show (i : Int) < (es.length : Int) by omega), cond_true]
 rw [h0, bS', if_pos p1, if_pos ⟨by trivial, hi, by omega⟩]
 simp only [r0, ln]
 rw [if_pos p1, if_pos ⟨by trivial, hi, by omega⟩]
 simp only [a1, Option.bind_some]
 rw [if_pos ⟨by trivial, hi, by omega⟩, h1, bW]
 simp only [r1, ln]
theorem markGroupS_ev : ∀ (es : List (List Pd)), es.length ≤ 1048576 → wEs es ≤ 1048576 → wfEs T0 ckGroup es → ∀ k : Int, 0 ≤ k → k + cEs es ≤ 1000000000 → ev E0 F_zcb [.arr (.out 0), .p (.int .i64 k)] [.oarr 55 2 (ownEs T0 ckGroup es)] = rW (k + cEs es) (.oarr 55 2 (ownEs T0 ckGroup (mkEs mt k es))) := by
 intro es hl hwt hw k k0 k1
 rw [zcb_0_ev, zcb_0_eq]
 refine mark_loop (L := fun k i es => zcb_1 k i es) k0 k1 (fun i x hx k es' k0 k1 hl' hrow => ?_) (fun k es' hl' => ?_)
 ·obtain ⟨v0, v1, rfl, q0, q1, w1⟩ := decGroup (wfEs_get hw hx)
  have hi : i < es'.length := by have := lt_of_get hx; omega
  have hm : [.str v0, .sl 6 v1] ∈ es := List.mem_of_getElem? hx
  have hwx := wEs_mem hm
  simp only [wC, wP] at hwx
  have hc := cC_Group (v0 := v0) (v1 := v1)
  rw [hc] at k1
  rw [own_Group] at hrow
  rw [mk_Group, own_Group, hc]
  show zcb_1 k i es' = _
  have g1 := markSelS_ev v1 (by omega) (by omega) w1 (k + 1) (by omega) (by omega)
  have hs := markstep_Group (k := k) hi (by omega) hrow (by omega) (by omega) (mt_ev (by omega)) g1
  rw [hs]
  have ek : k + (((1 + cEs v1 : Nat)) : Int) = k + 1 + ((cEs v1 : Nat) : Int) := by omega
  rw [ek]
 ·show zcb_1 k es.length es' = _
  rw [zcb_1_eq, decide_eq_false (by omega), cond_false]
theorem heldArgS_ev : ∀ (es : List (List Pd)), es.length ≤ 1048576 → wEs es ≤ 1048576 → wfEs T0 ckArg es → ∀ k : Int, 0 ≤ k → k + cEs es ≤ 1000000000 → ev E0 F_zbs [.p (.sl 4 (mkEs mt k es)), .p (.int .i64 k)] [] = rI (k + cEs es) := by
 intro es hl hwt hw k k0 k1
 have hl2 : (mkEs mt k es).length = es.length := mkEs_len mt es k
 rw [zbs_0_ev, zbs_0_eq]
 refine held_loop (mt := mt) (L := fun k' i => zbs_1 (mkEs mt k es) k' i) k0 k1 (fun i x hx k' k0 k1 hrow => ?_) (fun k' => ?_)
 ·obtain ⟨v0, v1, v2, v3, rfl, q0, q3⟩ := decArg (wfEs_get hw hx)
  have hi : i < es.length := lt_of_get hx
  have hm : [.str v0, .int .i64 v1, .int .i64 v2, .str v3] ∈ es := List.mem_of_getElem? hx
  have hwx := wEs_mem hm
  simp only [wC, wP] at hwx
  have hc := cC_Arg (v0 := v0) (v1 := v1) (v2 := v2) (v3 := v3)
  rw [hc] at k1
  rw [mk_Arg] at hrow
  rw [hc]
  have a0 : asStr (([.str (mt (k')), .int .i64 (k' + 1), .int .i64 (k' + 2), .str (mt (k' + 3))] : List Pd).getD 0 .undef) = some (mt (k')) := rfl
  have a1 : asInt .i64 ((([.str (mt (k')), .int .i64 (k' + 1), .int .i64 (k' + 2), .str (mt (k' + 3))] : List Pd).drop 1).getD 0 .undef) = some (k' + 1) := asI _
  have a2 : asInt .i64 (((([.str (mt (k')), .int .i64 (k' + 1), .int .i64 (k' + 2), .str (mt (k' + 3))] : List Pd).drop 1).drop 1).getD 0 .undef) = some (k' + 2) := asI _
  have a3 : asStr (((([.str (mt (k')), .int .i64 (k' + 1), .int .i64 (k' + 2), .str (mt (k' + 3))] : List Pd).drop 1).drop 2).getD 0 .undef) = some (mt (k' + 3)) := rfl
  have e0 : IntKind.i64.wrap (k' + 1) = k' + 1 := by rw [wrap_id (by omega)]
  have e1 : IntKind.i64.wrap (k' + 1 + 1) = k' + 2 := by rw [wrap_id (by omega)]; omega
  have e2 : IntKind.i64.wrap (k' + 2 + 1) = k' + 3 := by rw [wrap_id (by omega)]; omega
  have e3 : IntKind.i64.wrap (k' + 3 + 1) = k' + 4 := by rw [wrap_id (by omega)]; omega
  have ei : IntKind.i64.wrap ((i : Int) + 1) = ((i + 1 : Nat) : Int) := by rw [wrap_id (by omega)]; omega
  have en : ((i : Int)).toNat = i := by omega
  show zbs_1 (mkEs mt k es) k' i = _
  rw [zbs_1_eq, en, hl2, hrow, e0, e1, e2, e3, ei, decide_eq_true (by omega), cond_true]
  rw [if_pos (by omega), a0, Option.bind_some, mt_ev (by omega), bS', nd_self, cond_false]
  rw [if_pos (by omega), a1, Option.bind_some, ne_self, cond_false]
  rw [if_pos (by omega), a2, Option.bind_some, ne_self, cond_false]
  rw [if_pos (by omega), a3, Option.bind_some, mt_ev (by omega), bS', nd_self, cond_false]
  have ek : k' + (((1 + 1 + 1 + 1 : Nat)) : Int) = k' + 4 := by omega
  rw [ek]
 ·show zbs_1 (mkEs mt k es) k' es.length = _
  rw [zbs_1_eq, hl2, decide_eq_false (by omega), cond_false]
theorem heldDirS_ev : ∀ (es : List (List Pd)), es.length ≤ 1048576 → wEs es ≤ 1048576 → wfEs T0 ckDir es → ∀ k : Int, 0 ≤ k → k + cEs es ≤ 1000000000 → ev E0 F_zbt [.p (.sl 4 (mkEs mt k es)), .p (.int .i64 k)] [] = rI (k + cEs es) := by
 intro es hl hwt hw k k0 k1
 have hl2 : (mkEs mt k es).length = es.length := mkEs_len mt es k
 rw [zbt_0_ev, zbt_0_eq]
 refine held_loop (mt := mt) (L := fun k' i => zbt_1 (mkEs mt k es) k' i) k0 k1 (fun i x hx k' k0 k1 hrow => ?_) (fun k' => ?_)
 ·obtain ⟨v0, v1, v2, v3, rfl, q3⟩ := decDir (wfEs_get hw hx)
  have hi : i < es.length := lt_of_get hx
  have hm : [.bool v0, .int .i64 v1, .int .i64 v2, .str v3] ∈ es := List.mem_of_getElem? hx
  have hwx := wEs_mem hm
  simp only [wC, wP] at hwx
  have hc := cC_Dir (v0 := v0) (v1 := v1) (v2 := v2) (v3 := v3)
  rw [hc] at k1
  rw [mk_Dir] at hrow
  rw [hc]
  have a0 : asBool (([.bool (((k').tmod 3 : Int) == 0), .int .i64 (k' + 1), .int .i64 (k' + 2), .str (mt (k' + 3))] : List Pd).getD 0 .undef) = some (((k').tmod 3 : Int) == 0) := rfl
  have a1 : asInt .i64 ((([.bool (((k').tmod 3 : Int) == 0), .int .i64 (k' + 1), .int .i64 (k' + 2), .str (mt (k' + 3))] : List Pd).drop 1).getD 0 .undef) = some (k' + 1) := asI _
  have a2 : asInt .i64 (((([.bool (((k').tmod 3 : Int) == 0), .int .i64 (k' + 1), .int .i64 (k' + 2), .str (mt (k' + 3))] : List Pd).drop 1).drop 1).getD 0 .undef) = some (k' + 2) := asI _
  have a3 : asStr (((([.bool (((k').tmod 3 : Int) == 0), .int .i64 (k' + 1), .int .i64 (k' + 2), .str (mt (k' + 3))] : List Pd).drop 1).drop 2).getD 0 .undef) = some (mt (k' + 3)) := rfl
  have e0 : IntKind.i64.wrap (k' + 1) = k' + 1 := by rw [wrap_id (by omega)]
  have e1 : IntKind.i64.wrap (k' + 1 + 1) = k' + 2 := by rw [wrap_id (by omega)]; omega
  have e2 : IntKind.i64.wrap (k' + 2 + 1) = k' + 3 := by rw [wrap_id (by omega)]; omega
  have e3 : IntKind.i64.wrap (k' + 3 + 1) = k' + 4 := by rw [wrap_id (by omega)]; omega
  have ei : IntKind.i64.wrap ((i : Int) + 1) = ((i + 1 : Nat) : Int) := by rw [wrap_id (by omega)]; omega
  have en : ((i : Int)).toNat = i := by omega
  show zbt_1 (mkEs mt k es) k' i = _
  rw [zbt_1_eq, en, hl2, hrow, e0, e1, e2, e3, ei, decide_eq_true (by omega), cond_true]
  rw [if_pos (by omega), a0, Option.bind_some, nb_self, cond_false]
  rw [if_pos (by omega), a1, Option.bind_some, ne_self, cond_false]
  rw [if_pos (by omega), a2, Option.bind_some, ne_self, cond_false]
  rw [if_pos (by omega), a3, Option.bind_some, mt_ev (by omega), bS', nd_self, cond_false]
  have ek : k' + (((1 + 1 + 1 + 1 : Nat)) : Int) = k' + 4 := by omega
  rw [ek]
 ·show zbt_1 (mkEs mt k es) k' es.length = _
  rw [zbt_1_eq, hl2, decide_eq_false (by omega), cond_false]
theorem heldSelS_ev : ∀ (es : List (List Pd)), es.length ≤ 1048576 → wEs es ≤ 1048576 → wfEs T0 ckSel es → ∀ k : Int, 0 ≤ k → k + cEs es ≤ 1000000000 → ev E0 F_zbv [.p (.sl 6 (mkEs mt k es)), .p (.int .i64 k)] [] = rI (k + cEs es) := by
 refine row_ind (cs := []) fun es ih hl hwt hw k k0 k1 => ?_
 have hl2 : (mkEs mt k es).length = es.length := mkEs_len mt es k
 rw [zbv_0_ev, zbv_0_eq]
 refine held_loop (mt := mt) (L := fun k' i => zbv_1 (mkEs mt k es) k' i) k0 k1 (fun i x hx k' k0 k1 hrow => ?_) (fun k' => ?_)
 ·obtain ⟨v0, v1, v2, v3, v4, v5, rfl, q1, q2, q3, w3, q4, w4, q5, w5⟩ := decSel (wfEs_get hw hx)
  have hi : i < es.length := lt_of_get hx
  have hm : [.int .i64 v0, .str v1, .str v2, .sl 4 v3, .sl 4 v4, .sl 6 v5] ∈ es := List.mem_of_getElem? hx
  have hwx := wEs_mem hm
  simp only [wC, wP] at hwx
  have hc := cC_Sel (v0 := v0) (v1 := v1) (v2 := v2) (v3 := v3) (v4 := v4) (v5 := v5)
  rw [hc] at k1
  rw [mk_Sel] at hrow
  rw [hc]
  have a0 : asInt .i64 (([.int .i64 (k'), .str (mt (k' + 1)), .str (mt (k' + 2)), .sl 4 (mkEs mt (k' + 3) v3), .sl 4 (mkEs mt (k' + 3 + ((cEs v3 : Nat) : Int)) v4), .sl 6 (mkEs mt (k' + 3 + ((cEs v3 : Nat) : Int) + ((cEs v4 : Nat) : Int)) v5)] : List Pd).getD 0 .undef) = some (k') := asI _
  have a1 : asStr ((([.int .i64 (k'), .str (mt (k' + 1)), .str (mt (k' + 2)), .sl 4 (mkEs mt (k' + 3) v3), .sl 4 (mkEs mt (k' + 3 + ((cEs v3 : Nat) : Int)) v4), .sl 6 (mkEs mt (k' + 3 + ((cEs v3 : Nat) : Int) + ((cEs v4 : Nat) : Int)) v5)] : List Pd).drop 1).getD 0 .undef) = some (mt (k' + 1)) := rfl
  have a2 : asStr ((([.int .i64 (k'), .str (mt (k' + 1)), .str (mt (k' + 2)), .sl 4 (mkEs mt (k' + 3) v3), .sl 4 (mkEs mt (k' + 3 + ((cEs v3 : Nat) : Int)) v4), .sl 6 (mkEs mt (k' + 3 + ((cEs v3 : Nat) : Int) + ((cEs v4 : Nat) : Int)) v5)] : List Pd).drop 2).getD 0 .undef) = some (mt (k' + 2)) := rfl
  have a3 : asSl 4 ((([.int .i64 (k'), .str (mt (k' + 1)), .str (mt (k' + 2)), .sl 4 (mkEs mt (k' + 3) v3), .sl 4 (mkEs mt (k' + 3 + ((cEs v3 : Nat) : Int)) v4), .sl 6 (mkEs mt (k' + 3 + ((cEs v3 : Nat) : Int) + ((cEs v4 : Nat) : Int)) v5)] : List Pd).drop 3).getD 0 .undef) = some (mkEs mt (k' + 3) v3) := asSl_ _ _
  have a4 : asSl 4 ((([.int .i64 (k'), .str (mt (k' + 1)), .str (mt (k' + 2)), .sl 4 (mkEs mt (k' + 3) v3), .sl 4 (mkEs mt (k' + 3 + ((cEs v3 : Nat) : Int)) v4), .sl 6 (mkEs mt (k' + 3 + ((cEs v3 : Nat) : Int) + ((cEs v4 : Nat) : Int)) v5)] : List Pd).drop 4).getD 0 .undef) = some (mkEs mt (k' + 3 + ((cEs v3 : Nat) : Int)) v4) := asSl_ _ _
  have a5 : asSl 6 ((([.int .i64 (k'), .str (mt (k' + 1)), .str (mt (k' + 2)), .sl 4 (mkEs mt (k' + 3) v3), .sl 4 (mkEs mt (k' + 3 + ((cEs v3 : Nat) : Int)) v4), .sl 6 (mkEs mt (k' + 3 + ((cEs v3 : Nat) : Int) + ((cEs v4 : Nat) : Int)) v5)] : List Pd).drop 5).getD 0 .undef) = some (mkEs mt (k' + 3 + ((cEs v3 : Nat) : Int) + ((cEs v4 : Nat) : Int)) v5) := asSl_ _ _
  have e0 : IntKind.i64.wrap (k' + 1) = k' + 1 := by rw [wrap_id (by omega)]
  have e1 : IntKind.i64.wrap (k' + 1 + 1) = k' + 2 := by rw [wrap_id (by omega)]; omega
  have e2 : IntKind.i64.wrap (k' + 2 + 1) = k' + 3 := by rw [wrap_id (by omega)]; omega
  have ei : IntKind.i64.wrap ((i : Int) + 1) = ((i + 1 : Nat) : Int) := by rw [wrap_id (by omega)]; omega
  have en : ((i : Int)).toNat = i := by omega
  have g3 := heldArgS_ev v3 (by omega) (by omega) w3 (k' + 3) (by omega) (by omega)
  have g4 := heldDirS_ev v4 (by omega) (by omega) w4 (k' + 3 + ((cEs v3 : Nat) : Int)) (by omega) (by omega)
  have g5 := ih _ hm 6 v5 (by simp) (by omega) (by omega) w5 (k' + 3 + ((cEs v3 : Nat) : Int) + ((cEs v4 : Nat) : Int)) (by omega) (by omega)
  show zbv_1 (mkEs mt k es) k' i = _
  rw [zbv_1_eq, en, hl2, hrow, e0, e1, e2, ei, decide_eq_true (by omega), cond_true]
  rw [if_pos (by omega), a0, Option.bind_some, ne_self, cond_false]
  rw [if_pos (by omega), a1, Option.bind_some, mt_ev (by omega), bS', nd_self, cond_false]
  rw [if_pos (by omega), a2, Option.bind_some, mt_ev (by omega), bS', nd_self, cond_false]
  rw [if_pos (by omega), a3, Option.bind_some, g3, bI, decide_eq_false (by omega), cond_false]
  rw [if_pos (by omega), a4, Option.bind_some, g4, bI, decide_eq_false (by omega), cond_false]
  rw [if_pos (by omega), a5, Option.bind_some, g5, bI, decide_eq_false (by omega), cond_false]
  have ek : k' + (((1 + 1 + 1 + cEs v3 + cEs v4 + cEs v5 : Nat)) : Int) = k' + 3 + ((cEs v3 : Nat) : Int) + ((cEs v4 : Nat) : Int) + ((cEs v5 : Nat) : Int) := by omega
  rw [ek]
 ·show zbv_1 (mkEs mt k es) k' es.length = _
  rw [zbv_1_eq, hl2, decide_eq_false (by omega), cond_false]
theorem heldGroupS_ev : ∀ (es : List (List Pd)), es.length ≤ 1048576 → wEs es ≤ 1048576 → wfEs T0 ckGroup es → ∀ k : Int, 0 ≤ k → k + cEs es ≤ 1000000000 → ev E0 F_zbu [.p (.sl 2 (mkEs mt k es)), .p (.int .i64 k)] [] = rI (k + cEs es) := by
 intro es hl hwt hw k k0 k1
 have hl2 : (mkEs mt k es).length = es.length := mkEs_len mt es k
 rw [zbu_0_ev, zbu_0_eq]
 refine held_loop (mt := mt) (L := fun k' i => zbu_1 (mkEs mt k es) k' i) k0 k1 (fun i x hx k' k0 k1 hrow => ?_) (fun k' => ?_)
 ·obtain ⟨v0, v1, rfl, q0, q1, w1⟩ := decGroup (wfEs_get hw hx)
  have hi : i < es.length := lt_of_get hx
  have hm : [.str v0, .sl 6 v1] ∈ es := List.mem_of_getElem? hx
  have hwx := wEs_mem hm
  simp only [wC, wP] at hwx
  have hc := cC_Group (v0 := v0) (v1 := v1)
  rw [hc] at k1
  rw [mk_Group] at hrow
  rw [hc]
  have a0 : asStr (([.str (mt (k')), .sl 6 (mkEs mt (k' + 1) v1)] : List Pd).getD 0 .undef) = some (mt (k')) := rfl
  have a1 : asSl 6 ((([.str (mt (k')), .sl 6 (mkEs mt (k' + 1) v1)] : List Pd).drop 1).getD 0 .undef) = some (mkEs mt (k' + 1) v1) := asSl_ _ _
  have e0 : IntKind.i64.wrap (k' + 1) = k' + 1 := by rw [wrap_id (by omega)]
  have ei : IntKind.i64.wrap ((i : Int) + 1) = ((i + 1 : Nat) : Int) := by rw [wrap_id (by omega)]; omega
  have en : ((i : Int)).toNat = i := by omega
  have g1 := heldSelS_ev v1 (by omega) (by omega) w1 (k' + 1) (by omega) (by omega)
  show zbu_1 (mkEs mt k es) k' i = _
  rw [zbu_1_eq, en, hl2, hrow, e0, ei, decide_eq_true (by omega), cond_true]
  rw [if_pos (by omega), a0, Option.bind_some, mt_ev (by omega), bS', nd_self, cond_false]
  rw [if_pos (by omega), a1, Option.bind_some, g1, bI, decide_eq_false (by omega), cond_false]
  have ek : k' + (((1 + cEs v1 : Nat)) : Int) = k' + 1 + ((cEs v1 : Nat) : Int) := by omega
  rw [ek]
 ·show zbu_1 (mkEs mt k es) k' es.length = _
  rw [zbu_1_eq, hl2, decide_eq_false (by omega), cond_false]
theorem markDoc_ev {v0 : List (List Pd)} (b0 : v0.length ≤ 1048576) (c0 : wEs v0 ≤ 1048576) (w0 : wfEs T0 ckDef v0) (k : Int) (k0 : 0 ≤ k) (k1 : k + ((cEs v0 : Nat) : Int) ≤ 1000000000) : ev E0 F_zca [.agg 1 [.arr (.out 0)], .p (.int .i64 k)] [.oarr 122 4 (ownEs T0 ckDef v0)] = some ([.p (.int .i64 (k + ((cEs v0 : Nat) : Int)))], [.oarr 122 4 (ownEs T0 ckDef (mkEs mt (k) v0))]) := by
 rw [zca_0_ev, zca_0_eq]
 rw [markDefS_ev v0 b0 c0 w0 (k) (by omega) (by omega), bW]
end Go.Proofs.YtmnoibkdmeajpaaGreat.Dm
