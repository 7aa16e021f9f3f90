/- Printed by gen_data.py: sizes, copies, comparisons, marks of the laws' data. -/
import Derived.Test.YtbadompnhhhfpaaGreatDoorAS2
import Derived.Test.YtbadompnhhhfpaaGreatDoorD2
namespace Go.Proofs.YtbadompnhhhfpaaGreatDoor.Dm
set_option linter.unusedVariables false
set_option linter.unusedSimpArgs false
set_option maxRecDepth 4000
theorem bW2 {R : Type} (n : Int) (e0 s0 : Nat) (x0 : List (List Pd)) (e1 s1 : Nat) (x1 : List (List Pd)) (K : Int → List (List Pd) → List (List Pd) → Option R) : ((some ([.p (.int .i64 n)], [.oarr e0 s0 x0, .oarr e1 s1 x1]) : Option Res).bind fun r => (asInt .i64 (pAt 0 r.1)).bind fun n => if r.1.length = 1 then ((asOarr e0 s0 (r.2.getD 0 .none)).bind fun l0 => (asOarr e1 s1 (r.2.getD 1 .none)).bind fun l1 => if r.2.length = 2 then K n l0 l1 else none) else none) = K n x0 x1 := by simp [pAt, asInt, asOarr]
theorem bW3 {R : Type} (n : Int) (e0 s0 : Nat) (x0 : List (List Pd)) (e1 s1 : Nat) (x1 : List (List Pd)) (e2 s2 : Nat) (x2 : List (List Pd)) (K : Int → List (List Pd) → List (List Pd) → List (List Pd) → Option R) : ((some ([.p (.int .i64 n)], [.oarr e0 s0 x0, .oarr e1 s1 x1, .oarr e2 s2 x2]) : Option Res).bind fun r => (asInt .i64 (pAt 0 r.1)).bind fun n => if r.1.length = 1 then ((asOarr e0 s0 (r.2.getD 0 .none)).bind fun l0 => (asOarr e1 s1 (r.2.getD 1 .none)).bind fun l1 => (asOarr e2 s2 (r.2.getD 2 .none)).bind fun l2 => if r.2.length = 3 then K n l0 l1 l2 else none) else none) = K n x0 x1 x2 := by simp [pAt, asInt, asOarr]
theorem bW4 {R : Type} (n : Int) (e0 s0 : Nat) (x0 : List (List Pd)) (e1 s1 : Nat) (x1 : List (List Pd)) (e2 s2 : Nat) (x2 : List (List Pd)) (e3 s3 : Nat) (x3 : List (List Pd)) (K : Int → List (List Pd) → List (List Pd) → List (List Pd) → List (List Pd) → Option R) : ((some ([.p (.int .i64 n)], [.oarr e0 s0 x0, .oarr e1 s1 x1, .oarr e2 s2 x2, .oarr e3 s3 x3]) : Option Res).bind fun r => (asInt .i64 (pAt 0 r.1)).bind fun n => if r.1.length = 1 then ((asOarr e0 s0 (r.2.getD 0 .none)).bind fun l0 => (asOarr e1 s1 (r.2.getD 1 .none)).bind fun l1 => (asOarr e2 s2 (r.2.getD 2 .none)).bind fun l2 => (asOarr e3 s3 (r.2.getD 3 .none)).bind fun l3 => if r.2.length = 4 then K n l0 l1 l2 l3 else none) else none) = K n x0 x1 x2 x3 := by simp [pAt, asInt, asOarr]
theorem bW5 {R : Type} (n : Int) (e0 s0 : Nat) (x0 : List (List Pd)) (e1 s1 : Nat) (x1 : List (List Pd)) (e2 s2 : Nat) (x2 : List (List Pd)) (e3 s3 : Nat) (x3 : List (List Pd)) (e4 s4 : Nat) (x4 : List (List Pd)) (K : Int → List (List Pd) → List (List Pd) → List (List Pd) → List (List Pd) → List (List Pd) → Option R) : ((some ([.p (.int .i64 n)], [.oarr e0 s0 x0, .oarr e1 s1 x1, .oarr e2 s2 x2, .oarr e3 s3 x3, .oarr e4 s4 x4]) : Option Res).bind fun r => (asInt .i64 (pAt 0 r.1)).bind fun n => if r.1.length = 1 then ((asOarr e0 s0 (r.2.getD 0 .none)).bind fun l0 => (asOarr e1 s1 (r.2.getD 1 .none)).bind fun l1 => (asOarr e2 s2 (r.2.getD 2 .none)).bind fun l2 => (asOarr e3 s3 (r.2.getD 3 .none)).bind fun l3 => (asOarr e4 s4 (r.2.getD 4 .none)).bind fun l4 => if r.2.length = 5 then K n l0 l1 l2 l3 l4 else none) else none) = K n x0 x1 x2 x3 x4 := by simp [pAt, asInt, asOarr]
def ckString : List CK := [.s]
def ckInt : List CK := [.i]
def ckArg : List CK := [.s, .i, .i, .s]
def ckDir : List CK := [.b, .i, .i, .s]
def ckSel : List CK := [.i, .s, .s, .r 2, .r 3, .r 4]
def ckDef : List CK := [.i, .s, .s, .r 4]
def ckPut : List CK := [.i, .i]
def ckOut : List CK := [.i, .i, .s, .r 0, .r 7]
def T0 : Nat → De
  | 0 => ⟨9, 1, ckString⟩
  | 1 => ⟨3, 1, ckInt⟩
  | 2 => ⟨184, 4, ckArg⟩
  | 3 => ⟨186, 4, ckDir⟩
  | 4 => ⟨155, 6, ckSel⟩
  | 5 => ⟨114, 4, ckDef⟩
  | 6 => ⟨84, 2, ckPut⟩
  | 7 => ⟨44, 5, ckOut⟩
  | _ => ⟨0, 0, []⟩
theorem T0_le (d : Nat) : (T0 d).cks.length ≤ 8 := by
  unfold T0
  split <;> decide
theorem flatString : ∀ c ∈ ckString, ∀ d, c ≠ .r d := by
  intro c hc d e
  subst e
  simp [ckString] at hc
theorem flatInt : ∀ c ∈ ckInt, ∀ d, c ≠ .r d := by
  intro c hc d e
  subst e
  simp [ckInt] at hc
theorem flatArg : ∀ c ∈ ckArg, ∀ d, c ≠ .r d := by
  intro c hc d e
  subst e
  simp [ckArg] at hc
theorem flatDir : ∀ c ∈ ckDir, ∀ d, c ≠ .r d := by
  intro c hc d e
  subst e
  simp [ckDir] at hc
theorem flatPut : ∀ c ∈ ckPut, ∀ d, c ≠ .r d := by
  intro c hc d e
  subst e
  simp [ckPut] at hc
theorem decString {x : List Pd} (h : wfC T0 ckString x) : ∃ v0, x = [.str v0] ∧ v0.size ≤ 9223372036854775807 := by
  obtain ⟨y0, z0, rfl, a0, h⟩ := wfC_cons h
  obtain rfl := wfC_nil h
  obtain ⟨v0, rfl, q0⟩ := wfP_s a0
  exact ⟨v0, rfl, q0⟩
theorem decInt {x : List Pd} (h : wfC T0 ckInt x) : ∃ v0, x = [.int .i64 v0] := by
  obtain ⟨y0, z0, rfl, a0, h⟩ := wfC_cons h
  obtain rfl := wfC_nil h
  obtain ⟨v0, rfl⟩ := wfP_i a0
  exact ⟨v0, rfl⟩
theorem decArg {x : List Pd} (h : wfC T0 ckArg x) : ∃ v0 v1 v2 v3, x = [.str v0, .int .i64 v1, .int .i64 v2, .str v3] ∧ v0.size ≤ 9223372036854775807 ∧ v3.size ≤ 9223372036854775807 := by
  obtain ⟨y0, z0, rfl, a0, h⟩ := wfC_cons h
  obtain ⟨y1, z1, rfl, a1, h⟩ := wfC_cons h
  obtain ⟨y2, z2, rfl, a2, h⟩ := wfC_cons h
  obtain ⟨y3, z3, rfl, a3, h⟩ := wfC_cons h
  obtain rfl := wfC_nil h
  obtain ⟨v0, rfl, q0⟩ := wfP_s a0
  obtain ⟨v1, rfl⟩ := wfP_i a1
  obtain ⟨v2, rfl⟩ := wfP_i a2
  obtain ⟨v3, rfl, q3⟩ := wfP_s a3
  exact ⟨v0, v1, v2, v3, rfl, q0, q3⟩
theorem decDir {x : List Pd} (h : wfC T0 ckDir x) : ∃ v0 v1 v2 v3, x = [.bool v0, .int .i64 v1, .int .i64 v2, .str v3] ∧ v3.size ≤ 9223372036854775807 := by
  obtain ⟨y0, z0, rfl, a0, h⟩ := wfC_cons h
  obtain ⟨y1, z1, rfl, a1, h⟩ := wfC_cons h
  obtain ⟨y2, z2, rfl, a2, h⟩ := wfC_cons h
  obtain ⟨y3, z3, rfl, a3, h⟩ := wfC_cons h
  obtain rfl := wfC_nil h
  obtain ⟨v0, rfl⟩ := wfP_b a0
  obtain ⟨v1, rfl⟩ := wfP_i a1
  obtain ⟨v2, rfl⟩ := wfP_i a2
  obtain ⟨v3, rfl, q3⟩ := wfP_s a3
  exact ⟨v0, v1, v2, v3, rfl, q3⟩
theorem decSel {x : List Pd} (h : wfC T0 ckSel x) : ∃ v0 v1 v2 v3 v4 v5, x = [.int .i64 v0, .str v1, .str v2, .sl 4 v3, .sl 4 v4, .sl 6 v5] ∧ v1.size ≤ 9223372036854775807 ∧ v2.size ≤ 9223372036854775807 ∧ v3.length ≤ 9223372036854775807 ∧ wfEs T0 ckArg v3 ∧ v4.length ≤ 9223372036854775807 ∧ wfEs T0 ckDir v4 ∧ v5.length ≤ 9223372036854775807 ∧ wfEs T0 ckSel v5 := by
  obtain ⟨y0, z0, rfl, a0, h⟩ := wfC_cons h
  obtain ⟨y1, z1, rfl, a1, h⟩ := wfC_cons h
  obtain ⟨y2, z2, rfl, a2, h⟩ := wfC_cons h
  obtain ⟨y3, z3, rfl, a3, h⟩ := wfC_cons h
  obtain ⟨y4, z4, rfl, a4, h⟩ := wfC_cons h
  obtain ⟨y5, z5, rfl, a5, h⟩ := wfC_cons h
  obtain rfl := wfC_nil h
  obtain ⟨v0, rfl⟩ := wfP_i a0
  obtain ⟨v1, rfl, q1⟩ := wfP_s a1
  obtain ⟨v2, rfl, q2⟩ := wfP_s a2
  obtain ⟨v3, rfl, q3, w3⟩ := wfP_r a3
  obtain ⟨v4, rfl, q4, w4⟩ := wfP_r a4
  obtain ⟨v5, rfl, q5, w5⟩ := wfP_r a5
  exact ⟨v0, v1, v2, v3, v4, v5, rfl, q1, q2, q3, w3, q4, w4, q5, w5⟩
theorem decDef {x : List Pd} (h : wfC T0 ckDef x) : ∃ v0 v1 v2 v3, x = [.int .i64 v0, .str v1, .str v2, .sl 6 v3] ∧ v1.size ≤ 9223372036854775807 ∧ v2.size ≤ 9223372036854775807 ∧ v3.length ≤ 9223372036854775807 ∧ wfEs T0 ckSel v3 := by
  obtain ⟨y0, z0, rfl, a0, h⟩ := wfC_cons h
  obtain ⟨y1, z1, rfl, a1, h⟩ := wfC_cons h
  obtain ⟨y2, z2, rfl, a2, h⟩ := wfC_cons h
  obtain ⟨y3, z3, rfl, a3, h⟩ := wfC_cons h
  obtain rfl := wfC_nil h
  obtain ⟨v0, rfl⟩ := wfP_i a0
  obtain ⟨v1, rfl, q1⟩ := wfP_s a1
  obtain ⟨v2, rfl, q2⟩ := wfP_s a2
  obtain ⟨v3, rfl, q3, w3⟩ := wfP_r a3
  exact ⟨v0, v1, v2, v3, rfl, q1, q2, q3, w3⟩
theorem decPut {x : List Pd} (h : wfC T0 ckPut x) : ∃ v0 v1, x = [.int .i64 v0, .int .i64 v1] := by
  obtain ⟨y0, z0, rfl, a0, h⟩ := wfC_cons h
  obtain ⟨y1, z1, rfl, a1, h⟩ := wfC_cons h
  obtain rfl := wfC_nil h
  obtain ⟨v0, rfl⟩ := wfP_i a0
  obtain ⟨v1, rfl⟩ := wfP_i a1
  exact ⟨v0, v1, rfl⟩
theorem decOut {x : List Pd} (h : wfC T0 ckOut x) : ∃ v0 v1 v2 v3 v4, x = [.int .i64 v0, .int .i64 v1, .str v2, .sl 1 v3, .sl 5 v4] ∧ v2.size ≤ 9223372036854775807 ∧ v3.length ≤ 9223372036854775807 ∧ wfEs T0 ckString v3 ∧ v4.length ≤ 9223372036854775807 ∧ wfEs T0 ckOut v4 := by
  obtain ⟨y0, z0, rfl, a0, h⟩ := wfC_cons h
  obtain ⟨y1, z1, rfl, a1, h⟩ := wfC_cons h
  obtain ⟨y2, z2, rfl, a2, h⟩ := wfC_cons h
  obtain ⟨y3, z3, rfl, a3, h⟩ := wfC_cons h
  obtain ⟨y4, z4, rfl, a4, h⟩ := wfC_cons h
  obtain rfl := wfC_nil h
  obtain ⟨v0, rfl⟩ := wfP_i a0
  obtain ⟨v1, rfl⟩ := wfP_i a1
  obtain ⟨v2, rfl, q2⟩ := wfP_s a2
  obtain ⟨v3, rfl, q3, w3⟩ := wfP_r a3
  obtain ⟨v4, rfl, q4, w4⟩ := wfP_r a4
  exact ⟨v0, v1, v2, v3, v4, rfl, q2, q3, w3, q4, w4⟩
theorem szStringS_ev : ∀ (es : List (List Pd)), es.length ≤ 9223372036854775807 → wfEs T0 ckString es → ∀ left : Int, 0 ≤ left → left ≤ 1048576 → ev E0 F_laws_szStringS [.p (.sl 1 es), .p (.int .i64 left)] [] = rI (szV (es.length + wEs es) left) := by
  intro es hl hw left l0 l1
  rw [laws_szStringS_0_ev, laws_szStringS_0_eq]
  refine sz_row (L := fun left i => laws_szStringS_1 es left i) hl l0 l1 (fun i x hx left l0 l1 => ?_) (fun left => ?_)
  · have hi := lt_of_get hx
    obtain ⟨v0, rfl, q0⟩ := decString (wfEs_get hw hx)
    have hm : [.str v0] ∈ es := List.mem_of_getElem? hx
    show laws_szStringS_1 es left i = _
    have e1 : asStr (([.str v0] : List Pd).getD 0 .undef) = some v0 := rfl
    have hW : wC [.str v0] = v0.size := by simp [wC, wP]
    rw [laws_szStringS_1_eq, decide_eq_true (by omega), cond_true, if_pos (by omega), getD_of hx, e1, Option.bind_some, wrap_id (n := left - (v0.size : Int)) (by omega), wrap_id (by omega), hW]
    by_cases c : (v0.size : Int) ≤ left
    · rw [decide_eq_false (by omega), cond_false, if_pos c]
    · rw [decide_eq_true (by omega), cond_true, if_neg c]
  · show laws_szStringS_1 es left es.length = _
    rw [laws_szStringS_1_eq]; exact szDone
theorem szIntS_ev : ∀ (es : List (List Pd)), es.length ≤ 9223372036854775807 → wfEs T0 ckInt es → ∀ left : Int, 0 ≤ left → left ≤ 1048576 → ev E0 F_laws_szIntS [.p (.sl 1 es), .p (.int .i64 left)] [] = rI (szV (es.length + wEs es) left) := by
  intro es hl hw left l0 l1
  rw [laws_szIntS_0_ev, laws_szIntS_0_eq]
  have hz : wEs es = 0 := by
    clear hl
    induction es with
    | nil => rw [wEs]
    | cons x es ih =>
      rw [wfEs] at hw
      obtain ⟨v0, rfl⟩ := decInt hw.1
      rw [wEs, ih hw.2]
      simp [wC, wP]
  rw [hz, Nat.add_zero, wrap_id (by omega)]
  by_cases c : (es.length : Int) ≤ left
  · rw [decide_eq_false (by omega), cond_false]; exact szYes c rfl
  · rw [decide_eq_true (by omega), cond_true]; try exact szNo (by omega)
theorem szValue_ev {v0 : Int} {v1 : Int} {v2 : ByteArray} (q2 : v2.size ≤ 9223372036854775807) (left : Int) (l0 : 0 ≤ left) (l1 : left ≤ 1048576) : ev E0 F_laws_szValue [.p (.agg 3 [.int .i64 v0, .int .i64 v1, .str v2]), .p (.int .i64 left)] [] = rI (szV (v2.size) left) := by
  rw [laws_szValue_0_ev, laws_szValue_0_eq]
  rw [wrap_id (n := left - (v2.size : Int)) (by omega)]
  by_cases c0 : ((v2.size : Nat) : Int) ≤ left
  case neg => rw [decide_eq_true (by omega), cond_true]; try exact szNo (by omega)
  rw [decide_eq_false (by omega), cond_false]
  try exact szYes (by omega) (by omega)
theorem szArg_ev {v0 : ByteArray} {v1 : Int} {v2 : Int} {v3 : ByteArray} (q0 : v0.size ≤ 9223372036854775807) (q3 : v3.size ≤ 9223372036854775807) (left : Int) (l0 : 0 ≤ left) (l1 : left ≤ 1048576) : ev E0 F_laws_szArg [.p (.agg 4 [.str v0, .int .i64 v1, .int .i64 v2, .str v3]), .p (.int .i64 left)] [] = rI (szV (v0.size + (v3.size)) left) := by
  rw [laws_szArg_0_ev, laws_szArg_0_eq]
  rw [wrap_id (n := left - (v0.size : Int)) (by omega)]
  by_cases c0 : ((v0.size : Nat) : Int) ≤ left
  case neg => rw [decide_eq_true (by omega), cond_true]; try exact szNo (by omega)
  rw [decide_eq_false (by omega), cond_false]
  rw [szValue_ev q3 (left - ((v0.size : Nat) : Int)) (by omega) (by omega), bI]
  by_cases c1 : (((v3.size) : Nat) : Int) ≤ left - ((v0.size : Nat) : Int)
  case neg => rw [szV_neg c1, decide_eq_true (by omega), cond_true]; try exact szNo (by omega)
  rw [szV_pos c1, decide_eq_false (by omega), cond_false]
  try exact szYes (by omega) (by omega)
theorem szArgS_ev : ∀ (es : List (List Pd)), es.length ≤ 9223372036854775807 → wfEs T0 ckArg es → ∀ left : Int, 0 ≤ left → left ≤ 1048576 → ev E0 F_laws_szArgS [.p (.sl 4 es), .p (.int .i64 left)] [] = rI (szV (es.length + wEs es) left) := by
  intro es hl hw left l0 l1
  rw [laws_szArgS_0_ev, laws_szArgS_0_eq]
  refine sz_row (L := fun left i => laws_szArgS_1 es left i) hl l0 l1 (fun i x hx left l0 l1 => ?_) (fun left => ?_)
  · have hi := lt_of_get hx
    obtain ⟨v0, v1, v2, v3, rfl, q0, q3⟩ := decArg (wfEs_get hw hx)
    have hm : [.str v0, .int .i64 v1, .int .i64 v2, .str v3] ∈ es := List.mem_of_getElem? hx
    show laws_szArgS_1 es left i = _
    have hW : wC [.str v0, .int .i64 v1, .int .i64 v2, .str v3] = v0.size + v3.size := by simp only [wC, wP]; omega
    rw [laws_szArgS_1_eq, hW]
    exact szStep hi hl (by rw [getD_of hx]; exact szArg_ev q0 q3 left l0 l1) l0 (fun left i => laws_szArgS_1 es left i)
  · show laws_szArgS_1 es left es.length = _
    rw [laws_szArgS_1_eq]; exact szDone
theorem szDir_ev {v0 : Bool} {v1 : Int} {v2 : Int} {v3 : ByteArray} (q3 : v3.size ≤ 9223372036854775807) (left : Int) (l0 : 0 ≤ left) (l1 : left ≤ 1048576) : ev E0 F_laws_szDir [.p (.agg 4 [.bool v0, .int .i64 v1, .int .i64 v2, .str v3]), .p (.int .i64 left)] [] = rI (szV ((v3.size)) left) := by
  rw [laws_szDir_0_ev, laws_szDir_0_eq]
  rw [szValue_ev q3 (left) (by omega) (by omega), bI]
  by_cases c0 : (((v3.size) : Nat) : Int) ≤ left
  case neg => rw [szV_neg c0, decide_eq_true (by omega), cond_true]; try exact szNo (by omega)
  rw [szV_pos c0, decide_eq_false (by omega), cond_false]
  try exact szYes (by omega) (by omega)
theorem szDirS_ev : ∀ (es : List (List Pd)), es.length ≤ 9223372036854775807 → wfEs T0 ckDir es → ∀ left : Int, 0 ≤ left → left ≤ 1048576 → ev E0 F_laws_szDirS [.p (.sl 4 es), .p (.int .i64 left)] [] = rI (szV (es.length + wEs es) left) := by
  intro es hl hw left l0 l1
  rw [laws_szDirS_0_ev, laws_szDirS_0_eq]
  refine sz_row (L := fun left i => laws_szDirS_1 es left i) hl l0 l1 (fun i x hx left l0 l1 => ?_) (fun left => ?_)
  · have hi := lt_of_get hx
    obtain ⟨v0, v1, v2, v3, rfl, q3⟩ := decDir (wfEs_get hw hx)
    have hm : [.bool v0, .int .i64 v1, .int .i64 v2, .str v3] ∈ es := List.mem_of_getElem? hx
    show laws_szDirS_1 es left i = _
    have hW : wC [.bool v0, .int .i64 v1, .int .i64 v2, .str v3] = v3.size := by simp only [wC, wP]; omega
    rw [laws_szDirS_1_eq, hW]
    exact szStep hi hl (by rw [getD_of hx]; exact szDir_ev q3 left l0 l1) l0 (fun left i => laws_szDirS_1 es left i)
  · show laws_szDirS_1 es left es.length = _
    rw [laws_szDirS_1_eq]; exact szDone
theorem szSel_ev {v0 : Int} {v1 : ByteArray} {v2 : ByteArray} {v3 : List (List Pd)} {v4 : List (List Pd)} {v5 : List (List Pd)} (q1 : v1.size ≤ 9223372036854775807) (q2 : v2.size ≤ 9223372036854775807) (g3 : ∀ left : Int, 0 ≤ left → left ≤ 1048576 → ev E0 F_laws_szArgS [.p (.sl 4 v3), .p (.int .i64 left)] [] = rI (szV (v3.length + wEs v3) left)) (g4 : ∀ left : Int, 0 ≤ left → left ≤ 1048576 → ev E0 F_laws_szDirS [.p (.sl 4 v4), .p (.int .i64 left)] [] = rI (szV (v4.length + wEs v4) left)) (g5 : ∀ left : Int, 0 ≤ left → left ≤ 1048576 → ev E0 F_laws_szSelS [.p (.sl 6 v5), .p (.int .i64 left)] [] = rI (szV (v5.length + wEs v5) left)) (left : Int) (l0 : 0 ≤ left) (l1 : left ≤ 1048576) : ev E0 F_laws_szSel [.p (.agg 6 [.int .i64 v0, .str v1, .str v2, .sl 4 v3, .sl 4 v4, .sl 6 v5]), .p (.int .i64 left)] [] = rI (szV (v1.size + v2.size + (v3.length + wEs v3) + (v4.length + wEs v4) + (v5.length + wEs v5)) left) := by
  rw [laws_szSel_0_ev, laws_szSel_0_eq]
  rw [wrap_id (n := left - (v1.size : Int)) (by omega)]
  by_cases c0 : ((v1.size : Nat) : Int) ≤ left
  case neg => rw [decide_eq_true (by omega), cond_true]; try exact szNo (by omega)
  rw [decide_eq_false (by omega), cond_false]
  rw [wrap_id (n := left - ((v1.size : Nat) : Int) - (v2.size : Int)) (by omega)]
  by_cases c1 : ((v2.size : Nat) : Int) ≤ left - ((v1.size : Nat) : Int)
  case neg => rw [decide_eq_true (by omega), cond_true]; try exact szNo (by omega)
  rw [decide_eq_false (by omega), cond_false]
  rw [g3 (left - ((v1.size : Nat) : Int) - ((v2.size : Nat) : Int)) (by omega) (by omega), bI]
  by_cases c2 : (((v3.length + wEs v3) : Nat) : Int) ≤ left - ((v1.size : Nat) : Int) - ((v2.size : Nat) : Int)
  case neg => rw [szV_neg c2, decide_eq_true (by omega), cond_true]; try exact szNo (by omega)
  rw [szV_pos c2, decide_eq_false (by omega), cond_false]
  rw [g4 (left - ((v1.size : Nat) : Int) - ((v2.size : Nat) : Int) - (((v3.length + wEs v3) : Nat) : Int)) (by omega) (by omega), bI]
  by_cases c3 : (((v4.length + wEs v4) : Nat) : Int) ≤ left - ((v1.size : Nat) : Int) - ((v2.size : Nat) : Int) - (((v3.length + wEs v3) : Nat) : Int)
  case neg => rw [szV_neg c3, decide_eq_true (by omega), cond_true]; try exact szNo (by omega)
  rw [szV_pos c3, decide_eq_false (by omega), cond_false]
  rw [g5 (left - ((v1.size : Nat) : Int) - ((v2.size : Nat) : Int) - (((v3.length + wEs v3) : Nat) : Int) - (((v4.length + wEs v4) : Nat) : Int)) (by omega) (by omega), bI]
  by_cases c4 : (((v5.length + wEs v5) : Nat) : Int) ≤ left - ((v1.size : Nat) : Int) - ((v2.size : Nat) : Int) - (((v3.length + wEs v3) : Nat) : Int) - (((v4.length + wEs v4) : Nat) : Int)
  case neg => rw [szV_neg c4, decide_eq_true (by omega), cond_true]; try exact szNo (by omega)
  rw [szV_pos c4, decide_eq_false (by omega), cond_false]
  try exact szYes (by omega) (by omega)
theorem szSelS_ev : ∀ (es : List (List Pd)), es.length ≤ 9223372036854775807 → wfEs T0 ckSel es → ∀ left : Int, 0 ≤ left → left ≤ 1048576 → ev E0 F_laws_szSelS [.p (.sl 6 es), .p (.int .i64 left)] [] = rI (szV (es.length + wEs es) left) := by
  refine row_ind (cs := []) fun es ih hl hw left l0 l1 => ?_
  rw [laws_szSelS_0_ev, laws_szSelS_0_eq]
  refine sz_row (L := fun left i => laws_szSelS_1 es left i) hl l0 l1 (fun i x hx left l0 l1 => ?_) (fun left => ?_)
  · have hi := lt_of_get hx
    obtain ⟨v0, v1, v2, v3, v4, v5, rfl, q1, q2, q3, w3, q4, w4, q5, w5⟩ := decSel (wfEs_get hw hx)
    have hm : [.int .i64 v0, .str v1, .str v2, .sl 4 v3, .sl 4 v4, .sl 6 v5] ∈ es := List.mem_of_getElem? hx
    show laws_szSelS_1 es left i = _
    have hW : wC [.int .i64 v0, .str v1, .str v2, .sl 4 v3, .sl 4 v4, .sl 6 v5] = v1.size + v2.size + (v3.length + wEs v3) + (v4.length + wEs v4) + (v5.length + wEs v5) := by simp only [wC, wP]; omega
    rw [laws_szSelS_1_eq, hW]
    exact szStep hi hl (by rw [getD_of hx]; exact szSel_ev q1 q2 (szArgS_ev v3 q3 w3) (szDirS_ev v4 q4 w4) (ih _ hm 6 v5 (by simp) q5 w5) left l0 l1) l0 (fun left i => laws_szSelS_1 es left i)
  · show laws_szSelS_1 es left es.length = _
    rw [laws_szSelS_1_eq]; exact szDone
theorem szDef_ev {v0 : Int} {v1 : ByteArray} {v2 : ByteArray} {v3 : List (List Pd)} (q1 : v1.size ≤ 9223372036854775807) (q2 : v2.size ≤ 9223372036854775807) (g3 : ∀ left : Int, 0 ≤ left → left ≤ 1048576 → ev E0 F_laws_szSelS [.p (.sl 6 v3), .p (.int .i64 left)] [] = rI (szV (v3.length + wEs v3) left)) (left : Int) (l0 : 0 ≤ left) (l1 : left ≤ 1048576) : ev E0 F_laws_szDef [.p (.agg 4 [.int .i64 v0, .str v1, .str v2, .sl 6 v3]), .p (.int .i64 left)] [] = rI (szV (v1.size + v2.size + (v3.length + wEs v3)) left) := by
  rw [laws_szDef_0_ev, laws_szDef_0_eq]
  rw [wrap_id (n := left - (v1.size : Int)) (by omega)]
  by_cases c0 : ((v1.size : Nat) : Int) ≤ left
  case neg => rw [decide_eq_true (by omega), cond_true]; try exact szNo (by omega)
  rw [decide_eq_false (by omega), cond_false]
  rw [wrap_id (n := left - ((v1.size : Nat) : Int) - (v2.size : Int)) (by omega)]
  by_cases c1 : ((v2.size : Nat) : Int) ≤ left - ((v1.size : Nat) : Int)
  case neg => rw [decide_eq_true (by omega), cond_true]; try exact szNo (by omega)
  rw [decide_eq_false (by omega), cond_false]
  rw [g3 (left - ((v1.size : Nat) : Int) - ((v2.size : Nat) : Int)) (by omega) (by omega), bI]
  by_cases c2 : (((v3.length + wEs v3) : Nat) : Int) ≤ left - ((v1.size : Nat) : Int) - ((v2.size : Nat) : Int)
  case neg => rw [szV_neg c2, decide_eq_true (by omega), cond_true]; try exact szNo (by omega)
  rw [szV_pos c2, decide_eq_false (by omega), cond_false]
  try exact szYes (by omega) (by omega)
theorem szDefS_ev : ∀ (es : List (List Pd)), es.length ≤ 9223372036854775807 → wfEs T0 ckDef es → ∀ left : Int, 0 ≤ left → left ≤ 1048576 → ev E0 F_laws_szDefS [.p (.sl 4 es), .p (.int .i64 left)] [] = rI (szV (es.length + wEs es) left) := by
  intro es hl hw left l0 l1
  rw [laws_szDefS_0_ev, laws_szDefS_0_eq]
  refine sz_row (L := fun left i => laws_szDefS_1 es left i) hl l0 l1 (fun i x hx left l0 l1 => ?_) (fun left => ?_)
  · have hi := lt_of_get hx
    obtain ⟨v0, v1, v2, v3, rfl, q1, q2, q3, w3⟩ := decDef (wfEs_get hw hx)
    have hm : [.int .i64 v0, .str v1, .str v2, .sl 6 v3] ∈ es := List.mem_of_getElem? hx
    show laws_szDefS_1 es left i = _
    have hW : wC [.int .i64 v0, .str v1, .str v2, .sl 6 v3] = v1.size + v2.size + (v3.length + wEs v3) := by simp only [wC, wP]; omega
    rw [laws_szDefS_1_eq, hW]
    exact szStep hi hl (by rw [getD_of hx]; exact szDef_ev q1 q2 (szSelS_ev v3 q3 w3) left l0 l1) l0 (fun left i => laws_szDefS_1 es left i)
  · show laws_szDefS_1 es left es.length = _
    rw [laws_szDefS_1_eq]; exact szDone
theorem szPutS_ev : ∀ (es : List (List Pd)), es.length ≤ 9223372036854775807 → wfEs T0 ckPut es → ∀ left : Int, 0 ≤ left → left ≤ 1048576 → ev E0 F_laws_szPutS [.p (.sl 2 es), .p (.int .i64 left)] [] = rI (szV (es.length + wEs es) left) := by
  intro es hl hw left l0 l1
  rw [laws_szPutS_0_ev, laws_szPutS_0_eq]
  have hz : wEs es = 0 := by
    clear hl
    induction es with
    | nil => rw [wEs]
    | cons x es ih =>
      rw [wfEs] at hw
      obtain ⟨v0, v1, rfl⟩ := decPut hw.1
      rw [wEs, ih hw.2]
      simp [wC, wP]
  rw [hz, Nat.add_zero, wrap_id (by omega)]
  by_cases c : (es.length : Int) ≤ left
  · rw [decide_eq_false (by omega), cond_false]; exact szYes c rfl
  · rw [decide_eq_true (by omega), cond_true]; try exact szNo (by omega)
theorem szOut_ev {v0 : Int} {v1 : Int} {v2 : ByteArray} {v3 : List (List Pd)} {v4 : List (List Pd)} (q2 : v2.size ≤ 9223372036854775807) (g3 : ∀ left : Int, 0 ≤ left → left ≤ 1048576 → ev E0 F_laws_szStringS [.p (.sl 1 v3), .p (.int .i64 left)] [] = rI (szV (v3.length + wEs v3) left)) (g4 : ∀ left : Int, 0 ≤ left → left ≤ 1048576 → ev E0 F_laws_szOutS [.p (.sl 5 v4), .p (.int .i64 left)] [] = rI (szV (v4.length + wEs v4) left)) (left : Int) (l0 : 0 ≤ left) (l1 : left ≤ 1048576) : ev E0 F_laws_szOut [.p (.agg 5 [.int .i64 v0, .int .i64 v1, .str v2, .sl 1 v3, .sl 5 v4]), .p (.int .i64 left)] [] = rI (szV (v2.size + (v3.length + wEs v3) + (v4.length + wEs v4)) left) := by
  rw [laws_szOut_0_ev, laws_szOut_0_eq]
  rw [wrap_id (n := left - (v2.size : Int)) (by omega)]
  by_cases c0 : ((v2.size : Nat) : Int) ≤ left
  case neg => rw [decide_eq_true (by omega), cond_true]; try exact szNo (by omega)
  rw [decide_eq_false (by omega), cond_false]
  rw [g3 (left - ((v2.size : Nat) : Int)) (by omega) (by omega), bI]
  by_cases c1 : (((v3.length + wEs v3) : Nat) : Int) ≤ left - ((v2.size : Nat) : Int)
  case neg => rw [szV_neg c1, decide_eq_true (by omega), cond_true]; try exact szNo (by omega)
  rw [szV_pos c1, decide_eq_false (by omega), cond_false]
  rw [g4 (left - ((v2.size : Nat) : Int) - (((v3.length + wEs v3) : Nat) : Int)) (by omega) (by omega), bI]
  by_cases c2 : (((v4.length + wEs v4) : Nat) : Int) ≤ left - ((v2.size : Nat) : Int) - (((v3.length + wEs v3) : Nat) : Int)
  case neg => rw [szV_neg c2, decide_eq_true (by omega), cond_true]; try exact szNo (by omega)
  rw [szV_pos c2, decide_eq_false (by omega), cond_false]
  try exact szYes (by omega) (by omega)
theorem szOutS_ev : ∀ (es : List (List Pd)), es.length ≤ 9223372036854775807 → wfEs T0 ckOut es → ∀ left : Int, 0 ≤ left → left ≤ 1048576 → ev E0 F_laws_szOutS [.p (.sl 5 es), .p (.int .i64 left)] [] = rI (szV (es.length + wEs es) left) := by
  refine row_ind (cs := []) fun es ih hl hw left l0 l1 => ?_
  rw [laws_szOutS_0_ev, laws_szOutS_0_eq]
  refine sz_row (L := fun left i => laws_szOutS_1 es left i) hl l0 l1 (fun i x hx left l0 l1 => ?_) (fun left => ?_)
  · have hi := lt_of_get hx
    obtain ⟨v0, v1, v2, v3, v4, rfl, q2, q3, w3, q4, w4⟩ := decOut (wfEs_get hw hx)
    have hm : [.int .i64 v0, .int .i64 v1, .str v2, .sl 1 v3, .sl 5 v4] ∈ es := List.mem_of_getElem? hx
    show laws_szOutS_1 es left i = _
    have hW : wC [.int .i64 v0, .int .i64 v1, .str v2, .sl 1 v3, .sl 5 v4] = v2.size + (v3.length + wEs v3) + (v4.length + wEs v4) := by simp only [wC, wP]; omega
    rw [laws_szOutS_1_eq, hW]
    exact szStep hi hl (by rw [getD_of hx]; exact szOut_ev q2 (szStringS_ev v3 q3 w3) (ih _ hm 5 v4 (by simp) q4 w4) left l0 l1) l0 (fun left i => laws_szOutS_1 es left i)
  · show laws_szOutS_1 es left es.length = _
    rw [laws_szOutS_1_eq]; exact szDone
theorem szDoc_ev {v0 : List (List Pd)} (g0 : ∀ left : Int, 0 ≤ left → left ≤ 1048576 → ev E0 F_laws_szDefS [.p (.sl 4 v0), .p (.int .i64 left)] [] = rI (szV (v0.length + wEs v0) left)) (left : Int) (l0 : 0 ≤ left) (l1 : left ≤ 1048576) : ev E0 F_laws_szDoc [.p (.agg 1 [.sl 4 v0]), .p (.int .i64 left)] [] = rI (szV ((v0.length + wEs v0)) left) := by
  rw [laws_szDoc_0_ev, laws_szDoc_0_eq]
  rw [g0 (left) (by omega) (by omega), bI]
  by_cases c0 : (((v0.length + wEs v0) : Nat) : Int) ≤ left
  case neg => rw [szV_neg c0, decide_eq_true (by omega), cond_true]; try exact szNo (by omega)
  rw [szV_pos c0, decide_eq_false (by omega), cond_false]
  try exact szYes (by omega) (by omega)
theorem szRun_ev {v0 : Int} {v1 : List (List Pd)} {v2 : List (List Pd)} {v3 : Int} {v4 : Int} {v5 : ByteArray} {v6 : List (List Pd)} {v7 : List (List Pd)} {v8 : List (List Pd)} (q5 : v5.size ≤ 9223372036854775807) (g1 : ∀ left : Int, 0 ≤ left → left ≤ 1048576 → ev E0 F_laws_szIntS [.p (.sl 1 v1), .p (.int .i64 left)] [] = rI (szV (v1.length + wEs v1) left)) (g2 : ∀ left : Int, 0 ≤ left → left ≤ 1048576 → ev E0 F_laws_szPutS [.p (.sl 2 v2), .p (.int .i64 left)] [] = rI (szV (v2.length + wEs v2) left)) (g6 : ∀ left : Int, 0 ≤ left → left ≤ 1048576 → ev E0 F_laws_szStringS [.p (.sl 1 v6), .p (.int .i64 left)] [] = rI (szV (v6.length + wEs v6) left)) (g7 : ∀ left : Int, 0 ≤ left → left ≤ 1048576 → ev E0 F_laws_szOutS [.p (.sl 5 v7), .p (.int .i64 left)] [] = rI (szV (v7.length + wEs v7) left)) (g8 : ∀ left : Int, 0 ≤ left → left ≤ 1048576 → ev E0 F_laws_szStringS [.p (.sl 1 v8), .p (.int .i64 left)] [] = rI (szV (v8.length + wEs v8) left)) (left : Int) (l0 : 0 ≤ left) (l1 : left ≤ 1048576) : ev E0 F_laws_szRun [.p (.agg 9 [.int .i64 v0, .sl 1 v1, .sl 2 v2, .int .i64 v3, .int .i64 v4, .str v5, .sl 1 v6, .sl 5 v7, .sl 1 v8]), .p (.int .i64 left)] [] = rI (szV ((v1.length + wEs v1) + (v2.length + wEs v2) + (v5.size + (v6.length + wEs v6) + (v7.length + wEs v7)) + (v8.length + wEs v8)) left) := by
  rw [laws_szRun_0_ev, laws_szRun_0_eq]
  rw [g1 (left) (by omega) (by omega), bI]
  by_cases c0 : (((v1.length + wEs v1) : Nat) : Int) ≤ left
  case neg => rw [szV_neg c0, decide_eq_true (by omega), cond_true]; try exact szNo (by omega)
  rw [szV_pos c0, decide_eq_false (by omega), cond_false]
  rw [g2 (left - (((v1.length + wEs v1) : Nat) : Int)) (by omega) (by omega), bI]
  by_cases c1 : (((v2.length + wEs v2) : Nat) : Int) ≤ left - (((v1.length + wEs v1) : Nat) : Int)
  case neg => rw [szV_neg c1, decide_eq_true (by omega), cond_true]; try exact szNo (by omega)
  rw [szV_pos c1, decide_eq_false (by omega), cond_false]
  rw [szOut_ev q5 g6 g7 (left - (((v1.length + wEs v1) : Nat) : Int) - (((v2.length + wEs v2) : Nat) : Int)) (by omega) (by omega), bI]
  by_cases c2 : (((v5.size + (v6.length + wEs v6) + (v7.length + wEs v7)) : Nat) : Int) ≤ left - (((v1.length + wEs v1) : Nat) : Int) - (((v2.length + wEs v2) : Nat) : Int)
  case neg => rw [szV_neg c2, decide_eq_true (by omega), cond_true]; try exact szNo (by omega)
  rw [szV_pos c2, decide_eq_false (by omega), cond_false]
  rw [g8 (left - (((v1.length + wEs v1) : Nat) : Int) - (((v2.length + wEs v2) : Nat) : Int) - (((v5.size + (v6.length + wEs v6) + (v7.length + wEs v7)) : Nat) : Int)) (by omega) (by omega), bI]
  by_cases c3 : (((v8.length + wEs v8) : Nat) : Int) ≤ left - (((v1.length + wEs v1) : Nat) : Int) - (((v2.length + wEs v2) : Nat) : Int) - (((v5.size + (v6.length + wEs v6) + (v7.length + wEs v7)) : Nat) : Int)
  case neg => rw [szV_neg c3, decide_eq_true (by omega), cond_true]; try exact szNo (by omega)
  rw [szV_pos c3, decide_eq_false (by omega), cond_false]
  try exact szYes (by omega) (by omega)
theorem eqStringS_ev : ∀ (es : List (List Pd)), es.length ≤ 9223372036854775807 → wfEs T0 ckString es → ev E0 F_laws_eqStringS [.p (.sl 1 es), .p (.sl 1 es)] [] = rB true := by
  intro es hl hw
  rw [laws_eqStringS_0_ev, laws_eqStringS_0_eq, ne_self, cond_false]
  refine eqLoop (L := fun i => laws_eqStringS_1 es es i) (n := es.length) (fun i hi => ?_) (by show laws_eqStringS_1 es es es.length = _; rw [laws_eqStringS_1_eq]; exact szDone) es.length 0 (by omega)
  have hx : es[i]? = some es[i] := List.getElem?_eq_getElem hi
  generalize es[i] = x at hx
  obtain ⟨v0, rfl, q0⟩ := decString (wfEs_get hw hx)
  have hm : [.str v0] ∈ es := List.mem_of_getElem? hx
  show laws_eqStringS_1 es es i = _
  have e1 : asStr ((([.str v0] : List Pd)).getD 0 .undef) = some v0 := rfl
  rw [laws_eqStringS_1_eq, decide_eq_true (by omega), cond_true, if_pos (by omega), getD_of hx, e1, Option.bind_some, if_pos (by omega), Option.bind_some, nd_self, cond_false, wrap_id (by omega)]
theorem eqIntS_ev : ∀ (es : List (List Pd)), es.length ≤ 9223372036854775807 → wfEs T0 ckInt es → ev E0 F_laws_eqIntS [.p (.sl 1 es), .p (.sl 1 es)] [] = rB true := by
  intro es hl hw
  rw [laws_eqIntS_0_ev, laws_eqIntS_0_eq, ne_self, cond_false]
  refine eqLoop (L := fun i => laws_eqIntS_1 es es i) (n := es.length) (fun i hi => ?_) (by show laws_eqIntS_1 es es es.length = _; rw [laws_eqIntS_1_eq]; exact szDone) es.length 0 (by omega)
  have hx : es[i]? = some es[i] := List.getElem?_eq_getElem hi
  generalize es[i] = x at hx
  obtain ⟨v0, rfl⟩ := decInt (wfEs_get hw hx)
  have hm : [.int .i64 v0] ∈ es := List.mem_of_getElem? hx
  show laws_eqIntS_1 es es i = _
  have e1 : asInt .i64 ((([.int .i64 v0] : List Pd)).getD 0 .undef) = some v0 := asI v0
  rw [laws_eqIntS_1_eq, decide_eq_true (by omega), cond_true, if_pos (by omega), getD_of hx, e1, Option.bind_some, if_pos (by omega), Option.bind_some, ne_self, cond_false, wrap_id (by omega)]
theorem eqValue_ev {v0 : Int} {v1 : Int} {v2 : ByteArray} : ev E0 F_laws_eqValue [.p (.agg 3 [.int .i64 v0, .int .i64 v1, .str v2]), .p (.agg 3 [.int .i64 v0, .int .i64 v1, .str v2])] [] = rB true := by
  rw [laws_eqValue_0_ev, laws_eqValue_0_eq]
  rw [ne_self v0, cond_false]
  rw [ne_self v1, cond_false]
  rw [nd_self v2, cond_false]
theorem eqArg_ev {v0 : ByteArray} {v1 : Int} {v2 : Int} {v3 : ByteArray} : ev E0 F_laws_eqArg [.p (.agg 4 [.str v0, .int .i64 v1, .int .i64 v2, .str v3]), .p (.agg 4 [.str v0, .int .i64 v1, .int .i64 v2, .str v3])] [] = rB true := by
  rw [laws_eqArg_0_ev, laws_eqArg_0_eq]
  rw [nd_self v0, cond_false]
  rw [eqValue_ev, bB, Bool.not_true, cond_false]
theorem eqArgS_ev : ∀ (es : List (List Pd)), es.length ≤ 9223372036854775807 → wfEs T0 ckArg es → ev E0 F_laws_eqArgS [.p (.sl 4 es), .p (.sl 4 es)] [] = rB true := by
  intro es hl hw
  rw [laws_eqArgS_0_ev, laws_eqArgS_0_eq, ne_self, cond_false]
  refine eqLoop (L := fun i => laws_eqArgS_1 es es i) (n := es.length) (fun i hi => ?_) (by show laws_eqArgS_1 es es es.length = _; rw [laws_eqArgS_1_eq]; exact szDone) es.length 0 (by omega)
  have hx : es[i]? = some es[i] := List.getElem?_eq_getElem hi
  generalize es[i] = x at hx
  obtain ⟨v0, v1, v2, v3, rfl, q0, q3⟩ := decArg (wfEs_get hw hx)
  have hm : [.str v0, .int .i64 v1, .int .i64 v2, .str v3] ∈ es := List.mem_of_getElem? hx
  show laws_eqArgS_1 es es i = _
  rw [laws_eqArgS_1_eq]
  exact eqStep hi hl (by rw [getD_of hx]; exact eqArg_ev ) (fun i => laws_eqArgS_1 es es i)
theorem eqDir_ev {v0 : Bool} {v1 : Int} {v2 : Int} {v3 : ByteArray} : ev E0 F_laws_eqDir [.p (.agg 4 [.bool v0, .int .i64 v1, .int .i64 v2, .str v3]), .p (.agg 4 [.bool v0, .int .i64 v1, .int .i64 v2, .str v3])] [] = rB true := by
  rw [laws_eqDir_0_ev, laws_eqDir_0_eq]
  rw [nb_self v0, cond_false]
  rw [eqValue_ev, bB, Bool.not_true, cond_false]
theorem eqDirS_ev : ∀ (es : List (List Pd)), es.length ≤ 9223372036854775807 → wfEs T0 ckDir es → ev E0 F_laws_eqDirS [.p (.sl 4 es), .p (.sl 4 es)] [] = rB true := by
  intro es hl hw
  rw [laws_eqDirS_0_ev, laws_eqDirS_0_eq, ne_self, cond_false]
  refine eqLoop (L := fun i => laws_eqDirS_1 es es i) (n := es.length) (fun i hi => ?_) (by show laws_eqDirS_1 es es es.length = _; rw [laws_eqDirS_1_eq]; exact szDone) es.length 0 (by omega)
  have hx : es[i]? = some es[i] := List.getElem?_eq_getElem hi
  generalize es[i] = x at hx
  obtain ⟨v0, v1, v2, v3, rfl, q3⟩ := decDir (wfEs_get hw hx)
  have hm : [.bool v0, .int .i64 v1, .int .i64 v2, .str v3] ∈ es := List.mem_of_getElem? hx
  show laws_eqDirS_1 es es i = _
  rw [laws_eqDirS_1_eq]
  exact eqStep hi hl (by rw [getD_of hx]; exact eqDir_ev ) (fun i => laws_eqDirS_1 es es i)
theorem eqSel_ev {v0 : Int} {v1 : ByteArray} {v2 : ByteArray} {v3 : List (List Pd)} {v4 : List (List Pd)} {v5 : List (List Pd)} (g3 : ev E0 F_laws_eqArgS [.p (.sl 4 v3), .p (.sl 4 v3)] [] = rB true) (g4 : ev E0 F_laws_eqDirS [.p (.sl 4 v4), .p (.sl 4 v4)] [] = rB true) (g5 : ev E0 F_laws_eqSelS [.p (.sl 6 v5), .p (.sl 6 v5)] [] = rB true) : ev E0 F_laws_eqSel [.p (.agg 6 [.int .i64 v0, .str v1, .str v2, .sl 4 v3, .sl 4 v4, .sl 6 v5]), .p (.agg 6 [.int .i64 v0, .str v1, .str v2, .sl 4 v3, .sl 4 v4, .sl 6 v5])] [] = rB true := by
  rw [laws_eqSel_0_ev, laws_eqSel_0_eq]
  rw [ne_self v0, cond_false]
  rw [nd_self v1, cond_false]
  rw [nd_self v2, cond_false]
  rw [g3, bB, Bool.not_true, cond_false]
  rw [g4, bB, Bool.not_true, cond_false]
  rw [g5, bB, Bool.not_true, cond_false]
theorem eqSelS_ev : ∀ (es : List (List Pd)), es.length ≤ 9223372036854775807 → wfEs T0 ckSel es → ev E0 F_laws_eqSelS [.p (.sl 6 es), .p (.sl 6 es)] [] = rB true := by
  refine row_ind (cs := []) fun es ih hl hw => ?_
  rw [laws_eqSelS_0_ev, laws_eqSelS_0_eq, ne_self, cond_false]
  refine eqLoop (L := fun i => laws_eqSelS_1 es es i) (n := es.length) (fun i hi => ?_) (by show laws_eqSelS_1 es es es.length = _; rw [laws_eqSelS_1_eq]; exact szDone) es.length 0 (by omega)
  have hx : es[i]? = some es[i] := List.getElem?_eq_getElem hi
  generalize es[i] = x at hx
  obtain ⟨v0, v1, v2, v3, v4, v5, rfl, q1, q2, q3, w3, q4, w4, q5, w5⟩ := decSel (wfEs_get hw hx)
  have hm : [.int .i64 v0, .str v1, .str v2, .sl 4 v3, .sl 4 v4, .sl 6 v5] ∈ es := List.mem_of_getElem? hx
  show laws_eqSelS_1 es es i = _
  rw [laws_eqSelS_1_eq]
  exact eqStep hi hl (by rw [getD_of hx]; exact eqSel_ev (eqArgS_ev v3 q3 w3) (eqDirS_ev v4 q4 w4) (ih _ hm 6 v5 (by simp) q5 w5)) (fun i => laws_eqSelS_1 es es i)
theorem eqDef_ev {v0 : Int} {v1 : ByteArray} {v2 : ByteArray} {v3 : List (List Pd)} (g3 : ev E0 F_laws_eqSelS [.p (.sl 6 v3), .p (.sl 6 v3)] [] = rB true) : ev E0 F_laws_eqDef [.p (.agg 4 [.int .i64 v0, .str v1, .str v2, .sl 6 v3]), .p (.agg 4 [.int .i64 v0, .str v1, .str v2, .sl 6 v3])] [] = rB true := by
  rw [laws_eqDef_0_ev, laws_eqDef_0_eq]
  rw [ne_self v0, cond_false]
  rw [nd_self v1, cond_false]
  rw [nd_self v2, cond_false]
  rw [g3, bB, Bool.not_true, cond_false]
theorem eqDefS_ev : ∀ (es : List (List Pd)), es.length ≤ 9223372036854775807 → wfEs T0 ckDef es → ev E0 F_laws_eqDefS [.p (.sl 4 es), .p (.sl 4 es)] [] = rB true := by
  intro es hl hw
  rw [laws_eqDefS_0_ev, laws_eqDefS_0_eq, ne_self, cond_false]
  refine eqLoop (L := fun i => laws_eqDefS_1 es es i) (n := es.length) (fun i hi => ?_) (by show laws_eqDefS_1 es es es.length = _; rw [laws_eqDefS_1_eq]; exact szDone) es.length 0 (by omega)
  have hx : es[i]? = some es[i] := List.getElem?_eq_getElem hi
  generalize es[i] = x at hx
  obtain ⟨v0, v1, v2, v3, rfl, q1, q2, q3, w3⟩ := decDef (wfEs_get hw hx)
  have hm : [.int .i64 v0, .str v1, .str v2, .sl 6 v3] ∈ es := List.mem_of_getElem? hx
  show laws_eqDefS_1 es es i = _
  rw [laws_eqDefS_1_eq]
  exact eqStep hi hl (by rw [getD_of hx]; exact eqDef_ev (eqSelS_ev v3 q3 w3)) (fun i => laws_eqDefS_1 es es i)
theorem eqPut_ev {v0 : Int} {v1 : Int} : ev E0 F_laws_eqPut [.p (.agg 2 [.int .i64 v0, .int .i64 v1]), .p (.agg 2 [.int .i64 v0, .int .i64 v1])] [] = rB true := by
  rw [laws_eqPut_0_ev, laws_eqPut_0_eq]
  rw [ne_self v0, cond_false]
  rw [ne_self v1, cond_false]
theorem eqPutS_ev : ∀ (es : List (List Pd)), es.length ≤ 9223372036854775807 → wfEs T0 ckPut es → ev E0 F_laws_eqPutS [.p (.sl 2 es), .p (.sl 2 es)] [] = rB true := by
  intro es hl hw
  rw [laws_eqPutS_0_ev, laws_eqPutS_0_eq, ne_self, cond_false]
  refine eqLoop (L := fun i => laws_eqPutS_1 es es i) (n := es.length) (fun i hi => ?_) (by show laws_eqPutS_1 es es es.length = _; rw [laws_eqPutS_1_eq]; exact szDone) es.length 0 (by omega)
  have hx : es[i]? = some es[i] := List.getElem?_eq_getElem hi
  generalize es[i] = x at hx
  obtain ⟨v0, v1, rfl⟩ := decPut (wfEs_get hw hx)
  have hm : [.int .i64 v0, .int .i64 v1] ∈ es := List.mem_of_getElem? hx
  show laws_eqPutS_1 es es i = _
  rw [laws_eqPutS_1_eq]
  exact eqStep hi hl (by rw [getD_of hx]; exact eqPut_ev ) (fun i => laws_eqPutS_1 es es i)
theorem eqOut_ev {v0 : Int} {v1 : Int} {v2 : ByteArray} {v3 : List (List Pd)} {v4 : List (List Pd)} (g3 : ev E0 F_laws_eqStringS [.p (.sl 1 v3), .p (.sl 1 v3)] [] = rB true) (g4 : ev E0 F_laws_eqOutS [.p (.sl 5 v4), .p (.sl 5 v4)] [] = rB true) : ev E0 F_laws_eqOut [.p (.agg 5 [.int .i64 v0, .int .i64 v1, .str v2, .sl 1 v3, .sl 5 v4]), .p (.agg 5 [.int .i64 v0, .int .i64 v1, .str v2, .sl 1 v3, .sl 5 v4])] [] = rB true := by
  rw [laws_eqOut_0_ev, laws_eqOut_0_eq]
  rw [ne_self v0, cond_false]
  rw [ne_self v1, cond_false]
  rw [nd_self v2, cond_false]
  rw [g3, bB, Bool.not_true, cond_false]
  rw [g4, bB, Bool.not_true, cond_false]
theorem eqOutS_ev : ∀ (es : List (List Pd)), es.length ≤ 9223372036854775807 → wfEs T0 ckOut es → ev E0 F_laws_eqOutS [.p (.sl 5 es), .p (.sl 5 es)] [] = rB true := by
  refine row_ind (cs := []) fun es ih hl hw => ?_
  rw [laws_eqOutS_0_ev, laws_eqOutS_0_eq, ne_self, cond_false]
  refine eqLoop (L := fun i => laws_eqOutS_1 es es i) (n := es.length) (fun i hi => ?_) (by show laws_eqOutS_1 es es es.length = _; rw [laws_eqOutS_1_eq]; exact szDone) es.length 0 (by omega)
  have hx : es[i]? = some es[i] := List.getElem?_eq_getElem hi
  generalize es[i] = x at hx
  obtain ⟨v0, v1, v2, v3, v4, rfl, q2, q3, w3, q4, w4⟩ := decOut (wfEs_get hw hx)
  have hm : [.int .i64 v0, .int .i64 v1, .str v2, .sl 1 v3, .sl 5 v4] ∈ es := List.mem_of_getElem? hx
  show laws_eqOutS_1 es es i = _
  rw [laws_eqOutS_1_eq]
  exact eqStep hi hl (by rw [getD_of hx]; exact eqOut_ev (eqStringS_ev v3 q3 w3) (ih _ hm 5 v4 (by simp) q4 w4)) (fun i => laws_eqOutS_1 es es i)
theorem eqDoc_ev {v0 : List (List Pd)} (g0 : ev E0 F_laws_eqDefS [.p (.sl 4 v0), .p (.sl 4 v0)] [] = rB true) : ev E0 F_laws_eqDoc [.p (.agg 1 [.sl 4 v0]), .p (.agg 1 [.sl 4 v0])] [] = rB true := by
  rw [laws_eqDoc_0_ev, laws_eqDoc_0_eq]
  rw [g0, bB, Bool.not_true, cond_false]
theorem eqRun_ev {v0 : Int} {v1 : List (List Pd)} {v2 : List (List Pd)} {v3 : Int} {v4 : Int} {v5 : ByteArray} {v6 : List (List Pd)} {v7 : List (List Pd)} {v8 : List (List Pd)} (g1 : ev E0 F_laws_eqIntS [.p (.sl 1 v1), .p (.sl 1 v1)] [] = rB true) (g2 : ev E0 F_laws_eqPutS [.p (.sl 2 v2), .p (.sl 2 v2)] [] = rB true) (g6 : ev E0 F_laws_eqStringS [.p (.sl 1 v6), .p (.sl 1 v6)] [] = rB true) (g7 : ev E0 F_laws_eqOutS [.p (.sl 5 v7), .p (.sl 5 v7)] [] = rB true) (g8 : ev E0 F_laws_eqStringS [.p (.sl 1 v8), .p (.sl 1 v8)] [] = rB true) : ev E0 F_laws_eqRun [.p (.agg 9 [.int .i64 v0, .sl 1 v1, .sl 2 v2, .int .i64 v3, .int .i64 v4, .str v5, .sl 1 v6, .sl 5 v7, .sl 1 v8]), .p (.agg 9 [.int .i64 v0, .sl 1 v1, .sl 2 v2, .int .i64 v3, .int .i64 v4, .str v5, .sl 1 v6, .sl 5 v7, .sl 1 v8])] [] = rB true := by
  rw [laws_eqRun_0_ev, laws_eqRun_0_eq]
  rw [ne_self v0, cond_false]
  rw [g1, bB, Bool.not_true, cond_false]
  rw [g2, bB, Bool.not_true, cond_false]
  rw [eqOut_ev g6 g7, bB, Bool.not_true, cond_false]
  rw [g8, bB, Bool.not_true, cond_false]
theorem asOwn_StringS {es : List (List Pd)} (h : okEs es = true) : asOwn E0.P [27] ([.arr (.out 0)], [.arr 9 1 16 false es]) = some ([.undef], [es]) := by
  have e : asOwnK E0.P [27] ([.arr (.out 0)], [.arr 9 1 16 false es]) = (if okEs es = true then some ([Pd.undef], [es]) else none) := by kernel_rfl
  rw [asOwnK_eq, e, if_pos h]
theorem asOwn_IntS {es : List (List Pd)} (h : okEs es = true) : asOwn E0.P [25] ([.arr (.out 0)], [.arr 3 1 8 false es]) = some ([.undef], [es]) := by
  have e : asOwnK E0.P [25] ([.arr (.out 0)], [.arr 3 1 8 false es]) = (if okEs es = true then some ([Pd.undef], [es]) else none) := by kernel_rfl
  rw [asOwnK_eq, e, if_pos h]
theorem asOwn_ArgS {es : List (List Pd)} (h : okEs es = true) : asOwn E0.P [152] ([.arr (.out 0)], [.arr 184 4 48 false es]) = some ([.undef], [es]) := by
  have e : asOwnK E0.P [152] ([.arr (.out 0)], [.arr 184 4 48 false es]) = (if okEs es = true then some ([Pd.undef], [es]) else none) := by kernel_rfl
  rw [asOwnK_eq, e, if_pos h]
theorem asOwn_DirS {es : List (List Pd)} (h : okEs es = true) : asOwn E0.P [153] ([.arr (.out 0)], [.arr 186 4 40 false es]) = some ([.undef], [es]) := by
  have e : asOwnK E0.P [153] ([.arr (.out 0)], [.arr 186 4 40 false es]) = (if okEs es = true then some ([Pd.undef], [es]) else none) := by kernel_rfl
  rw [asOwnK_eq, e, if_pos h]
theorem asOwn_SelS (es : List (List Pd)) : asOwn E0.P [112] ([.arr (.out 0)], [.oarr 155 6 es]) = some ([.undef], [es]) := by kernel_rfl
theorem asOwn_DefS (es : List (List Pd)) : asOwn E0.P [38] ([.arr (.out 0)], [.oarr 114 4 es]) = some ([.undef], [es]) := by kernel_rfl
theorem asOwn_PutS {es : List (List Pd)} (h : okEs es = true) : asOwn E0.P [35] ([.arr (.out 0)], [.arr 84 2 16 false es]) = some ([.undef], [es]) := by
  have e : asOwnK E0.P [35] ([.arr (.out 0)], [.arr 84 2 16 false es]) = (if okEs es = true then some ([Pd.undef], [es]) else none) := by kernel_rfl
  rw [asOwnK_eq, e, if_pos h]
theorem asOwn_OutS (es : List (List Pd)) : asOwn E0.P [42] ([.arr (.out 0)], [.oarr 44 5 es]) = some ([.undef], [es]) := by kernel_rfl
theorem asOwn_Sel {v0 : Int} {v1 : ByteArray} {v2 : ByteArray} {l3 : List (List Pd)} {l4 : List (List Pd)} {l5 : List (List Pd)} (h3 : okEs l3 = true) (h4 : okEs l4 = true) : asOwn E0.P [155] ([.agg 6 [.p (.int .i64 v0), .p (.str v1), .p (.str v2), .arr (.out 0), .arr (.out 1), .arr (.out 2)]], [.arr 184 4 48 false l3, .arr 186 4 40 false l4, .oarr 155 6 l5]) = some ([.int .i64 v0, .str v1, .str v2, .undef, .undef, .undef], [l3, l4, l5]) := by
  have e : asOwnK E0.P [155] ([.agg 6 [.p (.int .i64 v0), .p (.str v1), .p (.str v2), .arr (.out 0), .arr (.out 1), .arr (.out 2)]], [.arr 184 4 48 false l3, .arr 186 4 40 false l4, .oarr 155 6 l5]) = (if okEs l3 = true then (if okEs l4 = true then (some ([.int .i64 v0, .str v1, .str v2, .undef, .undef, .undef], [l3, l4, l5])) else none) else none) := by kernel_rfl
  rw [asOwnK_eq, e, if_pos h3, if_pos h4]
theorem asOwn_Sel2 {v0 : Int} {v1 : ByteArray} {v2 : ByteArray} {l3 : List (List Pd)} {l4 : List (List Pd)} {l5 : List (List Pd)} {code : Int} (h3 : okEs l3 = true) (h4 : okEs l4 = true) : asOwn E0.P [155, 3] ([.agg 6 [.p (.int .i64 v0), .p (.str v1), .p (.str v2), .arr (.out 0), .arr (.out 1), .arr (.out 2)], .p (.int .i64 code)], [.arr 184 4 48 false l3, .arr 186 4 40 false l4, .oarr 155 6 l5]) = some ([.int .i64 v0, .str v1, .str v2, .undef, .undef, .undef, .int .i64 code], [l3, l4, l5]) := by
  have e : asOwnK E0.P [155, 3] ([.agg 6 [.p (.int .i64 v0), .p (.str v1), .p (.str v2), .arr (.out 0), .arr (.out 1), .arr (.out 2)], .p (.int .i64 code)], [.arr 184 4 48 false l3, .arr 186 4 40 false l4, .oarr 155 6 l5]) = (if okEs l3 = true then (if okEs l4 = true then (some ([.int .i64 v0, .str v1, .str v2, .undef, .undef, .undef, .int .i64 code], [l3, l4, l5])) else none) else none) := by kernel_rfl
  rw [asOwnK_eq, e, if_pos h3, if_pos h4]
theorem asOwn_Def {v0 : Int} {v1 : ByteArray} {v2 : ByteArray} {l3 : List (List Pd)} : asOwn E0.P [114] ([.agg 4 [.p (.int .i64 v0), .p (.str v1), .p (.str v2), .arr (.out 0)]], [.oarr 155 6 l3]) = some ([.int .i64 v0, .str v1, .str v2, .undef], [l3]) := by
  kernel_rfl
theorem asOwn_Def2 {v0 : Int} {v1 : ByteArray} {v2 : ByteArray} {l3 : List (List Pd)} {code : Int} : asOwn E0.P [114, 3] ([.agg 4 [.p (.int .i64 v0), .p (.str v1), .p (.str v2), .arr (.out 0)], .p (.int .i64 code)], [.oarr 155 6 l3]) = some ([.int .i64 v0, .str v1, .str v2, .undef, .int .i64 code], [l3]) := by
  kernel_rfl
theorem asOwn_Doc {l0 : List (List Pd)} : asOwn E0.P [40] ([.agg 1 [.arr (.out 0)]], [.oarr 114 4 l0]) = some ([.undef], [l0]) := by
  kernel_rfl
theorem asOwn_Doc2 {l0 : List (List Pd)} {code : Int} : asOwn E0.P [40, 3] ([.agg 1 [.arr (.out 0)], .p (.int .i64 code)], [.oarr 114 4 l0]) = some ([.undef, .int .i64 code], [l0]) := by
  kernel_rfl
theorem asOwn_Out {v0 : Int} {v1 : Int} {v2 : ByteArray} {l3 : List (List Pd)} {l4 : List (List Pd)} (h3 : okEs l3 = true) : asOwn E0.P [44] ([.agg 5 [.p (.int .i64 v0), .p (.int .i64 v1), .p (.str v2), .arr (.out 0), .arr (.out 1)]], [.arr 9 1 16 false l3, .oarr 44 5 l4]) = some ([.int .i64 v0, .int .i64 v1, .str v2, .undef, .undef], [l3, l4]) := by
  have e : asOwnK E0.P [44] ([.agg 5 [.p (.int .i64 v0), .p (.int .i64 v1), .p (.str v2), .arr (.out 0), .arr (.out 1)]], [.arr 9 1 16 false l3, .oarr 44 5 l4]) = (if okEs l3 = true then (some ([.int .i64 v0, .int .i64 v1, .str v2, .undef, .undef], [l3, l4])) else none) := by kernel_rfl
  rw [asOwnK_eq, e, if_pos h3]
theorem asOwn_Out2 {v0 : Int} {v1 : Int} {v2 : ByteArray} {l3 : List (List Pd)} {l4 : List (List Pd)} {code : Int} (h3 : okEs l3 = true) : asOwn E0.P [44, 3] ([.agg 5 [.p (.int .i64 v0), .p (.int .i64 v1), .p (.str v2), .arr (.out 0), .arr (.out 1)], .p (.int .i64 code)], [.arr 9 1 16 false l3, .oarr 44 5 l4]) = some ([.int .i64 v0, .int .i64 v1, .str v2, .undef, .undef, .int .i64 code], [l3, l4]) := by
  have e : asOwnK E0.P [44, 3] ([.agg 5 [.p (.int .i64 v0), .p (.int .i64 v1), .p (.str v2), .arr (.out 0), .arr (.out 1)], .p (.int .i64 code)], [.arr 9 1 16 false l3, .oarr 44 5 l4]) = (if okEs l3 = true then (some ([.int .i64 v0, .int .i64 v1, .str v2, .undef, .undef, .int .i64 code], [l3, l4])) else none) := by kernel_rfl
  rw [asOwnK_eq, e, if_pos h3]
theorem asOwn_Run {v0 : Int} {l1 : List (List Pd)} {l2 : List (List Pd)} {v3 : Int} {v4 : Int} {v5 : ByteArray} {l6 : List (List Pd)} {l7 : List (List Pd)} {l8 : List (List Pd)} (h1 : okEs l1 = true) (h2 : okEs l2 = true) (h6 : okEs l6 = true) (h8 : okEs l8 = true) : asOwn E0.P [46] ([.agg 9 [.p (.int .i64 v0), .arr (.out 0), .arr (.out 1), .p (.int .i64 v3), .p (.int .i64 v4), .p (.str v5), .arr (.out 2), .arr (.out 3), .arr (.out 4)]], [.arr 3 1 8 false l1, .arr 84 2 16 false l2, .arr 9 1 16 false l6, .oarr 44 5 l7, .arr 9 1 16 false l8]) = some ([.int .i64 v0, .undef, .undef, .int .i64 v3, .int .i64 v4, .str v5, .undef, .undef, .undef], [l1, l2, l6, l7, l8]) := by
  have e : asOwnK E0.P [46] ([.agg 9 [.p (.int .i64 v0), .arr (.out 0), .arr (.out 1), .p (.int .i64 v3), .p (.int .i64 v4), .p (.str v5), .arr (.out 2), .arr (.out 3), .arr (.out 4)]], [.arr 3 1 8 false l1, .arr 84 2 16 false l2, .arr 9 1 16 false l6, .oarr 44 5 l7, .arr 9 1 16 false l8]) = (if okEs l1 = true then (if okEs l2 = true then (if okEs l6 = true then (if okEs l8 = true then (some ([.int .i64 v0, .undef, .undef, .int .i64 v3, .int .i64 v4, .str v5, .undef, .undef, .undef], [l1, l2, l6, l7, l8])) else none) else none) else none) else none) := by kernel_rfl
  rw [asOwnK_eq, e, if_pos h1, if_pos h2, if_pos h6, if_pos h8]
theorem asOwn_Run2 {v0 : Int} {l1 : List (List Pd)} {l2 : List (List Pd)} {v3 : Int} {v4 : Int} {v5 : ByteArray} {l6 : List (List Pd)} {l7 : List (List Pd)} {l8 : List (List Pd)} {code : Int} (h1 : okEs l1 = true) (h2 : okEs l2 = true) (h6 : okEs l6 = true) (h8 : okEs l8 = true) : asOwn E0.P [46, 3] ([.agg 9 [.p (.int .i64 v0), .arr (.out 0), .arr (.out 1), .p (.int .i64 v3), .p (.int .i64 v4), .p (.str v5), .arr (.out 2), .arr (.out 3), .arr (.out 4)], .p (.int .i64 code)], [.arr 3 1 8 false l1, .arr 84 2 16 false l2, .arr 9 1 16 false l6, .oarr 44 5 l7, .arr 9 1 16 false l8]) = some ([.int .i64 v0, .undef, .undef, .int .i64 v3, .int .i64 v4, .str v5, .undef, .undef, .undef, .int .i64 code], [l1, l2, l6, l7, l8]) := by
  have e : asOwnK E0.P [46, 3] ([.agg 9 [.p (.int .i64 v0), .arr (.out 0), .arr (.out 1), .p (.int .i64 v3), .p (.int .i64 v4), .p (.str v5), .arr (.out 2), .arr (.out 3), .arr (.out 4)], .p (.int .i64 code)], [.arr 3 1 8 false l1, .arr 84 2 16 false l2, .arr 9 1 16 false l6, .oarr 44 5 l7, .arr 9 1 16 false l8]) = (if okEs l1 = true then (if okEs l2 = true then (if okEs l6 = true then (if okEs l8 = true then (some ([.int .i64 v0, .undef, .undef, .int .i64 v3, .int .i64 v4, .str v5, .undef, .undef, .undef, .int .i64 code], [l1, l2, l6, l7, l8])) else none) else none) else none) else none) := by kernel_rfl
  rw [asOwnK_eq, e, if_pos h1, if_pos h2, if_pos h6, if_pos h8]
theorem own_String {v0 : ByteArray} : ownC T0 ckString [.str v0] = [.str v0] := by
  unfold ckString
  simp only [ownC, ownP]
  try rfl
theorem own_Int {v0 : Int} : ownC T0 ckInt [.int .i64 v0] = [.int .i64 v0] := by
  unfold ckInt
  simp only [ownC, ownP]
  try rfl
theorem own_Arg {v0 : ByteArray} {v1 : Int} {v2 : Int} {v3 : ByteArray} : ownC T0 ckArg [.str v0, .int .i64 v1, .int .i64 v2, .str v3] = [.str v0, .int .i64 v1, .int .i64 v2, .str v3] := by
  unfold ckArg
  simp only [ownC, ownP]
  try rfl
theorem own_Dir {v0 : Bool} {v1 : Int} {v2 : Int} {v3 : ByteArray} : ownC T0 ckDir [.bool v0, .int .i64 v1, .int .i64 v2, .str v3] = [.bool v0, .int .i64 v1, .int .i64 v2, .str v3] := by
  unfold ckDir
  simp only [ownC, ownP]
  try rfl
theorem own_Sel {v0 : Int} {v1 : ByteArray} {v2 : ByteArray} {v3 : List (List Pd)} {v4 : List (List Pd)} {v5 : List (List Pd)} : ownC T0 ckSel [.int .i64 v0, .str v1, .str v2, .sl 4 v3, .sl 4 v4, .sl 6 v5] = [.int .i64 v0, .str v1, .str v2, .ow 184 4 (ownEs T0 ckArg v3), .ow 186 4 (ownEs T0 ckDir v4), .ow 155 6 (ownEs T0 ckSel v5)] := by
  unfold ckSel
  simp only [ownC, ownP]
  try rfl
theorem own_Def {v0 : Int} {v1 : ByteArray} {v2 : ByteArray} {v3 : List (List Pd)} : ownC T0 ckDef [.int .i64 v0, .str v1, .str v2, .sl 6 v3] = [.int .i64 v0, .str v1, .str v2, .ow 155 6 (ownEs T0 ckSel v3)] := by
  unfold ckDef
  simp only [ownC, ownP]
  try rfl
theorem own_Put {v0 : Int} {v1 : Int} : ownC T0 ckPut [.int .i64 v0, .int .i64 v1] = [.int .i64 v0, .int .i64 v1] := by
  unfold ckPut
  simp only [ownC, ownP]
  try rfl
theorem own_Out {v0 : Int} {v1 : Int} {v2 : ByteArray} {v3 : List (List Pd)} {v4 : List (List Pd)} : ownC T0 ckOut [.int .i64 v0, .int .i64 v1, .str v2, .sl 1 v3, .sl 5 v4] = [.int .i64 v0, .int .i64 v1, .str v2, .ow 9 1 (ownEs T0 ckString v3), .ow 44 5 (ownEs T0 ckOut v4)] := by
  unfold ckOut
  simp only [ownC, ownP]
  try rfl
theorem toStringS_ev : ∀ (es : List (List Pd)), es.length ≤ 1048576 → wEs es ≤ 1048576 → wfEs T0 ckString es → ev E0 F_laws_toStringS [.p (.sl 1 es)] [] = some ([.arr (.out 0)], [.arr 9 1 16 false es]) := by
  intro es hl hwt hw
  rw [laws_toStringS_0_ev, laws_toStringS_0_eq, toFront (by omega) (by omega)]
  refine to_loop (L := fun i es' => laws_toStringS_1 es i es') (ys := es) (fun i y hx es' he => ?_) ?_ _ (by simp)
  · have hi := lt_of_get hx
    obtain ⟨v0, rfl, q0⟩ := decString (wfEs_get hw hx)
    show laws_toStringS_1 es i es' = _
    have e1 : asStr ((([.str v0] : List Pd)).getD 0 .undef) = some v0 := rfl
    have es_ : setEl es' ((i : Int)).toNat 1 0 1 (.str v0) = es'.set i [.str v0] := by simp [setEl, pcells]
    rw [laws_toStringS_1_eq, decide_eq_true (by omega), cond_true, if_pos (by omega), getD_of hx, e1, Option.bind_some, if_pos (by omega), if_pos ⟨by trivial, by omega⟩, if_pos (by omega), es_, wrap_id (by omega)]
  · show laws_toStringS_1 es es.length es = _
    rw [laws_toStringS_1_eq, decide_eq_false (by omega), cond_false, if_pos (okEs_flat flatString hw)]
theorem toIntS_ev : ∀ (es : List (List Pd)), es.length ≤ 1048576 → wEs es ≤ 1048576 → wfEs T0 ckInt es → ev E0 F_laws_toIntS [.p (.sl 1 es)] [] = some ([.arr (.out 0)], [.arr 3 1 8 false es]) := by
  intro es hl hwt hw
  rw [laws_toIntS_0_ev, laws_toIntS_0_eq, toFront (by omega) (by omega)]
  refine to_loop (L := fun i es' => laws_toIntS_1 es i es') (ys := es) (fun i y hx es' he => ?_) ?_ _ (by simp)
  · have hi := lt_of_get hx
    obtain ⟨v0, rfl⟩ := decInt (wfEs_get hw hx)
    show laws_toIntS_1 es i es' = _
    have e1 : asInt .i64 ((([.int .i64 v0] : List Pd)).getD 0 .undef) = some v0 := asI v0
    have es_ : setEl es' ((i : Int)).toNat 1 0 1 (.int .i64 v0) = es'.set i [.int .i64 v0] := by simp [setEl, pcells]
    rw [laws_toIntS_1_eq, decide_eq_true (by omega), cond_true, if_pos (by omega), getD_of hx, e1, Option.bind_some, if_pos (by omega), if_pos ⟨by trivial, by omega⟩, if_pos (by omega), es_, wrap_id (by omega)]
  · show laws_toIntS_1 es es.length es = _
    rw [laws_toIntS_1_eq, decide_eq_false (by omega), cond_false, if_pos (okEs_flat flatInt hw)]
theorem toValue_ev {v0 : Int} {v1 : Int} {v2 : ByteArray} : ev E0 F_laws_toValue [.p (.agg 3 [.int .i64 v0, .int .i64 v1, .str v2])] [] = rA 3 [.int .i64 v0, .int .i64 v1, .str v2] := by
  rw [laws_toValue_0_ev, laws_toValue_0_eq]
theorem toArg_ev {v0 : ByteArray} {v1 : Int} {v2 : Int} {v3 : ByteArray} : ev E0 F_laws_toArg [.p (.agg 4 [.str v0, .int .i64 v1, .int .i64 v2, .str v3])] [] = rA 4 [.str v0, .int .i64 v1, .int .i64 v2, .str v3] := by
  rw [laws_toArg_0_ev, laws_toArg_0_eq]
  rw [toValue_ev, bA]
  rfl
theorem toArgS_ev : ∀ (es : List (List Pd)), es.length ≤ 1048576 → wEs es ≤ 1048576 → wfEs T0 ckArg es → ev E0 F_laws_toArgS [.p (.sl 4 es)] [] = some ([.arr (.out 0)], [.arr 184 4 48 false es]) := by
  intro es hl hwt hw
  rw [laws_toArgS_0_ev, laws_toArgS_0_eq, toFront (by omega) (by omega)]
  refine to_loop (L := fun i es' => laws_toArgS_1 es i es') (ys := es) (fun i y hx es' he => ?_) ?_ _ (by simp)
  · have hi := lt_of_get hx
    obtain ⟨v0, v1, v2, v3, rfl, q0, q3⟩ := decArg (wfEs_get hw hx)
    show laws_toArgS_1 es i es' = _
    rw [laws_toArgS_1_eq]
    exact toStep hi (by omega) (by rw [getD_of hx]; exact toArg_ev) es' he (fun i es' => laws_toArgS_1 es i es')
  · show laws_toArgS_1 es es.length es = _
    rw [laws_toArgS_1_eq, decide_eq_false (by omega), cond_false, if_pos (okEs_flat flatArg hw)]
theorem toDir_ev {v0 : Bool} {v1 : Int} {v2 : Int} {v3 : ByteArray} : ev E0 F_laws_toDir [.p (.agg 4 [.bool v0, .int .i64 v1, .int .i64 v2, .str v3])] [] = rA 4 [.bool v0, .int .i64 v1, .int .i64 v2, .str v3] := by
  rw [laws_toDir_0_ev, laws_toDir_0_eq]
  rw [toValue_ev, bA]
  rfl
theorem toDirS_ev : ∀ (es : List (List Pd)), es.length ≤ 1048576 → wEs es ≤ 1048576 → wfEs T0 ckDir es → ev E0 F_laws_toDirS [.p (.sl 4 es)] [] = some ([.arr (.out 0)], [.arr 186 4 40 false es]) := by
  intro es hl hwt hw
  rw [laws_toDirS_0_ev, laws_toDirS_0_eq, toFront (by omega) (by omega)]
  refine to_loop (L := fun i es' => laws_toDirS_1 es i es') (ys := es) (fun i y hx es' he => ?_) ?_ _ (by simp)
  · have hi := lt_of_get hx
    obtain ⟨v0, v1, v2, v3, rfl, q3⟩ := decDir (wfEs_get hw hx)
    show laws_toDirS_1 es i es' = _
    rw [laws_toDirS_1_eq]
    exact toStep hi (by omega) (by rw [getD_of hx]; exact toDir_ev) es' he (fun i es' => laws_toDirS_1 es i es')
  · show laws_toDirS_1 es es.length es = _
    rw [laws_toDirS_1_eq, decide_eq_false (by omega), cond_false, if_pos (okEs_flat flatDir hw)]
theorem toSel_of {v0 : Int} {v1 : ByteArray} {v2 : ByteArray} {v3 : List (List Pd)} {v4 : List (List Pd)} {v5 : List (List Pd)} (g3 : ev E0 F_laws_toArgS [.p (.sl 4 v3)] [] = some ([.arr (.out 0)], [.arr 184 4 48 false v3])) (g4 : ev E0 F_laws_toDirS [.p (.sl 4 v4)] [] = some ([.arr (.out 0)], [.arr 186 4 40 false v4])) (g5 : ev E0 F_laws_toSelS [.p (.sl 6 v5)] [] = some ([.arr (.out 0)], [.oarr 155 6 (ownEs T0 ckSel v5)])) (h3 : okEs v3 = true) (h4 : okEs v4 = true) : ev E0 F_laws_toSel [.p (.agg 6 [.int .i64 v0, .str v1, .str v2, .sl 4 v3, .sl 4 v4, .sl 6 v5])] [] = some ([.agg 6 [.p (.int .i64 v0), .p (.str v1), .p (.str v2), .arr (.out 0), .arr (.out 1), .arr (.out 2)]], [.arr 184 4 48 false v3, .arr 186 4 40 false v4, .oarr 155 6 (ownEs T0 ckSel v5)]) := by
  rw [laws_toSel_0_ev, laws_toSel_0_eq]
  rw [g3, Option.bind_some, asOwn_ArgS h3, Option.bind_some]
  rw [g4, Option.bind_some, asOwn_DirS h4, Option.bind_some]
  rw [g5, Option.bind_some, asOwn_SelS, Option.bind_some]
  simp only [List.getD_cons_zero, List.getD_cons_succ, asI, asS_, asB_, Option.bind_some]
  rw [if_pos h3, if_pos h4]
theorem toSelS_ev : ∀ (es : List (List Pd)), es.length ≤ 1048576 → wEs es ≤ 1048576 → wfEs T0 ckSel es → ev E0 F_laws_toSelS [.p (.sl 6 es)] [] = some ([.arr (.out 0)], [.oarr 155 6 (ownEs T0 ckSel es)]) := by
  refine row_ind (cs := []) fun es ih hl hwt hw => ?_
  rw [laws_toSelS_0_ev, laws_toSelS_0_eq, toFront (by omega) (by omega)]
  have hol := ownEs_len T0 ckSel es
  refine to_loop (L := fun i es' => laws_toSelS_1 es i es') (ys := ownEs T0 ckSel es) (fun i y hy es' he => ?_) ?_ _ (by simp [hol])
  · rw [ownEs_map, List.getElem?_map] at hy
    cases hx : es[i]? with
    | none => rw [hx] at hy; cases hy
    | some x =>
    rw [hx] at hy
    injection hy with hy
    subst hy
    have hi := lt_of_get hx
    obtain ⟨v0, v1, v2, v3, v4, v5, rfl, q1, q2, q3, w3, q4, w4, q5, w5⟩ := decSel (wfEs_get hw hx)
    have hm : [.int .i64 v0, .str v1, .str v2, .sl 4 v3, .sl 4 v4, .sl 6 v5] ∈ es := List.mem_of_getElem? hx
    have hwx := wEs_mem hm
    simp only [wC, wP] at hwx
    have h3 : okEs v3 = true := okEs_flat flatArg w3
    have h4 : okEs v4 = true := okEs_flat flatDir w4
    have hto := toSel_of (v0 := v0) (v1 := v1) (v2 := v2) (v3 := v3) (v4 := v4) (v5 := v5) (toArgS_ev v3 (by omega) (by omega) w3) (toDirS_ev v4 (by omega) (by omega) w4) (ih _ hm 6 v5 (by simp) (by omega) (by omega) w5) h3 h4
    rw [own_Sel]
    rw [ownEs_flat T0 flatArg v3]
    rw [ownEs_flat T0 flatDir v4]
    show laws_toSelS_1 es i es' = _
    rw [laws_toSelS_1_eq, decide_eq_true (by omega), cond_true, if_pos (by omega), getD_of hx, hto, Option.bind_some, asOwn_Sel h3 h4, Option.bind_some]
    simp only [List.getD_cons_zero, List.getD_cons_succ, asI, asS_, asB_, Option.bind_some]
    rw [if_pos (by omega), if_pos ⟨by trivial, by omega, by omega⟩, if_pos ⟨by trivial, by trivial, h3⟩, if_pos ⟨by trivial, by trivial, h4⟩, wrap_id (by omega), setCs_all]
    rfl
  · show laws_toSelS_1 es (ownEs T0 ckSel es).length (ownEs T0 ckSel es) = _
    rw [laws_toSelS_1_eq, decide_eq_false (by omega), cond_false]
theorem toDef_of {v0 : Int} {v1 : ByteArray} {v2 : ByteArray} {v3 : List (List Pd)} (g3 : ev E0 F_laws_toSelS [.p (.sl 6 v3)] [] = some ([.arr (.out 0)], [.oarr 155 6 (ownEs T0 ckSel v3)])) : ev E0 F_laws_toDef [.p (.agg 4 [.int .i64 v0, .str v1, .str v2, .sl 6 v3])] [] = some ([.agg 4 [.p (.int .i64 v0), .p (.str v1), .p (.str v2), .arr (.out 0)]], [.oarr 155 6 (ownEs T0 ckSel v3)]) := by
  rw [laws_toDef_0_ev, laws_toDef_0_eq]
  rw [g3, Option.bind_some, asOwn_SelS, Option.bind_some]
  rfl
theorem toDefS_ev : ∀ (es : List (List Pd)), es.length ≤ 1048576 → wEs es ≤ 1048576 → wfEs T0 ckDef es → ev E0 F_laws_toDefS [.p (.sl 4 es)] [] = some ([.arr (.out 0)], [.oarr 114 4 (ownEs T0 ckDef es)]) := by
  intro es hl hwt hw
  rw [laws_toDefS_0_ev, laws_toDefS_0_eq, toFront (by omega) (by omega)]
  have hol := ownEs_len T0 ckDef es
  refine to_loop (L := fun i es' => laws_toDefS_1 es i es') (ys := ownEs T0 ckDef es) (fun i y hy es' he => ?_) ?_ _ (by simp [hol])
  · rw [ownEs_map, List.getElem?_map] at hy
    cases hx : es[i]? with
    | none => rw [hx] at hy; cases hy
    | some x =>
    rw [hx] at hy
    injection hy with hy
    subst hy
    have hi := lt_of_get hx
    obtain ⟨v0, v1, v2, v3, rfl, q1, q2, q3, w3⟩ := decDef (wfEs_get hw hx)
    have hm : [.int .i64 v0, .str v1, .str v2, .sl 6 v3] ∈ es := List.mem_of_getElem? hx
    have hwx := wEs_mem hm
    simp only [wC, wP] at hwx
    have hto := toDef_of (v0 := v0) (v1 := v1) (v2 := v2) (v3 := v3) (toSelS_ev v3 (by omega) (by omega) w3)
    rw [own_Def]
    show laws_toDefS_1 es i es' = _
    rw [laws_toDefS_1_eq, decide_eq_true (by omega), cond_true, if_pos (by omega), getD_of hx, hto, Option.bind_some, asOwn_Def, Option.bind_some]
    simp only [List.getD_cons_zero, List.getD_cons_succ, asI, asS_, asB_, Option.bind_some]
    rw [if_pos (by omega), if_pos ⟨by trivial, by omega, by omega⟩, wrap_id (by omega), setCs_all]
    rfl
  · show laws_toDefS_1 es (ownEs T0 ckDef es).length (ownEs T0 ckDef es) = _
    rw [laws_toDefS_1_eq, decide_eq_false (by omega), cond_false]
theorem toPut_ev {v0 : Int} {v1 : Int} : ev E0 F_laws_toPut [.p (.agg 2 [.int .i64 v0, .int .i64 v1])] [] = rA 2 [.int .i64 v0, .int .i64 v1] := by
  rw [laws_toPut_0_ev, laws_toPut_0_eq]
theorem toPutS_ev : ∀ (es : List (List Pd)), es.length ≤ 1048576 → wEs es ≤ 1048576 → wfEs T0 ckPut es → ev E0 F_laws_toPutS [.p (.sl 2 es)] [] = some ([.arr (.out 0)], [.arr 84 2 16 false es]) := by
  intro es hl hwt hw
  rw [laws_toPutS_0_ev, laws_toPutS_0_eq, toFront (by omega) (by omega)]
  refine to_loop (L := fun i es' => laws_toPutS_1 es i es') (ys := es) (fun i y hx es' he => ?_) ?_ _ (by simp)
  · have hi := lt_of_get hx
    obtain ⟨v0, v1, rfl⟩ := decPut (wfEs_get hw hx)
    show laws_toPutS_1 es i es' = _
    rw [laws_toPutS_1_eq]
    exact toStep hi (by omega) (by rw [getD_of hx]; exact toPut_ev) es' he (fun i es' => laws_toPutS_1 es i es')
  · show laws_toPutS_1 es es.length es = _
    rw [laws_toPutS_1_eq, decide_eq_false (by omega), cond_false, if_pos (okEs_flat flatPut hw)]
theorem toOut_of {v0 : Int} {v1 : Int} {v2 : ByteArray} {v3 : List (List Pd)} {v4 : List (List Pd)} (g3 : ev E0 F_laws_toStringS [.p (.sl 1 v3)] [] = some ([.arr (.out 0)], [.arr 9 1 16 false v3])) (g4 : ev E0 F_laws_toOutS [.p (.sl 5 v4)] [] = some ([.arr (.out 0)], [.oarr 44 5 (ownEs T0 ckOut v4)])) (h3 : okEs v3 = true) : ev E0 F_laws_toOut [.p (.agg 5 [.int .i64 v0, .int .i64 v1, .str v2, .sl 1 v3, .sl 5 v4])] [] = some ([.agg 5 [.p (.int .i64 v0), .p (.int .i64 v1), .p (.str v2), .arr (.out 0), .arr (.out 1)]], [.arr 9 1 16 false v3, .oarr 44 5 (ownEs T0 ckOut v4)]) := by
  rw [laws_toOut_0_ev, laws_toOut_0_eq]
  rw [g3, Option.bind_some, asOwn_StringS h3, Option.bind_some]
  rw [g4, Option.bind_some, asOwn_OutS, Option.bind_some]
  simp only [List.getD_cons_zero, List.getD_cons_succ, asI, asS_, asB_, Option.bind_some]
  rw [if_pos h3]
theorem toOutS_ev : ∀ (es : List (List Pd)), es.length ≤ 1048576 → wEs es ≤ 1048576 → wfEs T0 ckOut es → ev E0 F_laws_toOutS [.p (.sl 5 es)] [] = some ([.arr (.out 0)], [.oarr 44 5 (ownEs T0 ckOut es)]) := by
  refine row_ind (cs := []) fun es ih hl hwt hw => ?_
  rw [laws_toOutS_0_ev, laws_toOutS_0_eq, toFront (by omega) (by omega)]
  have hol := ownEs_len T0 ckOut es
  refine to_loop (L := fun i es' => laws_toOutS_1 es i es') (ys := ownEs T0 ckOut es) (fun i y hy es' he => ?_) ?_ _ (by simp [hol])
  · rw [ownEs_map, List.getElem?_map] at hy
    cases hx : es[i]? with
    | none => rw [hx] at hy; cases hy
    | some x =>
    rw [hx] at hy
    injection hy with hy
    subst hy
    have hi := lt_of_get hx
    obtain ⟨v0, v1, v2, v3, v4, rfl, q2, q3, w3, q4, w4⟩ := decOut (wfEs_get hw hx)
    have hm : [.int .i64 v0, .int .i64 v1, .str v2, .sl 1 v3, .sl 5 v4] ∈ es := List.mem_of_getElem? hx
    have hwx := wEs_mem hm
    simp only [wC, wP] at hwx
    have h3 : okEs v3 = true := okEs_flat flatString w3
    have hto := toOut_of (v0 := v0) (v1 := v1) (v2 := v2) (v3 := v3) (v4 := v4) (toStringS_ev v3 (by omega) (by omega) w3) (ih _ hm 5 v4 (by simp) (by omega) (by omega) w4) h3
    rw [own_Out]
    rw [ownEs_flat T0 flatString v3]
    show laws_toOutS_1 es i es' = _
    rw [laws_toOutS_1_eq, decide_eq_true (by omega), cond_true, if_pos (by omega), getD_of hx, hto, Option.bind_some, asOwn_Out h3, Option.bind_some]
    simp only [List.getD_cons_zero, List.getD_cons_succ, asI, asS_, asB_, Option.bind_some]
    rw [if_pos (by omega), if_pos ⟨by trivial, by omega, by omega⟩, if_pos ⟨by trivial, by trivial, h3⟩, wrap_id (by omega), setCs_all]
    rfl
  · show laws_toOutS_1 es (ownEs T0 ckOut es).length (ownEs T0 ckOut es) = _
    rw [laws_toOutS_1_eq, decide_eq_false (by omega), cond_false]
theorem toDoc_of {v0 : List (List Pd)} (g0 : ev E0 F_laws_toDefS [.p (.sl 4 v0)] [] = some ([.arr (.out 0)], [.oarr 114 4 (ownEs T0 ckDef v0)])) : ev E0 F_laws_toDoc [.p (.agg 1 [.sl 4 v0])] [] = some ([.agg 1 [.arr (.out 0)]], [.oarr 114 4 (ownEs T0 ckDef v0)]) := by
  rw [laws_toDoc_0_ev, laws_toDoc_0_eq]
  rw [g0, Option.bind_some, asOwn_DefS, Option.bind_some]
  rfl
theorem toRun_of {v0 : Int} {v1 : List (List Pd)} {v2 : List (List Pd)} {v3 : Int} {v4 : Int} {v5 : ByteArray} {v6 : List (List Pd)} {v7 : List (List Pd)} {v8 : List (List Pd)} (g1 : ev E0 F_laws_toIntS [.p (.sl 1 v1)] [] = some ([.arr (.out 0)], [.arr 3 1 8 false v1])) (g2 : ev E0 F_laws_toPutS [.p (.sl 2 v2)] [] = some ([.arr (.out 0)], [.arr 84 2 16 false v2])) (g6 : ev E0 F_laws_toStringS [.p (.sl 1 v6)] [] = some ([.arr (.out 0)], [.arr 9 1 16 false v6])) (g7 : ev E0 F_laws_toOutS [.p (.sl 5 v7)] [] = some ([.arr (.out 0)], [.oarr 44 5 (ownEs T0 ckOut v7)])) (g8 : ev E0 F_laws_toStringS [.p (.sl 1 v8)] [] = some ([.arr (.out 0)], [.arr 9 1 16 false v8])) (h1 : okEs v1 = true) (h2 : okEs v2 = true) (h6 : okEs v6 = true) (h8 : okEs v8 = true) : ev E0 F_laws_toRun [.p (.agg 9 [.int .i64 v0, .sl 1 v1, .sl 2 v2, .int .i64 v3, .int .i64 v4, .str v5, .sl 1 v6, .sl 5 v7, .sl 1 v8])] [] = some ([.agg 9 [.p (.int .i64 v0), .arr (.out 0), .arr (.out 1), .p (.int .i64 v3), .p (.int .i64 v4), .p (.str v5), .arr (.out 2), .arr (.out 3), .arr (.out 4)]], [.arr 3 1 8 false v1, .arr 84 2 16 false v2, .arr 9 1 16 false v6, .oarr 44 5 (ownEs T0 ckOut v7), .arr 9 1 16 false v8]) := by
  rw [laws_toRun_0_ev, laws_toRun_0_eq]
  rw [g1, Option.bind_some, asOwn_IntS h1, Option.bind_some]
  rw [g2, Option.bind_some, asOwn_PutS h2, Option.bind_some]
  rw [toOut_of g6 g7 h6, Option.bind_some, asOwn_Out h6, Option.bind_some]
  simp only [List.getD_cons_zero, List.getD_cons_succ, asI, asS_, asB_, Option.bind_some]
  rw [g8, Option.bind_some, asOwn_StringS h8, Option.bind_some]
  simp only [List.getD_cons_zero, List.getD_cons_succ, asI, asS_, asB_, Option.bind_some]
  rw [if_pos h1, if_pos h2, if_pos h6, if_pos h8]
theorem toSel_ev {v0 : Int} {v1 : ByteArray} {v2 : ByteArray} {v3 : List (List Pd)} {v4 : List (List Pd)} {v5 : List (List Pd)} (b3 : v3.length ≤ 1048576) (c3 : wEs v3 ≤ 1048576) (w3 : wfEs T0 ckArg v3) (b4 : v4.length ≤ 1048576) (c4 : wEs v4 ≤ 1048576) (w4 : wfEs T0 ckDir v4) (b5 : v5.length ≤ 1048576) (c5 : wEs v5 ≤ 1048576) (w5 : wfEs T0 ckSel v5) : ev E0 F_laws_toSel [.p (.agg 6 [.int .i64 v0, .str v1, .str v2, .sl 4 v3, .sl 4 v4, .sl 6 v5])] [] = some ([.agg 6 [.p (.int .i64 v0), .p (.str v1), .p (.str v2), .arr (.out 0), .arr (.out 1), .arr (.out 2)]], [.arr 184 4 48 false v3, .arr 186 4 40 false v4, .oarr 155 6 (ownEs T0 ckSel v5)]) :=
  toSel_of (toArgS_ev v3 b3 c3 w3) (toDirS_ev v4 b4 c4 w4) (toSelS_ev v5 b5 c5 w5) (okEs_flat flatArg w3) (okEs_flat flatDir w4)
theorem coldSel {v0 : Int} {v1 : ByteArray} {v2 : ByteArray} {v3 : List (List Pd)} {v4 : List (List Pd)} {v5 : List (List Pd)} (w3 : wfEs T0 ckArg v3) (w4 : wfEs T0 ckDir v4) (w5 : wfEs T0 ckSel v5) : (some ([.agg 6 [.p (.int .i64 v0), .p (.str v1), .p (.str v2), .arr (.out 0), .arr (.out 1), .arr (.out 2)]], [.arr 184 4 48 false v3, .arr 186 4 40 false v4, .oarr 155 6 (ownEs T0 ckSel v5)]) : Option Res).bind coldR = rA 6 [.int .i64 v0, .str v1, .str v2, .sl 4 v3, .sl 4 v4, .sl 6 v5] := by
  rw [Option.bind_some]
  have e : coldR ([.agg 6 [.p (.int .i64 v0), .p (.str v1), .p (.str v2), .arr (.out 0), .arr (.out 1), .arr (.out 2)]], [.arr 184 4 48 false v3, .arr 186 4 40 false v4, .oarr 155 6 (ownEs T0 ckSel v5)]) = some ([.p (.agg 6 [.int .i64 v0, .str v1, .str v2, .sl 4 v3, .sl 4 v4, .sl 6 (colds (ownEs T0 ckSel v5))])], []) := by kernel_rfl
  rw [e]
  rw [colds_own _ _ w5]
theorem toDef_ev {v0 : Int} {v1 : ByteArray} {v2 : ByteArray} {v3 : List (List Pd)} (b3 : v3.length ≤ 1048576) (c3 : wEs v3 ≤ 1048576) (w3 : wfEs T0 ckSel v3) : ev E0 F_laws_toDef [.p (.agg 4 [.int .i64 v0, .str v1, .str v2, .sl 6 v3])] [] = some ([.agg 4 [.p (.int .i64 v0), .p (.str v1), .p (.str v2), .arr (.out 0)]], [.oarr 155 6 (ownEs T0 ckSel v3)]) :=
  toDef_of (toSelS_ev v3 b3 c3 w3)
theorem coldDef {v0 : Int} {v1 : ByteArray} {v2 : ByteArray} {v3 : List (List Pd)} (w3 : wfEs T0 ckSel v3) : (some ([.agg 4 [.p (.int .i64 v0), .p (.str v1), .p (.str v2), .arr (.out 0)]], [.oarr 155 6 (ownEs T0 ckSel v3)]) : Option Res).bind coldR = rA 4 [.int .i64 v0, .str v1, .str v2, .sl 6 v3] := by
  rw [Option.bind_some]
  have e : coldR ([.agg 4 [.p (.int .i64 v0), .p (.str v1), .p (.str v2), .arr (.out 0)]], [.oarr 155 6 (ownEs T0 ckSel v3)]) = some ([.p (.agg 4 [.int .i64 v0, .str v1, .str v2, .sl 6 (colds (ownEs T0 ckSel v3))])], []) := by kernel_rfl
  rw [e]
  rw [colds_own _ _ w3]
theorem toDoc_ev {v0 : List (List Pd)} (b0 : v0.length ≤ 1048576) (c0 : wEs v0 ≤ 1048576) (w0 : wfEs T0 ckDef v0) : ev E0 F_laws_toDoc [.p (.agg 1 [.sl 4 v0])] [] = some ([.agg 1 [.arr (.out 0)]], [.oarr 114 4 (ownEs T0 ckDef v0)]) :=
  toDoc_of (toDefS_ev v0 b0 c0 w0)
theorem coldDoc {v0 : List (List Pd)} (w0 : wfEs T0 ckDef v0) : (some ([.agg 1 [.arr (.out 0)]], [.oarr 114 4 (ownEs T0 ckDef v0)]) : Option Res).bind coldR = rA 1 [.sl 4 v0] := by
  rw [Option.bind_some]
  have e : coldR ([.agg 1 [.arr (.out 0)]], [.oarr 114 4 (ownEs T0 ckDef v0)]) = some ([.p (.agg 1 [.sl 4 (colds (ownEs T0 ckDef v0))])], []) := by kernel_rfl
  rw [e]
  rw [colds_own _ _ w0]
theorem toOut_ev {v0 : Int} {v1 : Int} {v2 : ByteArray} {v3 : List (List Pd)} {v4 : List (List Pd)} (b3 : v3.length ≤ 1048576) (c3 : wEs v3 ≤ 1048576) (w3 : wfEs T0 ckString v3) (b4 : v4.length ≤ 1048576) (c4 : wEs v4 ≤ 1048576) (w4 : wfEs T0 ckOut v4) : ev E0 F_laws_toOut [.p (.agg 5 [.int .i64 v0, .int .i64 v1, .str v2, .sl 1 v3, .sl 5 v4])] [] = some ([.agg 5 [.p (.int .i64 v0), .p (.int .i64 v1), .p (.str v2), .arr (.out 0), .arr (.out 1)]], [.arr 9 1 16 false v3, .oarr 44 5 (ownEs T0 ckOut v4)]) :=
  toOut_of (toStringS_ev v3 b3 c3 w3) (toOutS_ev v4 b4 c4 w4) (okEs_flat flatString w3)
theorem coldOut {v0 : Int} {v1 : Int} {v2 : ByteArray} {v3 : List (List Pd)} {v4 : List (List Pd)} (w3 : wfEs T0 ckString v3) (w4 : wfEs T0 ckOut v4) : (some ([.agg 5 [.p (.int .i64 v0), .p (.int .i64 v1), .p (.str v2), .arr (.out 0), .arr (.out 1)]], [.arr 9 1 16 false v3, .oarr 44 5 (ownEs T0 ckOut v4)]) : Option Res).bind coldR = rA 5 [.int .i64 v0, .int .i64 v1, .str v2, .sl 1 v3, .sl 5 v4] := by
  rw [Option.bind_some]
  have e : coldR ([.agg 5 [.p (.int .i64 v0), .p (.int .i64 v1), .p (.str v2), .arr (.out 0), .arr (.out 1)]], [.arr 9 1 16 false v3, .oarr 44 5 (ownEs T0 ckOut v4)]) = some ([.p (.agg 5 [.int .i64 v0, .int .i64 v1, .str v2, .sl 1 v3, .sl 5 (colds (ownEs T0 ckOut v4))])], []) := by kernel_rfl
  rw [e]
  rw [colds_own _ _ w4]
theorem toRun_ev {v0 : Int} {v1 : List (List Pd)} {v2 : List (List Pd)} {v3 : Int} {v4 : Int} {v5 : ByteArray} {v6 : List (List Pd)} {v7 : List (List Pd)} {v8 : List (List Pd)} (b1 : v1.length ≤ 1048576) (c1 : wEs v1 ≤ 1048576) (w1 : wfEs T0 ckInt v1) (b2 : v2.length ≤ 1048576) (c2 : wEs v2 ≤ 1048576) (w2 : wfEs T0 ckPut v2) (b6 : v6.length ≤ 1048576) (c6 : wEs v6 ≤ 1048576) (w6 : wfEs T0 ckString v6) (b7 : v7.length ≤ 1048576) (c7 : wEs v7 ≤ 1048576) (w7 : wfEs T0 ckOut v7) (b8 : v8.length ≤ 1048576) (c8 : wEs v8 ≤ 1048576) (w8 : wfEs T0 ckString v8) : ev E0 F_laws_toRun [.p (.agg 9 [.int .i64 v0, .sl 1 v1, .sl 2 v2, .int .i64 v3, .int .i64 v4, .str v5, .sl 1 v6, .sl 5 v7, .sl 1 v8])] [] = some ([.agg 9 [.p (.int .i64 v0), .arr (.out 0), .arr (.out 1), .p (.int .i64 v3), .p (.int .i64 v4), .p (.str v5), .arr (.out 2), .arr (.out 3), .arr (.out 4)]], [.arr 3 1 8 false v1, .arr 84 2 16 false v2, .arr 9 1 16 false v6, .oarr 44 5 (ownEs T0 ckOut v7), .arr 9 1 16 false v8]) :=
  toRun_of (toIntS_ev v1 b1 c1 w1) (toPutS_ev v2 b2 c2 w2) (toStringS_ev v6 b6 c6 w6) (toOutS_ev v7 b7 c7 w7) (toStringS_ev v8 b8 c8 w8) (okEs_flat flatInt w1) (okEs_flat flatPut w2) (okEs_flat flatString w6) (okEs_flat flatString w8)
theorem coldRun {v0 : Int} {v1 : List (List Pd)} {v2 : List (List Pd)} {v3 : Int} {v4 : Int} {v5 : ByteArray} {v6 : List (List Pd)} {v7 : List (List Pd)} {v8 : List (List Pd)} (w1 : wfEs T0 ckInt v1) (w2 : wfEs T0 ckPut v2) (w6 : wfEs T0 ckString v6) (w7 : wfEs T0 ckOut v7) (w8 : wfEs T0 ckString v8) : (some ([.agg 9 [.p (.int .i64 v0), .arr (.out 0), .arr (.out 1), .p (.int .i64 v3), .p (.int .i64 v4), .p (.str v5), .arr (.out 2), .arr (.out 3), .arr (.out 4)]], [.arr 3 1 8 false v1, .arr 84 2 16 false v2, .arr 9 1 16 false v6, .oarr 44 5 (ownEs T0 ckOut v7), .arr 9 1 16 false v8]) : Option Res).bind coldR = rA 9 [.int .i64 v0, .sl 1 v1, .sl 2 v2, .int .i64 v3, .int .i64 v4, .str v5, .sl 1 v6, .sl 5 v7, .sl 1 v8] := by
  rw [Option.bind_some]
  have e : coldR ([.agg 9 [.p (.int .i64 v0), .arr (.out 0), .arr (.out 1), .p (.int .i64 v3), .p (.int .i64 v4), .p (.str v5), .arr (.out 2), .arr (.out 3), .arr (.out 4)]], [.arr 3 1 8 false v1, .arr 84 2 16 false v2, .arr 9 1 16 false v6, .oarr 44 5 (ownEs T0 ckOut v7), .arr 9 1 16 false v8]) = some ([.p (.agg 9 [.int .i64 v0, .sl 1 v1, .sl 2 v2, .int .i64 v3, .int .i64 v4, .str v5, .sl 1 v6, .sl 5 (colds (ownEs T0 ckOut v7)), .sl 1 v8])], []) := by kernel_rfl
  rw [e]
  rw [colds_own _ _ w7]
end Go.Proofs.YtbadompnhhhfpaaGreatDoor.Dm
