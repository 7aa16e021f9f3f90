/- Documents as data: what their sizes, copies and comparisons come to. -/
import Derived.Test.YtlmmimhjfajhdaaGreatDoorS2
import Derived.Laws.BitsLemmas
namespace Go.Proofs.YtlmmimhjfajhdaaGreatDoor.Dm
set_option linter.unusedVariables false
set_option linter.unusedSimpArgs false

theorem wrap_id {n : Int} (h : -9223372036854775808 ≤ n ∧ n ≤ 9223372036854775807) : IntKind.i64.wrap n = n := by rw [IntKind.wrap_i64]; omega
abbrev rI (v : Int) : Option Res := some ([.p (.int .i64 v)], [])
abbrev rB (v : Bool) : Option Res := some ([.p (.bool v)], [])
abbrev rA (n : Nat) (v : List Pd) : Option Res := some ([.p (.agg n v)], [])
abbrev rL (n : Nat) (v : List (List Pd)) : Option Res := some ([.p (.sl n v)], [])
section
variable {R : Type}
theorem bI (v : Int) (K : Int → Option R) : ((rI v).bind fun r => (asInt .i64 (pAt 0 r.1)).bind fun v => if r.1.length = 1 then K v else none) = K v := by simp [pAt, asInt]
theorem bB (v : Bool) (K : Bool → Option R) : ((rB v).bind fun r => (asBool (pAt 0 r.1)).bind fun v => if r.1.length = 1 then K v else none) = K v := by simp [pAt, asBool]
theorem bA (n : Nat) (v : List Pd) (K : List Pd → Option R) : ((rA n v).bind fun r => (asAgg n (pAt 0 r.1)).bind fun v => if r.1.length = 1 then K v else none) = K v := by simp [pAt, asAgg]
theorem bL (n : Nat) (v : List (List Pd)) (K : List (List Pd) → Option R) : ((rL n v).bind fun r => (asSl n (pAt 0 r.1)).bind fun v => if r.1.length = 1 then K v else none) = K v := by simp [pAt, asSl]
end
theorem getD_enc {α : Type} {f : α → List Pd} {xs : List α} {i : Nat} {x : α} (h : xs[i]? = some x) : (xs.map f).getD (i : Int).toNat [] = f x := by
  simp [List.getD_eq_getElem?_getD, h]
theorem lt_of_get {α : Type} {xs : List α} {i : Nat} {x : α} (h : xs[i]? = some x) : i < xs.length := (List.getElem?_eq_some_iff.1 h).1

/-! ### data -/
structure GVal where
  kind : Int
  n : Int
  t : ByteArray
structure GArg where
  name : ByteArray
  val : GVal
structure GDir where
  skip : Bool
  val : GVal
inductive GSel where
  | mk (kind : Int) (alias name : ByteArray) (args : List GArg) (dirs : List GDir) (sels : List GSel)
structure GDef where
  kind : Int
  name : ByteArray
  on : ByteArray
  sels : List GSel
structure GBind where
  name : ByteArray
  val : GVal
def GVal.enc (v : GVal) : List Pd := [.int .i64 v.kind, .int .i64 v.n, .str v.t]
def GArg.enc (a : GArg) : List Pd := [.str a.name, .int .i64 a.val.kind, .int .i64 a.val.n, .str a.val.t]
def GDir.enc (a : GDir) : List Pd := [.bool a.skip, .int .i64 a.val.kind, .int .i64 a.val.n, .str a.val.t]
def GBind.enc (a : GBind) : List Pd := [.str a.name, .int .i64 a.val.kind, .int .i64 a.val.n, .str a.val.t]
mutual
def GSel.enc : GSel → List Pd
  | .mk k a n args dirs sels => [.int .i64 k, .str a, .str n, .sl 4 (args.map GArg.enc), .sl 4 (dirs.map GDir.enc), .sl 6 (GSel.encs sels)]
def GSel.encs : List GSel → List (List Pd)
  | [] => []
  | x :: xs => GSel.enc x :: GSel.encs xs
end
theorem GSel.encs_eq : ∀ xs : List GSel, GSel.encs xs = xs.map GSel.enc
  | [] => rfl
  | x :: xs => by rw [GSel.encs, GSel.encs_eq xs]; rfl
def GDef.enc (d : GDef) : List Pd := [.int .i64 d.kind, .str d.name, .str d.on, .sl 6 (d.sels.map GSel.enc)]

/-! ### weights -/
def wVal (v : GVal) : Nat := v.t.size
def wArg (a : GArg) : Nat := a.name.size + wVal a.val
def wDir (a : GDir) : Nat := wVal a.val
def wBind (a : GBind) : Nat := a.name.size + wVal a.val
def wL {α : Type} (f : α → Nat) (xs : List α) : Nat := xs.length + (xs.map f).sum
mutual
def wSel : GSel → Nat
  | .mk _ a n args dirs sels => a.size + n.size + wL wArg args + wL wDir dirs + (sels.length + wSels sels)
def wSels : List GSel → Nat
  | [] => 0
  | x :: xs => wSel x + wSels xs
end
theorem wSels_eq : ∀ xs : List GSel, wSels xs = (xs.map wSel).sum
  | [] => rfl
  | x :: xs => by rw [wSels, wSels_eq xs]; rfl
def wDef (d : GDef) : Nat := d.name.size + d.on.size + wL wSel d.sels
/-- what lies in memory is no longer than any memory -/
def okVal (v : GVal) : Prop := v.t.size ≤ 9223372036854775807
def okArg (a : GArg) : Prop := a.name.size ≤ 9223372036854775807 ∧ okVal a.val
def okDir (a : GDir) : Prop := okVal a.val
def okBind (a : GBind) : Prop := a.name.size ≤ 9223372036854775807 ∧ okVal a.val
def okL {α : Type} (f : α → Prop) (xs : List α) : Prop := xs.length ≤ 9223372036854775807 ∧ ∀ x ∈ xs, f x
mutual
def okSel : GSel → Prop
  | .mk _ a n args dirs sels => a.size ≤ 9223372036854775807 ∧ n.size ≤ 9223372036854775807 ∧ okL okArg args ∧ okL okDir dirs ∧ sels.length ≤ 9223372036854775807 ∧ okSels sels
def okSels : List GSel → Prop
  | [] => True
  | x :: xs => okSel x ∧ okSels xs
end
theorem okSels_mem : ∀ {xs : List GSel}, okSels xs → ∀ x ∈ xs, okSel x
  | x :: xs, h, y, hy => by
    rcases List.mem_cons.1 hy with q | q
    · exact q ▸ h.1
    · exact okSels_mem h.2 y q
def okDef (d : GDef) : Prop := d.name.size ≤ 9223372036854775807 ∧ d.on.size ≤ 9223372036854775807 ∧ okL okSel d.sels

/-! ### sizes -/
def szV (w : Nat) (left : Int) : Int := if (w : Int) ≤ left then left - w else -1
theorem szV_lt {w : Nat} {left : Int} : szV w left < 0 ↔ left < w := by unfold szV; split <;> omega
theorem szV_add {a b : Nat} {left : Int} (h : (a : Int) ≤ left) : szV (a + b) left = szV b (szV a left) := by
  unfold szV; rw [if_pos h]; split <;> split <;> omega
theorem szLoop {L : Int → Int → Option Res} {ws : List Nat} (step : ∀ (i w : Nat), ws[i]? = some w → ∀ left : Int, 0 ≤ left → left ≤ 1048576 → L left i = if (w : Int) ≤ left then L (left - w) ((i : Int) + 1) else rI (-1))
    (done : ∀ left, L left ws.length = rI left) : ∀ (k i : Nat) (left : Int), i + k = ws.length → 0 ≤ left → left ≤ 1048576 → L left i = rI (szV (ws.drop i).sum left)
  | 0, i, left, h, h0, h1 => by
    have : i = ws.length := by omega
    subst this
    rw [done, List.drop_length]
    simp [szV, h0]
  | k + 1, i, left, h, h0, h1 => by
    have hlt : i < ws.length := by omega
    rw [step i ws[i] (List.getElem?_eq_getElem hlt) left h0 h1, List.drop_eq_getElem_cons hlt, List.sum_cons]
    split
    · rename_i hw
      have := szLoop step done k (i + 1) (left - ws[i]) (by omega) (by omega) (by omega)
      have e : ((i + 1 : Nat) : Int) = (i : Int) + 1 := by omega
      rw [e] at this
      rw [this, szV_add hw]
      unfold szV
      rw [if_pos hw]
    · rename_i hw
      have : szV (ws[i] + (ws.drop (i + 1)).sum) left = -1 := by unfold szV; rw [if_neg (by omega)]
      rw [this]
/-- the front of each sz-function over a row: its length first -/
theorem szRow {L : Int → Int → Option Res} {ws : List Nat} (hl : ws.length ≤ 9223372036854775807) {left : Int} (h0 : 0 ≤ left) (h1 : left ≤ 1048576)
    (step : ∀ (i w : Nat), ws[i]? = some w → ∀ left : Int, 0 ≤ left → left ≤ 1048576 → L left i = if (w : Int) ≤ left then L (left - w) ((i : Int) + 1) else rI (-1)) (done : ∀ left, L left ws.length = rI left) :
    (bif decide ((IntKind.i64.wrap (left - (ws.length : Int)) : Int) < 0) then rI (-1) else L (IntKind.i64.wrap (left - (ws.length : Int))) 0) = rI (szV (ws.length + ws.sum) left) := by
  rw [wrap_id (by omega)]
  by_cases hlt : left - (ws.length : Int) < 0
  · rw [decide_eq_true hlt, cond_true]
    unfold szV
    rw [if_neg (by omega)]
  · rw [decide_eq_false hlt, cond_false]
    have := szLoop step done ws.length 0 (left - ws.length) (by omega) (by omega) (by omega)
    have e : ((0 : Nat) : Int) = 0 := rfl
    rw [e] at this
    rw [this, List.drop_zero, szV_add (by omega)]
    unfold szV
    rw [if_pos (show (ws.length : Int) ≤ left by omega)]
/-- one step over a string -/
theorem szStr {s : ByteArray} (hs : s.size ≤ 9223372036854775807) {left : Int} (h0 : 0 ≤ left) (h1 : left ≤ 1048576) {K : Int → Option Res} :
    (bif decide ((IntKind.i64.wrap (left - (s.size : Int)) : Int) < 0) then rI (-1) else K (IntKind.i64.wrap (left - (s.size : Int)))) = if (s.size : Int) ≤ left then K (left - s.size) else rI (-1) := by
  rw [wrap_id (by omega)]
  by_cases hlt : left - (s.size : Int) < 0
  · rw [decide_eq_true hlt, cond_true, if_neg (by omega)]
  · rw [decide_eq_false hlt, cond_false, if_pos (by omega)]
/-- one step over a part -/
theorem szPart {w : Nat} {left : Int} (h0 : 0 ≤ left) {K : Int → Option Res} :
    (bif decide ((szV w left : Int) < 0) then rI (-1) else K (szV w left)) = if (w : Int) ≤ left then K (left - w) else rI (-1) := by
  by_cases hlt : (w : Int) ≤ left
  · rw [if_pos hlt]
    have : szV w left = left - w := if_pos hlt
    rw [this, decide_eq_false (by omega), cond_false]
  · rw [if_neg hlt]
    have : szV w left = -1 := if_neg hlt
    rw [this, decide_eq_true (by omega), cond_true]
theorem szStep {i n w : Nat} (hi : i < n) (hn : n ≤ 9223372036854775807) {left : Int} {o D : Option Res} (ho : o = rI (szV w left)) (h0 : 0 ≤ left) (L : Int → Int → Option Res) :
    (bif decide ((i : Int) < (n : Int)) then (if 0 ≤ (i : Int) ∧ (i : Int) < (n : Int) then (o.bind fun r => (asInt .i64 (pAt 0 r.1)).bind fun v => if r.1.length = 1 then (bif decide ((v : Int) < 0) then rI (-1) else L v (IntKind.i64.wrap ((i : Int) + 1))) else none) else none) else D) = if (w : Int) ≤ left then L (left - w) ((i : Int) + 1) else rI (-1) := by
  rw [decide_eq_true (by omega), cond_true, if_pos (by omega), ho, bI (K := fun v => bif decide ((v : Int) < 0) then rI (-1) else L v (IntKind.i64.wrap ((i : Int) + 1))), wrap_id (by omega), szPart h0 (K := fun v => L v ((i : Int) + 1))]
theorem szDone {n : Nat} {A D : Option Res} : (bif decide ((n : Int) < (n : Int)) then A else D) = D := by
  rw [decide_eq_false (by omega), cond_false]
theorem szV_pos {w : Nat} {left : Int} (h : (w : Int) ≤ left) : szV w left = left - w := if_pos h
theorem szV_neg {w : Nat} {left : Int} (h : ¬ (w : Int) ≤ left) : szV w left = -1 := if_neg h
theorem szEnd {w : Nat} {left : Int} : (if (w : Int) ≤ left then rI (left - w) else rI (-1)) = rI (szV w left) := by
  unfold szV; split <;> rfl
theorem szThen {a b : Nat} {left : Int} {X : Option Res} (h : (a : Int) ≤ left → X = rI (szV b (left - a))) : (if (a : Int) ≤ left then X else rI (-1)) = rI (szV (a + b) left) := by
  by_cases hs : (a : Int) ≤ left
  · rw [if_pos hs, h hs, szV_add hs, szV_pos hs]
  · rw [if_neg hs, szV_neg (by omega)]
theorem szPart0 {w : Nat} {left : Int} : (bif decide ((szV w left : Int) < 0) then rI (-1) else rI (szV w left)) = rI (szV w left) := by
  unfold szV
  split
  · rw [decide_eq_false (by omega), cond_false]
  · rfl
theorem szValue_ev {v : GVal} (hv : okVal v) {left : Int} (h0 : 0 ≤ left) (h1 : left ≤ 1048576) : ev E0 F_laws_szValue [.p (.agg 3 [.int .i64 v.kind, .int .i64 v.n, .str v.t]), .p (.int .i64 left)] [] = rI (szV (wVal v) left) := by
  rw [laws_szValue_0_ev, laws_szValue_0_eq, szStr hv h0 h1 (K := fun v => rI v)]
  exact szEnd
theorem szArg_ev {a : GArg} (ha : okArg a) {left : Int} (h0 : 0 ≤ left) (h1 : left ≤ 1048576) : ev E0 F_laws_szArg [.p (.agg 4 a.enc), .p (.int .i64 left)] [] = rI (szV (wArg a) left) := by
  unfold GArg.enc
  rw [laws_szArg_0_ev, laws_szArg_0_eq]
  refine (szStr ha.1 h0 h1 (K := fun n => (ev E0 F_laws_szValue [.p (.agg 3 [.int .i64 a.val.kind, .int .i64 a.val.n, .str a.val.t]), .p (.int .i64 n)] []).bind fun r => (asInt .i64 (pAt 0 r.1)).bind fun n => if r.1.length = 1 then (bif decide ((n : Int) < 0) then rI (-1) else rI n) else none)).trans (szThen fun hs => ?_)
  rw [szValue_ev ha.2 (by omega) (by omega), bI]
  exact szPart0
theorem szDir_ev {a : GDir} (ha : okDir a) {left : Int} (h0 : 0 ≤ left) (h1 : left ≤ 1048576) : ev E0 F_laws_szDir [.p (.agg 4 a.enc), .p (.int .i64 left)] [] = rI (szV (wDir a) left) := by
  unfold GDir.enc
  rw [laws_szDir_0_ev, laws_szDir_0_eq, szValue_ev ha (by omega) (by omega), bI]
  exact szPart0
theorem szArgS_ev {xs : List GArg} (h : okL okArg xs) {left : Int} (h0 : 0 ≤ left) (h1 : left ≤ 1048576) : ev E0 F_laws_szArgS [.p (.sl 4 (xs.map GArg.enc)), .p (.int .i64 left)] [] = rI (szV (wL wArg xs) left) := by
  rw [laws_szArgS_0_ev, laws_szArgS_0_eq]
  have hlen : (xs.map GArg.enc).length = (xs.map wArg).length := by simp
  rw [hlen]
  have := szRow (L := fun left i => laws_szArgS_1 (xs.map GArg.enc) left i) (ws := xs.map wArg) (by simpa using h.1) h0 h1 (fun i w hw left h0 h1 => by
    rw [List.getElem?_map] at hw
    obtain ⟨x, hx, rfl⟩ := Option.map_eq_some_iff.1 hw
    rw [laws_szArgS_1_eq, hlen]
    refine szStep (by simpa using lt_of_get hx) (by simpa using h.1) ?_ h0 (fun left i => laws_szArgS_1 (xs.map GArg.enc) left i)
    rw [getD_enc hx]
    exact szArg_ev (h.2 x (List.mem_of_getElem? hx)) h0 h1) (fun left => by
    rw [laws_szArgS_1_eq, hlen]
    exact szDone)
  rw [this]
  simp [wL]
theorem szDirS_ev {xs : List GDir} (h : okL okDir xs) {left : Int} (h0 : 0 ≤ left) (h1 : left ≤ 1048576) : ev E0 F_laws_szDirS [.p (.sl 4 (xs.map GDir.enc)), .p (.int .i64 left)] [] = rI (szV (wL wDir xs) left) := by
  rw [laws_szDirS_0_ev, laws_szDirS_0_eq]
  have hlen : (xs.map GDir.enc).length = (xs.map wDir).length := by simp
  rw [hlen]
  have := szRow (L := fun left i => laws_szDirS_1 (xs.map GDir.enc) left i) (ws := xs.map wDir) (by simpa using h.1) h0 h1 (fun i w hw left h0 h1 => by
    rw [List.getElem?_map] at hw
    obtain ⟨x, hx, rfl⟩ := Option.map_eq_some_iff.1 hw
    rw [laws_szDirS_1_eq, hlen]
    refine szStep (by simpa using lt_of_get hx) (by simpa using h.1) ?_ h0 (fun left i => laws_szDirS_1 (xs.map GDir.enc) left i)
    rw [getD_enc hx]
    exact szDir_ev (h.2 x (List.mem_of_getElem? hx)) h0 h1) (fun left => by
    rw [laws_szDirS_1_eq, hlen]
    exact szDone)
  rw [this]
  simp [wL]
theorem szSelS_of {xs : List GSel} (hlen0 : xs.length ≤ 9223372036854775807) (ih : ∀ x ∈ xs, ∀ left : Int, 0 ≤ left → left ≤ 1048576 → ev E0 F_laws_szSel [.p (.agg 6 x.enc), .p (.int .i64 left)] [] = rI (szV (wSel x) left)) {left : Int} (h0 : 0 ≤ left) (h1 : left ≤ 1048576) :
    ev E0 F_laws_szSelS [.p (.sl 6 (xs.map GSel.enc)), .p (.int .i64 left)] [] = rI (szV (wL wSel xs) left) := by
  rw [laws_szSelS_0_ev, laws_szSelS_0_eq]
  have hlen : (xs.map GSel.enc).length = (xs.map wSel).length := by simp
  rw [hlen]
  have := szRow (L := fun left i => laws_szSelS_1 (xs.map GSel.enc) left i) (ws := xs.map wSel) (by simpa using hlen0) h0 h1 (fun i w hw left h0 h1 => by
    rw [List.getElem?_map] at hw
    obtain ⟨x, hx, rfl⟩ := Option.map_eq_some_iff.1 hw
    rw [laws_szSelS_1_eq, hlen]
    refine szStep (by simpa using lt_of_get hx) (by simpa using hlen0) ?_ h0 (fun left i => laws_szSelS_1 (xs.map GSel.enc) left i)
    rw [getD_enc hx]
    exact ih x (List.mem_of_getElem? hx) left h0 h1) (fun left => by
    rw [laws_szSelS_1_eq, hlen]
    exact szDone)
  rw [this]
  simp [wL]
mutual
theorem szSel_ev : ∀ (x : GSel), okSel x → ∀ left : Int, 0 ≤ left → left ≤ 1048576 → ev E0 F_laws_szSel [.p (.agg 6 x.enc), .p (.int .i64 left)] [] = rI (szV (wSel x) left)
  | .mk k a n args dirs sels, hx, left, h0, h1 => by
    obtain ⟨x1, x2, x3, x4, x5, x6⟩ := hx
    have ihs := szSels_ev sels x6
    unfold GSel.enc
    rw [laws_szSel_0_ev, laws_szSel_0_eq]
    by_cases c1 : (a.size : Int) ≤ left
    · rw [wrap_id (n := left - (a.size : Int)) (by omega), decide_eq_false (by omega), cond_false]
      by_cases c2 : (n.size : Int) ≤ left - a.size
      · rw [wrap_id (by omega), decide_eq_false (by omega), cond_false, szArgS_ev x3 (by omega) (by omega), bI]
        by_cases c3 : (wL wArg args : Int) ≤ left - a.size - n.size
        · rw [szV_pos c3, decide_eq_false (by omega), cond_false, szDirS_ev x4 (by omega) (by omega), bI]
          by_cases c4 : (wL wDir dirs : Int) ≤ left - a.size - n.size - wL wArg args
          · rw [szV_pos c4, decide_eq_false (by omega), cond_false, GSel.encs_eq, szSelS_of x5 ihs (by omega) (by omega), bI]
            refine szPart0.trans ?_
            unfold wSel
            rw [wSels_eq]
            have e : wL wSel sels = sels.length + (sels.map wSel).sum := rfl
            rw [← e]
            have e2 : szV (wL wSel sels) (left - a.size - n.size - wL wArg args - wL wDir dirs) = szV (a.size + n.size + wL wArg args + wL wDir dirs + wL wSel sels) left := by
              unfold szV
              split <;> split <;> omega
            rw [e2]
          · rw [szV_neg c4, decide_eq_true (by omega), cond_true]
            unfold szV wSel
            rw [if_neg (by omega)]
        · rw [szV_neg c3, decide_eq_true (by omega), cond_true]
          unfold szV wSel
          rw [if_neg (by omega)]
      · rw [wrap_id (by omega), decide_eq_true (by omega), cond_true]
        unfold szV wSel
        rw [if_neg (by omega)]
    · rw [wrap_id (n := left - (a.size : Int)) (by omega), decide_eq_true (by omega), cond_true]
      unfold szV wSel
      rw [if_neg (by omega)]
theorem szSels_ev : ∀ (xs : List GSel), okSels xs → ∀ x ∈ xs, ∀ left : Int, 0 ≤ left → left ≤ 1048576 → ev E0 F_laws_szSel [.p (.agg 6 x.enc), .p (.int .i64 left)] [] = rI (szV (wSel x) left)
  | [], _, x, hx => by cases hx
  | y :: ys, h, x, hx => by
    rcases List.mem_cons.1 hx with q | q
    · rw [q]; exact szSel_ev y h.1
    · exact szSels_ev ys h.2 x q
end
theorem szSelS_ev {xs : List GSel} (h : okL okSel xs) {left : Int} (h0 : 0 ≤ left) (h1 : left ≤ 1048576) : ev E0 F_laws_szSelS [.p (.sl 6 (xs.map GSel.enc)), .p (.int .i64 left)] [] = rI (szV (wL wSel xs) left) :=
  szSelS_of h.1 (fun x hx => szSel_ev x (h.2 x hx)) h0 h1
theorem szDef_ev {d : GDef} (hd : okDef d) {left : Int} (h0 : 0 ≤ left) (h1 : left ≤ 1048576) : ev E0 F_laws_szDef [.p (.agg 4 d.enc), .p (.int .i64 left)] [] = rI (szV (wDef d) left) := by
  obtain ⟨x1, x2, x3⟩ := hd
  unfold GDef.enc
  rw [laws_szDef_0_ev, laws_szDef_0_eq]
  by_cases c1 : (d.name.size : Int) ≤ left
  · rw [wrap_id (n := left - (d.name.size : Int)) (by omega), decide_eq_false (by omega), cond_false]
    by_cases c2 : (d.on.size : Int) ≤ left - d.name.size
    · rw [wrap_id (by omega), decide_eq_false (by omega), cond_false, szSelS_ev x3 (by omega) (by omega), bI]
      refine szPart0.trans ?_
      have e2 : szV (wL wSel d.sels) (left - d.name.size - d.on.size) = szV (wDef d) left := by
        unfold szV wDef
        split <;> split <;> omega
      rw [e2]
    · rw [wrap_id (by omega), decide_eq_true (by omega), cond_true]
      unfold szV wDef
      rw [if_neg (by omega)]
  · rw [wrap_id (n := left - (d.name.size : Int)) (by omega), decide_eq_true (by omega), cond_true]
    unfold szV wDef
    rw [if_neg (by omega)]
theorem szDefS_ev {xs : List GDef} (h : okL okDef xs) {left : Int} (h0 : 0 ≤ left) (h1 : left ≤ 1048576) : ev E0 F_laws_szDefS [.p (.sl 4 (xs.map GDef.enc)), .p (.int .i64 left)] [] = rI (szV (wL wDef xs) left) := by
  rw [laws_szDefS_0_ev, laws_szDefS_0_eq]
  have hlen : (xs.map GDef.enc).length = (xs.map wDef).length := by simp
  rw [hlen]
  have := szRow (L := fun left i => laws_szDefS_1 (xs.map GDef.enc) left i) (ws := xs.map wDef) (by simpa using h.1) h0 h1 (fun i w hw left h0 h1 => by
    rw [List.getElem?_map] at hw
    obtain ⟨x, hx, rfl⟩ := Option.map_eq_some_iff.1 hw
    rw [laws_szDefS_1_eq, hlen]
    refine szStep (by simpa using lt_of_get hx) (by simpa using h.1) ?_ h0 (fun left i => laws_szDefS_1 (xs.map GDef.enc) left i)
    rw [getD_enc hx]
    exact szDef_ev (h.2 x (List.mem_of_getElem? hx)) h0 h1) (fun left => by
    rw [laws_szDefS_1_eq, hlen]
    exact szDone)
  rw [this]
  simp [wL]
theorem szDoc_ev {xs : List GDef} (h : okL okDef xs) {left : Int} (h0 : 0 ≤ left) (h1 : left ≤ 1048576) : ev E0 F_laws_szDoc [.p (.agg 1 [.sl 4 (xs.map GDef.enc)]), .p (.int .i64 left)] [] = rI (szV (wL wDef xs) left) := by
  rw [laws_szDoc_0_ev, laws_szDoc_0_eq, szDefS_ev h (by omega) (by omega), bI]
  exact szPart0

/-! ### copies -/
theorem setEl_all {es : List (List Pd)} {i s : Nat} {c : List Pd} : setEl es i s 0 s (.agg s c) = es.set i c := by simp [setEl, pcells]
theorem toLoop {L : Int → List (List Pd) → Option Res} {ys : List (List Pd)} {s : Nat} (step : ∀ (i : Nat) (y : List Pd), ys[i]? = some y → ∀ es : List (List Pd), es.length = ys.length → L i es = L ((i : Int) + 1) (es.set i y)) (done : ∀ es : List (List Pd), es.length = ys.length → L ys.length es = rL s es) :
    ∀ (k i : Nat) (es : List (List Pd)), i + k = ys.length → es.length = ys.length → (∀ j, j < i → es[j]? = ys[j]?) → L i es = rL s ys
  | 0, i, es, h, hl, hj => by
    have : i = ys.length := by omega
    subst this
    rw [done es hl]
    have : es = ys := by
      apply List.ext_getElem? 
      intro j
      by_cases hlt : j < ys.length
      · exact hj j hlt
      · rw [List.getElem?_eq_none (by omega), List.getElem?_eq_none (by omega)]
    rw [this]
  | k + 1, i, es, h, hl, hj => by
    have hlt : i < ys.length := by omega
    rw [step i ys[i] (List.getElem?_eq_getElem hlt) es hl]
    have := toLoop step done k (i + 1) (es.set i ys[i]) (by omega) (by simpa using hl) (fun j hj' => by
      by_cases e : i = j
      · subst e
        rw [List.getElem?_set_self (by omega), List.getElem?_eq_getElem hlt]
      · rw [List.getElem?_set_ne e]
        exact hj j (by omega))
    have e : ((i + 1 : Nat) : Int) = (i : Int) + 1 := by omega
    rw [e] at this
    exact this
theorem toStep {i n s : Nat} (hi : i < n) (hn : n ≤ 9223372036854775807) {o D : Option Res} {c : List Pd} (ho : o = rA s c) (es : List (List Pd)) (hes : es.length = n) (L : Int → List (List Pd) → Option Res) :
    (bif decide ((i : Int) < (n : Int)) then (if 0 ≤ (i : Int) ∧ (i : Int) < (n : Int) then (o.bind fun r => (asAgg s (pAt 0 r.1)).bind fun v => if r.1.length = 1 then (if 0 ≤ (i : Int) ∧ (i : Int) < (es.length : Int) then (if s = s ∧ ((i : Int).toNat) < es.length then (if 0 + s ≤ s then (L (IntKind.i64.wrap ((i : Int) + 1)) (setEl es ((i : Int).toNat) s 0 s (.agg s v))) else none) else none) else none) else none) else none) else D) = L ((i : Int) + 1) (es.set i c) := by
  rw [decide_eq_true (by omega), cond_true, if_pos (by omega), ho, bA, if_pos (by omega), if_pos (by omega), if_pos (by omega), wrap_id (by omega), setEl_all]
  rfl
theorem toFront {n b : Nat} (h : n * b ≤ 140737488355328) (hb : b ≠ 0) {X : Option Res} : (if 0 ≤ ((n : Int) : Int) ∧ ((n : Int) : Int) ≤ (n : Int) ∧ ((n : Int) : Int).toNat * b ≤ LIM ∧ b ≠ 0 then X else none) = X := by
  rw [if_pos]
  refine ⟨by omega, by omega, ?_, hb⟩
  rw [Int.toNat_natCast]
  exact h
theorem toValue_ev (v : GVal) : ev E0 F_laws_toValue [.p (.agg 3 [.int .i64 v.kind, .int .i64 v.n, .str v.t])] [] = rA 3 [.int .i64 v.kind, .int .i64 v.n, .str v.t] := by
  rw [laws_toValue_0_ev, laws_toValue_0_eq]
theorem toArg_ev (a : GArg) : ev E0 F_laws_toArg [.p (.agg 4 a.enc)] [] = rA 4 a.enc := by
  unfold GArg.enc
  rw [laws_toArg_0_ev, laws_toArg_0_eq, toValue_ev, bA]
  rfl
theorem toDir_ev (a : GDir) : ev E0 F_laws_toDir [.p (.agg 4 a.enc)] [] = rA 4 a.enc := by
  unfold GDir.enc
  rw [laws_toDir_0_ev, laws_toDir_0_eq, toValue_ev, bA]
  rfl
theorem toArgS_ev {xs : List GArg} (h : xs.length ≤ 1048576) : ev E0 F_laws_toArgS [.p (.sl 4 (xs.map GArg.enc))] [] = rL 4 (xs.map GArg.enc) := by
  rw [laws_toArgS_0_ev, laws_toArgS_0_eq, toFront (by simp; omega) (by omega)]
  have := toLoop (L := fun i es => laws_toArgS_1 (xs.map GArg.enc) i es) (ys := xs.map GArg.enc) (s := 4) (fun i y hy es hes => by
    rw [List.getElem?_map] at hy
    obtain ⟨x, hx, rfl⟩ := Option.map_eq_some_iff.1 hy
    rw [laws_toArgS_1_eq]
    exact toStep (by simpa using lt_of_get hx) (by simp; omega) (by rw [getD_enc hx]; exact toArg_ev x) es hes (fun i es => laws_toArgS_1 (xs.map GArg.enc) i es)) (fun es hes => by
    rw [laws_toArgS_1_eq]
    exact szDone)
  exact this (xs.map GArg.enc).length 0 _ (by omega) (by simp) (fun j hj => by omega)
theorem toDirS_ev {xs : List GDir} (h : xs.length ≤ 1048576) : ev E0 F_laws_toDirS [.p (.sl 4 (xs.map GDir.enc))] [] = rL 4 (xs.map GDir.enc) := by
  rw [laws_toDirS_0_ev, laws_toDirS_0_eq, toFront (by simp; omega) (by omega)]
  have := toLoop (L := fun i es => laws_toDirS_1 (xs.map GDir.enc) i es) (ys := xs.map GDir.enc) (s := 4) (fun i y hy es hes => by
    rw [List.getElem?_map] at hy
    obtain ⟨x, hx, rfl⟩ := Option.map_eq_some_iff.1 hy
    rw [laws_toDirS_1_eq]
    exact toStep (by simpa using lt_of_get hx) (by simp; omega) (by rw [getD_enc hx]; exact toDir_ev x) es hes (fun i es => laws_toDirS_1 (xs.map GDir.enc) i es)) (fun es hes => by
    rw [laws_toDirS_1_eq]
    exact szDone)
  exact this (xs.map GDir.enc).length 0 _ (by omega) (by simp) (fun j hj => by omega)
theorem toSelS_of {xs : List GSel} (h : xs.length ≤ 1048576) (ih : ∀ x ∈ xs, ev E0 F_laws_toSel [.p (.agg 6 x.enc)] [] = rA 6 x.enc) : ev E0 F_laws_toSelS [.p (.sl 6 (xs.map GSel.enc))] [] = rL 6 (xs.map GSel.enc) := by
  rw [laws_toSelS_0_ev, laws_toSelS_0_eq, toFront (by simp; omega) (by omega)]
  have := toLoop (L := fun i es => laws_toSelS_1 (xs.map GSel.enc) i es) (ys := xs.map GSel.enc) (s := 6) (fun i y hy es hes => by
    rw [List.getElem?_map] at hy
    obtain ⟨x, hx, rfl⟩ := Option.map_eq_some_iff.1 hy
    rw [laws_toSelS_1_eq]
    exact toStep (by simpa using lt_of_get hx) (by simp; omega) (by rw [getD_enc hx]; exact ih x (List.mem_of_getElem? hx)) es hes (fun i es => laws_toSelS_1 (xs.map GSel.enc) i es)) (fun es hes => by
    rw [laws_toSelS_1_eq]
    exact szDone)
  exact this (xs.map GSel.enc).length 0 _ (by omega) (by simp) (fun j hj => by omega)
theorem wL_len {α : Type} {f : α → Nat} {xs : List α} {n : Nat} (h : wL f xs ≤ n) : xs.length ≤ n := by unfold wL at h; omega
theorem le_sum : ∀ {l : List Nat} {x : Nat}, x ∈ l → x ≤ l.sum
  | y :: l, x, h => by
    rw [List.sum_cons]
    rcases List.mem_cons.1 h with q | q
    · omega
    · have := le_sum q; omega
theorem wL_mem {α : Type} {f : α → Nat} {xs : List α} {n : Nat} (h : wL f xs ≤ n) {x : α} (hx : x ∈ xs) : f x ≤ n := by
  have : f x ≤ (xs.map f).sum := le_sum (List.mem_map_of_mem hx)
  unfold wL at h; omega
mutual
theorem toSel_ev : ∀ (x : GSel), wSel x ≤ 1048576 → ev E0 F_laws_toSel [.p (.agg 6 x.enc)] [] = rA 6 x.enc
  | .mk k a n args dirs sels, hx => by
    unfold wSel at hx
    unfold GSel.enc
    rw [laws_toSel_0_ev, laws_toSel_0_eq, toArgS_ev (wL_len (f := wArg) (by omega)), bL, toDirS_ev (wL_len (f := wDir) (by omega)), bL, GSel.encs_eq, toSelS_of (by omega) (toSels_ev sels (by omega)), bL]
theorem toSels_ev : ∀ (xs : List GSel), wSels xs ≤ 1048576 → ∀ x ∈ xs, ev E0 F_laws_toSel [.p (.agg 6 x.enc)] [] = rA 6 x.enc
  | [], _, x, hx => by cases hx
  | y :: ys, h, x, hx => by
    unfold wSels at h
    rcases List.mem_cons.1 hx with q | q
    · rw [q]; exact toSel_ev y (by omega)
    · exact toSels_ev ys (by omega) x q
end
theorem toDef_ev {d : GDef} (h : wDef d ≤ 1048576) : ev E0 F_laws_toDef [.p (.agg 4 d.enc)] [] = rA 4 d.enc := by
  unfold wDef at h
  unfold GDef.enc
  rw [laws_toDef_0_ev, laws_toDef_0_eq, toSelS_of (wL_len (f := wSel) (by omega)) (fun x hx => toSel_ev x (wL_mem (f := wSel) (by omega) hx)), bL]
theorem toDefS_ev {xs : List GDef} (h : wL wDef xs ≤ 1048576) : ev E0 F_laws_toDefS [.p (.sl 4 (xs.map GDef.enc))] [] = rL 4 (xs.map GDef.enc) := by
  have hlen := wL_len h
  rw [laws_toDefS_0_ev, laws_toDefS_0_eq, toFront (by simp; omega) (by omega)]
  have := toLoop (L := fun i es => laws_toDefS_1 (xs.map GDef.enc) i es) (ys := xs.map GDef.enc) (s := 4) (fun i y hy es hes => by
    rw [List.getElem?_map] at hy
    obtain ⟨x, hx, rfl⟩ := Option.map_eq_some_iff.1 hy
    rw [laws_toDefS_1_eq]
    exact toStep (by simpa using lt_of_get hx) (by simp; omega) (by rw [getD_enc hx]; exact toDef_ev (wL_mem h (List.mem_of_getElem? hx))) es hes (fun i es => laws_toDefS_1 (xs.map GDef.enc) i es)) (fun es hes => by
    rw [laws_toDefS_1_eq]
    exact szDone)
  exact this (xs.map GDef.enc).length 0 _ (by omega) (by simp) (fun j hj => by omega)
theorem toDoc_ev {xs : List GDef} (h : wL wDef xs ≤ 1048576) : ev E0 F_laws_toDoc [.p (.agg 1 [.sl 4 (xs.map GDef.enc)])] [] = rA 1 [.sl 4 (xs.map GDef.enc)] := by
  rw [laws_toDoc_0_ev, laws_toDoc_0_eq, toDefS_ev h, bL]

/-! ### what is equal to itself -/
theorem eqLoop {L : Int → Option Res} {n : Nat} (step : ∀ i : Nat, i < n → L i = L ((i : Int) + 1)) (done : L n = rB true) : ∀ (k i : Nat), i + k = n → L i = rB true
  | 0, i, h => by have : i = n := by omega
                  subst this; exact done
  | k + 1, i, h => by
    rw [step i (by omega)]
    have := eqLoop step done k (i + 1) (by omega)
    have e : ((i + 1 : Nat) : Int) = (i : Int) + 1 := by omega
    rw [e] at this
    exact this
theorem eqStep {i n : Nat} (hi : i < n) (hn : n ≤ 9223372036854775807) {o D : Option Res} (ho : o = rB true) (L : Int → Option Res) :
    (bif decide ((i : Int) < (n : Int)) then (if 0 ≤ (i : Int) ∧ (i : Int) < (n : Int) then (if 0 ≤ (i : Int) ∧ (i : Int) < (n : Int) then (o.bind fun r => (asBool (pAt 0 r.1)).bind fun b => if r.1.length = 1 then (bif !(b) then rB false else L (IntKind.i64.wrap ((i : Int) + 1))) else none) else none) else none) else D) = L ((i : Int) + 1) := by
  rw [decide_eq_true (by omega), cond_true, if_pos (by omega), if_pos (by omega), ho, bB (K := fun b => bif !(b) then rB false else L (IntKind.i64.wrap ((i : Int) + 1))), wrap_id (by omega)]
  rfl
theorem ne_self {α : Type} [BEq α] [LawfulBEq α] (x : α) : (x != x) = false := by simp
theorem nd_self (s : ByteArray) : (!decide (s = s)) = false := by simp
theorem nb_self (b : Bool) : (!(b == b)) = false := by simp
theorem eqValue_ev (v : GVal) : ev E0 F_laws_eqValue [.p (.agg 3 [.int .i64 v.kind, .int .i64 v.n, .str v.t]), .p (.agg 3 [.int .i64 v.kind, .int .i64 v.n, .str v.t])] [] = rB true := by
  rw [laws_eqValue_0_ev, laws_eqValue_0_eq, ne_self, ne_self, nd_self]
  rfl
theorem eqArg_ev (a : GArg) : ev E0 F_laws_eqArg [.p (.agg 4 a.enc), .p (.agg 4 a.enc)] [] = rB true := by
  unfold GArg.enc
  rw [laws_eqArg_0_ev, laws_eqArg_0_eq, nd_self, cond_false, eqValue_ev, bB]
  rfl
theorem eqDir_ev (a : GDir) : ev E0 F_laws_eqDir [.p (.agg 4 a.enc), .p (.agg 4 a.enc)] [] = rB true := by
  unfold GDir.enc
  rw [laws_eqDir_0_ev, laws_eqDir_0_eq, nb_self, cond_false, eqValue_ev, bB]
  rfl
theorem eqArgS_ev {xs : List GArg} (h : xs.length ≤ 9223372036854775807) : ev E0 F_laws_eqArgS [.p (.sl 4 (xs.map GArg.enc)), .p (.sl 4 (xs.map GArg.enc))] [] = rB true := by
  rw [laws_eqArgS_0_ev, laws_eqArgS_0_eq, ne_self, cond_false]
  exact eqLoop (L := fun i => laws_eqArgS_1 (xs.map GArg.enc) (xs.map GArg.enc) i) (n := (xs.map GArg.enc).length) (fun i hi => by
    have hi' : i < xs.length := by simpa using hi
    rw [laws_eqArgS_1_eq]
    exact eqStep hi (by simpa using h) (by rw [getD_enc (List.getElem?_eq_getElem hi')]; exact eqArg_ev _) (fun i => laws_eqArgS_1 (xs.map GArg.enc) (xs.map GArg.enc) i)) (by
    rw [laws_eqArgS_1_eq]; exact szDone) (xs.map GArg.enc).length 0 (by omega)
theorem eqDirS_ev {xs : List GDir} (h : xs.length ≤ 9223372036854775807) : ev E0 F_laws_eqDirS [.p (.sl 4 (xs.map GDir.enc)), .p (.sl 4 (xs.map GDir.enc))] [] = rB true := by
  rw [laws_eqDirS_0_ev, laws_eqDirS_0_eq, ne_self, cond_false]
  exact eqLoop (L := fun i => laws_eqDirS_1 (xs.map GDir.enc) (xs.map GDir.enc) i) (n := (xs.map GDir.enc).length) (fun i hi => by
    have hi' : i < xs.length := by simpa using hi
    rw [laws_eqDirS_1_eq]
    exact eqStep hi (by simpa using h) (by rw [getD_enc (List.getElem?_eq_getElem hi')]; exact eqDir_ev _) (fun i => laws_eqDirS_1 (xs.map GDir.enc) (xs.map GDir.enc) i)) (by
    rw [laws_eqDirS_1_eq]; exact szDone) (xs.map GDir.enc).length 0 (by omega)
theorem eqSelS_of {xs : List GSel} (h : xs.length ≤ 9223372036854775807) (ih : ∀ x ∈ xs, ev E0 F_laws_eqSel [.p (.agg 6 x.enc), .p (.agg 6 x.enc)] [] = rB true) : ev E0 F_laws_eqSelS [.p (.sl 6 (xs.map GSel.enc)), .p (.sl 6 (xs.map GSel.enc))] [] = rB true := by
  rw [laws_eqSelS_0_ev, laws_eqSelS_0_eq, ne_self, cond_false]
  exact eqLoop (L := fun i => laws_eqSelS_1 (xs.map GSel.enc) (xs.map GSel.enc) i) (n := (xs.map GSel.enc).length) (fun i hi => by
    have hi' : i < xs.length := by simpa using hi
    rw [laws_eqSelS_1_eq]
    exact eqStep hi (by simpa using h) (by rw [getD_enc (List.getElem?_eq_getElem hi')]; exact ih _ (List.getElem_mem _)) (fun i => laws_eqSelS_1 (xs.map GSel.enc) (xs.map GSel.enc) i)) (by
    rw [laws_eqSelS_1_eq]; exact szDone) (xs.map GSel.enc).length 0 (by omega)
mutual
theorem eqSel_ev : ∀ (x : GSel), okSel x → ev E0 F_laws_eqSel [.p (.agg 6 x.enc), .p (.agg 6 x.enc)] [] = rB true
  | .mk k a n args dirs sels, hx => by
    obtain ⟨x1, x2, x3, x4, x5, x6⟩ := hx
    unfold GSel.enc
    rw [laws_eqSel_0_ev, laws_eqSel_0_eq, ne_self, nd_self, nd_self, cond_false, cond_false, cond_false, eqArgS_ev x3.1, bB, GSel.encs_eq]
    show ((ev E0 F_laws_eqDirS _ _).bind _) = _
    rw [eqDirS_ev x4.1, bB]
    show ((ev E0 F_laws_eqSelS _ _).bind _) = _
    rw [eqSelS_of x5 (eqSels_ev sels x6), bB]
    rfl
theorem eqSels_ev : ∀ (xs : List GSel), okSels xs → ∀ x ∈ xs, ev E0 F_laws_eqSel [.p (.agg 6 x.enc), .p (.agg 6 x.enc)] [] = rB true
  | [], _, x, hx => by cases hx
  | y :: ys, h, x, hx => by
    rcases List.mem_cons.1 hx with q | q
    · rw [q]; exact eqSel_ev y h.1
    · exact eqSels_ev ys h.2 x q
end
theorem eqDef_ev {d : GDef} (h : okDef d) : ev E0 F_laws_eqDef [.p (.agg 4 d.enc), .p (.agg 4 d.enc)] [] = rB true := by
  unfold GDef.enc
  rw [laws_eqDef_0_ev, laws_eqDef_0_eq, ne_self, nd_self, nd_self, cond_false, cond_false, cond_false, eqSelS_of h.2.2.1 (fun x hx => eqSel_ev x (h.2.2.2 x hx)), bB]
  rfl
theorem eqDefS_ev {xs : List GDef} (h : okL okDef xs) : ev E0 F_laws_eqDefS [.p (.sl 4 (xs.map GDef.enc)), .p (.sl 4 (xs.map GDef.enc))] [] = rB true := by
  rw [laws_eqDefS_0_ev, laws_eqDefS_0_eq, ne_self, cond_false]
  exact eqLoop (L := fun i => laws_eqDefS_1 (xs.map GDef.enc) (xs.map GDef.enc) i) (n := (xs.map GDef.enc).length) (fun i hi => by
    have hi' : i < xs.length := by simpa using hi
    rw [laws_eqDefS_1_eq]
    exact eqStep hi (by simpa using h.1) (by rw [getD_enc (List.getElem?_eq_getElem hi')]; exact eqDef_ev (h.2 _ (List.getElem_mem _))) (fun i => laws_eqDefS_1 (xs.map GDef.enc) (xs.map GDef.enc) i)) (by
    rw [laws_eqDefS_1_eq]; exact szDone) (xs.map GDef.enc).length 0 (by omega)
theorem eqDoc_ev {xs : List GDef} (h : okL okDef xs) : ev E0 F_laws_eqDoc [.p (.agg 1 [.sl 4 (xs.map GDef.enc)]), .p (.agg 1 [.sl 4 (xs.map GDef.enc)])] [] = rB true := by
  rw [laws_eqDoc_0_ev, laws_eqDoc_0_eq, eqDefS_ev h, bB]
  rfl
end Go.Proofs.YtlmmimhjfajhdaaGreatDoor.Dm
