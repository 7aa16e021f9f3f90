/- What is of no document: sizes, copies, comparisons; names, numbers; the texts that the library gives. -/
import Derived.Test.YtakbdjdafcjglaaGreatDoorS2
import Derived.Test.YtakbdjdafcjglaaGreatDoorDm19
import Derived.Laws.BitsLemmas
namespace Go.Proofs.YtakbdjdafcjglaaGreatDoor.Dm
set_option linter.unusedVariables false
set_option linter.unusedSimpArgs false

theorem wrap_id {n : Int} (h : -9223372036854775808 ≤ n ∧ n ≤ 9223372036854775807) : IntKind.i64.wrap n = n := by rw [IntKind.wrap_i64]; omega
abbrev rI (v : Int) : Option Res := some ([.p (.int .i64 v)], [])
abbrev rB (v : Bool) : Option Res := some ([.p (.bool v)], [])
abbrev rA (n : Nat) (v : List Pd) : Option Res := some ([.p (.agg n v)], [])
abbrev rL (n : Nat) (v : List (List Pd)) : Option Res := some ([.p (.sl n v)], [])
section
variable {R : Type}
theorem bI (v : Int) (K : Int → Option R) : ((rI v).bind fun r => (asInt .i64 (pAt 0 r.1)).bind fun v => if r.1.length = 1 then K v else none) = K v := by simp [pAt, asInt]
theorem bB (v : Bool) (K : Bool → Option R) : ((rB v).bind fun r => (asBool (pAt 0 r.1)).bind fun v => if r.1.length = 1 then K v else none) = K v := by simp [pAt, asBool]
theorem bA (n : Nat) (v : List Pd) (K : List Pd → Option R) : ((rA n v).bind fun r => (asAgg n (pAt 0 r.1)).bind fun v => if r.1.length = 1 then K v else none) = K v := by simp [pAt, asAgg]
theorem bL (n : Nat) (v : List (List Pd)) (K : List (List Pd) → Option R) : ((rL n v).bind fun r => (asSl n (pAt 0 r.1)).bind fun v => if r.1.length = 1 then K v else none) = K v := by simp [pAt, asSl]
end
theorem getD_enc {α : Type} {f : α → List Pd} {xs : List α} {i : Nat} {x : α} (h : xs[i]? = some x) : (xs.map f).getD (i : Int).toNat [] = f x := by
  simp [List.getD_eq_getElem?_getD, h]
theorem lt_of_get {α : Type} {xs : List α} {i : Nat} {x : α} (h : xs[i]? = some x) : i < xs.length := (List.getElem?_eq_some_iff.1 h).1

def wL {α : Type} (f : α → Nat) (xs : List α) : Nat := xs.length + (xs.map f).sum
def okL {α : Type} (f : α → Prop) (xs : List α) : Prop := xs.length ≤ 9223372036854775807 ∧ ∀ x ∈ xs, f x
/-! ### sizes -/
def szV (w : Nat) (left : Int) : Int := if (w : Int) ≤ left then left - w else -1
theorem szV_lt {w : Nat} {left : Int} : szV w left < 0 ↔ left < w := by unfold szV; split <;> omega
theorem szV_add {a b : Nat} {left : Int} (h : (a : Int) ≤ left) : szV (a + b) left = szV b (szV a left) := by
  unfold szV; rw [if_pos h]; split <;> split <;> omega
theorem szLoop {L : Int → Int → Option Res} {ws : List Nat} (step : ∀ (i w : Nat), ws[i]? = some w → ∀ left : Int, 0 ≤ left → left ≤ 1048576 → L left i = if (w : Int) ≤ left then L (left - w) ((i : Int) + 1) else rI (-1))
    (done : ∀ left, L left ws.length = rI left) : ∀ (k i : Nat) (left : Int), i + k = ws.length → 0 ≤ left → left ≤ 1048576 → L left i = rI (szV (ws.drop i).sum left)
  | 0, i, left, h, h0, h1 => by
    have : i = ws.length := by omega
    subst this
    rw [done, List.drop_length]
    simp [szV, h0]
  | k + 1, i, left, h, h0, h1 => by
    have hlt : i < ws.length := by omega
    rw [step i ws[i] (List.getElem?_eq_getElem hlt) left h0 h1, List.drop_eq_getElem_cons hlt, List.sum_cons]
    split
    · rename_i hw
      have := szLoop step done k (i + 1) (left - ws[i]) (by omega) (by omega) (by omega)
      have e : ((i + 1 : Nat) : Int) = (i : Int) + 1 := by omega
      rw [e] at this
      rw [this, szV_add hw]
      unfold szV
      rw [if_pos hw]
    · rename_i hw
      have : szV (ws[i] + (ws.drop (i + 1)).sum) left = -1 := by unfold szV; rw [if_neg (by omega)]
      rw [this]
/-- the front of each sz-function over a row: its length first -/
theorem szRow {L : Int → Int → Option Res} {ws : List Nat} (hl : ws.length ≤ 9223372036854775807) {left : Int} (h0 : 0 ≤ left) (h1 : left ≤ 1048576)
    (step : ∀ (i w : Nat), ws[i]? = some w → ∀ left : Int, 0 ≤ left → left ≤ 1048576 → L left i = if (w : Int) ≤ left then L (left - w) ((i : Int) + 1) else rI (-1)) (done : ∀ left, L left ws.length = rI left) :
    (bif decide ((IntKind.i64.wrap (left - (ws.length : Int)) : Int) < 0) then rI (-1) else L (IntKind.i64.wrap (left - (ws.length : Int))) 0) = rI (szV (ws.length + ws.sum) left) := by
  rw [wrap_id (by omega)]
  by_cases hlt : left - (ws.length : Int) < 0
  · rw [decide_eq_true hlt, cond_true]
    unfold szV
    rw [if_neg (by omega)]
  · rw [decide_eq_false hlt, cond_false]
    have := szLoop step done ws.length 0 (left - ws.length) (by omega) (by omega) (by omega)
    have e : ((0 : Nat) : Int) = 0 := rfl
    rw [e] at this
    rw [this, List.drop_zero, szV_add (by omega)]
    unfold szV
    rw [if_pos (show (ws.length : Int) ≤ left by omega)]
/-- one step over a string -/
theorem szStr {s : ByteArray} (hs : s.size ≤ 9223372036854775807) {left : Int} (h0 : 0 ≤ left) (h1 : left ≤ 1048576) {K : Int → Option Res} :
    (bif decide ((IntKind.i64.wrap (left - (s.size : Int)) : Int) < 0) then rI (-1) else K (IntKind.i64.wrap (left - (s.size : Int)))) = if (s.size : Int) ≤ left then K (left - s.size) else rI (-1) := by
  rw [wrap_id (by omega)]
  by_cases hlt : left - (s.size : Int) < 0
  · rw [decide_eq_true hlt, cond_true, if_neg (by omega)]
  · rw [decide_eq_false hlt, cond_false, if_pos (by omega)]
/-- one step over a part -/
theorem szPart {w : Nat} {left : Int} (h0 : 0 ≤ left) {K : Int → Option Res} :
    (bif decide ((szV w left : Int) < 0) then rI (-1) else K (szV w left)) = if (w : Int) ≤ left then K (left - w) else rI (-1) := by
  by_cases hlt : (w : Int) ≤ left
  · rw [if_pos hlt]
    have : szV w left = left - w := if_pos hlt
    rw [this, decide_eq_false (by omega), cond_false]
  · rw [if_neg hlt]
    have : szV w left = -1 := if_neg hlt
    rw [this, decide_eq_true (by omega), cond_true]
theorem szStep {i n w : Nat} (hi : i < n) (hn : n ≤ 9223372036854775807) {left : Int} {o D : Option Res} (ho : o = rI (szV w left)) (h0 : 0 ≤ left) (L : Int → Int → Option Res) :
    (bif decide ((i : Int) < (n : Int)) then (if 0 ≤ (i : Int) ∧ (i : Int) < (n : Int) then (o.bind fun r => (asInt .i64 (pAt 0 r.1)).bind fun v => if r.1.length = 1 then (bif decide ((v : Int) < 0) then rI (-1) else L v (IntKind.i64.wrap ((i : Int) + 1))) else none) else none) else D) = if (w : Int) ≤ left then L (left - w) ((i : Int) + 1) else rI (-1) := by
  rw [decide_eq_true (by omega), cond_true, if_pos (by omega), ho, bI (K := fun v => bif decide ((v : Int) < 0) then rI (-1) else L v (IntKind.i64.wrap ((i : Int) + 1))), wrap_id (by omega), szPart h0 (K := fun v => L v ((i : Int) + 1))]
theorem szDone {n : Nat} {A D : Option Res} : (bif decide ((n : Int) < (n : Int)) then A else D) = D := by
  rw [decide_eq_false (by omega), cond_false]
theorem szV_pos {w : Nat} {left : Int} (h : (w : Int) ≤ left) : szV w left = left - w := if_pos h
theorem szV_neg {w : Nat} {left : Int} (h : ¬ (w : Int) ≤ left) : szV w left = -1 := if_neg h
theorem szEnd {w : Nat} {left : Int} : (if (w : Int) ≤ left then rI (left - w) else rI (-1)) = rI (szV w left) := by
  unfold szV; split <;> rfl
theorem szThen {a b : Nat} {left : Int} {X : Option Res} (h : (a : Int) ≤ left → X = rI (szV b (left - a))) : (if (a : Int) ≤ left then X else rI (-1)) = rI (szV (a + b) left) := by
  by_cases hs : (a : Int) ≤ left
  · rw [if_pos hs, h hs, szV_add hs, szV_pos hs]
  · rw [if_neg hs, szV_neg (by omega)]
theorem szPart0 {w : Nat} {left : Int} : (bif decide ((szV w left : Int) < 0) then rI (-1) else rI (szV w left)) = rI (szV w left) := by
  unfold szV
  split
  · rw [decide_eq_false (by omega), cond_false]
  · rfl
/-! ### copies -/
theorem setEl_all {es : List (List Pd)} {i s : Nat} {c : List Pd} : setEl es i s 0 s (.agg s c) = es.set i c := by simp [setEl, pcells]
theorem toLoop {L : Int → List (List Pd) → Option Res} {ys : List (List Pd)} {s : Nat} (step : ∀ (i : Nat) (y : List Pd), ys[i]? = some y → ∀ es : List (List Pd), es.length = ys.length → L i es = L ((i : Int) + 1) (es.set i y)) (done : ∀ es : List (List Pd), es.length = ys.length → L ys.length es = rL s es) :
    ∀ (k i : Nat) (es : List (List Pd)), i + k = ys.length → es.length = ys.length → (∀ j, j < i → es[j]? = ys[j]?) → L i es = rL s ys
  | 0, i, es, h, hl, hj => by
    have : i = ys.length := by omega
    subst this
    rw [done es hl]
    have : es = ys := by
      apply List.ext_getElem? 
      intro j
      by_cases hlt : j < ys.length
      · exact hj j hlt
      · rw [List.getElem?_eq_none (by omega), List.getElem?_eq_none (by omega)]
    rw [this]
  | k + 1, i, es, h, hl, hj => by
    have hlt : i < ys.length := by omega
    rw [step i ys[i] (List.getElem?_eq_getElem hlt) es hl]
    have := toLoop step done k (i + 1) (es.set i ys[i]) (by omega) (by simpa using hl) (fun j hj' => by
      by_cases e : i = j
      · subst e
        rw [List.getElem?_set_self (by omega), List.getElem?_eq_getElem hlt]
      · rw [List.getElem?_set_ne e]
        exact hj j (by omega))
    have e : ((i + 1 : Nat) : Int) = (i : Int) + 1 := by omega
    rw [e] at this
    exact this
theorem toStep {i n s : Nat} (hi : i < n) (hn : n ≤ 9223372036854775807) {o D : Option Res} {c : List Pd} (ho : o = rA s c) (es : List (List Pd)) (hes : es.length = n) (L : Int → List (List Pd) → Option Res) :
    (bif decide ((i : Int) < (n : Int)) then (if 0 ≤ (i : Int) ∧ (i : Int) < (n : Int) then (o.bind fun r => (asAgg s (pAt 0 r.1)).bind fun v => if r.1.length = 1 then (if 0 ≤ (i : Int) ∧ (i : Int) < (es.length : Int) then (if s = s ∧ ((i : Int).toNat) < es.length then (if 0 + s ≤ s then (L (IntKind.i64.wrap ((i : Int) + 1)) (setEl es ((i : Int).toNat) s 0 s (.agg s v))) else none) else none) else none) else none) else none) else D) = L ((i : Int) + 1) (es.set i c) := by
  rw [decide_eq_true (by omega), cond_true, if_pos (by omega), ho, bA, if_pos (by omega), if_pos (by omega), if_pos (by omega), wrap_id (by omega), setEl_all]
  rfl
theorem toFront {n b : Nat} (h : n * b ≤ 140737488355328) (hb : b ≠ 0) {X : Option Res} : (if 0 ≤ ((n : Int) : Int) ∧ ((n : Int) : Int) ≤ (n : Int) ∧ ((n : Int) : Int).toNat * b ≤ LIM ∧ b ≠ 0 then X else none) = X := by
  rw [if_pos]
  refine ⟨by omega, by omega, ?_, hb⟩
  rw [Int.toNat_natCast]
  exact h
theorem wL_len {α : Type} {f : α → Nat} {xs : List α} {n : Nat} (h : wL f xs ≤ n) : xs.length ≤ n := by unfold wL at h; omega
theorem le_sum : ∀ {l : List Nat} {x : Nat}, x ∈ l → x ≤ l.sum
  | y :: l, x, h => by
    rw [List.sum_cons]
    rcases List.mem_cons.1 h with q | q
    · omega
    · have := le_sum q; omega
theorem wL_mem {α : Type} {f : α → Nat} {xs : List α} {n : Nat} (h : wL f xs ≤ n) {x : α} (hx : x ∈ xs) : f x ≤ n := by
  have : f x ≤ (xs.map f).sum := le_sum (List.mem_map_of_mem hx)
  unfold wL at h; omega
/-! ### what is equal to itself -/
theorem eqLoop {L : Int → Option Res} {n : Nat} (step : ∀ i : Nat, i < n → L i = L ((i : Int) + 1)) (done : L n = rB true) : ∀ (k i : Nat), i + k = n → L i = rB true
  | 0, i, h => by have : i = n := by omega
                  subst this; exact done
  | k + 1, i, h => by
    rw [step i (by omega)]
    have := eqLoop step done k (i + 1) (by omega)
    have e : ((i + 1 : Nat) : Int) = (i : Int) + 1 := by omega
    rw [e] at this
    exact this
theorem eqStep {i n : Nat} (hi : i < n) (hn : n ≤ 9223372036854775807) {o D : Option Res} (ho : o = rB true) (L : Int → Option Res) :
    (bif decide ((i : Int) < (n : Int)) then (if 0 ≤ (i : Int) ∧ (i : Int) < (n : Int) then (if 0 ≤ (i : Int) ∧ (i : Int) < (n : Int) then (o.bind fun r => (asBool (pAt 0 r.1)).bind fun b => if r.1.length = 1 then (bif !(b) then rB false else L (IntKind.i64.wrap ((i : Int) + 1))) else none) else none) else none) else D) = L ((i : Int) + 1) := by
  rw [decide_eq_true (by omega), cond_true, if_pos (by omega), if_pos (by omega), ho, bB (K := fun b => bif !(b) then rB false else L (IntKind.i64.wrap ((i : Int) + 1))), wrap_id (by omega)]
  rfl
theorem ne_self {α : Type} [BEq α] [LawfulBEq α] (x : α) : (x != x) = false := by simp
theorem nd_self (s : ByteArray) : (!decide (s = s)) = false := by simp
theorem nb_self (b : Bool) : (!(b == b)) = false := by simp
section
variable {P : Program} {t : TypeId} {xs : List Pd}
theorem WT.int_inv {k : IntKind} (hu : P.underlying t = some (.int k)) (h : WT P t xs) : ∃ n, xs = [.int k n] ∧ (Lit.int k n).wf = true := by
  cases h with
  | int q w => rw [hu] at q; injection q with q; injection q with q; subst q; exact ⟨_, rfl, w⟩
  | bool q => rw [hu] at q; cases q
  | str q => rw [hu] at q; cases q
  | sl q => rw [hu] at q; cases q
  | struct q => rw [hu] at q; cases q
theorem WT.bool_inv (hu : P.underlying t = some .bool) (h : WT P t xs) : ∃ b, xs = [.bool b] := by
  cases h with
  | bool q => exact ⟨_, rfl⟩
  | int q => rw [hu] at q; cases q
  | str q => rw [hu] at q; cases q
  | sl q => rw [hu] at q; cases q
  | struct q => rw [hu] at q; cases q
theorem WT.str_inv (hu : P.underlying t = some .string) (h : WT P t xs) : ∃ s, xs = [.str s] ∧ s.size ≤ 9223372036854775807 := by
  cases h with
  | str q w => exact ⟨_, rfl, w⟩
  | int q => rw [hu] at q; cases q
  | bool q => rw [hu] at q; cases q
  | sl q => rw [hu] at q; cases q
  | struct q => rw [hu] at q; cases q
theorem WT.sl_inv {e : TypeId} (hu : P.underlying t = some (.slice e)) (h : WT P t xs) : ∃ es, xs = [.sl (P.cellsOf e) es] ∧ es.length ≤ 9223372036854775807 ∧ (∀ x ∈ es, x.length = P.cellsOf e) ∧ ∀ x ∈ es, WT P e x := by
  cases h with
  | sl q h1 h2 h3 => rw [hu] at q; injection q with q; injection q with q; subst q; exact ⟨_, rfl, h1, h2, h3⟩
  | int q => rw [hu] at q; cases q
  | bool q => rw [hu] at q; cases q
  | str q => rw [hu] at q; cases q
  | struct q => rw [hu] at q; cases q
theorem WT.struct_inv {fs : Array Field} (hu : P.underlying t = some (.struct fs)) (h : WT P t xs) : xs.length = P.cellsOf t ∧ ∀ f ∈ fs.toList, WT P f.type ((xs.drop f.offset).take (P.cellsOf f.type)) := by
  cases h with
  | struct q h1 h2 => rw [hu] at q; injection q with q; injection q with q; subst q; exact ⟨h1, h2⟩
  | int q => rw [hu] at q; cases q
  | bool q => rw [hu] at q; cases q
  | str q => rw [hu] at q; cases q
  | sl q => rw [hu] at q; cases q
end
theorem len1 {l : List Pd} (h : l.length = 1) : ∃ a, l = [a] := by
  match l, h with
  | [a], _ => exact ⟨a, rfl⟩
theorem len3 {l : List Pd} (h : l.length = 3) : ∃ a b c, l = [a, b, c] := by
  match l, h with
  | [a, b, c], _ => exact ⟨a, b, c, rfl⟩
theorem len4 {l : List Pd} (h : l.length = 4) : ∃ a b c d, l = [a, b, c, d] := by
  match l, h with
  | [a, b, c, d], _ => exact ⟨a, b, c, d, rfl⟩
theorem len6 {l : List Pd} (h : l.length = 6) : ∃ a b c d e f, l = [a, b, c, d, e, f] := by
  match l, h with
  | [a, b, c, d, e, f], _ => exact ⟨a, b, c, d, e, f, rfl⟩
theorem list_dec {α : Type} {f : α → List Pd} {ok : α → Prop} : ∀ {es : List (List Pd)}, (∀ x ∈ es, ∃ v, x = f v ∧ ok v) → ∃ l : List α, es = l.map f ∧ ∀ v ∈ l, ok v
  | [], _ => ⟨[], rfl, fun v h => by cases h⟩
  | x :: es, h => by
    obtain ⟨v, e1, e2⟩ := h x (List.mem_cons_self ..)
    obtain ⟨l, q1, q2⟩ := list_dec (fun y hy => h y (List.mem_cons_of_mem _ hy))
    exact ⟨v :: l, by rw [e1, q1]; rfl, fun w hw => by
      rcases List.mem_cons.1 hw with q | q
      · exact q ▸ e2
      · exact q2 w q⟩
def letterB (n : Int) : Bool := (decide (n ≥ 97) && decide (n ≤ 122)) || (decide (n ≥ 65) && decide (n ≤ 90)) || n == 95
def digitB (n : Int) : Bool := decide (n ≥ 48) && decide (n ≤ 57)
def withinB (n a b : Int) : Bool := decide (a ≤ n) && decide (n ≤ b)
def goodFrom (s : ByteArray) : Nat → Nat → Bool
  | 0, _ => true
  | k + 1, i => (letterB (bt s i) || digitB (bt s i)) && goodFrom s k (i + 1)
def nameB (s : ByteArray) : Bool := withinB s.size 1 40 && letterB (bt s 0) && goodFrom s (s.size - 1) 1
theorem spec_letter_ev (n : Int) : ev E0 F_spec_l00Letter [.p (.int .u8 n)] [] = rB (letterB n) := by
  rw [spec_l00Letter_0_ev, spec_l00Letter_0_eq]
  unfold letterB
  cases decide (n ≥ 97) <;> cases decide (n ≤ 122) <;> cases decide (n ≥ 65) <;> cases decide (n ≤ 90) <;> simp
theorem impl_letter_ev (n : Int) : ev E0 F_impl_isLetter [.p (.int .u8 n)] [] = rB (letterB n) := by
  rw [impl_isLetter_0_ev, impl_isLetter_0_eq]
  unfold letterB
  cases decide (n ≥ 97) <;> cases decide (n ≤ 122) <;> cases decide (n ≥ 65) <;> cases decide (n ≤ 90) <;> simp
theorem spec_digit_ev (n : Int) : ev E0 F_spec_l00Digit [.p (.int .u8 n)] [] = rB (digitB n) := by
  rw [spec_l00Digit_0_ev, spec_l00Digit_0_eq]
  unfold digitB
  cases decide (n ≥ 48) <;> simp
theorem impl_digit_ev (n : Int) : ev E0 F_impl_isDigit [.p (.int .u8 n)] [] = rB (digitB n) := by
  rw [impl_isDigit_0_ev, impl_isDigit_0_eq]
  unfold digitB
  cases decide (n ≥ 48) <;> simp
theorem l01In_ev (n a b : Int) : ev E0 F_spec_l01In [.p (.int .i64 n), .p (.int .i64 a), .p (.int .i64 b)] [] = rB (withinB n a b) := by
  rw [spec_l01In_0_ev, spec_l01In_0_eq]
  unfold withinB
  cases decide (a ≤ n) <;> simp
theorem within_ev (n a b : Int) : ev E0 F_impl_within [.p (.int .i64 n), .p (.int .i64 a), .p (.int .i64 b)] [] = rB (withinB n a b) := by
  rw [impl_within_0_ev, impl_within_0_eq]
  unfold withinB
  cases hx : decide (a ≤ n) <;> simp_all
theorem spec_IsInt_ev (n : Int) : ev E0 F_spec_IsInt [.p (.int .i64 n)] [] = rB (withinB n (-2147483648) 2147483647) := by
  rw [spec_IsInt_0_ev, spec_IsInt_0_eq, l01In_ev, bB]
theorem impl_IsInt_ev (n : Int) : ev E0 F_impl_IsInt [.p (.int .i64 n)] [] = rB (withinB n (-2147483648) 2147483647) := by
  rw [impl_IsInt_0_ev, impl_IsInt_0_eq, within_ev, bB]

theorem word_loop {s : ByteArray} (hs : s.size ≤ 9223372036854775807) : ∀ (k i : Nat), i + k = s.size → spec_l00Word_2 s i = rB (goodFrom s k i)
  | 0, i, h => by
    rw [spec_l00Word_2_eq, decide_eq_false (by omega), cond_false]
    rfl
  | k + 1, i, h => by
    have ih := word_loop hs k (i + 1) (by omega)
    have e : ((i + 1 : Nat) : Int) = (i : Int) + 1 := by omega
    rw [e] at ih
    rw [spec_l00Word_2_eq, decide_eq_true (by omega), cond_true, if_pos (by omega), spec_letter_ev, bB, Int.toNat_natCast]
    unfold goodFrom
    cases hl : letterB (bt s i) with
    | true =>
      simp only [Bool.not_true, cond_false, spec_l00Word_3_eq, Bool.true_or, Bool.true_and]
      rw [wrap_id (by omega), ih]
    | false =>
      simp only [Bool.not_false, cond_true, Bool.false_or]
      rw [if_pos (by omega), spec_digit_ev, bB]
      cases hd : digitB (bt s i) with
      | true =>
        simp only [Bool.not_true, spec_l00Word_3_eq, cond_false, Bool.true_and]
        rw [wrap_id (by omega), ih]
      | false => simp only [Bool.not_false, spec_l00Word_3_eq, cond_true, Bool.false_and]
theorem spec_NameOK_ev {s : ByteArray} (hs : s.size ≤ 9223372036854775807) : ev E0 F_spec_NameOK [.p (.str s)] [] = rB (nameB s) := by
  have hw : ev E0 F_spec_l00Word [.p (.str s)] [] = rB (nameB s) := by
    rw [spec_l00Word_0_ev, spec_l00Word_0_eq]
    unfold nameB withinB
    by_cases h1 : (s.size : Int) < 1
    · rw [decide_eq_true h1, cond_true, spec_l00Word_1_eq, cond_true]
      have : decide (1 ≤ (s.size : Int)) = false := decide_eq_false (by omega)
      rw [this]
      simp
    · have e1 : decide (1 ≤ (s.size : Int)) = true := decide_eq_true (by omega)
      rw [decide_eq_false h1, cond_false, e1]
      by_cases h2 : (s.size : Int) > 40
      · have e2 : decide ((s.size : Int) ≤ 40) = false := decide_eq_false (by omega)
        rw [decide_eq_true h2, cond_true, spec_l00Word_1_eq, cond_true, e2]
        simp
      · have e2 : decide ((s.size : Int) ≤ 40) = true := decide_eq_true (by omega)
        rw [decide_eq_false h2, cond_false, e2, if_pos (by omega), spec_letter_ev, bB, spec_l00Word_1_eq]
        have e3 : (0 : Int).toNat = 0 := rfl
        rw [e3]
        cases hl : letterB (bt s 0) with
        | false => simp
        | true =>
          have := word_loop hs (s.size - 1) 1 (by omega)
          have e : ((1 : Nat) : Int) = 1 := rfl
          rw [e] at this
          simp only [Bool.not_true, cond_false, this, Bool.and_self, Bool.true_and]
  rw [spec_NameOK_0_ev, spec_NameOK_0_eq, hw, bB]
theorem name_loop {s : ByteArray} (hs : s.size ≤ 9223372036854775807) : ∀ (k i : Nat), i + k = s.size → impl_NameOK_1 s s.size i = rB ((if i = 0 then (if k = 0 then true else letterB (bt s 0) && goodFrom s (k - 1) 1) else goodFrom s k i) && withinB s.size 1 40)
  | 0, i, h => by
    rw [impl_NameOK_1_eq, decide_eq_false (by omega), cond_false, within_ev, bB]
    unfold goodFrom
    simp
  | k + 1, i, h => by
    have ih := name_loop hs k (i + 1) (by omega)
    have e : ((i + 1 : Nat) : Int) = (i : Int) + 1 := by omega
    rw [e] at ih
    have hne : i + 1 ≠ 0 := by omega
    rw [if_neg hne] at ih
    rw [impl_NameOK_1_eq, decide_eq_true (by omega), cond_true, if_pos (by omega), impl_letter_ev, bB, Int.toNat_natCast]
    by_cases hi : i = 0
    · subst hi
      rw [if_pos rfl, if_neg (Nat.succ_ne_zero k), Nat.add_sub_cancel]
      have e0 : (((0 : Nat) : Int) == 0) = true := rfl
      cases hl : letterB (bt s 0) with
      | true =>
        simp only [Bool.not_true, cond_false, impl_NameOK_2_eq, Bool.true_and]
        rw [wrap_id (by omega), ih]
      | false => simp only [Bool.not_false, cond_true, e0, impl_NameOK_2_eq, Bool.false_and]
    · rw [if_neg hi]
      have e0 : ((i : Int) == 0) = false := by simpa using hi
      unfold goodFrom
      cases hl : letterB (bt s i) with
      | true =>
        simp only [Bool.not_true, cond_false, impl_NameOK_2_eq, Bool.true_or, Bool.true_and]
        rw [wrap_id (by omega), ih]
      | false =>
        simp only [Bool.not_false, cond_true, e0, cond_false, Bool.false_or]
        rw [if_pos (by omega), impl_digit_ev, bB]
        cases hd : digitB (bt s i) with
        | true =>
          simp only [Bool.not_true, impl_NameOK_2_eq, cond_false, Bool.true_and]
          rw [wrap_id (by omega), ih]
        | false => simp only [Bool.not_false, impl_NameOK_2_eq, cond_true, Bool.false_and]
theorem impl_NameOK_ev {s : ByteArray} (hs : s.size ≤ 9223372036854775807) : ev E0 F_impl_NameOK [.p (.str s)] [] = rB (nameB s) := by
  rw [impl_NameOK_0_ev, impl_NameOK_0_eq]
  have := name_loop hs s.size 0 (by omega)
  have e : ((0 : Nat) : Int) = 0 := rfl
  rw [e] at this
  rw [this, if_pos rfl]
  unfold nameB
  by_cases h0 : s.size = 0
  · rw [if_pos h0, h0]
    rfl
  · rw [if_neg h0, Bool.and_comm, ← Bool.and_assoc]
theorem beq_int (a b : Int) : (a == b) = decide (a = b) := by
  by_cases h : a = b <;> simp [h]
theorem int_gt0 (n : Nat) : decide ((n : Int) > 0) = decide (0 < n) := by
  by_cases h : 0 < n
  · rw [decide_eq_true h, decide_eq_true (by omega)]
  · rw [decide_eq_false h, decide_eq_false (by omega)]
abbrev Tx := List UInt8
def bl (s : ByteArray) : Tx := s.data.toList
theorem bl_inj {a b : ByteArray} (h : bl a = bl b) : a = b := by
  cases a with
  | mk a =>
    cases b with
    | mk b =>
      have h : a.toList = b.toList := h
      rw [Array.toList_inj] at h
      rw [h]
theorem bl_size (s : ByteArray) : s.size = (bl s).length := rfl
theorem bt_bl (s : ByteArray) (i : Nat) : bt s i = (((bl s).getD i 0).toNat : Int) := rfl
/-- a byte of a name -/
def nc (c : UInt8) : Bool := letterB (c.toNat : Int) || digitB (c.toNat : Int)
theorem goodFrom_get {s : ByteArray} : ∀ (k i : Nat), goodFrom s k i = true → ∀ j, i ≤ j → j < i + k → nc ((bl s).getD j 0) = true
  | 0, i, _, j, h1, h2 => by omega
  | k + 1, i, h, j, h1, h2 => by
    unfold goodFrom at h
    rw [Bool.and_eq_true] at h
    by_cases e : i = j
    · subst e
      have := h.1
      rw [bt_bl] at this
      exact this
    · exact goodFrom_get k (i + 1) h.2 j (by omega) (by omega)
theorem name_chars {s : ByteArray} (h : nameB s = true) : (∃ c l, bl s = c :: l ∧ letterB (c.toNat : Int) = true) ∧ (∀ x ∈ bl s, nc x = true) ∧ (bl s).length ≤ 40 := by
  unfold nameB withinB at h
  simp only [Bool.and_eq_true, decide_eq_true_eq] at h
  obtain ⟨⟨⟨h1, h2⟩, h3⟩, h4⟩ := h
  rw [bl_size] at h1 h2 h4
  rw [bt_bl] at h3
  cases hb : bl s with
  | nil => rw [hb] at h1; simp at h1
  | cons c l =>
    rw [hb] at h3 h2
    refine ⟨⟨c, l, rfl, h3⟩, fun x hx => ?_, by omega⟩
    rw [← hb] at hx
    obtain ⟨j, hj, e⟩ := List.getElem_of_mem hx
    have e2 : (bl s).getD j 0 = x := by rw [List.getD_eq_getElem?_getD, List.getElem?_eq_getElem hj]; exact e
    by_cases h0 : j = 0
    · subst h0
      rw [← e2, hb]
      unfold nc
      have h3 : letterB (c.toNat : Int) = true := h3
      show (letterB (c.toNat : Int) || _) = true
      rw [h3, Bool.true_or]
    · have := goodFrom_get _ _ h4 j (by omega) (by omega)
      rw [e2] at this
      exact this
/-- what is read az far az it goes -/
theorem munch {p : UInt8 → Bool} : ∀ {a b r r' : Tx} {c c' : UInt8}, (∀ x ∈ a, p x = true) → (∀ x ∈ b, p x = true) → p c = false → p c' = false → a ++ c :: r = b ++ c' :: r' → a = b ∧ c = c' ∧ r = r'
  | [], [], r, r', c, c', _, _, _, _, h => by
    simp only [List.nil_append, List.cons.injEq] at h
    exact ⟨rfl, h.1, h.2⟩
  | [], y :: b, r, r', c, c', _, hb, hc, _, h => by
    simp only [List.nil_append, List.cons_append, List.cons.injEq] at h
    have := hb y (List.mem_cons_self ..)
    rw [← h.1, hc] at this
    cases this
  | x :: a, [], r, r', c, c', ha, _, _, hc', h => by
    simp only [List.nil_append, List.cons_append, List.cons.injEq] at h
    have := ha x (List.mem_cons_self ..)
    rw [h.1, hc'] at this
    cases this
  | x :: a, y :: b, r, r', c, c', ha, hb, hc, hc', h => by
    simp only [List.cons_append, List.cons.injEq] at h
    obtain ⟨q1, q2, q3⟩ := munch (fun z hz => ha z (List.mem_cons_of_mem _ hz)) (fun z hz => hb z (List.mem_cons_of_mem _ hz)) hc hc' h.2
    exact ⟨by rw [h.1, q1], q2, q3⟩

/-! ### numbers -/
def digN (n : Nat) : Tx := if n < 10 then [UInt8.ofNat (48 + n)] else digN (n / 10) ++ [UInt8.ofNat (48 + n % 10)]
  termination_by n
  decreasing_by omega
def digI (n : Int) : Tx := if n < 0 then 45 :: digN (-n).toNat else digN n.toNat
def undig (l : Tx) : Nat := l.foldl (fun a c => a * 10 + (c.toNat - 48)) 0
theorem ofNat_toNat {n : Nat} (h : n < 256) : (UInt8.ofNat n).toNat = n := by
  simp [UInt8.toNat_ofNat', Nat.mod_eq_of_lt h]
theorem undig_digN : ∀ n : Nat, undig (digN n) = n := by
  intro n
  induction n using Nat.strongRecOn with
  | ind n ih =>
    unfold digN
    by_cases h : n < 10
    · rw [if_pos h]
      show 0 * 10 + ((UInt8.ofNat (48 + n)).toNat - 48) = n
      rw [ofNat_toNat (by omega)]
      omega
    · rw [if_neg h]
      unfold undig
      rw [List.foldl_append]
      have := ih (n / 10) (by omega)
      unfold undig at this
      rw [this]
      show n / 10 * 10 + ((UInt8.ofNat (48 + n % 10)).toNat - 48) = n
      rw [ofNat_toNat (by omega)]
      omega
theorem digN_chars : ∀ n : Nat, (∀ c ∈ digN n, digitB (c.toNat : Int) = true) ∧ digN n ≠ [] := by
  intro n
  have one : ∀ k, k < 10 → digitB ((UInt8.ofNat (48 + k)).toNat : Int) = true := fun k hk => by
    rw [ofNat_toNat (by omega)]
    unfold digitB
    rw [decide_eq_true (by omega), decide_eq_true (by omega)]
    rfl
  induction n using Nat.strongRecOn with
  | ind n ih =>
    unfold digN
    by_cases h : n < 10
    · rw [if_pos h]
      refine ⟨fun c hc => ?_, by simp⟩
      rw [List.mem_singleton] at hc
      exact hc ▸ one n h
    · rw [if_neg h]
      refine ⟨fun c hc => ?_, by simp⟩
      rcases List.mem_append.1 hc with q | q
      · exact (ih (n / 10) (by omega)).1 c q
      · rw [List.mem_singleton] at q
        exact q ▸ one _ (by omega)
theorem digN_len : ∀ (k n : Nat), n < 10 ^ (k + 1) → (digN n).length ≤ k + 1
  | 0, n, h => by
    unfold digN
    rw [if_pos (by omega)]
    simp
  | k + 1, n, h => by
    unfold digN
    by_cases h10 : n < 10
    · rw [if_pos h10]; simp
    · rw [if_neg h10, List.length_append]
      have := digN_len k (n / 10) (by rw [Nat.pow_succ] at h; omega)
      simp only [List.length_singleton]
      omega

/-! ### values -/
abbrev S (l : Tx) : ByteArray := ⟨l.toArray⟩
theorem S_bl (s : ByteArray) : S (bl s) = s := by cases s; simp [S, bl]
theorem bl_S (l : Tx) : bl (S l) = l := by simp [S, bl]
theorem S_append (a b : Tx) : S a ++ S b = S (a ++ b) := by
  apply bl_inj
  rw [bl_S]
  show (S a ++ S b).data.toList = a ++ b
  simp [S]
theorem S_size (a : Tx) : (S a).size = a.length := by show a.toArray.size = _; simp
theorem S_inj {a b : Tx} (h : S a = S b) : a = b := by rw [← bl_S a, h, bl_S]
abbrev rS (v : ByteArray) : Option Res := some ([.p (.str v)], [])
theorem bS {R : Type} (v : ByteArray) (K : ByteArray → Option R) : ((rS v).bind fun r => (asStr (pAt 0 r.1)).bind fun v => if r.1.length = 1 then K v else none) = K v := by simp [pAt, asStr]
theorem lim_pos {R : Type} {a b : Tx} {x : Option R} (h : a.length + b.length ≤ LIM) : (if (S a).size + (S b).size ≤ LIM then x else none) = x := by
  rw [S_size, S_size, if_pos h]

theorem asS (v : ByteArray) : asStr (.str v) = some v := rfl
/-! ### numbers -/
theorem bytes1 (n : Int) : bytesOf [[.int .u8 n]] = some [UInt8.ofNat n.toNat] := rfl
theorem digits_nat : ∀ (m : Nat), m < 9223372036854775808 → ev E0 F_spec_l00Digits [.p (.int .i64 m)] [] = rS (S (digN m)) ∧ (digN m).length ≤ m + 1 := by
  intro m
  induction m using Nat.strongRecOn with
  | ind m ih =>
    intro hm
    rw [spec_l00Digits_0_ev, spec_l00Digits_0_eq]
    have e1 : ((m : Int) == -9223372036854775808) = false := by rw [beq_int]; exact decide_eq_false (by omega)
    rw [e1, cond_false, decide_eq_false (by omega), cond_false]
    unfold digN
    by_cases h : m < 10
    · rw [decide_eq_true (by omega), cond_true, if_pos h]
      have e2 : IntKind.u8.wrap (IntKind.i64.wrap (48 + (m : Int))) = ((48 + m : Nat) : Int) := by rw [wrap_id (by omega), IntKind.wrap_u8]; omega
      rw [e2, bytes1, Int.toNat_natCast]
      exact ⟨rfl, by simp⟩
    · rw [decide_eq_false (by omega), cond_false, if_neg h]
      have e2 : IntKind.u8.wrap (IntKind.i64.wrap (48 + (m : Int).tmod 10)) = ((48 + m % 10 : Nat) : Int) := by
        have : (m : Int).tmod 10 = ((m % 10 : Nat) : Int) := rfl
        rw [this, wrap_id (by omega), IntKind.wrap_u8]; omega
      have e3 : IntKind.i64.wrap ((m : Int).tdiv 10) = ((m / 10 : Nat) : Int) := by
        have : (m : Int).tdiv 10 = ((m / 10 : Nat) : Int) := rfl
        rw [this, wrap_id (by omega)]
      obtain ⟨h1, h2⟩ := ih (m / 10) (by omega) (by omega)
      rw [e2, e3, h1, bS, bytes1, Option.bind_some, Int.toNat_natCast]
      have hs : (digN (m / 10)).length + ([UInt8.ofNat (48 + m % 10)] : Tx).length ≤ LIM := by
        have := digN_len 18 (m / 10) (by omega)
        simp only [List.length_singleton, LIM]
        omega
      refine ⟨?_, by simp only [List.length_append, List.length_singleton]; omega⟩
      rw [lim_pos hs, S_append]
theorem digits_ev {n : Int} (h : -9223372036854775808 < n ∧ n ≤ 9223372036854775807) : ev E0 F_spec_l00Digits [.p (.int .i64 n)] [] = rS (S (digI n)) := by
  unfold digI
  by_cases hn : n < 0
  · rw [if_pos hn, spec_l00Digits_0_ev, spec_l00Digits_0_eq]
    have e1 : (n == -9223372036854775808) = false := by rw [beq_int]; exact decide_eq_false (by omega)
    have e2 : IntKind.i64.wrap (0 - n) = (((-n).toNat : Nat) : Int) := by rw [wrap_id (by omega)]; omega
    rw [e1, cond_false, decide_eq_true hn, cond_true, e2, (digits_nat (-n).toNat (by omega)).1, bS]
    have hs : ([45] : Tx).length + (digN (-n).toNat).length ≤ LIM := by
      have := digN_len 18 (-n).toNat (by omega)
      simp only [List.length_singleton, LIM]
      omega
    rw [lim_pos hs, S_append]
    rfl
  · rw [if_neg hn]
    have e : n = ((n.toNat : Nat) : Int) := by omega
    rw [e]
    have := (digits_nat n.toNat (by omega)).1
    rw [this, Int.toNat_natCast]
theorem len_bne (a b : Nat) : ((a : Int) != (b : Int)) = !decide (a = b) := by
  by_cases h : a = b
  · simp [h]
  · have : ¬ (a : Int) = (b : Int) := by omega
    simp [h, this]
/-! ### the library's functions -/
theorem decDigits_digN : ∀ n : Nat, Lib.decDigits n = digN n := by
  intro n
  induction n using Nat.strongRecOn with
  | ind n ih =>
    rw [Lib.decDigits, digN]
    by_cases h : n < 10
    · rw [dif_pos h, if_pos h]
    · rw [dif_neg h, if_neg h, ih (n / 10) (by omega)]
theorem itoa_digI (n : Int) : Lib.itoa n = digI n := by
  unfold Lib.itoa digI
  rw [decDigits_digN, decDigits_digN]
  have : n.natAbs = (-n).toNat ∨ ¬ n < 0 := by omega
  rcases this with h | h
  · rw [h]
  · rw [if_neg h, if_neg h]
theorem itoa_lib (n : Int) : ev E0 F_strconv_Itoa [.p (.int .i64 n)] [] = libD itoaL [.p (.int .i64 n)] [] := (ev_eq _ _ _ _).trans (by kernel_rfl)
theorem itoa_ev {n : Int} (h : -9223372036854775808 ≤ n ∧ n ≤ 9223372036854775807) : ev E0 F_strconv_Itoa [.p (.int .i64 n)] [] = rS (S (digI n)) := by
  rw [itoa_lib, ← itoa_digI]
  simp only [libD, pures, itoaL, if_pos h]
  rfl
theorem strsOf_map : ∀ ws : List Tx, strsOf (ws.map fun w => [.str (S w)]) = some (ws.map S)
  | [] => rfl
  | w :: ws => by
    rw [List.map_cons, strsOf, strsOf_map ws]
    rfl
/-- texts one behind the other, a byte between -/
def joinC (c : UInt8) : List Tx → Tx
  | [] => []
  | w :: ws => w ++ ws.flatMap fun x => c :: x
def joinD (c : UInt8) (first : Bool) : List Tx → Tx
  | [] => []
  | w :: ws => (if first = true then [] else [c]) ++ (w ++ joinD c false ws)
theorem joinD_false (c : UInt8) : ∀ ws : List Tx, joinD c false ws = ws.flatMap fun x => c :: x
  | [] => rfl
  | w :: ws => by rw [joinD, joinD_false c ws]; rfl
theorem joinD_true (c : UInt8) (ws : List Tx) : joinD c true ws = joinC c ws := by
  cases ws with
  | nil => rfl
  | cons w ws => rw [joinD, joinD_false]; rfl
theorem join_joinC (c : UInt8) (ws : List Tx) : Lib.join (ws.map fun w => (S w).data.toList) [c] = joinC c ws := by
  have e : (ws.map fun w => (S w).data.toList) = ws := by
    have : (fun w : Tx => (S w).data.toList) = id := funext fun w => bl_S w
    rw [this, List.map_id]
  rw [e]
  cases ws with
  | nil => rfl
  | cons w ws =>
    rw [Lib.join_cons]
    unfold joinC Lib.joinTail
    rw [← List.flatMap_def]
    rfl
theorem join_lib (es : List (List Pd)) (s : ByteArray) : ev E0 F_strings_Join [.p (.sl 1 es), .p (.str s)] [] = libD joinL [.p (.sl 1 es), .p (.str s)] [] := (ev_eq _ _ _ _).trans (by kernel_rfl)
theorem joinI_ev {c : UInt8} {ws : List Tx} (hlen : ws.length ≤ 100000) (hj : (joinC c ws).length ≤ 100000000000) : ev E0 F_strings_Join [.p (.sl 1 (ws.map fun w => [.str (S w)])), .p (.str (⟨#[c]⟩ : ByteArray))] [] = rS (S (joinC c ws)) := by
  have hlim : (2 : Nat) ^ 40 ≤ LIM := by decide
  rw [join_lib]
  simp only [libD, pures, joinL, strsOf_map, List.map_map, Function.comp_def, List.length_map]
  have e : (Lib.join (ws.map fun w => (S w).data.toList) ((⟨#[c]⟩ : ByteArray).data.toList)) = joinC c ws := join_joinC c ws
  rw [e, if_pos ⟨by omega, by omega⟩]
  rfl
theorem join_ev {c : UInt8} {ws : List Tx} (hlen : ws.length ≤ 100000) (hj : (joinC c ws).length ≤ 100000000000) : ev E0 F_spec_l00Join [.p (.sl 1 (ws.map fun w => [.str (S w)])), .p (.str (S [c]))] [] = rS (S (joinC c ws)) := by
  have hlim : (2 : Nat) ^ 40 ≤ LIM := by decide
  have hl : (ws.map fun w => ([.str (S w)] : List Pd)).length = ws.length := by simp
  have loop : ∀ (k i : Nat) (acc : Tx), i + k = ws.length → acc.length + (joinD c (decide (i = 0)) (ws.drop i)).length ≤ 100000000000 → spec_l00Join_1 (ws.map fun w => [.str (S w)]) (S [c]) (S acc) i = rS (S (acc ++ joinD c (decide (i = 0)) (ws.drop i))) := by
    intro k
    induction k with
    | zero =>
      intro i acc h hacc
      have : i = ws.length := by omega
      subst this
      rw [spec_l00Join_1_eq, hl, List.drop_length, decide_eq_false (by omega), cond_false]
      simp [joinD]
    | succ k ih =>
      intro i acc h hacc
      have hlt : i < ws.length := by omega
      have hg : ws[i]? = some ws[i] := List.getElem?_eq_getElem hlt
      have e2 : IntKind.i64.wrap ((i : Int) + 1) = ((i + 1 : Nat) : Int) := by rw [wrap_id (by omega)]; omega
      have eg : ((ws.map fun w => ([.str (S w)] : List Pd)).getD (i : Int).toNat []) = [.str (S ws[i])] := getD_enc (f := fun w => ([.str (S w)] : List Pd)) hg
      have es : asStr (([.str (S ws[i])] : List Pd).getD 0 .undef) = some (S ws[i]) := rfl
      rw [List.drop_eq_getElem_cons hlt, joinD] at hacc
      rw [List.drop_eq_getElem_cons hlt, joinD, spec_l00Join_1_eq, hl, decide_eq_true (by omega), cond_true, int_gt0]
      simp only [List.length_append] at hacc
      by_cases h0 : i = 0
      · rw [decide_eq_false (by omega), cond_false, spec_l00Join_2_eq, hl, if_pos (by omega), eg, es, Option.bind_some, lim_pos (by omega), S_append, e2, ih (i + 1) _ (by omega) (by rw [decide_eq_false (show ¬ i + 1 = 0 by omega), List.length_append]; omega), decide_eq_false (show ¬ i + 1 = 0 by omega), decide_eq_true h0]
        simp
      · rw [decide_eq_false h0] at hacc
        simp only [Bool.false_eq_true, if_false, List.length_singleton] at hacc
        rw [decide_eq_true (by omega), cond_true, lim_pos (by simp only [List.length_singleton]; omega), S_append, spec_l00Join_2_eq, hl, if_pos (by omega), eg, es, Option.bind_some, lim_pos (by simp only [List.length_append, List.length_singleton]; omega), S_append, e2, ih (i + 1) _ (by omega) (by rw [decide_eq_false (show ¬ i + 1 = 0 by omega)]; simp only [List.length_append, List.length_singleton]; omega), decide_eq_false (show ¬ i + 1 = 0 by omega), decide_eq_false h0]
        simp
  have e0 : ((0 : Nat) : Int) = 0 := rfl
  have := loop ws.length 0 [] (by omega) (by rw [List.drop_zero, decide_eq_true rfl, joinD_true]; simpa using hj)
  rw [e0, List.drop_zero, decide_eq_true rfl, joinD_true] at this
  rw [spec_l00Join_0_ev, spec_l00Join_0_eq]
  exact this
end Go.Proofs.YtakbdjdafcjglaaGreatDoor.Dm
