/- Loops over rows: sizes, copies, comparisons, marks. Of no program. -/
import Derived.Test.YtmnoibkdmeajpaaGreatD1
namespace Go.Proofs.YtmnoibkdmeajpaaGreat.Dm
set_option linter.unusedVariables false
set_option linter.unusedSimpArgs false
theorem getD_of {es : List (List Pd)} {i : Nat} {x : List Pd} (h : es[i]? = some x) : es.getD (i : Int).toNat [] = x := by
 simp [List.getD_eq_getElem?_getD, h]
theorem lt_of_get {α : Type} {xs : List α} {i : Nat} {x : α} (h : xs[i]? = some x) : i < xs.length := (List.getElem?_eq_some_iff.1 h).1
theorem getD_enc {α : Type} {f : α → List Pd} {xs : List α} {i : Nat} {x : α} (h : xs[i]? = some x) : (xs.map f).getD (i : Int).toNat [] = f x := by
 simp [List.getD_eq_getElem?_getD, h]
def okL {α : Type} (f : α → Prop) (xs : List α) : Prop := xs.length ≤ 9223372036854775807 ∧ ∀ x ∈ xs, f x
theorem wEs_sum : ∀ es : List (List Pd), (es.map wC).sum = wEs es
 | [] => by rw [wEs]; rfl
 | x :: es => by rw [List.map_cons, List.sum_cons, wEs, wEs_sum es]
def szV (w : Nat) (left : Int) : Int := if (w : Int) ≤ left then left - w else -1
theorem szV_add {a b : Nat} {left : Int} (h : (a : Int) ≤ left) : szV (a + b) left = szV b (szV a left) := by
 unfold szV; rw [if_pos h]; split <;> split <;> omega
theorem szV_pos {w : Nat} {left : Int} (h : (w : Int) ≤ left) : szV w left = left - w := if_pos h
theorem szV_neg {w : Nat} {left : Int} (h : ¬ (w : Int) ≤ left) : szV w left = -1 := if_neg h
theorem szNo {W : Nat} {left : Int} (h : left < W) : rI (-1) = rI (szV W left) := by rw [szV_neg (by omega)]
theorem szYes {W : Nat} {left x : Int} (h : (W : Int) ≤ left) (e : x = left - W) : rI x = rI (szV W left) := by rw [szV_pos h, e]
theorem szLoop {L : Int → Int → Option Res} {ws : List Nat} (step : ∀ (i w : Nat), ws[i]? = some w → ∀ left : Int, 0 ≤ left → left ≤ 1048576 → L left i = if (w : Int) ≤ left then L (left - w) ((i : Int) + 1) else rI (-1))
 (done : ∀ left, L left ws.length = rI left) : ∀ (k i : Nat) (left : Int), i + k = ws.length → 0 ≤ left → left ≤ 1048576 → L left i = rI (szV (ws.drop i).sum left)
 | 0, i, left, h, h0, h1 => by
  have : i = ws.length := by omega
  subst this
  rw [done, List.drop_length]
  simp [szV, h0]
 | k + 1, i, left, h, h0, h1 => by
  have hlt : i < ws.length := by omega
  rw [step i ws[i] (List.getElem?_eq_getElem hlt) left h0 h1, List.drop_eq_getElem_cons hlt, List.sum_cons]
  split
  ·rename_i hw
   have := szLoop step done k (i + 1) (left - ws[i]) (by omega) (by omega) (by omega)
   have e : ((i + 1 : Nat) : Int) = (i : Int) + 1 := by omega
   rw [e] at this
   rw [this, szV_add hw]
   unfold szV
   rw [if_pos hw]
  ·rename_i hw
   have : szV (ws[i] + (ws.drop (i + 1)).sum) left = -1 := by unfold szV; rw [if_neg (by omega)]
   rw [this]
theorem sz_row {L : Int → Int → Option Res} {es : List (List Pd)} (hl : es.length ≤ 9223372036854775807) {left : Int} (h0 : 0 ≤ left) (h1 : left ≤ 1048576)
 (step : ∀ (i : Nat) (x : List Pd), es[i]? = some x → ∀ left : Int, 0 ≤ left → left ≤ 1048576 → L left i = if (wC x : Int) ≤ left then L (left - wC x) ((i : Int) + 1) else rI (-1)) (done : ∀ left, L left es.length = rI left) :
 (bif decide ((IntKind.i64.wrap (left - (es.length : Int)) : Int) < 0) then rI (-1) else L (IntKind.i64.wrap (left - (es.length : Int))) 0) = rI (szV (es.length + wEs es) left) := by
 rw [wrap_id (by omega)]
 by_cases hlt : left - (es.length : Int) < 0
 ·rw [decide_eq_true hlt, cond_true]
  exact szNo (by omega)
 ·rw [decide_eq_false hlt, cond_false]
  have := szLoop (L := L) (ws := es.map wC) (fun i w hw left h0 h1 => by
   rw [List.getElem?_map] at hw
   cases hx : es[i]? with
   | none => rw [hx] at hw; cases hw
   | some x => rw [hx] at hw; injection hw with hw; subst hw; exact step i x hx left h0 h1) (by simpa using done) es.length 0 (left - es.length) (by simp) (by omega) (by omega)
  have e : ((0 : Nat) : Int) = 0 := rfl
  rw [e] at this
  rw [this, List.drop_zero, wEs_sum, szV_add (by omega), szV_pos (show (es.length : Int) ≤ left by omega)]
theorem szPart {w : Nat} {left : Int} (h0 : 0 ≤ left) {K : Int → Option Res} :
 (bif decide ((szV w left : Int) < 0) then rI (-1) else K (szV w left)) = if (w : Int) ≤ left then K (left - w) else rI (-1) := by
 by_cases hlt : (w : Int) ≤ left
 ·rw [if_pos hlt, szV_pos hlt, decide_eq_false (by omega), cond_false]
 ·rw [if_neg hlt, szV_neg hlt, decide_eq_true (by omega), cond_true]
theorem szStep {i n w : Nat} (hi : i < n) (hn : n ≤ 9223372036854775807) {left : Int} {o D : Option Res} (ho : o = rI (szV w left)) (h0 : 0 ≤ left) (L : Int → Int → Option Res) :
 (bif decide ((i : Int) < (n : Int)) then (if 0 ≤ (i : Int) ∧ (i : Int) < (n : Int) then (o.bind fun r => (asInt .i64 (pAt 0 r.1)).bind fun v => if r.1.length = 1 then (bif decide ((v : Int) < 0) then rI (-1) else L v (IntKind.i64.wrap ((i : Int) + 1))) else none) else none) else D) = if (w : Int) ≤ left then L (left - w) ((i : Int) + 1) else rI (-1) := by
 rw [decide_eq_true (by omega), cond_true, if_pos (by omega), ho, bI (K := fun v => bif decide ((v : Int) < 0) then rI (-1) else L v (IntKind.i64.wrap ((i : Int) + 1))), wrap_id (by omega), szPart h0 (K := fun v => L v ((i : Int) + 1))]
theorem szDone {n : Nat} {A D : Option Res} : (bif decide ((n : Int) < (n : Int)) then A else D) = D := by
 rw [decide_eq_false (by omega), cond_false]
theorem setEl_all {es : List (List Pd)} {i s : Nat} {c : List Pd} : setEl es i s 0 s (.agg s c) = es.set i c := by simp [setEl, pcells]
theorem setCs_all {es : List (List Pd)} {i s : Nat} {c : List Pd} : setCs es i s 0 s c = es.set i c := by simp [setCs]
theorem to_loop {L : Int → List (List Pd) → Option Res} {ys : List (List Pd)} {Rr : Option Res} (step : ∀ (i : Nat) (y : List Pd), ys[i]? = some y → ∀ es : List (List Pd), es.length = ys.length → L i es = L ((i : Int) + 1) (es.set i y)) (done : L ys.length ys = Rr) :
 ∀ (es : List (List Pd)), es.length = ys.length → L 0 es = Rr := by
 have main : ∀ (k i : Nat) (es : List (List Pd)), i + k = ys.length → es.length = ys.length → (∀ j, j < i → es[j]? = ys[j]?) → L i es = Rr := by
  intro k
  induction k with
  | zero =>
   intro i es h hl hj
   have : i = ys.length := by omega
   subst this
   have : es = ys := by
    apply List.ext_getElem?
    intro j
    by_cases hlt : j < ys.length
    ·exact hj j hlt
    ·rw [List.getElem?_eq_none (by omega), List.getElem?_eq_none (by omega)]
   rw [this, done]
  | succ k ih =>
   intro i es h hl hj
   have hlt : i < ys.length := by omega
   rw [step i ys[i] (List.getElem?_eq_getElem hlt) es hl]
   have := ih (i + 1) (es.set i ys[i]) (by omega) (by simpa using hl) (fun j hj' => by
    by_cases e : i = j
    ·subst e
     rw [List.getElem?_set_self (by omega), List.getElem?_eq_getElem hlt]
    ·rw [List.getElem?_set_ne e]
     exact hj j (by omega))
   have e : ((i + 1 : Nat) : Int) = (i : Int) + 1 := by omega
   rw [e] at this
   exact this
 exact fun es hl => main ys.length 0 es (by omega) hl (fun j hj => by omega)
theorem toStep {i n s : Nat} (hi : i < n) (hn : n ≤ 9223372036854775807) {o D : Option Res} {c : List Pd} (ho : o = rA s c) (es : List (List Pd)) (hes : es.length = n) (L : Int → List (List Pd) → Option Res) :
 (bif decide ((i : Int) < (n : Int)) then (if 0 ≤ (i : Int) ∧ (i : Int) < (n : Int) then (o.bind fun r => (asAgg s (pAt 0 r.1)).bind fun v => if r.1.length = 1 then (if 0 ≤ (i : Int) ∧ (i : Int) < (es.length : Int) then (if s = s ∧ ((i : Int).toNat) < es.length then (if 0 + s ≤ s then (L (IntKind.i64.wrap ((i : Int) + 1)) (setEl es ((i : Int).toNat) s 0 s (.agg s v))) else none) else none) else none) else none) else none) else D) = L ((i : Int) + 1) (es.set i c) := by
 rw [decide_eq_true (by omega), cond_true, if_pos (by omega), ho, bA, if_pos (by omega), if_pos (by omega), if_pos (by omega), wrap_id (by omega), setEl_all]
 rfl
theorem toFront {n b : Nat} (h : n * b ≤ 140737488355328) (hb : b ≠ 0) {X : Option Res} : (if 0 ≤ ((n : Int) : Int) ∧ ((n : Int) : Int) ≤ (n : Int) ∧ ((n : Int) : Int).toNat * b ≤ LIM ∧ b ≠ 0 then X else none) = X := by
 rw [if_pos]
 refine ⟨by omega, by omega, ?_, hb⟩
 rw [Int.toNat_natCast]
 exact h
theorem eqLoop {L : Int → Option Res} {n : Nat} (step : ∀ i : Nat, i < n → L i = L ((i : Int) + 1)) (done : L n = rB true) : ∀ (k i : Nat), i + k = n → L i = rB true
 | 0, i, h => by have : i = n := by omega
                 subst this; exact done
 | k + 1, i, h => by
  rw [step i (by omega)]
  have := eqLoop step done k (i + 1) (by omega)
  have e : ((i + 1 : Nat) : Int) = (i : Int) + 1 := by omega
  rw [e] at this
  exact this
theorem eqStep {i n : Nat} (hi : i < n) (hn : n ≤ 9223372036854775807) {o D : Option Res} (ho : o = rB true) (L : Int → Option Res) :
 (bif decide ((i : Int) < (n : Int)) then (if 0 ≤ (i : Int) ∧ (i : Int) < (n : Int) then (if 0 ≤ (i : Int) ∧ (i : Int) < (n : Int) then (o.bind fun r => (asBool (pAt 0 r.1)).bind fun b => if r.1.length = 1 then (bif !(b) then rB false else L (IntKind.i64.wrap ((i : Int) + 1))) else none) else none) else none) else D) = L ((i : Int) + 1) := by
 rw [decide_eq_true (by omega), cond_true, if_pos (by omega), if_pos (by omega), ho, bB (K := fun b => bif !(b) then rB false else L (IntKind.i64.wrap ((i : Int) + 1))), wrap_id (by omega)]
 rfl
theorem getD_set_self {es : List (List Pd)} {i : Nat} (h : i < es.length) (c : List Pd) : (es.set i c).getD i [] = c := by
 rw [List.getD_eq_getElem?_getD, List.getElem?_set_self h]; rfl
theorem setCs_mix {es : List (List Pd)} {i s off : Nat} {c : List Pd} {y : Pd} (hs : (1 : Nat) ≠ s) (hc : es.getD i [] = c) : setCs es i s off 1 [y] = es.set i (mixP s off 1 c [y]) := by
 unfold setCs; rw [if_neg hs, hc]
theorem setCs_set {es : List (List Pd)} {i s off : Nat} {c d : List Pd} {y : Pd} (hs : (1 : Nat) ≠ s) (hi : i < es.length) (hd : mixP s off 1 c [y] = d) : setCs (es.set i c) i s off 1 [y] = es.set i d := by
 rw [setCs_mix hs (getD_set_self hi c), List.set_set, hd]
theorem mark_loop {T : Nat → De} {cs : List CK} {mt : Int → ByteArray} {e s : Nat} {L : Int → Int → List (List Pd) → Option Res} {es0 : List (List Pd)} {k : Int} (h0 : 0 ≤ k) (hk : k + cEs es0 ≤ 1000000000)
 (step : ∀ (i : Nat) (x : List Pd), es0[i]? = some x → ∀ (k : Int) (es : List (List Pd)), 0 ≤ k → k + cC x ≤ 1000000000 → es.length = es0.length → es.getD i [] = ownC T cs x → L k i es = L (k + cC x) ((i + 1 : Nat) : Int) (es.set i (ownC T cs (mkC mt k x))))
 (done : ∀ k es, es.length = es0.length → L k es0.length es = rW k (.oarr e s es)) :
 L k 0 (ownEs T cs es0) = rW (k + cEs es0) (.oarr e s (ownEs T cs (mkEs mt k es0))) := by
 have main : ∀ (m i : Nat) (es : List (List Pd)), i + m = es0.length → es.length = es0.length → (∀ j, j < i → es[j]? = (ownEs T cs (mkEs mt k es0))[j]?) → (∀ j, i ≤ j → es[j]? = (ownEs T cs es0)[j]?) →
  L (k + cEs (es0.take i)) i es = rW (k + cEs es0) (.oarr e s (ownEs T cs (mkEs mt k es0))) := by
  intro m
  induction m with
  | zero =>
   intro i es h hl hpre _
   have hii : i = es0.length := by omega
   have : es = ownEs T cs (mkEs mt k es0) := by
    refine List.ext_getElem? fun j => ?_
    rcases Nat.lt_or_ge j i with q | q
    ·exact hpre j q
    ·rw [List.getElem?_eq_none (by omega), List.getElem?_eq_none (by rw [ownEs_len, mkEs_len]; omega)]
   subst hii
   rw [done _ _ hl, this, List.take_length]
  | succ m ih =>
   intro i es h hl hpre hpost
   have hx : es0[i]? = some (es0[i]'(by omega)) := List.getElem?_eq_getElem (by omega)
   generalize es0[i]'(by omega) = x at hx
   have ht := cEs_take es0 i x hx
   have htl := cEs_take_le es0 (i + 1)
   rw [step i x hx _ es (by omega) (by omega) hl (by rw [List.getD_eq_getElem?_getD, hpost i (Nat.le_refl _), ownEs_get T cs hx]; rfl)]
   have e5 : k + cEs (es0.take i) + cC x = k + ((cEs (es0.take (i + 1)) : Nat) : Int) := by omega
   rw [e5]
   refine ih (i + 1) _ (by omega) (by simpa using hl) (fun j hj => ?_) (fun j hj => ?_)
   ·by_cases q : j = i
    ·subst q
     rw [List.getElem?_set_self (by omega), ownEs_get T cs (mkEs_get mt es0 k j x hx)]
    ·rw [List.getElem?_set_ne (fun e => q e.symm)]
     exact hpre j (by omega)
   ·rw [List.getElem?_set_ne (by omega)]
    exact hpost j (by omega)
 have := main es0.length 0 (ownEs T cs es0) (by omega) (ownEs_len ..) (fun j hj => by omega) (fun j _ => rfl)
 have e0 : k + ((cEs (es0.take 0) : Nat) : Int) = k := by simp [cEs]
 rw [e0] at this
 exact this
theorem held_loop {mt : Int → ByteArray} {L : Int → Int → Option Res} {es0 : List (List Pd)} {k : Int} (h0 : 0 ≤ k) (hk : k + cEs es0 ≤ 1000000000)
 (step : ∀ (i : Nat) (x : List Pd), es0[i]? = some x → ∀ k' : Int, 0 ≤ k' → k' + cC x ≤ 1000000000 → (mkEs mt k es0).getD i [] = mkC mt k' x → L k' i = L (k' + cC x) ((i + 1 : Nat) : Int))
 (done : ∀ k', L k' es0.length = rI k') : L k 0 = rI (k + cEs es0) := by
 have main : ∀ (m i : Nat), i + m = es0.length → L (k + cEs (es0.take i)) i = rI (k + cEs es0) := by
  intro m
  induction m with
  | zero =>
   intro i h
   have hii : i = es0.length := by omega
   subst hii
   rw [done, List.take_length]
  | succ m ih =>
   intro i h
   have hx : es0[i]? = some (es0[i]'(by omega)) := List.getElem?_eq_getElem (by omega)
   generalize es0[i]'(by omega) = x at hx
   have ht := cEs_take es0 i x hx
   have htl := cEs_take_le es0 (i + 1)
   rw [step i x hx _ (by omega) (by omega) (by rw [List.getD_eq_getElem?_getD, mkEs_get mt es0 k i x hx]; rfl)]
   have e5 : k + cEs (es0.take i) + cC x = k + ((cEs (es0.take (i + 1)) : Nat) : Int) := by omega
   rw [e5]
   exact ih (i + 1) (by omega)
 have := main es0.length 0 (by omega)
 have e0 : k + ((cEs (es0.take 0) : Nat) : Int) = k := by simp [cEs]
 rw [e0] at this
 exact this
def takeOwnK {R : Type} (P : Program) (os : List Ob) : Nat → List (Option (Nat × Nat)) → List Dv → (List Pd → List (List (List Pd)) → Option R) → Option R
 | c, [], [], k => if os.length = c then k [] [] else none
 | c, none :: rs, .p x :: ds, k => takeOwnK P os c rs ds fun xs rows => k (x :: xs) rows
 | c, some (e, s) :: rs, .arr (.out c') :: ds, k => if c' = c then asRowK P e s (os.getD c .none) fun es => takeOwnK P os (c + 1) rs ds fun xs rows => k (.undef :: xs) (es :: rows) else none
 | _, _, _, _ => none
theorem takeOwnK_eq {R : Type} (P : Program) (os : List Ob) (c : Nat) (rs : List (Option (Nat × Nat))) (ds : List Dv) (k : List Pd → List (List (List Pd)) → Option R) : takeOwnK P os c rs ds k = match takeOwn P os c rs ds with | some (xs, rows) => k xs rows | none => none := by
 fun_induction takeOwn P os c rs ds generalizing k <;> simp_all [takeOwnK, @asRowK_eq ⟨fun _ => false, fun _ => false, false, fun _ => false, false, fun _ => false, false, fun _ => false, false, fun _ => none⟩]
def asOwnK (P : Program) (ts : List TypeId) (r : Res) : Option (List Pd × List (List (List Pd))) := match flatRs P ts r.1 with
 | some l => takeOwnK P r.2 0 (rowsOfTs P ts) l fun xs rows => some (xs, rows)
 | none => none
theorem asOwnK_eq (P : Program) (ts : List TypeId) (r : Res) : asOwn P ts r = asOwnK P ts r := by
 unfold asOwn asOwnK
 cases flatRs P ts r.1 with
 | none => rfl
 | some l =>
  dsimp only
  rw [takeOwnK_eq]
  cases takeOwn P r.2 0 (rowsOfTs P ts) l with
  | none => rfl
  | some q => rfl
end Go.Proofs.YtmnoibkdmeajpaaGreat.Dm
