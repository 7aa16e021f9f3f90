/- Data by descriptors: which cells an element has; sizes, copies of one's own, marks; loops over rows. Of no program. -/
import Derived.Test.YtmnoibkdmeajpaaGreatDm19
import Derived.Laws.BitsLemmas
namespace Go.Proofs.YtmnoibkdmeajpaaGreat.Dm
set_option linter.unusedVariables false
set_option linter.unusedSimpArgs false
theorem wrap_id {n : Int} (h : -9223372036854775808 ≤ n ∧ n ≤ 9223372036854775807) : IntKind.i64.wrap n = n := by rw [IntKind.wrap_i64]; omega
abbrev rI (v : Int) : Option Res := some ([.p (.int .i64 v)], [])
abbrev rB (v : Bool) : Option Res := some ([.p (.bool v)], [])
abbrev rS' (v : ByteArray) : Option Res := some ([.p (.str v)], [])
abbrev rA (n : Nat) (v : List Pd) : Option Res := some ([.p (.agg n v)], [])
abbrev rL (n : Nat) (v : List (List Pd)) : Option Res := some ([.p (.sl n v)], [])
abbrev rW (n : Int) (o : Ob) : Option Res := some ([.p (.int .i64 n)], [o])
section
variable {R : Type}
theorem bI (v : Int) (K : Int → Option R) : ((rI v).bind fun r => (asInt .i64 (pAt 0 r.1)).bind fun v => if r.1.length = 1 then K v else none) = K v := by simp [pAt, asInt]
theorem bB (v : Bool) (K : Bool → Option R) : ((rB v).bind fun r => (asBool (pAt 0 r.1)).bind fun v => if r.1.length = 1 then K v else none) = K v := by simp [pAt, asBool]
theorem bS' (v : ByteArray) (K : ByteArray → Option R) : ((rS' v).bind fun r => (asStr (pAt 0 r.1)).bind fun v => if r.1.length = 1 then K v else none) = K v := by simp [pAt, asStr]
theorem bA (n : Nat) (v : List Pd) (K : List Pd → Option R) : ((rA n v).bind fun r => (asAgg n (pAt 0 r.1)).bind fun v => if r.1.length = 1 then K v else none) = K v := by simp [pAt, asAgg]
theorem bL (n : Nat) (v : List (List Pd)) (K : List (List Pd) → Option R) : ((rL n v).bind fun r => (asSl n (pAt 0 r.1)).bind fun v => if r.1.length = 1 then K v else none) = K v := by simp [pAt, asSl]
theorem bW (n : Int) (e s : Nat) (es : List (List Pd)) (K : Int → List (List Pd) → Option R) : ((rW n (.oarr e s es)).bind fun r => (asInt .i64 (pAt 0 r.1)).bind fun n => if r.1.length = 1 then ((asOarr e s (r.2.getD 0 .none)).bind fun l => if r.2.length = 1 then K n l else none) else none) = K n es := by simp [pAt, asInt, asOarr]
end
theorem asI (n : Int) : asInt .i64 (.int .i64 n) = some n := by simp [asInt]
theorem asS_ (v : ByteArray) : asStr (.str v) = some v := rfl
theorem asB_ (v : Bool) : asBool (.bool v) = some v := rfl
theorem asSl_ (n : Nat) (es : List (List Pd)) : asSl n (.sl n es) = some es := by simp [asSl]
theorem asOw_ (e n : Nat) (es : List (List Pd)) : asOw e n (.ow e n es) = some es := by simp [asOw]
theorem ne_self {α : Type} [BEq α] [LawfulBEq α] (x : α) : (x != x) = false := by simp
theorem nd_self (s : ByteArray) : (!decide (s = s)) = false := by simp
theorem nb_self (b : Bool) : (!(b == b)) = false := by simp
inductive CK where
 | i
 | b
 | s
 | r (d : Nat)
 deriving DecidableEq
structure De where
 ty : Nat
 n : Nat
 cks : List CK
mutual
def wfP (T : Nat → De) : CK → Pd → Prop
 | .i, .int k _ => k = .i64
 | .b, .bool _ => True
 | .s, .str s => s.size ≤ 9223372036854775807
 | .r d, .sl n es => n = (T d).n ∧ es.length ≤ 9223372036854775807 ∧ wfEs T (T d).cks es
 | _, _ => False
def wfC (T : Nat → De) : List CK → List Pd → Prop
 | [], [] => True
 | c :: cs, x :: xs => wfP T c x ∧ wfC T cs xs
 | _, _ => False
def wfEs (T : Nat → De) (cs : List CK) : List (List Pd) → Prop
 | [] => True
 | x :: xs => wfC T cs x ∧ wfEs T cs xs
end
mutual
def wP : Pd → Nat
 | .str s => s.size
 | .sl _ es => es.length + wEs es
 | _ => 0
def wC : List Pd → Nat
 | [] => 0
 | x :: xs => wP x + wC xs
def wEs : List (List Pd) → Nat
 | [] => 0
 | x :: xs => wC x + wEs xs
end
mutual
def cP : Pd → Nat
 | .sl _ es => cEs es
 | _ => 1
def cC : List Pd → Nat
 | [] => 0
 | x :: xs => cP x + cC xs
def cEs : List (List Pd) → Nat
 | [] => 0
 | x :: xs => cC x + cEs xs
end
mutual
def mkP (mt : Int → ByteArray) : Int → Pd → Pd
 | k, .int _ _ => .int .i64 k
 | k, .bool _ => .bool ((k.tmod 3 : Int) == 0)
 | k, .str _ => .str (mt k)
 | k, .sl n es => .sl n (mkEs mt k es)
 | _, x => x
def mkC (mt : Int → ByteArray) : Int → List Pd → List Pd
 | _, [] => []
 | k, x :: xs => mkP mt k x :: mkC mt (k + cP x) xs
def mkEs (mt : Int → ByteArray) : Int → List (List Pd) → List (List Pd)
 | _, [] => []
 | k, x :: xs => mkC mt k x :: mkEs mt (k + cC x) xs
end
mutual
def ownP (T : Nat → De) : CK → Pd → Pd
 | .r d, .sl n es => .ow (T d).ty n (ownEs T (T d).cks es)
 | _, x => x
def ownC (T : Nat → De) : List CK → List Pd → List Pd
 | c :: cs, x :: xs => ownP T c x :: ownC T cs xs
 | _, xs => xs
def ownEs (T : Nat → De) (cs : List CK) : List (List Pd) → List (List Pd)
 | [] => []
 | x :: xs => ownC T cs x :: ownEs T cs xs
end
section
variable {T : Nat → De}
theorem wfC_cons {c : CK} {cs : List CK} {x : List Pd} (h : wfC T (c :: cs) x) : ∃ y ys, x = y :: ys ∧ wfP T c y ∧ wfC T cs ys := by
 cases x with
 | nil => simp [wfC] at h
 | cons y ys => rw [wfC] at h; exact ⟨y, ys, rfl, h.1, h.2⟩
theorem wfC_nil {x : List Pd} (h : wfC T [] x) : x = [] := by
 cases x with
 | nil => rfl
 | cons y ys => simp [wfC] at h
theorem wfP_i {y : Pd} (h : wfP T .i y) : ∃ n, y = .int .i64 n := by
 cases y <;> first | (rw [wfP] at h; exact ⟨_, by rw [h]⟩) | (simp [wfP] at h)
theorem wfP_b {y : Pd} (h : wfP T .b y) : ∃ v, y = .bool v := by
 cases y <;> first | exact ⟨_, rfl⟩ | (simp [wfP] at h)
theorem wfP_s {y : Pd} (h : wfP T .s y) : ∃ v : ByteArray, y = .str v ∧ v.size ≤ 9223372036854775807 := by
 cases y <;> first | (rw [wfP] at h; exact ⟨_, rfl, h⟩) | (simp [wfP] at h)
theorem wfP_r {d : Nat} {y : Pd} (h : wfP T (.r d) y) : ∃ es, y = .sl (T d).n es ∧ es.length ≤ 9223372036854775807 ∧ wfEs T (T d).cks es := by
 cases y with
 | sl n es => rw [wfP] at h; exact ⟨es, by rw [h.1], h.2.1, h.2.2⟩
 | _ => simp [wfP] at h
theorem wfEs_get {cs : List CK} : ∀ {es : List (List Pd)}, wfEs T cs es → ∀ {i : Nat} {x : List Pd}, es[i]? = some x → wfC T cs x
 | [], _, i, x, hx => by simp at hx
 | y :: es, h, 0, x, hx => by simp at hx; subst hx; rw [wfEs] at h; exact h.1
 | y :: es, h, i + 1, x, hx => by rw [wfEs] at h; exact wfEs_get h.2 (by simpa using hx)
theorem wfEs_mem {cs : List CK} {es : List (List Pd)} (h : wfEs T cs es) {x : List Pd} (hx : x ∈ es) : wfC T cs x := by
 obtain ⟨i, hi, e⟩ := List.getElem_of_mem hx
 exact wfEs_get h (by rw [List.getElem?_eq_getElem hi, e])
theorem wfEs_of {cs : List CK} : ∀ {es : List (List Pd)}, (∀ x ∈ es, wfC T cs x) → wfEs T cs es
 | [], _ => by rw [wfEs]; trivial
 | y :: es, h => by
  rw [wfEs]
  exact ⟨h y (List.mem_cons_self ..), wfEs_of fun x hx => h x (List.mem_cons_of_mem _ hx)⟩
theorem wfP_int (n : Int) : wfP T .i (.int .i64 n) := by rw [wfP]
theorem wfP_bool (v : Bool) : wfP T .b (.bool v) := by rw [wfP]; trivial
theorem wfP_str {v : ByteArray} (h : v.size ≤ 9223372036854775807) : wfP T .s (.str v) := by rw [wfP]; exact h
theorem wfP_sl {d : Nat} {es : List (List Pd)} (h : es.length ≤ 9223372036854775807) (h2 : wfEs T (T d).cks es) : wfP T (.r d) (.sl (T d).n es) := by rw [wfP]; exact ⟨rfl, h, h2⟩
theorem wfC_mk {c : CK} {cs : List CK} {y : Pd} {ys : List Pd} (h1 : wfP T c y) (h2 : wfC T cs ys) : wfC T (c :: cs) (y :: ys) := by rw [wfC]; exact ⟨h1, h2⟩
theorem wfC_mk0 : wfC T [] [] := by rw [wfC]; trivial
theorem row_ind {cs : List CK} {Q : List (List Pd) → Prop} (h : ∀ es, (∀ x ∈ es, ∀ n ss, Pd.sl n ss ∈ x → Q ss) → Q es) : ∀ es, Q es := by
 have main : ∀ (m : Nat) (es : List (List Pd)), SizeOf.sizeOf es < m → Q es := by
  intro m
  induction m with
  | zero => intro es hm; omega
  | succ m ih =>
   intro es hm
   refine h es fun x hx n ss hs => ih ss ?_
   have h1 := List.sizeOf_lt_of_mem hx
   have h2 := List.sizeOf_lt_of_mem hs
   have h3 : SizeOf.sizeOf (Pd.sl n ss) = 1 + SizeOf.sizeOf n + SizeOf.sizeOf ss := by simp
   omega
 exact fun es => main _ es (Nat.lt_succ_self _)
end
theorem ownEs_map (T : Nat → De) (cs : List CK) : ∀ es, ownEs T cs es = es.map (ownC T cs)
 | [] => by rw [ownEs]; rfl
 | x :: es => by rw [ownEs, ownEs_map T cs es]; rfl
theorem ownEs_len (T : Nat → De) (cs : List CK) (es : List (List Pd)) : (ownEs T cs es).length = es.length := by rw [ownEs_map, List.length_map]
theorem ownEs_get (T : Nat → De) (cs : List CK) {es : List (List Pd)} {i : Nat} {x : List Pd} (h : es[i]? = some x) : (ownEs T cs es)[i]? = some (ownC T cs x) := by rw [ownEs_map, List.getElem?_map, h]; rfl
section
variable (mt : Int → ByteArray)
theorem mkEs_len : ∀ (es : List (List Pd)) (k : Int), (mkEs mt k es).length = es.length
 | [], _ => by rw [mkEs]
 | x :: es, k => by rw [mkEs, List.length_cons, mkEs_len es, List.length_cons]
theorem mkEs_get : ∀ (es : List (List Pd)) (k : Int) (i : Nat) (x : List Pd), es[i]? = some x → (mkEs mt k es)[i]? = some (mkC mt (k + cEs (es.take i)) x)
 | [], _, i, x, h => by simp at h
 | y :: es, k, 0, x, h => by
  simp at h; subst h
  rw [mkEs, List.take_zero, cEs, List.getElem?_cons_zero]
  congr 2
  omega
 | y :: es, k, i + 1, x, h => by
  rw [mkEs, List.getElem?_cons_succ, List.take_succ_cons, cEs, mkEs_get es (k + cC y) i x (by simpa using h)]
  congr 2
  omega
end
theorem cEs_take : ∀ (es : List (List Pd)) (i : Nat) (x : List Pd), es[i]? = some x → cEs (es.take (i + 1)) = cEs (es.take i) + cC x
 | [], i, x, h => by simp at h
 | y :: es, 0, x, h => by simp at h; subst h; simp [cEs]
 | y :: es, i + 1, x, h => by
  rw [List.take_succ_cons, List.take_succ_cons, cEs, cEs, cEs_take es i x (by simpa using h)]
  omega
theorem cEs_take_le : ∀ (es : List (List Pd)) (i : Nat), cEs (es.take i) ≤ cEs es
 | [], i => by simp [cEs]
 | x :: es, 0 => by simp [cEs]
 | x :: es, i + 1 => by rw [List.take_succ_cons, cEs, cEs]; have := cEs_take_le es i; omega
theorem wEs_mem : ∀ {es : List (List Pd)} {x : List Pd}, x ∈ es → wC x ≤ wEs es
 | y :: es, x, h => by
  rw [wEs]
  rcases List.mem_cons.1 h with q | q
  ·subst q; omega
  ·have := wEs_mem q; omega
theorem cEs_le {T : Nat → De} (hT : ∀ d, (T d).cks.length ≤ 8) : ∀ (es : List (List Pd)) (d : Nat), wfEs T (T d).cks es → cEs es ≤ 8 * (es.length + wEs es) := by
 refine row_ind (cs := []) fun es ih d h => ?_
 have elem : ∀ x ∈ es, ∀ (cs : List CK) (ys : List Pd), (∀ y ∈ ys, y ∈ x) → wfC T cs ys → cC ys ≤ cs.length + 8 * wC ys := by
  intro x hx cs
  induction cs with
  | nil => intro ys _ hy; rw [wfC_nil hy]; simp [cC]
  | cons c cs ihc =>
   intro ys hys hy
   obtain ⟨y, ys, rfl, h1, h2⟩ := wfC_cons hy
   have := ihc ys (fun z hz => hys z (List.mem_cons_of_mem _ hz)) h2
   rw [cC, wC, List.length_cons]
   have hc : cP y ≤ 1 + 8 * wP y := by
    cases c with
    | i => obtain ⟨n, rfl⟩ := wfP_i h1; simp [cP, wP]
    | b => obtain ⟨n, rfl⟩ := wfP_b h1; simp [cP, wP]
    | s => obtain ⟨n, rfl, _⟩ := wfP_s h1; simp [cP, wP]
    | r d' =>
     obtain ⟨ss, rfl, _, h5⟩ := wfP_r h1
     have := ih x hx _ ss (hys _ (List.mem_cons_self ..)) d' h5
     rw [cP, wP]; omega
   omega
 have all : ∀ es', (∀ x ∈ es', x ∈ es) → wfEs T (T d).cks es' → cEs es' ≤ 8 * (es'.length + wEs es') := by
  intro es'
  induction es' with
  | nil => intro _ _; simp [cEs]
  | cons x es' ih' =>
   intro hm hw
   rw [wfEs] at hw
   have h1 := elem x (hm x (List.mem_cons_self ..)) _ x (fun y hy => hy) hw.1
   have h2 := ih' (fun y hy => hm y (List.mem_cons_of_mem _ hy)) hw.2
   have h3 := hT d
   rw [cEs, wEs, List.length_cons]; omega
 exact all es (fun x hx => hx) h
theorem ownC_nil (T : Nat → De) (x : List Pd) : ownC T [] x = x := by cases x <;> simp [ownC]
theorem ownC_nil2 (T : Nat → De) (cs : List CK) : ownC T cs [] = [] := by cases cs <;> simp [ownC]
theorem ownP_i (T : Nat → De) (x : Pd) : ownP T .i x = x := by cases x <;> simp [ownP]
theorem ownP_b (T : Nat → De) (x : Pd) : ownP T .b x = x := by cases x <;> simp [ownP]
theorem ownP_s (T : Nat → De) (x : Pd) : ownP T .s x = x := by cases x <;> simp [ownP]
theorem ownC_flat (T : Nat → De) : ∀ (cs : List CK), (∀ c ∈ cs, ∀ d, c ≠ .r d) → ∀ x, ownC T cs x = x
 | [], _, x => ownC_nil T x
 | c :: cs, h, [] => ownC_nil2 T _
 | c :: cs, h, y :: ys => by
  rw [ownC, ownC_flat T cs (fun a ha => h a (List.mem_cons_of_mem _ ha))]
  congr 1
  cases c with
  | r d => exact absurd rfl (h _ (List.mem_cons_self ..) d)
  | i => exact ownP_i T y
  | b => exact ownP_b T y
  | s => exact ownP_s T y
theorem ownEs_flat (T : Nat → De) {cs : List CK} (h : ∀ c ∈ cs, ∀ d, c ≠ .r d) (es : List (List Pd)) : ownEs T cs es = es := by
 rw [ownEs_map, List.map_congr_left (fun x _ => ownC_flat T cs h x)]; simp
theorem okEs_flat {T : Nat → De} {cs : List CK} (h : ∀ c ∈ cs, ∀ d, c ≠ .r d) {es : List (List Pd)} (hw : wfEs T cs es) : okEs es = true := by
 unfold okEs
 refine List.all_eq_true.2 fun x hx => ?_
 have hx := wfEs_mem hw hx
 clear hw
 revert x
 suffices hh : ∀ (x : List Pd), wfC T cs x → x.all scalPd = true from fun x _ hx => hh x hx
 intro x hx
 induction cs generalizing x with
 | nil => rw [wfC_nil hx]; rfl
 | cons c cs ih =>
  obtain ⟨y, ys, rfl, h1, h2⟩ := wfC_cons hx
  rw [List.all_cons, ih (fun a ha => h a (List.mem_cons_of_mem _ ha)) ys h2, Bool.and_true]
  cases c with
  | i => obtain ⟨n, rfl⟩ := wfP_i h1; rfl
  | b => obtain ⟨n, rfl⟩ := wfP_b h1; rfl
  | s => obtain ⟨n, rfl, _⟩ := wfP_s h1; rfl
  | r d => exact absurd rfl (h _ (List.mem_cons_self ..) d)
theorem colds_own {T : Nat → De} : ∀ (es : List (List Pd)) (cs : List CK), wfEs T cs es → colds (ownEs T cs es) = es := by
 refine row_ind (cs := []) fun es ih cs h => ?_
 have elem : ∀ x ∈ es, ∀ (cs : List CK) (ys : List Pd), (∀ y ∈ ys, y ∈ x) → wfC T cs ys → coldc (ownC T cs ys) = ys := by
  intro x hx cs
  induction cs with
  | nil => intro ys _ hy; rw [wfC_nil hy, ownC_nil]; rfl
  | cons c cs ihc =>
   intro ys hys hy
   obtain ⟨y, ys, rfl, h1, h2⟩ := wfC_cons hy
   rw [ownC, coldc, ihc ys (fun z hz => hys z (List.mem_cons_of_mem _ hz)) h2]
   congr 1
   cases c with
   | i => obtain ⟨n, rfl⟩ := wfP_i h1; rw [ownP_i]; rfl
   | b => obtain ⟨n, rfl⟩ := wfP_b h1; rw [ownP_b]; rfl
   | s => obtain ⟨n, rfl, _⟩ := wfP_s h1; rw [ownP_s]; rfl
   | r d' =>
    obtain ⟨ss, rfl, _, h5⟩ := wfP_r h1
    rw [ownP, cold, ih x hx _ ss (hys _ (List.mem_cons_self ..)) _ h5]
 have all : ∀ es', (∀ x ∈ es', x ∈ es) → wfEs T cs es' → colds (ownEs T cs es') = es' := by
  intro es'
  induction es' with
  | nil => intro _ _; rw [ownEs, colds]
  | cons x es' ih' =>
   intro hm hw
   rw [wfEs] at hw
   rw [ownEs, colds, elem x (hm x (List.mem_cons_self ..)) _ x (fun y hy => hy) hw.1, ih' (fun y hy => hm y (List.mem_cons_of_mem _ hy)) hw.2]
 exact all es (fun x hx => hx) h
theorem wfEs_mk {T : Nat → De} {mt : Int → ByteArray} (hmt : ∀ k, (mt k).size ≤ 9223372036854775807) : ∀ (es : List (List Pd)) (cs : List CK) (k : Int), wfEs T cs es → wfEs T cs (mkEs mt k es) := by
 refine row_ind (cs := []) fun es ih cs k h => ?_
 have elem : ∀ x ∈ es, ∀ (cs : List CK) (ys : List Pd) (k : Int), (∀ y ∈ ys, y ∈ x) → wfC T cs ys → wfC T cs (mkC mt k ys) := by
  intro x hx cs
  induction cs with
  | nil => intro ys k _ hy; rw [wfC_nil hy, mkC]; exact wfC_mk0
  | cons c cs ihc =>
   intro ys k hys hy
   obtain ⟨y, ys, rfl, h1, h2⟩ := wfC_cons hy
   rw [mkC]
   refine wfC_mk ?_ (ihc ys _ (fun z hz => hys z (List.mem_cons_of_mem _ hz)) h2)
   cases c with
   | i => obtain ⟨n, rfl⟩ := wfP_i h1; rw [mkP]; exact wfP_int _
   | b => obtain ⟨n, rfl⟩ := wfP_b h1; rw [mkP]; exact wfP_bool _
   | s => obtain ⟨n, rfl, _⟩ := wfP_s h1; rw [mkP]; exact wfP_str (hmt _)
   | r d' =>
    obtain ⟨ss, rfl, h4, h5⟩ := wfP_r h1
    rw [mkP]
    exact wfP_sl (by rw [mkEs_len]; exact h4) (ih x hx _ ss (hys _ (List.mem_cons_self ..)) _ _ h5)
 have all : ∀ es' k, (∀ x ∈ es', x ∈ es) → wfEs T cs es' → wfEs T cs (mkEs mt k es') := by
  intro es'
  induction es' with
  | nil => intro _ _ _; rw [mkEs, wfEs]; trivial
  | cons x es' ih' =>
   intro k hm hw
   rw [wfEs] at hw
   rw [mkEs, wfEs]
   exact ⟨elem x (hm x (List.mem_cons_self ..)) _ x _ (fun y hy => hy) hw.1, ih' _ (fun y hy => hm y (List.mem_cons_of_mem _ hy)) hw.2⟩
 exact all es k (fun x hx => hx) h
end Go.Proofs.YtmnoibkdmeajpaaGreat.Dm
