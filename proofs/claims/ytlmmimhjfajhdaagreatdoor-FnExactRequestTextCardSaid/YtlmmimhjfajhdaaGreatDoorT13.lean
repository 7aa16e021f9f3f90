/- The text of a document is of that document alone. -/
import Derived.Test.YtlmmimhjfajhdaaGreatDoorT6
namespace Go.Proofs.YtlmmimhjfajhdaaGreatDoor.Dm
set_option linter.unusedVariables false
set_option linter.unusedSimpArgs false

abbrev Tx := List UInt8
def bl (s : ByteArray) : Tx := s.data.toList
theorem bl_inj {a b : ByteArray} (h : bl a = bl b) : a = b := by
  cases a with
  | mk a =>
    cases b with
    | mk b =>
      have h : a.toList = b.toList := h
      rw [Array.toList_inj] at h
      rw [h]
theorem bl_size (s : ByteArray) : s.size = (bl s).length := rfl
theorem bt_bl (s : ByteArray) (i : Nat) : bt s i = (((bl s).getD i 0).toNat : Int) := rfl
/-- a byte of a name -/
def nc (c : UInt8) : Bool := letterB (c.toNat : Int) || digitB (c.toNat : Int)
theorem goodFrom_get {s : ByteArray} : ∀ (k i : Nat), goodFrom s k i = true → ∀ j, i ≤ j → j < i + k → nc ((bl s).getD j 0) = true
  | 0, i, _, j, h1, h2 => by omega
  | k + 1, i, h, j, h1, h2 => by
    unfold goodFrom at h
    rw [Bool.and_eq_true] at h
    by_cases e : i = j
    · subst e
      have := h.1
      rw [bt_bl] at this
      exact this
    · exact goodFrom_get k (i + 1) h.2 j (by omega) (by omega)
theorem name_chars {s : ByteArray} (h : nameB s = true) : (∃ c l, bl s = c :: l ∧ letterB (c.toNat : Int) = true) ∧ (∀ x ∈ bl s, nc x = true) ∧ (bl s).length ≤ 40 := by
  unfold nameB withinB at h
  simp only [Bool.and_eq_true, decide_eq_true_eq] at h
  obtain ⟨⟨⟨h1, h2⟩, h3⟩, h4⟩ := h
  rw [bl_size] at h1 h2 h4
  rw [bt_bl] at h3
  cases hb : bl s with
  | nil => rw [hb] at h1; simp at h1
  | cons c l =>
    rw [hb] at h3 h2
    refine ⟨⟨c, l, rfl, h3⟩, fun x hx => ?_, by omega⟩
    rw [← hb] at hx
    obtain ⟨j, hj, e⟩ := List.getElem_of_mem hx
    have e2 : (bl s).getD j 0 = x := by rw [List.getD_eq_getElem?_getD, List.getElem?_eq_getElem hj]; exact e
    by_cases h0 : j = 0
    · subst h0
      rw [← e2, hb]
      unfold nc
      have h3 : letterB (c.toNat : Int) = true := h3
      show (letterB (c.toNat : Int) || _) = true
      rw [h3, Bool.true_or]
    · have := goodFrom_get _ _ h4 j (by omega) (by omega)
      rw [e2] at this
      exact this
/-- what is read az far az it goes -/
theorem munch {p : UInt8 → Bool} : ∀ {a b r r' : Tx} {c c' : UInt8}, (∀ x ∈ a, p x = true) → (∀ x ∈ b, p x = true) → p c = false → p c' = false → a ++ c :: r = b ++ c' :: r' → a = b ∧ c = c' ∧ r = r'
  | [], [], r, r', c, c', _, _, _, _, h => by
    simp only [List.nil_append, List.cons.injEq] at h
    exact ⟨rfl, h.1, h.2⟩
  | [], y :: b, r, r', c, c', _, hb, hc, _, h => by
    simp only [List.nil_append, List.cons_append, List.cons.injEq] at h
    have := hb y (List.mem_cons_self ..)
    rw [← h.1, hc] at this
    cases this
  | x :: a, [], r, r', c, c', ha, _, _, hc', h => by
    simp only [List.nil_append, List.cons_append, List.cons.injEq] at h
    have := ha x (List.mem_cons_self ..)
    rw [h.1, hc'] at this
    cases this
  | x :: a, y :: b, r, r', c, c', ha, hb, hc, hc', h => by
    simp only [List.cons_append, List.cons.injEq] at h
    obtain ⟨q1, q2, q3⟩ := munch (fun z hz => ha z (List.mem_cons_of_mem _ hz)) (fun z hz => hb z (List.mem_cons_of_mem _ hz)) hc hc' h.2
    exact ⟨by rw [h.1, q1], q2, q3⟩

/-! ### numbers -/
def digN (n : Nat) : Tx := if n < 10 then [UInt8.ofNat (48 + n)] else digN (n / 10) ++ [UInt8.ofNat (48 + n % 10)]
  termination_by n
  decreasing_by omega
def digI (n : Int) : Tx := if n < 0 then 45 :: digN (-n).toNat else digN n.toNat
def undig (l : Tx) : Nat := l.foldl (fun a c => a * 10 + (c.toNat - 48)) 0
theorem ofNat_toNat {n : Nat} (h : n < 256) : (UInt8.ofNat n).toNat = n := by
  simp [UInt8.toNat_ofNat', Nat.mod_eq_of_lt h]
theorem undig_digN : ∀ n : Nat, undig (digN n) = n := by
  intro n
  induction n using Nat.strongRecOn with
  | ind n ih =>
    unfold digN
    by_cases h : n < 10
    · rw [if_pos h]
      show 0 * 10 + ((UInt8.ofNat (48 + n)).toNat - 48) = n
      rw [ofNat_toNat (by omega)]
      omega
    · rw [if_neg h]
      unfold undig
      rw [List.foldl_append]
      have := ih (n / 10) (by omega)
      unfold undig at this
      rw [this]
      show n / 10 * 10 + ((UInt8.ofNat (48 + n % 10)).toNat - 48) = n
      rw [ofNat_toNat (by omega)]
      omega
theorem digN_chars : ∀ n : Nat, (∀ c ∈ digN n, digitB (c.toNat : Int) = true) ∧ digN n ≠ [] := by
  intro n
  have one : ∀ k, k < 10 → digitB ((UInt8.ofNat (48 + k)).toNat : Int) = true := fun k hk => by
    rw [ofNat_toNat (by omega)]
    unfold digitB
    rw [decide_eq_true (by omega), decide_eq_true (by omega)]
    rfl
  induction n using Nat.strongRecOn with
  | ind n ih =>
    unfold digN
    by_cases h : n < 10
    · rw [if_pos h]
      refine ⟨fun c hc => ?_, by simp⟩
      rw [List.mem_singleton] at hc
      exact hc ▸ one n h
    · rw [if_neg h]
      refine ⟨fun c hc => ?_, by simp⟩
      rcases List.mem_append.1 hc with q | q
      · exact (ih (n / 10) (by omega)).1 c q
      · rw [List.mem_singleton] at q
        exact q ▸ one _ (by omega)
theorem digN_len : ∀ (k n : Nat), n < 10 ^ (k + 1) → (digN n).length ≤ k + 1
  | 0, n, h => by
    unfold digN
    rw [if_pos (by omega)]
    simp
  | k + 1, n, h => by
    unfold digN
    by_cases h10 : n < 10
    · rw [if_pos h10]; simp
    · rw [if_neg h10, List.length_append]
      have := digN_len k (n / 10) (by rw [Nat.pow_succ] at h; omega)
      simp only [List.length_singleton]
      omega

/-! ### values -/
def vtx (v : GVal) : Tx := if v.kind = 1 then digI v.n else if v.kind = 2 then (if v.n = 0 then [102, 97, 108, 115, 101] else [116, 114, 117, 101]) else if v.kind = 4 then 36 :: bl v.t else [110, 117, 108, 108]
/-- a byte of a value -/
def pv (c : UInt8) : Bool := nc c || c == 45 || c == 36
def cls (c : UInt8) : Int := if digitB (c.toNat : Int) || c == 45 then 1 else if c == 102 || c == 116 then 2 else if c == 110 then 3 else if c == 36 then 4 else 0
theorem pv_nc {c : UInt8} (h : nc c = true) : pv c = true := by unfold pv; rw [h]; rfl
theorem nc_digit {c : UInt8} (h : digitB (c.toNat : Int) = true) : nc c = true := by unfold nc; rw [h, Bool.or_true]
theorem valueB_cases {v : GVal} (h : valueB v = true) : (v.kind = 1 ∧ -2147483648 ≤ v.n ∧ v.n ≤ 2147483647 ∧ v.t = sNone) ∨ (v.kind = 2 ∧ (v.n = 0 ∨ v.n = 1) ∧ v.t = sNone) ∨ (v.kind = 3 ∧ v.n = 0 ∧ v.t = sNone) ∨ (v.kind = 4 ∧ v.n = 0 ∧ nameB v.t = true) := by
  unfold valueB withinB at h
  by_cases h1 : v.kind = 1
  · rw [if_pos h1] at h
    simp only [Bool.and_eq_true, decide_eq_true_eq] at h
    exact .inl ⟨h1, h.1.1, h.1.2, h.2⟩
  · rw [if_neg h1] at h
    by_cases h2 : v.kind = 2
    · rw [if_pos h2] at h
      simp only [Bool.and_eq_true, decide_eq_true_eq] at h
      exact .inr (.inl ⟨h2, by omega, h.2⟩)
    · rw [if_neg h2] at h
      by_cases h3 : v.kind = 3
      · rw [if_pos h3] at h
        simp only [Bool.and_eq_true, decide_eq_true_eq, beq_iff_eq] at h
        exact .inr (.inr (.inl ⟨h3, h.1, h.2⟩))
      · rw [if_neg h3] at h
        by_cases h4 : v.kind = 4
        · rw [if_pos h4] at h
          simp only [Bool.and_eq_true, decide_eq_true_eq, beq_iff_eq] at h
          exact .inr (.inr (.inr ⟨h4, h.1, h.2⟩))
        · rw [if_neg h4] at h; cases h
theorem vtx_props {v : GVal} (h : valueB v = true) : (∃ c l, vtx v = c :: l ∧ cls c = v.kind) ∧ (∀ c ∈ vtx v, pv c = true) ∧ (vtx v).length ≤ 41 := by
  rcases valueB_cases h with ⟨k, n1, n2, t⟩ | ⟨k, n, t⟩ | ⟨k, n, t⟩ | ⟨k, n, t⟩
  · unfold vtx
    rw [if_pos k]
    unfold digI
    have dig : ∀ m, m < 10 ^ 10 → (∃ c l, digN m = c :: l ∧ cls c = v.kind) ∧ (∀ c ∈ digN m, pv c = true) ∧ (digN m).length ≤ 10 := by
      intro m hm
      obtain ⟨h1, h2⟩ := digN_chars m
      refine ⟨?_, fun c hc => pv_nc (nc_digit (h1 c hc)), digN_len 9 m hm⟩
      cases hd : digN m with
      | nil => exact absurd hd h2
      | cons c l =>
        refine ⟨c, l, rfl, ?_⟩
        have := h1 c (by rw [hd]; exact List.mem_cons_self ..)
        unfold cls
        rw [this, Bool.true_or, if_pos rfl, k]
    by_cases hn : v.n < 0
    · rw [if_pos hn]
      obtain ⟨_, q2, q3⟩ := dig (-v.n).toNat (by omega)
      refine ⟨⟨45, _, rfl, by rw [k]; rfl⟩, fun c hc => ?_, by simp only [List.length_cons]; omega⟩
      rcases List.mem_cons.1 hc with q | q
      · rw [q]; rfl
      · exact q2 c q
    · rw [if_neg hn]
      obtain ⟨q1, q2, q3⟩ := dig v.n.toNat (by omega)
      exact ⟨q1, q2, by omega⟩
  · unfold vtx
    rw [if_neg (by omega), if_pos k, k]
    rcases n with n | n
    · rw [if_pos n]
      exact ⟨⟨_, _, rfl, rfl⟩, by decide, by decide⟩
    · rw [if_neg (by omega)]
      exact ⟨⟨_, _, rfl, rfl⟩, by decide, by decide⟩
  · unfold vtx
    rw [if_neg (by omega), if_neg (by omega), if_neg (by omega), k]
    exact ⟨⟨_, _, rfl, rfl⟩, by decide, by decide⟩
  · unfold vtx
    rw [if_neg (by omega), if_neg (by omega), if_pos k, k]
    obtain ⟨_, q2, q3⟩ := name_chars t
    refine ⟨⟨_, _, rfl, rfl⟩, fun c hc => ?_, by simp only [List.length_cons]; omega⟩
    rcases List.mem_cons.1 hc with q | q
    · rw [q]; rfl
    · exact pv_nc (q2 c q)
theorem digN_inj {a b : Nat} (h : digN a = digN b) : a = b := by rw [← undig_digN a, h, undig_digN]
theorem digI_inj {a b : Int} (h : digI a = digI b) : a = b := by
  have neg : ∀ m k : Nat, 45 :: digN m = digN k → False := fun m k e => by
    have := (digN_chars k).1 45 (by rw [← e]; exact List.mem_cons_self ..)
    revert this
    decide
  unfold digI at h
  by_cases ha : a < 0
  · rw [if_pos ha] at h
    by_cases hb : b < 0
    · rw [if_pos hb] at h
      injection h with _ h
      have := digN_inj h
      omega
    · rw [if_neg hb] at h
      exact (neg _ _ h).elim
  · rw [if_neg ha] at h
    by_cases hb : b < 0
    · rw [if_pos hb] at h
      exact (neg _ _ h.symm).elim
    · rw [if_neg hb] at h
      have := digN_inj h
      omega
theorem gval_ext {v w : GVal} (h1 : v.kind = w.kind) (h2 : v.n = w.n) (h3 : v.t = w.t) : v = w := by
  cases v; cases w; simp_all
theorem vtx1 {v : GVal} (k : v.kind = 1) : vtx v = digI v.n := by unfold vtx; rw [if_pos k]
theorem vtx2 {v : GVal} (k : v.kind = 2) : vtx v = if v.n = 0 then [102, 97, 108, 115, 101] else [116, 114, 117, 101] := by unfold vtx; rw [if_neg (by omega), if_pos k]
theorem vtx3 {v : GVal} (k : v.kind = 3) : vtx v = [110, 117, 108, 108] := by unfold vtx; rw [if_neg (by omega), if_neg (by omega), if_neg (by omega)]
theorem vtx4 {v : GVal} (k : v.kind = 4) : vtx v = 36 :: bl v.t := by unfold vtx; rw [if_neg (by omega), if_neg (by omega), if_pos k]
theorem vtx_inj {v w : GVal} (hv : valueB v = true) (hw : valueB w = true) (h : vtx v = vtx w) : v = w := by
  obtain ⟨⟨c, l, e1, e2⟩, _, _⟩ := vtx_props hv
  obtain ⟨⟨c', l', e1', e2'⟩, _, _⟩ := vtx_props hw
  have hk : v.kind = w.kind := by
    rw [e1, e1'] at h
    injection h with h _
    rw [← e2, ← e2', h]
  rcases valueB_cases hv with ⟨k, n1, n2, t⟩ | ⟨k, n, t⟩ | ⟨k, n, t⟩ | ⟨k, n, t⟩ <;> rcases valueB_cases hw with ⟨k', n1', n2', t'⟩ | ⟨k', n', t'⟩ | ⟨k', n', t'⟩ | ⟨k', n', t'⟩ <;> (try omega)
  · rw [vtx1 k, vtx1 k'] at h
    exact gval_ext hk (digI_inj h) (by rw [t, t'])
  · rw [vtx2 k, vtx2 k'] at h
    refine gval_ext hk ?_ (by rw [t, t'])
    rcases n with n | n <;> rcases n' with n' | n' <;> rw [n, n'] at h ⊢
    · exact absurd h (by decide)
    · exact absurd h (by decide)
  · exact gval_ext hk (by rw [n, n']) (by rw [t, t'])
  · rw [vtx4 k, vtx4 k'] at h
    injection h with _ h
    exact gval_ext hk (by rw [n, n']) (bl_inj h)
theorem vtx_munch {v w : GVal} (hv : valueB v = true) (hw : valueB w = true) {c c' : UInt8} {r r' : Tx} (hc : pv c = false) (hc' : pv c' = false) (h : vtx v ++ c :: r = vtx w ++ c' :: r') : v = w ∧ c = c' ∧ r = r' := by
  obtain ⟨q1, q2, q3⟩ := munch (vtx_props hv).2.1 (vtx_props hw).2.1 hc hc' h
  exact ⟨vtx_inj hv hw q1, q2, q3⟩
theorem name_munch {s t : ByteArray} (hs : nameB s = true) (ht : nameB t = true) {c c' : UInt8} {r r' : Tx} (hc : nc c = false) (hc' : nc c' = false) (h : bl s ++ c :: r = bl t ++ c' :: r') : s = t ∧ c = c' ∧ r = r' := by
  obtain ⟨q1, q2, q3⟩ := munch (name_chars hs).2.1 (name_chars ht).2.1 hc hc' h
  exact ⟨bl_inj q1, q2, q3⟩

/-! ### arguments -/
def argT (a : GArg) : Tx := bl a.name ++ 58 :: 32 :: vtx a.val
def argsR (az : List GArg) : Tx := az.flatMap fun b => 32 :: argT b
def argsT : List GArg → Tx
  | [] => []
  | a :: az => 40 :: argT a ++ (argsR az ++ [41])
theorem argB_cases {a : GArg} (h : argB a = true) : nameB a.name = true ∧ valueB a.val = true := by
  unfold argB at h
  rwa [Bool.and_eq_true] at h
theorem arg_munch {a b : GArg} (ha : argB a = true) (hb : argB b = true) {c c' : UInt8} {r r' : Tx} (hc : pv c = false) (hc' : pv c' = false) (h : argT a ++ c :: r = argT b ++ c' :: r') : a = b ∧ c = c' ∧ r = r' := by
  unfold argT at h
  simp only [List.append_assoc, List.cons_append] at h
  obtain ⟨q1, _, q3⟩ := name_munch (argB_cases ha).1 (argB_cases hb).1 (by decide) (by decide) h
  injection q3 with _ q3
  obtain ⟨z1, z2, z3⟩ := vtx_munch (argB_cases ha).2 (argB_cases hb).2 hc hc' q3
  exact ⟨by cases a; cases b; simp_all, z2, z3⟩
theorem argsR_inj : ∀ {az bs : List GArg} {r r' : Tx}, (∀ a ∈ az, argB a = true) → (∀ b ∈ bs, argB b = true) → argsR az ++ 41 :: r = argsR bs ++ 41 :: r' → az = bs ∧ r = r'
  | [], [], r, r', _, _, h => by
    simp only [argsR, List.flatMap_nil, List.nil_append, List.cons.injEq] at h
    exact ⟨rfl, h.2⟩
  | [], b :: bs, r, r', _, _, h => by
    simp only [argsR, List.flatMap_nil, List.nil_append, List.flatMap_cons, List.cons_append, List.cons.injEq] at h
    exact absurd h.1 (by decide)
  | a :: az, [], r, r', _, _, h => by
    simp only [argsR, List.flatMap_nil, List.nil_append, List.flatMap_cons, List.cons_append, List.cons.injEq] at h
    exact absurd h.1 (by decide)
  | a :: az, b :: bs, r, r', ha, hb, h => by
    have e : ∀ (x : GArg) (xs : List GArg), argsR (x :: xs) = 32 :: argT x ++ argsR xs := fun _ _ => rfl
    rw [e, e] at h
    simp only [List.cons_append, List.append_assoc, List.cons.injEq, true_and] at h
    have hd : ∀ (xs : List GArg) (r : Tx), ∃ c l, argsR xs ++ 41 :: r = c :: l ∧ pv c = false := fun xs r => by
      cases xs with
      | nil => exact ⟨41, r, rfl, by decide⟩
      | cons x xs => exact ⟨32, _, rfl, by decide⟩
    obtain ⟨c, l, e1, e2⟩ := hd az r
    obtain ⟨c', l', e1', e2'⟩ := hd bs r'
    rw [e1, e1'] at h
    obtain ⟨q1, q2, q3⟩ := arg_munch (ha a (List.mem_cons_self ..)) (hb b (List.mem_cons_self ..)) e2 e2' h
    obtain ⟨z1, z2⟩ := argsR_inj (fun x hx => ha x (List.mem_cons_of_mem _ hx)) (fun x hx => hb x (List.mem_cons_of_mem _ hx)) (show argsR az ++ 41 :: r = argsR bs ++ 41 :: r' by rw [e1, e1', q2, q3])
    exact ⟨by rw [q1, z1], z2⟩
theorem argsT_inj {az bs : List GArg} {r r' : Tx} (ha : ∀ a ∈ az, argB a = true) (hb : ∀ b ∈ bs, argB b = true) (h : argsT az ++ 32 :: r = argsT bs ++ 32 :: r') : az = bs ∧ r = r' := by
  cases az with
  | nil =>
    cases bs with
    | nil => exact ⟨rfl, by simpa [argsT] using h⟩
    | cons b bs => simp [argsT] at h
  | cons a az =>
    cases bs with
    | nil => simp [argsT] at h
    | cons b bs =>
      have hd : ∀ (x : GArg) (xs : List GArg) (r : Tx), argsT (x :: xs) ++ 32 :: r = 40 :: (argT x ++ (argsR xs ++ 41 :: 32 :: r)) := fun x xs r => by simp [argsT]
      rw [hd, hd] at h
      injection h with _ h
      have hd : ∀ (xs : List GArg) (r : Tx), ∃ c l, argsR xs ++ 41 :: r = c :: l ∧ pv c = false := fun xs r => by
        cases xs with
        | nil => exact ⟨41, r, rfl, by decide⟩
        | cons x xs => exact ⟨32, _, rfl, by decide⟩
      obtain ⟨c, l, e1, e2⟩ := hd az (32 :: r)
      obtain ⟨c', l', e1', e2'⟩ := hd bs (32 :: r')
      rw [e1, e1'] at h
      obtain ⟨q1, q2, q3⟩ := arg_munch (ha a (List.mem_cons_self ..)) (hb b (List.mem_cons_self ..)) e2 e2' h
      obtain ⟨z1, z2⟩ := argsR_inj (fun x hx => ha x (List.mem_cons_of_mem _ hx)) (fun x hx => hb x (List.mem_cons_of_mem _ hx)) (show argsR az ++ 41 :: (32 :: r) = argsR bs ++ 41 :: (32 :: r') by rw [e1, e1', q2, q3])
      injection z2 with _ z2
      exact ⟨by rw [q1, z1], z2⟩

/-! ### directives -/
def skipT (b : Bool) : Tx := if b = true then [115, 107, 105, 112] else [105, 110, 99, 108, 117, 100, 101]
def dirT (d : GDir) : Tx := 32 :: 64 :: (skipT d.skip ++ 40 :: 105 :: 102 :: 58 :: 32 :: (vtx d.val ++ [41]))
def dirsT (ds : List GDir) : Tx := ds.flatMap dirT
theorem dirsT_cons (d : GDir) (ds : List GDir) : dirsT (d :: ds) = dirT d ++ dirsT ds := rfl
theorem dirsT_inj : ∀ {ds es : List GDir} {c c' : UInt8} {r r' : Tx}, (∀ d ∈ ds, dirB d = true) → (∀ e ∈ es, dirB e = true) → c ≠ 64 → c' ≠ 64 → dirsT ds ++ 32 :: c :: r = dirsT es ++ 32 :: c' :: r' → ds = es ∧ c = c' ∧ r = r'
  | [], [], c, c', r, r', _, _, _, _, h => by
    simp only [dirsT, List.flatMap_nil, List.nil_append, List.cons.injEq, true_and] at h
    exact ⟨rfl, h.1, h.2⟩
  | [], e :: es, c, c', r, r', _, _, hc, _, h => by
    rw [dirsT_cons] at h
    simp only [dirsT, List.flatMap_nil, List.nil_append, dirT, List.cons_append, List.cons.injEq, true_and] at h
    exact absurd h.1 hc
  | d :: ds, [], c, c', r, r', _, _, _, hc', h => by
    rw [dirsT_cons] at h
    simp only [dirsT, List.flatMap_nil, List.nil_append, dirT, List.cons_append, List.cons.injEq, true_and] at h
    exact absurd h.1.symm hc'
  | d :: ds, e :: es, c, c', r, r', hd, he, hc, hc', h => by
    rw [dirsT_cons, dirsT_cons] at h
    simp only [dirT, List.cons_append, List.append_assoc, List.cons.injEq, true_and, List.singleton_append, List.nil_append] at h
    have hs : ∀ b, ∀ x ∈ skipT b, nc x = true := by decide
    obtain ⟨q1, _, q3⟩ := munch (hs d.skip) (hs e.skip) (by decide) (by decide) h
    simp only [List.cons.injEq, true_and] at q3
    obtain ⟨z1, _, z3⟩ := vtx_munch (hd d (List.mem_cons_self ..)) (he e (List.mem_cons_self ..)) (by decide) (by decide) q3
    obtain ⟨y1, y2, y3⟩ := dirsT_inj (fun x hx => hd x (List.mem_cons_of_mem _ hx)) (fun x hx => he x (List.mem_cons_of_mem _ hx)) hc hc' z3
    have e1 : d.skip = e.skip := by
      cases h1 : d.skip <;> cases h2 : e.skip <;> rw [h1, h2] at q1 <;> first | rfl | exact absurd q1 (by decide)
    exact ⟨by rw [y1]; cases d; cases e; simp_all, y2, y3⟩

/-! ### heads -/
def headT (k : Int) (al nm : ByteArray) : Tx := if k = 1 then (if al = sNone then bl nm else bl al ++ 58 :: 32 :: bl nm) else if k = 2 then 46 :: 46 :: 46 :: 32 :: bl nm else (if nm = sNone then [46, 46, 46] else 46 :: 46 :: 46 :: 32 :: 111 :: 110 :: 32 :: bl nm)
theorem kindB_cases {k : Int} {al nm : ByteArray} {na ns : Nat} (h : kindB k al nm na ns = true) : (k = 1 ∧ nameB nm = true ∧ (al = sNone ∨ nameB al = true)) ∨ (k = 2 ∧ nameB nm = true ∧ nm ≠ sOn ∧ al = sNone ∧ na = 0 ∧ ns = 0) ∨ (k = 3 ∧ (nm = sNone ∨ nameB nm = true) ∧ al = sNone ∧ na = 0 ∧ 0 < ns) := by
  unfold kindB at h
  by_cases h1 : k = 1
  · rw [if_pos h1] at h
    simp only [Bool.and_eq_true, Bool.or_eq_true, decide_eq_true_eq] at h
    exact .inl ⟨h1, h.1, h.2⟩
  · rw [if_neg h1] at h
    by_cases h2 : k = 2
    · rw [if_pos h2] at h
      simp only [Bool.and_eq_true, Bool.not_eq_true', decide_eq_true_eq, decide_eq_false_iff_not] at h
      exact .inr (.inl ⟨h2, h.1.1.1.1, h.1.1.1.2, h.1.1.2, h.1.2, h.2⟩)
    · rw [if_neg h2] at h
      by_cases h3 : k = 3
      · rw [if_pos h3] at h
        simp only [Bool.and_eq_true, Bool.or_eq_true, decide_eq_true_eq] at h
        exact .inr (.inr ⟨h3, h.1.1.1, h.1.1.2, h.1.2, h.2⟩)
      · rw [if_neg h3] at h; cases h
theorem name_ne {s : ByteArray} (h : nameB s = true) : s ≠ sNone := fun e => by
  subst e
  revert h
  decide
theorem letter_ne46 {c : UInt8} (h : letterB (c.toNat : Int) = true) : c ≠ 46 ∧ c ≠ 64 ∧ c ≠ 123 ∧ c ≠ 125 := by
  refine ⟨?_, ?_, ?_, ?_⟩ <;> (intro e; subst e; revert h; decide)
theorem head1 {k : Int} {al nm : ByteArray} (h : k = 1) : headT k al nm = if al = sNone then bl nm else bl al ++ 58 :: 32 :: bl nm := by unfold headT; rw [if_pos h]
theorem head2 {k : Int} {al nm : ByteArray} (h : k = 2) : headT k al nm = 46 :: 46 :: 46 :: 32 :: bl nm := by unfold headT; rw [if_neg (by omega), if_pos h]
theorem head3 {k : Int} {al nm : ByteArray} (h : k = 3) : headT k al nm = if nm = sNone then [46, 46, 46] else 46 :: 46 :: 46 :: 32 :: 111 :: 110 :: 32 :: bl nm := by unfold headT; rw [if_neg (by omega), if_neg (by omega)]
/-- what stands behind a head -/
def behind (k : Int) (r : Tx) : Prop := ∃ c r0, r = c :: r0 ∧ (c = 40 ∨ c = 32) ∧ (k = 3 → ∃ c1 r1, r = 32 :: c1 :: r1 ∧ letterB (c1.toNat : Int) = false)
theorem head_first {k : Int} {al nm : ByteArray} {na ns : Nat} (h : kindB k al nm na ns = true) : ∃ c l, headT k al nm = c :: l ∧ ((k = 1 ∧ letterB (c.toNat : Int) = true) ∨ (k ≠ 1 ∧ c = 46)) := by
  rcases kindB_cases h with ⟨k1, h1, h2⟩ | ⟨k1, h1, h2, h3, h4, h5⟩ | ⟨k1, h1, h2, h3, h4⟩
  · rw [head1 k1]
    by_cases ha : al = sNone
    · rw [if_pos ha]
      obtain ⟨c, l, e1, e2⟩ := (name_chars h1).1
      exact ⟨c, l, e1, .inl ⟨k1, e2⟩⟩
    · rw [if_neg ha]
      obtain ⟨c, l, e1, e2⟩ := (name_chars (h2.resolve_left ha)).1
      exact ⟨c, _, by rw [e1]; rfl, .inl ⟨k1, e2⟩⟩
  · rw [head2 k1]
    exact ⟨_, _, rfl, .inr ⟨by omega, rfl⟩⟩
  · rw [head3 k1]
    by_cases ha : nm = sNone
    · rw [if_pos ha]; exact ⟨_, _, rfl, .inr ⟨by omega, rfl⟩⟩
    · rw [if_neg ha]; exact ⟨_, _, rfl, .inr ⟨by omega, rfl⟩⟩
theorem nc_sep {c : UInt8} (h : c = 40 ∨ c = 32) : nc c = false := by rcases h with h | h <;> (subst h; decide)
theorem head_inj {k k' : Int} {al nm al' nm' : ByteArray} {na ns na' ns' : Nat} {r r' : Tx} (h : kindB k al nm na ns = true) (h' : kindB k' al' nm' na' ns' = true) (hr : behind k r) (hr' : behind k' r') (e : headT k al nm ++ r = headT k' al' nm' ++ r') : k = k' ∧ al = al' ∧ nm = nm' ∧ r = r' := by
  obtain ⟨c, r0, e1, e2, e3⟩ := hr
  obtain ⟨c', r0', e1', e2', e3'⟩ := hr'
  obtain ⟨f, l, f1, f2⟩ := head_first h
  obtain ⟨f', l', f1', f2'⟩ := head_first h'
  have hff : f = f' := by
    rw [f1, f1'] at e
    simp only [List.cons_append, List.cons.injEq] at e
    exact e.1
  have hk1 : k = 1 ↔ k' = 1 := by
    subst hff
    rcases f2 with ⟨a, b⟩ | ⟨a, b⟩ <;> rcases f2' with ⟨a', b'⟩ | ⟨a', b'⟩
    · simp [a, a']
    · exact absurd b' (letter_ne46 b).1
    · exact absurd b (letter_ne46 b').1
    · simp [a, a']
  have hname : ∀ {s : ByteArray} {x : UInt8} {y r2 : Tx}, nameB s = true → letterB (x.toNat : Int) = false → bl s ++ r2 = x :: y → False := by
    intro s x y r2 hs hx he
    obtain ⟨c, l, q1, q2⟩ := (name_chars hs).1
    rw [q1] at he
    simp only [List.cons_append, List.cons.injEq] at he
    rw [he.1, hx] at q2
    cases q2
  have hon : ∀ x ∈ ([111, 110] : Tx), nc x = true := by decide
  rcases kindB_cases h with ⟨k1, h1, h2⟩ | ⟨k1, h1, h2, h3, h4, h5⟩ | ⟨k1, h1, h2, h3, h4⟩ <;> rcases kindB_cases h' with ⟨k1', h1', h2'⟩ | ⟨k1', h1', h2', h3', h4', h5'⟩ | ⟨k1', h1', h2', h3', h4'⟩ <;> (try (exfalso; omega))
  · rw [head1 k1, head1 k1'] at e
    by_cases ha : al = sNone
    · rw [if_pos ha] at e
      by_cases ha' : al' = sNone
      · rw [if_pos ha', e1, e1'] at e
        obtain ⟨q1, q2, q3⟩ := name_munch h1 h1' (nc_sep e2) (nc_sep e2') e
        exact ⟨by omega, by rw [ha, ha'], q1, by rw [e1, e1', q2, q3]⟩
      · rw [if_neg ha', e1] at e
        simp only [List.append_assoc, List.cons_append] at e
        obtain ⟨q1, q2, q3⟩ := name_munch h1 (h2'.resolve_left ha') (nc_sep e2) (by decide) e
        rw [q2] at e2
        exact absurd e2 (by decide)
    · rw [if_neg ha] at e
      by_cases ha' : al' = sNone
      · rw [if_pos ha', e1'] at e
        simp only [List.append_assoc, List.cons_append] at e
        obtain ⟨q1, q2, q3⟩ := name_munch (h2.resolve_left ha) h1' (by decide) (nc_sep e2') e
        rw [← q2] at e2'
        exact absurd e2' (by decide)
      · rw [if_neg ha'] at e
        simp only [List.append_assoc, List.cons_append] at e
        obtain ⟨q1, q2, q3⟩ := name_munch (h2.resolve_left ha) (h2'.resolve_left ha') (by decide) (by decide) e
        injection q3 with _ q3
        rw [e1, e1'] at q3
        obtain ⟨z1, z2, z3⟩ := name_munch h1 h1' (nc_sep e2) (nc_sep e2') q3
        exact ⟨by omega, q1, z1, by rw [e1, e1', z2, z3]⟩
  · rw [head2 k1, head2 k1', e1, e1'] at e
    simp only [List.cons_append, List.cons.injEq, true_and] at e
    obtain ⟨q1, q2, q3⟩ := name_munch h1 h1' (nc_sep e2) (nc_sep e2') e
    exact ⟨by omega, by rw [h3, h3'], q1, by rw [e1, e1', q2, q3]⟩
  · exfalso
    rw [head2 k1, head3 k1'] at e
    by_cases ha' : nm' = sNone
    · obtain ⟨c1, r1, g1, g2⟩ := e3' k1'
      rw [if_pos ha', g1] at e
      simp only [List.cons_append, List.nil_append, List.cons.injEq, true_and] at e
      exact hname h1 g2 e
    · rw [if_neg ha', e1] at e
      simp only [List.cons_append, List.cons.injEq, true_and] at e
      obtain ⟨q1, q2, q3⟩ := munch (b := [111, 110]) (c' := 32) (name_chars h1).2.1 hon (nc_sep e2) (by decide) e
      exact h2 (bl_inj q1)
  · exfalso
    rw [head3 k1, head2 k1'] at e
    by_cases ha : nm = sNone
    · obtain ⟨c1, r1, g1, g2⟩ := e3 k1
      rw [if_pos ha, g1] at e
      simp only [List.cons_append, List.nil_append, List.cons.injEq, true_and] at e
      exact hname h1' g2 e.symm
    · rw [if_neg ha, e1'] at e
      simp only [List.cons_append, List.cons.injEq, true_and] at e
      obtain ⟨q1, q2, q3⟩ := munch (b := [111, 110]) (c' := 32) (name_chars h1').2.1 hon (nc_sep e2') (by decide) e.symm
      exact h2' (bl_inj q1)
  · rw [head3 k1, head3 k1'] at e
    by_cases ha : nm = sNone
    · rw [if_pos ha] at e
      by_cases ha' : nm' = sNone
      · rw [if_pos ha'] at e
        simp only [List.cons_append, List.nil_append, List.cons.injEq, true_and] at e
        exact ⟨by omega, by rw [h2, h2'], by rw [ha, ha'], e⟩
      · obtain ⟨c1, r1, g1, g2⟩ := e3 k1
        rw [if_neg ha', g1] at e
        simp only [List.cons_append, List.nil_append, List.cons.injEq, true_and] at e
        rw [e.1] at g2
        exact absurd g2 (by decide)
    · rw [if_neg ha] at e
      by_cases ha' : nm' = sNone
      · obtain ⟨c1, r1, g1, g2⟩ := e3' k1'
        rw [if_pos ha', g1] at e
        simp only [List.cons_append, List.nil_append, List.cons.injEq, true_and] at e
        rw [← e.1] at g2
        exact absurd g2 (by decide)
      · rw [if_neg ha', e1, e1'] at e
        simp only [List.cons_append, List.cons.injEq, true_and] at e
        obtain ⟨q1, q2, q3⟩ := name_munch (h1.resolve_left ha) (h1'.resolve_left ha') (nc_sep e2) (nc_sep e2') e
        exact ⟨by omega, by rw [h2, h2'], q1, by rw [e1, e1', q2, q3]⟩

/-! ### selections -/
def setT (b : Tx) : Tx := 123 :: (b ++ [32, 125])
mutual
def selT : GSel → Tx
  | .mk k al nm args dirs sels => headT k al nm ++ (argsT args ++ (dirsT dirs ++ (if sels.isEmpty then [] else 32 :: setT (bodyT sels))))
def bodyT : List GSel → Tx
  | [] => []
  | x :: xs => 32 :: selT x ++ bodyT xs
end
theorem selB_cases {k : Int} {al nm : ByteArray} {args : List GArg} {dirs : List GDir} {sels : List GSel} (h : selB (.mk k al nm args dirs sels) = true) : (∀ d ∈ dirs, dirB d = true) ∧ (∀ a ∈ args, argB a = true) ∧ dirs.length ≤ 4 ∧ args.length ≤ 4 ∧ kindB k al nm args.length sels.length = true := by
  unfold selB at h
  simp only [Bool.and_eq_true, List.all_eq_true, decide_eq_true_eq] at h
  exact ⟨h.1, h.2.1, h.2.2.1.1, h.2.2.1.2, h.2.2.2⟩
theorem sel_first {x : GSel} (h : selB x = true) : ∃ c l, selT x = c :: l ∧ c ≠ 64 ∧ c ≠ 123 ∧ c ≠ 125 := by
  cases x with
  | mk k al nm args dirs sels =>
    obtain ⟨_, _, _, _, hk⟩ := selB_cases h
    obtain ⟨c, l, e1, e2⟩ := head_first hk
    refine ⟨c, l ++ (argsT args ++ (dirsT dirs ++ (if sels.isEmpty then [] else 32 :: setT (bodyT sels)))), by rw [selT, e1]; rfl, ?_⟩
    rcases e2 with ⟨_, e2⟩ | ⟨_, e2⟩
    · have := letter_ne46 e2
      exact ⟨this.2.1, this.2.2.1, this.2.2.2⟩
    · rw [e2]; decide
/-- what stands behind a selection -/
def after (r : Tx) : Prop := ∃ c r0, r = 32 :: c :: r0 ∧ c ≠ 64 ∧ c ≠ 123
theorem body_after {d : Nat} {xs : List GSel} (h : fine d xs = true) (r : Tx) : after (bodyT xs ++ 32 :: 125 :: r) := by
  cases xs with
  | nil => exact ⟨125, r, rfl, by decide, by decide⟩
  | cons x xs =>
    cases d with
    | zero => simp [fine] at h
    | succ d =>
      simp only [fine, List.all_cons, Bool.and_eq_true] at h
      obtain ⟨c, l, e1, e2, e3, _⟩ := sel_first h.1.1
      refine ⟨c, l ++ (bodyT xs ++ 32 :: 125 :: r), ?_, e2, e3⟩
      rw [bodyT, e1]
      simp
def tailT (sels : List GSel) (r : Tx) : Tx := if sels.isEmpty then r else 32 :: 123 :: (bodyT sels ++ 32 :: 125 :: r)
theorem tail_first {sels : List GSel} {r : Tx} (hr : after r) : ∃ c r0, tailT sels r = 32 :: c :: r0 ∧ c ≠ 64 ∧ (sels ≠ [] → c = 123) := by
  unfold tailT
  cases sels with
  | nil =>
    obtain ⟨c, r0, e1, e2, e3⟩ := hr
    exact ⟨c, r0, e1, e2, fun h => absurd rfl h⟩
  | cons x xs => exact ⟨123, _, rfl, by decide, fun _ => rfl⟩
theorem sel_open (k : Int) (al nm : ByteArray) (args : List GArg) (dirs : List GDir) (sels : List GSel) (r : Tx) : selT (.mk k al nm args dirs sels) ++ r = headT k al nm ++ (argsT args ++ (dirsT dirs ++ tailT sels r)) := by
  rw [selT]
  unfold tailT setT
  cases sels <;> simp
theorem dirs_first (dirs : List GDir) {r : Tx} {c : UInt8} {r0 : Tx} (h : r = 32 :: c :: r0) : ∃ c1 r1, dirsT dirs ++ r = 32 :: c1 :: r1 ∧ (c1 = 64 ∨ c1 = c) := by
  cases dirs with
  | nil => exact ⟨c, r0, h, .inr rfl⟩
  | cons d ds => exact ⟨64, _, rfl, .inl rfl⟩
theorem sel_behind {k : Int} {al nm : ByteArray} {args : List GArg} {dirs : List GDir} {sels : List GSel} (hk : kindB k al nm args.length sels.length = true) {r : Tx} (hr : after r) : behind k (argsT args ++ (dirsT dirs ++ tailT sels r)) := by
  obtain ⟨c, r0, t1, t2, t3⟩ := tail_first (sels := sels) hr
  obtain ⟨c1, r1, d1, d2⟩ := dirs_first dirs t1
  rw [d1]
  have h3 : k = 3 → ∃ c2 r2, argsT args ++ 32 :: c1 :: r1 = 32 :: c2 :: r2 ∧ letterB (c2.toNat : Int) = false := by
    intro h3
    rcases kindB_cases hk with ⟨k1, _⟩ | ⟨k1, _⟩ | ⟨_, _, _, q1, q2⟩
    · omega
    · omega
    · have : args = [] := List.eq_nil_of_length_eq_zero q1
      subst this
      refine ⟨c1, r1, rfl, ?_⟩
      have : sels ≠ [] := fun e => by rw [e] at q2; simp at q2
      rcases d2 with d2 | d2
      · rw [d2]; decide
      · rw [d2, t3 this]; decide
  cases args with
  | nil => exact ⟨32, c1 :: r1, rfl, .inr rfl, h3⟩
  | cons a az => exact ⟨40, _, rfl, .inl rfl, h3⟩
theorem sels_inj : ∀ (d : Nat) (xs ys : List GSel) (r r' : Tx), fine d xs = true → fine d ys = true → bodyT xs ++ 32 :: 125 :: r = bodyT ys ++ 32 :: 125 :: r' → xs = ys ∧ r = r'
  | d, [], [], r, r', _, _, h => by
    simp only [bodyT, List.nil_append, List.cons.injEq, true_and] at h
    exact ⟨rfl, h⟩
  | 0, x :: xs, _, r, r', hx, _, _ => by simp [fine] at hx
  | 0, [], y :: ys, r, r', _, hy, _ => by simp [fine] at hy
  | d + 1, [], y :: ys, r, r', _, hy, h => by
    exfalso
    simp only [fine, List.all_cons, Bool.and_eq_true] at hy
    obtain ⟨c, l, e1, _, _, e4⟩ := sel_first hy.1.1
    rw [bodyT, bodyT, e1] at h
    simp only [List.nil_append, List.cons_append, List.cons.injEq, true_and] at h
    exact e4 h.1.symm
  | d + 1, x :: xs, [], r, r', hx, _, h => by
    exfalso
    simp only [fine, List.all_cons, Bool.and_eq_true] at hx
    obtain ⟨c, l, e1, _, _, e4⟩ := sel_first hx.1.1
    rw [bodyT, bodyT, e1] at h
    simp only [List.nil_append, List.cons_append, List.cons.injEq, true_and] at h
    exact e4 h.1
  | d + 1, .mk k al nm args dirs sels :: xs, .mk k' al' nm' args' dirs' sels' :: ys, r, r', hx, hy, h => by
    have hxs : fine (d + 1) xs = true := by
      simp only [fine, List.all_cons, Bool.and_eq_true] at hx ⊢
      exact hx.2
    have hys : fine (d + 1) ys = true := by
      simp only [fine, List.all_cons, Bool.and_eq_true] at hy ⊢
      exact hy.2
    simp only [fine, List.all_cons, Bool.and_eq_true, GSel.subs] at hx hy
    obtain ⟨⟨sx, fx⟩, _⟩ := hx
    obtain ⟨⟨sy, fy⟩, _⟩ := hy
    obtain ⟨a1, a2, _, _, a5⟩ := selB_cases sx
    obtain ⟨b1, b2, _, _, b5⟩ := selB_cases sy
    have hax := body_after hxs r
    have hay := body_after hys r'
    rw [bodyT, bodyT] at h
    simp only [List.cons_append, List.append_assoc, List.cons.injEq, true_and] at h
    rw [sel_open, sel_open] at h
    obtain ⟨q1, q2, q3, q4⟩ := head_inj a5 b5 (sel_behind a5 hax) (sel_behind b5 hay) h
    obtain ⟨c, r0, t1, t2, t3⟩ := tail_first (sels := sels) hax
    obtain ⟨c', r0', t1', t2', t3'⟩ := tail_first (sels := sels') hay
    obtain ⟨c1, r1, g1, _⟩ := dirs_first dirs t1
    obtain ⟨c1', r1', g1', _⟩ := dirs_first dirs' t1'
    rw [g1, g1'] at q4
    obtain ⟨z1, z2⟩ := argsT_inj a2 b2 q4
    have z3 : dirsT dirs ++ tailT sels (bodyT xs ++ 32 :: 125 :: r) = dirsT dirs' ++ tailT sels' (bodyT ys ++ 32 :: 125 :: r') := by rw [g1, g1', z2]
    rw [t1, t1'] at z3
    obtain ⟨y1, y2, y3⟩ := dirsT_inj a1 b1 t2 t2' z3
    have y4 : tailT sels (bodyT xs ++ 32 :: 125 :: r) = tailT sels' (bodyT ys ++ 32 :: 125 :: r') := by rw [t1, t1', y2, y3]
    have hs : sels = sels' ∧ bodyT xs ++ 32 :: 125 :: r = bodyT ys ++ 32 :: 125 :: r' := by
      obtain ⟨p, p0, p1, p2, p3⟩ := hax
      obtain ⟨p', p0', p1', p2', p3'⟩ := hay
      unfold tailT at y4
      cases hse : sels with
      | nil =>
        cases hse' : sels' with
        | nil =>
          rw [hse, hse'] at y4
          exact ⟨rfl, y4⟩
        | cons s ss =>
          rw [hse, hse'] at y4
          rw [p1] at y4
          simp only [List.isEmpty_nil, List.isEmpty_cons, if_true, if_false, Bool.false_eq_true, List.cons.injEq, true_and] at y4
          exact absurd y4.1 p3
      | cons s ss =>
        cases hse' : sels' with
        | nil =>
          rw [hse, hse'] at y4
          rw [p1'] at y4
          simp only [List.isEmpty_nil, List.isEmpty_cons, if_true, if_false, Bool.false_eq_true, List.cons.injEq, true_and] at y4
          exact absurd y4.1.symm p3'
        | cons s' ss' =>
          rw [hse, hse'] at y4
          simp only [List.isEmpty_cons, if_false, Bool.false_eq_true, List.cons.injEq, true_and] at y4
          rw [← hse, ← hse'] at y4
          obtain ⟨m1, m2⟩ := sels_inj d sels sels' _ _ fx fy y4
          rw [← hse, ← hse']
          exact ⟨m1, m2⟩
    obtain ⟨w1, w2⟩ := sels_inj (d + 1) xs ys r r' hxs hys hs.2
    rw [q1, q2, q3, z1, y1, hs.1, w1]
    exact ⟨rfl, w2⟩
  termination_by d xs => (d, xs.length)

/-! ### documents -/
def kwT (k : Int) : Tx := if k = 1 then [113, 117, 101, 114, 121] else if k = 2 then [109, 117, 116, 97, 116, 105, 111, 110] else [102, 114, 97, 103, 109, 101, 110, 116]
def defT (d : GDef) : Tx := kwT d.kind ++ ((if d.name = sNone then [] else 32 :: bl d.name) ++ ((if d.kind = 3 then 32 :: 111 :: 110 :: 32 :: bl d.on else []) ++ 32 :: setT (bodyT d.sels)))
def docR (ds : List GDef) : Tx := ds.flatMap fun d => 32 :: defT d
def docT : List GDef → Tx
  | [] => []
  | d :: ds => defT d ++ docR ds
theorem kindD_cases {k : Int} {name on : ByteArray} (h : kindD k name on = true) : ((k = 1 ∨ k = 2) ∧ (name = sNone ∨ nameB name = true) ∧ on = sNone) ∨ (k = 3 ∧ nameB name = true ∧ nameB on = true) := by
  unfold kindD at h
  by_cases h1 : k = 1 ∨ k = 2
  · rw [if_pos h1] at h
    simp only [Bool.and_eq_true, Bool.or_eq_true, decide_eq_true_eq] at h
    exact .inl ⟨h1, h.1, h.2⟩
  · rw [if_neg h1] at h
    by_cases h3 : k = 3
    · rw [if_pos h3] at h
      simp only [Bool.and_eq_true] at h
      exact .inr ⟨h3, h.1.1, h.2⟩
    · rw [if_neg h3] at h; cases h
theorem kwT_nc (k : Int) : ∀ x ∈ kwT k, nc x = true := by
  unfold kwT
  by_cases h1 : k = 1
  · rw [if_pos h1]; decide
  · rw [if_neg h1]
    by_cases h2 : k = 2
    · rw [if_pos h2]; decide
    · rw [if_neg h2]; decide
theorem kwT_inj {k k' : Int} (h : k = 1 ∨ k = 2 ∨ k = 3) (h' : k' = 1 ∨ k' = 2 ∨ k' = 3) (e : kwT k = kwT k') : k = k' := by
  rcases h with h | h | h <;> rcases h' with h' | h' | h' <;> subst h <;> subst h' <;> first | rfl | exact absurd e (by decide)
theorem def_open (d : GDef) (r : Tx) : defT d ++ r = kwT d.kind ++ ((if d.name = sNone then [] else 32 :: bl d.name) ++ ((if d.kind = 3 then 32 :: 111 :: 110 :: 32 :: bl d.on else []) ++ 32 :: 123 :: (bodyT d.sels ++ 32 :: 125 :: r))) := by
  unfold defT setT
  by_cases h1 : d.name = sNone <;> by_cases h2 : d.kind = 3 <;> simp [h1, h2]
theorem def_inj {a b : GDef} (ha : defB a = true) (hb : defB b = true) {r r' : Tx} (h : defT a ++ r = defT b ++ r') : a = b ∧ r = r' := by
  unfold defB at ha hb
  simp only [Bool.and_eq_true] at ha hb
  obtain ⟨⟨ha1, _⟩, ha3⟩ := ha
  obtain ⟨⟨hb1, _⟩, hb3⟩ := hb
  rw [def_open, def_open] at h
  have nm : ∀ (d : GDef), kindD d.kind d.name d.on = true → ∀ r0 : Tx, ∃ c l, ((if d.name = sNone then [] else 32 :: bl d.name) ++ ((if d.kind = 3 then 32 :: 111 :: 110 :: 32 :: bl d.on else []) ++ 32 :: 123 :: r0)) = 32 :: c :: l ∧ (c = 123 ↔ d.name = sNone) := by
    intro d hd r0
    by_cases hn : d.name = sNone
    · have h3 : d.kind ≠ 3 := fun h3 => by
        rcases kindD_cases hd with ⟨q, _⟩ | ⟨_, q, _⟩
        · omega
        · exact name_ne q hn
      rw [if_pos hn, if_neg h3]
      exact ⟨123, r0, rfl, by simp [hn]⟩
    · rw [if_neg hn]
      have : nameB d.name = true := by
        rcases kindD_cases hd with ⟨_, q, _⟩ | ⟨_, q, _⟩
        · exact q.resolve_left hn
        · exact q
      obtain ⟨c, l, e1, e2⟩ := (name_chars this).1
      rw [e1]
      exact ⟨c, _, rfl, by
        constructor
        · intro e; exact absurd e (letter_ne46 e2).2.2.1
        · intro e; exact absurd e hn⟩
  obtain ⟨c, l, e1, e2⟩ := nm a ha1 (bodyT a.sels ++ 32 :: 125 :: r)
  obtain ⟨c', l', e1', e2'⟩ := nm b hb1 (bodyT b.sels ++ 32 :: 125 :: r')
  rw [e1, e1'] at h
  obtain ⟨q1, _, q3⟩ := munch (kwT_nc _) (kwT_nc _) (by decide) (by decide) h
  have hk : a.kind = b.kind := kwT_inj (by rcases kindD_cases ha1 with ⟨q, _⟩ | ⟨q, _⟩ <;> omega) (by rcases kindD_cases hb1 with ⟨q, _⟩ | ⟨q, _⟩ <;> omega) q1
  have q4 : ((if a.name = sNone then [] else 32 :: bl a.name) ++ ((if a.kind = 3 then 32 :: 111 :: 110 :: 32 :: bl a.on else []) ++ 32 :: 123 :: (bodyT a.sels ++ 32 :: 125 :: r))) = ((if b.name = sNone then [] else 32 :: bl b.name) ++ ((if b.kind = 3 then 32 :: 111 :: 110 :: 32 :: bl b.on else []) ++ 32 :: 123 :: (bodyT b.sels ++ 32 :: 125 :: r'))) := by rw [e1, e1', q3]
  injection q3 with q3 _
  have hnn : a.name = sNone ↔ b.name = sNone := by rw [← e2, ← e2', q3]
  have fin : a.name = b.name → a.on = b.on → bodyT a.sels ++ 32 :: 125 :: r = bodyT b.sels ++ 32 :: 125 :: r' → a = b ∧ r = r' := by
    intro z1 z2 z3
    obtain ⟨w1, w2⟩ := sels_inj 7 _ _ _ _ ha3 hb3 z3
    refine ⟨?_, w2⟩
    cases a; cases b; simp_all
  by_cases h3 : a.kind = 3
  · have h3' : b.kind = 3 := by omega
    obtain ⟨_, na, oa⟩ := (kindD_cases ha1).resolve_left (fun q => by omega)
    obtain ⟨_, nb, ob⟩ := (kindD_cases hb1).resolve_left (fun q => by omega)
    rw [if_neg (name_ne na), if_neg (name_ne nb), if_pos h3, if_pos h3'] at q4
    simp only [List.cons_append, List.append_assoc, List.cons.injEq, true_and] at q4
    obtain ⟨z1, _, z3⟩ := name_munch na nb (by decide) (by decide) q4
    simp only [List.cons.injEq, true_and] at z3
    obtain ⟨y1, _, y3⟩ := name_munch oa ob (by decide) (by decide) z3
    simp only [List.cons.injEq, true_and] at y3
    exact fin z1 y1 y3
  · have h3' : ¬ b.kind = 3 := by omega
    obtain ⟨_, na, oa⟩ := (kindD_cases ha1).resolve_right (fun q => h3 q.1)
    obtain ⟨_, nb, ob⟩ := (kindD_cases hb1).resolve_right (fun q => h3' q.1)
    rw [if_neg h3, if_neg h3'] at q4
    by_cases hn : a.name = sNone
    · have hn' := hnn.1 hn
      rw [if_pos hn, if_pos hn'] at q4
      simp only [List.nil_append, List.cons.injEq, true_and] at q4
      exact fin (by rw [hn, hn']) (by rw [oa, ob]) q4
    · have hn' : ¬ b.name = sNone := fun e => hn (hnn.2 e)
      rw [if_neg hn, if_neg hn'] at q4
      simp only [List.nil_append, List.cons_append, List.cons.injEq, true_and] at q4
      obtain ⟨z1, _, z3⟩ := name_munch (na.resolve_left hn) (nb.resolve_left hn') (by decide) (by decide) q4
      simp only [List.cons.injEq, true_and] at z3
      exact fin z1 (by rw [oa, ob]) z3
theorem docR_inj : ∀ {az bs : List GDef}, az.all defB = true → bs.all defB = true → docR az = docR bs → az = bs
  | [], [], _, _, _ => rfl
  | [], b :: bs, _, _, h => by simp [docR] at h
  | a :: az, [], _, _, h => by simp [docR] at h
  | a :: az, b :: bs, ha, hb, h => by
    have e : ∀ (x : GDef) (xs : List GDef), docR (x :: xs) = 32 :: (defT x ++ docR xs) := fun _ _ => rfl
    rw [e, e] at h
    injection h with _ h
    rw [List.all_cons, Bool.and_eq_true] at ha hb
    obtain ⟨q1, q2⟩ := def_inj ha.1 hb.1 h
    rw [q1, docR_inj ha.2 hb.2 q2]
theorem docT_inj {az bs : List GDef} (ha : az.all defB = true) (hb : bs.all defB = true) (hna : az ≠ []) (hnb : bs ≠ []) (h : docT az = docT bs) : az = bs := by
  cases az with
  | nil => exact absurd rfl hna
  | cons a az =>
    cases bs with
    | nil => exact absurd rfl hnb
    | cons b bs =>
      rw [List.all_cons, Bool.and_eq_true] at ha hb
      obtain ⟨q1, q2⟩ := def_inj ha.1 hb.1 h
      rw [q1, docR_inj ha.2 hb.2 q2]
end Go.Proofs.YtlmmimhjfajhdaaGreatDoor.Dm
