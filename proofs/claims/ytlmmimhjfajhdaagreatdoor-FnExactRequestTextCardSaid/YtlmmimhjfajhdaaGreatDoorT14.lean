/- The text that the reference prints of a document is the text of that document. -/
import Derived.Test.YtlmmimhjfajhdaaGreatDoorT13
import Derived.Laws.BitsLemmas
namespace Go.Proofs.YtlmmimhjfajhdaaGreatDoor.Dm
set_option linter.unusedVariables false
set_option linter.unusedSimpArgs false

abbrev S (l : Tx) : ByteArray := ⟨l.toArray⟩
theorem S_bl (s : ByteArray) : S (bl s) = s := by cases s; simp [S, bl]
theorem bl_S (l : Tx) : bl (S l) = l := by simp [S, bl]
theorem S_append (a b : Tx) : S a ++ S b = S (a ++ b) := by
  apply bl_inj
  rw [bl_S]
  show (S a ++ S b).data.toList = a ++ b
  simp [S]
theorem S_size (a : Tx) : (S a).size = a.length := by show a.toArray.size = _; simp
theorem S_inj {a b : Tx} (h : S a = S b) : a = b := by rw [← bl_S a, h, bl_S]
abbrev rS (v : ByteArray) : Option Res := some ([.p (.str v)], [])
theorem bS {R : Type} (v : ByteArray) (K : ByteArray → Option R) : ((rS v).bind fun r => (asStr (pAt 0 r.1)).bind fun v => if r.1.length = 1 then K v else none) = K v := by simp [pAt, asStr]
theorem lim_pos {R : Type} {a b : Tx} {x : Option R} (h : a.length + b.length ≤ LIM) : (if (S a).size + (S b).size ≤ LIM then x else none) = x := by
  rw [S_size, S_size, if_pos h]

theorem asS (v : ByteArray) : asStr (.str v) = some v := rfl
theorem dskip (d : GDir) : asBool (d.enc.getD 0 .undef) = some d.skip := rfl

/-! ### numbers -/
theorem bytes1 (n : Int) : bytesOf [[.int .u8 n]] = some [UInt8.ofNat n.toNat] := rfl
theorem digits_nat : ∀ (m : Nat), m < 9223372036854775808 → ev E0 F_spec_l00Digits [.p (.int .i64 m)] [] = rS (S (digN m)) ∧ (digN m).length ≤ m + 1 := by
  intro m
  induction m using Nat.strongRecOn with
  | ind m ih =>
    intro hm
    rw [spec_l00Digits_0_ev, spec_l00Digits_0_eq]
    have e1 : ((m : Int) == -9223372036854775808) = false := by rw [beq_int]; exact decide_eq_false (by omega)
    rw [e1, cond_false, decide_eq_false (by omega), cond_false]
    unfold digN
    by_cases h : m < 10
    · rw [decide_eq_true (by omega), cond_true, if_pos h]
      have e2 : IntKind.u8.wrap (IntKind.i64.wrap (48 + (m : Int))) = ((48 + m : Nat) : Int) := by rw [wrap_id (by omega), IntKind.wrap_u8]; omega
      rw [e2, bytes1, Int.toNat_natCast]
      exact ⟨rfl, by simp⟩
    · rw [decide_eq_false (by omega), cond_false, if_neg h]
      have e2 : IntKind.u8.wrap (IntKind.i64.wrap (48 + (m : Int).tmod 10)) = ((48 + m % 10 : Nat) : Int) := by
        have : (m : Int).tmod 10 = ((m % 10 : Nat) : Int) := rfl
        rw [this, wrap_id (by omega), IntKind.wrap_u8]; omega
      have e3 : IntKind.i64.wrap ((m : Int).tdiv 10) = ((m / 10 : Nat) : Int) := by
        have : (m : Int).tdiv 10 = ((m / 10 : Nat) : Int) := rfl
        rw [this, wrap_id (by omega)]
      obtain ⟨h1, h2⟩ := ih (m / 10) (by omega) (by omega)
      rw [e2, e3, h1, bS, bytes1, Option.bind_some, Int.toNat_natCast]
      have hs : (digN (m / 10)).length + ([UInt8.ofNat (48 + m % 10)] : Tx).length ≤ LIM := by
        have := digN_len 18 (m / 10) (by omega)
        simp only [List.length_singleton, LIM]
        omega
      refine ⟨?_, by simp only [List.length_append, List.length_singleton]; omega⟩
      rw [lim_pos hs, S_append]
theorem digits_ev {n : Int} (h : -9223372036854775808 < n ∧ n ≤ 9223372036854775807) : ev E0 F_spec_l00Digits [.p (.int .i64 n)] [] = rS (S (digI n)) := by
  unfold digI
  by_cases hn : n < 0
  · rw [if_pos hn, spec_l00Digits_0_ev, spec_l00Digits_0_eq]
    have e1 : (n == -9223372036854775808) = false := by rw [beq_int]; exact decide_eq_false (by omega)
    have e2 : IntKind.i64.wrap (0 - n) = (((-n).toNat : Nat) : Int) := by rw [wrap_id (by omega)]; omega
    rw [e1, cond_false, decide_eq_true hn, cond_true, e2, (digits_nat (-n).toNat (by omega)).1, bS]
    have hs : ([45] : Tx).length + (digN (-n).toNat).length ≤ LIM := by
      have := digN_len 18 (-n).toNat (by omega)
      simp only [List.length_singleton, LIM]
      omega
    rw [lim_pos hs, S_append]
    rfl
  · rw [if_neg hn]
    have e : n = ((n.toNat : Nat) : Int) := by omega
    rw [e]
    have := (digits_nat n.toNat (by omega)).1
    rw [this, Int.toNat_natCast]
theorem value_ev {v : GVal} (hv : valueB v = true) : ev E0 F_spec_l02Value [.p (.agg 3 [.int .i64 v.kind, .int .i64 v.n, .str v.t])] [] = rS (S (vtx v)) := by
  rw [spec_l02Value_0_ev, spec_l02Value_0_eq]
  rcases valueB_cases hv with ⟨k, n1, n2, t⟩ | ⟨k, n, t⟩ | ⟨k, n, t⟩ | ⟨k, n, t⟩
  · rw [k, vtx1 k, digits_ev (by omega), bS]
    rfl
  · rw [k, vtx2 k]
    rcases n with n | n <;> rw [n] <;> rfl
  · rw [k, vtx3 k]
    rfl
  · rw [k, vtx4 k]
    have hl := (name_chars t).2.2
    have hs : ([36] : Tx).length + (bl v.t).length ≤ LIM := by
      simp only [List.length_singleton, LIM]
      omega
    have : (if (⟨#[36]⟩ : ByteArray).size + v.t.size ≤ LIM then (some ([.p (.str ((⟨#[36]⟩ : ByteArray) ++ v.t))], []) : Option Res) else none) = rS (S (36 :: bl v.t)) := by
      have e : v.t = S (bl v.t) := (S_bl v.t).symm
      generalize bl v.t = l at e hs
      rw [e]
      exact (lim_pos (a := [36]) (b := l) hs).trans (by show rS (S [36] ++ S l) = _; rw [S_append]; rfl)
    exact this
theorem bit_ev (b : Bool) : ev E0 F_spec_l01Bit [.p (.bool b)] [] = rI (if b = true then 1 else 0) := by
  rw [spec_l01Bit_0_ev, spec_l01Bit_0_eq]
  cases b <;> rfl

/-! ### lengths -/
theorem argT_len {a : GArg} (h : argB a = true) : (argT a).length ≤ 83 := by
  have h1 := (name_chars (argB_cases h).1).2.2
  have h2 := (vtx_props (argB_cases h).2).2.2
  unfold argT
  simp only [List.length_append, List.length_cons]
  omega
/-- the arguments one by one, the first one behind a bracket -/
def argsG (first : Bool) : List GArg → Tx
  | [] => []
  | a :: az => (if first = true then 40 else 32) :: (argT a ++ argsG false az)
theorem argsG_false : ∀ az : List GArg, argsG false az = argsR az
  | [] => rfl
  | a :: az => by
    have : argsR (a :: az) = 32 :: (argT a ++ argsR az) := rfl
    rw [argsG, argsG_false az, this]
    rfl
theorem argsG_true (az : List GArg) : argsT az = argsG true az ++ (if az.isEmpty = true then [] else [41]) := by
  cases az with
  | nil => rfl
  | cons a az => simp [argsT, argsG, argsG_false]
theorem skipT_len (b : Bool) : (skipT b).length ≤ 7 := by cases b <;> decide
theorem dirT_len {d : GDir} (h : dirB d = true) : (dirT d).length ≤ 56 := by
  have h2 := (vtx_props h).2.2
  have h3 := skipT_len d.skip
  unfold dirT
  simp only [List.length_append, List.length_cons, List.length_nil]
  omega
theorem headT_len {k : Int} {al nm : ByteArray} {na ns : Nat} (h : kindB k al nm na ns = true) : (headT k al nm).length ≤ 82 := by
  rcases kindB_cases h with ⟨k1, h1, h2⟩ | ⟨k1, h1, h2, h3, h4, h5⟩ | ⟨k1, h1, h2, h3, h4⟩
  · rw [head1 k1]
    have := (name_chars h1).2.2
    by_cases ha : al = sNone
    · rw [if_pos ha]; omega
    · rw [if_neg ha]
      have := (name_chars (h2.resolve_left ha)).2.2
      simp only [List.length_append, List.length_cons]
      omega
  · rw [head2 k1]
    have := (name_chars h1).2.2
    simp only [List.length_cons]
    omega
  · rw [head3 k1]
    by_cases ha : nm = sNone
    · rw [if_pos ha]; simp
    · rw [if_neg ha]
      have := (name_chars (h1.resolve_left ha)).2.2
      simp only [List.length_cons]
      omega

/-! ### one selection -/
theorem args_text {args : List GArg} (ha : ∀ a ∈ args, argB a = true) (h4 : args.length ≤ 4) (n2 : Int) (s3 s4 : ByteArray) (l6 l7 : List (List Pd)) : ∀ (k i : Nat) (acc : Tx), i + k = args.length → acc.length ≤ 100 + 100 * i →
    spec_l02SelText_2 (S acc) i n2 s3 s4 (args.map GArg.enc) l6 l7 = spec_l02SelText_3 (S (acc ++ (argsG (decide (i = 0)) (args.drop i) ++ (if args.isEmpty = true then [] else [41])))) n2 s3 s4 (args.map GArg.enc) l6 l7
  | 0, i, acc, h, hacc => by
    have : i = args.length := by omega
    subst this
    have hlen : (args.map GArg.enc).length = args.length := by simp
    rw [spec_l02SelText_2_eq, hlen, List.drop_length, decide_eq_false (by omega), cond_false, int_gt0]
    cases args with
    | nil => simp [argsG]
    | cons a az =>
      have hs : acc.length + ([41] : Tx).length ≤ LIM := by
        simp only [List.length_cons, List.length_nil, LIM] at *
        omega
      rw [decide_eq_true (by simp), cond_true]
      refine (lim_pos (a := acc) (b := [41]) hs).trans ?_
      have : (⟨#[41]⟩ : ByteArray) = S [41] := rfl
      rw [this, S_append]
      rfl
  | k + 1, i, acc, h, hacc => by
    have hlen : (args.map GArg.enc).length = args.length := by simp
    have hlt : i < args.length := by omega
    have hg : args[i]? = some args[i] := List.getElem?_eq_getElem hlt
    have hb := ha args[i] (List.getElem_mem _)
    have e2 : IntKind.i64.wrap ((i : Int) + 1) = ((i + 1 : Nat) : Int) := by rw [wrap_id (by omega)]; omega
    have hsep : ∃ c : UInt8, (if decide (i = 0) = true then (40 : UInt8) else 32) = c ∧ (((([[.str (⟨#[40]⟩ : ByteArray)], [.str (⟨#[32]⟩ : ByteArray)]] : List (List Pd)).getD ((if decide ((i : Int) > 0) = true then (1 : Int) else 0)).toNat []).getD 0 .undef)) = .str (S [c]) ∧ 0 ≤ (if decide ((i : Int) > 0) = true then (1 : Int) else 0) ∧ (if decide ((i : Int) > 0) = true then (1 : Int) else 0) < 2 ∧ ((if decide ((i : Int) > 0) = true then (1 : Int) else 0)).toNat < 2 := by
      by_cases h0 : i = 0
      · subst h0
        exact ⟨40, rfl, rfl, by decide, by decide, by decide⟩
      · rw [decide_eq_false h0, decide_eq_true (by omega)]
        exact ⟨32, rfl, rfl, by decide, by decide, by decide⟩
    obtain ⟨c, c1, c2, c3, c4, c5⟩ := hsep
    have hn := (name_chars (argB_cases hb).1).2.2
    have hvl := (vtx_props (argB_cases hb).2).2.2
    have hal := argT_len hb
    have en : asStr ((args[i].enc).getD 0 .undef) = some (S (bl args[i].name)) := by rw [S_bl]; rfl
    have ed : (args[i].enc).drop 1 = [.int .i64 args[i].val.kind, .int .i64 args[i].val.n, .str args[i].val.t] := rfl
    have h58 : (⟨#[58, 32]⟩ : ByteArray) = S [58, 32] := rfl
    have hlim : (2 : Nat) ^ 20 ≤ LIM := by decide
    rw [spec_l02SelText_2_eq, hlen, decide_eq_true (by omega), cond_true, bit_ev, bI]
    generalize (if decide ((i : Int) > 0) = true then (1 : Int) else 0) = bit at c2 c3 c4 c5
    rw [if_pos ⟨c3, by simpa using c4⟩, if_pos ⟨rfl, by simpa using c5, by omega⟩, c2, asS, Option.bind_some, if_pos (by omega), getD_enc hg, en, Option.bind_some, lim_pos (by simp only [List.length_singleton]; omega), S_append, h58, lim_pos (by simp only [List.length_append, List.length_cons, List.length_nil]; omega), S_append, if_pos (by omega), ed, value_ev (argB_cases hb).2, bS,
      lim_pos (by simp only [List.length_append, List.length_cons, List.length_nil]; omega), S_append, lim_pos (by simp only [List.length_append, List.length_cons, List.length_nil]; omega), S_append, e2, args_text ha h4 n2 s3 s4 l6 l7 k (i + 1) _ (by omega) (by simp only [List.length_append, List.length_cons, List.length_nil]; omega)]
    rw [List.drop_eq_getElem_cons hlt, argsG, c1, decide_eq_false (show ¬ i + 1 = 0 by omega)]
    simp [argT]
theorem dirs_text {dirs : List GDir} (hd : ∀ d ∈ dirs, dirB d = true) (h4 : dirs.length ≤ 4) (n2 : Int) (s3 s4 : ByteArray) (l5 l7 : List (List Pd)) : ∀ (k i : Nat) (acc : Tx), i + k = dirs.length → acc.length ≤ 500 + 60 * i →
    spec_l02SelText_4 (S acc) i n2 s3 s4 l5 (dirs.map GDir.enc) l7 = spec_l02SelText_4 (S (acc ++ dirsT (dirs.drop i))) dirs.length n2 s3 s4 l5 (dirs.map GDir.enc) l7
  | 0, i, acc, h, hacc => by
    have : i = dirs.length := by omega
    subst this
    rw [List.drop_length]
    simp [dirsT]
  | k + 1, i, acc, h, hacc => by
    have hlen : (dirs.map GDir.enc).length = dirs.length := by simp
    have hlt : i < dirs.length := by omega
    have hg : dirs[i]? = some dirs[i] := List.getElem?_eq_getElem hlt
    have hb := hd dirs[i] (List.getElem_mem _)
    have e2 : IntKind.i64.wrap ((i : Int) + 1) = ((i + 1 : Nat) : Int) := by rw [wrap_id (by omega)]; omega
    have hsep : (((([[.str (⟨#[105, 110, 99, 108, 117, 100, 101]⟩ : ByteArray)], [.str (⟨#[115, 107, 105, 112]⟩ : ByteArray)]] : List (List Pd)).getD ((if dirs[i].skip = true then (1 : Int) else 0)).toNat []).getD 0 .undef)) = .str (S (skipT dirs[i].skip)) ∧ 0 ≤ (if dirs[i].skip = true then (1 : Int) else 0) ∧ (if dirs[i].skip = true then (1 : Int) else 0) < 2 ∧ ((if dirs[i].skip = true then (1 : Int) else 0)).toNat < 2 := by
      cases dirs[i].skip
      · exact ⟨rfl, by decide, by decide, by decide⟩
      · exact ⟨rfl, by decide, by decide, by decide⟩
    obtain ⟨c2, c3, c4, c5⟩ := hsep
    have hvl := (vtx_props hb).2.2
    have hsl := skipT_len dirs[i].skip
    have hal := dirT_len hb
    have ed : (dirs[i].enc).drop 1 = [.int .i64 dirs[i].val.kind, .int .i64 dirs[i].val.n, .str dirs[i].val.t] := rfl
    have h1 : (⟨#[32, 64]⟩ : ByteArray) = S [32, 64] := rfl
    have h2 : (⟨#[40, 105, 102, 58, 32]⟩ : ByteArray) = S [40, 105, 102, 58, 32] := rfl
    have h3 : (⟨#[41]⟩ : ByteArray) = S [41] := rfl
    have hlim : (2 : Nat) ^ 20 ≤ LIM := by decide
    rw [spec_l02SelText_4_eq, hlen, decide_eq_true (by omega), cond_true, if_pos (by omega), getD_enc hg, dskip, Option.bind_some, bit_ev, bI]
    generalize (if dirs[i].skip = true then (1 : Int) else 0) = bit at c2 c3 c4 c5
    rw [if_pos ⟨c3, by simpa using c4⟩, if_pos ⟨rfl, by simpa using c5, by omega⟩, c2, asS, Option.bind_some, h1, h2, h3, lim_pos (by simp only [List.length_cons, List.length_nil]; omega), S_append, lim_pos (by simp only [List.length_append, List.length_cons, List.length_nil]; omega), S_append, if_pos (by omega), ed, value_ev hb, bS,
      lim_pos (by simp only [List.length_append, List.length_cons, List.length_nil]; omega), S_append, lim_pos (by simp only [List.length_append, List.length_cons, List.length_nil]; omega), S_append, lim_pos (by simp only [List.length_append, List.length_cons, List.length_nil]; omega), S_append, e2, dirs_text hd h4 n2 s3 s4 l5 l7 k (i + 1) _ (by omega) (by simp only [List.length_append, List.length_cons, List.length_nil]; omega)]
    rw [List.drop_eq_getElem_cons hlt, dirsT_cons]
    simp [dirT]

/-! ### selections -/
theorem bodyT_len : ∀ (d : Nat) (xs : List GSel), fine d xs = true → (bodyT xs).length ≤ 700 * cnts xs
  | _, [], _ => by simp [bodyT, cnts]
  | 0, x :: xs, h => by simp [fine] at h
  | d + 1, .mk k al nm args dirs sels :: xs, h => by
    have hxs : fine (d + 1) xs = true := by
      simp only [fine, List.all_cons, Bool.and_eq_true] at h ⊢
      exact h.2
    simp only [fine, List.all_cons, Bool.and_eq_true, GSel.subs] at h
    obtain ⟨⟨sx, fx⟩, _⟩ := h
    obtain ⟨a1, a2, a3, a4, a5⟩ := selB_cases sx
    have h1 := bodyT_len d sels fx
    have h2 := bodyT_len (d + 1) xs hxs
    have h3 := headT_len a5
    have h4 : (argsT args).length ≤ 84 * args.length + 1 := by
      have : ∀ (b : Bool) (az : List GArg), (∀ a ∈ az, argB a = true) → (argsG b az).length ≤ 84 * az.length := by
        intro b az
        induction az generalizing b with
        | nil => intro _; simp [argsG]
        | cons a az ih =>
          intro ha
          have q1 := argT_len (ha a (List.mem_cons_self ..))
          have q2 := ih false (fun x hx => ha x (List.mem_cons_of_mem _ hx))
          simp only [argsG, List.length_cons, List.length_append]
          omega
      rw [argsG_true, List.length_append]
      have := this true args a2
      split <;> simp only [List.length_nil, List.length_singleton] <;> omega
    have h5 : (dirsT dirs).length ≤ 56 * dirs.length := by
      clear h3 h4 a3 sx
      induction dirs with
      | nil => simp [dirsT]
      | cons x ds ih =>
        have q1 := dirT_len (a1 x (List.mem_cons_self ..))
        have q2 := ih (fun y hy => a1 y (List.mem_cons_of_mem _ hy))
        rw [dirsT_cons, List.length_append, List.length_cons]
        omega
    simp only [bodyT, selT, cnts, cntS, List.length_append, List.length_cons]
    have h6 : (if sels.isEmpty = true then ([] : Tx) else 32 :: setT (bodyT sels)).length ≤ (bodyT sels).length + 4 := by
      split
      · simp
      · simp only [setT, List.length_cons, List.length_append, List.length_nil]; omega
    omega
  termination_by d xs => (d, xs.length)
theorem selT_len {d : Nat} {x : GSel} (h : selB x = true) (hf : fine d x.subs = true) : (selT x).length + 1 ≤ 700 * cntS x := by
  have := bodyT_len (d + 1) [x] (by simp [fine, h, hf])
  simp only [bodyT, cnts, List.length_append, List.length_cons, List.length_nil] at this
  omega
theorem sel_text {x : GSel} (hx : okSel x) (hs : selB x = true) (hsub : ev E0 F_spec_l02Text [.p (.sl 6 (x.subs.map GSel.enc))] [] = rS (S (setT (bodyT x.subs)))) (hlen : (bodyT x.subs).length ≤ 42000) : ev E0 F_spec_l02SelText [.p (.agg 6 x.enc)] [] = rS (S (selT x)) := by
  cases x with
  | mk k al nm args dirs sels =>
    obtain ⟨a1, a2, a3, a4, a5⟩ := selB_cases hs
    have hsub : ev E0 F_spec_l02Text [.p (.sl 6 (sels.map GSel.enc))] [] = rS (S (setT (bodyT sels))) := hsub
    have hlen : (bodyT sels).length ≤ 42000 := hlen
    have hlim : (2 : Nat) ^ 20 ≤ LIM := by decide
    have hb : ∀ acc : Tx, acc.length ≤ 82 → spec_l02SelText_1 (S acc) k al nm (args.map GArg.enc) (dirs.map GDir.enc) (sels.map GSel.enc) = rS (S (acc ++ (argsT args ++ (dirsT dirs ++ (if sels.isEmpty then [] else 32 :: setT (bodyT sels)))))) := by
      intro acc hacc
      have t1 := args_text a2 a4 k al nm (dirs.map GDir.enc) (sels.map GSel.enc) args.length 0 acc (by omega) (by omega)
      have e0 : ((0 : Nat) : Int) = 0 := rfl
      rw [e0, List.drop_zero, decide_eq_true rfl, ← argsG_true] at t1
      have hargs : (argsT args).length ≤ 337 := by
        have : ∀ (b : Bool) (az : List GArg), (∀ a ∈ az, argB a = true) → (argsG b az).length ≤ 84 * az.length := by
          intro b az
          induction az generalizing b with
          | nil => intro _; simp [argsG]
          | cons a az ih =>
            intro ha
            have q1 := argT_len (ha a (List.mem_cons_self ..))
            have q2 := ih false (fun x hx => ha x (List.mem_cons_of_mem _ hx))
            simp only [argsG, List.length_cons, List.length_append]
            omega
        rw [argsG_true, List.length_append]
        have := this true args a2
        split <;> simp only [List.length_nil, List.length_singleton] <;> omega
      have t2 := dirs_text a1 a3 k al nm (args.map GArg.enc) (sels.map GSel.enc) dirs.length 0 (acc ++ argsT args) (by omega) (by simp only [List.length_append]; omega)
      rw [e0, List.drop_zero] at t2
      have hdirs : (dirsT dirs).length ≤ 224 := by
        have : ∀ ds : List GDir, (∀ d ∈ ds, dirB d = true) → (dirsT ds).length ≤ 56 * ds.length := by
          intro ds
          induction ds with
          | nil => intro _; simp [dirsT]
          | cons x ds ih =>
            intro hd
            have q1 := dirT_len (hd x (List.mem_cons_self ..))
            have q2 := ih (fun y hy => hd y (List.mem_cons_of_mem _ hy))
            rw [dirsT_cons, List.length_append, List.length_cons]
            omega
        have := this dirs a1
        omega
      have hd : (dirs.map GDir.enc).length = dirs.length := by simp
      have hsl : (sels.map GSel.enc).length = sels.length := by simp
      rw [spec_l02SelText_1_eq, t1, spec_l02SelText_3_eq, t2, spec_l02SelText_4_eq, hd, decide_eq_false (by omega), cond_false, hsl, int_gt0]
      cases sels with
      | nil =>
        rw [decide_eq_false (by simp), cond_false, spec_l02SelText_5_eq]
        simp
      | cons s ss =>
        have h32 : (⟨#[32]⟩ : ByteArray) = S [32] := rfl
        rw [decide_eq_true (by simp), cond_true, hsub, bS, h32, lim_pos (by simp only [setT, List.length_append, List.length_cons, List.length_nil]; omega), S_append, lim_pos (by simp only [setT, List.length_append, List.length_cons, List.length_nil]; omega), S_append, spec_l02SelText_5_eq]
        simp
    have hh := headT_len a5
    unfold GSel.enc
    rw [GSel.encs_eq, spec_l02SelText_0_ev, spec_l02SelText_0_eq, selT]
    have h58 : (⟨#[58, 32]⟩ : ByteArray) = S [58, 32] := rfl
    have h46 : (⟨#[46, 46, 46, 32]⟩ : ByteArray) = S [46, 46, 46, 32] := rfl
    have h3 : (⟨#[46, 46, 46]⟩ : ByteArray) = S [46, 46, 46] := rfl
    have hon : (⟨#[32, 111, 110, 32]⟩ : ByteArray) = S [32, 111, 110, 32] := rfl
    have hal : al = S (bl al) := (S_bl al).symm
    have hnm : nm = S (bl nm) := (S_bl nm).symm
    have lal : al.size = (bl al).length := bl_size al
    rcases kindB_cases a5 with ⟨k1, h1, h2⟩ | ⟨k1, h1, h2, _, _, _⟩ | ⟨k1, h1, h2, _, _⟩
    · have n1 := (name_chars h1).2.2
      rw [head1 k1] at hh ⊢
      by_cases ha : al = sNone
      · rw [if_pos ha] at hh ⊢
        have hb' := hb (bl nm) hh
        rw [S_bl] at hb'
        rw [beq_int k 1, decide_eq_true k1, cond_true, decide_eq_true ha, Bool.not_true, cond_false]
        exact hb'
      · rw [if_neg ha] at hh ⊢
        have n2 := (name_chars (h2.resolve_left ha)).2.2
        have hb' := hb _ hh
        have e : ((al ++ (⟨#[58, 32]⟩ : ByteArray)) ++ nm) = S (bl al ++ 58 :: 32 :: bl nm) := by
          conv => lhs; rw [hal, hnm, h58, S_append, S_append]
          simp
        have c1 : al.size + (⟨#[58, 32]⟩ : ByteArray).size ≤ LIM := by
          rw [hal, h58, S_size, S_size]
          simp only [List.length_cons, List.length_nil]
          omega
        have c2 : (al ++ (⟨#[58, 32]⟩ : ByteArray)).size + nm.size ≤ LIM := by
          rw [hal, hnm, h58, S_append, S_size, S_size]
          simp only [List.length_append, List.length_cons, List.length_nil]
          omega
        rw [← e] at hb'
        rw [beq_int k 1, decide_eq_true k1, cond_true, decide_eq_false ha, Bool.not_false, cond_true, if_pos c1, if_pos c2]
        exact hb'
    · have n1 := (name_chars h1).2.2
      rw [head2 k1] at hh ⊢
      have hb' := hb _ hh
      have e : ((⟨#[46, 46, 46, 32]⟩ : ByteArray) ++ nm) = S (46 :: 46 :: 46 :: 32 :: bl nm) := by
        conv => lhs; rw [hnm, h46, S_append]
        simp
      have c1 : (⟨#[46, 46, 46, 32]⟩ : ByteArray).size + nm.size ≤ LIM := by
        rw [hnm, h46, S_size, S_size]
        simp only [List.length_cons, List.length_nil]
        omega
      rw [← e] at hb'
      rw [beq_int k 1, decide_eq_false (by omega), cond_false, beq_int k 2, decide_eq_true k1, cond_true, if_pos c1]
      exact hb'
    · rw [head3 k1] at hh ⊢
      by_cases ha : nm = sNone
      · rw [if_pos ha] at hh ⊢
        have hb' := hb _ hh
        rw [beq_int k 1, decide_eq_false (by omega), cond_false, beq_int k 2, decide_eq_false (by omega), cond_false, decide_eq_true ha, Bool.not_true, cond_false]
        exact hb'
      · rw [if_neg ha] at hh ⊢
        have n1 := (name_chars (h1.resolve_left ha)).2.2
        have hb' := hb _ hh
        have e : ((⟨#[46, 46, 46]⟩ : ByteArray) ++ ((⟨#[32, 111, 110, 32]⟩ : ByteArray) ++ nm)) = S (46 :: 46 :: 46 :: 32 :: 111 :: 110 :: 32 :: bl nm) := by
          conv => lhs; rw [hnm, h3, hon, S_append, S_append]
          simp
        have c1 : (⟨#[32, 111, 110, 32]⟩ : ByteArray).size + nm.size ≤ LIM := by
          rw [hnm, hon, S_size, S_size]
          simp only [List.length_cons, List.length_nil]
          omega
        have c2 : (⟨#[46, 46, 46]⟩ : ByteArray).size + ((⟨#[32, 111, 110, 32]⟩ : ByteArray) ++ nm).size ≤ LIM := by
          rw [hnm, h3, hon, S_append, S_size, S_size]
          simp only [List.length_append, List.length_cons, List.length_nil]
          omega
        rw [← e] at hb'
        rw [beq_int k 1, decide_eq_false (by omega), cond_false, beq_int k 2, decide_eq_false (by omega), cond_false, decide_eq_false ha, Bool.not_false, cond_true, if_pos c1, if_pos c2]
        exact hb'
theorem body_cons (x : GSel) (xs : List GSel) : bodyT (x :: xs) = 32 :: (selT x ++ bodyT xs) := by rw [bodyT]; rfl
theorem set_text : ∀ (d : Nat) (xs : List GSel), fine d xs = true → okL okSel xs → cnts xs ≤ 60 → ev E0 F_spec_l02Text [.p (.sl 6 (xs.map GSel.enc))] [] = rS (S (setT (bodyT xs)))
  | d, xs, hf, hok, hc => by
    have hlim : (2 : Nat) ^ 20 ≤ LIM := by decide
    have hxl := hok.1
    have hlen : (xs.map GSel.enc).length = xs.length := by simp
    have hmem : ∀ x ∈ xs, ev E0 F_spec_l02SelText [.p (.agg 6 x.enc)] [] = rS (S (selT x)) := by
      intro x hx
      cases d with
      | zero =>
        simp only [fine, List.isEmpty_iff] at hf
        rw [hf] at hx
        cases hx
      | succ d =>
        simp only [fine, List.all_eq_true, Bool.and_eq_true] at hf
        have h1 := hf x hx
        have hcx : cntS x ≤ 60 := by
          refine Nat.le_trans ?_ hc
          clear hf h1 hc hok hxl hlen
          induction xs with
          | nil => cases hx
          | cons y ys ih =>
            simp only [cnts]
            rcases List.mem_cons.1 hx with q | q
            · rw [q]; omega
            · have := ih q; omega
        have hcs : cnts x.subs ≤ 60 := by rw [cntS_eq] at hcx; omega
        have hl := bodyT_len d x.subs h1.2
        exact sel_text (hok.2 x hx) h1.1 (set_text d x.subs h1.2 (subs_ok (hok.2 x hx)) hcs) (by omega)
    have hb := bodyT_len d xs hf
    have loop : ∀ (k i : Nat) (acc : Tx), i + k = xs.length → acc.length + (bodyT (xs.drop i)).length ≤ 50000 → spec_l02Text_1 (xs.map GSel.enc) (S acc) i = rS (S (acc ++ (bodyT (xs.drop i) ++ [32, 125]))) := by
      intro k
      induction k with
      | zero =>
        intro i acc h hacc
        have : i = xs.length := by omega
        subst this
        have h2 : (⟨#[32, 125]⟩ : ByteArray) = S [32, 125] := rfl
        rw [spec_l02Text_1_eq, hlen, List.drop_length, decide_eq_false (by omega), cond_false, h2, lim_pos (by simp only [List.length_cons, List.length_nil]; omega), S_append]
        simp [bodyT]
      | succ k ih =>
        intro i acc h hacc
        have hlt : i < xs.length := by omega
        have hg : xs[i]? = some xs[i] := List.getElem?_eq_getElem hlt
        have e2 : IntKind.i64.wrap ((i : Int) + 1) = ((i + 1 : Nat) : Int) := by rw [wrap_id (by omega)]; omega
        have h32 : (⟨#[32]⟩ : ByteArray) = S [32] := rfl
        rw [List.drop_eq_getElem_cons hlt, body_cons] at hacc ⊢
        simp only [List.length_cons, List.length_append] at hacc
        rw [spec_l02Text_1_eq, hlen, decide_eq_true (by omega), cond_true, if_pos (by omega), getD_enc hg, hmem xs[i] (List.getElem_mem _), bS, h32, lim_pos (by simp only [List.length_cons, List.length_nil]; omega), S_append, lim_pos (by simp only [List.length_append, List.length_cons, List.length_nil]; omega), S_append, e2, ih (i + 1) _ (by omega) (by simp only [List.length_append, List.length_cons, List.length_nil]; omega)]
        simp
    have e0 : ((0 : Nat) : Int) = 0 := rfl
    have := loop xs.length 0 [123] (by omega) (by rw [List.drop_zero]; simp only [List.length_cons, List.length_nil]; omega)
    rw [e0, List.drop_zero] at this
    rw [spec_l02Text_0_ev, spec_l02Text_0_eq]
    exact this
  termination_by d => d
end Go.Proofs.YtlmmimhjfajhdaaGreatDoor.Dm
