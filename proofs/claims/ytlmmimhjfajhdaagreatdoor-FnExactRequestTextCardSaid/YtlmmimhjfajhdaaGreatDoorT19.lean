/- The text that the program prints of a whole document. -/
import Derived.Test.YtlmmimhjfajhdaaGreatDoorT15
namespace Go.Proofs.YtlmmimhjfajhdaaGreatDoor.Dm
set_option linter.unusedVariables false
set_option linter.unusedSimpArgs false

/-! ### the library's functions -/
theorem decDigits_digN : ∀ n : Nat, Lib.decDigits n = digN n := by
  intro n
  induction n using Nat.strongRecOn with
  | ind n ih =>
    rw [Lib.decDigits, digN]
    by_cases h : n < 10
    · rw [dif_pos h, if_pos h]
    · rw [dif_neg h, if_neg h, ih (n / 10) (by omega)]
theorem itoa_digI (n : Int) : Lib.itoa n = digI n := by
  unfold Lib.itoa digI
  rw [decDigits_digN, decDigits_digN]
  have : n.natAbs = (-n).toNat ∨ ¬ n < 0 := by omega
  rcases this with h | h
  · rw [h]
  · rw [if_neg h, if_neg h]
theorem itoa_lib (n : Int) : ev E0 F_strconv_Itoa [.p (.int .i64 n)] [] = libD itoaL [.p (.int .i64 n)] [] := (ev_eq _ _ _ _).trans (by kernel_rfl)
theorem itoa_ev {n : Int} (h : -9223372036854775808 ≤ n ∧ n ≤ 9223372036854775807) : ev E0 F_strconv_Itoa [.p (.int .i64 n)] [] = rS (S (digI n)) := by
  rw [itoa_lib, ← itoa_digI]
  simp only [libD, pures, itoaL, if_pos h]
theorem strsOf_map : ∀ ws : List Tx, strsOf (ws.map fun w => [.str (S w)]) = some (ws.map S)
  | [] => rfl
  | w :: ws => by
    rw [List.map_cons, strsOf, strsOf_map ws]
    rfl
theorem join_joinT (ws : List Tx) : Lib.join (ws.map fun w => (S w).data.toList) [32] = joinT ws := by
  have e : (ws.map fun w => (S w).data.toList) = ws := by
    have : (fun w : Tx => (S w).data.toList) = id := funext fun w => bl_S w
    rw [this, List.map_id]
  rw [e]
  cases ws with
  | nil => rfl
  | cons w ws =>
    rw [Lib.join_cons]
    unfold joinT Lib.joinTail
    rw [← List.flatMap_def]
    rfl
theorem join_lib (es : List (List Pd)) (s : ByteArray) : ev E0 F_strings_Join [.p (.sl 1 es), .p (.str s)] [] = libD joinL [.p (.sl 1 es), .p (.str s)] [] := (ev_eq _ _ _ _).trans (by kernel_rfl)
theorem joinI_ev {ws : List Tx} (hlen : ws.length ≤ 1000) (hj : (joinT ws).length ≤ 1000000) : ev E0 F_strings_Join [.p (.sl 1 (ws.map fun w => [.str (S w)])), .p (.str (⟨#[32]⟩ : ByteArray))] [] = rS (S (joinT ws)) := by
  have hlim : (2 : Nat) ^ 40 ≤ LIM := by decide
  rw [join_lib]
  simp only [libD, pures, joinL, strsOf_map, List.map_map, Function.comp_def, List.length_map]
  have e : (Lib.join (ws.map fun w => (S w).data.toList) ((⟨#[32]⟩ : ByteArray).data.toList)) = joinT ws := join_joinT ws
  rw [e, if_pos ⟨by omega, by omega⟩]

/-! ### values -/
theorem ivalue_ev {v : GVal} (hv : valueB v = true) : ev E0 F_impl_Value_text [.p (.agg 3 [.int .i64 v.kind, .int .i64 v.n, .str v.t])] [] = rS (S (vtx v)) := by
  rw [impl_Value_text_0_ev, impl_Value_text_0_eq]
  rcases valueB_cases hv with ⟨k, n1, n2, t⟩ | ⟨k, n, t⟩ | ⟨k, n, t⟩ | ⟨k, n, t⟩
  · rw [k, vtx1 k, itoa_ev (by omega), bS]
    rfl
  · rw [k, vtx2 k]
    rcases n with n | n <;> rw [n] <;> rfl
  · rw [k, vtx3 k]
    rfl
  · rw [k, vtx4 k]
    have hl := (name_chars t).2.2
    have hs : ([36] : Tx).length + (bl v.t).length ≤ LIM := by
      simp only [List.length_singleton, LIM]
      omega
    have : (if (⟨#[36]⟩ : ByteArray).size + v.t.size ≤ LIM then (some ([.p (.str ((⟨#[36]⟩ : ByteArray) ++ v.t))], []) : Option Res) else none) = rS (S (36 :: bl v.t)) := by
      have e : v.t = S (bl v.t) := (S_bl v.t).symm
      generalize bl v.t = l at e hs
      rw [e]
      exact (lim_pos (a := [36]) (b := l) hs).trans (by show rS (S [36] ++ S l) = _; rw [S_append]; rfl)
    exact this

/-! ### one selection -/
theorem argsT_join {args : List GArg} (h : args ≠ []) : argsT args = 40 :: (joinT (args.map argT) ++ [41]) := by
  cases args with
  | nil => exact absurd rfl h
  | cons a az =>
    have : argsR az = (az.map argT).flatMap fun x => 32 :: x := by
      unfold argsR
      rw [List.flatMap_map]
    rw [argsT, this]
    simp [joinT]
theorem argsT_len {args : List GArg} (ha : ∀ a ∈ args, argB a = true) (h4 : args.length ≤ 4) : (argsT args).length ≤ 337 := by
  have : ∀ (b : Bool) (az : List GArg), (∀ a ∈ az, argB a = true) → (argsG b az).length ≤ 84 * az.length := by
    intro b az
    induction az generalizing b with
    | nil => intro _; simp [argsG]
    | cons a az ih =>
      intro ha
      have q1 := argT_len (ha a (List.mem_cons_self ..))
      have q2 := ih false (fun x hx => ha x (List.mem_cons_of_mem _ hx))
      simp only [argsG, List.length_cons, List.length_append]
      omega
  rw [argsG_true, List.length_append]
  have := this true args ha
  split <;> simp only [List.length_nil, List.length_singleton] <;> omega
theorem iargs_text {args : List GArg} (ha : ∀ a ∈ args, argB a = true) (h4 : args.length ≤ 4) (n4 : Int) (s5 s6 : ByteArray) (l8 l9 : List (List Pd)) (acc : Tx) (hacc : acc.length ≤ 100) : ∀ (k i : Nat), i + k = args.length →
    impl_Sel_text_3 (S acc) (args.map GArg.enc) args.length i n4 s5 s6 (args.map GArg.enc) l8 l9 (((args.take i).map argT).map fun w => [.str (S w)]) = impl_Sel_text_4 (S (acc ++ argsT args)) n4 s5 s6 (args.map GArg.enc) l8 l9
  | 0, i, h => by
    have : i = args.length := by omega
    subst this
    have hlim : (2 : Nat) ^ 40 ≤ LIM := by decide
    rw [impl_Sel_text_3_eq, List.take_length, decide_eq_false (by omega), cond_false]
    by_cases h0 : args = []
    · subst h0
      simp [argsT]
    · have hl := argsT_len ha h4
      have hj := argsT_join h0
      have hp : 0 < args.length := List.length_pos_iff.2 h0
      rw [hj] at hl ⊢
      simp only [List.length_cons, List.length_append, List.length_nil] at hl
      have h40 : (⟨#[40]⟩ : ByteArray) = S [40] := rfl
      have h41 : (⟨#[41]⟩ : ByteArray) = S [41] := rfl
      rw [decide_eq_true (by simp only [List.length_map]; omega), cond_true, joinI_ev (by rw [List.length_map]; omega) (by omega), bS, h40, h41, lim_pos (by simp only [List.length_singleton]; omega), S_append, lim_pos (by simp only [List.length_append, List.length_cons, List.length_nil]; omega), S_append, lim_pos (by simp only [List.length_append, List.length_cons, List.length_nil]; omega), S_append]
      simp
  | k + 1, i, h => by
    have hlen : (args.map GArg.enc).length = args.length := by simp
    have hlt : i < args.length := by omega
    have hg : args[i]? = some args[i] := List.getElem?_eq_getElem hlt
    have hb := ha args[i] (List.getElem_mem _)
    have e2 : IntKind.i64.wrap ((i : Int) + 1) = ((i + 1 : Nat) : Int) := by rw [wrap_id (by omega)]; omega
    have hn := (name_chars (argB_cases hb).1).2.2
    have hvl := (vtx_props (argB_cases hb).2).2.2
    have en : asStr ((args[i].enc).getD 0 .undef) = some (S (bl args[i].name)) := by rw [S_bl]; rfl
    have ed : (args[i].enc).drop 1 = [.int .i64 args[i].val.kind, .int .i64 args[i].val.n, .str args[i].val.t] := rfl
    have h58 : (⟨#[58, 32]⟩ : ByteArray) = S [58, 32] := rfl
    have hlim : (2 : Nat) ^ 20 ≤ LIM := by decide
    have ht : args.take (i + 1) = args.take i ++ [args[i]] := (List.take_append_getElem hlt).symm
    have ih := iargs_text ha h4 n4 s5 s6 l8 l9 acc hacc k (i + 1) (by omega)
    rw [ht, List.map_append, List.map_append] at ih
    rw [impl_Sel_text_3_eq, hlen, decide_eq_true (by omega), cond_true, if_pos (by omega), getD_enc hg, en, Option.bind_some, h58, lim_pos (by simp only [List.length_cons, List.length_nil]; omega), S_append, ed, ivalue_ev (argB_cases hb).2, bS, lim_pos (by simp only [List.length_append, List.length_cons, List.length_nil]; omega), S_append, if_pos (by simp only [List.length_map, List.length_take, List.length_cons, List.length_nil]; omega), e2]
    have ea : bl args[i].name ++ [58, 32] ++ vtx args[i].val = argT args[i] := by simp [argT]
    rw [ea]
    exact ih
theorem idirs_text {dirs : List GDir} (hd : ∀ d ∈ dirs, dirB d = true) (h4 : dirs.length ≤ 4) (n4 : Int) (s5 s6 : ByteArray) (l7 l9 : List (List Pd)) : ∀ (k i : Nat) (acc : Tx), i + k = dirs.length → acc.length ≤ 500 + 60 * i →
    impl_Sel_text_5 (S acc) (dirs.map GDir.enc) dirs.length i n4 s5 s6 l7 (dirs.map GDir.enc) l9 = impl_Sel_text_5 (S (acc ++ dirsT (dirs.drop i))) (dirs.map GDir.enc) dirs.length dirs.length n4 s5 s6 l7 (dirs.map GDir.enc) l9
  | 0, i, acc, h, hacc => by
    have : i = dirs.length := by omega
    subst this
    rw [List.drop_length]
    simp [dirsT]
  | k + 1, i, acc, h, hacc => by
    have hlen : (dirs.map GDir.enc).length = dirs.length := by simp
    have hlt : i < dirs.length := by omega
    have hg : dirs[i]? = some dirs[i] := List.getElem?_eq_getElem hlt
    have hb := hd dirs[i] (List.getElem_mem _)
    have e2 : IntKind.i64.wrap ((i : Int) + 1) = ((i + 1 : Nat) : Int) := by rw [wrap_id (by omega)]; omega
    have hvl := (vtx_props hb).2.2
    have hsl := skipT_len dirs[i].skip
    have hal := dirT_len hb
    have ed : (dirs[i].enc).drop 1 = [.int .i64 dirs[i].val.kind, .int .i64 dirs[i].val.n, .str dirs[i].val.t] := rfl
    have h1 : (⟨#[32, 64]⟩ : ByteArray) = S [32, 64] := rfl
    have h2 : (⟨#[40, 105, 102, 58, 32]⟩ : ByteArray) = S [40, 105, 102, 58, 32] := rfl
    have h3 : (⟨#[41]⟩ : ByteArray) = S [41] := rfl
    have hlim : (2 : Nat) ^ 20 ≤ LIM := by decide
    have six : impl_Sel_text_6 (S acc) (S (skipT dirs[i].skip)) (dirs.map GDir.enc) dirs.length i n4 s5 s6 l7 (dirs.map GDir.enc) l9 dirs[i].enc = impl_Sel_text_5 (S (acc ++ dirsT (dirs.drop i))) (dirs.map GDir.enc) dirs.length dirs.length n4 s5 s6 l7 (dirs.map GDir.enc) l9 := by
      rw [impl_Sel_text_6_eq, h1, h2, h3, lim_pos (by simp only [List.length_cons, List.length_nil]; omega), S_append, lim_pos (by simp only [List.length_append, List.length_cons, List.length_nil]; omega), S_append, ed, ivalue_ev hb, bS,
        lim_pos (by simp only [List.length_append, List.length_cons, List.length_nil]; omega), S_append, lim_pos (by simp only [List.length_append, List.length_cons, List.length_nil]; omega), S_append, lim_pos (by simp only [List.length_append, List.length_cons, List.length_nil]; omega), S_append, e2, idirs_text hd h4 n4 s5 s6 l7 l9 k (i + 1) _ (by omega) (by simp only [List.length_append, List.length_cons, List.length_nil]; omega)]
      rw [List.drop_eq_getElem_cons hlt, dirsT_cons]
      simp [dirT]
    rw [impl_Sel_text_5_eq, hlen, decide_eq_true (by omega), cond_true, if_pos (by omega), getD_enc hg, dskip, Option.bind_some]
    have k1 : S (skipT true) = (⟨#[115, 107, 105, 112]⟩ : ByteArray) := rfl
    have k2 : S (skipT false) = (⟨#[105, 110, 99, 108, 117, 100, 101]⟩ : ByteArray) := rfl
    cases hs : dirs[i].skip with
    | true =>
      rw [hs, k1] at six
      rw [cond_true, six]
    | false =>
      rw [hs, k2] at six
      rw [cond_false, six]
theorem isel_text {x : GSel} (hx : okSel x) (hs : selB x = true) (hsub : ev E0 F_impl_setText [.p (.sl 6 (x.subs.map GSel.enc))] [] = rS (S (setT (bodyT x.subs)))) (hlen : (bodyT x.subs).length ≤ 42000) : ev E0 F_impl_Sel_text [.p (.agg 6 x.enc)] [] = rS (S (selT x)) := by
  cases x with
  | mk k al nm args dirs sels =>
    obtain ⟨a1, a2, a3, a4, a5⟩ := selB_cases hs
    have hsub : ev E0 F_impl_setText [.p (.sl 6 (sels.map GSel.enc))] [] = rS (S (setT (bodyT sels))) := hsub
    have hlen : (bodyT sels).length ≤ 42000 := hlen
    have hlim : (2 : Nat) ^ 20 ≤ LIM := by decide
    have hb : ∀ acc : Tx, acc.length ≤ 82 → impl_Sel_text_1 (S acc) k al nm (args.map GArg.enc) (dirs.map GDir.enc) (sels.map GSel.enc) = rS (S (acc ++ (argsT args ++ (dirsT dirs ++ (if sels.isEmpty then [] else 32 :: setT (bodyT sels)))))) := by
      intro acc hacc
      have t1 := iargs_text a2 a4 k al nm (dirs.map GDir.enc) (sels.map GSel.enc) acc (by omega) args.length 0 (by omega)
      have e0 : ((0 : Nat) : Int) = 0 := rfl
      have et : (((args.take 0).map argT).map fun w => ([.str (S w)] : List Pd)) = [] := by rw [List.take_zero]; rfl
      rw [e0, et] at t1
      have hargs := argsT_len a2 a4
      have t2 := idirs_text a1 a3 k al nm (args.map GArg.enc) (sels.map GSel.enc) dirs.length 0 (acc ++ argsT args) (by omega) (by simp only [List.length_append]; omega)
      rw [e0, List.drop_zero] at t2
      have hdirs : (dirsT dirs).length ≤ 224 := by
        have : ∀ ds : List GDir, (∀ d ∈ ds, dirB d = true) → (dirsT ds).length ≤ 56 * ds.length := by
          intro ds
          induction ds with
          | nil => intro _; simp [dirsT]
          | cons x ds ih =>
            intro hd
            have q1 := dirT_len (hd x (List.mem_cons_self ..))
            have q2 := ih (fun y hy => hd y (List.mem_cons_of_mem _ hy))
            rw [dirsT_cons, List.length_append, List.length_cons]
            omega
        have := this dirs a1
        omega
      have ha : (args.map GArg.enc).length = args.length := by simp
      have hd : (dirs.map GDir.enc).length = dirs.length := by simp
      have hsl : (sels.map GSel.enc).length = sels.length := by simp
      rw [impl_Sel_text_1_eq, ha, t1, impl_Sel_text_4_eq, hd, t2, impl_Sel_text_5_eq, decide_eq_false (by omega), cond_false, hsl, int_gt0]
      cases sels with
      | nil =>
        rw [decide_eq_false (by simp), cond_false, impl_Sel_text_7_eq]
        simp
      | cons s ss =>
        have h32 : (⟨#[32]⟩ : ByteArray) = S [32] := rfl
        rw [decide_eq_true (by simp), cond_true, hsub, bS, h32, lim_pos (by simp only [setT, List.length_append, List.length_cons, List.length_nil]; omega), S_append, lim_pos (by simp only [setT, List.length_append, List.length_cons, List.length_nil]; omega), S_append, impl_Sel_text_7_eq]
        simp
    have hh := headT_len a5
    unfold GSel.enc
    rw [GSel.encs_eq, impl_Sel_text_0_ev, impl_Sel_text_0_eq, selT]
    have h58 : (⟨#[58, 32]⟩ : ByteArray) = S [58, 32] := rfl
    have h46 : (⟨#[46, 46, 46, 32]⟩ : ByteArray) = S [46, 46, 46, 32] := rfl
    have h3 : (⟨#[46, 46, 46]⟩ : ByteArray) = S [46, 46, 46] := rfl
    have hon : (⟨#[46, 46, 46, 32, 111, 110, 32]⟩ : ByteArray) = S [46, 46, 46, 32, 111, 110, 32] := rfl
    have hal : al = S (bl al) := (S_bl al).symm
    have hnm : nm = S (bl nm) := (S_bl nm).symm
    have lal : al.size = (bl al).length := bl_size al
    rcases kindB_cases a5 with ⟨k1, h1, h2⟩ | ⟨k1, h1, h2, _, _, _⟩ | ⟨k1, h1, h2, _, _⟩
    · have n1 := (name_chars h1).2.2
      rw [head1 k1] at hh ⊢
      rw [beq_int k 2, decide_eq_false (by omega), cond_false, beq_int k 3, decide_eq_false (by omega), cond_false, impl_Sel_text_2_eq, cond_false, beq_int k 3, decide_eq_false (by omega), cond_false]
      by_cases ha : al = sNone
      · rw [if_pos ha] at hh ⊢
        have hb' := hb (bl nm) hh
        rw [S_bl] at hb'
        rw [decide_eq_true ha, Bool.not_true, cond_false]
        exact hb'
      · rw [if_neg ha] at hh ⊢
        have n2 := (name_chars (h2.resolve_left ha)).2.2
        have hb' := hb _ hh
        have e : ((al ++ (⟨#[58, 32]⟩ : ByteArray)) ++ nm) = S (bl al ++ 58 :: 32 :: bl nm) := by
          conv => lhs; rw [hal, hnm, h58, S_append, S_append]
          simp
        have c1 : al.size + (⟨#[58, 32]⟩ : ByteArray).size ≤ LIM := by
          rw [hal, h58, S_size, S_size]
          simp only [List.length_cons, List.length_nil]
          omega
        have c2 : (al ++ (⟨#[58, 32]⟩ : ByteArray)).size + nm.size ≤ LIM := by
          rw [hal, hnm, h58, S_append, S_size, S_size]
          simp only [List.length_append, List.length_cons, List.length_nil]
          omega
        rw [← e] at hb'
        rw [decide_eq_false ha, Bool.not_false, cond_true, if_pos c1, if_pos c2]
        exact hb'
    · have n1 := (name_chars h1).2.2
      rw [head2 k1] at hh ⊢
      have hb' := hb _ hh
      have e : ((⟨#[46, 46, 46, 32]⟩ : ByteArray) ++ nm) = S (46 :: 46 :: 46 :: 32 :: bl nm) := by
        conv => lhs; rw [hnm, h46, S_append]
        simp
      have c1 : (⟨#[46, 46, 46, 32]⟩ : ByteArray).size + nm.size ≤ LIM := by
        rw [hnm, h46, S_size, S_size]
        simp only [List.length_cons, List.length_nil]
        omega
      rw [← e] at hb'
      rw [beq_int k 2, decide_eq_true k1, cond_true, if_pos c1]
      exact hb'
    · rw [head3 k1] at hh ⊢
      rw [beq_int k 2, decide_eq_false (by omega), cond_false, beq_int k 3, decide_eq_true k1, cond_true, impl_Sel_text_2_eq]
      by_cases ha : nm = sNone
      · rw [if_pos ha] at hh ⊢
        have hb' := hb _ hh
        rw [decide_eq_true ha, Bool.not_true, cond_false, beq_int k 3, decide_eq_true k1, cond_true]
        exact hb'
      · rw [if_neg ha] at hh ⊢
        have n1 := (name_chars (h1.resolve_left ha)).2.2
        have hb' := hb _ hh
        have e : ((⟨#[46, 46, 46, 32, 111, 110, 32]⟩ : ByteArray) ++ nm) = S (46 :: 46 :: 46 :: 32 :: 111 :: 110 :: 32 :: bl nm) := by
          conv => lhs; rw [hnm, hon, S_append]
          simp
        have c1 : (⟨#[46, 46, 46, 32, 111, 110, 32]⟩ : ByteArray).size + nm.size ≤ LIM := by
          rw [hnm, hon, S_size, S_size]
          simp only [List.length_cons, List.length_nil]
          omega
        rw [← e] at hb'
        rw [decide_eq_false ha, Bool.not_false, cond_true, if_pos c1]
        exact hb'
theorem iset_text : ∀ (d : Nat) (xs : List GSel), fine d xs = true → okL okSel xs → cnts xs ≤ 60 → ev E0 F_impl_setText [.p (.sl 6 (xs.map GSel.enc))] [] = rS (S (setT (bodyT xs)))
  | d, xs, hf, hok, hc => by
    have hlim : (2 : Nat) ^ 20 ≤ LIM := by decide
    have hxl := hok.1
    have hlen : (xs.map GSel.enc).length = xs.length := by simp
    have hmem : ∀ x ∈ xs, ev E0 F_impl_Sel_text [.p (.agg 6 x.enc)] [] = rS (S (selT x)) := by
      intro x hx
      cases d with
      | zero =>
        simp only [fine, List.isEmpty_iff] at hf
        rw [hf] at hx
        cases hx
      | succ d =>
        simp only [fine, List.all_eq_true, Bool.and_eq_true] at hf
        have h1 := hf x hx
        have hcx : cntS x ≤ 60 := by
          refine Nat.le_trans ?_ hc
          clear hf h1 hc hok hxl hlen
          induction xs with
          | nil => cases hx
          | cons y ys ih =>
            simp only [cnts]
            rcases List.mem_cons.1 hx with q | q
            · rw [q]; omega
            · have := ih q; omega
        have hcs : cnts x.subs ≤ 60 := by rw [cntS_eq] at hcx; omega
        have hl := bodyT_len d x.subs h1.2
        exact isel_text (hok.2 x hx) h1.1 (iset_text d x.subs h1.2 (subs_ok (hok.2 x hx)) hcs) (by omega)
    have hb := bodyT_len d xs hf
    have loop : ∀ (k i : Nat) (acc : Tx), i + k = xs.length → acc.length + (bodyT (xs.drop i)).length ≤ 50000 → impl_setText_1 (S acc) (xs.map GSel.enc) xs.length i = rS (S (acc ++ (bodyT (xs.drop i) ++ [32, 125]))) := by
      intro k
      induction k with
      | zero =>
        intro i acc h hacc
        have : i = xs.length := by omega
        subst this
        have h2 : (⟨#[32, 125]⟩ : ByteArray) = S [32, 125] := rfl
        rw [impl_setText_1_eq, List.drop_length, decide_eq_false (by omega), cond_false, h2, lim_pos (by simp only [List.length_cons, List.length_nil]; omega), S_append]
        simp [bodyT]
      | succ k ih =>
        intro i acc h hacc
        have hlt : i < xs.length := by omega
        have hg : xs[i]? = some xs[i] := List.getElem?_eq_getElem hlt
        have e2 : IntKind.i64.wrap ((i : Int) + 1) = ((i + 1 : Nat) : Int) := by rw [wrap_id (by omega)]; omega
        have h32 : (⟨#[32]⟩ : ByteArray) = S [32] := rfl
        rw [List.drop_eq_getElem_cons hlt, body_cons] at hacc ⊢
        simp only [List.length_cons, List.length_append] at hacc
        rw [impl_setText_1_eq, hlen, decide_eq_true (by omega), cond_true, if_pos (by omega), getD_enc hg, hmem xs[i] (List.getElem_mem _), bS, h32, lim_pos (by simp only [List.length_cons, List.length_nil]; omega), S_append, lim_pos (by simp only [List.length_append, List.length_cons, List.length_nil]; omega), S_append, e2, ih (i + 1) _ (by omega) (by simp only [List.length_append, List.length_cons, List.length_nil]; omega)]
        simp
    have e0 : ((0 : Nat) : Int) = 0 := rfl
    have := loop xs.length 0 [123] (by omega) (by simp only [List.drop_zero, List.length_singleton]; omega)
    rw [e0, List.drop_zero] at this
    rw [impl_setText_0_ev, impl_setText_0_eq, hlen]
    exact this
  termination_by d => d

/-! ### definitions -/
theorem ikw_get {k : Int} (h : k = 1 ∨ k = 2 ∨ k = 3) : (0 ≤ IntKind.i64.wrap (k - 1) ∧ IntKind.i64.wrap (k - 1) < 3) ∧ (IntKind.i64.wrap (k - 1)).toNat < 3 ∧ ((([[.str (⟨#[113, 117, 101, 114, 121]⟩ : ByteArray)], [.str (⟨#[109, 117, 116, 97, 116, 105, 111, 110]⟩ : ByteArray)], [.str (⟨#[102, 114, 97, 103, 109, 101, 110, 116]⟩ : ByteArray)]] : List (List Pd)).getD (IntKind.i64.wrap (k - 1)).toNat []).getD 0 .undef) = .str (S (kwT k)) ∧ (kwT k).length ≤ 8 := by
  rcases h with h | h | h <;> subst h
  · exact ⟨by decide, by decide, rfl, by decide⟩
  · exact ⟨by decide, by decide, rfl, by decide⟩
  · exact ⟨by decide, by decide, rfl, by decide⟩
/-- how a definition's text is made -/
theorem idef_text {d : GDef} (hok : okDef d) (hd : defB d = true) (hc : cnts d.sels ≤ 60) (i n : Int) (l1 : List (List Pd)) (e2 : List (List Pd)) (he : e2.length ≤ 100) :
    (if 0 ≤ (IntKind.i64.wrap (d.kind - 1) : Int) ∧ (IntKind.i64.wrap (d.kind - 1) : Int) < ((([[.str (⟨#[113, 117, 101, 114, 121]⟩ : ByteArray)], [.str (⟨#[109, 117, 116, 97, 116, 105, 111, 110]⟩ : ByteArray)], [.str (⟨#[102, 114, 97, 103, 109, 101, 110, 116]⟩ : ByteArray)]] : List (List Pd))).length : Int) then (if 1 = 1 ∧ ((IntKind.i64.wrap (d.kind - 1) : Int).toNat) < (([[.str (⟨#[113, 117, 101, 114, 121]⟩ : ByteArray)], [.str (⟨#[109, 117, 116, 97, 116, 105, 111, 110]⟩ : ByteArray)], [.str (⟨#[102, 114, 97, 103, 109, 101, 110, 116]⟩ : ByteArray)]] : List (List Pd))).length ∧ 0 + 1 ≤ 1 then ((asStr (((((([[.str (⟨#[113, 117, 101, 114, 121]⟩ : ByteArray)], [.str (⟨#[109, 117, 116, 97, 116, 105, 111, 110]⟩ : ByteArray)], [.str (⟨#[102, 114, 97, 103, 109, 101, 110, 116]⟩ : ByteArray)]] : List (List Pd))).getD ((IntKind.i64.wrap (d.kind - 1) : Int).toNat) [])).getD 0 .undef))).bind fun s106 => (asStr ((d.enc.getD 1 .undef))).bind fun s107 => bif !decide (s107 = (⟨#[]⟩ : ByteArray)) then ((asStr ((d.enc.getD 1 .undef))).bind fun s108 => if (⟨#[32]⟩ : ByteArray).size + s108.size ≤ LIM then (if s106.size + ((⟨#[32]⟩ : ByteArray) ++ s108).size ≤ LIM then (impl_Doc_text_2 (s106 ++ ((⟨#[32]⟩ : ByteArray) ++ s108)) l1 n i d.enc e2) else none) else none) else (impl_Doc_text_2 s106 l1 n i d.enc e2)) else none) else none) =
    impl_Doc_text_1 l1 n (IntKind.i64.wrap (i + 1)) (e2 ++ [[.str (S (defT d))]]) := by
  have hlim : (2 : Nat) ^ 40 ≤ LIM := by decide
  unfold defB at hd
  simp only [Bool.and_eq_true] at hd
  obtain ⟨⟨h1, _⟩, h3⟩ := hd
  have hbl := bodyT_len 7 _ h3
  have hk : d.kind = 1 ∨ d.kind = 2 ∨ d.kind = 3 := by rcases kindD_cases h1 with ⟨q, _⟩ | ⟨q, _⟩ <;> omega
  obtain ⟨k1, k2, k3, k4⟩ := ikw_get hk
  have e1 : asStr (d.enc.getD 1 .undef) = some (S (bl d.name)) := by rw [S_bl]; rfl
  have e2' : asStr (d.enc.getD 2 .undef) = some (S (bl d.on)) := by rw [S_bl]; rfl
  have e0 : asInt .i64 (d.enc.getD 0 .undef) = some d.kind := rfl
  have e3 : asSl 6 (d.enc.getD 3 .undef) = some (d.sels.map GSel.enc) := rfl
  have h32 : (⟨#[32]⟩ : ByteArray) = S [32] := rfl
  have hon : (⟨#[32, 111, 110, 32]⟩ : ByteArray) = S [32, 111, 110, 32] := rfl
  have hset := iset_text 7 d.sels h3 hok.2.2 hc
  have fin : ∀ acc : Tx, acc.length ≤ 200 → impl_Doc_text_3 (S acc) l1 n i d.enc e2 = impl_Doc_text_1 l1 n (IntKind.i64.wrap (i + 1)) (e2 ++ [[.str (S (acc ++ 32 :: setT (bodyT d.sels)))]]) := by
    intro acc hacc
    rw [impl_Doc_text_3_eq, h32, lim_pos (by simp only [List.length_singleton]; omega), e3, Option.bind_some, hset, bS, S_append, lim_pos (by simp only [setT, List.length_append, List.length_cons, List.length_nil]; omega), S_append, if_pos (by simp only [List.length_cons, List.length_nil]; omega)]
    simp
  have snd : ∀ acc : Tx, acc.length ≤ 100 → impl_Doc_text_2 (S acc) l1 n i d.enc e2 = impl_Doc_text_1 l1 n (IntKind.i64.wrap (i + 1)) (e2 ++ [[.str (S (acc ++ ((if d.kind = 3 then 32 :: 111 :: 110 :: 32 :: bl d.on else []) ++ 32 :: setT (bodyT d.sels))))]]) := by
    intro acc hacc
    rw [impl_Doc_text_2_eq, e0, Option.bind_some, beq_int]
    by_cases h3 : d.kind = 3
    · obtain ⟨_, _, oa⟩ := (kindD_cases h1).resolve_left (fun q => by omega)
      have hol := (name_chars oa).2.2
      rw [decide_eq_true h3, cond_true, e2', Option.bind_some, hon, lim_pos (by simp only [List.length_cons, List.length_nil]; omega), S_append, lim_pos (by simp only [List.length_append, List.length_cons, List.length_nil]; omega), S_append, fin _ (by simp only [List.length_append, List.length_cons, List.length_nil]; omega), if_pos h3]
      simp
    · rw [decide_eq_false h3, cond_false, fin _ (by omega), if_neg h3]
      simp
  have hdec : decide (S (bl d.name) = (⟨#[]⟩ : ByteArray)) = decide (d.name = sNone) := by rw [S_bl]
  rw [if_pos (by simpa using k1), if_pos ⟨rfl, by simpa using k2, by omega⟩, k3, asS, Option.bind_some, e1, Option.bind_some, hdec]
  unfold defT
  by_cases hn : d.name = sNone
  · rw [decide_eq_true hn, Bool.not_true, cond_false, snd _ (by omega), if_pos hn]
    simp
  · have hnn : nameB d.name = true := by
      rcases kindD_cases h1 with ⟨_, q, _⟩ | ⟨_, q, _⟩
      · exact q.resolve_left hn
      · exact q
    have hnl := (name_chars hnn).2.2
    rw [decide_eq_false hn, Bool.not_false, cond_true, Option.bind_some, h32, lim_pos (by simp only [List.length_singleton]; omega), S_append, lim_pos (by simp only [List.length_append, List.length_singleton]; omega), S_append, snd _ (by simp only [List.length_append, List.length_singleton]; omega), if_neg hn]
    simp
theorem docT_len {xs : List GDef} (hd : docB xs = true) : (docT xs).length ≤ 300000 := by
  obtain ⟨hl6, hall, htot⟩ := docB_cases hd
  have hmem : ∀ d ∈ xs, (defT d).length ≤ 42110 := fun d hm => by
    have := defT_len (List.all_eq_true.1 hall d hm)
    have := total_mem hm
    omega
  have hR : ∀ ds : List GDef, (∀ d ∈ ds, (defT d).length ≤ 42110) → (docR ds).length ≤ 42111 * ds.length := by
    intro ds
    induction ds with
    | nil => intro _; simp [docR]
    | cons x ds ih =>
      intro h
      have q1 := h x (List.mem_cons_self ..)
      have q2 := ih (fun y hy => h y (List.mem_cons_of_mem _ hy))
      have : docR (x :: ds) = 32 :: (defT x ++ docR ds) := rfl
      rw [this, List.length_cons, List.length_append, List.length_cons]
      omega
  cases xs with
  | nil => simp [docT]
  | cons x ds =>
    have q1 := hmem x (List.mem_cons_self ..)
    have q2 := hR ds (fun y hy => hmem y (List.mem_cons_of_mem _ hy))
    rw [docT, List.length_append]
    simp only [List.length_cons] at hl6
    omega
theorem iprint_ev {xs : List GDef} (hok : okL okDef xs) (hd : docB xs = true) : ev E0 F_impl_Doc_text [.p (.agg 1 [.sl 4 (xs.map GDef.enc)])] [] = rS (S (docT xs)) := by
  obtain ⟨hl6, hall, htot⟩ := docB_cases hd
  have hlen : (xs.map GDef.enc).length = xs.length := by simp
  have hmem : ∀ d ∈ xs, defB d = true := List.all_eq_true.1 hall
  have hdl := docT_len hd
  have loop : ∀ (k i : Nat), i + k = xs.length → impl_Doc_text_1 (xs.map GDef.enc) xs.length i (((xs.take i).map defT).map fun w => [.str (S w)]) = rS (S (docT xs)) := by
    intro k
    induction k with
    | zero =>
      intro i h
      have : i = xs.length := by omega
      subst this
      rw [impl_Doc_text_1_eq, List.take_length, decide_eq_false (by omega), cond_false, joinI_ev (by rw [List.length_map]; omega) (by rw [← docT_join]; omega), bS, docT_join]
    | succ k ih =>
      intro i h
      have hlt : i < xs.length := by omega
      have hg : xs[i]? = some xs[i] := List.getElem?_eq_getElem hlt
      have e2 : IntKind.i64.wrap ((i : Int) + 1) = ((i + 1 : Nat) : Int) := by rw [wrap_id (by omega)]; omega
      have hm := List.getElem_mem hlt
      have e0 : asInt .i64 (xs[i].enc.getD 0 .undef) = some xs[i].kind := rfl
      rw [impl_Doc_text_1_eq, hlen, decide_eq_true (by omega), cond_true, if_pos (by omega), getD_enc hg, e0, Option.bind_some]
      have := idef_text (hok.2 _ hm) (hmem _ hm) (by have := total_mem hm; omega) i xs.length (xs.map GDef.enc) (((xs.take i).map defT).map fun w => [.str (S w)]) (by simp only [List.length_map, List.length_take]; omega)
      refine this.trans ?_
      have ht : xs.take (i + 1) = xs.take i ++ [xs[i]] := (List.take_append_getElem hlt).symm
      have := ih (i + 1) (by omega)
      rw [ht, List.map_append, List.map_append] at this
      rw [e2]
      exact this
  have e0 : ((0 : Nat) : Int) = 0 := rfl
  have := loop xs.length 0 (by omega)
  rw [e0, List.take_zero] at this
  rw [impl_Doc_text_0_ev, impl_Doc_text_0_eq, hlen]
  exact this
end Go.Proofs.YtlmmimhjfajhdaaGreatDoor.Dm
