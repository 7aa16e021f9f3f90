/- The variables of documents: what the reference and the program compute. -/
import Derived.Test.YtgbohielfiighaaV1
namespace Go.Proofs.Ytgbohielfiighaa.Dm
set_option maxRecDepth 4000
set_option linter.unusedVariables false
set_option linter.unusedSimpArgs false

theorem lim_app {xs : List ByteArray} {t : ByteArray} (h : xs.length ≤ 4000000000) : ((xs.map encS).length + ([[.str t]] : List (List Pd)).length) * 16 ≤ LIM := by
  have hL : LIM = 140737488355328 := rfl
  rw [hL, List.length_map, List.length_singleton]; omega
theorem app_map (xs : List ByteArray) (t : ByteArray) : xs.map encS ++ [[.str t]] = (xs ++ [t]).map encS := by rw [List.map_append]; rfl
theorem addV_pos {o : List ByteArray} {t : ByteArray} (h : inL o t = true) : addV o t = o := if_pos h
theorem addV_neg {o : List ByteArray} {t : ByteArray} (h : inL o t = false) : addV o t = o ++ [t] := by unfold addV; rw [h]; rfl
/-! ### the reference -/
theorem enc_get3 (x : GSel) : asSl 4 (((GSel.enc x).drop 3).getD 0 .undef) = some ((match x with | .mk _ _ _ as' _ _ => as').map GArg.enc) := by cases x; rfl
def GSel.args : GSel → List GArg
  | .mk _ _ _ a _ _ => a
def GSel.dirs : GSel → List GDir
  | .mk _ _ _ _ d _ => d
theorem enc_args (x : GSel) : asSl 4 (((GSel.enc x).drop 3).getD 0 .undef) = some (x.args.map GArg.enc) := by cases x; rfl
theorem enc_dirs (x : GSel) : asSl 4 (((GSel.enc x).drop 4).getD 0 .undef) = some (x.dirs.map GDir.enc) := by cases x; rfl
theorem enc_subs (x : GSel) : asSl 6 (((GSel.enc x).drop 5).getD 0 .undef) = some (x.subs.map GSel.enc) := by
  cases x with
  | mk k a n args dirs sels => unfold GSel.enc; rw [GSel.encs_eq]; rfl
theorem enc_args0 (x : GSel) : asSl 4 ((GSel.enc x).getD 3 .undef) = some (x.args.map GArg.enc) := by cases x; rfl
theorem enc_dirs0 (x : GSel) : asSl 4 ((GSel.enc x).getD 4 .undef) = some (x.dirs.map GDir.enc) := by cases x; rfl
theorem vS_eq (x : GSel) : vS x = vA x.args ++ (vD x.dirs ++ vSs x.subs) := by cases x; rfl
theorem sel_args_ok {x : GSel} (h : okSel x) : okL okArg x.args := by cases x; exact h.2.2.1
theorem sel_dirs_ok {x : GSel} (h : okSel x) : okL okDir x.dirs := by cases x; exact h.2.2.2.1
def SV (xs : List GSel) : Prop := (vSs xs).length ≤ 2000000000 → ev E0 F_spec_l04Vars [.p (.sl 6 (xs.map GSel.enc))] [] = rL 1 ((addVs [] (vSs xs)).map encS)
section
variable {xs : List GSel} (hx : okL okSel xs)
include hx
theorem l04Vars_args {i : Nat} {x : GSel} (hg : xs[i]? = some x) : ∀ (m j : Nat) (e : List ByteArray), j + m = x.args.length → e.length + (vA (x.args.drop j)).length ≤ 4000000000 →
    spec_l04Vars_2 (xs.map GSel.enc) i j (e.map encS) = spec_l04Vars_4 (xs.map GSel.enc) i 0 ((addVs e (vA (x.args.drop j))).map encS) := by
  have hlen : (xs.map GSel.enc).length = xs.length := by simp
  have hal : (x.args.map GArg.enc).length = x.args.length := by simp
  have hi := lt_of_get hg
  have hxl := hx.1
  have hok := sel_args_ok (hx.2 x (List.mem_of_getElem? hg))
  have hol := hok.1
  intro m
  induction m with
  | zero =>
    intro j e h _
    have : j = x.args.length := by omega
    subst this
    rw [spec_l04Vars_2_eq, hlen, if_pos (by omega), getD_enc hg, enc_args, Option.bind_some, hal, decide_eq_false (by omega), cond_false, List.drop_length]
    rfl
  | succ m ih =>
    intro j e h hb
    have hlt : j < x.args.length := by omega
    have hga : x.args[j]? = some x.args[j] := List.getElem?_eq_getElem hlt
    rw [List.drop_eq_getElem_cons hlt] at hb ⊢
    generalize x.args[j] = a at hga hb ⊢
    rw [vA] at hb ⊢
    have ea : asInt .i64 (((GArg.enc a).drop 1).getD 0 .undef) = some a.val.kind := asI _
    have et : asStr (((GArg.enc a).drop 1).getD 2 .undef) = some a.val.t := rfl
    rw [spec_l04Vars_2_eq, hlen, if_pos (by omega), getD_enc hg, enc_args, Option.bind_some, hal, decide_eq_true (by omega), cond_true, if_pos (by omega), Option.bind_some, if_pos (by omega), getD_enc hga, ea, Option.bind_some, beq_int]
    have step : ∀ e' : List ByteArray, e'.length + (vA (x.args.drop (j + 1))).length ≤ 4000000000 → spec_l04Vars_5 (xs.map GSel.enc) i j (e'.map encS) = spec_l04Vars_4 (xs.map GSel.enc) i 0 ((addVs e' (vA (x.args.drop (j + 1)))).map encS) := by
      intro e' he'
      rw [spec_l04Vars_5_eq, inc_i hlt hol]
      exact ih (j + 1) e' (by omega) he'
    by_cases hk : a.val.kind = 4
    · have hv : vV a.val = [a.val.t] := if_pos hk
      rw [hv] at hb ⊢
      rw [List.length_append, List.length_singleton] at hb
      rw [decide_eq_true hk, cond_true, et, Option.bind_some, l04In_ev (by omega), bB, spec_l04Vars_3_eq]
      have e1 : addVs e ([a.val.t] ++ vA (x.args.drop (j + 1))) = addVs (addV e a.val.t) (vA (x.args.drop (j + 1))) := rfl
      rw [e1]
      cases hin : inL e a.val.t with
      | true =>
        rw [Bool.not_true, cond_false, addV_pos hin]
        exact step e (by omega)
      | false =>
        rw [Bool.not_false, cond_true, et, Option.bind_some, if_pos (lim_app (by omega)), app_map, addV_neg hin]
        exact step _ (by rw [List.length_append, List.length_singleton]; omega)
    · have hv : vV a.val = [] := if_neg hk
      rw [hv, List.nil_append] at hb ⊢
      rw [decide_eq_false hk, cond_false, spec_l04Vars_3_eq, cond_false]
      exact step e (by omega)
theorem l04Vars_dirs (sv : ∀ x ∈ xs, SV x.subs) {i : Nat} {x : GSel} (hg : xs[i]? = some x) : ∀ (m j : Nat) (e : List ByteArray), j + m = x.dirs.length → e.length + (vD (x.dirs.drop j)).length ≤ 4000000000 → (vSs x.subs).length ≤ 2000000000 →
    spec_l04Vars_4 (xs.map GSel.enc) i j (e.map encS) = spec_l04Vars_7 (xs.map GSel.enc) i ((addVs [] (vSs x.subs)).map encS) 0 ((addVs e (vD (x.dirs.drop j))).map encS) := by
  have hlen : (xs.map GSel.enc).length = xs.length := by simp
  have hal : (x.dirs.map GDir.enc).length = x.dirs.length := by simp
  have hi := lt_of_get hg
  have hxl := hx.1
  have hok := sel_dirs_ok (hx.2 x (List.mem_of_getElem? hg))
  have hol := hok.1
  intro m
  induction m with
  | zero =>
    intro j e h _ hs
    have : j = x.dirs.length := by omega
    subst this
    rw [spec_l04Vars_4_eq, hlen, if_pos (by omega), getD_enc hg, enc_dirs, Option.bind_some, hal, decide_eq_false (by omega), cond_false, List.drop_length, if_pos (by omega), enc_subs, Option.bind_some, sv x (List.mem_of_getElem? hg) hs, bL]
    rfl
  | succ m ih =>
    intro j e h hb hs
    have hlt : j < x.dirs.length := by omega
    have hga : x.dirs[j]? = some x.dirs[j] := List.getElem?_eq_getElem hlt
    rw [List.drop_eq_getElem_cons hlt] at hb ⊢
    generalize x.dirs[j] = a at hga hb ⊢
    rw [vD] at hb ⊢
    have ea : asInt .i64 (((GDir.enc a).drop 1).getD 0 .undef) = some a.val.kind := asI _
    have et : asStr (((GDir.enc a).drop 1).getD 2 .undef) = some a.val.t := rfl
    rw [spec_l04Vars_4_eq, hlen, if_pos (by omega), getD_enc hg, enc_dirs, Option.bind_some, hal, decide_eq_true (by omega), cond_true, if_pos (by omega), Option.bind_some, if_pos (by omega), getD_enc hga, ea, Option.bind_some, beq_int]
    have step : ∀ e' : List ByteArray, e'.length + (vD (x.dirs.drop (j + 1))).length ≤ 4000000000 → spec_l04Vars_8 (xs.map GSel.enc) i j (e'.map encS) = spec_l04Vars_7 (xs.map GSel.enc) i ((addVs [] (vSs x.subs)).map encS) 0 ((addVs e' (vD (x.dirs.drop (j + 1)))).map encS) := by
      intro e' he'
      rw [spec_l04Vars_8_eq, inc_i hlt hol]
      exact ih (j + 1) e' (by omega) he' hs
    by_cases hk : a.val.kind = 4
    · have hv : vV a.val = [a.val.t] := if_pos hk
      rw [hv] at hb ⊢
      rw [List.length_append, List.length_singleton] at hb
      rw [decide_eq_true hk, cond_true, et, Option.bind_some, l04In_ev (by omega), bB, spec_l04Vars_6_eq]
      have e1 : addVs e ([a.val.t] ++ vD (x.dirs.drop (j + 1))) = addVs (addV e a.val.t) (vD (x.dirs.drop (j + 1))) := rfl
      rw [e1]
      cases hin : inL e a.val.t with
      | true =>
        rw [Bool.not_true, cond_false, addV_pos hin]
        exact step e (by omega)
      | false =>
        rw [Bool.not_false, cond_true, et, Option.bind_some, if_pos (lim_app (by omega)), app_map, addV_neg hin]
        exact step _ (by rw [List.length_append, List.length_singleton]; omega)
    · have hv : vV a.val = [] := if_neg hk
      rw [hv, List.nil_append] at hb ⊢
      rw [decide_eq_false hk, cond_false, spec_l04Vars_6_eq, cond_false]
      exact step e (by omega)
theorem l04Vars_more {i : Nat} (hi : i < xs.length) (ms : List ByteArray) (hms : ms.length ≤ 4000000000) : ∀ (m j : Nat) (e : List ByteArray), j + m = ms.length → e.length + (ms.length - j) ≤ 4000000000 →
    spec_l04Vars_7 (xs.map GSel.enc) i (ms.map encS) j (e.map encS) = spec_l04Vars_1 (xs.map GSel.enc) ((i + 1 : Nat) : Int) ((addVs e (ms.drop j)).map encS) := by
  have hml : (ms.map encS).length = ms.length := by simp
  have hxl := hx.1
  intro m
  induction m with
  | zero =>
    intro j e h _
    have : j = ms.length := by omega
    subst this
    rw [spec_l04Vars_7_eq, hml, decide_eq_false (by omega), cond_false, List.drop_length, inc_i hi hxl]
    rfl
  | succ m ih =>
    intro j e h hb
    have hlt : j < ms.length := by omega
    have hga : ms[j]? = some ms[j] := List.getElem?_eq_getElem hlt
    rw [List.drop_eq_getElem_cons hlt]
    generalize ms[j] = t at hga ⊢
    rw [spec_l04Vars_7_eq, hml, decide_eq_true (by omega), cond_true, if_pos (by omega), getD_enc hga, encS_get, Option.bind_some, l04In_ev (by omega), bB]
    have e1 : addVs e (t :: ms.drop (j + 1)) = addVs (addV e t) (ms.drop (j + 1)) := rfl
    have step : ∀ e' : List ByteArray, e'.length + (ms.length - (j + 1)) ≤ 4000000000 → spec_l04Vars_9 (xs.map GSel.enc) i (ms.map encS) j (e'.map encS) = spec_l04Vars_1 (xs.map GSel.enc) ((i + 1 : Nat) : Int) ((addVs e' (ms.drop (j + 1))).map encS) := by
      intro e' he'
      rw [spec_l04Vars_9_eq, inc_i hlt (by omega)]
      exact ih (j + 1) e' (by omega) he'
    rw [e1]
    cases hin : inL e t with
    | true =>
      rw [Bool.not_true, cond_false, addV_pos hin]
      exact step e (by omega)
    | false =>
      rw [Bool.not_false, cond_true, if_pos (by omega), Option.bind_some, if_pos (lim_app (by omega)), app_map, addV_neg hin]
      exact step _ (by rw [List.length_append, List.length_singleton]; omega)
theorem l04Vars_of (sv : ∀ x ∈ xs, SV x.subs) : SV xs := by
  intro hb
  have hlen : (xs.map GSel.enc).length = xs.length := by simp
  have main : ∀ (m i : Nat) (e : List ByteArray), i + m = xs.length → e.length + (vSs (xs.drop i)).length ≤ 2000000000 → spec_l04Vars_1 (xs.map GSel.enc) i (e.map encS) = rL 1 ((addVs e (vSs (xs.drop i))).map encS) := by
    intro m
    induction m with
    | zero =>
      intro i e h _
      have : i = xs.length := by omega
      subst this
      rw [spec_l04Vars_1_eq, hlen, decide_eq_false (by omega), cond_false, List.drop_length]
      rfl
    | succ m ih =>
      intro i e h hb
      have hlt : i < xs.length := by omega
      have hg : xs[i]? = some xs[i] := List.getElem?_eq_getElem hlt
      rw [List.drop_eq_getElem_cons hlt] at hb ⊢
      generalize xs[i] = x at hg hb ⊢
      rw [vSs, vS_eq] at hb ⊢
      simp only [List.length_append] at hb
      have c1 := addVs_len (vA x.args) e
      have c2 := addVs_len (vD x.dirs) (addVs e (vA x.args))
      have c3 := addVs_len (vSs x.subs) []
      have c4 := addVs_len (addVs [] (vSs x.subs)) (addVs (addVs e (vA x.args)) (vD x.dirs))
      have h1 := l04Vars_args hx hg x.args.length 0 e (by omega) (by rw [List.drop_zero]; omega)
      have h2 := l04Vars_dirs hx sv hg x.dirs.length 0 (addVs e (vA x.args)) (by omega) (by rw [List.drop_zero]; omega) (by omega)
      have h3 := l04Vars_more hx hlt (addVs [] (vSs x.subs)) (by simp at c3; omega) (addVs [] (vSs x.subs)).length 0 (addVs (addVs e (vA x.args)) (vD x.dirs)) (by omega) (by simp at c3; omega)
      rw [List.drop_zero] at h1 h2 h3
      have e0 : ((0 : Nat) : Int) = 0 := rfl
      rw [e0] at h1 h2 h3
      have hd : addVs (addVs (addVs e (vA x.args)) (vD x.dirs)) (addVs [] (vSs x.subs)) = addVs e (vA x.args ++ (vD x.dirs ++ vSs x.subs)) := by
        rw [addVs_dedup, addVs_append, addVs_append]
      have c5 := addVs_len (vA x.args ++ (vD x.dirs ++ vSs x.subs)) e
      simp only [List.length_append] at c5
      rw [spec_l04Vars_1_eq, hlen, decide_eq_true (by omega), cond_true, h1, h2, h3, ih (i + 1) _ (by omega) (by rw [hd]; omega), hd, ← addVs_append]
  have := main xs.length 0 [] (by omega) (by simpa using hb)
  rw [List.drop_zero] at this
  rw [spec_l04Vars_0_ev, spec_l04Vars_0_eq]
  exact this
end
mutual
theorem l04Vars_sub : ∀ x : GSel, okSel x → SV x.subs
  | .mk k a n args dirs sels, h => l04Vars_of (xs := sels) ⟨h.2.2.2.2.1, okSels_mem h.2.2.2.2.2⟩ (l04Vars_subs sels h.2.2.2.2.2)
theorem l04Vars_subs : ∀ xs : List GSel, okSels xs → ∀ x ∈ xs, SV x.subs
  | [], _, x, hx => by cases hx
  | y :: ys, h, x, hx => by
    rcases List.mem_cons.1 hx with q | q
    · rw [q]; exact l04Vars_sub y h.1
    · exact l04Vars_subs ys h.2 x q
end
theorem l04Vars_ev {xs : List GSel} (h : okL okSel xs) : SV xs := l04Vars_of h (fun x hx => l04Vars_sub x (h.2 x hx))
end Go.Proofs.Ytgbohielfiighaa.Dm
