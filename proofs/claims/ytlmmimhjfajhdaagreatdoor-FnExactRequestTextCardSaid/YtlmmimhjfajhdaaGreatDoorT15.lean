/- The text that the reference prints of a whole document. -/
import Derived.Test.YtlmmimhjfajhdaaGreatDoorT14
namespace Go.Proofs.YtlmmimhjfajhdaaGreatDoor.Dm
set_option linter.unusedVariables false
set_option linter.unusedSimpArgs false

/-! ### joined words -/
def joinT : List Tx → Tx
  | [] => []
  | w :: ws => w ++ ws.flatMap fun x => 32 :: x
def joinG (first : Bool) : List Tx → Tx
  | [] => []
  | w :: ws => (if first = true then [] else [32]) ++ (w ++ joinG false ws)
theorem joinG_false : ∀ ws : List Tx, joinG false ws = ws.flatMap fun x => 32 :: x
  | [] => rfl
  | w :: ws => by rw [joinG, joinG_false ws]; rfl
theorem joinG_true (ws : List Tx) : joinG true ws = joinT ws := by
  cases ws with
  | nil => rfl
  | cons w ws => rw [joinG, joinG_false]; rfl
theorem join_ev {ws : List Tx} (hlen : ws.length ≤ 1000) (hall : ∀ w ∈ ws, w.length ≤ 100000) : ev E0 F_spec_l00Join [.p (.sl 1 (ws.map fun w => [.str (S w)])), .p (.str (S [32]))] [] = rS (S (joinT ws)) := by
  have hlim : (2 : Nat) ^ 40 ≤ LIM := by decide
  have hl : (ws.map fun w => ([.str (S w)] : List Pd)).length = ws.length := by simp
  have loop : ∀ (k i : Nat) (acc : Tx), i + k = ws.length → acc.length ≤ 200000 * i → spec_l00Join_1 (ws.map fun w => [.str (S w)]) (S [32]) (S acc) i = rS (S (acc ++ joinG (decide (i = 0)) (ws.drop i))) := by
    intro k
    induction k with
    | zero =>
      intro i acc h hacc
      have : i = ws.length := by omega
      subst this
      rw [spec_l00Join_1_eq, hl, List.drop_length, decide_eq_false (by omega), cond_false]
      simp [joinG]
    | succ k ih =>
      intro i acc h hacc
      have hlt : i < ws.length := by omega
      have hg : ws[i]? = some ws[i] := List.getElem?_eq_getElem hlt
      have hw := hall ws[i] (List.getElem_mem _)
      have e2 : IntKind.i64.wrap ((i : Int) + 1) = ((i + 1 : Nat) : Int) := by rw [wrap_id (by omega)]; omega
      have eg : ((ws.map fun w => ([.str (S w)] : List Pd)).getD (i : Int).toNat []) = [.str (S ws[i])] := getD_enc (f := fun w => ([.str (S w)] : List Pd)) hg
      have es : asStr (([.str (S ws[i])] : List Pd).getD 0 .undef) = some (S ws[i]) := rfl
      rw [List.drop_eq_getElem_cons hlt, joinG, spec_l00Join_1_eq, hl, decide_eq_true (by omega), cond_true, int_gt0]
      by_cases h0 : i = 0
      · rw [decide_eq_false (by omega), cond_false, spec_l00Join_2_eq, hl, if_pos (by omega), eg, es, Option.bind_some, lim_pos (by omega), S_append, e2, ih (i + 1) _ (by omega) (by rw [List.length_append]; omega), decide_eq_false (show ¬ i + 1 = 0 by omega), decide_eq_true h0]
        simp
      · rw [decide_eq_true (by omega), cond_true, lim_pos (by simp only [List.length_singleton]; omega), S_append, spec_l00Join_2_eq, hl, if_pos (by omega), eg, es, Option.bind_some, lim_pos (by simp only [List.length_append, List.length_singleton]; omega), S_append, e2, ih (i + 1) _ (by omega) (by simp only [List.length_append, List.length_singleton]; omega), decide_eq_false (show ¬ i + 1 = 0 by omega), decide_eq_false h0]
        simp
  have := loop ws.length 0 [] (by omega) (by simp)
  have e0 : ((0 : Nat) : Int) = 0 := rfl
  rw [e0, List.drop_zero, decide_eq_true rfl, joinG_true] at this
  rw [spec_l00Join_0_ev, spec_l00Join_0_eq]
  exact this
theorem docT_join (xs : List GDef) : docT xs = joinT (xs.map defT) := by
  cases xs with
  | nil => rfl
  | cons d ds =>
    have : docR ds = (ds.map defT).flatMap fun x => 32 :: x := by
      unfold docR
      rw [List.flatMap_map]
    rw [docT, this]
    rfl

/-! ### definitions -/
theorem kw_get {k : Int} (h : k = 1 ∨ k = 2 ∨ k = 3) : (0 ≤ k ∧ k < 4) ∧ k.toNat < 4 ∧ ((([[.str (⟨#[]⟩ : ByteArray)], [.str (⟨#[113, 117, 101, 114, 121]⟩ : ByteArray)], [.str (⟨#[109, 117, 116, 97, 116, 105, 111, 110]⟩ : ByteArray)], [.str (⟨#[102, 114, 97, 103, 109, 101, 110, 116]⟩ : ByteArray)]] : List (List Pd)).getD k.toNat []).getD 0 .undef) = .str (S (kwT k)) ∧ (kwT k).length ≤ 8 := by
  rcases h with h | h | h <;> subst h
  · exact ⟨by decide, by decide, rfl, by decide⟩
  · exact ⟨by decide, by decide, rfl, by decide⟩
  · exact ⟨by decide, by decide, rfl, by decide⟩
theorem defT_len {d : GDef} (h : defB d = true) : (defT d).length ≤ 110 + 700 * cnts d.sels := by
  unfold defB at h
  simp only [Bool.and_eq_true] at h
  obtain ⟨⟨h1, _⟩, h3⟩ := h
  have hb := bodyT_len 7 _ h3
  have hk : d.kind = 1 ∨ d.kind = 2 ∨ d.kind = 3 := by rcases kindD_cases h1 with ⟨q, _⟩ | ⟨q, _⟩ <;> omega
  have hkl := (kw_get hk).2.2.2
  have hn : (if d.name = sNone then ([] : Tx) else 32 :: bl d.name).length ≤ 41 := by
    by_cases hn : d.name = sNone
    · rw [if_pos hn]; simp
    · rw [if_neg hn]
      have : nameB d.name = true := by
        rcases kindD_cases h1 with ⟨_, q, _⟩ | ⟨_, q, _⟩
        · exact q.resolve_left hn
        · exact q
      have := (name_chars this).2.2
      simp only [List.length_cons]
      omega
  have ho : (if d.kind = 3 then (32 :: 111 :: 110 :: 32 :: bl d.on : Tx) else []).length ≤ 44 := by
    by_cases h3 : d.kind = 3
    · rw [if_pos h3]
      obtain ⟨_, _, oa⟩ := (kindD_cases h1).resolve_left (fun q => by omega)
      have := (name_chars oa).2.2
      simp only [List.length_cons]
      omega
    · rw [if_neg h3]; simp
  unfold defT setT
  simp only [List.length_append, List.length_cons, List.length_nil]
  omega
/-- how a definition's text is made -/
theorem def_text {d : GDef} (hok : okDef d) (hd : defB d = true) (hc : cnts d.sels ≤ 60) (i : Int) (l1 : List (List Pd)) (e2 : List (List Pd)) (he : e2.length ≤ 100) :
    (if 0 ≤ d.kind ∧ d.kind < ((([[.str (⟨#[]⟩ : ByteArray)], [.str (⟨#[113, 117, 101, 114, 121]⟩ : ByteArray)], [.str (⟨#[109, 117, 116, 97, 116, 105, 111, 110]⟩ : ByteArray)], [.str (⟨#[102, 114, 97, 103, 109, 101, 110, 116]⟩ : ByteArray)]] : List (List Pd)).length : Nat) : Int) then
      (if 1 = 1 ∧ d.kind.toNat < ([[.str (⟨#[]⟩ : ByteArray)], [.str (⟨#[113, 117, 101, 114, 121]⟩ : ByteArray)], [.str (⟨#[109, 117, 116, 97, 116, 105, 111, 110]⟩ : ByteArray)], [.str (⟨#[102, 114, 97, 103, 109, 101, 110, 116]⟩ : ByteArray)]] : List (List Pd)).length ∧ 0 + 1 ≤ 1 then
        ((asStr ((([[.str (⟨#[]⟩ : ByteArray)], [.str (⟨#[113, 117, 101, 114, 121]⟩ : ByteArray)], [.str (⟨#[109, 117, 116, 97, 116, 105, 111, 110]⟩ : ByteArray)], [.str (⟨#[102, 114, 97, 103, 109, 101, 110, 116]⟩ : ByteArray)]] : List (List Pd)).getD d.kind.toNat []).getD 0 .undef)).bind fun s105 => (asStr (d.enc.getD 1 .undef)).bind fun s106 => bif !decide (s106 = (⟨#[]⟩ : ByteArray)) then ((asStr (d.enc.getD 1 .undef)).bind fun s107 => if (⟨#[32]⟩ : ByteArray).size + s107.size ≤ LIM then (if s105.size + ((⟨#[32]⟩ : ByteArray) ++ s107).size ≤ LIM then (spec_l02Print_2 i (s105 ++ ((⟨#[32]⟩ : ByteArray) ++ s107)) l1 d.enc e2) else none) else none) else (spec_l02Print_2 i s105 l1 d.enc e2)) else none) else none) =
    spec_l02Print_1 (IntKind.i64.wrap (i + 1)) l1 (e2 ++ [[.str (S (defT d))]]) := by
  have hlim : (2 : Nat) ^ 40 ≤ LIM := by decide
  unfold defB at hd
  simp only [Bool.and_eq_true] at hd
  obtain ⟨⟨h1, _⟩, h3⟩ := hd
  have hbl := bodyT_len 7 _ h3
  have hk : d.kind = 1 ∨ d.kind = 2 ∨ d.kind = 3 := by rcases kindD_cases h1 with ⟨q, _⟩ | ⟨q, _⟩ <;> omega
  obtain ⟨k1, k2, k3, k4⟩ := kw_get hk
  have e1 : asStr (d.enc.getD 1 .undef) = some (S (bl d.name)) := by rw [S_bl]; rfl
  have e2' : asStr (d.enc.getD 2 .undef) = some (S (bl d.on)) := by rw [S_bl]; rfl
  have e0 : asInt .i64 (d.enc.getD 0 .undef) = some d.kind := rfl
  have e3 : asSl 6 (d.enc.getD 3 .undef) = some (d.sels.map GSel.enc) := rfl
  have h32 : (⟨#[32]⟩ : ByteArray) = S [32] := rfl
  have hon : (⟨#[32, 111, 110, 32]⟩ : ByteArray) = S [32, 111, 110, 32] := rfl
  have hset := set_text 7 d.sels h3 hok.2.2 hc
  have fin : ∀ acc : Tx, acc.length ≤ 200 → spec_l02Print_3 i (S acc) l1 d.enc e2 = spec_l02Print_1 (IntKind.i64.wrap (i + 1)) l1 (e2 ++ [[.str (S (acc ++ 32 :: setT (bodyT d.sels)))]]) := by
    intro acc hacc
    rw [spec_l02Print_3_eq, h32, lim_pos (by simp only [List.length_singleton]; omega), e3, Option.bind_some, hset, bS, S_append, lim_pos (by simp only [setT, List.length_append, List.length_cons, List.length_nil]; omega), S_append, if_pos (by simp only [List.length_cons, List.length_nil]; omega)]
    simp
  have snd : ∀ acc : Tx, acc.length ≤ 100 → spec_l02Print_2 i (S acc) l1 d.enc e2 = spec_l02Print_1 (IntKind.i64.wrap (i + 1)) l1 (e2 ++ [[.str (S (acc ++ ((if d.kind = 3 then 32 :: 111 :: 110 :: 32 :: bl d.on else []) ++ 32 :: setT (bodyT d.sels))))]]) := by
    intro acc hacc
    rw [spec_l02Print_2_eq, e0, Option.bind_some, beq_int]
    by_cases h3 : d.kind = 3
    · obtain ⟨_, _, oa⟩ := (kindD_cases h1).resolve_left (fun q => by omega)
      have hol := (name_chars oa).2.2
      rw [decide_eq_true h3, cond_true, e2', Option.bind_some, hon, lim_pos (by simp only [List.length_cons, List.length_nil]; omega), S_append, lim_pos (by simp only [List.length_append, List.length_cons, List.length_nil]; omega), S_append, fin _ (by simp only [List.length_append, List.length_cons, List.length_nil]; omega), if_pos h3]
      simp
    · rw [decide_eq_false h3, cond_false, fin _ (by omega), if_neg h3]
      simp
  have hdec : decide (S (bl d.name) = (⟨#[]⟩ : ByteArray)) = decide (d.name = sNone) := by rw [S_bl]
  rw [if_pos (by simpa using k1), if_pos ⟨rfl, by simpa using k2, by omega⟩, k3, asS, Option.bind_some, e1, Option.bind_some, hdec]
  unfold defT
  by_cases hn : d.name = sNone
  · rw [decide_eq_true hn, Bool.not_true, cond_false, snd _ (by omega), if_pos hn]
    simp
  · have hnn : nameB d.name = true := by
      rcases kindD_cases h1 with ⟨_, q, _⟩ | ⟨_, q, _⟩
      · exact q.resolve_left hn
      · exact q
    have hnl := (name_chars hnn).2.2
    rw [decide_eq_false hn, Bool.not_false, cond_true, Option.bind_some, h32, lim_pos (by simp only [List.length_singleton]; omega), S_append, lim_pos (by simp only [List.length_append, List.length_singleton]; omega), S_append, snd _ (by simp only [List.length_append, List.length_singleton]; omega), if_neg hn]
    simp
theorem total_mem {xs : List GDef} {d : GDef} (h : d ∈ xs) : cnts d.sels ≤ total xs := by
  unfold total
  induction xs with
  | nil => cases h
  | cons x xs ih =>
    simp only [List.map_cons, List.sum_cons]
    rcases List.mem_cons.1 h with q | q
    · rw [q]; omega
    · have := ih q; omega
theorem docB_cases {xs : List GDef} (h : docB xs = true) : (1 ≤ xs.length ∧ xs.length ≤ 6) ∧ xs.all defB = true ∧ total xs ≤ 60 := by
  unfold docB withinB at h
  simp only [Bool.and_eq_true, decide_eq_true_eq] at h
  exact ⟨⟨by omega, by omega⟩, h.2.1, h.2.2⟩
theorem print_ev {xs : List GDef} (hok : okL okDef xs) (hd : docB xs = true) : ev E0 F_spec_l02Print [.p (.agg 1 [.sl 4 (xs.map GDef.enc)])] [] = rS (S (docT xs)) := by
  obtain ⟨hl6, hall, htot⟩ := docB_cases hd
  have hlen : (xs.map GDef.enc).length = xs.length := by simp
  have hmem : ∀ d ∈ xs, defB d = true := List.all_eq_true.1 hall
  have loop : ∀ (k i : Nat), i + k = xs.length → spec_l02Print_1 i (xs.map GDef.enc) (((xs.take i).map defT).map fun w => [.str (S w)]) = rS (S (docT xs)) := by
    intro k
    induction k with
    | zero =>
      intro i h
      have : i = xs.length := by omega
      subst this
      have h32 : (⟨#[32]⟩ : ByteArray) = S [32] := rfl
      rw [spec_l02Print_1_eq, hlen, List.take_length, decide_eq_false (by omega), cond_false, h32, join_ev (by rw [List.length_map]; omega) (fun w hw => by
        obtain ⟨d, hd1, rfl⟩ := List.mem_map.1 hw
        have := defT_len (hmem d hd1)
        have := total_mem hd1
        omega), bS, docT_join]
    | succ k ih =>
      intro i h
      have hlt : i < xs.length := by omega
      have hg : xs[i]? = some xs[i] := List.getElem?_eq_getElem hlt
      have e2 : IntKind.i64.wrap ((i : Int) + 1) = ((i + 1 : Nat) : Int) := by rw [wrap_id (by omega)]; omega
      have hm := List.getElem_mem hlt
      have e0 : asInt .i64 (xs[i].enc.getD 0 .undef) = some xs[i].kind := rfl
      rw [spec_l02Print_1_eq, hlen, decide_eq_true (by omega), cond_true, if_pos (by omega), getD_enc hg, e0, Option.bind_some]
      have := def_text (hok.2 _ hm) (hmem _ hm) (by have := total_mem hm; omega) i (xs.map GDef.enc) (((xs.take i).map defT).map fun w => [.str (S w)]) (by simp only [List.length_map, List.length_take]; omega)
      refine this.trans ?_
      have ht : xs.take (i + 1) = xs.take i ++ [xs[i]] := (List.take_append_getElem hlt).symm
      have := ih (i + 1) (by omega)
      rw [ht, List.map_append, List.map_append] at this
      rw [e2]
      exact this
  have e0 : ((0 : Nat) : Int) = 0 := rfl
  have := loop xs.length 0 (by omega)
  rw [e0, List.take_zero] at this
  rw [spec_l02Print_0_ev, spec_l02Print_0_eq]
  exact this
end Go.Proofs.YtlmmimhjfajhdaaGreatDoor.Dm
