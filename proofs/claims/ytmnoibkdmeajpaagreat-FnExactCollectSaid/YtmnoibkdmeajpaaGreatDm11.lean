/- The machine over plain data and memory: append. -/
import Derived.Test.YtmnoibkdmeajpaaGreatDm10
namespace Go.Proofs.YtmnoibkdmeajpaaGreat.Dm
set_option linter.unusedSectionVars false
open Go.RowKit
set_option linter.unusedVariables false
set_option linter.unusedSimpArgs false
variable [Cfg] {P : Program} {cx : Cx} {ρ : Nm → Rz} {S : Nat → Nat → Prop} {w : World} {st : St} {a : Act} {o : Oper} {d : Dv}
theorem append_own {t e : TypeId} {i : TypeInfo} {z : Value} {ty : TypeId} (ht : P.underlying t = some (.slice e)) (hi : P.info? e = some i) (hz : i.zero = some z) (hzs : z.cells.size = i.size) (hsz : 0 < i.size)
 (v : Value) (n : Nat) (xs : List Value) (hown : w.ownsRow 0 e i.size v n xs) (ao : Option Addr) (m c : Nat) (hmc : m ≤ c) (news : List Value) (hl : news.length = m * i.size) (hao : 0 < m → ∃ ad, ao = some ad ∧ ∀ j u, news[j]? = some u → w.cell? (ad.add j) = some u) (h1 : ∀ u ∈ news, u.oneCell' = true)
 (h63 : n + m ≤ maxLen) (hbytes : (n + m) * i.bytes ≤ 140737488355328) :
 ∃ v' w', (Builtin.append_ #[t, t] ty #[v, .slice ao m c]).run P w = .ok v' w' ∧ w'.ownsRow 0 e i.size v' (n + m) (xs ++ news) ∧ (v'.ownBlock = v.ownBlock ∨ v'.ownBlock = some w.heap.size) ∧ v'.oneCell' = true ∧
  w.heap.size ≤ w'.heap.size ∧ w'.os = w.os ∧ w'.tape = w.tape ∧ w'.output = w.output ∧ (∀ b, b < w.heap.size → v.ownBlock ≠ some b → w'.heap[b]? = w.heap[b]?) ∧
  ∀ b k, v.ownBlock = some b → k < n * i.size → w'.cell? ⟨b, k, none⟩ = w.cell? ⟨b, k, none⟩ := by
 by_cases hm0 : m = 0
 ·
  subst hm0
  have hn0 : news = [] := List.eq_nil_of_length_eq_zero (by simpa using hl)
  subst hn0
  obtain ⟨a0, cap, ev, hcap, _, _⟩ := own_cells hown
  refine ⟨v, w, ?_, by simpa using hown, .inl rfl, by rw [ev]; rfl, Nat.le_refl _, rfl, rfl, rfl, fun _ _ _ => rfl, fun _ _ _ _ => rfl⟩
  subst ev
  have hfc : (Builtin.firstCells i.size 0 (.slice ao 0 c)).run P w = .ok #[] w := by
   cases ao <;> simp [Builtin.firstCells, loadCells, loadCellsFrom]
  have hst : ∀ ad : Addr, (storeCells ad [] : Sem Unit).run P w = .ok () w := fun ad => rfl
  cases a0 <;> simp [Builtin.append_, run_underlying ht, sizeOf, typeInfo, hi, Builtin.lenOf, hcap, hfc, storeCells]
 ·obtain ⟨ad, rfl, hnews⟩ := hao (by omega)
  obtain ⟨v', w', r1, r2, r3, r4, r5⟩ := run_append_own_at (P := P) w 0 t ty e i z i.size i.bytes ht hi hz rfl rfl hzs hsz v n xs hown ad m c news hl hnews h1 h63 hbytes (Nat.zero_le _)
  obtain ⟨a0', cap', ev', _, _, _⟩ := own_cells r2
  refine ⟨v', w', r1, r2, r5, by rw [ev']; rfl, r3.size, r3.os, r3.tape, r3.output, fun b hb hne => r3.block b hb (fun q => hne q.symm), fun b k hb hk => ?_⟩
  rcases hown.2 with ⟨rfl, rfl⟩ | ⟨g, cap, cur, rfl, _, hg, hnc, hcm, hcs, htake⟩
  ·cases hb
  ·have hbg : b = g := by simpa [Value.ownBlock] using hb.symm
   subst hbg
   by_cases hroom : n + m ≤ cap
   ·have hfit : n * i.size + news.length ≤ cur.size := by rw [hl, hcs, ← Nat.add_mul]; exact Nat.mul_le_mul_right _ hroom
    have hr := run_append_room (P := P) w t ty e i ht hi b n cap cur hg ad m c news hl hnews h1 hroom hfit
    rw [hr] at r1
    injection r1 with _ r1
    subst r1
    have hcl : cur.toList.length = cur.size := by simp
    rw [cell_of_row _ b k _ e (0, 0) (setRow_heap w b cur _ e (0, 0) hg), cell_of_row w b k cur e (0, 0) hg]
    rw [List.getElem?_toArray, List.append_assoc, List.getElem?_append_left (by rw [List.length_take]; omega), List.getElem?_take, if_pos hk]
    simp
   ·have holds : ∀ j u, xs[j]? = some u → w.cell? ((⟨b, 0, none⟩ : Addr).add j) = some u := hown.cells (g := b) rfl
    have hsmall : n + m ≤ 9223372036854775807 := by simp only [maxLen] at h63; omega
    have hr := run_append_grow (P := P) w t ty e i z ht hi hz ⟨b, 0, none⟩ n cap xs hown.1 holds ad m c news hl hnews (by omega) (by omega) (growslice_fits (by omega) hbytes)
    rw [hr] at r1
    injection r1 with _ r1
    subst r1
    exact cell_heap (heap_alloc_old w.drew _ b (Array.getElem?_eq_some_iff.1 hg).1)
theorem flat_cells {s : Nat} {es : List (List Pd)} {v : Value} (h : VP S w (.sl s es) v) (hs : 0 < s) : ∃ (ao : Option Addr) (c : Nat) (news : List Value), v = .slice ao es.length c ∧ es.length ≤ c ∧ news.length = es.length * s ∧ (0 < es.length → ∃ ad, ao = some ad ∧ ∀ j u, news[j]? = some u → w.cell? (ad.add j) = some u) ∧ (∀ u ∈ news, u.oneCell' = true) ∧
 ∀ i j, i < es.length → j < s → VP S w ((es.getD i []).getD j .undef) (news.getD (i * s + j) undef) := by
 cases h with
 | @sl _ _ a0 len cap ad vals g1 g2 g3 g4 g5 =>
  subst g1
  have hdiv : ∀ k, k < es.length * s → k / s < es.length ∧ k % s < s := fun k hk => ⟨Nat.div_lt_of_lt_mul (by rw [Nat.mul_comm]; exact hk), Nat.mod_lt _ hs⟩
  refine ⟨a0, cap, (List.range (es.length * s)).map fun k => vals (k / s) (k % s), rfl, g2, by simp, fun hp => ⟨ad, (g3 hp).1, fun j u hj => ?_⟩, fun u hu => ?_, fun i j hi hj => ?_⟩
  ·have hj' : j < es.length * s := by
    have := (List.getElem?_eq_some_iff.1 hj).1
    simpa using this
   rw [List.getElem?_map, List.getElem?_range hj'] at hj
   simp only [Option.map_some] at hj
   injection hj with hj; subst hj
   obtain ⟨d1, d2⟩ := hdiv j hj'
   have := (g4 _ _ d1 d2).2.1
   rw [add_eq (g3 hp).2]
   rw [Nat.add_assoc, Nat.div_add_mod'] at this
   exact this
  ·rw [List.mem_map] at hu
   obtain ⟨k, hk, rfl⟩ := hu
   rw [List.mem_range] at hk
   obtain ⟨d1, d2⟩ := hdiv k hk
   exact (g4 _ _ d1 d2).2.2
  ·have hlt : i * s + j < es.length * s := by
    have : i * s + s ≤ es.length * s := by rw [← Nat.succ_mul]; exact Nat.mul_le_mul_right _ hi
    omega
   have hd : (i * s + j) / s = i := by rw [Nat.add_comm, Nat.add_mul_div_right _ _ hs, Nat.div_eq_of_lt hj, Nat.zero_add]
   have hm : (i * s + j) % s = j := by rw [Nat.add_comm, Nat.add_mul_mod_self_right, Nat.mod_eq_of_lt hj]
   have e1 : ((List.range (es.length * s)).map fun k => vals (k / s) (k % s)).getD (i * s + j) undef = vals i j := by
    rw [List.getD_eq_getElem?_getD, List.getElem?_map, List.getElem?_range hlt]
    simp only [Option.map_some, Option.getD_some, hd, hm]
   rw [e1]
   exact g5 i j hi hj
theorem moveY_sound (h : Core cx ρ S st.L st.O w) {e sz : Nat} (hsz : 0 < sz) {y : Dv} {vy : Value} (hy : VD ρ S w y vy) {ys : List (List Pd)} {ns : List Nm} {mx : Bool} (hm : moveY mx st.L st.O e sz y = some (ys, ns)) :
 ∃ (ao : Option Addr) (c : Nat) (news : List Value) (fy : Nat → Nat), vy = .slice ao ys.length c ∧ ys.length ≤ c ∧ news.length = ys.length * sz ∧ (0 < ys.length → ∃ ad, ao = some ad ∧ ∀ j u, news[j]? = some u → w.cell? (ad.add j) = some u) ∧ (∀ u ∈ news, u.oneCell' = true) ∧
 ∀ i j, i < ys.length → j < sz → VO (SX mx S) w (fun k => OwnSet st.L st.O ρ ns k ∧ fy k = i * sz + j) ((ys.getD i []).getD j .undef) (news.getD (i * sz + j) undef) := by
 unfold moveY at hm
 split at hm
 ·rename_i s ys'
  split at hm
  ·rename_i hs
   obtain ⟨hs, hok⟩ := hs
   injection hm with hm; injection hm with e1 e2; subst e1 e2 hs
   obtain ⟨ao, cc, news, ev, hcc, hnl, hao, hone, hvals⟩ := flat_cells hy.pd hsz
   exact ⟨ao, cc, news, fun _ => 0, ev, hcc, hnl, hao, hone, fun i j hi hj => .p ((hvals i j hi hj).toX (okX_getD hok i j))⟩
  ·cases hm
 ·injection hm with hm; injection hm with e1 e2; subst e1 e2
  cases hy
  refine ⟨none, 0, [], fun _ => 0, rfl, Nat.le_refl _, by simp, fun q => absurd q (by simp), fun u q => absurd q (by simp), fun i j hi => absurd hi (by simp)⟩
 ·rename_i m
  cases hy
  have hob := h.ob m
  have cells : ∀ {n : Nat} {xs : List Value}, w.ownsRow 0 e sz (ρ m).tip n xs → ∃ (ao : Option Addr) (c : Nat), (ρ m).tip = .slice ao n c ∧ n ≤ c ∧ (0 < n → ∃ ad, ao = some ad ∧ ∀ j u, xs[j]? = some u → w.cell? (ad.add j) = some u) := by
   intro n xs h1
   obtain ⟨a0, cap, ev, hcap, ha, hg⟩ := own_cells h1
   refine ⟨a0, cap, ev, hcap, fun hn => ?_⟩
   cases a0 with
   | none => have := ha rfl; omega
   | some ad =>
    refine ⟨ad, rfl, fun j u hj => ?_⟩
    have q : (ρ m).tip.ownBlock = some ad.block := by rw [ev]; rfl
    obtain ⟨q1, q2, q3⟩ := hg ad.block q
    injection q1 with q1
    have hjl := (List.getElem?_eq_some_iff.1 hj).1
    rw [add_eq (by rw [q1]), show ad.off = 0 by rw [q1], Nat.zero_add, q3 j (by rw [← h1.1]; exact hjl), List.getD_eq_getElem?_getD, hj]
    rfl
  split at hm
  ·rename_i e' s' ys' hmm
   split at hm
   ·rename_i hes
    obtain ⟨rfl, rfl⟩ := hes
    injection hm with hm; injection hm with e1 e2; subst e1 e2
    rw [hmm] at hob
    obtain ⟨o1, o2, o3, o4⟩ := hob
    cases o3 with
    | p o3 => cases o3
    | ow xs f g0 g1 g2 g3 g4 =>
    obtain ⟨ao, c, c1, c2, c3⟩ := cells g1
    exact ⟨ao, c, xs, f, c1, c2, g1.1, c3, g3, fun i j hi hj => (g4 i j hi hj).toX.mono fun k hk => ⟨⟨m, List.mem_singleton.2 rfl, .inl ⟨by rw [hmm]; rfl, hk.1⟩⟩, hk.2.2⟩⟩
   ·cases hm
  ·rename_i e' s' b ys' hmm
   split at hm
   ·rename_i hes
    obtain ⟨rfl, rfl, hok⟩ := hes
    injection hm with hm; injection hm with e1 e2; subst e1 e2
    rw [hmm] at hob
    obtain ⟨xs, h1, h2, h3, h4, h5⟩ := hob
    obtain ⟨ao, c, c1, c2, c3⟩ := cells h1
    exact ⟨ao, c, xs, fun _ => 0, c1, c2, h1.1, c3, h4, fun i j hi hj => .p ((h5 i j hi hj).toX (okX_getD hok i j))⟩
   ·cases hm
  ·rename_i e' s' ys' hmm
   split at hm
   ·rename_i hes
    obtain ⟨rfl, rfl, rfl⟩ := hes
    injection hm with hm; injection hm with e1 e2; subst e1 e2
    rw [hmm] at hob
    obtain ⟨o1, o2, o3, o4⟩ := hob
    cases o3 with
    | p o3 => cases o3
    | ow xs f g0 g1 g2 g3 g4 =>
    obtain ⟨ao, c, c1, c2, c3⟩ := cells g1
    exact ⟨ao, c, xs, f, c1, c2, g1.1, c3, g3, fun i j hi hj => (g4 i j hi hj).inX.mono fun k hk => ⟨⟨m, List.mem_singleton.2 rfl, .inl ⟨by rw [hmm]; rfl, hk.1⟩⟩, hk.2.2⟩⟩
   ·cases hm
  ·cases hm
 ·cases hm
theorem append_owned (h : Rel cx ρ S st a w) {t e : TypeId} (hu : P.underlying t = some (.slice e)) (hcz : P.cellsOf e ≠ 0) (hbz : P.bytesOf e ≠ 0) (hzo : zeroOK P e ≠ false) {mx : Bool} {m : Nm} (hma : ∀ i, m = .out i → isArr (getOb st.L st.O m) = true) {ns : List Nm} (k2 : ∀ n ∈ ns, isLoc n = true) (k3 : nodupN ns = true) (k4 : m ∉ ns) {vx vy : Value} {y : Dv} {ys : List (List Pd)}
 (hy : VD ρ S w y vy) (hmv : moveY mx st.L st.O e (P.cellsOf e) y = some (ys, ns)) {es : List (List Pd)} (xs : List Value) (f : Nat → Nat) (fpo : Nat → Prop)
 (g1 : w.ownsRow 0 e (P.cellsOf e) vx es.length xs) (g2 : ∀ b, vx.ownBlock = some b → fpo b) (g3 : ∀ u ∈ xs, u.oneCell' = true)
 (g4 : ∀ i j, i < es.length → j < P.cellsOf e → VO (SX mx S) w (fun k => fpo k ∧ vx.ownBlock ≠ some k ∧ f k = i * P.cellsOf e + j) ((es.getD i []).getD j .undef) (xs.getD (i * P.cellsOf e + j) undef))
 (hfpo : ∀ k, fpo k → isO (getOb st.L st.O m) = true ∧ (ρ m).fp k) (hlim : (es.length + ys.length) * P.bytesOf e ≤ LIM)
 (run : ∀ v w', (Builtin.append_ #[t, t] o.type #[vx, vy]).run P w = .ok v w' → (execOp a.eval o).run P w = .ok (.value v) w') :
 StepOK P cx o a w (.arr m) ⟨st.T.map (scrub m), setL ((rmAll ns st.L).map (scrubOb m)) m (obX mx e (P.cellsOf e) (es ++ ys)), setO (st.O.map (scrubOb m)) m (obX mx e (P.cellsOf e) (es ++ ys))⟩ := by
 obtain ⟨i, hi, hsi, hbi⟩ := info_of_cells hcz
 obtain ⟨z, hz, hzs⟩ : ∃ z, i.zero = some z ∧ z.cells.size = i.size := by
  unfold zeroOK at hzo
  rw [hi] at hzo
  dsimp only at hzo
  cases hz : i.zero with
  | none => rw [hz] at hzo; exact absurd rfl hzo
  | some z =>
   rw [hz] at hzo
   refine ⟨z, rfl, ?_⟩
   simpa using hzo
 obtain ⟨ao, cc, news, fy, ev, hcc, hnl, hao, hone, hvals⟩ := moveY_sound h.core (by omega) hy hmv
 have hbound : ∀ k : Nat, k * P.bytesOf e ≤ LIM → k ≤ maxLen := fun k hk => by
  have : k * 1 ≤ k * P.bytesOf e := Nat.mul_le_mul_left _ (by omega)
  unfold LIM at hk
  exact maxLen_big (by omega)
 obtain ⟨v', w', r1, r2, r3, r4, r5, r6, r7, r8, r9, r10⟩ := append_own (P := P) (w := w) (ty := o.type) hu hi hz hzs (by omega) vx es.length xs (by rw [hsi]; exact g1) ao ys.length cc hcc news (by rw [hsi]; exact hnl) hao hone (hbound _ hlim) (by rw [hbi]; unfold LIM at hlim; exact hlim)
 rw [← ev] at r1
 rw [hsi] at r2 r10
 have hlt : ∀ k, fpo k → k < w.heap.size ∧ ∀ o, ¬ S k o := fun k hk => by
  obtain ⟨q1, q2⟩ := hfpo k hk
  have := h.core.fp m k q1 q2
  exact ⟨this.1, this.2.2⟩
 have hlt2 : ∀ k, OwnSet st.L st.O ρ ns k → k < w.heap.size := fun k ⟨n, q1, q2⟩ => (h.core.ownAt q2).1.1
 have hdis : ∀ k, fpo k → ¬ OwnSet st.L st.O ρ ns k := fun k hk ⟨n, q1, q2⟩ => by
  obtain ⟨p1, p2⟩ := hfpo k hk
  exact k4 (h.core.ownAt_inj q2 (.inl ⟨p1, p2⟩) ▸ q1)
 have hcell : ∀ b' o', S b' o' → w'.cell? ⟨b', o', none⟩ = w.cell? ⟨b', o', none⟩ := fun b' o' hS => cell_heap (r9 b' (h.core.sb b' o' hS) fun q => (hlt b' (g2 b' q)).2 o' hS)
 have hnb : ∀ k, k < w.heap.size → vx.ownBlock ≠ some k → v'.ownBlock ≠ some k := fun k hk hne q => by
  rcases r3 with r3 | r3
  ·exact hne (r3 ▸ q)
  ·rw [r3] at q; injection q with q; omega
 have hlx : xs.length = es.length * P.cellsOf e := g1.1
 obtain ⟨hh, fa, fb⟩ := two_parts (A := fpo) (B := OwnSet st.L st.O ρ ns) hdis f (fun k => es.length * P.cellsOf e + fy k)
 have hVO : VO (SX mx S) w' (fun k => fpo k ∨ OwnSet st.L st.O ρ ns k ∨ v'.ownBlock = some k) (.ow e (P.cellsOf e) (es ++ ys)) v' := by
  refine .ow (xs ++ news) hh (by omega) (by rw [List.length_append]; exact r2) (fun g q => .inr (.inr q)) (fun u hu => ?_) (fun i j hi hj => ?_)
  ·rcases List.mem_append.1 hu with hu | hu
   ·exact g3 u hu
   ·exact hone u hu
  ·rw [List.length_append] at hi
   by_cases hil : i < es.length
   ·have hlt' := idx_lt hil hj
    have e1 : (es ++ ys).getD i [] = es.getD i [] := by simp only [List.getD_eq_getElem?_getD, List.getElem?_append_left hil]
    have e2 : (xs ++ news).getD (i * P.cellsOf e + j) undef = xs.getD (i * P.cellsOf e + j) undef := by
     simp only [List.getD_eq_getElem?_getD]
     rw [List.getElem?_append_left (by omega)]
    rw [e1, e2]
    exact ((g4 i j hil hj).keep (fun _ _ q => q) (fun b o q => hcell b o q.2) fun k hk => r9 k (hlt k hk.1).1 hk.2.1).mono fun k hk => ⟨.inl hk.1, hnb k (hlt k hk.1).1 hk.2.1, by rw [fa k hk.1]; exact hk.2.2⟩
   ·have e1 : (es ++ ys).getD i [] = ys.getD (i - es.length) [] := by simp only [List.getD_eq_getElem?_getD, List.getElem?_append_right (Nat.le_of_not_lt hil)]
    have hmul : es.length * P.cellsOf e ≤ i * P.cellsOf e := Nat.mul_le_mul_right _ (by omega)
    have e2 : (xs ++ news).getD (i * P.cellsOf e + j) undef = news.getD ((i - es.length) * P.cellsOf e + j) undef := by
     simp only [List.getD_eq_getElem?_getD]
     rw [List.getElem?_append_right (by omega), hlx, Nat.sub_mul]
     congr 2
     omega
    rw [e1, e2]
    have hne : ∀ k, OwnSet st.L st.O ρ ns k → vx.ownBlock ≠ some k := fun k hk q => hdis k (g2 k q) hk
    refine ((hvals (i - es.length) j (by omega) hj).keep (fun _ _ q => q) (fun b o q => hcell b o q.2) fun k hk => r9 k (hlt2 k hk.1) (hne k hk.1)).mono fun k hk => ⟨.inr (.inl hk.1), hnb k (hlt2 k hk.1) (hne k hk.1), ?_⟩
    rw [fb k hk.1, hk.2, Nat.sub_mul]
    omega
 have hob' : ObRel (fun n => if n = m then ⟨v'.ownBlock, v', fun k => fpo k ∨ OwnSet st.L st.O ρ ns k ∨ v'.ownBlock = some k, fun pos => (xs ++ news).getD pos undef⟩ else ρ n) S w' (obX mx e (P.cellsOf e) (es ++ ys)) ⟨v'.ownBlock, v', fun k => fpo k ∨ OwnSet st.L st.O ρ ns k ∨ v'.ownBlock = some k, fun pos => (xs ++ news).getD pos undef⟩ := by
  refine obX_rel rfl r4 hVO fun i j b hi hj _ hb => ?_
  obtain ⟨_, _, _, _, _, hg⟩ := own_cells r2
  rw [List.length_append] at hi
  exact (hg b hb).2.2 _ (idx_lt hi hj)
 refine .inl ⟨v', w', fun n => if n = m then ⟨v'.ownBlock, v', fun k => fpo k ∨ OwnSet st.L st.O ρ ns k ∨ v'.ownBlock = some k, fun pos => (xs ++ news).getD pos undef⟩ else ρ n, S, .inl (run v' w' r1), ⟨?_, ?_, h.df, fun t' => ?_⟩, ?_⟩
 ·refine h.core.putR hma k2 k4 _ _ (isO_X mx _ _ _) (fun b q => by exact Or.inr (Or.inr q)) (scrubOb m) (fun w o z q => q.scrub_ (fun n hn => if_neg hn)) rfl (fun o q => scrubOb_eq_none q) (fun o => isArr_scrub m o) (fun o => isO_scrub m o) (fun o e s b es q => scrubOb_arr q) r5 r6 r7 r8 (fun b hb hne => r9 b hb fun q => ?_) hcell hob' (fun k q => ?_)
  ·obtain ⟨p1, p2⟩ := hfpo b (g2 b q)
   exact (hne m (.inl rfl) (fun q' => by rw [q'] at p1; cases p1)).2 p1 p2
  ·rcases q with q | ⟨n', q1, q2⟩ | q
   ·exact .inr ⟨m, .inl rfl, .inl (hfpo k q)⟩
   ·exact .inr ⟨n', .inr q1, q2⟩
   ·rcases r3 with r3 | r3
    ·exact .inr ⟨m, .inl rfl, .inl (hfpo k (g2 k (r3 ▸ q)))⟩
    ·rw [r3] at q
     injection q with q
     subst q
     obtain ⟨_, _, _, _, _, hg⟩ := own_cells r2
     exact .inl ⟨Nat.le_refl _, (hg _ r3).2.1⟩
 ·show a.tmps.size = (st.T.map _).length
  exact h.nt
 ·show VD _ _ _ ((st.T.map (scrub m)).getD t' ud) _
  rw [Tm.getD_map rfl]
  exact ((h.tm t').keep (ρ' := ρ) (fun _ => rfl) (fun _ _ q => q) hcell).scrub_ (fun n hn => if_neg hn)
 ·have : VD (fun n => if n = m then (⟨v'.ownBlock, v', fun k => fpo k ∨ OwnSet st.L st.O ρ ns k ∨ v'.ownBlock = some k, fun pos => (xs ++ news).getD pos undef⟩ : Rz) else ρ n) S w' (.arr m) ((fun n => if n = m then (⟨v'.ownBlock, v', fun k => fpo k ∨ OwnSet st.L st.O ρ ns k ∨ v'.ownBlock = some k, fun pos => (xs ++ news).getD pos undef⟩ : Rz) else ρ n) m).tip := .arr (by simp; exact r4)
  simpa using this
theorem ok_append (h : Rel cx ρ S st a w) {c : Call} (ho : o.op = .call c) (hc : c.callee = .builtin .append) {x y : Operand} {t : TypeId} (hargs : c.args.toList = [x, y]) (hts : c.argTypes.toList = [t, t]) {s : Nat} {q : Dv × St}
 (hd : appendD P st s t (opd P st t x) (opd P st t y) pr = some q) : StepOK P cx o a w q.1 q.2 := by
 have hvx := opd_rel (P := P) h t x
 have hvy := opd_rel (P := P) h t y
 generalize hex : a.eval x = vx at hvx
 generalize hey : a.eval y = vy at hvy
 have hargs' : c.args = #[x, y] := Array.ext' (by simpa using hargs)
 have hts' : c.argTypes = #[t, t] := Array.ext' (by simpa using hts)
 have run : ∀ v w', (Builtin.append_ #[t, t] o.type #[vx, vy]).run P w = .ok v w' → (execOp a.eval o).run P w = .ok (.value v) w' := by
  intro v w' hv
  unfold execOp; rw [ho]; dsimp only
  simp only [resolve, hc, hargs', hts', List.map_toArray, List.map_cons, List.map_nil, hex, hey, Sem.run_bind, Sem.run_pure, Result.andThen_ok, invoke, builtin, hv]
 rw [appendD_eq] at hd
 split at hd
 ·rename_i e hu
  split at hd
  ·cases hd
  ·rename_i hcond
   have hcz : P.cellsOf e ≠ 0 := fun q => hcond (.inl q)
   have hbz : P.bytesOf e ≠ 0 := fun q => hcond (.inr (.inl q))
   have hzo : zeroOK P e ≠ false := fun q => hcond (.inr (.inr q))
   obtain ⟨i, hi, hsi, hbi⟩ := info_of_cells hcz
   obtain ⟨z, hz, hzs⟩ : ∃ z, i.zero = some z ∧ z.cells.size = i.size := by
    unfold zeroOK at hzo
    rw [hi] at hzo
    dsimp only at hzo
    cases hz : i.zero with
    | none => rw [hz] at hzo; exact absurd rfl hzo
    | some z =>
     rw [hz] at hzo
     refine ⟨z, rfl, ?_⟩
     simpa using hzo
   split at hd
   ·rename_i m e' s' es hoa
    have hmm : opd P st t x = .arr m ∧ getOb st.L st.O m = .oarr e' s' es := by
     unfold ownAt at hoa
     split at hoa
     ·rename_i m' hxe
      split at hoa
      ·rename_i hm
       injection hoa with hoa; injection hoa with a1 a2; injection a2 with a2 a3; injection a3 with a3 a4; subst a1 a2 a3 a4
       exact ⟨hxe, hm⟩
      ·cases hoa
     ·cases hoa
    obtain ⟨hxe, hm⟩ := hmm
    split at hd
    ·rename_i hes
     obtain ⟨rfl, rfl⟩ := hes
     rw [appendO_eq] at hd
     split at hd
     ·rename_i ys ns hmv
      split at hd
      ·rename_i hgood
       split at hd
       ·rename_i hlim
        injection hd with hd; subst hd
        rw [hxe] at hvx
        cases hvx
        have hob := h.core.ob m
        rw [hm] at hob
        obtain ⟨o1, o2, o3, o4⟩ := hob
        cases o3 with
        | p o3 => cases o3
        | ow xs f g0 g1 g2 g3 g4 =>
        obtain ⟨k1, k2, k3, k4⟩ := goodNs_get hgood
        cases m with
        | out i => cases k1
        | loc sl => exact append_owned (mx := false) h hu hcz hbz hzo (fun i q => by cases q) k2 k3 k4 hvy hmv xs f (ρ (.loc sl)).fp g1 g2 g3 (fun i j hi hj => (g4 i j hi hj).toX) (fun k hk => ⟨by rw [hm]; rfl, hk⟩) hlim run
       ·cases hd
      ·cases hd
     ·cases hd
    ·cases hd
   split at hd
   ·split at hd
    ·rename_i s' hxe
     split at hd
     ·rename_i ys ns hmv
      split at hd
      ·rename_i hgood
       split at hd
       ·rename_i hlim
        injection hd with hd; subst hd
        rw [hxe] at hvx
        cases hvx
        obtain ⟨k1, k2, k3, k4⟩ := goodNs_get hgood
        exact append_owned (mx := false) (es := []) h hu hcz hbz hzo (fun i q => by cases q) k2 k3 k4 hvy hmv [] (fun _ => 0) (fun _ => False) (World.ownsRow_nil w 0 e _) (fun b q => nomatch q) (fun u hu => by cases hu) (fun i j hi => by cases hi) (fun k q => q.elim) (by simpa using hlim) run
       ·cases hd
      ·cases hd
     ·cases hd
    ·cases hd
   split at hd
   ·rename_i yv L O hv
    obtain ⟨ys, hys, hd⟩ := Option.bind_eq_some_iff.1 hd
    obtain ⟨S', q1, q2, q3⟩ := oneCell_of_view1 h.core hvy hv
    rw [asSl_eq hys] at q3
    obtain ⟨ao, cc, news, ev, hcc, hnl, hao, hone, hvals⟩ := flat_cells q3 (by omega)
    have h' : Rel cx ρ S' ⟨st.T, L, O⟩ a w := h.core_ q1 q2
    have hbound : ∀ k : Nat, k * P.bytesOf e ≤ LIM → k ≤ maxLen := fun k hk => by
     have : k * 1 ≤ k * P.bytesOf e := Nat.mul_le_mul_left _ (by omega)
     unfold LIM at hk
     exact maxLen_big (by omega)
    have rows : ∀ (es : List (List Pd)) (xs : List Value) (v' : Value) (w' : World) (ro : Bool) (b : Nat) (ρ' : Nm → Rz), xs.length = es.length * P.cellsOf e → (∀ u ∈ xs, u.oneCell' = true) → (∀ i j, i < es.length → j < P.cellsOf e → VP S' w ((es.getD i []).getD j .undef) (xs.getD (i * P.cellsOf e + j) undef)) →
     w'.ownsRow 0 e (P.cellsOf e) v' (es.length + ys.length) (xs ++ news) → (∀ b o, S' b o → w'.cell? ⟨b, o, none⟩ = w.cell? ⟨b, o, none⟩) → ObRel ρ' S' w' (.arr e (P.cellsOf e) b ro (es ++ ys)) (.of v'.ownBlock v') := by
     intro es xs v' w' ro b ρ' hxl hx1 hxv hown hcell
     refine ⟨xs ++ news, by rw [List.length_append]; exact hown, rfl, by omega, fun u hu => ?_, fun i j hi hj => ?_⟩
     ·rcases List.mem_append.1 hu with hu | hu
      ·exact hx1 u hu
      ·exact hone u hu
     ·rw [List.length_append] at hi
      by_cases hlt : i < es.length
      ·have hlt' : i * P.cellsOf e + j < es.length * P.cellsOf e := by
        have : i * P.cellsOf e + P.cellsOf e ≤ es.length * P.cellsOf e := by rw [← Nat.succ_mul]; exact Nat.mul_le_mul_right _ hlt
        omega
       have e1 : (es ++ ys).getD i [] = es.getD i [] := by simp only [List.getD_eq_getElem?_getD, List.getElem?_append_left hlt]
       have e2 : (xs ++ news).getD (i * P.cellsOf e + j) undef = xs.getD (i * P.cellsOf e + j) undef := by
        simp only [List.getD_eq_getElem?_getD]
        rw [List.getElem?_append_left (by omega)]
       rw [e1, e2]
       exact (hxv i j hlt hj).keep (fun _ _ q => q) hcell
      ·have e1 : (es ++ ys).getD i [] = ys.getD (i - es.length) [] := by simp only [List.getD_eq_getElem?_getD, List.getElem?_append_right (Nat.le_of_not_lt hlt)]
       have hmul : es.length * P.cellsOf e ≤ i * P.cellsOf e := Nat.mul_le_mul_right _ (by omega)
       have e2 : (xs ++ news).getD (i * P.cellsOf e + j) undef = news.getD ((i - es.length) * P.cellsOf e + j) undef := by
        simp only [List.getD_eq_getElem?_getD]
        rw [List.getElem?_append_right (by omega), hxl, Nat.sub_mul]
        congr 2
        omega
       rw [e1, e2]
       exact (hvals _ j (by omega) hj).keep (fun _ _ q => q) hcell
    have fin : ∀ (m : Nm) (es : List (List Pd)) (ro : Bool) (b : Nat) (xs : List Value), ((getOb L O m = .arr e (P.cellsOf e) b ro es ∧ vx = (ρ m).tip ∧ (ρ m).blk = (ρ m).tip.ownBlock) ∨ (vx = .slice none 0 0 ∧ es = [] ∧ ∀ i, m ≠ .out i)) → w.ownsRow 0 e (P.cellsOf e) vx es.length xs → (∀ u ∈ xs, u.oneCell' = true) →
     (∀ i j, i < es.length → j < P.cellsOf e → VP S' w ((es.getD i []).getD j .undef) (xs.getD (i * P.cellsOf e + j) undef)) → (es.length + ys.length) * P.bytesOf e ≤ LIM →
     q = (.arr m, ⟨st.T.map (scrub m), setL (L.map (scrubOb m)) m (.arr e (P.cellsOf e) b ro (es ++ ys)), setO (O.map (scrubOb m)) m (.arr e (P.cellsOf e) b ro (es ++ ys))⟩) → StepOK P cx o a w q.1 q.2 := by
     intro m es ro b xs hm hown hx1 hxv hlim hq
     subst hq
     obtain ⟨v', w', r1, r2, r3, r4, r5, r6, r7, r8, r9, r10⟩ := append_own (P := P) (w := w) (ty := o.type) hu hi hz hzs (by omega) vx es.length xs (by rw [hsi]; exact hown) ao ys.length cc hcc news (by rw [hsi]; exact hnl) hao hone (hbound _ hlim) (by rw [hbi]; unfold LIM at hlim; exact hlim)
     rw [← ev] at r1
     rw [hsi] at r2 r10
     have hcell : ∀ b' o', S' b' o' → w'.cell? ⟨b', o', none⟩ = w.cell? ⟨b', o', none⟩ := by
      intro b' o' hS
      have hlt := q2.sb b' o' hS
      by_cases hb : vx.ownBlock = some b'
      ·rcases hm with ⟨hm1, hm2, hm3⟩ | ⟨hm1, _⟩
       ·obtain ⟨e', s', bb, es', p1, p2⟩ := q2.ss m b' o' (by rw [hm1]; exact fun q => (by cases q)) (by rw [hm3, ← hm2]; exact hb) hS
        rw [hm1] at p1
        injection p1 with p1 p3 p4 p5 p6
        subst p3 p6
        exact r10 b' o' hb p2
       ·rw [hm1] at hb; cases hb
      ·exact cell_heap (r9 b' hlt hb)
     refine .inl ⟨v', w', fun n => if n = m then .of v'.ownBlock v' else ρ n, S', .inl (run v' w' r1), ⟨q2.put_ m _ (.of v'.ownBlock v') r5 r6 r7 r8 (fun b' hb hne => ?_) hcell (rows es xs v' w' ro b _ hown.1 hx1 hxv r2 hcell) (fun b' hb => ?_) (fun b' o' hb hS => ?_) (fun i hi => ?_) rfl, ?_, h.df, fun t' => ?_⟩, ?_⟩
     ·refine r9 b' hb (fun hq => hne ?_)
      rcases hm with ⟨hm1, hm2, hm3⟩ | ⟨hm1, _⟩
      ·exact ⟨by rw [hm1]; exact fun q => (by cases q), by rw [hm3, ← hm2]; exact hq⟩
      ·rw [hm1] at hq; cases hq
     ·have hb : v'.ownBlock = some b' := hb
      rcases r3 with r3 | r3
      ·right
       rcases hm with ⟨hm1, hm2, hm3⟩ | ⟨hm1, _⟩
       ·exact ⟨by rw [hm1]; exact fun q => (by cases q), by rw [hm3, ← hm2, ← r3]; exact hb⟩
       ·rw [hm1] at r3; rw [r3] at hb; cases hb
      ·left
       rw [r3] at hb
       injection hb with hb
       subst hb
       obtain ⟨_, _, _, _, _, hg⟩ := own_cells r2
       exact ⟨Nat.le_refl _, (hg _ r3).2.1⟩
     ·have hb : v'.ownBlock = some b' := hb
      rcases r3 with r3 | r3
      ·rcases hm with ⟨hm1, hm2, hm3⟩ | ⟨hm1, _⟩
       ·obtain ⟨e', s', bb, es', p1, p2⟩ := q2.ss m b' o' (by rw [hm1]; exact fun q => (by cases q)) (by rw [hm3, ← hm2, ← r3]; exact hb) hS
        rw [hm1] at p1
        injection p1 with p1 p3 p4 p5 p6
        subst p3 p5 p6
        refine ⟨_, _, _, _, rfl, ?_⟩
        rw [List.length_append, Nat.add_mul]
        omega
       ·rw [hm1] at r3; rw [r3] at hb; cases hb
      ·rw [r3] at hb
       injection hb with hb
       have := q2.sb b' o' hS
       omega
     ·rcases hm with ⟨hm1, _⟩ | ⟨_, _, hm1⟩
      ·rw [hm1]; rfl
      ·exact absurd hi (hm1 i)
     ·show a.tmps.size = (st.T.map _).length
      exact h.nt
     ·show VD _ _ _ ((st.T.map (scrub m)).getD t' ud) _
      rw [Tm.getD_map rfl]
      exact ((h'.tm t').keep (ρ' := ρ) (fun _ => rfl) (fun _ _ q => q) hcell).scrub_ (fun n hn => if_neg hn)
     ·have : VD (fun n => if n = m then (.of v'.ownBlock v' : Rz) else ρ n) S' w' (.arr m) ((fun n => if n = m then (.of v'.ownBlock v' : Rz) else ρ n) m).tip := .arr (by simp; exact r4)
      simpa using this
    split at hd
    ·rename_i s' hxe
     rw [hxe] at hvx
     cases hvx
     split at hd
     ·rename_i hlim
      injection hd with hd
      refine fin (.loc s) [] false (P.bytesOf e) [] (.inr ⟨rfl, rfl, fun _ q => nomatch q⟩) (World.ownsRow_nil w 0 e _) (fun u hu => by cases hu) (fun i j hi => by cases hi) (by simpa using hlim) ?_
      rw [← hd]
      rfl
     ·cases hd
    ·rename_i m hxe
     rw [hxe] at hvx
     have more : appendD.more P st pr L O (P.cellsOf e) e m ys = some q → StepOK P cx o a w q.1 q.2 := by
      intro hmore
      unfold appendD.more at hmore
      split at hmore
      ·rename_i e' s' b ro es hm
       split at hmore
       ·rename_i hes
        obtain ⟨rfl, rfl⟩ := hes
        split at hmore
        ·rename_i hlim
         injection hmore with hmore
         have hob := q2.ob m
         rw [hm] at hob
         obtain ⟨xs, p1, p2, p3, p4, p5⟩ := hob
         cases hvx
         exact fin m es ro b xs (.inl ⟨hm, rfl, p2⟩) p1 p4 p5 hlim hmore.symm
        ·cases hmore
       ·cases hmore
      ·cases hmore
     split at hd
     ·split at hd
      ·cases hd
      ·exact more hd
     ·exact more hd
    ·cases hd
   ·cases hd
 ·cases hd
theorem run_makeSlice_ (h : Rel cx ρ S st a w) {t e : TypeId} {l c : Operand} (ho : o.op = .makeSlice t l c) (hu : P.underlying t = some (.slice e)) {n m : Int} (hl : opd P st 0 l = .p (.int .i64 n)) (hc : opd P st 0 c = .p (.int .i64 m)) (h0 : P.cellsOf e ≠ 0)
 (hnm : 0 ≤ n ∧ n ≤ m ∧ m.toNat * P.bytesOf e ≤ LIM ∧ P.bytesOf e ≠ 0) {zs : List Dv} (hz : zeroD P e = some zs) (hzl : zs.length = P.cellsOf e) :
 ∃ (z : Value) (C : Array Value), (∀ (ρ : Nm → Rz) (S : Nat → Nat → Prop) (w : World) j, j < zs.length → VD ρ S w (zs.getD j ud) (z.cells.getD j undef)) ∧ (execOp a.eval o).run P w = .ok (.value (.slice (some ⟨w.heap.size, 0, none⟩) n.toNat m.toNat)) (w.alloc (.cells C e)) ∧
  C.size = m.toNat * P.cellsOf e ∧ n.toNat ≤ m.toNat ∧ m.toNat ≤ maxLen ∧ (∀ k, k < m.toNat * P.cellsOf e → (C.getD k undef).oneCell' = true) ∧ ∀ i j, i < m.toNat → j < P.cellsOf e → C.getD (i * P.cellsOf e + j) undef = z.cells.getD j undef := by
 obtain ⟨hn0, hnm1, hb, hb0⟩ := hnm
 obtain ⟨z, ⟨i, hi, hiz⟩, h1, h2, h3, h4⟩ := zero_rel hz
 have el := (hl ▸ opd_rel h 0 l).int_inv
 have ec := (hc ▸ opd_rel h 0 c).int_inv
 obtain ⟨i', hi', hsz, hby⟩ := info_of_cells h0
 have : i' = i := by rw [hi] at hi'; injection hi' with q; exact q.symm
 subst this
 have hm47 : m.toNat ≤ 140737488355328 := by
  unfold LIM at hb
  have : m.toNat * 1 ≤ m.toNat * P.bytesOf e := Nat.mul_le_mul_left _ (by omega)
  omega
 have hbi : (P.bytesOf e : Int) * m ≤ 281474976710656 := by
  unfold LIM at hb
  have : ((m.toNat * P.bytesOf e : Nat) : Int) ≤ ((140737488355328 : Nat) : Int) := Int.ofNat_le.2 hb
  rw [Int.natCast_mul, Int.toNat_of_nonneg (by omega), Int.mul_comm] at this
  omega
 have hcells : ((Array.range (m.toNat * P.cellsOf e)).map fun k => z.cells[k % z.cells.size]!).size = m.toNat * P.cellsOf e := by simp
 have hzs : z.cells.size = P.cellsOf e := by omega
 have hget : ∀ i j, i < m.toNat → j < P.cellsOf e → ((Array.range (m.toNat * P.cellsOf e)).map fun k => z.cells[k % z.cells.size]!).getD (i * P.cellsOf e + j) undef = z.cells.getD j undef :=
  fun i j hi hj => replicate_cells z.cells (P.cellsOf e) hzs (by omega) m.toNat i j hi hj
 refine ⟨z, ((Array.range (m.toNat * P.cellsOf e)).map fun k => z.cells[k % z.cells.size]!), h4, ?_, hcells, by omega, maxLen_big (by omega), fun k hk => ?_, fun i j hi hj => hget i j hi hj⟩
 ·unfold execOp; rw [ho]; dsimp only; rw [el, ec]
  refine (Sem.run_bind ..).trans ?_
  have hrun : (Instr.makeSlice t (.int .i64 n) (.int .i64 m)).run P w = .ok (.slice (some ⟨w.heap.size, 0, none⟩) n.toNat m.toNat) (w.alloc (.cells ((Array.range (m.toNat * P.cellsOf e)).map fun k => z.cells[k % z.cells.size]!) e)) := by
   have hr := run_make (P := P) w t e i' z hu hi hiz .i64 .i64 n m hn0 hnm1 (by rw [hby]; exact hbi) (by omega)
   rw [hsz] at hr
   exact hr
  rw [hrun]; rfl
 ·have hk' : k / P.cellsOf e < m.toNat := Nat.div_lt_of_lt_mul (by rw [Nat.mul_comm]; exact hk)
  have hm' : k % P.cellsOf e < P.cellsOf e := Nat.mod_lt _ (by omega)
  have := hget (k / P.cellsOf e) (k % P.cellsOf e) hk' hm'
  rw [Nat.div_add_mod'] at this
  rw [this]
  exact h3 _ (by omega)
theorem run_buildSlice_ (h : Rel cx ρ S st a w) {t e : TypeId} {len : Nat} {ps : Array (Nat × Operand)} (ho : o.op = .buildSlice t len ps) (hu : P.underlying t = some (.slice e)) (h0 : P.cellsOf e ≠ 0) (hzo : zeroOK P e = true)
 (hc : ps.size = len ∧ range0 0 ps.toList = true ∧ len * P.cellsOf e ≤ 65536) (hsz : sizesAre (P.cellsOf e) (ps.toList.map fun q => opd P st e q.2) = true) :
 (∀ j, j < (ps.toList.map fun q => opd P st e q.2).length → VD ρ S w ((ps.toList.map fun q => opd P st e q.2).getD j ud) (a.eval (ps.toList.getD j (0, .tmp 0)).2)) ∧ ps.toList.length = len ∧
 ∃ cs' : Array Value, (execOp a.eval o).run P w = .ok (.value (.slice (some ⟨w.heap.size, 0, none⟩) len len)) (w.alloc (.cells cs' e)) ∧ cs'.size = len * P.cellsOf e ∧ len ≤ maxLen ∧ (∀ k, k < len * P.cellsOf e → (cs'.getD k undef).oneCell' = true) ∧
  ∀ i j, i < len → j < P.cellsOf e → cs'.getD (i * P.cellsOf e + j) undef = (a.eval (ps.toList.getD i (0, .tmp 0)).2).cells.getD j undef := by
 obtain ⟨hl, hr, hb⟩ := hc
 obtain ⟨i, hi, hsi, _⟩ := info_of_cells h0
 unfold zeroOK at hzo
 rw [hi] at hzo
 dsimp only at hzo
 cases hz : i.zero with
 | none => rw [hz] at hzo; cases hzo
 | some z =>
  rw [hz] at hzo
  simp only [beq_iff_eq] at hzo
  have hzs : z.cells.size = P.cellsOf e := by omega
  have hop : ∀ j, j < (ps.toList.map fun q => opd P st e q.2).length → VD ρ S w ((ps.toList.map fun q => opd P st e q.2).getD j ud) (a.eval (ps.toList.getD j (0, .tmp 0)).2) := by
   intro j hj
   rw [List.length_map] at hj
   have e1 : (ps.toList.map fun q => opd P st e q.2).getD j ud = opd P st e (ps.toList.getD j (0, .tmp 0)).2 := by
    simp only [List.getD_eq_getElem?_getD, List.getElem?_map, List.getElem?_eq_getElem hj]
    rfl
   rw [e1]
   exact opd_rel h e _
  have hpl : ps.toList.length = len := by simpa using hl
  have hsize : ∀ j, j < ps.toList.length → (a.eval (ps.toList.getD j (0, .tmp 0)).2).cells.size = P.cellsOf e ∧ ∀ k, k < P.cellsOf e → ((a.eval (ps.toList.getD j (0, .tmp 0)).2).cells.getD k undef).oneCell' = true := by
   intro j hj
   have h1 := cells_rel (hop j (by rw [List.length_map]; exact hj)) (sizesAre_get hsz j (by rw [List.length_map]; exact hj))
   exact ⟨h1.1, h1.2.1⟩
  obtain ⟨cs', g1, g2, _, g4⟩ := fill_rows (sz := P.cellsOf e) (N := len) a.eval ps.toList 0 ((Array.range (len * P.cellsOf e)).map fun k => (if len * P.cellsOf e = 0 then (#[] : Array Value) else z.cells)[k % (if len * P.cellsOf e = 0 then (#[] : Array Value) else z.cells).size]!) hr (fun q hq => by
   obtain ⟨j, hj, rfl⟩ := List.getElem_of_mem hq
   have := (hsize j hj).1
   rwa [List.getD_eq_getElem?_getD, List.getElem?_eq_getElem hj] at this) (by simp) (by omega)
  have hcell : ∀ k, k < len * P.cellsOf e → (cs'.getD k undef).oneCell' = true := by
   intro k hk
   have hk' : k / P.cellsOf e < len := Nat.div_lt_of_lt_mul (by rw [Nat.mul_comm]; exact hk)
   have hm' : k % P.cellsOf e < P.cellsOf e := Nat.mod_lt _ (by omega)
   have := g4 (k / P.cellsOf e) (k % P.cellsOf e) (by omega) hm'
   rw [Nat.zero_add, Nat.div_add_mod'] at this
   rw [this]
   exact (hsize _ (by omega)).2 _ hm'
  refine ⟨hop, hpl, cs', ?_, g2, maxLen_big (by
   have : len * 1 ≤ len * P.cellsOf e := Nat.mul_le_mul_left _ (by omega)
   omega), hcell, fun i j hi' hj => ?_⟩
  ·unfold execOp; rw [ho]; dsimp only
   refine (Sem.run_bind ..).trans ?_
   have hrun : (Instr.buildSlice t len (ps.map fun x : Nat × Operand => (x.1, a.eval x.2))).run P w = .ok (.slice (some ⟨w.heap.size, 0, none⟩) len len) (w.alloc (.cells cs' e)) := by
    have hbig : ¬ (len * P.cellsOf e > 2 ^ 24) := by omega
    unfold Instr.buildSlice
    rw [Sem.run_bind, run_underlying hu, Result.andThen_ok]
    dsimp only
    rw [Sem.run_bind, run_sizeOf_ h0, Result.andThen_ok, if_neg hbig]
    have ee : (ps.map fun x : Nat × Operand => (x.1, a.eval x.2)).toList = ps.toList.map fun q => (q.1, a.eval q.2) := by simp
    by_cases hn : len * P.cellsOf e = 0
    ·simp only [hn, if_true] at g1 ⊢
     rw [Sem.run_bind, Sem.run_pure, Result.andThen_ok, ee, g1]
     rfl
    ·simp only [hn, if_false] at g1 ⊢
     rw [Sem.run_bind, show (zeroValue e).run P w = .ok z w from by simp [zeroValue, typeInfo, hi, hz], Result.andThen_ok, Sem.run_bind, Sem.run_pure, Result.andThen_ok, ee, g1]
     rfl
   rw [show (Array.map (fun x : Nat × Operand => match x with | (i, x) => (i, a.eval x)) ps) = ps.map fun x : Nat × Operand => (x.1, a.eval x.2) from rfl, hrun]
   rfl
  ·have hc := g4 i j (by omega) hj
   rw [Nat.zero_add] at hc
   exact hc
theorem fresh_X (st : St) (s : Nat) (mx : Bool) (e z : Nat) (es : List (List Pd)) : St.fresh st s (obX mx e z es) = ⟨st.T.map (scrub (.loc s)), setL (st.L.map (scrubOb (.loc s))) (.loc s) (obX mx e z es), setO (st.O.map (scrubOb (.loc s))) (.loc s) (obX mx e z es)⟩ := by cases mx <;> rfl
theorem Rel.freshOwn (h : Rel cx ρ S st a w) (s : Nat) {mx : Bool} {ns : List Nm} (hgood : goodNs (.loc s) ns = true) {e sz : Nat} {es : List (List Pd)} (cells : Array Value) (cap : Nat) (h0 : 0 < sz) (hcap : es.length ≤ cap) (hmax : cap ≤ maxLen) (hsz : cells.size = cap * sz)
 (h1 : ∀ j, j < cap * sz → (cells.getD j undef).oneCell' = true) (f : Nat → Nat) (h2 : ∀ i j, i < es.length → j < sz → VO (SX mx S) w (fun k => OwnSet st.L st.O ρ ns k ∧ f k = i * sz + j) ((es.getD i []).getD j .undef) (cells.getD (i * sz + j) undef)) :
 ∃ ρ' : Nm → Rz, Rel cx ρ' S (St.fresh { st with L := rmAll ns st.L } s (obX mx e sz es)) a (w.alloc (.cells cells e)) ∧ (ρ' (.loc s)).tip = .slice (some ⟨w.heap.size, 0, none⟩) es.length cap := by
 obtain ⟨k1, k2, k3, k4⟩ := goodNs_get hgood
 have hle : es.length * sz ≤ cap * sz := Nat.mul_le_mul_right _ hcap
 have hcl : cells.toList.length = cells.size := by simp
 have hc : ∀ b o, S b o → (w.alloc (.cells cells e)).cell? ⟨b, o, none⟩ = w.cell? ⟨b, o, none⟩ := fun b o q => cell_heap (heap_push_lt w _ b (h.core.sb b o q))
 have hlt2 : ∀ k, OwnSet st.L st.O ρ ns k → k < w.heap.size := fun k ⟨n, q1, q2⟩ => (h.core.ownAt q2).1.1
 have hown : (w.alloc (.cells cells e)).ownsRow 0 e sz (.slice (some ⟨w.heap.size, 0, none⟩) es.length cap) es.length (cells.toList.take (es.length * sz)) :=
  ⟨by rw [List.length_take, hcl]; omega, .inr ⟨w.heap.size, cap, cells, rfl, Nat.zero_le _, heap_alloc_new w _, hcap, hmax, hsz, rfl⟩⟩
 have hget : ∀ k, k < es.length * sz → (cells.toList.take (es.length * sz)).getD k undef = cells.getD k undef := by
  intro k hk
  rw [← getD_toList]
  simp only [List.getD_eq_getElem?_getD, List.getElem?_take, hk, if_true]
 refine ⟨fun n => if n = .loc s then ⟨some w.heap.size, .slice (some ⟨w.heap.size, 0, none⟩) es.length cap, fun k => OwnSet st.L st.O ρ ns k ∨ k = w.heap.size, fun pos => cells.getD pos undef⟩ else ρ n, ⟨?_, ?_, h.df, fun t' => ?_⟩, by simp⟩
 ·rw [fresh_X]
  refine h.core.putR (fun i q => by cases q) k2 k4 _ _ (isO_X mx _ _ _) (fun b q => by injection q with q; exact Or.inr q.symm) (scrubOb (.loc s)) (fun w o z q => q.scrub_ (fun n hn => if_neg hn)) rfl (fun o q => scrubOb_eq_none q) (fun o => isArr_scrub _ o) (fun o => isO_scrub _ o) (fun o e s b es q => scrubOb_arr q) (by simp) rfl rfl rfl (fun b hb _ => heap_push_lt w _ b hb) hc (obX_rel rfl rfl ?_ fun i j b hi hj _ hb => ?_) (fun k q => ?_)
  ·refine .ow (cells.toList.take (es.length * sz)) f h0 hown (fun g q => .inr ?_) (fun u hu => ?_) (fun i j hi hj => ?_)
   ·have : some w.heap.size = some g := q
    injection this with this; exact this.symm
   ·obtain ⟨k, hk, rfl⟩ := List.getElem_of_mem hu
    have hk' : k < es.length * sz := by rw [List.length_take] at hk; omega
    have := hget k hk'
    rw [List.getD_eq_getElem?_getD, List.getElem?_eq_getElem hk] at this
    simp only [Option.getD_some] at this
    rw [this]
    exact h1 k (by omega)
   ·rw [hget _ (idx_lt hi hj)]
    refine ((h2 i j hi hj).keep (fun _ _ q => q) (fun b o q => hc b o q.2) fun k hk => heap_push_lt w _ k (hlt2 k hk.1)).mono fun k hk => ⟨.inl hk.1, fun q => ?_, hk.2⟩
    have := hlt2 k hk.1
    have q : some w.heap.size = some k := q
    injection q with q
    omega
  ·have hb : some w.heap.size = some b := hb
   injection hb with hb
   subst hb
   rw [cell_of_row _ _ _ cells e (0, 0) (heap_alloc_new w _)]
   have := idx_lt hi hj
   have hlt : i * sz + j < cells.size := by omega
   simp [Array.getD_eq_getD_getElem?, hlt]
  ·rcases q with ⟨n', q1, q2⟩ | q
   ·exact .inr ⟨n', .inr q1, q2⟩
   ·exact .inl ⟨by omega, by rw [q]; simp⟩
 ·show a.tmps.size = (st.T.map _).length
  exact h.nt
 ·show VD _ _ _ ((st.T.map (scrub (.loc s))).getD t' ud) _
  rw [Tm.getD_map rfl]
  exact ((h.tm t').keep (ρ' := ρ) (fun _ => rfl) (fun _ _ q => q) hc).scrub_ (fun n hn => if_neg hn)
theorem packEs_sound {L O : List Ob} (h : Core cx ρ S L O w) {mx : Bool} {e : TypeId} {n : Nat} (hn : 0 < n) : ∀ (ds : List Dv) (vals : Nat → Value) {xs : List (List Pd)} {ms : List Nm}, packEs mx P L O e ds = some (xs, ms) → nodupN ms = true → sizesAre n ds = true → (∀ j, j < ds.length → VD ρ S w (ds.getD j ud) (vals j)) →
 xs.length = ds.length ∧ ∃ f : Nat → Nat, ∀ i j, i < ds.length → j < n → VO (SX mx S) w (fun k => OwnSet L O ρ ms k ∧ f k = i * n + j) ((xs.getD i []).getD j .undef) ((vals i).cells.getD j undef)
 | [], vals, xs, ms, hp, hnd, hs, hd => by
  simp only [packEs] at hp
  injection hp with hp; injection hp with e1 e2; subst e1 e2
  exact ⟨rfl, fun _ => 0, fun i j hi => by cases hi⟩
 | d :: ds, vals, xs, ms, hp, hnd, hs, hd => by
  simp only [packEs] at hp
  simp only [sizesAre, Bool.and_eq_true, beq_iff_eq] at hs
  split at hp
  ·rename_i x m1 h1
   split at hp
   ·rename_i ys m2 h2
    injection hp with hp; injection hp with e1 e2; subst e1 e2
    obtain ⟨hn2, hdis⟩ := nodupN_append hnd
    have hn1 : nodupN m1 = true := by
     have : ∀ (a b : List Nm), nodupN (a ++ b) = true → nodupN a = true := by
      intro a b
      induction a with
      | nil => intro _; rfl
      | cons m a ih =>
       intro h
       simp only [List.cons_append, nodupN, Bool.and_eq_true, Bool.not_eq_true'] at h ⊢
       refine ⟨?_, ih h.2⟩
       have := h.1
       rw [List.contains_eq_mem, decide_eq_false_iff_not] at this ⊢
       exact fun q => this (List.mem_append_left _ q)
     exact this m1 m2 hnd
    obtain ⟨q1, f', hf'⟩ := packEs_sound h hn ds (fun j => vals (j + 1)) h2 hn2 hs.2 (fun j hj => hd (j + 1) (by simpa using hj))
    obtain ⟨f0, hf0⟩ := packV_sound h (hd 0 (by simp)) hs.1 h1 hn1
    obtain ⟨f, fa, fb⟩ := two_parts (A := OwnSet L O ρ m1) (B := OwnSet L O ρ m2) (fun k ⟨n, q1, q2⟩ ⟨n', q3, q4⟩ => hdis n q1 (by rw [h.ownAt_inj q4 q2]; exact q3)) f0 (fun k => f' k + n)
    refine ⟨by simp [q1], f, fun i j hi hj => ?_⟩
    cases i with
    | zero => exact (hf0 j hj).mono fun k hk => ⟨by obtain ⟨n, q1, q2⟩ := hk.1; exact ⟨n, List.mem_append_left _ q1, q2⟩, by rw [fa k hk.1, hk.2]; omega⟩
    | succ i =>
     refine (hf' i j (by simpa using hi) hj).mono fun k hk => ⟨by obtain ⟨n, q1, q2⟩ := hk.1; exact ⟨n, List.mem_append_right _ q1, q2⟩, ?_⟩
     rw [fb k hk.1, hk.2, Nat.succ_mul]
     omega
   ·cases hp
  ·cases hp
theorem ok_buildOwn (h : Rel cx ρ S st a w) {t e : TypeId} {len : Nat} {ps : Array (Nat × Operand)} (ho : o.op = .buildSlice t len ps) (hu : P.underlying t = some (.slice e)) (h0 : P.cellsOf e ≠ 0) (hzo : zeroOK P e = true)
 (hc : ps.size = len ∧ range0 0 ps.toList = true ∧ len * P.cellsOf e ≤ 65536) (hsz : sizesAre (P.cellsOf e) (ps.toList.map fun q => opd P st e q.2) = true) {xs : List (List Pd)} {ns : List Nm} {mx : Bool} (hp : packEs mx P st.L st.O e (ps.toList.map fun q => opd P st e q.2) = some (xs, ns)) (s : Nat) (hgood : goodNs (.loc s) ns = true) :
 StepOK P cx o a w (.arr (.loc s)) (St.fresh { st with L := rmAll ns st.L } s (obX mx e (P.cellsOf e) xs)) := by
 obtain ⟨r1, r2, cs', r3, r4, r5, r6, r7⟩ := run_buildSlice_ h ho hu h0 hzo hc hsz
 obtain ⟨p1, f, p2⟩ := packEs_sound h.core (by omega) _ _ hp (goodNs_get hgood).2.2.1 hsz r1
 rw [List.length_map] at p1 p2
 have hl : xs.length = len := by omega
 obtain ⟨ρ', g1, g2⟩ := h.freshOwn s (mx := mx) hgood (e := e) (es := xs) cs' len (by omega) (by omega) r5 r4 r6 f (fun i j hi hj => by
  rw [r7 i j (by omega) hj]
  exact p2 i j (by omega) hj)
 refine .inl ⟨_, _, ρ', S, .inl r3, g1, ?_⟩
 have : VD ρ' S (w.alloc (.cells cs' e)) (.arr (.loc s)) (ρ' (.loc s)).tip := .arr (by rw [g2]; rfl)
 rw [g2, hl] at this
 exact this
theorem ok_makeOwn (h : Rel cx ρ S st a w) {t e : TypeId} {l c : Operand} (ho : o.op = .makeSlice t l c) (hu : P.underlying t = some (.slice e)) {n m : Int} (hl : opd P st 0 l = .p (.int .i64 n)) (hc : opd P st 0 c = .p (.int .i64 m)) (h0 : P.cellsOf e ≠ 0)
 (hnm : 0 ≤ n ∧ n ≤ m ∧ m.toNat * P.bytesOf e ≤ LIM ∧ P.bytesOf e ≠ 0) {zs : List Dv} (hz : zeroD P e = some zs) (hzl : zs.length = P.cellsOf e) {xs : List Pd} {mx : Bool} (hp : packs mx st.L st.O (rowTs P 8 e) zs = some (xs, [])) (s : Nat) :
 StepOK P cx o a w (.arr (.loc s)) (st.fresh s (obX mx e (P.cellsOf e) (List.replicate n.toNat xs))) := by
 obtain ⟨z, C, r1, r2, r3, r4, r5, r6, r7⟩ := run_makeSlice_ h ho hu hl hc h0 hnm hz hzl
 obtain ⟨f, hf⟩ := packs_sound h.core zs _ (fun j => z.cells.getD j undef) hp rfl (fun j hj => r1 ρ S w j hj)
 have hempty : ∀ k, ¬ OwnSet st.L st.O ρ [] k := fun k ⟨n, q, _⟩ => by cases q
 obtain ⟨ρ', g1, g2⟩ := h.freshOwn s (mx := mx) (ns := []) rfl (e := e) (es := List.replicate n.toNat xs) C m.toNat (by omega) (by rw [List.length_replicate]; exact r4) r5 r3 r6 (fun _ => 0) (fun i j hi hj => by
  rw [List.length_replicate] at hi
  rw [r7 i j (by omega) hj]
  have e1 : (List.replicate n.toNat xs).getD i [] = xs := by simp [List.getD_eq_getElem?_getD, hi]
  rw [e1]
  exact (hf j (by omega)).mono fun k hk => absurd hk.1 (hempty k))
 refine .inl ⟨_, _, ρ', S, .inl r2, g1, ?_⟩
 have : VD ρ' S (w.alloc (.cells C e)) (.arr (.loc s)) (ρ' (.loc s)).tip := .arr (by rw [g2]; rfl)
 rw [g2, List.length_replicate] at this
 exact this
end Go.Proofs.YtmnoibkdmeajpaaGreat.Dm
