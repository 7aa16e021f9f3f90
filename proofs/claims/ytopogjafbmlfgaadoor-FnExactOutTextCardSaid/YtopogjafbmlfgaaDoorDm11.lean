/- The machine over plain data and memory: append. -/
import Derived.Test.YtopogjafbmlfgaaDoorDm10
namespace Go.Proofs.YtopogjafbmlfgaaDoor.Dm
open Go.RowKit
set_option linter.unusedVariables false
set_option linter.unusedSimpArgs false
variable {P : Program} {cx : Cx} {ρ : Nm → Rz} {S : Nat → Nat → Prop} {w : World} {st : St} {a : Act} {o : Oper} {d : Dv}

/-- What append does to a row of one's own: what it leads to; all that stays. -/
theorem append_own {t e : TypeId} {i : TypeInfo} {z : Value} {ty : TypeId} (ht : P.underlying t = some (.slice e)) (hi : P.info? e = some i) (hz : i.zero = some z) (hzs : z.cells.size = i.size) (hsz : 0 < i.size)
    (v : Value) (n : Nat) (xs : List Value) (hown : w.ownsRow 0 e i.size v n xs) (ao : Option Addr) (m c : Nat) (hmc : m ≤ c) (news : List Value) (hl : news.length = m * i.size) (hao : 0 < m → ∃ ad, ao = some ad ∧ ∀ j u, news[j]? = some u → w.cell? (ad.add j) = some u) (h1 : ∀ u ∈ news, u.oneCell' = true)
    (h63 : n + m ≤ maxLen) (hbytes : (n + m) * i.bytes ≤ 140737488355328) :
    ∃ v' w', (Builtin.append_ #[t, t] ty #[v, .slice ao m c]).run P w = .ok v' w' ∧ w'.ownsRow 0 e i.size v' (n + m) (xs ++ news) ∧ (v'.ownBlock = v.ownBlock ∨ v'.ownBlock = some w.heap.size) ∧ v'.oneCell' = true ∧
      w.heap.size ≤ w'.heap.size ∧ w'.os = w.os ∧ w'.tape = w.tape ∧ w'.output = w.output ∧ (∀ b, b < w.heap.size → v.ownBlock ≠ some b → w'.heap[b]? = w.heap[b]?) ∧
      ∀ b k, v.ownBlock = some b → k < n * i.size → w'.cell? ⟨b, k, none⟩ = w.cell? ⟨b, k, none⟩ := by
  by_cases hm0 : m = 0
  · -- nothing comes
    subst hm0
    have hn0 : news = [] := List.eq_nil_of_length_eq_zero (by simpa using hl)
    subst hn0
    obtain ⟨a0, cap, ev, hcap, _, _⟩ := own_cells hown
    refine ⟨v, w, ?_, by simpa using hown, .inl rfl, by rw [ev]; rfl, Nat.le_refl _, rfl, rfl, rfl, fun _ _ _ => rfl, fun _ _ _ _ => rfl⟩
    subst ev
    have hfc : (Builtin.firstCells i.size 0 (.slice ao 0 c)).run P w = .ok #[] w := by
      cases ao <;> simp [Builtin.firstCells, loadCells, loadCellsFrom]
    have hst : ∀ ad : Addr, (storeCells ad [] : Sem Unit).run P w = .ok () w := fun ad => rfl
    cases a0 <;> simp [Builtin.append_, run_underlying ht, sizeOf, typeInfo, hi, Builtin.lenOf, hcap, hfc, storeCells]
  · obtain ⟨ad, rfl, hnews⟩ := hao (by omega)
    obtain ⟨v', w', r1, r2, r3, r4, r5⟩ := run_append_own_at (P := P) w 0 t ty e i z i.size i.bytes ht hi hz rfl rfl hzs hsz v n xs hown ad m c news hl hnews h1 h63 hbytes (Nat.zero_le _)
    obtain ⟨a0', cap', ev', _, _, _⟩ := own_cells r2
    refine ⟨v', w', r1, r2, r5, by rw [ev']; rfl, r3.size, r3.os, r3.tape, r3.output, fun b hb hne => r3.block b hb (fun q => hne q.symm), fun b k hb hk => ?_⟩
    -- the elements that were there
    rcases hown.2 with ⟨rfl, rfl⟩ | ⟨g, cap, cur, rfl, _, hg, hnc, hcm, hcs, htake⟩
    · cases hb
    · have hbg : b = g := by simpa [Value.ownBlock] using hb.symm
      subst hbg
      by_cases hroom : n + m ≤ cap
      · have hfit : n * i.size + news.length ≤ cur.size := by rw [hl, hcs, ← Nat.add_mul]; exact Nat.mul_le_mul_right _ hroom
        have hr := run_append_room (P := P) w t ty e i ht hi b n cap cur hg ad m c news hl hnews h1 hroom hfit
        rw [hr] at r1
        injection r1 with _ r1
        subst r1
        have hcl : cur.toList.length = cur.size := by simp
        rw [cell_of_row _ b k _ e (0, 0) (setRow_heap w b cur _ e (0, 0) hg), cell_of_row w b k cur e (0, 0) hg]
        rw [List.getElem?_toArray, List.append_assoc, List.getElem?_append_left (by rw [List.length_take]; omega), List.getElem?_take, if_pos hk]
        simp
      · have holds : ∀ j u, xs[j]? = some u → w.cell? ((⟨b, 0, none⟩ : Addr).add j) = some u := hown.cells (g := b) rfl
        have hsmall : n + m ≤ 9223372036854775807 := by simp only [maxLen] at h63; omega
        have hr := run_append_grow (P := P) w t ty e i z ht hi hz ⟨b, 0, none⟩ n cap xs hown.1 holds ad m c news hl hnews (by omega) (by omega) (growslice_fits (by omega) hbytes)
        rw [hr] at r1
        injection r1 with _ r1
        subst r1
        exact cell_heap (heap_alloc_old w.drew _ b (Array.getElem?_eq_some_iff.1 hg).1)
/-- the cells that a viewed row holds, one behind the other -/
theorem flat_cells {s : Nat} {es : List (List Pd)} {v : Value} (h : VP S w (.sl s es) v) (hs : 0 < s) : ∃ (ao : Option Addr) (c : Nat) (news : List Value), v = .slice ao es.length c ∧ es.length ≤ c ∧ news.length = es.length * s ∧ (0 < es.length → ∃ ad, ao = some ad ∧ ∀ j u, news[j]? = some u → w.cell? (ad.add j) = some u) ∧ (∀ u ∈ news, u.oneCell' = true) ∧
    ∀ i j, i < es.length → j < s → VP S w ((es.getD i []).getD j .undef) (news.getD (i * s + j) undef) := by
  cases h with
  | @sl _ _ a0 len cap ad vals g1 g2 g3 g4 g5 =>
    subst g1
    have hdiv : ∀ k, k < es.length * s → k / s < es.length ∧ k % s < s := fun k hk => ⟨Nat.div_lt_of_lt_mul (by rw [Nat.mul_comm]; exact hk), Nat.mod_lt _ hs⟩
    refine ⟨a0, cap, (List.range (es.length * s)).map fun k => vals (k / s) (k % s), rfl, g2, by simp, fun hp => ⟨ad, (g3 hp).1, fun j u hj => ?_⟩, fun u hu => ?_, fun i j hi hj => ?_⟩
    · have hj' : j < es.length * s := by
        have := (List.getElem?_eq_some_iff.1 hj).1
        simpa using this
      rw [List.getElem?_map, List.getElem?_range hj'] at hj
      simp only [Option.map_some] at hj
      injection hj with hj; subst hj
      obtain ⟨d1, d2⟩ := hdiv j hj'
      have := (g4 _ _ d1 d2).2.1
      rw [add_eq (g3 hp).2]
      rw [Nat.add_assoc, Nat.div_add_mod'] at this
      exact this
    · rw [List.mem_map] at hu
      obtain ⟨k, hk, rfl⟩ := hu
      rw [List.mem_range] at hk
      obtain ⟨d1, d2⟩ := hdiv k hk
      exact (g4 _ _ d1 d2).2.2
    · have hlt : i * s + j < es.length * s := by
        have : i * s + s ≤ es.length * s := by rw [← Nat.succ_mul]; exact Nat.mul_le_mul_right _ hi
        omega
      have hd : (i * s + j) / s = i := by rw [Nat.add_comm, Nat.add_mul_div_right _ _ hs, Nat.div_eq_of_lt hj, Nat.zero_add]
      have hm : (i * s + j) % s = j := by rw [Nat.add_comm, Nat.add_mul_mod_self_right, Nat.mod_eq_of_lt hj]
      have e1 : ((List.range (es.length * s)).map fun k => vals (k / s) (k % s)).getD (i * s + j) undef = vals i j := by
        rw [List.getD_eq_getElem?_getD, List.getElem?_map, List.getElem?_range hlt]
        simp only [Option.map_some, Option.getD_some, hd, hm]
      rw [e1]
      exact g5 i j hi hj
theorem ok_append (h : Rel cx ρ S st a w) {c : Call} (ho : o.op = .call c) (hc : c.callee = .builtin .append) {x y : Operand} {t : TypeId} (hargs : c.args.toList = [x, y]) (hts : c.argTypes.toList = [t, t]) {s : Nat} {q : Dv × St}
    (hd : appendD P st s t (opd P st t x) (opd P st t y) pr = some q) : StepOK P cx o a w q.1 q.2 := by
  have hvx := opd_rel (P := P) h t x
  have hvy := opd_rel (P := P) h t y
  generalize hex : a.eval x = vx at hvx
  generalize hey : a.eval y = vy at hvy
  have hargs' : c.args = #[x, y] := Array.ext' (by simpa using hargs)
  have hts' : c.argTypes = #[t, t] := Array.ext' (by simpa using hts)
  have run : ∀ v w', (Builtin.append_ #[t, t] o.type #[vx, vy]).run P w = .ok v w' → (execOp a.eval o).run P w = .ok (.value v) w' := by
    intro v w' hv
    unfold execOp; rw [ho]; dsimp only
    simp only [resolve, hc, hargs', hts', List.map_toArray, List.map_cons, List.map_nil, hex, hey, Sem.run_bind, Sem.run_pure, Result.andThen_ok, invoke, builtin, hv]
  unfold appendD at hd
  split at hd
  · rename_i e hu
    split at hd
    · cases hd
    · rename_i hcond
      have hcz : P.cellsOf e ≠ 0 := fun q => hcond (.inl q)
      have hbz : P.bytesOf e ≠ 0 := fun q => hcond (.inr (.inl q))
      have hzo : zeroOK P e ≠ false := fun q => hcond (.inr (.inr q))
      obtain ⟨i, hi, hsi, hbi⟩ := info_of_cells hcz
      obtain ⟨z, hz, hzs⟩ : ∃ z, i.zero = some z ∧ z.cells.size = i.size := by
        unfold zeroOK at hzo
        rw [hi] at hzo
        dsimp only at hzo
        cases hz : i.zero with
        | none => rw [hz] at hzo; exact absurd rfl hzo
        | some z =>
          rw [hz] at hzo
          refine ⟨z, rfl, ?_⟩
          simpa using hzo
      split at hd
      · rename_i yv L O hv
        obtain ⟨ys, hys, hd⟩ := Option.bind_eq_some_iff.1 hd
        obtain ⟨S', q1, q2, q3⟩ := oneCell_of_view1 h.core hvy hv
        rw [asSl_eq hys] at q3
        obtain ⟨ao, cc, news, ev, hcc, hnl, hao, hone, hvals⟩ := flat_cells q3 (by omega)
        have h' : Rel cx ρ S' ⟨st.T, L, O⟩ a w := h.core_ q1 q2
        have hbound : ∀ k : Nat, k * P.bytesOf e ≤ LIM → k ≤ maxLen := fun k hk => by
          have : k * 1 ≤ k * P.bytesOf e := Nat.mul_le_mul_left _ (by omega)
          unfold LIM at hk
          exact maxLen_big (by omega)
        -- what the new row holds
        have rows : ∀ (es : List (List Pd)) (xs : List Value) (v' : Value) (w' : World) (ro : Bool) (b : Nat) (ρ' : Nm → Rz), xs.length = es.length * P.cellsOf e → (∀ u ∈ xs, u.oneCell' = true) → (∀ i j, i < es.length → j < P.cellsOf e → VP S' w ((es.getD i []).getD j .undef) (xs.getD (i * P.cellsOf e + j) undef)) →
            w'.ownsRow 0 e (P.cellsOf e) v' (es.length + ys.length) (xs ++ news) → (∀ b o, S' b o → w'.cell? ⟨b, o, none⟩ = w.cell? ⟨b, o, none⟩) → ObRel ρ' S' w' (.arr e (P.cellsOf e) b ro (es ++ ys)) ⟨v'.ownBlock, v'⟩ := by
          intro es xs v' w' ro b ρ' hxl hx1 hxv hown hcell
          refine ⟨xs ++ news, by rw [List.length_append]; exact hown, rfl, by omega, fun u hu => ?_, fun i j hi hj => ?_⟩
          · rcases List.mem_append.1 hu with hu | hu
            · exact hx1 u hu
            · exact hone u hu
          · rw [List.length_append] at hi
            by_cases hlt : i < es.length
            · have hlt' : i * P.cellsOf e + j < es.length * P.cellsOf e := by
                have : i * P.cellsOf e + P.cellsOf e ≤ es.length * P.cellsOf e := by rw [← Nat.succ_mul]; exact Nat.mul_le_mul_right _ hlt
                omega
              have e1 : (es ++ ys).getD i [] = es.getD i [] := by simp only [List.getD_eq_getElem?_getD, List.getElem?_append_left hlt]
              have e2 : (xs ++ news).getD (i * P.cellsOf e + j) undef = xs.getD (i * P.cellsOf e + j) undef := by
                simp only [List.getD_eq_getElem?_getD]
                rw [List.getElem?_append_left (by omega)]
              rw [e1, e2]
              exact (hxv i j hlt hj).keep (fun _ _ q => q) hcell
            · have e1 : (es ++ ys).getD i [] = ys.getD (i - es.length) [] := by simp only [List.getD_eq_getElem?_getD, List.getElem?_append_right (Nat.le_of_not_lt hlt)]
              have hmul : es.length * P.cellsOf e ≤ i * P.cellsOf e := Nat.mul_le_mul_right _ (by omega)
              have e2 : (xs ++ news).getD (i * P.cellsOf e + j) undef = news.getD ((i - es.length) * P.cellsOf e + j) undef := by
                simp only [List.getD_eq_getElem?_getD]
                rw [List.getElem?_append_right (by omega), hxl, Nat.sub_mul]
                congr 2
                omega
              rw [e1, e2]
              exact (hvals _ j (by omega) hj).keep (fun _ _ q => q) hcell
        -- the name m, its row before, its row now
        have fin : ∀ (m : Nm) (es : List (List Pd)) (ro : Bool) (b : Nat) (xs : List Value), ((getOb L O m = .arr e (P.cellsOf e) b ro es ∧ vx = (ρ m).tip ∧ (ρ m).blk = (ρ m).tip.ownBlock) ∨ (vx = .slice none 0 0 ∧ es = [] ∧ ∀ i, m ≠ .out i)) → w.ownsRow 0 e (P.cellsOf e) vx es.length xs → (∀ u ∈ xs, u.oneCell' = true) →
            (∀ i j, i < es.length → j < P.cellsOf e → VP S' w ((es.getD i []).getD j .undef) (xs.getD (i * P.cellsOf e + j) undef)) → (es.length + ys.length) * P.bytesOf e ≤ LIM →
            q = (.arr m, ⟨st.T.map (scrub m), setL (L.map (scrubOb m)) m (.arr e (P.cellsOf e) b ro (es ++ ys)), setO (O.map (scrubOb m)) m (.arr e (P.cellsOf e) b ro (es ++ ys))⟩) → StepOK P cx o a w q.1 q.2 := by
          intro m es ro b xs hm hown hx1 hxv hlim hq
          subst hq
          obtain ⟨v', w', r1, r2, r3, r4, r5, r6, r7, r8, r9, r10⟩ := append_own (P := P) (w := w) (ty := o.type) hu hi hz hzs (by omega) vx es.length xs (by rw [hsi]; exact hown) ao ys.length cc hcc news (by rw [hsi]; exact hnl) hao hone (hbound _ hlim) (by rw [hbi]; unfold LIM at hlim; exact hlim)
          rw [← ev] at r1
          rw [hsi] at r2 r10
          have hcell : ∀ b' o', S' b' o' → w'.cell? ⟨b', o', none⟩ = w.cell? ⟨b', o', none⟩ := by
            intro b' o' hS
            have hlt := q2.sb b' o' hS
            by_cases hb : vx.ownBlock = some b'
            · rcases hm with ⟨hm1, hm2, hm3⟩ | ⟨hm1, _⟩
              · obtain ⟨e', s', bb, es', p1, p2⟩ := q2.ss m b' o' (by rw [hm1]; exact fun q => (by cases q)) (by rw [hm3, ← hm2]; exact hb) hS
                rw [hm1] at p1
                injection p1 with p1 p3 p4 p5 p6
                subst p3 p6
                exact r10 b' o' hb p2
              · rw [hm1] at hb; cases hb
            · exact cell_heap (r9 b' hlt hb)
          refine .inl ⟨v', w', fun n => if n = m then ⟨v'.ownBlock, v'⟩ else ρ n, S', .inl (run v' w' r1), ⟨q2.put_ m _ ⟨v'.ownBlock, v'⟩ r5 r6 r7 r8 (fun b' hb hne => ?_) hcell (rows es xs v' w' ro b _ hown.1 hx1 hxv r2 hcell) (fun b' hb => ?_) (fun b' o' hb hS => ?_) (fun i hi => ?_), ?_, h.df, fun t' => ?_⟩, ?_⟩
          · refine r9 b' hb (fun hq => hne ?_)
            rcases hm with ⟨hm1, hm2, hm3⟩ | ⟨hm1, _⟩
            · exact ⟨by rw [hm1]; exact fun q => (by cases q), by rw [hm3, ← hm2]; exact hq⟩
            · rw [hm1] at hq; cases hq
          · have hb : v'.ownBlock = some b' := hb
            rcases r3 with r3 | r3
            · right
              rcases hm with ⟨hm1, hm2, hm3⟩ | ⟨hm1, _⟩
              · exact ⟨by rw [hm1]; exact fun q => (by cases q), by rw [hm3, ← hm2, ← r3]; exact hb⟩
              · rw [hm1] at r3; rw [r3] at hb; cases hb
            · left
              rw [r3] at hb
              injection hb with hb
              subst hb
              obtain ⟨_, _, _, _, _, hg⟩ := own_cells r2
              exact ⟨Nat.le_refl _, (hg _ r3).2.1⟩
          · have hb : v'.ownBlock = some b' := hb
            rcases r3 with r3 | r3
            · rcases hm with ⟨hm1, hm2, hm3⟩ | ⟨hm1, _⟩
              · obtain ⟨e', s', bb, es', p1, p2⟩ := q2.ss m b' o' (by rw [hm1]; exact fun q => (by cases q)) (by rw [hm3, ← hm2, ← r3]; exact hb) hS
                rw [hm1] at p1
                injection p1 with p1 p3 p4 p5 p6
                subst p3 p5 p6
                refine ⟨_, _, _, _, rfl, ?_⟩
                rw [List.length_append, Nat.add_mul]
                omega
              · rw [hm1] at r3; rw [r3] at hb; cases hb
            · rw [r3] at hb
              injection hb with hb
              have := q2.sb b' o' hS
              omega
          · rcases hm with ⟨hm1, _⟩ | ⟨_, _, hm1⟩
            · rw [hm1]; rfl
            · exact absurd hi (hm1 i)
          · show a.tmps.size = (st.T.map _).length
            exact h.nt
          · show VD _ _ _ ((st.T.map (scrub m)).getD t' ud) _
            rw [Tm.getD_map rfl]
            exact ((h'.tm t').keep (ρ' := ρ) (fun _ => rfl) (fun _ _ q => q) hcell).scrub_ (fun n hn => if_neg hn)
          · have : VD (fun n => if n = m then (⟨v'.ownBlock, v'⟩ : Rz) else ρ n) S' w' (.arr m) ((fun n => if n = m then (⟨v'.ownBlock, v'⟩ : Rz) else ρ n) m).tip := .arr (by simp; exact r4)
            simpa using this
        split at hd
        · rename_i s' hxe
          rw [hxe] at hvx
          cases hvx
          split at hd
          · rename_i hlim
            injection hd with hd
            refine fin (.loc s) [] false (P.bytesOf e) [] (.inr ⟨rfl, rfl, fun _ q => nomatch q⟩) (World.ownsRow_nil w 0 e _) (fun u hu => by cases hu) (fun i j hi => by cases hi) (by simpa using hlim) ?_
            rw [← hd]
            rfl
          · cases hd
        · rename_i m hxe
          rw [hxe] at hvx
          have more : appendD.more P st pr L O (P.cellsOf e) e m ys = some q → StepOK P cx o a w q.1 q.2 := by
            intro hmore
            unfold appendD.more at hmore
            split at hmore
            · rename_i e' s' b ro es hm
              split at hmore
              · rename_i hes
                obtain ⟨rfl, rfl⟩ := hes
                split at hmore
                · rename_i hlim
                  injection hmore with hmore
                  have hob := q2.ob m
                  rw [hm] at hob
                  obtain ⟨xs, p1, p2, p3, p4, p5⟩ := hob
                  cases hvx
                  exact fin m es ro b xs (.inl ⟨hm, rfl, p2⟩) p1 p4 p5 hlim hmore.symm
                · cases hmore
              · cases hmore
            · cases hmore
          split at hd
          · split at hd
            · cases hd
            · exact more hd
          · exact more hd
        · cases hd
      · cases hd
  · cases hd
end Go.Proofs.YtopogjafbmlfgaaDoor.Dm
