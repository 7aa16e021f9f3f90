/- The machine over plain data and memory: rows whose parts are rows of one's own and grow where they stand. -/
import Derived.Test.YtabomkmgnkjjfaaDm13
namespace Go.Proofs.Ytabomkmgnkjjfaa.Dm
set_option linter.unusedSectionVars false
open Go.RowKit
set_option linter.unusedVariables false
set_option linter.unusedSimpArgs false
variable [Cfg] {P : Program} {cx : Cx} {ρ : Nm → Rz} {S : Nat → Nat → Prop} {w : World} {st st' : St} {a : Act} {o : Oper} {d : Dv}

/-- blocks, headers and the cells that lead on are the same -/
def SameR (ρ ρ' : Nm → Rz) : Prop := ∀ x, (ρ' x).blk = (ρ x).blk ∧ (ρ' x).tip = (ρ x).tip ∧ (ρ' x).cl = (ρ x).cl
theorem SameR.refl (ρ : Nm → Rz) : SameR ρ ρ := fun _ => ⟨rfl, rfl, rfl⟩
theorem SameR.trans {ρ ρ' ρ'' : Nm → Rz} (h : SameR ρ ρ') (k : SameR ρ' ρ'') : SameR ρ ρ'' := fun x => ⟨(k x).1.trans (h x).1, (k x).2.1.trans (h x).2.1, (k x).2.2.trans (h x).2.2⟩
theorem sameR_at (ρ : Nm → Rz) (m : Nm) (fp : Nat → Prop) : SameR ρ (fun x => if x = m then ⟨(ρ m).blk, (ρ m).tip, fp, (ρ m).cl⟩ else ρ x) := fun x => by
  by_cases e : x = m
  · subst e; simp
  · simp [e]
section
variable {L O : List Ob}
theorem own_row (h : Core cx ρ S L O w) {n : Nm} {e z : Nat} {es : List (List Pd)} (hn : getOb L O n = .marr e z es none ∨ getOb L O n = .oarr e z es ∨ ∃ b, getOb L O n = .arr e z b false es) :
    VO S w (OwnAt L O ρ n) (.ow e z es) (ρ n).tip ∧ ((ρ n).tip.oneCell' = true) := by
  have hob := h.ob n
  rcases hn with hn | hn | ⟨b, hn⟩ <;> rw [hn] at hob
  · obtain ⟨o1, o2, o3, o4⟩ := hob
    exact ⟨o3.mono fun k hk => .inl ⟨by rw [hn]; rfl, hk⟩, o2⟩
  · obtain ⟨o1, o2, o3, o4⟩ := hob
    exact ⟨(o3.toX (mx := true)).outX.mono fun k hk => .inl ⟨by rw [hn]; rfl, hk⟩, o2⟩
  · obtain ⟨xs, h1, h2, h3, h4, h5⟩ := hob
    refine ⟨.ow xs (fun _ => 0) h3 h1 (fun g q => .inr ⟨_, _, _, _, hn, h2.trans q⟩) h4 fun i j hi hj => .p (h5 i j hi hj), ?_⟩
    rcases h1.2 with ⟨e1, _⟩ | ⟨_, _, _, e1, _⟩ <;> rw [e1] <;> rfl
/-- the block of a row that has elements -/
theorem row_blk {e s n : Nat} {v : Value} {xs : List Value} (h : w.ownsRow 0 e s v n xs) (hn : 0 < n) : ∃ g, v.ownBlock = some g := by
  obtain ⟨ao, cap, ev, hcap, ha, hg⟩ := own_cells h
  cases ao with
  | none => have := ha rfl; omega
  | some ad => exact ⟨ad.block, by rw [ev]; rfl⟩
/-- a marr's new state where memory is as it was -/
theorem Core.turn (h : Core cx ρ S L O w) {m : Nm} {e z : Nat} {es : List (List Pd)} {lk : Option (Nat × Nat × Nm)} (hm : getOb L O m = .marr e z es lk) {ns : List Nm} (hns : ∀ n ∈ ns, isLoc n = true) (hmn : m ∉ ns) (fp : Nat → Prop) {es' : List (List Pd)} {lk' : Option (Nat × Nat × Nm)}
    (h3 : VO S w fp (.ow e z es') (ρ m).tip) (h4 : ∀ j off n, lk' = some (j, off, n) → j < es'.length ∧ off < z ∧ ∀ b, (ρ m).blk = some b → w.cell? ⟨b, j * z + off, none⟩ = some (ρ n).tip) (hfp : ∀ k, fp k → ∃ n, (n = m ∨ n ∈ ns) ∧ OwnAt L O ρ n k) :
    Core cx (fun x => if x = m then ⟨(ρ m).blk, (ρ m).tip, fp, (ρ m).cl⟩ else ρ x) S (setL (rmAll ns L) m (.marr e z es' lk')) (setO O m (.marr e z es' lk')) w := by
  have hob := h.ob m
  rw [hm] at hob
  obtain ⟨o1, o2, o3, o4⟩ := hob
  have hs := sameR_at ρ m fp
  have hb : ∀ b, (ρ m).blk = some b → fp b := fun b q => by
    cases h3 with
    | p h3 => cases h3
    | ow xs f g0 g1 g2 g3 g4 => exact g2 b (o1.symm.trans q)
  have := h.putR (m := m) (w' := w) (fun i q => by subst q; rw [hm]; rfl) hns hmn ⟨(ρ m).blk, (ρ m).tip, fp, (ρ m).cl⟩ (.marr e z es' lk') rfl hb id (fun w o z q => q.fpchg hs) rfl (fun _ q => q) (fun _ => rfl) (fun _ => rfl) (fun _ _ _ _ _ q => q) (Nat.le_refl _) rfl rfl rfl (fun _ _ _ => rfl) (fun _ _ _ => rfl)
    ⟨o1, o2, h3, fun j off n q => ⟨(h4 j off n q).1, (h4 j off n q).2.1, fun b q' => by rw [(hs n).2.1]; exact (h4 j off n q).2.2 b q'⟩⟩ (fun k q => .inr (hfp k q))
  rw [List.map_id, List.map_id] at this
  exact this
theorem Core.settle_ (h : Core cx ρ S L O w) {m : Nm} {n : Nat} {e z j off : Nat} {es : List (List Pd)} (hm : getOb L O m = .marr e z es (some (j, off, .loc n))) (hne : m ≠ .loc n) {e' z' : Nat} {es' : List (List Pd)}
    (hn : VO S w (OwnAt L O ρ (.loc n)) (.ow e' z' es') (ρ (.loc n)).tip) :
    ∃ ρ' : Nm → Rz, SameR ρ ρ' ∧ Core cx ρ' S (setL (setL L (.loc n) .none) m (.marr e z (setCs es j z off 1 [.ow e' z' es']) none)) (setO O m (.marr e z (setCs es j z off 1 [.ow e' z' es']) none)) w := by
  have hob := h.ob m
  rw [hm] at hob
  obtain ⟨o1, o2, o3, o4⟩ := hob
  obtain ⟨p1, p2, p3⟩ := o4 j off _ rfl
  have hO : isO (getOb L O m) = true := by rw [hm]; rfl
  have hlm : getOb L O m ≠ .none := by rw [hm]; exact fun q => by cases q
  cases o3 with
  | p o3 => cases o3
  | ow xs f g0 g1 g2 g3 g4 =>
  obtain ⟨g, hg⟩ := row_blk g1 (by omega)
  obtain ⟨_, _, _, _, _, hcl⟩ := own_cells g1
  have hx : xs.getD (j * z + off) undef = (ρ (.loc n)).tip := by
    have q1 := (hcl g hg).2.2 _ (idx_lt p1 p2)
    have q2 := p3 g (o1.trans hg)
    rw [q1] at q2
    injection q2
  have hdis : ∀ k, OwnAt L O ρ (.loc n) k → ¬ (ρ m).fp k := fun k q => ((h.ownAt q).2 m hlm hne).2 hO
  obtain ⟨hh, fa, fb⟩ := two_parts (A := OwnAt L O ρ (.loc n)) (B := (ρ m).fp) hdis (fun _ => j * z + off) f
  refine ⟨_, sameR_at ρ m (fun k => (ρ m).fp k ∨ OwnAt L O ρ (.loc n) k), h.turn hm (ns := [.loc n]) (fun n q => by rw [List.mem_singleton.1 q]; rfl) (fun q => hne (List.mem_singleton.1 q)) _ ?_ (fun j off n q => nomatch q) (fun k q => ?_)⟩
  · refine .ow xs hh g0 (by rw [setCs_len]; exact g1) (fun b q => .inl (g2 b q)) g3 fun i k hi hk => ?_
    rw [setCs_len] at hi
    rw [setCs_get p1 (by omega) i k hk]
    split
    · rename_i hc
      obtain ⟨rfl, c1, c2⟩ := hc
      have : k = off := by omega
      subst this
      rw [Nat.sub_self, hx]
      exact hn.mono fun k' hk' => ⟨.inr hk', fun q => hdis k' hk' (g2 k' q), by rw [fa k' hk']⟩
    · exact (g4 i k hi hk).mono fun k' hk' => ⟨.inl hk'.1, hk'.2.1, by rw [fb k' hk'.1]; exact hk'.2.2⟩
  · rcases q with q | q
    · exact ⟨m, .inl rfl, .inl ⟨hO, q⟩⟩
    · exact ⟨.loc n, .inr (List.mem_singleton.2 rfl), q⟩
theorem Core.unlink (h : Core cx ρ S L O w) {m : Nm} {e z : Nat} {es : List (List Pd)} {lk : Option (Nat × Nat × Nm)} (hm : getOb L O m = .marr e z es lk) :
    ∃ ρ' : Nm → Rz, SameR ρ ρ' ∧ Core cx ρ' S (setL L m (.marr e z es none)) (setO O m (.marr e z es none)) w := by
  have hob := h.ob m
  rw [hm] at hob
  obtain ⟨o1, o2, o3, o4⟩ := hob
  exact ⟨_, sameR_at ρ m (ρ m).fp, h.turn hm (ns := []) (fun n q => by cases q) (fun q => by cases q) _ o3 (fun j off n q => nomatch q) fun k q => ⟨m, .inl rfl, .inl ⟨by rw [hm]; rfl, q⟩⟩⟩
end
theorem Rel.same {ρ' : Nm → Rz} {L O : List Ob} (h : Rel cx ρ S st a w) (hs : SameR ρ ρ') (hc : Core cx ρ' S L O w) : Rel cx ρ' S ⟨st.T, L, O⟩ a w := ⟨hc, h.nt, h.df, fun t => (h.tm t).fpchg hs⟩
theorem settle1_sound (h : Rel cx ρ S st a w) (m : Nm) : ∃ ρ', SameR ρ ρ' ∧ Rel cx ρ' S (settle1 m st) a w := by
  unfold settle1
  split
  · rename_i e z es j off n hm
    have drop : ∃ ρ', SameR ρ ρ' ∧ Rel cx ρ' S { st with L := setL st.L m (.marr e z es none), O := setO st.O m (.marr e z es none) } a w := by
      obtain ⟨ρ', q1, q2⟩ := h.core.unlink hm
      exact ⟨ρ', q1, h.same q1 q2⟩
    by_cases hne : m = .loc n
    · rw [if_pos hne]; exact drop
    · rw [if_neg hne]
      have go : ∀ {e' z' : Nat} {es' : List (List Pd)}, (getOb st.L st.O (.loc n) = .marr e' z' es' none ∨ getOb st.L st.O (.loc n) = .oarr e' z' es' ∨ ∃ b, getOb st.L st.O (.loc n) = .arr e' z' b false es') →
          ∃ ρ', SameR ρ ρ' ∧ Rel cx ρ' S { st with L := setL (setL st.L (.loc n) .none) m (.marr e z (setCs es j z off 1 [.ow e' z' es']) none), O := setO st.O m (.marr e z (setCs es j z off 1 [.ow e' z' es']) none) } a w := by
        intro e' z' es' hn
        obtain ⟨ρ', q1, q2⟩ := h.core.settle_ hm hne (own_row h.core hn).1
        exact ⟨ρ', q1, h.same q1 q2⟩
      split
      · rename_i e' z' es' hn; exact go (.inl hn)
      · rename_i e' z' es' hn; exact go (.inr (.inl hn))
      · rename_i e' z' b es' hn; exact go (.inr (.inr ⟨b, hn⟩))
      · exact drop
  · rename_i e z es j off n hm
    obtain ⟨ρ', q1, q2⟩ := h.core.unlink hm
    exact ⟨ρ', q1, h.same q1 q2⟩
  · exact ⟨ρ, .refl ρ, h⟩
theorem settle_sound : ∀ (k : Nat) (m : Nm) {ρ : Nm → Rz} {st : St} (h : Rel cx ρ S st a w), ∃ ρ', SameR ρ ρ' ∧ Rel cx ρ' S (settle k m st) a w
  | 0, m, ρ, st, h => settle1_sound h m
  | k + 1, m, ρ, st, h => by
    unfold settle
    split
    · rename_i n hn
      obtain ⟨ρ1, q1, h1⟩ := settle_sound k n h
      obtain ⟨ρ2, q2, h2⟩ := settle1_sound h1 m
      exact ⟨ρ2, q1.trans q2, h2⟩
    · exact ⟨ρ, .refl ρ, h⟩
theorem settles_sound : ∀ (ns : List Nm) {ρ : Nm → Rz} {st : St} (h : Rel cx ρ S st a w), ∃ ρ', SameR ρ ρ' ∧ Rel cx ρ' S (settles st ns) a w
  | [], ρ, st, h => ⟨ρ, .refl ρ, h⟩
  | n :: ns, ρ, st, h => by
    obtain ⟨ρ1, q1, h1⟩ := settle_sound 4 n h
    obtain ⟨ρ2, q2, h2⟩ := settles_sound ns h1
    exact ⟨ρ2, q1.trans q2, h2⟩
theorem settle1_T (m : Nm) (st : St) : (settle1 m st).T = st.T := by
  unfold settle1
  repeat' (first | rfl | split)
theorem settle_T : ∀ (k : Nat) (m : Nm) (st : St), (settle k m st).T = st.T
  | 0, m, st => settle1_T m st
  | k + 1, m, st => by
    unfold settle
    split
    · rw [settle1_T, settle_T k]
    · rfl
theorem settles_T : ∀ (ns : List Nm) (st : St), (settles st ns).T = st.T
  | [], st => rfl
  | n :: ns, st => by
    show (settles (settle 4 n st) ns).T = st.T
    rw [settles_T ns, settle_T]

/-! ### a part under a name of its own -/
theorem Core.unpack {L O : List Ob} (h : Core cx ρ S L O w) {m : Nm} {s : Nat} (hne : m ≠ .loc s) {e z j off : Nat} {es : List (List Pd)} (hm : getOb L O m = .marr e z es none) (hj : j < es.length) (hoff : off < z) {e' z' : Nat} {es' : List (List Pd)}
    (hc : (es.getD j []).getD off .undef = .ow e' z' es') : ∃ (ρ' : Nm → Rz) (g : Nat) (v : Value), (ρ m).blk = some g ∧ w.cell? ⟨g, j * z + off, none⟩ = some v ∧ v.oneCell' = true ∧ (ρ' (.loc s)).tip = v ∧
      (∀ x, x ≠ .loc s → (ρ' x).blk = (ρ x).blk ∧ (ρ' x).tip = (ρ x).tip ∧ (ρ' x).cl = (ρ x).cl) ∧
      Core cx ρ' S (setL (setL (L.map (scrubOb (.loc s))) m (.marr e z (setCs es j z off 1 [.undef]) (some (j, off, .loc s)))) (.loc s) (.marr e' z' es' none)) (setO (O.map (scrubOb (.loc s))) m (.marr e z (setCs es j z off 1 [.undef]) (some (j, off, .loc s)))) w := by
  have hob := h.ob m
  rw [hm] at hob
  obtain ⟨o1, o2, o3, o4⟩ := hob
  have hO : isO (getOb L O m) = true := by rw [hm]; rfl
  have hlm : getOb L O m ≠ .none := by rw [hm]; exact fun q => by cases q
  cases o3 with
  | p o3 => cases o3
  | ow xs f g0 g1 g2 g3 g4 =>
  obtain ⟨g, hg⟩ := row_blk g1 (by omega)
  obtain ⟨_, _, _, _, _, hcl⟩ := own_cells g1
  have hidx := idx_lt hj hoff
  have hcell := (hcl g hg).2.2 _ hidx
  have hone : (xs.getD (j * z + off) undef).oneCell' = true := by
    refine g3 _ ?_
    rw [List.getD_eq_getElem?_getD, List.getElem?_eq_getElem (by rw [g1.1]; exact hidx)]
    exact List.getElem_mem _
  have hrow := g4 j off hj hoff
  rw [hc] at hrow
  generalize hv : xs.getD (j * z + off) undef = v at hcell hone hrow
  let A : Nat → Prop := fun k => (ρ m).fp k ∧ (ρ m).tip.ownBlock ≠ some k ∧ f k = j * z + off
  let zp : Rz := ⟨v.ownBlock, v, A, (ρ m).cl⟩
  let zm : Rz := ⟨(ρ m).blk, (ρ m).tip, fun k => (ρ m).fp k ∧ ¬ A k, (ρ m).cl⟩
  let ρ' : Nm → Rz := fun x => if x = .loc s then zp else if x = m then zm else ρ x
  have r1 : ρ' (.loc s) = zp := if_pos rfl
  have r2 : ρ' m = zm := by show (if m = Nm.loc s then zp else if m = m then zm else ρ m) = zm; rw [if_neg hne, if_pos rfl]
  have r3 : ∀ x, x ≠ .loc s → x ≠ m → ρ' x = ρ x := fun x h1 h2 => by show (if x = Nm.loc s then zp else if x = m then zm else ρ x) = ρ x; rw [if_neg h1, if_neg h2]
  have hsm : ∀ x, x ≠ .loc s → (ρ' x).blk = (ρ x).blk ∧ (ρ' x).tip = (ρ x).tip ∧ (ρ' x).cl = (ρ x).cl := fun x hx => by
    by_cases e : x = m
    · rw [e, r2]; exact ⟨rfl, rfl, rfl⟩
    · rw [r3 x hx e]; exact ⟨rfl, rfl, rfl⟩
  generalize hL : setL (setL (L.map (scrubOb (.loc s))) m (.marr e z (setCs es j z off 1 [.undef]) (some (j, off, .loc s)))) (.loc s) (.marr e' z' es' none) = L2
  generalize hO2 : setO (O.map (scrubOb (.loc s))) m (.marr e z (setCs es j z off 1 [.undef]) (some (j, off, .loc s))) = O2
  have hOO : O2 = setO (setO (O.map (scrubOb (.loc s))) m (.marr e z (setCs es j z off 1 [.undef]) (some (j, off, .loc s)))) (.loc s) (.marr e' z' es' none) := by rw [← hO2]; rfl
  have gp : getOb L2 O2 (.loc s) = .marr e' z' es' none ∨ getOb L2 O2 (.loc s) = .none := by
    rw [← hL, hOO]
    rcases getOb_set (setL (L.map (scrubOb (.loc s))) m (.marr e z (setCs es j z off 1 [.undef]) (some (j, off, .loc s)))) (setO (O.map (scrubOb (.loc s))) m (.marr e z (setCs es j z off 1 [.undef]) (some (j, off, .loc s)))) (.loc s) (.loc s) (.marr e' z' es' none) with q | q
    · by_cases hl : getOb (setL (L.map (scrubOb (.loc s))) m (.marr e z (setCs es j z off 1 [.undef]) (some (j, off, .loc s)))) (setO (O.map (scrubOb (.loc s))) m (.marr e z (setCs es j z off 1 [.undef]) (some (j, off, .loc s)))) (.loc s) = .none
      · right; exact q.trans hl
      · left; exact getOb_self _ _ hl _
    · left; exact q.2
  have gm : getOb L2 O2 m = .marr e z (setCs es j z off 1 [.undef]) (some (j, off, .loc s)) := by
    rw [← hL, hOO, getOb_ne _ _ hne]
    refine getOb_self _ _ ?_ _
    rw [getOb_map L O (scrubOb_none _), hm]
    exact fun q => by cases q
  have gx : ∀ x, x ≠ .loc s → x ≠ m → getOb L2 O2 x = scrubOb (.loc s) (getOb L O x) := fun x h1 h2 => by
    rw [← hL, hOO, getOb_ne _ _ h1, getOb_ne _ _ h2, getOb_map L O (scrubOb_none _)]
  have lx : ∀ x, x ≠ .loc s → x ≠ m → getOb L2 O2 x ≠ .none → getOb L O x ≠ .none := fun x h1 h2 q q' => by
    rw [gx x h1 h2, q'] at q
    exact q rfl
  have ox : ∀ x, x ≠ .loc s → x ≠ m → isO (getOb L2 O2 x) = isO (getOb L O x) := fun x h1 h2 => by rw [gx x h1 h2, isO_scrub]
  have hA : ∀ k, A k → (ρ m).fp k := fun k q => q.1
  have hvA : ∀ k, v.ownBlock = some k → A k := fun k q => by
    cases hrow with
    | p hr => cases hr
    | ow ys f' q0 q1 q2 q3 q4 => exact q2 k q
  have hbm : ∀ b, (ρ m).blk = some b → (ρ m).fp b ∧ ¬ A b := fun b q => ⟨g2 b (o1.symm.trans q), fun q' => q'.2.1 (o1.symm.trans q)⟩
  refine ⟨ρ', g, v, o1.trans hg, hcell, hone, by rw [r1], hsm, ?_⟩
  refine ⟨fun x => ?_, fun x y b hl1 hl2 q1 q2 => ?_, fun x b o hl q hS => ?_, fun x b hl q => ?_, h.sb, h.s0, h.sn, h.fr, h.sk, h.ws, h.os, h.tape, h.output, fun i z q => ?_, fun x k ho q => ?_, fun x y k ho hl e q => ?_⟩
  · by_cases e1 : x = .loc s
    · subst e1
      rcases gp with q | q
      · rw [q, r1]
        exact ⟨rfl, hone, hrow, fun j off n q => nomatch q⟩
      · rw [q]; trivial
    · by_cases e2 : x = m
      · subst e2
        rw [gm, r2]
        refine ⟨o1, o2, .ow xs f g0 (by rw [setCs_len]; exact g1) (fun b q => hbm b (o1.trans q)) g3 fun i k hi hk => ?_, fun j' off' n' q => ?_⟩
        · rw [setCs_len] at hi
          rw [setCs_get hj (by omega) i k hk]
          split
          · rename_i hcc
            obtain ⟨rfl, c1, c2⟩ := hcc
            have : k = off := by omega
            subst this
            rw [Nat.sub_self]
            exact .p .undef
          · rename_i hcc
            refine (g4 i k hi hk).mono fun k' hk' => ⟨⟨hk'.1, fun q => hcc ?_⟩, hk'.2⟩
            have e9 : i * z + k = j * z + off := hk'.2.2.symm.trans q.2.2
            have hij : i = j := by
              rcases Nat.lt_trichotomy i j with q | q | q
              · have : i * z + z ≤ j * z := by rw [← Nat.succ_mul]; exact Nat.mul_le_mul_right _ q
                omega
              · exact q
              · have : j * z + z ≤ i * z := by rw [← Nat.succ_mul]; exact Nat.mul_le_mul_right _ q
                omega
            subst hij
            exact ⟨rfl, by omega, by omega⟩
        · injection q with q; injection q with q1 q2; injection q2 with q2 q3
          subst q1 q2 q3
          refine ⟨by rw [setCs_len]; exact hj, hoff, fun b q => ?_⟩
          have q : (ρ x).blk = some b := q
          rw [o1.trans hg] at q
          injection q with q
          subst q
          rw [r1]
          exact hcell
      · rw [gx x e1 e2]
        have q1 := (h.ob x).scrub_ (m := .loc s) (ρ' := fun n => if n = .loc s then zp else ρ n) fun n hn => if_neg hn
        rw [r3 x e1 e2]
        refine q1.fpchg fun n => ?_
        by_cases e3 : n = .loc s
        · subst e3; rw [r1]; simp
        · have := hsm n e3
          simp only [if_neg e3]
          exact this
  · have key : ∀ x y b, getOb L2 O2 x ≠ .none → getOb L2 O2 y ≠ .none → x = .loc s → (ρ' x).blk = some b → (ρ' y).blk = some b → x = y := by
      intro x y b hl1 hl2 e1 q1 q2
      subst e1
      rw [r1] at q1
      have hAb := hvA b q1
      by_cases e2 : y = .loc s
      · exact e2.symm
      · exfalso
        by_cases e3 : y = m
        · rw [e3, r2] at q2
          exact (hbm b q2).2 hAb
        · rw [r3 y e2 e3] at q2
          exact (h.fd m y b hO (lx y e2 e3 hl2) e3 hAb.1).1 q2
    by_cases e1 : x = .loc s
    · exact key x y b hl1 hl2 e1 q1 q2
    · by_cases e2 : y = .loc s
      · exact (key y x b hl2 hl1 e2 q2 q1).symm
      · rw [(hsm x e1).1] at q1
        rw [(hsm y e2).1] at q2
        refine h.ne x y b ?_ ?_ q1 q2
        · by_cases e3 : x = m
          · rw [e3]; exact hlm
          · exact lx x e1 e3 hl1
        · by_cases e3 : y = m
          · rw [e3]; exact hlm
          · exact lx y e2 e3 hl2
  · by_cases e1 : x = .loc s
    · exfalso
      subst e1
      rw [r1] at q
      exact (h.fp m b hO (hvA b q).1).2.2 o hS
    · by_cases e2 : x = m
      · exfalso
        subst e2
        rw [r2] at q
        exact (h.fp x b hO (hbm b q).1).2.2 o hS
      · rw [r3 x e1 e2] at q
        obtain ⟨e5, s5, bb, es5, p1, p2⟩ := h.ss x b o (lx x e1 e2 hl) q hS
        exact ⟨e5, s5, bb, es5, by rw [gx x e1 e2]; exact scrubOb_arr p1, p2⟩
  · by_cases e1 : x = .loc s
    · subst e1
      rw [r1] at q
      have := h.fp m b hO (hvA b q).1
      exact ⟨this.1, this.2.1⟩
    · rw [(hsm x e1).1] at q
      refine h.own x b ?_ q
      by_cases e3 : x = m
      · rw [e3]; exact hlm
      · exact lx x e1 e3 hl
  · obtain ⟨q1, q2⟩ := h.bx i z q
    have hni : Nm.out i ≠ .loc s := fun q => by cases q
    have hnm : Nm.out i ≠ m := fun q => by
      subst q
      rw [hm] at q2
      cases q2
    rw [r3 _ hni hnm, gx _ hni hnm, isArr_scrub]
    exact ⟨q1, q2⟩
  · by_cases e1 : x = .loc s
    · subst e1
      rw [r1] at q
      exact h.fp m k hO q.1
    · by_cases e2 : x = m
      · subst e2
        rw [r2] at q
        exact h.fp x k hO q.1
      · rw [r3 x e1 e2] at q
        rw [ox x e1 e2] at ho
        exact h.fp x k ho q
  · have hoo : ∀ o : Ob, isO o = true → o ≠ .none := fun o q e => by rw [e] at q; cases q
    by_cases e1 : x = .loc s
    · subst e1
      rw [r1] at q
      by_cases e2 : y = m
      · subst e2
        rw [r2]
        exact ⟨fun q' => (hbm k q').2 q, fun _ q' => q'.2 q⟩
      · rw [r3 y e e2]
        have := h.fd m y k hO (lx y e e2 hl) e2 q.1
        exact ⟨this.1, fun ho' => this.2 (by rw [← ox y e e2]; exact ho')⟩
    · by_cases e2 : x = m
      · subst e2
        rw [r2] at q
        by_cases e3 : y = .loc s
        · subst e3
          rw [r1]
          exact ⟨fun q' => q.2 (hvA k q'), fun _ q' => q.2 q'⟩
        · rw [r3 y e3 e]
          have := h.fd x y k hO (lx y e3 e hl) e q.1
          exact ⟨this.1, fun ho' => this.2 (by rw [← ox y e3 e]; exact ho')⟩
      · rw [r3 x e1 e2] at q
        rw [ox x e1 e2] at ho
        by_cases e3 : y = .loc s
        · subst e3
          rw [r1]
          have := h.fd x m k ho hlm (fun q' => e2 q'.symm) q
          exact ⟨fun q' => this.2 hO (hvA k q').1, fun _ q' => this.2 hO q'.1⟩
        · by_cases e4 : y = m
          · subst e4
            rw [r2]
            have := h.fd x y k ho hlm e q
            exact ⟨this.1, fun _ q' => this.2 hO q'.1⟩
          · rw [r3 y e3 e4]
            have := h.fd x y k ho (lx y e3 e4 hl) e q
            exact ⟨this.1, fun ho' => this.2 (by rw [← ox y e3 e4]; exact ho')⟩

/-! ### the operations -/
theorem mixLoad_sound (h : Rel cx ρ S st a w) {t : TypeId} {x : Operand} (ho : o.op = .load t x) {m : Nm} {j z off s : Nat} (hx : opd P st 0 x = .el m j z off) {q : Dv × St} (hd : mixLoad P st s t m j z off pr = some q) : StepOK P cx o a w q.1 q.2 := by
  unfold mixLoad at hd
  split at hd
  · rename_i e' e z' es hu hm
    split at hd
    · rename_i hc
      obtain ⟨rfl, hj, hoff, hne, hc1⟩ := hc
      obtain ⟨es', h1, h2⟩ := Option.bind_eq_some_iff.1 hd
      injection h2 with h2; subst h2
      have hcell : (es.getD j []).getD off .undef = .ow e' (P.cellsOf e') es' := by
        revert h1
        cases (es.getD j []).getD off .undef <;> simp only [asOw] <;> intro h1 <;> try (cases h1; done)
        split at h1
        · rename_i q; obtain ⟨rfl, rfl⟩ := q; injection h1 with h1; rw [h1]
        · cases h1
      obtain ⟨ρ', g, v, p1, p2, p3, p4, p5, p6⟩ := h.core.unpack hne hm hj hoff hcell
      have hvx := opd_rel (P := P) h 0 x
      rw [hx] at hvx
      refine .inl ⟨v, w, ρ', S, .inl ?_, ⟨p6, h.nt, h.df, fun t' => ?_⟩, ?_⟩
      · generalize hex : a.eval x = vx at hvx
        cases hvx with
        | @el _ _ _ _ g' hb =>
        rw [p1] at hb; injection hb with hb; subst hb
        have hl := run_loadVar_ (w := w) hu (by omega) (ad := ⟨g, j * z' + off, none⟩) rfl (fun _ => v) (fun k hk => by
          have : k = 0 := by omega
          subst this
          exact p2)
        have hag : isAggT P t = false := by unfold isAggT; rw [hu]
        rw [hag] at hl
        unfold execOp
        rw [ho]
        simp [Instr.loadAt, hex, Instr.sureAddr, hl]
      · show VD _ _ _ ((st.T.map (scrub (.loc s))).getD t' ud) _
        rw [Tm.getD_map rfl]
        refine VD.fpchg (ρ := fun n => if n = .loc s then ρ' (.loc s) else ρ n) (fun n => ?_) ((h.tm t').scrub_ (m := .loc s) fun n hn => if_neg hn)
        by_cases e : n = .loc s
        · subst e; simp
        · simp only [if_neg e]; exact p5 n e
      · have : VD ρ' S w (.arr (.loc s)) (ρ' (.loc s)).tip := .arr (by rw [p4]; exact p3)
        rwa [p4] at this
    · cases hd
  · cases hd
theorem rowLike_iff {e s : Nat} {ob : Ob} (h : rowLike e s ob = true) : ∃ es, ob = .marr e s es none ∨ ob = .oarr e s es ∨ ∃ b, ob = .arr e s b false es := by
  unfold rowLike at h
  split at h <;> first | (cases h; done) | skip
  all_goals
    obtain ⟨rfl, rfl⟩ := of_decide_eq_true h
    first
      | exact ⟨_, .inl rfl⟩
      | exact ⟨_, .inr (.inl rfl)⟩
      | exact ⟨_, .inr (.inr ⟨_, rfl⟩)⟩
theorem mixNs_get {m : Nm} {ns : List Nm} (h : (ns.all isLoc && (nodupN ns && !ns.contains m)) = true) : (∀ n ∈ ns, isLoc n = true) ∧ nodupN ns = true ∧ m ∉ ns := by
  simp only [Bool.and_eq_true, Bool.not_eq_true', List.all_eq_true] at h
  refine ⟨h.1, h.2.1, fun q => ?_⟩
  have := h.2.2
  rw [List.contains_eq_mem, decide_eq_false_iff_not] at this
  exact this q
/-- a marr after a store into one of its elements -/
theorem Rel.storeM (h : Rel cx ρ S st a w) {t : TypeId} {x y : Operand} (ho : o.op = .store t x y) (hz : P.cellsOf t ≠ 0) {m : Nm} {j z off e : Nat} {es : List (List Pd)} (hx : opd P st 0 x = .el m j z off) (hn : sizeV (opd P st t y) = some (P.cellsOf t))
    (hm : getOb st.L st.O m = .marr e z es none) (hj : j < es.length) (hle : off + P.cellsOf t ≤ z) {ps : List Pd} {ns : List Nm} (hns : ∀ n ∈ ns, isLoc n = true) (hmn : m ∉ ns) {Q : Nat → Prop} {fq : Nat → Nat}
    (hq : ∀ k, k < P.cellsOf t → VO S w (fun b => Q b ∧ fq b = k) (ps.getD k .undef) ((a.eval y).cells.getD k undef)) (hQ : ∀ k, Q k → OwnSet st.L st.O ρ ns k) {lk : Option (Nat × Nat × Nm)}
    (hlk : ∀ j' off' n, lk = some (j', off', n) → j' = j ∧ off' = off ∧ P.cellsOf t = 1 ∧ a.eval y = (ρ n).tip ∧ (a.eval y).oneCell' = true) :
    StepOK P cx o a w ud ⟨st.T, setL (rmAll ns st.L) m (.marr e z (setCs es j z off (P.cellsOf t) ps) lk), setO st.O m (.marr e z (setCs es j z off (P.cellsOf t) ps) lk)⟩ := by
  have hvx := opd_rel (P := P) h 0 x
  have hvy := opd_rel (P := P) h t y
  rw [hx] at hvx
  generalize hex : a.eval x = vx at hvx
  generalize hey : a.eval y = vy at hvy hq hlk
  obtain ⟨n1, n2, n3⟩ := cells_rel hvy hn
  have hob := h.core.ob m
  rw [hm] at hob
  obtain ⟨o1, o2, o3, o4⟩ := hob
  have hO : isO (getOb st.L st.O m) = true := by rw [hm]; rfl
  have hl : getOb st.L st.O m ≠ .none := by rw [hm]; exact fun q => by cases q
  cases o3 with
  | p o3 => cases o3
  | ow xs f g0 g1 g2 g3 g4 =>
  cases hvx with
  | @el _ _ _ _ g hb =>
  rcases g1.2 with ⟨e1, e2⟩ | ⟨g', cap, cur, e1, _, hg, hnc, hcm, hcs, htake⟩
  · omega
  have hgg : g' = g := by
    have := o1.symm.trans hb
    rw [e1] at this
    simpa [Value.ownBlock] using this
  subst hgg
  have hS : ∀ o, ¬ S g' o := (h.core.fp m g' hO (g2 g' (o1.symm.trans hb))).2.2
  have hesz : es.length * z ≤ cur.size := by rw [hcs]; exact Nat.mul_le_mul_right _ hnc
  have hjs : j * z + z ≤ es.length * z := by rw [← Nat.succ_mul]; exact Nat.mul_le_mul_right _ hj
  have hrun := run_storeAt (P := P) (w := w) (off := j * z + off) hz n1 n2 hg (by omega)
  have hc : ∀ b' o', S b' o' → (w.setRow g' (newCells cur vy.cells (j * z + off))).cell? ⟨b', o', none⟩ = w.cell? ⟨b', o', none⟩ := fun b' o' q => cell_heap (setRow_heap_ne w g' _ b' (fun e => hS o' (e ▸ q)))
  have hrun' : (execOp a.eval o).run P w = .ok .skip (w.setRow g' (newCells cur vy.cells (j * z + off))) := run_store_ ho (by rw [hex, hey]; exact hrun)
  have hdis : ∀ k, Q k → ¬ (ρ m).fp k := fun k hk q3 => by
    obtain ⟨n', q1, q2⟩ := hQ k hk
    exact ((h.core.ownAt q2).2 m hl (fun q => hmn (q ▸ q1))).2 hO q3
  obtain ⟨r1, r2⟩ := VO_store (Q := Q) (ps := ps) (vy := vy) (n := P.cellsOf t) (off := off) (j := j) (fq := fq) g0 g1 g2 g3 g4 e1 hg hnc hcm hcs htake hj hle n1 n2 hq hdis hc
  have hs := sameR_at ρ m (fun k => (ρ m).fp k ∨ Q k)
  refine .inl ⟨undef, _, fun n => if n = m then ⟨(ρ m).blk, (ρ m).tip, fun k => (ρ m).fp k ∨ Q k, (ρ m).cl⟩ else ρ n, S, .inr ⟨hrun', rfl⟩, ⟨?_, h.nt, h.df, fun t' => ((h.tm t').keep (ρ' := ρ) (fun _ => rfl) (fun _ _ q => q) hc).fpchg hs⟩, .un⟩
  have := h.core.putR (m := m) (w' := w.setRow g' (newCells cur vy.cells (j * z + off))) (fun i q => by subst q; rw [hm]; rfl) hns hmn ⟨(ρ m).blk, (ρ m).tip, fun k => (ρ m).fp k ∨ Q k, (ρ m).cl⟩ (.marr e z (setCs es j z off (P.cellsOf t) ps) lk) rfl (fun b q => .inl (g2 b (o1.symm.trans q))) id
    (fun w o z q => q.fpchg hs) rfl (fun _ q => q) (fun _ => rfl) (fun _ => rfl) (fun _ _ _ _ _ q => q) (by simp) rfl rfl rfl (fun b hb' hne => setRow_heap_ne w g' _ b fun q => (hne m (.inl rfl) hl).1 (q ▸ hb)) hc
    ⟨o1, o2, r1, fun j' off' n q => ?_⟩ (fun k q => by
      rcases q with q | q
      · exact .inr ⟨m, .inl rfl, .inl ⟨hO, q⟩⟩
      · obtain ⟨n', q1, q2⟩ := hQ k q
        exact .inr ⟨n', .inr q1, q2⟩)
  · rw [List.map_id, List.map_id] at this
    exact this
  · obtain ⟨rfl, rfl, c1, c2, c3⟩ := hlk j' off' n q
    refine ⟨by rw [setCs_len]; exact hj, by omega, fun b hb' => ?_⟩
    have hb' : (ρ m).blk = some b := hb'
    rw [hb] at hb'; injection hb' with hb'; subst hb'
    rw [r2 _ (idx_lt hj (by omega)), newCells_get _ _ _ (by omega) _ (by omega), if_pos (by omega), Nat.sub_self, (hs n).2.1, ← c2]
    have hv1 : vy.cells = #[vy] := by
      clear c2 hlk hn n1 n2 n3 r1 r2 hrun hrun' hq hvy hey hc
      cases vy <;> first | rfl | (simp [Value.oneCell'] at c3)
    rw [hv1]
    rfl
theorem mixStore_sound (h : Rel cx ρ S st a w) {t : TypeId} {x y : Operand} (ho : o.op = .store t x y) (hz : P.cellsOf t ≠ 0) {m : Nm} {j z off : Nat} (hx : opd P st 0 x = .el m j z off) (hd : mixStore P st t m j z off (opd P st t y) some = some st') : StepOK P cx o a w ud st' := by
  have hvy := opd_rel (P := P) h t y
  unfold mixStore at hd
  split at hd
  case isFalse => cases hd
  rename_i hn
  split at hd
  · rename_i e z' es hm
    split at hd
    case isFalse => cases hd
    rename_i hc
    obtain ⟨rfl, hj, hle⟩ := hc
    split at hd
    · rename_i n hy
      split at hd
      · rename_i e1 s1 hrt
        split at hd
        · rename_i hg
          injection hd with hd; subst hd
          simp only [Bool.and_eq_true, bne_iff_ne] at hg
          have h1 : P.cellsOf t = 1 := by
            rw [hy] at hn
            simp only [sizeV] at hn
            injection hn with hn
            exact hn.symm
          rw [hy] at hvy
          generalize hey : a.eval y = vy at hvy
          cases hvy with
          | arr hone =>
          have := h.storeM ho hz hx hn hm hj hle (ps := [.undef]) (ns := []) (fun n q => by cases q) (fun q => by cases q) (Q := fun _ => False) (fq := fun _ => 0) (fun k hk => by
            have : k = 0 := by omega
            subst this
            exact .p .undef) (fun k q => q.elim) (lk := some (j, off, n)) (fun j' off' n' q => by
              injection q with q; injection q with q1 q2; injection q2 with q2 q3; subst q1 q2 q3
              exact ⟨rfl, rfl, h1, hey, by rw [hey]; exact hone⟩)
          rw [h1] at this
          exact this
        · cases hd
      · cases hd
    · rw [packVK_eq] at hd
      split at hd
      · rename_i xs ns hp
        split at hd
        · rename_i hg
          injection hd with hd; subst hd
          obtain ⟨k2, k3, k4⟩ := mixNs_get hg
          obtain ⟨fq, hfq⟩ := packV_sound h.core hvy hn hp k3
          exact h.storeM ho hz hx hn hm hj hle k2 k4 (Q := OwnSet st.L st.O ρ ns) (fq := fq) (fun k hk => (hfq k hk).outX) (fun _ q => q) (lk := none) (fun j' off' n q => nomatch q)
        · cases hd
      · cases hd
  · cases hd
theorem mixAppend_sound (h : Rel cx ρ S st a w) {c : Call} (ho : o.op = .call c) (hc : c.callee = .builtin .append) {x y : Operand} {t : TypeId} (hargs : c.args.toList = [x, y]) (hts : c.argTypes.toList = [t, t]) {s : Nat} {q : Dv × St}
    (hd : mixAppend P st s t (opd P st t x) (opd P st t y) pr = some q) : StepOK P cx o a w q.1 q.2 := by
  have hvx := opd_rel (P := P) h t x
  have hvy := opd_rel (P := P) h t y
  generalize hex : a.eval x = vx at hvx
  generalize hey : a.eval y = vy at hvy
  have hargs' : c.args = #[x, y] := Array.ext' (by simpa using hargs)
  have hts' : c.argTypes = #[t, t] := Array.ext' (by simpa using hts)
  have run : ∀ v w', (Builtin.append_ #[t, t] o.type #[vx, vy]).run P w = .ok v w' → (execOp a.eval o).run P w = .ok (.value v) w' := by
    intro v w' hv
    unfold execOp; rw [ho]; dsimp only
    simp only [resolve, hc, hargs', hts', List.map_toArray, List.map_cons, List.map_nil, hex, hey, Sem.run_bind, Sem.run_pure, Result.andThen_ok, invoke, builtin, hv]
  unfold mixAppend at hd
  split at hd
  · rename_i e hu
    split at hd
    · cases hd
    · rename_i hcond
      have hcz : P.cellsOf e ≠ 0 := fun q => hcond (.inl q)
      have hbz : P.bytesOf e ≠ 0 := fun q => hcond (.inr (.inl q))
      have hzo : zeroOK P e ≠ false := fun q => hcond (.inr (.inr q))
      split at hd
      · rename_i s' hxe
        rw [moveYK_eq] at hd
        split at hd
        · rename_i ys ns hmv
          split at hd
          · rename_i hlim
            unfold mixNew at hd
            split at hd
            · rename_i hgood
              injection hd with hd; subst hd
              rw [hxe] at hvx
              cases hvx
              obtain ⟨k1, k2, k3, k4⟩ := goodNs_get hgood
              exact append_owned (mx := true) (es := []) h hu hcz hbz hzo (fun i q => by cases q) k2 k3 k4 hvy hmv [] (fun _ => 0) (fun _ => False) (World.ownsRow_nil w 0 e _) (fun b q => nomatch q) (fun u hu => by cases hu) (fun i j hi => by cases hi) (fun k q => q.elim) (by simpa using hlim) run
            · cases hd
          · cases hd
        · cases hd
      · rename_i m hxe
        split at hd
        · rename_i e' s' es hm
          split at hd
          · rename_i hes
            obtain ⟨rfl, rfl⟩ := hes
            rw [moveYK_eq] at hd
            split at hd
            · rename_i ys ns hmv
              split at hd
              · rename_i hgood
                split at hd
                · rename_i hlim
                  injection hd with hd; subst hd
                  obtain ⟨k2, k3, k4⟩ := mixNs_get hgood
                  rw [hxe] at hvx
                  cases hvx
                  have hob := h.core.ob m
                  rw [hm] at hob
                  obtain ⟨o1, o2, o3, o4⟩ := hob
                  cases o3 with
                  | p o3 => cases o3
                  | ow xs f g0 g1 g2 g3 g4 =>
                  exact append_owned (mx := true) h hu hcz hbz hzo (fun i q => by subst q; rw [hm]; rfl) k2 k3 k4 hvy hmv xs f (ρ m).fp g1 g2 g3 (fun i j hi hj => (g4 i j hi hj).inX) (fun k hk => ⟨by rw [hm]; rfl, hk⟩) hlim run
                · cases hd
              · cases hd
            · cases hd
          · cases hd
        · cases hd
      · cases hd
  · cases hd
theorem mixOp_sound (h : Rel cx ρ S st a w) {q : Dv × St} (hi : isMix P o st = true) (hd : mixOp P o st pr = some q) : StepOK P cx o a w q.1 q.2 := by
  unfold mixOp at hd
  split at hd
  · rename_i t x y ho
    split at hd
    · rename_i m j z off hx
      split at hd
      · cases hd
      · rename_i hz
        rw [mixStore_bind] at hd
        obtain ⟨d, h1, h2⟩ := of_pr (f := fun st' => (ud, st')) hd
        subst h2
        exact mixStore_sound h ho hz hx h1
    · cases hd
  · rename_i t x ho
    split at hd
    · rename_i m j z off s hx hs
      exact mixLoad_sound h ho hx hd
    · cases hd
  · rename_i t len ps ho
    split at hd
    · rename_i e s hu _
      split at hd
      · cases hd
      · rename_i hz
        split at hd
        · rename_i hc
          split at hd
          · rename_i hsz
            rw [packEsK_eq] at hd
            split at hd
            · rename_i xs ns hp
              unfold mixNew at hd
              split at hd
              · rename_i hgood
                injection hd with hd; subst hd
                exact ok_buildOwn (mx := true) h ho hu (fun q => hz (.inl q)) (by cases hzo : zeroOK P e with
                  | true => rfl
                  | false => exact absurd (.inr hzo) hz) hc hsz hp s hgood
              · cases hd
            · cases hd
          · cases hd
        · cases hd
    · cases hd
  · rename_i t l c ho
    split at hd
    · rename_i e s n m hu _ hl hc
      split at hd
      · cases hd
      · rename_i hz
        split at hd
        · rename_i hb
          split at hd
          · rename_i zs hzs
            split at hd
            · cases hd
            · rename_i hlen
              split at hd
              · rename_i xs hp
                unfold mixNew at hd
                split at hd
                · injection hd with hd; subst hd
                  exact ok_makeOwn (mx := true) h ho hu hl hc hz hb hzs (by simpa using hlen) hp s
                · cases hd
              · cases hd
          · cases hd
        · cases hd
    · cases hd
  · rename_i c ho
    have hcl : c.callee = .builtin .append := by
      unfold isMix at hi
      rw [ho] at hi
      dsimp only at hi
      split at hi
      · rename_i hc; exact hc
      · cases hi
    split at hd
    · rename_i x y t t' s hargs hts _
      split at hd
      · rename_i htt
        subst htt
        exact mixAppend_sound h ho hcl hargs hts hd
      · cases hd
    · cases hd
  · cases hd
/-- EVERY OPERATION, rows that grow where they stand among them. -/
theorem stepM_sound {call : CallF} {κ : Kp} (hcall : CallOK P κ call) (hk : Kx κ cx) (h : Rel cx ρ S st a w) {q : Dv × St} (hd : stepM call P o st pr = some q) : StepOK P cx o a w q.1 q.2 := by
  unfold stepM at hd
  split at hd
  · obtain ⟨ρ', q1, h'⟩ := settles_sound (preN P o st) h
    split at hd
    · rename_i hi
      exact mixOp_sound h' hi hd
    · exact stepOp_sound hcall hk h' hd
  · exact stepOp_sound hcall hk h hd
end Go.Proofs.Ytabomkmgnkjjfaa.Dm
