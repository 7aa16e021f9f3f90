/- The machine over plain data and memory: rows whose parts are rows of one's own and grow where they stand. -/
import Derived.Test.YtmnoibkdmeajpaaGreatDm13A
namespace Go.Proofs.YtmnoibkdmeajpaaGreat.Dm
set_option linter.unusedSectionVars false
open Go.RowKit
set_option linter.unusedVariables false
set_option linter.unusedSimpArgs false
variable [Cfg] {P : Program} {cx : Cx} {ρ : Nm → Rz} {S : Nat → Nat → Prop} {w : World} {st st' : St} {a : Act} {o : Oper} {d : Dv}
section
variable {L O : List Ob}
theorem Core.turn (h : Core cx ρ S L O w) {m : Nm} {e z : Nat} {es : List (List Pd)} {lk : Option (Nat × Nat × Nm)} (hm : getOb L O m = .marr e z es lk) {ns : List Nm} (hns : ∀ n ∈ ns, isLoc n = true) (hmn : m ∉ ns) (fp : Nat → Prop) {es' : List (List Pd)} {lk' : Option (Nat × Nat × Nm)}
 (h3 : VO S w fp (.ow e z es') (ρ m).tip) (h4 : ∀ j off n, lk' = some (j, off, n) → j < es'.length ∧ off < z ∧ ∀ b, (ρ m).blk = some b → w.cell? ⟨b, j * z + off, none⟩ = some (ρ n).tip) (hfp : ∀ k, fp k → ∃ n, (n = m ∨ n ∈ ns) ∧ OwnAt L O ρ n k) :
 Core cx (fun x => if x = m then ⟨(ρ m).blk, (ρ m).tip, fp, (ρ m).cl⟩ else ρ x) S (setL (rmAll ns L) m (.marr e z es' lk')) (setO O m (.marr e z es' lk')) w := by
 have hob := h.ob m
 rw [hm] at hob
 obtain ⟨o1, o2, o3, o4⟩ := hob
 have hs := sameR_at ρ m fp
 have hb : ∀ b, (ρ m).blk = some b → fp b := fun b q => by
  cases h3 with
  | p h3 => cases h3
  | ow xs f g0 g1 g2 g3 g4 => exact g2 b (o1.symm.trans q)
 have := h.putR (m := m) (w' := w) (fun i q => by subst q; rw [hm]; rfl) hns hmn ⟨(ρ m).blk, (ρ m).tip, fp, (ρ m).cl⟩ (.marr e z es' lk') rfl hb id (fun w o z q => q.fpchg hs) rfl (fun _ q => q) (fun _ => rfl) (fun _ => rfl) (fun _ _ _ _ _ q => q) (Nat.le_refl _) rfl rfl rfl (fun _ _ _ => rfl) (fun _ _ _ => rfl)
  ⟨o1, o2, h3, fun j off n q => ⟨(h4 j off n q).1, (h4 j off n q).2.1, fun b q' => by rw [(hs n).2.1]; exact (h4 j off n q).2.2 b q'⟩⟩ (fun k q => .inr (hfp k q))
 rw [List.map_id, List.map_id] at this
 exact this
theorem Core.settle_ (h : Core cx ρ S L O w) {m : Nm} {n : Nat} {e z j off : Nat} {es : List (List Pd)} (hm : getOb L O m = .marr e z es (some (j, off, .loc n))) (hne : m ≠ .loc n) {e' z' : Nat} {es' : List (List Pd)}
 (hn : VO S w (OwnAt L O ρ (.loc n)) (.ow e' z' es') (ρ (.loc n)).tip) :
 ∃ ρ' : Nm → Rz, SameR ρ ρ' ∧ Core cx ρ' S (setL (setL L (.loc n) .none) m (.marr e z (setCs es j z off 1 [.ow e' z' es']) none)) (setO O m (.marr e z (setCs es j z off 1 [.ow e' z' es']) none)) w := by
 have hob := h.ob m
 rw [hm] at hob
 obtain ⟨o1, o2, o3, o4⟩ := hob
 obtain ⟨p1, p2, p3⟩ := o4 j off _ rfl
 have hO : isO (getOb L O m) = true := by rw [hm]; rfl
 have hlm : getOb L O m ≠ .none := by rw [hm]; exact fun q => by cases q
 cases o3 with
 | p o3 => cases o3
 | ow xs f g0 g1 g2 g3 g4 =>
 obtain ⟨g, hg⟩ := row_blk g1 (by omega)
 obtain ⟨_, _, _, _, _, hcl⟩ := own_cells g1
 have hx : xs.getD (j * z + off) undef = (ρ (.loc n)).tip := by
  have q1 := (hcl g hg).2.2 _ (idx_lt p1 p2)
  have q2 := p3 g (o1.trans hg)
  rw [q1] at q2
  injection q2
 have hdis : ∀ k, OwnAt L O ρ (.loc n) k → ¬ (ρ m).fp k := fun k q => ((h.ownAt q).2 m hlm hne).2 hO
 obtain ⟨hh, fa, fb⟩ := two_parts (A := OwnAt L O ρ (.loc n)) (B := (ρ m).fp) hdis (fun _ => j * z + off) f
 refine ⟨_, sameR_at ρ m (fun k => (ρ m).fp k ∨ OwnAt L O ρ (.loc n) k), h.turn hm (ns := [.loc n]) (fun n q => by rw [List.mem_singleton.1 q]; rfl) (fun q => hne (List.mem_singleton.1 q)) _ ?_ (fun j off n q => nomatch q) (fun k q => ?_)⟩
 ·refine .ow xs hh g0 (by rw [setCs_len]; exact g1) (fun b q => .inl (g2 b q)) g3 fun i k hi hk => ?_
  rw [setCs_len] at hi
  rw [setCs_get p1 (by omega) i k hk]
  split
  ·rename_i hc
   obtain ⟨rfl, c1, c2⟩ := hc
   have : k = off := by omega
   subst this
   rw [Nat.sub_self, hx]
   exact hn.mono fun k' hk' => ⟨.inr hk', fun q => hdis k' hk' (g2 k' q), by rw [fa k' hk']⟩
  ·exact (g4 i k hi hk).mono fun k' hk' => ⟨.inl hk'.1, hk'.2.1, by rw [fb k' hk'.1]; exact hk'.2.2⟩
 ·rcases q with q | q
  ·exact ⟨m, .inl rfl, .inl ⟨hO, q⟩⟩
  ·exact ⟨.loc n, .inr (List.mem_singleton.2 rfl), q⟩
theorem Core.unlink (h : Core cx ρ S L O w) {m : Nm} {e z : Nat} {es : List (List Pd)} {lk : Option (Nat × Nat × Nm)} (hm : getOb L O m = .marr e z es lk) :
 ∃ ρ' : Nm → Rz, SameR ρ ρ' ∧ Core cx ρ' S (setL L m (.marr e z es none)) (setO O m (.marr e z es none)) w := by
 have hob := h.ob m
 rw [hm] at hob
 obtain ⟨o1, o2, o3, o4⟩ := hob
 exact ⟨_, sameR_at ρ m (ρ m).fp, h.turn hm (ns := []) (fun n q => by cases q) (fun q => by cases q) _ o3 (fun j off n q => nomatch q) fun k q => ⟨m, .inl rfl, .inl ⟨by rw [hm]; rfl, q⟩⟩⟩
end
theorem Rel.same {ρ' : Nm → Rz} {L O : List Ob} (h : Rel cx ρ S st a w) (hs : SameR ρ ρ') (hc : Core cx ρ' S L O w) : Rel cx ρ' S ⟨st.T, L, O⟩ a w := ⟨hc, h.nt, h.df, fun t => (h.tm t).fpchg hs⟩
theorem settle1_sound (h : Rel cx ρ S st a w) (m : Nm) : ∃ ρ', SameR ρ ρ' ∧ Rel cx ρ' S (settle1 m st) a w := by
 unfold settle1
 split
 ·rename_i e z es j off n hm
  have drop : ∃ ρ', SameR ρ ρ' ∧ Rel cx ρ' S { st with L := setL st.L m (.marr e z es none), O := setO st.O m (.marr e z es none) } a w := by
   obtain ⟨ρ', q1, q2⟩ := h.core.unlink hm
   exact ⟨ρ', q1, h.same q1 q2⟩
  by_cases hne : m = .loc n
  ·rw [if_pos hne]; exact drop
  ·rw [if_neg hne]
   have go : ∀ {e' z' : Nat} {es' : List (List Pd)}, (getOb st.L st.O (.loc n) = .marr e' z' es' none ∨ getOb st.L st.O (.loc n) = .oarr e' z' es' ∨ ∃ b, getOb st.L st.O (.loc n) = .arr e' z' b false es') →
    ∃ ρ', SameR ρ ρ' ∧ Rel cx ρ' S { st with L := setL (setL st.L (.loc n) .none) m (.marr e z (setCs es j z off 1 [.ow e' z' es']) none), O := setO st.O m (.marr e z (setCs es j z off 1 [.ow e' z' es']) none) } a w := by
    intro e' z' es' hn
    obtain ⟨ρ', q1, q2⟩ := h.core.settle_ hm hne (own_row h.core hn).1
    exact ⟨ρ', q1, h.same q1 q2⟩
   split
   ·rename_i e' z' es' hn; exact go (.inl hn)
   ·rename_i e' z' es' hn; exact go (.inr (.inl hn))
   ·rename_i e' z' b es' hn; exact go (.inr (.inr ⟨b, hn⟩))
   ·exact drop
 ·rename_i e z es j off n hm
  obtain ⟨ρ', q1, q2⟩ := h.core.unlink hm
  exact ⟨ρ', q1, h.same q1 q2⟩
 ·rename_i e z es j n hm
  have drop : ∃ ρ', SameR ρ ρ' ∧ Rel cx ρ' S { st with L := setL st.L m (.gmap e z es none), O := setO st.O m (.gmap e z es none) } a w := by
   obtain ⟨ρ', q1, q2⟩ := h.core.unlinkG hm
   exact ⟨ρ', q1, h.same q1 q2⟩
  by_cases hne : m = .loc n
  ·rw [if_pos hne]; exact drop
  ·rw [if_neg hne]
   have go : ∀ {e' z' : Nat} {es' : List (List Pd)}, (getOb st.L st.O (.loc n) = .marr e' z' es' none ∨ getOb st.L st.O (.loc n) = .oarr e' z' es' ∨ ∃ b, getOb st.L st.O (.loc n) = .arr e' z' b false es') →
    ∃ ρ', SameR ρ ρ' ∧ Rel cx ρ' S { st with L := setL (setL st.L (.loc n) .none) m (.gmap e z (setAt es j (.ow e' z' es')) none), O := setO st.O m (.gmap e z (setAt es j (.ow e' z' es')) none) } a w := by
    intro e' z' es' hn
    obtain ⟨ρ', q1, q2⟩ := h.core.settleG hm hne (own_row h.core hn).1
    exact ⟨ρ', q1, h.same q1 q2⟩
   split
   ·rename_i e' z' es' hn; exact go (.inl hn)
   ·rename_i e' z' es' hn; exact go (.inr (.inl hn))
   ·rename_i e' z' b es' hn; exact go (.inr (.inr ⟨b, hn⟩))
   ·exact drop
 ·rename_i e z es j n hm
  obtain ⟨ρ', q1, q2⟩ := h.core.unlinkG hm
  exact ⟨ρ', q1, h.same q1 q2⟩
 ·exact ⟨ρ, .refl ρ, h⟩
theorem settle_sound : ∀ (k : Nat) (m : Nm) {ρ : Nm → Rz} {st : St} (h : Rel cx ρ S st a w), ∃ ρ', SameR ρ ρ' ∧ Rel cx ρ' S (settle k m st) a w
 | 0, m, ρ, st, h => settle1_sound h m
 | k + 1, m, ρ, st, h => by
  unfold settle
  split
  ·rename_i n hn
   obtain ⟨ρ1, q1, h1⟩ := settle_sound k n h
   obtain ⟨ρ2, q2, h2⟩ := settle1_sound h1 m
   exact ⟨ρ2, q1.trans q2, h2⟩
  ·exact ⟨ρ, .refl ρ, h⟩
theorem settles_sound : ∀ (ns : List Nm) {ρ : Nm → Rz} {st : St} (h : Rel cx ρ S st a w), ∃ ρ', SameR ρ ρ' ∧ Rel cx ρ' S (settles st ns) a w
 | [], ρ, st, h => ⟨ρ, .refl ρ, h⟩
 | n :: ns, ρ, st, h => by
  obtain ⟨ρ1, q1, h1⟩ := settle_sound 4 n h
  obtain ⟨ρ2, q2, h2⟩ := settles_sound ns h1
  exact ⟨ρ2, q1.trans q2, h2⟩
theorem Core.unpack {L O : List Ob} (h : Core cx ρ S L O w) {m : Nm} {s : Nat} (hne : m ≠ .loc s) {e z j off : Nat} {es : List (List Pd)} (hm : getOb L O m = .marr e z es none) (hj : j < es.length) (hoff : off < z) {e' z' : Nat} {es' : List (List Pd)}
 (hc : (es.getD j []).getD off .undef = .ow e' z' es') : ∃ (ρ' : Nm → Rz) (g : Nat) (v : Value), (ρ m).blk = some g ∧ w.cell? ⟨g, j * z + off, none⟩ = some v ∧ v.oneCell' = true ∧ (ρ' (.loc s)).tip = v ∧
  (∀ x, x ≠ .loc s → (ρ' x).blk = (ρ x).blk ∧ (ρ' x).tip = (ρ x).tip ∧ (ρ' x).cl = (ρ x).cl) ∧
  Core cx ρ' S (setL (setL (L.map (scrubOb (.loc s))) m (.marr e z (setCs es j z off 1 [.undef]) (some (j, off, .loc s)))) (.loc s) (.marr e' z' es' none)) (setO (O.map (scrubOb (.loc s))) m (.marr e z (setCs es j z off 1 [.undef]) (some (j, off, .loc s)))) w := by
 have hob := h.ob m
 rw [hm] at hob
 obtain ⟨o1, o2, o3, o4⟩ := hob
 have hO : isO (getOb L O m) = true := by rw [hm]; rfl
 have hlm : getOb L O m ≠ .none := by rw [hm]; exact fun q => by cases q
 cases o3 with
 | p o3 => cases o3
 | ow xs f g0 g1 g2 g3 g4 =>
 obtain ⟨g, hg⟩ := row_blk g1 (by omega)
 obtain ⟨_, _, _, _, _, hcl⟩ := own_cells g1
 have hidx := idx_lt hj hoff
 have hcell := (hcl g hg).2.2 _ hidx
 have hone : (xs.getD (j * z + off) undef).oneCell' = true := by
  refine g3 _ ?_
  rw [List.getD_eq_getElem?_getD, List.getElem?_eq_getElem (by rw [g1.1]; exact hidx)]
  exact List.getElem_mem _
 have hrow := g4 j off hj hoff
 rw [hc] at hrow
 generalize hv : xs.getD (j * z + off) undef = v at hcell hone hrow
 let A : Nat → Prop := fun k => (ρ m).fp k ∧ (ρ m).tip.ownBlock ≠ some k ∧ f k = j * z + off
 have hA : ∀ k, A k → (ρ m).fp k := fun k q => q.1
 have hvA : ∀ k, v.ownBlock = some k → A k := fun k q => by
  cases hrow with
  | p hr => cases hr
  | ow ys f' q0 q1 q2 q3 q4 => exact q2 k q
 have hbm : ∀ b, (ρ m).blk = some b → (ρ m).fp b ∧ ¬ A b := fun b q => ⟨g2 b (o1.symm.trans q), fun q' => q'.2.1 (o1.symm.trans q)⟩
 have hrm : ∀ ρ' : Nm → Rz, (ρ' (.loc s)).tip = v → ObRel ρ' S w (.marr e z (setCs es j z off 1 [.undef]) (some (j, off, .loc s))) ⟨(ρ m).blk, (ρ m).tip, fun k => (ρ m).fp k ∧ ¬ A k, (ρ m).cl⟩ := fun ρ' r1 => by
  refine ⟨o1, o2, .ow xs f g0 (by rw [setCs_len]; exact g1) (fun b q => hbm b (o1.trans q)) g3 fun i k hi hk => ?_, fun j' off' n' q => ?_⟩
  ·rw [setCs_len] at hi
   rw [setCs_get hj (by omega) i k hk]
   split
   ·rename_i hcc
    obtain ⟨rfl, c1, c2⟩ := hcc
    have : k = off := by omega
    subst this
    rw [Nat.sub_self]
    exact .p .undef
   ·rename_i hcc
    refine (g4 i k hi hk).mono fun k' hk' => ⟨⟨hk'.1, fun q => hcc ?_⟩, hk'.2⟩
    have e9 : i * z + k = j * z + off := hk'.2.2.symm.trans q.2.2
    have hij : i = j := by
     rcases Nat.lt_trichotomy i j with q | q | q
     ·have : i * z + z ≤ j * z := by rw [← Nat.succ_mul]; exact Nat.mul_le_mul_right _ q
      omega
     ·exact q
     ·have : j * z + z ≤ i * z := by rw [← Nat.succ_mul]; exact Nat.mul_le_mul_right _ q
      omega
    subst hij
    exact ⟨rfl, by omega, by omega⟩
  ·injection q with q; injection q with q1 q2; injection q2 with q2 q3
   subst q1 q2 q3
   refine ⟨by rw [setCs_len]; exact hj, hoff, fun b q => ?_⟩
   have q : (ρ m).blk = some b := q
   rw [o1.trans hg] at q
   injection q with q
   subst q
   rw [r1]
   exact hcell
 obtain ⟨ρ', t1, t2, t3⟩ := h.split (obm := .marr e z (setCs es j z off 1 [.undef]) (some (j, off, .loc s))) (obp := .marr e' z' es' none) hne hO rfl rfl (by rw [hm]; rfl) A v hA hvA hbm hrm (fun ρ' => ⟨rfl, hone, hrow, fun j off n q => nomatch q⟩)
 exact ⟨ρ', g, v, o1.trans hg, hcell, hone, t1, t2, t3⟩
theorem mixLoad_sound (h : Rel cx ρ S st a w) {t : TypeId} {x : Operand} (ho : o.op = .load t x) {m : Nm} {j z off s : Nat} (hx : opd P st 0 x = .el m j z off) {q : Dv × St} (hd : mixLoad P st s t m j z off pr = some q) : StepOK P cx o a w q.1 q.2 := by
 unfold mixLoad at hd
 split at hd
 ·rename_i e' e z' es hu hm
  split at hd
  ·rename_i hc
   obtain ⟨rfl, hj, hoff, hne, hc1⟩ := hc
   obtain ⟨es', h1, h2⟩ := Option.bind_eq_some_iff.1 hd
   injection h2 with h2; subst h2
   have hcell : (es.getD j []).getD off .undef = .ow e' (P.cellsOf e') es' := by
    revert h1
    cases (es.getD j []).getD off .undef <;> simp only [asOw] <;> intro h1 <;> try (cases h1; done)
    split at h1
    ·rename_i q; obtain ⟨rfl, rfl⟩ := q; injection h1 with h1; rw [h1]
    ·cases h1
   obtain ⟨ρ', g, v, p1, p2, p3, p4, p5, p6⟩ := h.core.unpack hne hm hj hoff hcell
   have hvx := opd_rel (P := P) h 0 x
   rw [hx] at hvx
   refine .inl ⟨v, w, ρ', S, .inl ?_, ⟨p6, h.nt, h.df, fun t' => ?_⟩, ?_⟩
   ·generalize hex : a.eval x = vx at hvx
    cases hvx with
    | @el _ _ _ _ g' hb =>
    rw [p1] at hb; injection hb with hb; subst hb
    have hl := run_loadVar_ (w := w) hu (by omega) (ad := ⟨g, j * z' + off, none⟩) rfl (fun _ => v) (fun k hk => by
     have : k = 0 := by omega
     subst this
     exact p2)
    have hag : isAggT P t = false := by unfold isAggT; rw [hu]
    rw [hag] at hl
    unfold execOp
    rw [ho]
    simp [Instr.loadAt, hex, Instr.sureAddr, hl]
   ·show VD _ _ _ ((st.T.map (scrub (.loc s))).getD t' ud) _
    rw [Tm.getD_map rfl]
    refine VD.fpchg (ρ := fun n => if n = .loc s then ρ' (.loc s) else ρ n) (fun n => ?_) ((h.tm t').scrub_ (m := .loc s) fun n hn => if_neg hn)
    by_cases e : n = .loc s
    ·subst e; simp
    ·simp only [if_neg e]; exact p5 n e
   ·have : VD ρ' S w (.arr (.loc s)) (ρ' (.loc s)).tip := .arr (by rw [p4]; exact p3)
    rwa [p4] at this
  ·cases hd
 ·cases hd
theorem mixNs_get {m : Nm} {ns : List Nm} (h : (ns.all isLoc && (nodupN ns && !ns.contains m)) = true) : (∀ n ∈ ns, isLoc n = true) ∧ nodupN ns = true ∧ m ∉ ns := by
 simp only [Bool.and_eq_true, Bool.not_eq_true', List.all_eq_true] at h
 refine ⟨h.1, h.2.1, fun q => ?_⟩
 have := h.2.2
 rw [List.contains_eq_mem, decide_eq_false_iff_not] at this
 exact this q
theorem Rel.storeM (h : Rel cx ρ S st a w) {t : TypeId} {x y : Operand} (ho : o.op = .store t x y) (hz : P.cellsOf t ≠ 0) {m : Nm} {j z off e : Nat} {es : List (List Pd)} (hx : opd P st 0 x = .el m j z off) (hn : sizeV (opd P st t y) = some (P.cellsOf t))
 (hm : getOb st.L st.O m = .marr e z es none) (hj : j < es.length) (hle : off + P.cellsOf t ≤ z) {ps : List Pd} {ns : List Nm} (hns : ∀ n ∈ ns, isLoc n = true) (hmn : m ∉ ns) {Q : Nat → Prop} {fq : Nat → Nat}
 (hq : ∀ k, k < P.cellsOf t → VO S w (fun b => Q b ∧ fq b = k) (ps.getD k .undef) ((a.eval y).cells.getD k undef)) (hQ : ∀ k, Q k → OwnSet st.L st.O ρ ns k) {lk : Option (Nat × Nat × Nm)}
 (hlk : ∀ j' off' n, lk = some (j', off', n) → j' = j ∧ off' = off ∧ P.cellsOf t = 1 ∧ a.eval y = (ρ n).tip ∧ (a.eval y).oneCell' = true) :
 StepOK P cx o a w ud ⟨st.T, setL (rmAll ns st.L) m (.marr e z (setCs es j z off (P.cellsOf t) ps) lk), setO st.O m (.marr e z (setCs es j z off (P.cellsOf t) ps) lk)⟩ := by
 have hvx := opd_rel (P := P) h 0 x
 have hvy := opd_rel (P := P) h t y
 rw [hx] at hvx
 generalize hex : a.eval x = vx at hvx
 generalize hey : a.eval y = vy at hvy hq hlk
 obtain ⟨n1, n2, n3⟩ := cells_rel hvy hn
 have hob := h.core.ob m
 rw [hm] at hob
 obtain ⟨o1, o2, o3, o4⟩ := hob
 have hO : isO (getOb st.L st.O m) = true := by rw [hm]; rfl
 have hl : getOb st.L st.O m ≠ .none := by rw [hm]; exact fun q => by cases q
 cases o3 with
 | p o3 => cases o3
 | ow xs f g0 g1 g2 g3 g4 =>
 cases hvx with
 | @el _ _ _ _ g hb =>
 rcases g1.2 with ⟨e1, e2⟩ | ⟨g', cap, cur, e1, _, hg, hnc, hcm, hcs, htake⟩
 ·omega
 have hgg : g' = g := by
  have := o1.symm.trans hb
  rw [e1] at this
  simpa [Value.ownBlock] using this
 subst hgg
 have hS : ∀ o, ¬ S g' o := (h.core.fp m g' hO (g2 g' (o1.symm.trans hb))).2.2
 have hesz : es.length * z ≤ cur.size := by rw [hcs]; exact Nat.mul_le_mul_right _ hnc
 have hjs : j * z + z ≤ es.length * z := by rw [← Nat.succ_mul]; exact Nat.mul_le_mul_right _ hj
 have hrun := run_storeAt (P := P) (w := w) (off := j * z + off) hz n1 n2 hg (by omega)
 have hc : ∀ b' o', S b' o' → (w.setRow g' (newCells cur vy.cells (j * z + off))).cell? ⟨b', o', none⟩ = w.cell? ⟨b', o', none⟩ := fun b' o' q => cell_heap (setRow_heap_ne w g' _ b' (fun e => hS o' (e ▸ q)))
 have hrun' : (execOp a.eval o).run P w = .ok .skip (w.setRow g' (newCells cur vy.cells (j * z + off))) := run_store_ ho (by rw [hex, hey]; exact hrun)
 have hdis : ∀ k, Q k → ¬ (ρ m).fp k := fun k hk q3 => by
  obtain ⟨n', q1, q2⟩ := hQ k hk
  exact ((h.core.ownAt q2).2 m hl (fun q => hmn (q ▸ q1))).2 hO q3
 obtain ⟨r1, r2⟩ := VO_store (Q := Q) (ps := ps) (vy := vy) (n := P.cellsOf t) (off := off) (j := j) (fq := fq) g0 g1 g2 g3 g4 e1 hg hnc hcm hcs htake hj hle n1 n2 hq hdis hc
 have hs := sameR_at ρ m (fun k => (ρ m).fp k ∨ Q k)
 refine .inl ⟨undef, _, fun n => if n = m then ⟨(ρ m).blk, (ρ m).tip, fun k => (ρ m).fp k ∨ Q k, (ρ m).cl⟩ else ρ n, S, .inr ⟨.inl hrun', rfl⟩, ⟨?_, h.nt, h.df, fun t' => ((h.tm t').keep (ρ' := ρ) (fun _ => rfl) (fun _ _ q => q) hc).fpchg hs⟩, .un⟩
 have := h.core.putR (m := m) (w' := w.setRow g' (newCells cur vy.cells (j * z + off))) (fun i q => by subst q; rw [hm]; rfl) hns hmn ⟨(ρ m).blk, (ρ m).tip, fun k => (ρ m).fp k ∨ Q k, (ρ m).cl⟩ (.marr e z (setCs es j z off (P.cellsOf t) ps) lk) rfl (fun b q => .inl (g2 b (o1.symm.trans q))) id
  (fun w o z q => q.fpchg hs) rfl (fun _ q => q) (fun _ => rfl) (fun _ => rfl) (fun _ _ _ _ _ q => q) (by simp) rfl rfl rfl (fun b hb' hne => setRow_heap_ne w g' _ b fun q => (hne m (.inl rfl) hl).1 (q ▸ hb)) hc
  ⟨o1, o2, r1, fun j' off' n q => ?_⟩ (fun k q => by
   rcases q with q | q
   ·exact .inr ⟨m, .inl rfl, .inl ⟨hO, q⟩⟩
   ·obtain ⟨n', q1, q2⟩ := hQ k q
    exact .inr ⟨n', .inr q1, q2⟩)
 ·rw [List.map_id, List.map_id] at this
  exact this
 ·obtain ⟨rfl, rfl, c1, c2, c3⟩ := hlk j' off' n q
  refine ⟨by rw [setCs_len]; exact hj, by omega, fun b hb' => ?_⟩
  have hb' : (ρ m).blk = some b := hb'
  rw [hb] at hb'; injection hb' with hb'; subst hb'
  rw [r2 _ (idx_lt hj (by omega)), newCells_get _ _ _ (by omega) _ (by omega), if_pos (by omega), Nat.sub_self, (hs n).2.1, ← c2]
  have hv1 : vy.cells = #[vy] := by
   clear c2 hlk hn n1 n2 n3 r1 r2 hrun hrun' hq hvy hey hc
   cases vy <;> first | rfl | (simp [Value.oneCell'] at c3)
  rw [hv1]
  rfl
theorem mixStore_sound (h : Rel cx ρ S st a w) {t : TypeId} {x y : Operand} (ho : o.op = .store t x y) (hz : P.cellsOf t ≠ 0) {m : Nm} {j z off : Nat} (hx : opd P st 0 x = .el m j z off) (hd : mixStore P st t m j z off (opd P st t y) some = some st') : StepOK P cx o a w ud st' := by
 have hvy := opd_rel (P := P) h t y
 unfold mixStore at hd
 split at hd
 case isFalse => cases hd
 rename_i hn
 split at hd
 ·rename_i e z' es hm
  split at hd
  case isFalse => cases hd
  rename_i hc
  obtain ⟨rfl, hj, hle⟩ := hc
  split at hd
  ·rename_i n hy
   split at hd
   ·rename_i e1 s1 hrt
    split at hd
    ·rename_i hg
     injection hd with hd; subst hd
     simp only [Bool.and_eq_true, bne_iff_ne] at hg
     have h1 : P.cellsOf t = 1 := by
      rw [hy] at hn
      simp only [sizeV] at hn
      injection hn with hn
      exact hn.symm
     rw [hy] at hvy
     generalize hey : a.eval y = vy at hvy
     cases hvy with
     | arr hone =>
     have := h.storeM ho hz hx hn hm hj hle (ps := [.undef]) (ns := []) (fun n q => by cases q) (fun q => by cases q) (Q := fun _ => False) (fq := fun _ => 0) (fun k hk => by
      have : k = 0 := by omega
      subst this
      exact .p .undef) (fun k q => q.elim) (lk := some (j, off, n)) (fun j' off' n' q => by
       injection q with q; injection q with q1 q2; injection q2 with q2 q3; subst q1 q2 q3
       exact ⟨rfl, rfl, h1, hey, by rw [hey]; exact hone⟩)
     rw [h1] at this
     exact this
    ·cases hd
   ·cases hd
  ·rw [packVK_eq] at hd
   split at hd
   ·rename_i xs ns hp
    split at hd
    ·rename_i hg
     injection hd with hd; subst hd
     obtain ⟨k2, k3, k4⟩ := mixNs_get hg
     obtain ⟨fq, hfq⟩ := packV_sound h.core hvy hn hp k3
     exact h.storeM ho hz hx hn hm hj hle k2 k4 (Q := OwnSet st.L st.O ρ ns) (fq := fq) (fun k hk => (hfq k hk).outX) (fun _ q => q) (lk := none) (fun j' off' n q => nomatch q)
    ·cases hd
   ·cases hd
 ·cases hd
theorem mixAppend_sound (h : Rel cx ρ S st a w) {c : Call} (ho : o.op = .call c) (hc : c.callee = .builtin .append) {x y : Operand} {t : TypeId} (hargs : c.args.toList = [x, y]) (hts : c.argTypes.toList = [t, t]) {s : Nat} {q : Dv × St}
 (hd : mixAppend P st s t (opd P st t x) (opd P st t y) pr = some q) : StepOK P cx o a w q.1 q.2 := by
 have hvx := opd_rel (P := P) h t x
 have hvy := opd_rel (P := P) h t y
 generalize hex : a.eval x = vx at hvx
 generalize hey : a.eval y = vy at hvy
 have hargs' : c.args = #[x, y] := Array.ext' (by simpa using hargs)
 have hts' : c.argTypes = #[t, t] := Array.ext' (by simpa using hts)
 have run : ∀ v w', (Builtin.append_ #[t, t] o.type #[vx, vy]).run P w = .ok v w' → (execOp a.eval o).run P w = .ok (.value v) w' := by
  intro v w' hv
  unfold execOp; rw [ho]; dsimp only
  simp only [resolve, hc, hargs', hts', List.map_toArray, List.map_cons, List.map_nil, hex, hey, Sem.run_bind, Sem.run_pure, Result.andThen_ok, invoke, builtin, hv]
 unfold mixAppend at hd
 split at hd
 ·rename_i e hu
  split at hd
  ·cases hd
  ·rename_i hcond
   have hcz : P.cellsOf e ≠ 0 := fun q => hcond (.inl q)
   have hbz : P.bytesOf e ≠ 0 := fun q => hcond (.inr (.inl q))
   have hzo : zeroOK P e ≠ false := fun q => hcond (.inr (.inr q))
   split at hd
   ·rename_i s' hxe
    rw [moveYK_eq] at hd
    split at hd
    ·rename_i ys ns hmv
     split at hd
     ·rename_i hlim
      unfold mixNew at hd
      split at hd
      ·rename_i hgood
       injection hd with hd; subst hd
       rw [hxe] at hvx
       cases hvx
       obtain ⟨k1, k2, k3, k4⟩ := goodNs_get hgood
       exact append_owned (mx := true) (es := []) h hu hcz hbz hzo (fun i q => by cases q) k2 k3 k4 hvy hmv [] (fun _ => 0) (fun _ => False) (World.ownsRow_nil w 0 e _) (fun b q => nomatch q) (fun u hu => by cases hu) (fun i j hi => by cases hi) (fun k q => q.elim) (by simpa using hlim) run
      ·cases hd
     ·cases hd
    ·cases hd
   ·rename_i m hxe
    split at hd
    ·rename_i e' s' es hm
     split at hd
     ·rename_i hes
      obtain ⟨rfl, rfl⟩ := hes
      rw [moveYK_eq] at hd
      split at hd
      ·rename_i ys ns hmv
       split at hd
       ·rename_i hgood
        split at hd
        ·rename_i hlim
         injection hd with hd; subst hd
         obtain ⟨k2, k3, k4⟩ := mixNs_get hgood
         rw [hxe] at hvx
         cases hvx
         have hob := h.core.ob m
         rw [hm] at hob
         obtain ⟨o1, o2, o3, o4⟩ := hob
         cases o3 with
         | p o3 => cases o3
         | ow xs f g0 g1 g2 g3 g4 =>
         exact append_owned (mx := true) h hu hcz hbz hzo (fun i q => by subst q; rw [hm]; rfl) k2 k3 k4 hvy hmv xs f (ρ m).fp g1 g2 g3 (fun i j hi hj => (g4 i j hi hj).inX) (fun k hk => ⟨by rw [hm]; rfl, hk⟩) hlim run
        ·cases hd
       ·cases hd
      ·cases hd
     ·cases hd
    ·cases hd
   ·cases hd
 ·cases hd
theorem withOk_rel {ok b : Bool} {v : Value} (h : VD ρ S w d v) : VD ρ S w (withOk ok d b) (if ok = true then .tuple #[v, .bool b] else v) := by
 cases ok with
 | false => exact h
 | true =>
  refine .tup rfl fun j hj => ?_
  have hj : j < 2 := hj
  match j, hj with
  | 0, _ => exact h
  | 1, _ => exact .p .bool
theorem mixLook_sound (h : Rel cx ρ S st a w) {t et : TypeId} {x y : Operand} {ok : Bool} (ho : o.op = .lookup t x y ok) (het : elemM P t = some et) {m : Nm} {key : ByteArray} {s : Nat} (hx : opd P st t x = .mp m) (hy : opd P st 0 y = .p (.str key)) {q : Dv × St} (hd : mixLook P st s et m key ok pr = some q) : StepOK P cx o a w q.1 q.2 := by
 obtain ⟨kt, hu, hk⟩ := elemM_inv het
 have hvx := opd_rel (P := P) h t x
 have hvy := opd_rel (P := P) h 0 y
 rw [hx] at hvx
 rw [hy] at hvy
 have hey := hvy.str_inv
 generalize hex : a.eval x = vx at hvx
 cases hvx with
 | @mp _ b hb =>
 unfold mixLook at hd
 split at hd
 ·rename_i e' e z es hue hm
  split at hd
  ·rename_i hc
   obtain ⟨rfl, hz, hz0, hne⟩ := hc
   have hob := h.core.ob m
   rw [hm] at hob
   obtain ⟨b', ents, clock, f, h1, h2, h3, h4, h5, h6, h7⟩ := hob
   rw [hb] at h1; injection h1 with h1; subst h1
   have hE : EntG S w (ρ m).fp b f es ents := ⟨h5, h6⟩
   have exec : ∀ v, (Instr.lookup t (.map (some b)) (.string key) ok).run P w = .ok v w → (execOp a.eval o).run P w = .ok (.value v) w := fun v hv => by
    unfold execOp; rw [ho]
    simp [hex, hey, hv, Result.andThen]
   rcases run_lookG (P := P) (t := t) (key := key) (ok := ok) hu hk hE h4 with ⟨g1, g2⟩ | ⟨en, x', g1, g2, g3, g4⟩
   ·rw [g1] at hd
    simp only [onM] at hd
    split at hd
    ·rename_i hn
     injection hd with hd; subst hd
     exact StepOK.val h (exec _ (g2 hn)) (withOk_rel .nilsl)
    ·cases hd
   ·rw [g1] at hd
    simp only [onM] at hd
    split at hd
    ·obtain ⟨rows, q1, q2⟩ := Option.bind_eq_some_iff.1 hd
     injection q2 with q2; subst q2
     obtain ⟨ρ', S', t1, t2, t3, t4⟩ := h.core.freezeG hm q1 g2 hb h4 g3
     refine .inl ⟨_, w, ρ', S', .inl (exec _ g4), ⟨?_, h.nt, h.df, fun t' => ((h.tm t').keep (ρ' := ρ) (fun _ => rfl) t2 (fun _ _ _ => rfl)).fpchg t1⟩, withOk_rel (.p t3)⟩
     have e1 : setM es key (.sl z rows) = setAt es (idxM es key) (.sl z rows) := by
      rcases findNow_keys key es ents.toList 0 hE.keys.1 hE.keys.2 with ⟨r1, _⟩ | ⟨_, _, _, _, _, _, _, r6⟩
      ·rw [g1] at r1; cases r1
      ·exact r6 _
     show Core cx ρ' S' (setL st.L m (.gmap e' z (setM es key (.sl z rows)) none)) (setO st.O m (.gmap e' z (setM es key (.sl z rows)) none)) w
     rw [e1]; exact t4
    ·obtain ⟨rows, q1, q2⟩ := Option.bind_eq_some_iff.1 hd
     injection q2 with q2; subst q2
     have hx' : x' = .ow e' z rows := by
      revert q1
      cases x' <;> simp only [asOw] <;> intro q1 <;> try (cases q1; done)
      split at q1
      ·rename_i q; obtain ⟨rfl, rfl⟩ := q; injection q1 with q1; rw [q1]
      ·cases q1
     subst hx'
     obtain ⟨ρ', t1, t2, t3, t4⟩ := h.core.unpackG hne hm g2 hb h4 g3
     refine .inl ⟨_, w, ρ', S, .inl (exec _ g4), ⟨t4, h.nt, h.df, fun t' => ?_⟩, withOk_rel ?_⟩
     ·show VD _ _ _ ((st.T.map (scrub (.loc s))).getD t' ud) _
      rw [Tm.getD_map rfl]
      refine VD.fpchg (ρ := fun n => if n = .loc s then ρ' (.loc s) else ρ n) (fun n => ?_) ((h.tm t').scrub_ (m := .loc s) fun n hn => if_neg hn)
      by_cases e : n = .loc s
      ·subst e; simp
      ·simp only [if_neg e]; exact t3 n e
     ·have : VD ρ' S w (.arr (.loc s)) (ρ' (.loc s)).tip := .arr (by rw [t1]; exact t2)
      rwa [t1] at this
  ·cases hd
 ·cases hd
theorem mixUpd_sound (h : Rel cx ρ S st a w) {t et : TypeId} {x y z : Operand} (ho : o.op = .mapUpdate t x y z) (het : elemM P t = some et) {m : Nm} {key : ByteArray} (hx : opd P st t x = .mp m) (hy : opd P st 0 y = .p (.str key)) (hd : mixUpd P st et m key (opd P st et z) some = some st') : StepOK P cx o a w ud st' := by
 obtain ⟨kt, hu, hk⟩ := elemM_inv het
 have hvx := opd_rel (P := P) h t x
 have hvy := opd_rel (P := P) h 0 y
 have hvz := opd_rel (P := P) h et z
 rw [hx] at hvx
 rw [hy] at hvy
 have hey := hvy.str_inv
 generalize hex : a.eval x = vx at hvx
 generalize hez : a.eval z = vz at hvz
 cases hvx with
 | @mp _ b hb =>
 unfold mixUpd at hd
 split at hd
 ·rename_i e' e zz es hue hm
  split at hd
  ·rename_i hc
   subst hc
   have hob := h.core.ob m
   rw [hm] at hob
   obtain ⟨b', ents, clock, f, h1, h2, h3, h4, h5, h6, h7⟩ := hob
   rw [hb] at h1; injection h1 with h1; subst h1
   have hE : EntG S w (ρ m).fp b f es ents := ⟨h5, h6⟩
   have hO : isO (getOb st.L st.O m) = true := by rw [hm]; rfl
   obtain ⟨ents', clock', r1, ⟨en0, r2, r3⟩, r4⟩ := run_updG (P := P) (t := t) (key := key) (vz := vz) hu hk hE h4
   obtain ⟨hs1, hs2⟩ := MapKept.heap_set (o' := .map ents' clock') h4
   have hS : ∀ o', ¬ S b o' := (h.core.fp m b hO h2).2.2
   have hc : ∀ b' o', S b' o' → ({ w with heap := w.heap.setIfInBounds b (.map ents' clock') } : World).cell? ⟨b', o', none⟩ = w.cell? ⟨b', o', none⟩ := fun b' o' q => cell_heap (hs2 b' (fun e => hS o' (e ▸ q)))
   have hs := sameR_at ρ m (ρ m).fp
   have go : ∀ (u : Pd) (lk : Option (Nat × Nm)), vz.oneCell' = true → VO S w (fun _ => False) u vz → (∀ j n, lk = some (j, n) → j = idxM es key ∧ vz = (ρ n).tip) →
    StepOK P cx o a w ud { st with L := setL st.L m (.gmap e' zz (setM es key u) lk), O := setO st.O m (.gmap e' zz (setM es key u) lk) } := by
    intro u lk u1 u2 u3
    obtain ⟨k1, k2⟩ := r4 u
    refine .inl ⟨undef, { w with heap := w.heap.setIfInBounds b (.map ents' clock') }, _, S, .inr ⟨.inl ?_, rfl⟩, ⟨?_, h.nt, h.df, fun t' => ((h.tm t').keep (ρ' := ρ) (fun _ => rfl) (fun _ _ q => q) hc).fpchg hs⟩, .un⟩
    ·unfold execOp; rw [ho]
     simp [hex, hey, hez, r1, Result.andThen]
    ·have := h.core.putR (m := m) (ns := []) (w' := { w with heap := w.heap.setIfInBounds b (.map ents' clock') }) (fun i q => by rw [hm]; rfl) (fun n q => by cases q) (fun q => by cases q) ⟨(ρ m).blk, (ρ m).tip, (ρ m).fp, (ρ m).cl⟩ (.gmap e' zz (setM es key u) lk) rfl (fun b' q => by
      have q : (ρ m).blk = some b' := q
      rw [hb] at q; injection q with q; exact q ▸ h2) id
      (fun w o z q => q.fpchg hs) rfl (fun _ q => q) (fun _ => rfl) (fun _ => rfl) (fun _ _ _ _ _ q => q) (by simp) rfl rfl rfl
      (fun b' _ q => hs2 b' fun e => (q m (.inl rfl) (by rw [hm]; exact fun q => by cases q)).1 (by rw [e]; exact hb)) hc
      ⟨b, ents', clock', f, hb, h2, h3, hs1, k1, fun i x hx => ?_, fun j n q en hen => ?_⟩ (fun k q => .inr ⟨m, .inl rfl, .inl ⟨hO, q⟩⟩)
     ·rw [List.map_id, List.map_id] at this
      exact this
     ·obtain ⟨en, p1, p2, p3⟩ := k2 i x hx
      refine ⟨en, p1, p2, ?_⟩
      rcases p3 with ⟨_, p4, p5⟩ | ⟨p3, p4, p5⟩
      ·rw [p4, p5]
       exact ⟨u1, (u2.keep (fun _ _ q => q) hc fun k q => q.elim).mono fun k q => q.elim⟩
      ·obtain ⟨en', v1, v2, v3, v4⟩ := h6 i x p4
       rw [p5] at v1; injection v1 with v1; subst v1
       exact ⟨v3, v4.keep (fun _ _ q => q) hc fun k hk => hs2 k hk.2.1⟩
     ·obtain ⟨rfl, q2⟩ := u3 j n q
      rw [r2] at hen; injection hen with hen; subst hen
      rw [(hs n).2.1, r3, q2]
   split at hd
   ·rename_i n hz
    split at hd
    ·rename_i hg
     injection hd with hd; subst hd
     rw [hz] at hvz
     cases hvz with
     | arr hone =>
      refine go .undef (some (idxM es key, n)) hone (.p .undef) fun j n' q => ?_
      injection q with q; injection q with q1 q2; subst q1 q2
      exact ⟨rfl, rfl⟩
    ·cases hd
   ·rename_i z' rows hz
    split at hd
    ·rename_i hzz
     subst hzz
     injection hd with hd; subst hd
     rw [hz] at hvz
     have hp := hvz.pd
     refine go (.sl z' rows) none ?_ (.p hp) fun j n q => nomatch q
     cases hp <;> subst_vars <;> rfl
    ·cases hd
   ·cases hd
  ·cases hd
 ·cases hd
theorem ok_makeG (h : Rel cx ρ S st a w) {t e : TypeId} (ho : o.op = .makeMap t none) (s : Nat) (hz : P.cellsOf e ≠ 0) : StepOK P cx o a w (.mp (.loc s)) (st.fresh s (.gmap e (P.cellsOf e) [] none)) := by
 have hc : ∀ b o, S b o → (w.alloc (.map #[] 0)).cell? ⟨b, o, none⟩ = w.cell? ⟨b, o, none⟩ := fun b o q => cell_heap (heap_push_lt w _ b (h.core.sb b o q))
 refine .inl ⟨.map (some w.heap.size), w.alloc (.map #[] 0), fun n => if n = .loc s then ⟨some w.heap.size, .map none, fun k => k = w.heap.size, fun _ => undef⟩ else ρ n, S, .inl ?_, ⟨?_, ?_, h.df, fun t' => ?_⟩, ?_⟩
 ·unfold execOp; rw [ho]
  simp [Instr.makeMap, Result.andThen]
 ·have := h.core.putR (m := .loc s) (ns := []) (w' := w.alloc (.map #[] 0)) (fun i q => by cases q) (fun n q => by cases q) (fun q => by cases q) ⟨some w.heap.size, .map none, fun k => k = w.heap.size, fun _ => undef⟩ (.gmap e (P.cellsOf e) [] none) rfl (fun b q => by injection q with q; exact q.symm) (scrubOb (.loc s)) (fun w o z q => q.scrub_ (fun n hn => if_neg hn)) rfl (fun o q => scrubOb_eq_none q) (fun o => isArr_scrub _ o) (fun o => isO_scrub _ o) (fun o e s b es q => scrubOb_arr q) (by simp) rfl rfl rfl (fun b hb _ => heap_push_lt w _ b hb) hc
   ⟨w.heap.size, #[], 0, fun _ => 0, rfl, rfl, by omega, heap_alloc_new w _, rfl, fun i x hx => by simp at hx, fun j n q => nomatch q⟩ (fun k q => .inl ⟨by rw [q]; omega, by rw [q]; simp⟩)
  exact this
 ·show a.tmps.size = (st.T.map _).length
  exact h.nt
 ·show VD _ _ _ ((st.T.map (scrub (.loc s))).getD t' ud) _
  rw [Tm.getD_map rfl]
  exact ((h.tm t').keep (ρ' := ρ) (fun _ => rfl) (fun _ _ q => q) hc).scrub_ (fun n hn => if_neg hn)
 ·exact .mp (by simp)
theorem mixOp_sound (h : Rel cx ρ S st a w) {q : Dv × St} (hi : isMix P o st = true) (hd : mixOp P o st pr = some q) : StepOK P cx o a w q.1 q.2 := by
 unfold mixOp at hd
 split at hd
 ·rename_i t x y ho
  split at hd
  ·rename_i m j z off hx
   split at hd
   ·cases hd
   ·rename_i hz
    rw [mixStore_bind] at hd
    obtain ⟨d, h1, h2⟩ := of_pr (f := fun st' => (ud, st')) hd
    subst h2
    exact mixStore_sound h ho hz hx h1
  ·cases hd
 ·rename_i t x ho
  split at hd
  ·rename_i m j z off s hx hs
   exact mixLoad_sound h ho hx hd
  ·cases hd
 ·rename_i t len ps ho
  split at hd
  ·rename_i e s hu _
   split at hd
   ·cases hd
   ·rename_i hz
    split at hd
    ·rename_i hc
     split at hd
     ·rename_i hsz
      rw [packEsK_eq] at hd
      split at hd
      ·rename_i xs ns hp
       unfold mixNew at hd
       split at hd
       ·rename_i hgood
        injection hd with hd; subst hd
        exact ok_buildOwn (mx := true) h ho hu (fun q => hz (.inl q)) (by cases hzo : zeroOK P e with
         | true => rfl
         | false => exact absurd (.inr hzo) hz) hc hsz hp s hgood
       ·cases hd
      ·cases hd
     ·cases hd
    ·cases hd
  ·cases hd
 ·rename_i t l c ho
  split at hd
  ·rename_i e s n m hu _ hl hc
   split at hd
   ·cases hd
   ·rename_i hz
    split at hd
    ·rename_i hb
     split at hd
     ·rename_i zs hzs
      split at hd
      ·cases hd
      ·rename_i hlen
       split at hd
       ·rename_i xs hp
        unfold mixNew at hd
        split at hd
        ·injection hd with hd; subst hd
         exact ok_makeOwn (mx := true) h ho hu hl hc hz hb hzs (by simpa using hlen) hp s
        ·cases hd
       ·cases hd
     ·cases hd
    ·cases hd
  ·cases hd
 ·rename_i c ho
  have hcl : c.callee = .builtin .append := by
   unfold isMix at hi
   rw [ho] at hi
   dsimp only at hi
   split at hi
   ·rename_i hc; exact hc
   ·cases hi
  split at hd
  ·rename_i x y t t' s hargs hts _
   split at hd
   ·rename_i htt
    subst htt
    exact mixAppend_sound h ho hcl hargs hts hd
   ·cases hd
  ·cases hd
 ·rename_i t r ho
  split at hd
  ·rename_i et s het hs
   split at hd
   ·rename_i e hu
    split at hd
    ·cases hd
    ·rename_i hz
     injection hd with hd; subst hd
     exact ok_makeG h ho s hz
   ·cases hd
  ·cases hd
 ·rename_i t x y ok ho
  split at hd
  ·rename_i et n key s het hx hy _
   exact mixLook_sound h ho het hx hy hd
  ·cases hd
 ·rename_i t x y z ho
  split at hd
  ·rename_i et het
   split at hd
   ·rename_i n key hx hy
    rw [mixUpd_bind] at hd
    obtain ⟨d, h1, h2⟩ := of_pr (f := fun st' => (ud, st')) hd
    subst h2
    exact mixUpd_sound h ho het hx hy h1
   ·cases hd
  ·cases hd
 ·cases hd
theorem stepM_sound {call : CallF} {κ : Kp} (hcall : CallOK P κ call) (hk : Kx κ cx) (h : Rel cx ρ S st a w) {q : Dv × St} (hd : stepM call P o st pr = some q) : StepOK P cx o a w q.1 q.2 := by
 unfold stepM at hd
 split at hd
 ·obtain ⟨ρ', q1, h'⟩ := settles_sound (preN P o st) h
  split at hd
  ·rename_i hi
   exact mixOp_sound h' hi hd
  ·exact stepOp_sound hcall hk h' hd
 ·exact stepOp_sound hcall hk h hd
end Go.Proofs.YtmnoibkdmeajpaaGreat.Dm
