/- The machine over plain data and memory: single operations that only look. -/
import Derived.Test.YtmnoibkdmeajpaaGreatDm4
namespace Go.Proofs.YtmnoibkdmeajpaaGreat.Dm
set_option linter.unusedSectionVars false
open Go.RowKit
set_option linter.unusedVariables false
set_option linter.unusedSimpArgs false
variable {P : Program} {cx : Cx} {ρ : Nm → Rz} {S : Nat → Nat → Prop} {w : World}
theorem info_of_cells {t : TypeId} (h : P.cellsOf t ≠ 0) : ∃ i, P.info? t = some i ∧ i.size = P.cellsOf t ∧ i.bytes = P.bytesOf t := by
 unfold Program.cellsOf at h
 cases hi : P.info? t with
 | none => rw [hi] at h; exact absurd rfl h
 | some i => exact ⟨i, rfl, by simp [Program.cellsOf, hi], by simp [Program.bytesOf, hi]⟩
theorem run_sizeOf_ {t : TypeId} (h : P.cellsOf t ≠ 0) (w : World) : (sizeOf t).run P w = .ok (P.cellsOf t) w := by
 obtain ⟨i, hi, hs, _⟩ := info_of_cells h
 simp [sizeOf, typeInfo, hi, hs]
theorem run_isAgg_ {t : TypeId} {d : TypeDesc} (h : P.underlying t = some d) (w : World) : (isAgg t).run P w = .ok (isAggT P t) w := by
 unfold isAgg isAggT
 rw [Sem.run_bind, run_underlying h, Result.andThen_ok, h]
 cases d <;> rfl
theorem add_eq {ad : Addr} (h : ad.spot = none) (j : Nat) : ad.add j = ⟨ad.block, ad.off + j, none⟩ := by
 unfold Addr.add
 split
 ·rename_i q; subst q; cases ad; simp_all
 ·rfl
theorem run_loadVar_ {t : TypeId} {d : TypeDesc} (hu : P.underlying t = some d) (hn : P.cellsOf t ≠ 0) {ad : Addr} (hs : ad.spot = none) (vals : Nat → Value)
 (h : ∀ j, j < P.cellsOf t → w.cell? ⟨ad.block, ad.off + j, none⟩ = some (vals j)) :
 (loadVar t ad).run P w = .ok (if isAggT P t = true then .agg ((List.range (P.cellsOf t)).map vals).toArray else vals 0) w := by
 unfold loadVar
 rw [Sem.run_bind, run_isAgg_ hu, Result.andThen_ok]
 cases hb : isAggT P t
 ·simp only [Bool.false_eq_true, if_false]
  have h0 := h 0 (by omega)
  rw [← add_eq hs] at h0
  have : ad.add 0 = ad := by unfold Addr.add; simp
  rw [this] at h0
  rw [run_load, h0]
 ·simp only [if_true]
  rw [Sem.run_bind, run_sizeOf_ hn, Result.andThen_ok, Sem.run_bind, run_loadCells w ad (P.cellsOf t) vals (fun j hj => by rw [add_eq hs]; exact h j hj)]
  rfl
theorem pures_eq : ∀ {ds : List Dv} {xs : List Pd}, pures ds = some xs → ds = xs.map .p
 | [], xs, h => by simp only [pures] at h; injection h with h; subst h; rfl
 | .p x :: ds, xs, h => by
  simp only [pures] at h
  split at h
  ·rename_i ys hy; injection h with h; subst h; rw [pures_eq hy]; rfl
  ·cases h
 | .nilsl _ :: _, _, h | .ptr _ _ :: _, _, h | .arr _ :: _, _, h | .el _ _ _ _ :: _, _, h | .ro _ _ :: _, _, h | .agg _ _ :: _, _, h | .fn _ _ :: _, _, h | .tup _ :: _, _, h | .mp _ :: _, _, h => by simp only [pures] at h; cases h
theorem VD.pd {x : Pd} {v : Value} (h : VD ρ S w (.p x) v) : VP S w x v := by cases h with | p h => exact h
theorem getD_map_p (xs : List Pd) (j : Nat) : (xs.map Dv.p).getD j ud = .p (xs.getD j .undef) := by
 simp only [List.getD_eq_getElem?_getD, List.getElem?_map]
 cases xs[j]? <;> rfl
theorem aggD_rel {n : Nat} {ds : List Dv} {vs : Array Value} (h0 : ds.length ≤ n) (h1 : vs.size = n) (h2 : ∀ j, j < n → (vs.getD j undef).oneCell' = true) (h3 : ∀ j, j < n → VD ρ S w (ds.getD j ud) (vs.getD j undef)) :
 VD ρ S w (aggD n ds) (.agg vs) := by
 unfold aggD
 split
 ·rename_i xs hx
  have := pures_eq hx
  subst this
  exact .p (.agg h1 h2 fun j hj => (by have := h3 j hj; rw [getD_map_p] at this; exact this.pd))
 ·exact .agg h0 h1 h2 h3
theorem constC_rel (s : Nat) (v : Value) : VD ρ S w (constC s v) v := by
 unfold constC
 split
 ·exact .p .int
 ·exact .p .bool
 ·exact .p .str
 ·exact .nilsl
 ·exact .un
theorem zeroC_len : ∀ (ss : List Nat) (vs : List Value), (zeroC ss vs).length = vs.length
 | _, [] => by simp [zeroC]
 | [], v :: vs => by simp [zeroC, zeroC_len]
 | s :: ss, v :: vs => by simp [zeroC, zeroC_len]
theorem zeroC_rel : ∀ (ss : List Nat) (vs : List Value) (j : Nat), j < vs.length → VD ρ S w ((zeroC ss vs).getD j ud) (vs.getD j undef)
 | _, [], j, hj => by cases hj
 | [], v :: vs, 0, _ => constC_rel 0 v
 | s :: ss, v :: vs, 0, _ => constC_rel s v
 | [], v :: vs, j + 1, hj => zeroC_rel [] vs j (by simpa using hj)
 | s :: ss, v :: vs, j + 1, hj => zeroC_rel ss vs j (by simpa using hj)
theorem getD_toList (vs : Array Value) (j : Nat) (d : Value) : vs.toList.getD j d = vs.getD j d := by
 simp [List.getD_eq_getElem?_getD, Array.getD_eq_getD_getElem?]
theorem all_oneCell {vs : Array Value} (h : vs.toList.all (fun v => v.oneCell') = true) (j : Nat) (hj : j < vs.size) : (vs.getD j undef).oneCell' = true := by
 rw [List.all_eq_true] at h
 refine h _ ?_
 rw [← getD_toList, List.getD_eq_getElem?_getD, List.getElem?_eq_getElem (by simpa using hj)]
 exact List.getElem_mem _
theorem constD_rel (t : TypeId) (v : Value) : VD ρ S w (constD P t v) v := by
 unfold constD
 split
 ·rename_i cs
  split
  ·rename_i h
   exact aggD_rel (by rw [zeroC_len]; simp) rfl (all_oneCell h) (fun j hj => by rw [← getD_toList]; exact zeroC_rel _ _ j (by simpa using hj))
  ·exact .un
 ·exact constC_rel _ v
theorem opd_rel [Cfg] {st : St} {a : Act} (h : Rel cx ρ S st a w) (t : TypeId) (x : Operand) : VD ρ S w (opd P st t x) (a.eval x) := by
 cases x with
 | tmp x => exact h.tm x
 | const v => exact constD_rel t v
 | global g => exact .un
 | func f => exact .p .fn
theorem asInt_eq {k : IntKind} {x : Pd} {n : Int} (h : asInt k x = some n) : x = .int k n := by
 unfold asInt at h
 split at h
 ·split at h
  ·rename_i q; injection h with h; subst q h; rfl
  ·cases h
 ·cases h
theorem asBool_eq {x : Pd} {b : Bool} (h : asBool x = some b) : x = .bool b := by
 unfold asBool at h; split at h
 ·injection h with h; subst h; rfl
 ·cases h
theorem asStr_eq {x : Pd} {b : ByteArray} (h : asStr x = some b) : x = .str b := by
 unfold asStr at h; split at h
 ·injection h with h; subst h; rfl
 ·cases h
theorem asSl_eq {s : Nat} {x : Pd} {es : List (List Pd)} (h : asSl s x = some es) : x = .sl s es := by
 unfold asSl at h; split at h
 ·split at h
  ·rename_i q; injection h with h; subst q h; rfl
  ·cases h
 ·cases h
theorem asFn_eq {x : Pd} {f : FuncId} (h : asFn x = some f) : x = .fn f := by
 unfold asFn at h; split at h
 ·injection h with h; subst h; rfl
 ·cases h
theorem cellAs_eq {t : TypeId} {x : Pd} {d : Dv} (h : cellAs P t x some = some d) : d = .p x ∧ ∃ dd, P.underlying t = some dd := by
 unfold cellAs at h
 split at h <;> first
  | (obtain ⟨n, h1, h2⟩ := Option.bind_eq_some_iff.1 h; injection h2 with h2; subst h2)
  | cases h
 ·exact ⟨by rw [asInt_eq h1], _, by assumption⟩
 ·exact ⟨by rw [asBool_eq h1], _, by assumption⟩
 ·exact ⟨by rw [asStr_eq h1], _, by assumption⟩
 ·exact ⟨by rw [asSl_eq h1], _, by assumption⟩
 ·exact ⟨by rw [asFn_eq h1], _, by assumption⟩
theorem isAgg_und {t : TypeId} (h : isAggT P t = true) : ∃ d, P.underlying t = some d := by
 unfold isAggT at h
 split at h
 ·exact ⟨_, by assumption⟩
 ·exact ⟨_, by assumption⟩
 ·cases h
theorem load_cells {t : TypeId} (hn : P.cellsOf t ≠ 0) {ad : Addr} (hs : ad.spot = none) (vals : Nat → Value) (cs : List Pd)
 (h1 : ∀ j, j < P.cellsOf t → w.cell? ⟨ad.block, ad.off + j, none⟩ = some (vals j) ∧ (vals j).oneCell' = true) (h2 : ∀ j, j < P.cellsOf t → VP S w (cs.getD j .undef) (vals j)) {d : Dv}
 (h : (if isAggT P t = true then some (.p (.agg (P.cellsOf t) cs)) else if P.cellsOf t = 1 then cellAs P t (cs.getD 0 .undef) some else none) = some d) :
 ∃ v, (loadVar t ad).run P w = .ok v w ∧ VD ρ S w d v := by
 split at h
 ·rename_i ha
  obtain ⟨dd, hu⟩ := isAgg_und ha
  injection h with h; subst h
  refine ⟨_, run_loadVar_ hu hn hs vals (fun j hj => (h1 j hj).1), ?_⟩
  rw [if_pos ha]
  have hg : ∀ j, j < P.cellsOf t → ((List.range (P.cellsOf t)).map vals).toArray.getD j undef = vals j := fun j hj => by
   rw [← getD_toList]; simp [List.getD_eq_getElem?_getD, hj]
  exact .p (.agg (by simp) (fun j hj => by rw [hg j hj]; exact (h1 j hj).2) (fun j hj => by rw [hg j hj]; exact h2 j hj))
 ·rename_i ha
  split at h
  ·rename_i h1'
   obtain ⟨e, dd, hu⟩ := cellAs_eq h
   subst e
   refine ⟨_, run_loadVar_ hu hn hs vals (fun j hj => (h1 j hj).1), ?_⟩
   rw [if_neg ha]
   exact .p (h2 0 (by omega))
  ·cases h
theorem dropC_getD (off : Nat) (cs : List Pd) (j : Nat) : (dropC off cs).getD j .undef = cs.getD (off + j) .undef := by
 cases off with
 | zero => simp [dropC]
 | succ n => simp [dropC, List.getD_eq_getElem?_getD]
theorem cutC_getD (tot n off : Nat) (cs : List Pd) (j : Nat) (h : j < n) : (cutC tot n off cs).getD j .undef = cs.getD (off + j) .undef := by
 unfold cutC
 cases Nat.beq (off + n) tot with
 | true => rw [cond_true, dropC_getD]
 | false => rw [cond_false, ← dropC_getD, List.getD_eq_getElem?_getD, List.getElem?_take, if_pos h, List.getD_eq_getElem?_getD]
theorem dropD_getD (off : Nat) (cs : List Dv) (j : Nat) : (dropD off cs).getD j ud = cs.getD (off + j) ud := by
 cases off with
 | zero => simp [dropD]
 | succ n => simp [dropD, List.getD_eq_getElem?_getD]
theorem cellAs_ow {t : TypeId} {e s : Nat} {es : List (List Pd)} : cellAs P t (.ow e s es) (some : Dv → Option Dv) = none := by
 unfold cellAs
 split <;> rfl
theorem loadD_sound {st : St} {t : TypeId} {a d : Dv} {va : Value} (hc : Core cx ρ S st.L st.O w) (ha : VD ρ S w a va) (h : loadD P st t a some = some d) :
 ∃ ad v, va = .pointer (some ad) ∧ (loadVar t ad).run P w = .ok v w ∧ VD ρ S w d v := by
 unfold loadD at h
 split at h
 ·cases h
 rename_i hn
 split at h
 ·rename_i m off
  have hob := hc.ob m
  split at h
  ·rename_i c cs hm
   rw [hm] at hob
   obtain ⟨b, vs, ty, h1, h2, h3, h4, h5⟩ := hob
   split at h
   ·rename_i hle
    cases ha with
    | ptr hb =>
     rw [h1] at hb; injection hb with hb; subst hb
     have hcell : ∀ j, j < P.cellsOf t → w.cell? ⟨b, off + j, none⟩ = some (vs.getD (off + j) undef) ∧ (vs.getD (off + j) undef).oneCell' = true := fun j hj =>
      ⟨by rw [cell_of_row w b (off + j) vs ty (0, 0) h2, Array.getD_eq_getD_getElem?]; have : off + j < vs.size := by omega
          simp [this], h4 _ (by omega)⟩
     obtain ⟨v, hv1, hv2⟩ := load_cells (ρ := ρ) (S := S) hn (ad := ⟨b, off, none⟩) rfl (fun j => vs.getD (off + j) undef) (cutC c (P.cellsOf t) off cs) hcell (fun j hj => by rw [cutC_getD _ _ _ _ _ hj]; exact h5 _ (by omega))
      (d := d) (by rw [cutC_getD _ _ _ _ _ (by omega), Nat.add_zero]; exact h)
     exact ⟨_, v, rfl, hv1, hv2⟩
   ·cases h
  ·rename_i c ds hm
   rw [hm] at hob
   obtain ⟨b, vs, ty, h1, h2, h3, h4, h5⟩ := hob
   split at h
   ·rename_i hle
    cases ha with
    | ptr hb =>
     rw [h1] at hb; injection hb with hb; subst hb
     have hcell : ∀ j, j < P.cellsOf t → w.cell? ⟨b, off + j, none⟩ = some (vs.getD (off + j) undef) ∧ (vs.getD (off + j) undef).oneCell' = true := fun j hj =>
      ⟨by rw [cell_of_row w b (off + j) vs ty (0, 0) h2, Array.getD_eq_getD_getElem?]; have : off + j < vs.size := by omega
          simp [this], h4 _ (by omega)⟩
     split at h
     ·rename_i hag
      obtain ⟨dd, hu⟩ := isAgg_und hag
      injection h with h; subst h
      refine ⟨_, _, rfl, run_loadVar_ hu hn (ad := ⟨b, off, none⟩) rfl (fun j => vs.getD (off + j) undef) (fun j hj => (hcell j hj).1), ?_⟩
      rw [if_pos hag]
      have hg : ∀ j, j < P.cellsOf t → ((List.range (P.cellsOf t)).map fun j => vs.getD (off + j) undef).toArray.getD j undef = vs.getD (off + j) undef := fun j hj => by
       rw [← getD_toList]; simp [List.getD_eq_getElem?_getD, hj]
      refine aggD_rel (by simp; omega) (by simp) (fun j hj => by rw [hg j hj]; exact (hcell j hj).2) (fun j hj => ?_)
      rw [hg j hj]
      have : ((dropD off ds).take (P.cellsOf t)).getD j ud = ds.getD (off + j) ud := by
       rw [← dropD_getD, List.getD_eq_getElem?_getD, List.getElem?_take, if_pos hj, List.getD_eq_getElem?_getD]
      rw [this]
      exact h5 _ (by omega)
     ·rename_i hag
      split at h
      ·rename_i h1'
       have h50 := h5 off (by omega)
       unfold cellDv at h
       split at h
       ·rename_i x hx
        obtain ⟨e, dd, hu⟩ := cellAs_eq h
        subst e
        refine ⟨_, _, rfl, run_loadVar_ hu hn (ad := ⟨b, off, none⟩) rfl (fun j => vs.getD (off + j) undef) (fun j hj => (hcell j hj).1), ?_⟩
        rw [if_neg hag, ← hx]
        exact h50
       ·split at h
        ·rename_i hsu
         obtain ⟨dd, hu⟩ := Option.isSome_iff_exists.1 hsu
         injection h with h; subst h
         refine ⟨_, _, rfl, run_loadVar_ hu hn (ad := ⟨b, off, none⟩) rfl (fun j => vs.getD (off + j) undef) (fun j hj => (hcell j hj).1), ?_⟩
         rw [if_neg hag]
         exact h50
        ·cases h
      ·cases h
   ·cases h
  ·cases h
 ·rename_i s cs
  split at h
  ·rename_i hle
   cases ha with
   | @ro _ _ ad vals h1 h2 h3 =>
    obtain ⟨v, hv1, hv2⟩ := load_cells (ρ := ρ) (S := S) hn h1 vals (cutC s (P.cellsOf t) 0 cs) (fun j hj => (h2 j (by omega)).2) (fun j hj => by rw [cutC_getD _ _ _ _ _ hj, Nat.zero_add]; exact h3 j (by omega)) (d := d) (by rw [cutC_getD _ _ _ _ _ (by omega), Nat.zero_add]; exact h)
    exact ⟨_, v, rfl, hv1, hv2⟩
  ·cases h
 ·rename_i m j s off
  have hob := hc.ob m
  split at h
  ·rename_i e s' bb ro es hm
   rw [hm] at hob
   obtain ⟨xs, h1, h2, h3, h4, h5⟩ := hob
   split at h
   ·rename_i hcond
    obtain ⟨es', hj, hle⟩ := hcond
    subst es'
    cases ha with
    | @el _ _ _ _ g hb =>
     obtain ⟨_, _, _, _, _, hg⟩ := own_cells h1
     obtain ⟨_, _, hcells⟩ := hg g (h2.symm.trans hb)
     have hidx : ∀ k, k < P.cellsOf t → j * s' + off + k < es.length * s' := fun k hk => by
      have : j * s' + s' ≤ es.length * s' := by rw [← Nat.succ_mul]; exact Nat.mul_le_mul_right _ hj
      omega
     have hcell : ∀ k, k < P.cellsOf t → w.cell? ⟨g, j * s' + off + k, none⟩ = some (xs.getD (j * s' + off + k) undef) ∧ (xs.getD (j * s' + off + k) undef).oneCell' = true := fun k hk => by
      refine ⟨hcells _ (hidx k hk), h4 _ ?_⟩
      rw [List.getD_eq_getElem?_getD, List.getElem?_eq_getElem (by rw [h1.1]; exact hidx k hk)]
      exact List.getElem_mem _
     obtain ⟨v, hv1, hv2⟩ := load_cells (ρ := ρ) (S := S) hn (ad := ⟨g, j * s' + off, none⟩) rfl (fun k => xs.getD (j * s' + off + k) undef) (cutC s' (P.cellsOf t) off (es.getD j [])) hcell
      (fun k hk => by rw [cutC_getD _ _ _ _ _ hk, Nat.add_assoc]; exact h5 j (off + k) hj (by omega)) (d := d) (by rw [cutC_getD _ _ _ _ _ (by omega), Nat.add_zero]; exact h)
     exact ⟨_, v, rfl, hv1, hv2⟩
   ·cases h
  ·rename_i e s' es hm
   rw [hm] at hob
   obtain ⟨o1, o2, o3, o4⟩ := hob
   split at h
   ·rename_i hcond
    obtain ⟨es', hj, hle⟩ := hcond
    subst es'
    split at h
    ·cases h
    rename_i hag
    split at h
    ·rename_i hc1
     have hoff : off < s' := by omega
     cases ha with
     | @el _ _ _ _ g hb =>
     cases o3 with
     | p o3 => cases o3
     | ow xs f g0 g1 g2 g3 g4 =>
     obtain ⟨_, _, _, _, _, hg⟩ := own_cells g1
     obtain ⟨_, _, hcells⟩ := hg g (o1.symm.trans hb)
     have hidx : j * s' + off < es.length * s' := idx_lt hj hoff
     have hcell := hcells _ hidx
     have hone : (xs.getD (j * s' + off) undef).oneCell' = true := by
      refine g3 _ ?_
      rw [List.getD_eq_getElem?_getD, List.getElem?_eq_getElem (by rw [g1.1]; exact hidx)]
      exact List.getElem_mem _
     split at h
     ·rename_i e1 hu
      obtain ⟨es1, h1, h2⟩ := Option.bind_eq_some_iff.1 h
      injection h2 with h2; subst h2
      have hio : isOwP ((es.getD j []).getD off .undef) = true := by
       cases hx : (es.getD j []).getD off .undef <;> rw [hx] at h1 <;> first | rfl | (simp [asOw] at h1)
      have hcl := o4 j off g hj hoff hio hb
      rw [hcell] at hcl
      injection hcl with hcl
      refine ⟨_, _, rfl, run_loadVar_ hu hn (ad := ⟨g, j * s' + off, none⟩) rfl (fun _ => xs.getD (j * s' + off) undef) (fun k hk => ?_), ?_⟩
      ·have : k = 0 := by omega
       subst this
       exact hcell
      ·rw [if_neg hag, hcl]
       exact .sub (by rw [← hcl]; exact hone)
     ·have hvp : VP S w ((es.getD j []).getD off .undef) (xs.getD (j * s' + off) undef) := by
       have hx := g4 j off hj hoff
       generalize (es.getD j []).getD off .undef = x at h hx
       cases hx with
       | p hx => exact hx.of0
       | ow => rw [cellAs_ow] at h; cases h
      obtain ⟨v, hv1, hv2⟩ := load_cells (ρ := ρ) (S := S) hn (ad := ⟨g, j * s' + off, none⟩) rfl (fun _ => xs.getD (j * s' + off) undef) [(es.getD j []).getD off .undef]
       (fun k hk => by have : k = 0 := by omega
                       subst this; exact ⟨hcell, hone⟩) (fun k hk => by have : k = 0 := by omega
                                                                        subst this; exact hvp) (d := d) (by rw [if_neg hag, if_pos hc1]; exact h)
      exact ⟨_, v, rfl, hv1, hv2⟩
    ·cases h
   ·cases h
  ·rename_i e s' es lk hm
   rw [hm] at hob
   obtain ⟨o1, o2, o3, o4⟩ := hob
   split at h
   ·rename_i hcond
    obtain ⟨es', hj, hle⟩ := hcond
    subst es'
    split at h
    ·rename_i hag
     split at h
     case isFalse => cases h
     rename_i hall
     cases ha with
     | @el _ _ _ _ g hb =>
     cases o3 with
     | p o3 => cases o3
     | ow xs f g0 g1 g2 g3 g4 =>
     obtain ⟨_, _, _, _, _, hg⟩ := own_cells g1
     obtain ⟨_, _, hcells⟩ := hg g (o1.symm.trans hb)
     have hidx : ∀ k, k < P.cellsOf t → j * s' + off + k < es.length * s' := fun k hk => by
      have : j * s' + s' ≤ es.length * s' := by rw [← Nat.succ_mul]; exact Nat.mul_le_mul_right _ hj
      omega
     have hcell : ∀ k, k < P.cellsOf t → w.cell? ⟨g, j * s' + off + k, none⟩ = some (xs.getD (j * s' + off + k) undef) ∧ (xs.getD (j * s' + off + k) undef).oneCell' = true := fun k hk => by
      refine ⟨hcells _ (hidx k hk), g3 _ ?_⟩
      rw [List.getD_eq_getElem?_getD, List.getElem?_eq_getElem (by rw [g1.1]; exact hidx k hk)]
      exact List.getElem_mem _
     have hvp : ∀ k, k < P.cellsOf t → VP S w ((es.getD j []).getD (off + k) .undef) (xs.getD (j * s' + (off + k)) undef) := fun k hk => by
      have hx := g4 j (off + k) hj (by omega)
      have hno : isOwP ((es.getD j []).getD (off + k) .undef) = false := by
       rw [List.getD_eq_getElem?_getD (l := es.getD j [])]
       cases hq : (es.getD j [])[off + k]? with
       | none => rfl
       | some x =>
        have := List.all_eq_true.1 hall x (List.mem_of_getElem? hq)
        simpa using this
      generalize (es.getD j []).getD (off + k) .undef = x at hx hno
      cases hx with
      | p hx => exact hx
      | ow => cases hno
     obtain ⟨v, hv1, hv2⟩ := load_cells (ρ := ρ) (S := S) hn (ad := ⟨g, j * s' + off, none⟩) rfl (fun k => xs.getD (j * s' + off + k) undef) (cutC s' (P.cellsOf t) off (es.getD j [])) hcell
      (fun k hk => by rw [cutC_getD _ _ _ _ _ hk, Nat.add_assoc]; exact hvp k hk) (d := d) (by rw [if_pos hag]; exact h)
     exact ⟨_, v, rfl, hv1, hv2⟩
    rename_i hag
    split at h
    ·rename_i hc1
     have hoff : off < s' := by omega
     cases ha with
     | @el _ _ _ _ g hb =>
     cases o3 with
     | p o3 => cases o3
     | ow xs f g0 g1 g2 g3 g4 =>
     obtain ⟨_, _, _, _, _, hg⟩ := own_cells g1
     obtain ⟨_, _, hcells⟩ := hg g (o1.symm.trans hb)
     have hidx : j * s' + off < es.length * s' := idx_lt hj hoff
     have hcell := hcells _ hidx
     have hone : (xs.getD (j * s' + off) undef).oneCell' = true := by
      refine g3 _ ?_
      rw [List.getD_eq_getElem?_getD, List.getElem?_eq_getElem (by rw [g1.1]; exact hidx)]
      exact List.getElem_mem _
     split at h
     ·cases h
     ·have hvp : VP S w ((es.getD j []).getD off .undef) (xs.getD (j * s' + off) undef) := by
       have hx := g4 j off hj hoff
       generalize (es.getD j []).getD off .undef = x at h hx
       cases hx with
       | p hx => exact hx
       | ow => rw [cellAs_ow] at h; cases h
      obtain ⟨v, hv1, hv2⟩ := load_cells (ρ := ρ) (S := S) hn (ad := ⟨g, j * s' + off, none⟩) rfl (fun _ => xs.getD (j * s' + off) undef) [(es.getD j []).getD off .undef]
       (fun k hk => by have : k = 0 := by omega
                       subst this; exact ⟨hcell, hone⟩) (fun k hk => by have : k = 0 := by omega
                                                                        subst this; exact hvp) (d := d) (by rw [if_neg hag, if_pos hc1]; exact h)
      exact ⟨_, v, rfl, hv1, hv2⟩
    ·cases h
   ·cases h
  ·cases h
 ·cases h
end Go.Proofs.YtmnoibkdmeajpaaGreat.Dm
