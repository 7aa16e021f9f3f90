/- impl.sameArgs on lists of at most one argument. -/
import Derived.Test.YtambpnaakfodhaaGreatDoorY2
import Derived.Test.YtambpnaakfodhaaGreatDoorDm20
import Derived.Laws.OwnMore
import Derived.KernelRfl
namespace Go.Proofs.YtambpnaakfodhaaGreatDoor.Dm
open Go.RowKit Go.Shelf
set_option linter.unusedVariables false
set_option linter.unusedSectionVars false
set_option linter.unusedSimpArgs false
def elP (x : El) : List Pd := [.str x.1, .int .i64 x.2.1, .int .i64 x.2.2.1, .str x.2.2.2]
theorem args_of_vp {S : Nat → Nat → Prop} {w : World} {zs : List El} {v : Value} (h : VP S w (.sl 4 (zs.map elP)) v) (hS : ∀ b o, S b o → b < w.heap.size) : Args w.heap.size w v zs ∧ ∃ a len cap, v = .slice a len cap := by
  cases h with
  | sl ad vals q1 q2 q3 q4 q5 =>
    rename_i a len cap
    rw [List.length_map] at q1
    subst q1
    refine ⟨?_, _, _, _, rfl⟩
    rcases Nat.eq_zero_or_pos zs.length with hz | hp
    · exact .inl ⟨a, cap, by rw [hz], List.eq_nil_of_length_eq_zero hz⟩
    · obtain ⟨rfl, hsp⟩ := q3 hp
      obtain ⟨b, o, sp⟩ := ad
      have hsp : sp = none := hsp
      subst hsp
      refine .inr ⟨b, o, cap, rfl, hS b _ (q4 0 0 hp (by omega)).1, fun j hj => ?_⟩
      have hg : (zs.map elP).getD j [] = elP (zs[j]?.getD el0) := by
        rw [List.getD_eq_getElem?_getD, List.getElem?_map, List.getElem?_eq_getElem hj]; rfl
      have c (i : Nat) (hi : i < 4) : w.cell? ⟨b, o + j * 4 + i, none⟩ = some (vals j i) ∧ VP S w ((elP (zs[j]?.getD el0)).getD i .undef) (vals j i) := ⟨(q4 j i hj hi).2.1, hg ▸ q5 j i hj hi⟩
      generalize zs[j]?.getD el0 = x at c
      refine ⟨?_, ?_, ?_, ?_⟩
      · obtain ⟨c1, c2⟩ := c 0 (by omega)
        have c2 : VP S w (.str x.1) (vals j 0) := c2
        generalize vals j 0 = z at c1 c2
        cases c2; exact c1
      · obtain ⟨c1, c2⟩ := c 1 (by omega)
        have c2 : VP S w (.int .i64 x.2.1) (vals j 1) := c2
        generalize vals j 1 = z at c1 c2
        cases c2; exact c1
      · obtain ⟨c1, c2⟩ := c 2 (by omega)
        have c2 : VP S w (.int .i64 x.2.2.1) (vals j 2) := c2
        generalize vals j 2 = z at c1 c2
        cases c2; exact c1
      · obtain ⟨c1, c2⟩ := c 3 (by omega)
        have c2 : VP S w (.str x.2.2.2) (vals j 3) := c2
        generalize vals j 3 = z at c1 c2
        cases c2; exact c1
theorem flat_get : ∀ (zs : List El) (i j : Nat), i < zs.length → j < 4 → (flat zs)[i * 4 + j]? = [Value.string (zs[i]?.getD el0).1, .int .i64 (zs[i]?.getD el0).2.1, .int .i64 (zs[i]?.getD el0).2.2.1, .string (zs[i]?.getD el0).2.2.2][j]?
  | [], i, j, h, _ => by cases h
  | x :: zs, 0, j, h, hj => by
    have hj : j = 0 ∨ j = 1 ∨ j = 2 ∨ j = 3 := by omega
    rcases hj with rfl | rfl | rfl | rfl <;> rfl
  | x :: zs, i + 1, j, h, hj => by
    have := flat_get zs i j (by simpa using h) hj
    have e : (i + 1) * 4 + j = 4 + (i * 4 + j) := by omega
    rw [e]
    have e2 : flat (x :: zs) = [.string x.1, .int .i64 x.2.1, .int .i64 x.2.2.1, .string x.2.2.2] ++ flat zs := rfl
    rw [e2, List.getElem?_append_right (by simp)]
    simpa using this
theorem vp_of_owns {w : World} {base : Nat} {v : Value} {zs : List El} (h : w.ownsRow base 135 4 v zs.length (flat zs)) : VP (SZ w) w (.sl 4 (zs.map elP)) v ∧ ∃ a len cap, v = .slice a len cap := by
  have h' := h
  rcases h.2 with ⟨rfl, h0⟩ | ⟨g, cap, cur, rfl, hb, hg, hn, _, _, _⟩
  · refine ⟨.sl ⟨0, 0, none⟩ (fun _ _ => undef) (by simp [h0]) (Nat.le_refl _) (fun q => absurd q (by omega)) (fun i j hi => absurd hi (by omega)) (fun i j hi => absurd hi (by omega)), _, _, _, rfl⟩
  · refine ⟨.sl ⟨g, 0, none⟩ (fun i j => ((flat zs)[i * 4 + j]?).getD undef) (by simp) hn (fun _ => ⟨rfl, rfl⟩) (fun i j hi hj => ?_) (fun i j hi hj => ?_), _, _, _, rfl⟩
    · have c := h'.cellAt (i * 4 + j) (by omega)
      rw [flat_get zs i j hi hj] at c
      refine ⟨(Array.getElem?_eq_some_iff.1 hg).1, ?_, ?_⟩
      · show w.cell? ⟨g, 0 + i * 4 + j, none⟩ = _
        rw [Nat.zero_add, c, flat_get zs i j hi hj]
        have hj : j = 0 ∨ j = 1 ∨ j = 2 ∨ j = 3 := by omega
        rcases hj with rfl | rfl | rfl | rfl <;> rfl
      · rw [flat_get zs i j hi hj]
        have hj : j = 0 ∨ j = 1 ∨ j = 2 ∨ j = 3 := by omega
        rcases hj with rfl | rfl | rfl | rfl <;> rfl
    · rw [flat_get zs i j hi hj]
      have hgd : (zs.map elP).getD i [] = elP (zs[i]?.getD el0) := by
        rw [List.getD_eq_getElem?_getD, List.getElem?_map, List.getElem?_eq_getElem hi]; rfl
      rw [hgd]
      have hj : j = 0 ∨ j = 1 ∨ j = 2 ∨ j = 3 := by omega
      rcases hj with rfl | rfl | rfl | rfl
      · exact .str
      · exact .int
      · exact .int
      · exact .str
theorem VP.belowZ {w w' : World} (hb : Below w.heap.size w w') {x : Pd} {v : Value} (h : VP (SZ w) w x v) : VP (SZ w') w' x v :=
  h.keep (fun b o q => Nat.lt_of_lt_of_le q hb.size) (fun b o q => hb.cell (p := ⟨b, o, none⟩) q)
@[reducible] def cfgN : Cfg := ⟨fun _ => false, fun _ => false, false, fun _ => false, false, fun _ => false, false, fun _ => false, false, fun _ => none⟩
noncomputable def EN : Env := ⟨Tryz.prog, fun _ => .z, fun _ => none⟩
theorem mixed0 : Tryz.prog.follows .mixedOrders = true := by kernel_rfl
def el1 (a : ByteArray) (k n : Int) (t : ByteArray) : List Pd := [.str a, .int .i64 k, .int .i64 n, .str t]
section
attribute [local instance] cfgN
theorem equal0 : ev EN 129 [.p (.sl 4 []), .p (.sl 4 [])] [] = some ([.p (.bool true)], []) := run_ev EN 5 5 (by kernel_rfl)
def rT : Option Res := some ([.p (.bool true)], [])
def rF : Option Res := some ([.p (.bool false)], [])
theorem bifR (p q r s : Bool) : (bif p then (bif q then (bif r then (bif s then rT else rF) else rF) else rF) else rF) = some ([.p (.bool (p && (q && (r && s))))], []) := by cases p <;> cases q <;> cases r <;> cases s <;> rfl
theorem equal1 (a b t u : ByteArray) (k l n m : Int) : ev EN 129 [.p (.sl 4 [el1 a k n t]), .p (.sl 4 [el1 b l m u])] [] = some ([.p (.bool (decide (a = b) && ((k == l) && ((n == m) && decide (t = u)))))], []) := run_ev EN 5 5 ((show evalNF EN.P EN.ann EN.lib 5 5 129 [.p (.sl 4 [el1 a k n t]), .p (.sl 4 [el1 b l m u])] [] = (bif decide (a = b) then (bif (k == l) then (bif (n == m) then (bif decide (t = u) then rT else rF) else rF) else rF) else rF) by kernel_rfl).trans (bifR _ _ _ _))
theorem sort0 : ev EN 185 [.p (.sl 4 []), .p (.fn 158)] [] = some ([], []) := run_ev EN 5 10 (by kernel_rfl)
theorem sort1 (a t : ByteArray) (k n : Int) : ev EN 185 [.p (.sl 4 [el1 a k n t]), .p (.fn 158)] [] = some ([], []) := run_ev EN 5 10 (by kernel_rfl)
theorem ev_calls0 {f : FuncId} {args : List Pd} (hev : ev EN f (args.map .p) [] = some ([], [])) {w : World} {vs : Array Value} (hn : vs.size = args.length) (hv : ∀ j, j < args.length → VP (SZ w) w (args.getD j .undef) (vs.getD j undef)) :
    Calls Tryz.prog f vs w fun e w' => ∃ v, e = .returned v ∧ Below w.heap.size w w' := by
  let ρ : Nm → Rz := fun _ => Rz.of none undef
  refine (ev_sound (E := EN) (fun C => @drS_ok C _ mixed0) (fun f cap (h : (none : Option Nat) = some _) => nomatch h) (κ := Kp.nothing) (.none fun _ => rfl) f (args.map .p) [] _ hev w ρ (SZ w) vs ⟨trivial, fun _ q => q.elim⟩ (Core.base0 w ρ) (by simp [hn]) (fun j hj => ?_)).mono ?_
  · rw [List.length_map] at hj
    have : (args.map Dv.p).getD j ud = .p (args.getD j .undef) := by
      rw [List.getD_eq_getElem?_getD, List.getElem?_map, List.getD_eq_getElem?_getD]
      cases args[j]? <;> rfl
    rw [this]
    exact .p (hv j hj)
  · rintro e w' ⟨v, ρ', S', rfl, hc, hd⟩
    have hF : ∀ b, ¬ (cx0 w (SZ w) ρ []).F b := by
      rintro b ⟨m, q1, _⟩
      cases m <;> simp [getOb] at q1
    exact ⟨v, rfl, hc.os, hc.tape, hc.output, hc.ws, fun k hk => hc.fr k hk (hF k)⟩
theorem sort_calls (zs : List El) (h1 : zs.length ≤ 1) {w : World} {v : Value} (hv : VP (SZ w) w (.sl 4 (zs.map elP)) v) :
    Calls Tryz.prog 185 #[v, .func (.func 158) #[] #[]] w fun e w' => ∃ v, e = .returned v ∧ Below w.heap.size w w' := by
  have hs : ev EN 185 ([Pd.sl 4 (zs.map elP), Pd.fn 158].map .p) [] = some ([], []) := by
    match zs, h1 with
    | [], _ => exact sort0
    | [x], _ => exact sort1 x.1 x.2.2.2 x.2.1 x.2.2.1
  refine ev_calls0 hs rfl fun j hj => ?_
  have hj : j = 0 ∨ j = 1 := by simp at hj; omega
  rcases hj with rfl | rfl
  · exact hv
  · exact .fn
def sameB : List El → List El → Bool
  | [], [] => true
  | [x], [y] => decide (x.1 = y.1) && ((x.2.1 == y.2.1) && ((x.2.2.1 == y.2.2.1) && decide (x.2.2.2 = y.2.2.2)))
  | _, _ => false
theorem equal_calls (xs ys : List El) (h1 : xs.length ≤ 1) (h2 : ys.length = xs.length) {w : World} {u v : Value} (hu : VP (SZ w) w (.sl 4 (xs.map elP)) u) (hv : VP (SZ w) w (.sl 4 (ys.map elP)) v) :
    Calls Tryz.prog 129 #[u, v] w fun e w' => e = .returned (.bool (sameB xs ys)) ∧ Below w.heap.size w w' := by
  have hs : ev EN 129 ([Pd.sl 4 (xs.map elP), Pd.sl 4 (ys.map elP)].map .p) [] = some ([.p (.bool (sameB xs ys))], []) := by
    match xs, ys, h1, h2 with
    | [], [], _, _ => exact equal0
    | [x], [y], _, _ => exact equal1 x.1 y.1 x.2.2.2 y.2.2.2 x.2.1 y.2.1 x.2.2.1 y.2.2.1
  refine (ev_callsK (E := EN) (fun C => @drS_ok C _ mixed0) (fun f cap (h : (none : Option Nat) = some _) => nomatch h) (κ := Kp.nothing) (.none fun _ => rfl) hs trivial (fun _ q => q.elim) rfl fun j hj => ?_).mono ?_
  · have hj : j = 0 ∨ j = 1 := by simp at hj; omega
    rcases hj with rfl | rfl
    · exact hu
    · exact hv
  · rintro e w' ⟨v, S', rfl, h, hb⟩
    cases h
    exact ⟨rfl, hb⟩
end
theorem sorted_calls (zs : List El) (h1 : zs.length ≤ 1) (Bs : Nat) (sv : Value) (w : World) (hBs : Bs < w.heap.size) (hc : w.cell? ⟨Bs, 0, none⟩ = some sv) (hI : Args w.heap.size w sv zs) :
    Calls Tryz.prog 162 #[.func (.func 186) #[] #[.pointer (some ⟨Bs, 0, none⟩)], .func (.func 158) #[] #[]] w fun e w' => ∃ a len cap, e = .returned (.slice a len cap) ∧ VP (SZ w') w' (.sl 4 (zs.map elP)) (.slice a len cap) ∧ Below w.heap.size w w' := by
  have cC := (callsIn_wide (n := 4)).1 (collect_in Fence.wide 4 trivial trivial trivial rfl (Nat.le_refl _) Bs sv zs (by omega) w hBs hc hI)
  go_enter Tryz.func162, Tryz.ntmps162
  go_wp2_with (go_at_call 184; refine cC.mono ?_; rintro e w1 ⟨v, rfl, ho, hb⟩; obtain ⟨hv, a, len, cap, rfl⟩ := vp_of_owns ho)
  refine (sort_calls zs h1 hv).mono ?_
  rintro e w2 ⟨u, rfl, hb2⟩
  go_wp2
  go_ret
  exact ⟨_, _, _, rfl, hv.belowZ hb2, hb.trans (hb2.mono hb.size)⟩
theorem Args.mono {n m : Nat} (hnm : n ≤ m) {W : World} {sv : Value} {zs : List El} : Args n W sv zs → Args m W sv zs
  | .inl e => .inl e
  | .inr ⟨b, off, cap, e, hb, hc⟩ => .inr ⟨b, off, cap, e, Nat.lt_of_lt_of_le hb hnm, hc⟩
theorem same_calls (xs ys : List El) (h1 : xs.length ≤ 1) (h2 : ys.length = xs.length) {S : Nat → Nat → Prop} {w : World} (hS : ∀ b o, S b o → b < w.heap.size) {u v : Value} (hu : VP S w (.sl 4 (xs.map elP)) u) (hv : VP S w (.sl 4 (ys.map elP)) v) :
    Calls Tryz.prog 111 #[u, v] w fun e w' => e = .returned (.bool (sameB xs ys)) ∧ Below w.heap.size w w' := by
  obtain ⟨aU, a1, l1, c1, rfl⟩ := args_of_vp hu hS
  obtain ⟨aV, a2, l2, c2, rfl⟩ := args_of_vp hv hS
  have cV := fun (a : Option Addr) (len cap : Nat) (w : World) => (callsIn_wide (n := 1)).1 (values_in Fence.wide 1 trivial rfl a len cap w)
  go_enter Tryz.func111, Tryz.ntmps111
  go_wp2_with (go_at_call 163; refine (cV _ _ _ _).mono ?_; rintro e w1 ⟨rfl, rfl⟩)
  have hbA : Below w.heap.size w (w.alloc (.cells #[.slice a1 l1 c1] 45)) := (Below.refl _ w).alloc (Nat.le_refl _) _
  refine (sorted_calls xs h1 w.heap.size (.slice a1 l1 c1) _ (by simp) (cell_new _ _ _ 0) ((aU.below hbA).mono hbA.size)).mono ?_
  rintro e w2 ⟨a, len, cap, rfl, hA, hb2⟩
  have hbB : Below w.heap.size w w2 := hbA.trans (hb2.mono hbA.size)
  go_wp2_with (go_at_call 163; refine (cV _ _ _ _).mono ?_; rintro e w1 ⟨rfl, rfl⟩)
  have hbC : Below w2.heap.size w2 (w2.alloc (.cells #[.slice a2 l2 c2] 45)) := (Below.refl _ w2).alloc (Nat.le_refl _) _
  have hbD := hbB.trans (hbC.mono hbB.size)
  refine (sorted_calls ys (by omega) w2.heap.size (.slice a2 l2 c2) _ (by simp) (cell_new _ _ _ 0) ((aV.below hbD).mono hbD.size)).mono ?_
  rintro e w4 ⟨a', len', cap', rfl, hC, hb4⟩
  have hbE : Below w2.heap.size w2 w4 := hbC.trans (hb4.mono hbC.size)
  have cE := equal_calls xs ys h1 h2 (hA.belowZ hbE) hC
  go_wp2_with (go_at_call 129; refine cE.mono ?_; rintro e w5 ⟨rfl, hb5⟩)
  go_ret
  exact ⟨rfl, (hbB.trans (hbE.mono hbB.size)).trans (hb5.mono (hbB.trans (hbE.mono hbB.size)).size)⟩
end Go.Proofs.YtambpnaakfodhaaGreatDoor.Dm
