/- One selection: the program's judgement and the reference's are one. -/
import Derived.Test.YtmnoibkdmeajpaaGreatT3
namespace Go.Proofs.YtmnoibkdmeajpaaGreat.Dm
set_option linter.unusedVariables false
set_option linter.unusedSimpArgs false
theorem allLoop {L : Int → Option Res} {bs : List Bool} {D : Option Res} (step : ∀ (i : Nat) (b : Bool), bs[i]? = some b → L i = bif b then L ((i : Int) + 1) else rB false) (done : L bs.length = D) :
 ∀ (k i : Nat), i + k = bs.length → L i = bif (bs.drop i).all id then D else rB false
 | 0, i, h => by
  have : i = bs.length := by omega
  subst this
  rw [done, List.drop_length]
  rfl
 | k + 1, i, h => by
  have hlt : i < bs.length := by omega
  rw [step i bs[i] (List.getElem?_eq_getElem hlt), List.drop_eq_getElem_cons hlt, List.all_cons]
  have := allLoop step done k (i + 1) (by omega)
  have e : ((i + 1 : Nat) : Int) = (i : Int) + 1 := by omega
  rw [e] at this
  cases hb : bs[i] with
  | true => rw [cond_true, this]; rfl
  | false => rfl
theorem idxLoop {L : Int → Option Res} {bs : List Bool} (step : ∀ (i : Nat) (b : Bool), bs[i]? = some b → L i = bif b then rI i else L ((i : Int) + 1)) (done : L bs.length = rI (-1)) :
 ∀ (k i : Nat), i + k = bs.length → ∃ n : Int, L i = rI n ∧ decide (n ≥ 0) = (bs.drop i).any id
 | 0, i, h => by
  have : i = bs.length := by omega
  subst this
  exact ⟨-1, done, by rw [List.drop_length]; rfl⟩
 | k + 1, i, h => by
  have hlt : i < bs.length := by omega
  obtain ⟨n, h1, h2⟩ := idxLoop step done k (i + 1) (by omega)
  have e : ((i + 1 : Nat) : Int) = (i : Int) + 1 := by omega
  rw [e] at h1
  rw [step i bs[i] (List.getElem?_eq_getElem hlt), List.drop_eq_getElem_cons hlt, List.any_cons]
  cases hb : bs[i] with
  | true => exact ⟨i, rfl, by simp⟩
  | false => exact ⟨n, h1, by rw [h2]; rfl⟩
theorem getD_drop1 {α : Type} {f : α → List Pd} {xs : List α} {i : Nat} {x : α} (h : xs[i]? = some x) : ((xs.map f).getD (i : Int).toNat []).drop 1 = (f x).drop 1 := by rw [getD_enc h]
def argB (a : GArg) : Bool := nameB a.name && valueB a.val
def dirB (d : GDir) : Bool := valueB d.val
abbrev sOn : ByteArray := ⟨#[111, 110]⟩
abbrev sNone : ByteArray := ⟨#[]⟩
def kindB (k : Int) (al nm : ByteArray) (na ns : Nat) : Bool :=
 if k = 1 then nameB nm && (decide (al = sNone) || nameB al)
 else if k = 2 then nameB nm && !decide (nm = sOn) && decide (al = sNone) && decide (na = 0) && decide (ns = 0)
 else if k = 3 then (decide (nm = sNone) || nameB nm) && decide (al = sNone) && decide (na = 0) && decide (0 < ns)
 else false
def selB : GSel → Bool
 | .mk k al nm args dirs sels => dirs.all dirB && (args.all argB && (decide (dirs.length ≤ 4) && decide (args.length ≤ 4) && kindB k al nm args.length sels.length))
theorem int_eq0 (n : Nat) : ((n : Int) == 0) = decide (n = 0) := by
 by_cases h : n = 0 <;> simp [h]
theorem int_gt0 (n : Nat) : decide ((n : Int) > 0) = decide (0 < n) := by
 by_cases h : 0 < n
 ·rw [decide_eq_true h, decide_eq_true (by omega)]
 ·rw [decide_eq_false h, decide_eq_false (by omega)]
theorem spec_kind {k : Int} {al nm : ByteArray} (h1 : al.size ≤ 9223372036854775807) (h2 : nm.size ≤ 9223372036854775807) (l4 l5 l6 : List (List Pd)) : zdx_4 false k al nm l4 l5 l6 = rB (kindB k al nm l4.length l6.length) := by
 rw [zdx_4_eq, cond_false, spec_NameOK_ev h1, spec_NameOK_ev h2]
 simp only [bB, beq_int k, int_eq0, int_gt0]
 unfold kindB
 by_cases c1 : k = 1
 ·simp only [c1, decide_true, cond_true, if_true]
  cases nameB nm <;> cases decide (al = sNone) <;> simp
 ·by_cases c2 : k = 2
  ·simp only [c1, c2, decide_true, decide_false, cond_true, cond_false, if_true, if_false]
   cases nameB nm <;> cases decide (nm = sOn) <;> cases decide (al = sNone) <;> cases decide (l4.length = 0) <;> simp
  ·by_cases c3 : k = 3
   ·simp only [c1, c2, c3, decide_true, decide_false, cond_true, cond_false, if_true, if_false]
    cases nameB nm <;> cases decide (nm = sNone) <;> cases decide (al = sNone) <;> cases decide (l4.length = 0) <;> simp
   ·simp only [c1, c2, c3, decide_false, cond_false, if_false]
theorem spec_l02Sel_ev : ∀ (x : GSel), okSel x → ev E0 F_zdx [.p (.agg 6 x.enc)] [] = rB (selB x)
 | .mk k al nm args dirs sels, hx => by
  obtain ⟨x1, x2, x3, x4, x5, x6⟩ := hx
  unfold GSel.enc selB
  rw [GSel.encs_eq, zdx_0_ev, zdx_0_eq]
  have d1 := allLoop (L := fun i => zdx_1 i k al nm (args.map GArg.enc) (dirs.map GDir.enc) (sels.map GSel.enc)) (bs := dirs.map dirB) (D := zdx_2 0 k al nm (args.map GArg.enc) (dirs.map GDir.enc) (sels.map GSel.enc)) (fun i b hb => by
   rw [List.getElem?_map] at hb
   obtain ⟨d, hd, rfl⟩ := Option.map_eq_some_iff.1 hb
   have hlt := lt_of_get hd
   have hlen : (dirs.map GDir.enc).length = dirs.length := by simp
   have := x4.1
   rw [zdx_1_eq, hlen, decide_eq_true (by omega), cond_true, if_pos (by omega), getD_drop1 hd]
   have e : (GDir.enc d).drop 1 = [.int .i64 d.val.kind, .int .i64 d.val.n, .str d.val.t] := rfl
   rw [e, spec_ValueOK_ev (x4.2 d (List.mem_of_getElem? hd)), bB, wrap_id (by omega)]
   unfold dirB
   cases valueB d.val <;> rfl) (by
   have hlen : (dirs.map GDir.enc).length = (dirs.map dirB).length := by simp
   rw [zdx_1_eq, hlen]
   exact szDone) (dirs.map dirB).length 0 (Nat.zero_add _)
  have d2 := allLoop (L := fun i => zdx_2 i k al nm (args.map GArg.enc) (dirs.map GDir.enc) (sels.map GSel.enc)) (bs := args.map argB) (D := rB (decide (dirs.length ≤ 4) && decide (args.length ≤ 4) && kindB k al nm args.length sels.length)) (fun i b hb => by
   rw [List.getElem?_map] at hb
   obtain ⟨d, hd, rfl⟩ := Option.map_eq_some_iff.1 hb
   have hlt := lt_of_get hd
   have hlen : (args.map GArg.enc).length = args.length := by simp
   have hok := x3.2 d (List.mem_of_getElem? hd)
   have := x3.1
   rw [zdx_2_eq, hlen, decide_eq_true (by omega), cond_true, if_pos (by omega), getD_drop1 hd, getD_enc hd]
   have e : (GArg.enc d).drop 1 = [.int .i64 d.val.kind, .int .i64 d.val.n, .str d.val.t] := rfl
   have e0 : asStr ((GArg.enc d).getD 0 .undef) = some d.name := rfl
   rw [e, e0, Option.bind_some, spec_NameOK_ev hok.1, bB, spec_ValueOK_ev hok.2, bB]
   simp only [zdx_3_eq]
   rw [if_pos (by omega), wrap_id (by omega)]
   unfold argB
   cases nameB d.name <;> cases valueB d.val <;> simp only [Bool.not_true, Bool.not_false, cond_true, cond_false, Bool.and_true, Bool.and_false, Bool.true_and, Bool.false_and]) (by
   have hlen : (args.map GArg.enc).length = (args.map argB).length := by simp
   rw [zdx_2_eq, hlen, decide_eq_false (by omega), cond_false]
   have h1 : (dirs.map GDir.enc).length = dirs.length := by simp
   have h2 : (args.map argB).length = args.length := by simp
   rw [h1, h2]
   by_cases c1 : (dirs.length : Int) > 4
   ·have : decide (dirs.length ≤ 4) = false := decide_eq_false (by omega)
    rw [decide_eq_true c1, cond_true, zdx_4_eq, cond_true, this]
    rfl
   ·have : decide (dirs.length ≤ 4) = true := decide_eq_true (by omega)
    rw [decide_eq_false c1, cond_false, this]
    by_cases c2 : (args.length : Int) > 4
    ·have : decide (args.length ≤ 4) = false := decide_eq_false (by omega)
     rw [decide_eq_true c2, zdx_4_eq, cond_true, this]
     rfl
    ·have : decide (args.length ≤ 4) = true := decide_eq_true (by omega)
     rw [decide_eq_false c2, this, spec_kind x1 x2, List.length_map, List.length_map]
     rfl) (args.map argB).length 0 (Nat.zero_add _)
  have e0 : ((0 : Nat) : Int) = 0 := rfl
  rw [e0] at d1 d2
  rw [d1, d2, List.drop_zero, List.drop_zero]
  have a1 : (dirs.map dirB).all id = dirs.all dirB := by simp [List.all_map]
  have a2 : (args.map argB).all id = args.all argB := by simp [List.all_map]
  rw [a1, a2]
  rcases Bool.eq_false_or_eq_true (dirs.all dirB) with q1 | q1 <;> rcases Bool.eq_false_or_eq_true (args.all argB) with q2 | q2 <;> simp only [q1, q2, cond_true, cond_false, Bool.true_and, Bool.false_and]
theorem contains_args {args : List GArg} (h : okL okArg args) : ev E0 F_zde [.p (.sl 4 (args.map GArg.enc)), .p (.fn F_zam)] [] = rB (!args.all argB) := by
 have hi : ∃ n : Int, ev E0 F_zdh [.p (.sl 4 (args.map GArg.enc)), .p (.fn F_zam)] [] = rI n ∧ decide (n ≥ 0) = ((args.map fun a => !argB a).drop 0).any id := by
  rw [zdh_0_ev, zdh_0_eq]
  refine idxLoop (L := fun i => zdh_1 (args.map GArg.enc) ((args.map GArg.enc).length : Int) i) (bs := args.map fun a => !argB a) (fun i b hb => ?_) ?_ (args.map fun a => !argB a).length 0 (Nat.zero_add _)
  ·rw [List.getElem?_map] at hb
   obtain ⟨d, hd, rfl⟩ := Option.map_eq_some_iff.1 hb
   have hlt := lt_of_get hd
   have hlen : (args.map GArg.enc).length = args.length := by simp
   have hok := h.2 d (List.mem_of_getElem? hd)
   have := h.1
   have hf : ev E0 F_zam [.p (.agg 4 d.enc)] [] = rB (!argB d) := by
    unfold GArg.enc
    rw [zam_0_ev, zam_0_eq, impl_NameOK_ev hok.1, bB, impl_ValueOK_ev hok.2, bB]
    unfold argB
    cases nameB d.name <;> rfl
   rw [zdh_1_eq, hlen, decide_eq_true (by omega), cond_true, if_pos (by omega), getD_enc hd, hf, bB, wrap_id (by omega)]
  ·have hlen : (args.map GArg.enc).length = (args.map fun a => !argB a).length := by simp
   rw [zdh_1_eq, hlen]
   exact szDone
 obtain ⟨n, h1, h2⟩ := hi
 rw [zde_0_ev, zde_0_eq, h1, bI, h2, List.drop_zero]
 simp [List.any_map, List.all_eq_not_any_not]
theorem contains_dirs {dirs : List GDir} (h : okL okDir dirs) : ev E0 F_zdg [.p (.sl 4 (dirs.map GDir.enc)), .p (.fn F_zan)] [] = rB (!dirs.all dirB) := by
 have hi : ∃ n : Int, ev E0 F_zdk [.p (.sl 4 (dirs.map GDir.enc)), .p (.fn F_zan)] [] = rI n ∧ decide (n ≥ 0) = ((dirs.map fun a => !dirB a).drop 0).any id := by
  rw [zdk_0_ev, zdk_0_eq]
  refine idxLoop (L := fun i => zdk_2 (dirs.map GDir.enc) ((dirs.map GDir.enc).length : Int) i) (bs := dirs.map fun a => !dirB a) (fun i b hb => ?_) ?_ (dirs.map fun a => !dirB a).length 0 (Nat.zero_add _)
  ·rw [List.getElem?_map] at hb
   obtain ⟨d, hd, rfl⟩ := Option.map_eq_some_iff.1 hb
   have hlt := lt_of_get hd
   have hlen : (dirs.map GDir.enc).length = dirs.length := by simp
   have hok := h.2 d (List.mem_of_getElem? hd)
   have := h.1
   have hf : ev E0 F_zan [.p (.agg 4 d.enc)] [] = rB (!dirB d) := by
    unfold GDir.enc
    rw [zan_0_ev, zan_0_eq, impl_ValueOK_ev hok, bB]
    rfl
   rw [zdk_2_eq, hlen, decide_eq_true (by omega), cond_true, if_pos (by omega), getD_enc hd, hf, bB, wrap_id (by omega)]
  ·have hlen : (dirs.map GDir.enc).length = (dirs.map fun a => !dirB a).length := by simp
   rw [zdk_2_eq, hlen]
   exact szDone
 obtain ⟨n, h1, h2⟩ := hi
 rw [zdg_0_ev, zdg_0_eq, h1, bI, h2, List.drop_zero]
 simp [List.any_map, List.all_eq_not_any_not]
end Go.Proofs.YtmnoibkdmeajpaaGreat.Dm
