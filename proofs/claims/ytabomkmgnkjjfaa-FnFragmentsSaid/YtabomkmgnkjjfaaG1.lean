/- Drawn things: the source of choices, what it gives. -/
import Derived.Test.YtabomkmgnkjjfaaT6
namespace Go.Proofs.Ytabomkmgnkjjfaa.Dm
set_option linter.unusedVariables false
set_option linter.unusedSimpArgs false

structure Src where
  code : List Int
  at_ : Int
  seed : Int
def encB (n : Int) : List Pd := [.int .u8 n]
def Src.enc (s : Src) : List Pd := [.sl 1 (s.code.map encB), .int .i64 s.at_, .int .i64 s.seed]
/-- m more choices may be made -/
structure okSrc (m : Nat) (s : Src) : Prop where
  b : ∀ n ∈ s.code, 0 ≤ n ∧ n < 256
  l : s.code.length ≤ 1152921504606846976
  a0 : 0 ≤ s.at_
  a1 : s.at_ + m ≤ 1152921504606846976
  s0 : 0 ≤ s.seed
  s1 : s.seed < 2147483648
theorem okSrc.le {m k : Nat} {s : Src} (h : okSrc m s) (hk : k ≤ m) : okSrc k s := ⟨h.b, h.l, h.a0, by have := h.a1; omega, h.s0, h.s1⟩
abbrev rG (v : Int) (s : Src) : Option Res := some ([.p (.int .i64 v)], [.box 3 s.enc])
theorem fill_enc (s s' : Src) : fillF s.enc s'.enc = s'.enc := rfl
theorem fbox_enc (s s' : Src) : asFbox 3 s.enc (.box 3 s'.enc) = some s'.enc := rfl
theorem gI {R : Type} (v : Int) (s s' : Src) (K : Int → List Pd → Option R) : ((rG v s').bind fun r => (asInt .i64 (pAt 0 r.1)).bind fun n => if r.1.length = 1 then ((asFbox 3 s.enc (r.2.getD 0 .none)).bind fun c => if r.2.length = 1 then K n c else none) else none) = K v s'.enc := by
  simp [pAt, asInt, fbox_enc]
theorem wrap64 {n : Int} (h : -9223372036854775808 ≤ n ∧ n ≤ 9223372036854775807) : IntKind.i64.wrap n = n := wrap_id h
theorem tmod_pos {a b : Int} (ha : 0 ≤ a) (hb : 0 < b) : 0 ≤ a.tmod b ∧ a.tmod b < b := by
  rw [Int.tmod_eq_emod_of_nonneg ha]
  exact ⟨Int.emod_nonneg _ (by omega), Int.emod_lt_of_pos _ hb⟩
theorem byte_ev {m : Nat} {s : Src} (h : okSrc (m + 1) s) : ∃ v s', ev E0 F_spec_l00Src_byte [.ptr (.out 0) 0] [.box 3 s.enc] = rG v s' ∧ (0 ≤ v ∧ v < 256) ∧ okSrc m s' := by
  obtain ⟨hb, hl, h0, h1, h2, h3⟩ := h
  have g0 : s.enc.getD 0 .undef = .sl 1 (s.code.map encB) := rfl
  have g1 : s.enc.getD 1 .undef = .int .i64 s.at_ := rfl
  have g2 : s.enc.getD 2 .undef = .int .i64 s.seed := rfl
  have a1 : ∀ n, asInt .i64 (.int .i64 n) = some n := fun n => rfl
  have a2 : ∀ l, asSl 1 (.sl 1 l) = some l := fun l => rfl
  have w1 : IntKind.i64.wrap (s.at_ + 1) = s.at_ + 1 := wrap64 (by omega)
  have w2 : IntKind.i64.wrap (s.at_ + 1 - 1) = s.at_ := by rw [wrap64 (by omega)]; omega
  rw [spec_l00Src_byte_0_ev, spec_l00Src_byte_0_eq, g0, g1, g2]
  simp only [a1, a2, Option.bind_some, w1, w2, List.length_map]
  by_cases hc : s.at_ + 1 ≤ (s.code.length : Int)
  · rw [decide_eq_true hc, cond_true]
    have hi : s.at_.toNat < s.code.length := by omega
    have hx : (s.code.map encB).getD s.at_.toNat [] = encB s.code[s.at_.toNat] := by simp [List.getD_eq_getElem?_getD, hi]
    have hr := hb _ (List.getElem_mem hi)
    have e1 : asInt .u8 ((encB s.code[s.at_.toNat]).getD 0 .undef) = some s.code[s.at_.toNat] := rfl
    rw [if_pos (by omega), hx, e1, Option.bind_some, if_pos (by omega), Option.bind_some]
    generalize s.code[s.at_.toNat] = b at hr
    have w3 : IntKind.i64.wrap b = b := wrap64 (by omega)
    have w4 : IntKind.i64.wrap (s.seed * 31) = s.seed * 31 := wrap64 (by omega)
    have w5 : IntKind.i64.wrap (s.seed * 31 + b) = s.seed * 31 + b := wrap64 (by omega)
    have w6 : IntKind.i64.wrap (s.seed * 31 + b + 7) = s.seed * 31 + b + 7 := wrap64 (by omega)
    rw [w3, w4, w5, w6]
    have ht := tmod_pos (a := s.seed * 31 + b + 7) (b := 2147483648) (by omega) (by omega)
    exact ⟨b, ⟨s.code, s.at_ + 1, (s.seed * 31 + b + 7).tmod 2147483648⟩, rfl, hr, hb, hl, by show 0 ≤ s.at_ + 1; omega, by show s.at_ + 1 + (m : Int) ≤ _; omega, ht.1, ht.2⟩
  · rw [decide_eq_false hc, cond_false]
    by_cases hd : s.at_ + 1 > 3000
    · rw [decide_eq_true hd, cond_true]
      exact ⟨0, ⟨s.code, s.at_ + 1, s.seed⟩, rfl, by omega, hb, hl, by show 0 ≤ s.at_ + 1; omega, by show s.at_ + 1 + (m : Int) ≤ _; omega, h2, h3⟩
    · rw [decide_eq_false hd, cond_false]
      have w3 : IntKind.i64.wrap (s.seed * 1103515245) = s.seed * 1103515245 := wrap64 (by omega)
      have w4 : IntKind.i64.wrap (s.seed * 1103515245 + 12345) = s.seed * 1103515245 + 12345 := wrap64 (by omega)
      rw [w3, w4]
      have ht := tmod_pos (a := s.seed * 1103515245 + 12345) (b := 2147483648) (by omega) (by omega)
      generalize (s.seed * 1103515245 + 12345).tmod 2147483648 = x at ht
      have hq : 0 ≤ x.tdiv 65536 ∧ x.tdiv 65536 ≤ 2147483648 := by
        rw [Int.tdiv_eq_ediv_of_nonneg ht.1]
        omega
      rw [wrap64 (n := x.tdiv 65536) (by omega)]
      have hv := tmod_pos (a := x.tdiv 65536) (b := 256) hq.1 (by omega)
      exact ⟨(x.tdiv 65536).tmod 256, ⟨s.code, s.at_ + 1, x⟩, rfl, hv, hb, hl, by show 0 ≤ s.at_ + 1; omega, by show s.at_ + 1 + (m : Int) ≤ _; omega, ht.1, ht.2⟩
/-- one of 0 to n - 1 -/
theorem next_ev {m : Nat} {s : Src} {n : Int} (hn : 1 ≤ n ∧ n ≤ 256) (h : okSrc (m + 1) s) : ∃ v s', ev E0 F_spec_l00Src_next [.ptr (.out 0) 0, .p (.int .i64 n)] [.box 3 s.enc] = rG v s' ∧ (0 ≤ v ∧ v < n) ∧ okSrc m s' := by
  rw [spec_l00Src_next_0_ev, spec_l00Src_next_0_eq]
  by_cases h1 : n ≤ 1
  · rw [decide_eq_true h1, cond_true]
    exact ⟨0, s, rfl, by omega, h.le (by omega)⟩
  · rw [decide_eq_false h1, cond_false, decide_eq_true (by omega), cond_true]
    obtain ⟨v, s', e, hv, ho⟩ := byte_ev h
    rw [e, gI, if_neg (by omega), fill_enc]
    have := tmod_pos (a := v) (b := n) hv.1 (by omega)
    exact ⟨v.tmod n, s', rfl, this, ho⟩
abbrev rGB (v : Bool) (s : Src) : Option Res := some ([.p (.bool v)], [.box 3 s.enc])
theorem gB {R : Type} (v : Bool) (s s' : Src) (K : Bool → List Pd → Option R) : ((rGB v s').bind fun r => (asBool (pAt 0 r.1)).bind fun n => if r.1.length = 1 then ((asFbox 3 s.enc (r.2.getD 0 .none)).bind fun c => if r.2.length = 1 then K n c else none) else none) = K v s'.enc := by
  simp [pAt, asBool, fbox_enc]
theorem chance_ev {m : Nat} {s : Src} {n : Int} (hn : 1 ≤ n ∧ n ≤ 256) (h : okSrc (m + 1) s) : ∃ v s', ev E0 F_spec_l00Src_chance [.ptr (.out 0) 0, .p (.int .i64 n)] [.box 3 s.enc] = rGB v s' ∧ okSrc m s' := by
  obtain ⟨v, s', e, hv, ho⟩ := next_ev hn h
  rw [spec_l00Src_chance_0_ev, spec_l00Src_chance_0_eq, e, gI, fill_enc]
  exact ⟨_, s', rfl, ho⟩
abbrev rGS (v : ByteArray) (s : Src) : Option Res := some ([.p (.str v)], [.box 3 s.enc])
theorem gS {R : Type} (v : ByteArray) (s s' : Src) (K : ByteArray → List Pd → Option R) : ((rGS v s').bind fun r => (asStr (pAt 0 r.1)).bind fun n => if r.1.length = 1 then ((asFbox 3 s.enc (r.2.getD 0 .none)).bind fun c => if r.2.length = 1 then K n c else none) else none) = K v s'.enc := by
  simp [pAt, asStr, fbox_enc]
theorem pick_ev {m : Nat} {s : Src} {ws : List ByteArray} (h1 : 1 ≤ ws.length) (h2 : ws.length ≤ 256) (h : okSrc (m + 1) s) : ∃ v s', ev E0 F_spec_l00Src_pick [.ptr (.out 0) 0, .p (.sl 1 (ws.map encS))] [.box 3 s.enc] = rGS v s' ∧ v ∈ ws ∧ okSrc m s' := by
  have hl : (ws.map encS).length = ws.length := by simp
  rw [spec_l00Src_pick_0_ev, spec_l00Src_pick_0_eq, hl, show ((ws.length : Int) == 0) = false by rw [beq_int]; exact decide_eq_false (by omega), cond_false]
  obtain ⟨v, s', e, hv, ho⟩ := next_ev (n := ws.length) (by omega) h
  rw [e, gI, if_pos (by omega), fill_enc]
  have hi : v.toNat < ws.length := by omega
  have hx : asStr (((ws.map encS).getD v.toNat []).getD 0 .undef) = some ws[v.toNat] := by
    simp [List.getD_eq_getElem?_getD, hi, encS, asStr]
  rw [hx, Option.bind_some]
  exact ⟨_, s', rfl, List.getElem_mem hi, ho⟩
theorem source_ev {code : List Int} : ev E0 F_spec_l00Source [.p (.sl 1 (code.map encB))] [] = some ([.ptr (.out 0) 0], [.box 3 (Src.enc ⟨code, 0, (code.length : Int).tmod 1000⟩)]) := by
  rw [spec_l00Source_0_ev, spec_l00Source_0_eq, List.length_map]
  rfl
theorem source_ok {code : List Int} (h : ∀ n ∈ code, 0 ≤ n ∧ n < 256) (hl : code.length ≤ 1152921504606846976) {m : Nat} (hm : m ≤ 1152921504606846976) : okSrc m ⟨code, 0, (code.length : Int).tmod 1000⟩ := by
  have := tmod_pos (a := (code.length : Int)) (b := 1000) (by omega) (by omega)
  exact ⟨h, hl, by show (0 : Int) ≤ 0; omega, by show (0 : Int) + (m : Int) ≤ _; omega, this.1, by show (code.length : Int).tmod 1000 < _; omega⟩
end Go.Proofs.Ytabomkmgnkjjfaa.Dm
