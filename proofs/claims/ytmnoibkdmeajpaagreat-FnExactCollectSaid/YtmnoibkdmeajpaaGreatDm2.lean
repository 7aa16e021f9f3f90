/- The machine over plain data: steps and their continuations part; limits of rounds are fixpoints. -/
import Derived.Test.YtmnoibkdmeajpaaGreatDm1
namespace Go.Proofs.YtmnoibkdmeajpaaGreat.Dm
set_option linter.unusedSectionVars false
set_option linter.unusedVariables false
set_option linter.unusedSimpArgs false
def LeF {S R : Type} (a b : S → Option R) : Prop := ∀ s r, a s = some r → b s = some r
def Chain {S R : Type} (c : Nat → S → Option R) : Prop := ∀ n, LeF (c n) (c (n + 1))
theorem LeF.refl {S R : Type} (a : S → Option R) : LeF a a := fun _ _ h => h
theorem LeF.trans {S R : Type} {a b c : S → Option R} (h : LeF a b) (k : LeF b c) : LeF a c := fun s r q => k s r (h s r q)
theorem Chain.le {S R : Type} {c : Nat → S → Option R} (h : Chain c) {n m : Nat} (hm : n ≤ m) : LeF (c n) (c m) := by
 induction m with
 | zero => have : n = 0 := by omega
           subst this; exact LeF.refl _
 | succ m ih =>
  rcases Nat.lt_or_ge n (m + 1) with h1 | h1
  ·exact (ih (by omega)).trans (h m)
  ·have : n = m + 1 := by omega
   subst this; exact LeF.refl _
theorem lim_iff {S R : Type} {c : Nat → S → Option R} (h : Chain c) (s : S) (r : R) : lim c s = some r ↔ ∃ n, c n s = some r := by
 unfold lim
 split
 ·rename_i hx
  obtain ⟨n, hn⟩ := Classical.choose_spec hx
  constructor
  ·intro e
   injection e with e
   exact ⟨n, e ▸ hn⟩
  ·rintro ⟨m, hm⟩
   have h1 := h.le (Nat.le_max_left n m) s _ hn
   have h2 := h.le (Nat.le_max_right n m) s _ hm
   rw [h1] at h2
   exact h2
 ·rename_i hx
  constructor
  ·intro e; cases e
  ·rintro ⟨m, hm⟩; exact absurd ⟨r, m, hm⟩ hx
theorem le_lim {S R : Type} {c : Nat → S → Option R} (h : Chain c) (n : Nat) : LeF (c n) (lim c) := fun s r q => (lim_iff h s r).2 ⟨n, q⟩
theorem eq_of_iff {R : Type} {a b : Option R} (h : ∀ r, a = some r ↔ b = some r) : a = b := by
 cases a with
 | none => cases b with
  | none => rfl
  | some r => exact ((h r).2 rfl)
 | some r => exact ((h r).1 rfl).symm
def LeC (a b : CallF) : Prop := ∀ f as os r, a f as os = some r → b f as os = some r
def ChainC (c : Nat → CallF) : Prop := ∀ n, LeC (c n) (c (n + 1))
noncomputable def limC (c : Nat → CallF) : CallF := fun f as os => lim (fun n (x : FuncId × List Dv × List Ob) => c n x.1 x.2.1 x.2.2) (f, as, os)
theorem ChainC.chain {c : Nat → CallF} (h : ChainC c) : Chain (fun n (x : FuncId × List Dv × List Ob) => c n x.1 x.2.1 x.2.2) := fun n x r q => h n _ _ _ _ q
theorem ChainC.le {c : Nat → CallF} (h : ChainC c) {n m : Nat} (hm : n ≤ m) : LeC (c n) (c m) := fun f as os r q => h.chain.le hm (f, as, os) r q
theorem limC_iff {c : Nat → CallF} (h : ChainC c) (f : FuncId) (as : List Dv) (os : List Ob) (r : Res) : limC c f as os = some r ↔ ∃ n, c n f as os = some r := lim_iff h.chain (f, as, os) r
section
variable {R : Type}
def pr (d : Dv) (st : St) : Option (Dv × St) := some (d, st)
theorem cellAs_bind (P : Program) (t : TypeId) (x : Pd) (k : Dv → Option R) : cellAs P t x k = (cellAs P t x some).bind k := by
 unfold cellAs
 split <;> simp only [Option.bind_assoc, Option.bind_some, Option.bind_none] <;> rfl
theorem cellDv_bind (P : Program) (t : TypeId) (d : Dv) (k : Dv → Option R) : cellDv P t d k = (cellDv P t d some).bind k := by
 unfold cellDv
 split
 ·exact cellAs_bind ..
 ·split <;> rfl
theorem loadD_bind (P : Program) (st : St) (t : TypeId) (a : Dv) (k : Dv → Option R) : loadD P st t a k = (loadD P st t a some).bind k := by
 unfold loadD
 repeat' (first | rfl | exact cellAs_bind .. | exact cellDv_bind .. | (rw [Option.bind_assoc]; rfl) | split)
theorem lookD_bind (P : Program) (st : St) (t : TypeId) (m x : Dv) (ok : Bool) (k : Dv → Option R) : lookD P st t m x ok k = (lookD P st t m x ok some).bind k := by
 unfold lookD
 repeat' (first | rfl | split)
 rename_i z _
 rw [cellAs_bind]
 conv => rhs; rw [cellAs_bind]
 rw [Option.bind_assoc]
 rfl
theorem setMapD_bind (P : Program) (st : St) (t : TypeId) (m x y : Dv) (k : St → Option R) : setMapD P st t m x y k = (setMapD P st t m x y some).bind k := by
 unfold setMapD
 repeat' (first | rfl | split)
theorem fieldAddrD_bind (P : Program) (t : TypeId) (f : Nat) (a : Dv) (k : Dv → Option R) : fieldAddrD P t f a k = (fieldAddrD P t f a some).bind k := by
 unfold fieldAddrD
 repeat' (first | rfl | split)
theorem indexAddrD_bind (P : Program) (st : St) (t : TypeId) (x i : Dv) (k : Dv → Option R) : indexAddrD P st t x i k = (indexAddrD P st t x i some).bind k := by
 unfold indexAddrD
 repeat' (first | rfl | split)
theorem indexD_bind (x i : Dv) (k : Dv → Option R) : indexD x i k = (indexD x i some).bind k := by
 unfold indexD
 repeat' (first | rfl | split)
theorem lenD_bind (P : Program) (t : TypeId) (st : St) (x : Dv) (k : Dv → Option R) : lenD P t st x k = (lenD P t st x some).bind k := by
 unfold lenD
 repeat' (first | rfl | split)
theorem intD_bind (op : BinOp) (kk : IntKind) (a b : Int) (k : Dv → Option R) : intD op kk a b k = (intD op kk a b some).bind k := by
 unfold intD
 repeat' (first | rfl | split)
theorem strD_bind (op : BinOp) (a b : ByteArray) (k : Dv → Option R) : strD op a b k = (strD op a b some).bind k := by
 unfold strD
 repeat' (first | rfl | split)
theorem eqGo_bind (P : Program) (rc : ∀ {Q : Type}, TypeId → List Pd → List Pd → (Bool → Option Q) → Option Q) (hrc : ∀ {Q : Type} t xs ys (k : Bool → Option Q), rc t xs ys k = (rc t xs ys some).bind k) (n : Nat) :
 ∀ (fs : List Field) (xs ys : List Pd) (k : Bool → Option R), eqCells.go P n fs xs ys k rc = (eqCells.go P n fs xs ys some rc).bind k
 | [], xs, ys, k => rfl
 | f :: fs, xs, ys, k => by
  simp only [eqCells.go]
  split
  ·rfl
  ·rw [hrc, hrc (k := fun b => bif b then eqCells.go P n fs xs ys some rc else some false), Option.bind_assoc]
   congr 1
   funext b
   cases b
   ·rfl
   ·exact eqGo_bind P rc hrc n fs xs ys k
theorem eqCells_bind (P : Program) : ∀ (d : Nat) {R : Type} (t : TypeId) (xs ys : List Pd) (k : Bool → Option R), eqCells P d t xs ys k = (eqCells P d t xs ys some).bind k
 | 0, _, _, _, _, _ => rfl
 | d + 1, R, t, xs, ys, k => by
  unfold eqCells
  split <;> try simp only [Option.bind_assoc, Option.bind_some, Option.bind_none]
  split
  ·rfl
  ·exact eqGo_bind P (eqCells P d) (eqCells_bind P d) _ _ xs ys k
theorem binD_bind (P : Program) (op : BinOp) (t : TypeId) (x y : Dv) (k : Dv → Option R) : binD P op t x y k = (binD P op t x y some).bind k := by
 unfold binD
 repeat' (first | rfl | exact intD_bind .. | exact strD_bind .. | (rw [eqCells_bind, eqCells_bind (R := Dv), Option.bind_assoc]; rfl) | split)
theorem unD_bind (op : UnOp) (x : Dv) (k : Dv → Option R) : unD op x k = (unD op x some).bind k := by
 unfold unD
 repeat' (first | rfl | split)
theorem convD_bind (P : Program) (st : St) (src dst : TypeId) (x : Dv) (k : Dv → Option R) : convD P st src dst x k = (convD P st src dst x some).bind k := by
 unfold convD
 repeat' (first | rfl | (simp only [Option.bind_assoc, Option.bind_some]; done) | split)
theorem pickD_bind (b : Bool) (x y : Dv) (k : Dv → Option R) : pickD b x y k = (pickD b x y some).bind k := by
 unfold pickD
 split
 ·rfl
 ·cases b <;> rfl
def un2 (k : Dv → St → Option R) (q : Dv × St) : Option R := k q.1 q.2
theorem sliceD_bind (P : Program) (st : St) (t : TypeId) (x : Dv) (lo hi mx : Option Dv) (k : Dv → St → Option R) : sliceD P st t x lo hi mx k = (sliceD P st t x lo hi mx pr).bind (un2 k) := by
 unfold sliceD
 repeat' (first
  | rfl
  | (rw [Option.bind_assoc]; congr 1; funext es)
  | split)
theorem more_bind (P : Program) (st : St) (k : Dv → St → Option R) (L O : List Ob) (sz : Nat) (e : TypeId) (m : Nm) (ys : List (List Pd)) :
 appendD.more P st k L O sz e m ys = (appendD.more P st pr L O sz e m ys).bind (un2 k) := by
 unfold appendD.more
 repeat' (first | rfl | split)
variable [Cfg]
theorem appendO_bind (P : Program) (st : St) (e : TypeId) (m : Nm) (es : List (List Pd)) (y : Dv) (k : Dv → St → Option R) : appendO P st e m es y k = (appendO P st e m es y pr).bind (un2 k) := by
 rw [appendO_eq, appendO_eq P st e m es y pr]
 repeat' (first | rfl | split)
theorem appendD_bind (P : Program) (st : St) (s : Nat) (t : TypeId) (x y : Dv) (k : Dv → St → Option R) : appendD P st s t x y k = (appendD P st s t x y pr).bind (un2 k) := by
 rw [appendD_eq, appendD_eq P st s t x y pr]
 split
 ·split
  ·rfl
  ·split
   ·split
    ·exact appendO_bind ..
    ·rfl
   ·split
    ·repeat' (first | rfl | split)
    ·split
     ·rw [Option.bind_assoc]
      congr 1
      funext ys
      repeat' (first | rfl | exact more_bind .. | split)
     ·rfl
 ·rfl
theorem storeD_bind (P : Program) (st : St) (t : TypeId) (a v : Dv) (k : St → Option R) : storeD P st t a v k = (storeD P st t a v some).bind k := by
 rw [storeD_eq, storeD_eq P st t a v some]
 repeat' (first | rfl | split)
theorem castP_bind (P : Program) (t : TypeId) (x : Pd) (k : Pd → Option R) : castP P t x k = (castP P t x some).bind k := by
 unfold castP
 split <;> first | rfl | (rw [Option.bind_assoc]; rfl)
theorem castRs_bind (P : Program) (r : List Dv) (k : List Dv → Option R) : ∀ (ts : List TypeId) (i : Nat) (acc : List Dv), castRs P r k i ts acc = (castRs P r some i ts acc).bind k
 | [], i, acc => by simp only [castRs]; split <;> rfl
 | t :: ts, i, acc => by
  simp only [castRs]
  rw [castP_bind]
  conv => rhs; rw [castP_bind]
  rw [Option.bind_assoc]
  congr 1
  funext y
  exact castRs_bind P r k ts (i + 1) _
theorem castObs_bind (r : List Ob) (k : List Ob → Option R) : ∀ (l : List Ob) (i : Nat) (acc : List Ob), castObs r k i l acc = (castObs r some i l acc).bind k
 | [], i, acc => by simp only [castObs]; split <;> rfl
 | .box n cs :: l, i, acc => by
  simp only [castObs]
  rw [Option.bind_assoc]
  congr 1
  funext y
  exact castObs_bind r k l (i + 1) _
 | .arr e s b ro es :: l, i, acc => by
  simp only [castObs]
  rw [Option.bind_assoc]
  congr 1
  funext y
  exact castObs_bind r k l (i + 1) _
 | .map es :: l, i, acc => by
  simp only [castObs]
  rw [Option.bind_assoc]
  congr 1
  funext y
  exact castObs_bind r k l (i + 1) _
 | .none :: l, i, acc => rfl
 | .marr e s es lk :: l, i, acc => by
  simp only [castObs]
  rw [Option.bind_assoc]
  congr 1
  funext y
  exact castObs_bind r k l (i + 1) _
 | .gmap e s es lk :: l, i, acc => by
  simp only [castObs]
  rw [Option.bind_assoc]
  congr 1
  funext y
  exact castObs_bind r k l (i + 1) _
 | .oarr e s es :: l, i, acc => by
  simp only [castObs]
  rw [Option.bind_assoc]
  congr 1
  funext y
  exact castObs_bind r k l (i + 1) _
 | .mbox n ds :: l, i, acc => by
  simp only [castObs]
  rw [Option.bind_assoc]
  congr 1
  funext y
  exact castObs_bind r k l (i + 1) _
theorem nameOwn_bind (P : Program) (b : Nat) (xs : List Pd) (rows : List (List (List Pd))) (k : List Dv → List Ob → Option R) : ∀ (l : List (TypeId × Option (Nat × Nat))) (i c : Nat) (acc : List Dv) (os : List Ob),
 nameOwn P b xs rows k i c l acc os = (nameOwn P b xs rows (fun ds os => some (ds, os)) i c l acc os).bind fun q => k q.1 q.2
 | [], i, c, acc, os => rfl
 | (t, some (e, s)) :: l, i, c, acc, os => by
  simp only [nameOwn]
  exact nameOwn_bind P b xs rows k l _ _ _ _
 | (t, none) :: l, i, c, acc, os => by
  simp only [nameOwn]
  split
  case isFalse => rfl
  rw [castP_bind]
  conv => rhs; rw [castP_bind]
  rw [Option.bind_assoc]
  congr 1
  funext y
  exact nameOwn_bind P b xs rows k l _ _ _ _
theorem rowAt_bind (L O : List Ob) (r : Root) (k : List (List Pd) → Option R) : rowAt L O r k = (rowAt L O r some).bind k := by
 unfold rowAt
 repeat' (first | rfl | (rw [Option.bind_assoc]; rfl) | split)
theorem rowsAt_bind (L O : List Ob) (k : List Ob → Option R) : ∀ (rs : List Root) (acc : List Ob), rowsAt L O k rs acc = (rowsAt L O some rs acc).bind k
 | [], acc => rfl
 | r :: rs, acc => by
  simp only [rowsAt]
  rw [rowAt_bind]
  conv => rhs; rw [rowAt_bind]
  rw [Option.bind_assoc]
  congr 1
  funext es
  exact rowsAt_bind L O k rs _
theorem callB_bind (P : Program) (rts : List TypeId) (call : CallF) (st : St) (f : FuncId) (as : List Pd) (k : Dv → St → Option R) : callB P rts call st f as k = (callB P rts call st f as pr).bind (un2 k) := by
 unfold callB
 split
 ·split
  ·rfl
  rw [Option.bind_assoc]
  congr 1
  funext r
  rw [Option.bind_assoc]
  congr 1
  funext q
  rw [nameOwn_bind]
  conv => rhs; rw [nameOwn_bind]
  rw [Option.bind_assoc]
  rfl
 ·rw [Option.bind_assoc]
  congr 1
  funext r
  rw [castRs_bind]
  conv => rhs; rw [castRs_bind]
  rw [Option.bind_assoc]
  rfl
theorem upgD_bind : ∀ (rs : List Root) {R : Type} (k : St → Option R) (st : St), upgD st k rs = (upgD st some rs).bind k
 | [], _, k, st => rfl
 | r :: rs, _, k, st => by
  simp only [upgD]
  rw [upgD_bind rs]
  conv => rhs; rw [upgD_bind rs]
  rw [Option.bind_assoc]
  congr 1
  funext st
  split
  ·rfl
  ·split
   ·split <;> rfl
   ·rfl
theorem callW_bind (P : Program) (rts : List TypeId) (call : CallF) (st : St) (f : FuncId) (args : List Dv) (k : Dv → St → Option R) : callW P rts call st f args k = (callW P rts call st f args pr).bind (un2 k) := by
 unfold callW
 split
 ·rfl
 ·split
  ·split
   ·split
    ·rw [upgD_bind]
     conv => rhs; rw [upgD_bind]
     rw [Option.bind_assoc]
     congr 1
     funext st
     rw [rowsAt_bind]
     conv => rhs; rw [rowsAt_bind]
     rw [Option.bind_assoc]
     congr 1
     funext os
     rw [Option.bind_assoc]
     congr 1
     funext r
     rw [castRs_bind]
     conv => rhs; rw [castRs_bind]
     rw [Option.bind_assoc]
     congr 1
     funext ds
     rw [castObs_bind]
     conv => rhs; rw [castObs_bind]
     rw [Option.bind_assoc]
     rfl
    ·rfl
   ·rfl
  ·rfl
theorem mkTake_bind (P : Program) (rts : List TypeId) (r : Res) (k : Ob → (Nm → Dv) → Option R) : mkTake P rts r k = (mkTake P rts r fun ob d => some (ob, d)).bind fun q => k q.1 q.2 := by
 unfold mkTake
 split
 ·split
  ·rw [Option.bind_assoc]
   congr 1
   funext es
   split <;> rfl
  ·rw [Option.bind_assoc]
   congr 1
   funext es
   split <;> rfl
  ·rw [Option.bind_assoc]
   congr 1
   funext es
   split <;> rfl
  ·rfl
 ·rfl
theorem callM_bind (P : Program) (rts : List TypeId) (call : CallF) (st : St) (f : FuncId) (args : List Dv) (k : Dv → St → Option R) : callM P rts call st f args k = (callM P rts call st f args pr).bind (un2 k) := by
 unfold callM
 split
 ·rfl
 ·rw [Option.bind_assoc]
  congr 1
  funext r
  rw [mkTake_bind]
  conv => rhs; rw [mkTake_bind]
  rw [Option.bind_assoc]
  rfl
theorem callD_bind (P : Program) (rts : List TypeId) (call : CallF) (st : St) (f : FuncId) (args : List Dv) (k : Dv → St → Option R) : callD P rts call st f args k = (callD P rts call st f args pr).bind (un2 k) := by
 unfold callD
 split
 ·exact callW_bind ..
 split
 ·exact callM_bind ..
 split
 ·exact callB_bind ..
 split
 ·rfl
 split
 ·rfl
 ·split
  ·rw [Option.bind_assoc]
   congr 1
   funext r
   rw [castRs_bind]
   conv => rhs; rw [castRs_bind]
   rw [Option.bind_assoc]
   rfl
  ·split
   ·rw [Option.bind_assoc]
    congr 1
    funext r
    rw [castRs_bind]
    conv => rhs; rw [castRs_bind]
    rw [Option.bind_assoc]
    congr 1
    funext ds
    rw [castObs_bind]
    conv => rhs; rw [castObs_bind]
    rw [Option.bind_assoc]
    congr 1
    funext os1
    split <;> rfl
   ·rfl
theorem stepOp_bind (call : CallF) (P : Program) (o : Oper) (st : St) (k : Dv → St → Option R) : stepOp call P o st k = (stepOp call P o st pr).bind (un2 k) := by
 unfold stepOp
 split
 case h_9 => rw [loadD_bind, loadD_bind (k := fun d => pr d st), Option.bind_assoc]; rfl
 all_goals first
  | rfl
  | (repeat' (first
   | rfl
   | (simp only [packEsK_eq]; split <;> (try split) <;> rfl)
   | exact sliceD_bind ..
   | exact appendD_bind ..
   | exact callD_bind ..
   | (rw [loadD_bind, loadD_bind (k := fun d => pr d st), Option.bind_assoc]; rfl)
   | (rw [storeD_bind, storeD_bind (k := fun st' => pr ud st'), Option.bind_assoc]; rfl)
   | (rw [pickD_bind, pickD_bind (k := fun d => pr d st), Option.bind_assoc]; rfl)
   | (rw [binD_bind, binD_bind (k := fun d => pr d st), Option.bind_assoc]; rfl)
   | (rw [unD_bind, unD_bind (k := fun d => pr d st), Option.bind_assoc]; rfl)
   | (rw [convD_bind, convD_bind (k := fun d => pr d st), Option.bind_assoc]; rfl)
   | (rw [fieldAddrD_bind, fieldAddrD_bind (k := fun d => pr d st), Option.bind_assoc]; rfl)
   | (rw [indexAddrD_bind, indexAddrD_bind (k := fun d => pr d st), Option.bind_assoc]; rfl)
   | (rw [indexD_bind, indexD_bind (k := fun d => pr d st), Option.bind_assoc]; rfl)
   | (rw [lenD_bind, lenD_bind (k := fun d => pr d st), Option.bind_assoc]; rfl)
   | (rw [lookD_bind, lookD_bind (k := fun d => pr d st), Option.bind_assoc]; rfl)
   | (rw [setMapD_bind, setMapD_bind (k := fun st' => pr ud st'), Option.bind_assoc]; rfl)
   | split))
theorem mixNew_bind (st : St) (s e z : Nat) (xs : List (List Pd)) (ns : List Nm) (k : Dv → St → Option R) : mixNew st s e z xs ns k = (mixNew st s e z xs ns pr).bind (un2 k) := by
 unfold mixNew
 split <;> rfl
theorem mixAppend_bind (P : Program) (st : St) (s : Nat) (t : TypeId) (x y : Dv) (k : Dv → St → Option R) : mixAppend P st s t x y k = (mixAppend P st s t x y pr).bind (un2 k) := by
 unfold mixAppend
 simp only [moveYK_eq]
 repeat' (first | rfl | exact mixNew_bind .. | split)
theorem mixStore_bind (P : Program) (st : St) (t : TypeId) (m : Nm) (j z off : Nat) (v : Dv) (k : St → Option R) : mixStore P st t m j z off v k = (mixStore P st t m j z off v some).bind k := by
 unfold mixStore
 simp only [packVK_eq]
 repeat' (first | rfl | split)
theorem mixLoad_bind (P : Program) (st : St) (s : Nat) (t : TypeId) (m : Nm) (j z off : Nat) (k : Dv → St → Option R) : mixLoad P st s t m j z off k = (mixLoad P st s t m j z off pr).bind (un2 k) := by
 unfold mixLoad
 split
 ·split
  ·rw [Option.bind_assoc]; rfl
  ·rfl
 ·rfl
theorem mixLook_bind (P : Program) (st : St) (s : Nat) (et : TypeId) (m : Nm) (key : ByteArray) (ok : Bool) (k : Dv → St → Option R) : mixLook P st s et m key ok k = (mixLook P st s et m key ok pr).bind (un2 k) := by
 unfold mixLook onM
 repeat' (first | rfl | (rw [Option.bind_assoc]; rfl) | split)
theorem mixUpd_bind (P : Program) (st : St) (et : TypeId) (m : Nm) (key : ByteArray) (v : Dv) (k : St → Option R) : mixUpd P st et m key v k = (mixUpd P st et m key v some).bind k := by
 unfold mixUpd
 repeat' (first | rfl | split)
theorem mixOp_bind (P : Program) (o : Oper) (st : St) (k : Dv → St → Option R) : mixOp P o st k = (mixOp P o st pr).bind (un2 k) := by
 unfold mixOp
 simp only [packEsK_eq]
 repeat' (first | rfl | exact mixNew_bind .. | exact mixAppend_bind .. | exact mixLoad_bind .. | exact mixLook_bind .. | (rw [mixUpd_bind, mixUpd_bind (k := fun st' => pr ud st'), Option.bind_assoc]; rfl) | (rw [mixStore_bind, mixStore_bind (k := fun st' => pr ud st'), Option.bind_assoc]; rfl) | split)
theorem stepM_bind (call : CallF) (P : Program) (o : Oper) (st : St) (k : Dv → St → Option R) : stepM call P o st k = (stepM call P o st pr).bind (un2 k) := by
 unfold stepM
 split
 ·split
  ·exact mixOp_bind ..
  ·exact stepOp_bind ..
 ·exact stepOp_bind ..
end
end Go.Proofs.YtmnoibkdmeajpaaGreat.Dm
