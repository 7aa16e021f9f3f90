/- Deferred functions that do nothing where nothing panics. -/
import Derived.Test.YtambpnaakfodhaaGreatDoorProg
import Derived.Test.YtambpnaakfodhaaGreatDoorDm19
import Derived.KernelRfl
import Derived.WalkKit
import Derived.Defers
import Derived.Recover
namespace Go.Proofs.YtambpnaakfodhaaGreatDoor.Dm
set_option linter.unusedVariables false
set_option linter.unusedSectionVars false
set_option maxRecDepth 100000
open Go.RowKit
theorem wpS_run {P : Program} {id : Nat} {ops : Array Oper} {a : Act} {cs : List Frame} {w : World} {Q : Exit → Act → List Frame → World → Prop} (a' : Act) (w' : World) (h : ∀ Q', wpOpsS P ops Q' (List.range ops.size) a cs w = Q' .normal a' cs w') (hq : Q .normal a' cs w') : (Code.region id ops false).wpS P Q a cs w :=
  wpS_region (by rw [h]; exact hq)
def recA (p q : Value) (b : Value) : Act := ⟨#[p, q, .int .i64 0, .bool false, .tuple #[.int .i64 0, .bool false], .nilIface, .tuple #[.int .i64 0, .bool false], .int .i64 0, .bool false, b, undef, undef], []⟩
theorem doc1_idle (p q : Value) (w : World) : CallsD Tryz.prog 103 #[p, q] .returning w fun e u' w' => e = .returned (.tuple #[]) ∧ u' = .returning ∧ w' = w := by
  refine callsD_of_wpS Tryz.func103 rfl fun c₀ cs hu => ?_
  cases c₀
  simp only at hu
  subst hu
  refine wpS_seq (wpS_run (recA p q undef) w (fun Q' => by kernel_rfl) ?_)
  refine wpS_seq (wpS_run (recA p q (.bool false)) w (fun Q' => by kernel_rfl) ?_)
  refine wpS_cond (t := false) (by kernel_rfl) ?_
  refine wpS_of_wp (wp_skip ?_)
  exact ⟨rfl, .returning, rfl, .tuple #[], by kernel_rfl, rfl, rfl, rfl⟩
theorem size2 {cap : Array Value} (h : cap.size = 2) : ∃ p q, cap = #[p, q] := by
  obtain ⟨l⟩ := cap
  match l, h with
  | [p, q], _ => exact ⟨p, q, rfl⟩
theorem quiet [Cfg] (hq : ∀ f n, Cfg.qf f = some n → f = 103 ∧ n = 2) : QuietOK Tryz.prog := by
  intro f cap h
  obtain ⟨rfl, h2⟩ := hq _ _ h
  obtain ⟨p, q, rfl⟩ := size2 h2
  refine ⟨fun w => by kernel_rfl, fun w => (doc1_idle p q w).mono ?_⟩
  rintro e u' w' ⟨rfl, rfl, rfl⟩
  exact ⟨⟨_, rfl⟩, rfl, Below.refl _ _⟩
end Go.Proofs.YtambpnaakfodhaaGreatDoor.Dm
