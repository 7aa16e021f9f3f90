/- Pairs of a text and a code. -/
import Derived.Test.YtakbdjdafcjglaaGreatDoorO5
namespace Go.Proofs.YtakbdjdafcjglaaGreatDoor.Dm
set_option linter.unusedVariables false
set_option linter.unusedSimpArgs false

abbrev rSI (v : ByteArray) (n : Int) : Option Res := some ([.p (.str v), .p (.int .i64 n)], [])
theorem bSI {R : Type} (v : ByteArray) (n : Int) (K : ByteArray → Int → Option R) : ((rSI v n).bind fun r => (asStr (pAt 0 r.1)).bind fun v => (asInt .i64 (pAt 1 r.1)).bind fun n => if r.1.length = 2 then K v n else none) = K v n := by simp [pAt, asStr, asInt]
end Go.Proofs.YtakbdjdafcjglaaGreatDoor.Dm
