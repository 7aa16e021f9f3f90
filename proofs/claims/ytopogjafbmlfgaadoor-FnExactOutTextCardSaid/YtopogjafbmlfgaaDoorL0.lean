/- What the library's functions give: strconv.Itoa, strings.Join. -/
import Derived.Test.YtopogjafbmlfgaaDoorDm17
import Derived.Lib.ItoaNum
import Derived.Lib.Join
namespace Go.Proofs.YtopogjafbmlfgaaDoor.Dm
/-- an integer's decimal numeral -/
def itoaL : List Pd → Option Pd
  | [.int .i64 n] => if -9223372036854775808 ≤ n ∧ n ≤ 9223372036854775807 then some (.str ⟨(Lib.itoa n).toArray⟩) else none
  | _ => none
def strsOf : List (List Pd) → Option (List ByteArray)
  | [] => some []
  | [.str s] :: l => match strsOf l with | some r => some (s :: r) | none => none
  | _ :: _ => none
/-- texts one behind the other, a separator between -/
def joinL : List Pd → Option Pd
  | [.sl 1 es, .str sep] => match strsOf es with
    | some xs => if xs.length ≤ LIM ∧ (Lib.join (xs.map (·.data.toList)) sep.data.toList).length ≤ LIM then some (.str ⟨(Lib.join (xs.map (·.data.toList)) sep.data.toList).toArray⟩) else none
    | none => none
  | _ => none
def libT (f : FuncId) : Option (List Pd → Option Pd) := if f = 23 then some itoaL else if f = 24 then some joinL else none
end Go.Proofs.YtopogjafbmlfgaaDoor.Dm
