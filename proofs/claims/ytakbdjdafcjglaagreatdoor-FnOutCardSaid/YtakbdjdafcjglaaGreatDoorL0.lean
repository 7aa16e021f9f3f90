/- What the library's functions give: strconv.Itoa, strings.Join, strings.Split; and what impl.numberOf gives (it asks the library). -/
import Derived.Test.YtakbdjdafcjglaaGreatDoorDm17
import Derived.Lib.ItoaNum
import Derived.Lib.Join
import Derived.Lib.Split
import Derived.Lib.CountLaws
import Derived.Lib.AtoiAll
import Derived.Lib.Strings
namespace Go.Proofs.YtakbdjdafcjglaaGreatDoor.Dm
/-- an integer's decimal numeral -/
def itoaL : List Pd → Option (List Pd)
  | [.int .i64 n] => if -9223372036854775808 ≤ n ∧ n ≤ 9223372036854775807 then some [.str ⟨(Lib.itoa n).toArray⟩] else none
  | _ => none
def strsOf : List (List Pd) → Option (List ByteArray)
  | [] => some []
  | [.str s] :: l => match strsOf l with | some r => some (s :: r) | none => none
  | _ :: _ => none
/-- texts one behind the other, a separator between -/
def joinL : List Pd → Option (List Pd)
  | [.sl 1 es, .str sep] => match strsOf es with
    | some xs => if xs.length ≤ LIM ∧ (Lib.join (xs.map (·.data.toList)) sep.data.toList).length ≤ LIM then some [.str ⟨(Lib.join (xs.map (·.data.toList)) sep.data.toList).toArray⟩] else none
    | none => none
  | _ => none
/-- the parts of a text between separators -/
def splitL : List Pd → Option (List Pd)
  | [.str s, .str sep] => if s.size < 4294967281 ∧ 1 ≤ sep.size then some [.sl 1 ((Lib.splitB sep 0 (Lib.countB s sep) s).map fun t => [.str t])] else none
  | _ => none
/-- the number of a number's own text -/
def numO (s : ByteArray) : Option Int := match Lib.atoiAll s.data.toList with
  | .ok n => if Lib.itoa n = s.data.toList ∧ (Lib.trimPrefix s.data.toList [45]).length ≤ 18 then some n else none
  | _ => none
def numL : List Pd → Option (List Pd)
  | [.str s] => if s.size ≤ 1000000000 then (match numO s with | some n => some [.int .i64 n, .bool true] | none => some [.int .i64 0, .bool false]) else none
  | _ => none
def libT (f : FuncId) : Option (List Pd → Option (List Pd)) := if f = 39 then some itoaL else if f = 40 then some joinL else if f = 67 then some splitL else if f = 80 then some numL else none
end Go.Proofs.YtakbdjdafcjglaaGreatDoor.Dm
