/- What impl.numberOf gives of one digit, impl.sameArgs of lists of at most one argument. -/
import Derived.Test.YtambpnaakfodhaaGreatDoorDm17
namespace Go.Proofs.YtambpnaakfodhaaGreatDoor.Dm
def numL1 : List Pd → Option (List Pd)
  | [.str s] => match s.data.toList with
    | [c] => if 48 ≤ c.toNat ∧ c.toNat ≤ 57 then some [.int .i64 (c.toNat - 48 : Nat), .bool true] else none
    | _ => none
  | _ => none
def argsL : List Pd → Option (List Pd)
  | [.sl 4 [], .sl 4 []] => some [.bool true]
  | [.sl 4 [[.str a, .int .i64 k, .int .i64 n, .str t]], .sl 4 [[.str b, .int .i64 l, .int .i64 m, .str u]]] => some [.bool (decide (a = b) && ((k == l) && ((n == m) && decide (t = u))))]
  | _ => none
def libT (f : FuncId) : Option (List Pd → Option (List Pd)) := bif Nat.beq f 179 then some numL1 else bif Nat.beq f 111 then some argsL else none
end Go.Proofs.YtambpnaakfodhaaGreatDoor.Dm
