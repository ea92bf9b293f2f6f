/- A unit, as the mind has it and as a value. Nothing of the program in it. -/
import Derived.Test.YtghjffgaebnhiaaDoorBase
namespace Go.Proofs.YtghjffgaebnhiaaDoor
set_option linter.unusedVariables false
set_option linter.unusedSimpArgs false
/-- a unit. -/
structure UD where
  kind : Int
  ep : UInt64
  ses : UInt64
  path : Int
  idx : Int
  cnt : Int
  data : List UInt8
  code : Int
  got : List (Int × Int)
def named (n : UInt64) : Prop := 1 ≤ n.toNat ∧ n.toNat ≤ 281474976710655
instance (n : UInt64) : Decidable (named n) := inferInstanceAs (Decidable (_ ∧ _))
def goodD (u : UD) : Prop := (u.path = 1 ∨ u.path = 2) ∧ 1 ≤ u.cnt ∧ u.cnt ≤ 64 ∧ 0 ≤ u.idx ∧ u.idx < u.cnt ∧ 1 ≤ u.data.length ∧ u.data.length ≤ 1024 ∧ u.code = 0 ∧ u.got.length = 0
instance (u : UD) : Decidable (goodD u) := inferInstanceAs (Decidable (_ ∧ _))
def UD.isData (u : UD) : Prop := u.kind = 1 ∧ named u.ep ∧ named u.ses ∧ goodD u
instance (u : UD) : Decidable u.isData := inferInstanceAs (Decidable (_ ∧ _))
/-- a unit as a value; its two lists. -/
def uv (u : UD) (dv gv : Value) : Value := .agg #[.int .i64 u.kind, .int .u64 (u.ep.toNat : Int), .int .u64 (u.ses.toNat : Int), .int .i64 u.path, .int .i64 u.idx, .int .i64 u.cnt, dv, .int .i64 u.code, gv]
end Go.Proofs.YtghjffgaebnhiaaDoor
