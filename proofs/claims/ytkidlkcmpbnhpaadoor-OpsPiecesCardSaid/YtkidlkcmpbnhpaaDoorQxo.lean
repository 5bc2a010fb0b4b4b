/-
  Ids, anchors, ranges, compared. Conditions: none.
-/
import Derived.Test.YtkidlkcmpbnhpaaDoorQt5
namespace Go.Q
open Go Go.Proofs.Tryd
set_option maxRecDepth 100000
theorem eqId (a b c d : Int) (n : Nat) (w : World) : (Op.equalIn (n + 2) 24 (.agg #[.int .u64 a, .int .u64 b]) (.agg #[.int .u64 c, .int .u64 d])).run P w = .ok (a == c && b == d) w := by
  have u3 := underlying22
  have a3 := isAgg22
  have z3 := sizeOf22
  have hS : P.underlying 24 = some (.struct (P.fieldsOf 24)) := by kernel_rfl
  rw [run_equalIn_agg w (n + 1) 24 _ _ hS (by kernel_rfl)]
  simp only [Program.fieldsOf, underlying24]
  go_simp
  by_cases h1 : a = c <;> by_cases h2 : b = d <;> simp [h1, h2]
theorem eqAnchor (a b c d : Int) (e f : Bool) (n : Nat) (w : World) : (Op.equalIn (n + 3) 29 (.agg #[.int .u64 a, .int .u64 b, .bool e]) (.agg #[.int .u64 c, .int .u64 d, .bool f])).run P w = .ok (a == c && b == d && e == f) w := by
  have u3 := underlying4
  have a3 := isAgg4
  have z3 := sizeOf4
  have a4 := isAgg24
  have z4 := sizeOf24
  have hS : P.underlying 29 = some (.struct (P.fieldsOf 29)) := by kernel_rfl
  rw [run_equalIn_agg w (n + 2) 29 _ _ hS (by kernel_rfl)]
  simp only [Program.fieldsOf, underlying29]
  go_simp
  by_cases h1 : a = c <;> by_cases h2 : b = d <;> by_cases h3 : e = f <;> simp [h1, h2, h3]
theorem eqRange (a b c d e f : Int) (n : Nat) (w : World) : (Op.equalIn (n + 2) 47 (.agg #[.int .u64 a, .int .u64 b, .int .u64 e]) (.agg #[.int .u64 c, .int .u64 d, .int .u64 f])).run P w = .ok (a == c && b == d && e == f) w := by
  have u3 := underlying22
  have a3 := isAgg22
  have z3 := sizeOf22
  have hS : P.underlying 47 = some (.struct (P.fieldsOf 47)) := by kernel_rfl
  rw [run_equalIn_agg w (n + 1) 47 _ _ hS (by kernel_rfl)]
  simp only [Program.fieldsOf, underlying47]
  go_simp
  by_cases h1 : a = c <;> by_cases h2 : b = d <;> by_cases h3 : e = f <;> simp [h1, h2, h3]
variable {L : Nat → Prop} {gd : Gd} {F : Tr} {H : List Ck} {E : List Fact}
theorem VRawNode.eqlId {o : Oper} {T2 : TypeId} {x y : Operand} {a b c d : Int} {k : Value → Prop} (ho : o.op = .binOp .eql 24 x y T2) (hx : useK gd F x fun z => z = .v (.agg #[.int .u64 a, .int .u64 b])) (hy : useK gd F y fun z => z = .v (.agg #[.int .u64 c, .int .u64 d]))
    (hk : k (.bool (a == c && b == d))) : VRawNode P τ L gd o F H E k :=
  VRawNode.eql ho hx hy (eqId a b c d 9998) (by kernel_rfl) hk
theorem VRawNode.neqId {o : Oper} {T2 : TypeId} {x y : Operand} {a b c d : Int} {k : Value → Prop} (ho : o.op = .binOp .neq 24 x y T2) (hx : useK gd F x fun z => z = .v (.agg #[.int .u64 a, .int .u64 b])) (hy : useK gd F y fun z => z = .v (.agg #[.int .u64 c, .int .u64 d]))
    (hk : k (.bool (!(a == c && b == d)))) : VRawNode P τ L gd o F H E k :=
  VRawNode.neq ho hx hy (eqId a b c d 9998) (by kernel_rfl) hk
theorem VRawNode.eqlAnchor {o : Oper} {T2 : TypeId} {x y : Operand} {a b c d : Int} {e f : Bool} {k : Value → Prop} (ho : o.op = .binOp .eql 29 x y T2) (hx : useK gd F x fun z => z = .v (.agg #[.int .u64 a, .int .u64 b, .bool e])) (hy : useK gd F y fun z => z = .v (.agg #[.int .u64 c, .int .u64 d, .bool f]))
    (hk : k (.bool (a == c && b == d && e == f))) : VRawNode P τ L gd o F H E k :=
  VRawNode.eql ho hx hy (eqAnchor a b c d e f 9997) (by kernel_rfl) hk
theorem VRawNode.eqlRange {o : Oper} {T2 : TypeId} {x y : Operand} {a b c d e f : Int} {k : Value → Prop} (ho : o.op = .binOp .eql 47 x y T2) (hx : useK gd F x fun z => z = .v (.agg #[.int .u64 a, .int .u64 b, .int .u64 e])) (hy : useK gd F y fun z => z = .v (.agg #[.int .u64 c, .int .u64 d, .int .u64 f]))
    (hk : k (.bool (a == c && b == d && e == f))) : VRawNode P τ L gd o F H E k :=
  VRawNode.eql ho hx hy (eqRange a b c d e f 9998) (by kernel_rfl) hk
end Go.Q
