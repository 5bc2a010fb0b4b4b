/-
  What the small functions tell: ids, numbers. Conditions: none.
-/
import Derived.Test.YtkidlkcmpbnhpaaDoorQxo
namespace Go.Q
open Go Go.Proofs.Tryd
set_option maxRecDepth 100000
abbrev vId (a b : Int) : Value := .agg #[.int .u64 a, .int .u64 b]
abbrev vRg (a b c : Int) : Value := .agg #[.int .u64 a, .int .u64 b, .int .u64 c]
def lessId (a b c d : Int) : Bool := decide (a < c) || (a == c && decide (b < d))
def isNum (a : Int) : Bool := decide (a ≥ 1) && decide (a ≤ 9007199254740991)
def rightId (a b : Int) : Bool := isNum a && isNum b
def noId (a b : Int) : Bool := a == 0 && b == 0
def namedId (a b : Int) : Bool := noId a b || rightId a b
def rightRg (a b c : Int) : Bool := isNum a && decide (b ≥ 1) && decide (b < c) && decide (c ≤ 9007199254740992)
def inRg (r1 r2 r3 a b : Int) : Bool := rightRg r1 r2 r3 && r1 == a && decide (r2 ≤ b) && decide (b < r3)
theorem tLess (a b c d : Int) : Tells 33 [vId a b, vId c d] [.bool (lessId a b c d)] :=
  Tells.of 5 func33 (by kernel_rfl) fun L => rfl
theorem tNumber (a : Int) : Tells 61 [.int .u64 a] [.bool (isNum a)] :=
  Tells.of 4 func61 (by kernel_rfl) fun L => rfl
theorem tStamp (a : Int) : Tells 59 [.int .u64 a] [.bool (isNum a)] :=
  Tells.of 4 func59 (by kernel_rfl) fun L => rfl
theorem tRight6 (a b : Int) : Tells 16 [vId a b] [.bool (rightId a b)] :=
  Tells.of 5 func16 (by kernel_rfl) fun L => by
    have : rightId a b = (decide (a ≥ 1) && decide (a ≤ 9007199254740991) && decide (b ≥ 1) && decide (b ≤ 9007199254740991)) := by
      simp [rightId, isNum, Bool.and_assoc]
    rw [this]
    exact rfl
theorem tRight (a b : Int) : Tells 40 [vId a b] [.bool (rightId a b)] :=
  Tells.of 4 func40 (by kernel_rfl) fun L => CallNode.tells (tNumber a) (VCallNode.tells (fun _ => tNumber b) rfl)
theorem tNone (a b : Int) : Tells 18 [vId a b] [.bool (noId a b)] :=
  Tells.of 3 func18 (by kernel_rfl) fun L => VRawNode.eqlId rfl rfl rfl rfl
theorem tNamed (a b : Int) : Tells 17 [vId a b] [.bool (namedId a b)] :=
  Tells.of 4 func17 (by kernel_rfl) fun L => CallNode.tells (tNone a b) (VCallNode.tells (fun _ => tRight6 a b) rfl)
theorem tId (a b : Int) : Tells 42 [vId a b] [.bool (namedId a b)] :=
  Tells.of 4 func42 (by kernel_rfl) fun L => VRawNode.eqlId rfl rfl rfl (VCallNode.tells (fun _ => tRight a b) rfl)
theorem tRightRg (a b c : Int) : Tells 64 [vRg a b c] [.bool (rightRg a b c)] :=
  Tells.of 5 func64 (by kernel_rfl) fun L => CallNode.tells (tNumber a) rfl
/-- A variable's cells, read where it lies. -/
abbrev varF (b : Nat) (cs : List Value) : Fact := rowF b 0 cs
theorem tHas1 (b : Nat) (r1 r2 r3 x y : Int) : TellsIn [varF b [.int .u64 x, .int .u64 y]] 63 [vRg r1 r2 r3, .pointer (some ⟨b, 0, none⟩)] [.bool (inRg r1 r2 r3 x y)] :=
  TellsIn.of 5 func63 (by kernel_rfl) fun L => CallNode.tells (tRightRg r1 r2 r3) (LoadNode.cell 0 _ (.head _) (fun _ => rfl) rfl (LoadNode.cell 1 _ (.head _) (fun _ => rfl) rfl (LoadNode.cell 1 _ (.head _) (fun _ => rfl) rfl rfl)))
def encId (x : Int × Int) : List Value := [.int .u64 x.1, .int .u64 x.2]
def encRg (x : Int × Int × Int) : List Value := [.int .u64 x.1, .int .u64 x.2.1, .int .u64 x.2.2]
def vInt (x : Int) : Value := .int .i64 x
structure OpD where
  c : Int
  k : Int
  kind : Int
  st : Int
  lc : Int
  lk : Int
  rc : Int
  rk : Int
  tx : ByteArray
  vk : Int
  vn : Int
  vf : Nat
  vs : ByteArray
  key : ByteArray
  pc : Int
  pk : Int
  fc : Int
  fk : Int
  fa : Bool
  tc : Int
  tk : Int
  ta : Bool
def OpD.cells (o : OpD) : List Value := [.int .u64 o.c, .int .u64 o.k, .int .i64 o.kind, .int .u64 o.st, .int .u64 o.lc, .int .u64 o.lk, .int .u64 o.rc, .int .u64 o.rk, .string o.tx, .int .i64 o.vk, .int .i64 o.vn, .float .f64 o.vf, .string o.vs, .string o.key, .int .u64 o.pc, .int .u64 o.pk, .int .u64 o.fc, .int .u64 o.fk, .bool o.fa, .int .u64 o.tc, .int .u64 o.tk, .bool o.ta]
/-- An operation's value. -/
abbrev vOp (o : OpD) : Value := .agg o.cells.toArray
end Go.Q
