/-
  ops.Len, Range, follows, Fits; what the law looks at first. Conditions: texts are shorter than 2^62 bytes.
-/
import Derived.Test.YtkidlkcmpbnhpaaDoorQc2
namespace Go.Q
open Go Go.Proofs.Tryd
set_option maxRecDepth 100000
variable {L : Nat → Prop} {gd : Gd} {H : List Ck} {E : List Fact}
theorem ho1 {f : Fact} {β : Nat → Nat} {w : World} (h : Ok τ L β H [f] w) : Holds [f] (fun _ => False) w := ⟨h.fact (.head _), trivial⟩
def textLen (s : ByteArray) : Nat := if isText s = true then Lib.runeCount s else 0
def lenOp (o : OpD) : Nat := if o.kind == 1 then textLen o.tx else 1
def lightOp (o : OpD) : Bool := decide ((o.tx.size : Int) ≤ 20000) && decide ((o.key.size : Int) ≤ 200) && decide ((o.vs.size : Int) ≤ 6000)
theorem tLight (o : OpD) : Tells 5 [vOp o] [.bool (lightOp o)] :=
  Tells.of 5 func5 (by kernel_rfl) fun L => rfl
theorem tUtfLen' (s : ByteArray) (hs : s.size < 2 ^ 62) : TellsIn [tabsF] 46 [.string s] [.int .i64 (textLen s)] := by
  have := tUtfLen s hs
  unfold textLen
  cases h : isText s <;> rw [h] at this <;> exact this
theorem tLenOp (o : OpD) (hs : o.tx.size < 2 ^ 62) : TellsIn [tabsF] 13 [vOp o] [.int .i64 (lenOp o)] :=
  TellsIn.of 4 func13 (by kernel_rfl) fun L => by
    refine JoinNode.both (fun h => ?_) (fun h => ?_)
    · exact CallNode.tellsIn (tUtfLen' o.tx hs) (fun _ _ => ho1) (show _ = _ by unfold lenOp; rw [if_pos h]; rfl)
    · exact show _ = _ by unfold lenOp; rw [if_neg (by rw [h]; simp)]; rfl
def endOp (o : OpD) : Int := IntKind.u64.wrap (o.k + IntKind.u64.wrap (lenOp o))
theorem tRangeOp (o : OpD) (hs : o.tx.size < 2 ^ 62) : TellsIn [tabsF] 15 [vOp o] [vRg o.c o.k (endOp o)] :=
  TellsIn.of 5 func15 (by kernel_rfl) fun L => by
    refine DrawNode.mixed 14 (.br 14 .done .no) _ (by kernel_rfl) (VCallNode.tellsIn (fun _ => tLenOp o hs) (fun _ _ _ => ho1) ⟨?_, trivial⟩) (fun F H E h => h)
    exact rfl
def followsOp (a b : OpD) : Bool :=
  a.kind == 1 && b.kind == 1 && a.c == b.c && b.k == endOp a && (b.lc == a.c && b.lk == IntKind.u64.wrap (endOp a - 1)) && (a.rc == b.rc && a.rk == b.rk)
theorem tFollows (a b : OpD) (hs : a.tx.size < 2 ^ 62) : TellsIn [tabsF] 36 [vOp a, vOp b] [.bool (followsOp a b)] :=
  TellsIn.of 6 func36 (by kernel_rfl) fun L =>
    CallNode.tellsIn (tRangeOp a hs) (fun _ _ => ho1) (VRawNode.eqlId rfl rfl rfl (VRawNode.eqlId rfl rfl rfl rfl))
def fitsOp (a b : OpD) : Bool := followsOp a b && decide (IntKind.i64.wrap ((lenOp a : Int) + lenOp b) ≤ 4096)
theorem tFits (a b : OpD) (ha : a.tx.size < 2 ^ 62) (hb : b.tx.size < 2 ^ 62) : TellsIn [tabsF] 14 [vOp a, vOp b] [.bool (fitsOp a b)] :=
  TellsIn.of 5 func14 (by kernel_rfl) fun L =>
    DrawNode.quiet (by kernel_rfl) (VCallNode.tellsIn (fun _ => tFollows a b ha) (fun _ _ _ => ho1) (VCallNode.tellsIn (fun _ => tLenOp a ha) (fun _ _ _ => ho1) (VCallNode.tellsIn (fun _ => tLenOp b hb) (fun _ _ _ => ho1) rfl)))
end Go.Q
