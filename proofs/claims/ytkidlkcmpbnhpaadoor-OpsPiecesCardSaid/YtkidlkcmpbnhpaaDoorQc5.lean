/-
  ops.names, ids.Has, ops.Check$1. Conditions: none.
-/
import Derived.Test.YtkidlkcmpbnhpaaDoorQc4
namespace Go.Q
open Go Go.Proofs.Tryd
set_option maxRecDepth 100000
variable {L : Nat → Prop} {H : List Ck} {E : List Fact}
/-- The ids that an operation names. -/
def namesOp (o : OpD) : List (Int × Int) := [(o.lc, o.lk), (o.rc, o.rk), (o.fc, o.fk), (o.tc, o.tk), (o.pc, o.pk)]
theorem tNames (o : OpD) : Gives [] 45 [vOp o] fun n cap T cs => n = 5 ∧ cap = 5 ∧ cs = flat encId (namesOp o) :=
  Gives.of 5 func45 (by kernel_rfl) fun L b => ⟨b, 5, 5, _, _, 1, rfl, rfl, rfl, rfl, rfl⟩
theorem tNames8 (o : OpD) : Gives [] 24 [vOp o] fun n cap T cs => n = 5 ∧ cap = 5 ∧ cs = flat encId (namesOp o) :=
  Gives.of 5 func24 (by kernel_rfl) fun L b => ⟨b, 5, 5, _, _, 1, rfl, rfl, rfl, rfl, rfl⟩
theorem enters_at {f : Nat} (h : τ.enters f = true) : ∀ args w, (callFunc f args).run P w = .ok (.enter f args) w := hτ.enters f h
/-- Is an id in a set of one range? -/
theorem tHas (b o cap : Nat) (l : List (Int × Int × Int)) (x y : Int) (hn : l.length < 2 ^ 62) :
    TellsIn [rowF b o (flat encRg l)] 43 [.slice (some ⟨b, o, none⟩) l.length cap, vId x y] [.bool (rightId x y && l.any fun r => inRg r.1 r.2.1 r.2.2 x y)] :=
  TellsIn.of 4 func43 (by kernel_rfl) fun L => by
    refine CallNode.tells (tRight x y) ?_
    refine SplitNode.of (fun h => ?_) (fun h => ?_)
    · intro b'
      refine CallNode.tellsIn (E' := rowF b o (flat encRg l) :: [varF b' [.int .u64 x, .int .u64 y]]) (tContainsRg (p := fun r => inRg r.1 r.2.1 r.2.2 x y) (g := 63) (first := #[]) (cp := #[.pointer (some ⟨b', 0, none⟩)]) (enters_at rfl) l (fun r _ => tHas1 b' r.1 r.2.1 r.2.2 x y) b o cap hn) (fun β w ho => ?_) ?_
      · exact ⟨ho.fact (.head _), ho.rowF 0 (i := 0) (.inr ⟨_, rfl⟩), trivial⟩
      · have h' : rightId x y = true := h
        rw [h']; exact rfl
    · have h' : rightId x y = false := by simpa [eff] using h
      rw [h']; exact rfl
/-- Is what an operation names wrong? -/
def badName (r1 r2 r3 x y : Int) : Bool := !namedId x y || (rightId x y && inRg r1 r2 r3 x y)
theorem tCheck1 (b : Nat) (r1 r2 r3 x y : Int) : TellsIn [varF b [.int .u64 r1, .int .u64 r2, .int .u64 r3]] 41 [vId x y, .pointer (some ⟨b, 0, none⟩)] [.bool (badName r1 r2 r3 x y)] :=
  TellsIn.of 4 func41 (by kernel_rfl) fun L => by
    refine CallNode.tells (tId x y) ?_
    refine LoadNode.elem (enc := encRg) (l := [(r1, r2, r3)]) (b := b) (o := 0) 0 (r1, r2, r3) (fun _ => rfl) (.head _) (fun _ => rfl) rfl ?_
    refine SplitNode.of (fun h => ?_) (fun h => ?_)
    · have h' : namedId x y = true := by simpa [eff] using h
      intro b'
      refine CallNode.tellsIn (tHas b' 0 1 [(r1, r2, r3)] x y (by simp)) (fun β w ho => ?_) ?_
      · exact ⟨ho.rowF 0 (i := 1) (.inl ⟨_, rfl⟩), trivial⟩
      · exact show _ = _ by unfold badName; rw [h']; simp [retV]
    · have h' : namedId x y = false := by simpa [eff] using h
      exact show _ = _ by unfold badName; rw [h']; simp [retV]
end Go.Q
