/-
  Structs compared; floats compared; numbers turned to floats and back: as stops of the walk. Conditions: none.
-/
import Derived.Test.YtkidlkcmpbnhpaaDoorQf
import Derived.Laws.StructEq
namespace Go.Q
open Go Go.Proofs.Tryd
set_option maxRecDepth 100000
variable {L : Nat → Prop} {gd : Gd} {F : Tr} {H : List Ck} {E : List Fact}
/-- Two structs, compared. -/
theorem VRawNode.eql {o : Oper} {T T2 : TypeId} {x y : Operand} {xs ys : Array Value} {r : Bool} {k : Value → Prop} (ho : o.op = .binOp .eql T x y T2) (hx : useK gd F x fun z => z = .v (.agg xs)) (hy : useK gd F y fun z => z = .v (.agg ys))
    (he : ∀ w, (Op.equalIn 10000 T (.agg xs) (.agg ys)).run P w = .ok r w) (hm : P.eqGuardType P.depth T = false) (hk : k (.bool r)) : VRawNode P τ L gd o F H E k := by
  refine VRawNode.mk (.bool r) (fun hg β w a hok hev => ?_) hk
  obtain ⟨dst, op, ty, pos, aft, grd⟩ := o
  simp only at ho
  subst ho
  have h1 : a.eval x = .agg xs := hev x _ hx
  have h2 : a.eval y = .agg ys := hev y _ hy
  simp [execOp, h1, h2, run_eqGuard_agg w _ T _ _ _ _ hm, run_eql_struct, he]
theorem VRawNode.neq {o : Oper} {T T2 : TypeId} {x y : Operand} {xs ys : Array Value} {r : Bool} {k : Value → Prop} (ho : o.op = .binOp .neq T x y T2) (hx : useK gd F x fun z => z = .v (.agg xs)) (hy : useK gd F y fun z => z = .v (.agg ys))
    (he : ∀ w, (Op.equalIn 10000 T (.agg xs) (.agg ys)).run P w = .ok r w) (hm : P.eqGuardType P.depth T = false) (hk : k (.bool (!r))) : VRawNode P τ L gd o F H E k := by
  refine VRawNode.mk (.bool (!r)) (fun hg β w a hok hev => ?_) hk
  obtain ⟨dst, op, ty, pos, aft, grd⟩ := o
  simp only at ho
  subst ho
  have h1 : a.eval x = .agg xs := hev x _ hx
  have h2 : a.eval y = .agg ys := hev y _ hy
  simp [execOp, h1, h2, run_eqGuard_agg w _ T _ _ _ _ hm, run_neq_struct, he]
/-- Two floats, compared: by their bits. -/
def fcmp (op : BinOp) (x y : Nat) : Option Bool :=
  let c := FloatKind.f64.format.order x y
  match op with
  | .eql => some (c == some .eq)
  | .neq => some (c != some .eq)
  | .lss => some (c == some .lt)
  | .leq => some (c == some .lt || c == some .eq)
  | .gtr => some (c == some .gt)
  | .geq => some (c == some .gt || c == some .eq)
  | _ => none
theorem VRawNode.float {o : Oper} {T T2 : TypeId} {op : BinOp} {x y : Operand} {a b : Nat} {r : Bool} {k : Value → Prop} (ho : o.op = .binOp op T x y T2) (hx : useK gd F x fun z => z = .v (.float .f64 a)) (hy : useK gd F y fun z => z = .v (.float .f64 b))
    (hr : fcmp op a b = some r) (hk : k (.bool r)) : VRawNode P τ L gd o F H E k := by
  refine VRawNode.mk (.bool r) (fun hg β w c hok hev => ?_) hk
  obtain ⟨dst, op', ty, pos, aft, grd⟩ := o
  simp only at ho
  subst ho
  have h1 : c.eval x = .float .f64 a := hev x _ hx
  have h2 : c.eval y = .float .f64 b := hev y _ hy
  have hg : (eqGuard op T x y (.float .f64 a) (.float .f64 b)).run P w = .ok () w := by unfold eqGuard; cases op <;> rfl
  have hb : (binOp op T (.float .f64 a) (.float .f64 b)).run P w = .ok (.bool r) w := by
    cases op <;> first | (cases hr; done) | (injection hr with hr; rw [← hr]; rfl)
  simp [execOp, h1, h2, hg, hb]
end Go.Q
