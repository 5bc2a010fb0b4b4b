/-
  What a function tells, said in one word; the stops passed by it. Conditions: none.
-/
import Derived.Test.YtkidlkcmpbnhpaaDoorQtab
namespace Go.Q
open Go
def retV : List Value → Value
  | [x] => x
  | l => .tuple l.toArray
theorem retOf_v (β : Nat → Nat) : ∀ rs : List Value, retOf β (rs.map PV.v) = retV rs
  | [] => rfl
  | [_] => rfl
  | x :: y :: r => by
    simp [retOf, retV, PV.den, Function.comp_def]
theorem den_v (β : Nat → Nat) (l : List Value) : (l.map PV.v).map (PV.den β) = l := by simp [Function.comp_def, PV.den]
theorem Ok.none {L : Nat → Prop} {E : List Fact} {w : World} (hL : ∀ b, L b → b < w.heap.size) (hE : Holds E L w) : Ok τ L (fun _ => 0) [] E w :=
  ⟨(fun _ _ _ _ h => by simp at h), (fun _ _ h => by simp at h), (fun _ _ _ h => by simp at h), (fun _ _ _ _ h => by simp at h), hL, (fun _ _ h => by simp at h), hE.loc (fun b hb => Or.elim hb .inl fun ⟨_, _, h, _⟩ => by simp at h)⟩
/-- The function f, called with these, turns nothing and tells these. -/
def Tells (f : Nat) (args rs : List Value) : Prop := ∀ w, Calls P f args.toArray w fun e w' => e = .returned (retV rs) ∧ Kp (fun _ => False) w w'
/-- .. in a world of which these facts hold (of memory outside of the blocks L). -/
def TellsIn (E : List Fact) (f : Nat) (args rs : List Value) : Prop := ∀ (L : Nat → Prop) w, (∀ b, L b → b < w.heap.size) → Holds E L w → Calls P f args.toArray w fun e w' => e = .returned (retV rs) ∧ Kp (fun _ => False) w w'
theorem TellsIn.of {E : List Fact} {f : Nat} {fn : Func} {args rs : List Value} (d : Nat) (hf : P.funcs[f]? = some fn) (hc : funcOk fn args.length = true)
    (h : ∀ L, Start P τ L d fn (args.map PV.v) [] E fun ys _ _ => ys = rs.map PV.v) : TellsIn E f args rs := by
  intro L w hL hE
  have hok : Ok τ L (fun _ => 0) [] E w := Ok.none hL hE
  have := fn_sound hτ hm hf (by simpa using hc) (fun y hy => by obtain ⟨v, _, rfl⟩ := List.mem_map.1 hy; trivial) (h L) hok
  rw [den_v] at this
  refine this.mono fun e w' ⟨ys, H', E', β', hys, he, _, _, _, hk, _⟩ => ⟨?_, hk.mono fun b ⟨_, _, h, _⟩ => by simp at h⟩
  rw [he, hys, retOf_v]
theorem Tells.of {f : Nat} {fn : Func} {args rs : List Value} (d : Nat) (hf : P.funcs[f]? = some fn) (hc : funcOk fn args.length = true)
    (h : ∀ L, Start P τ L d fn (args.map PV.v) [] [] fun ys _ _ => ys = rs.map PV.v) : Tells f args rs :=
  fun w => TellsIn.of d hf hc h (fun _ => False) w (fun _ h => h.elim) trivial
variable {L : Nat → Prop} {gd : Gd} {H : List Ck} {E : List Fact}
theorem VCallNode.tells {f : Nat} {args rs : List Value} {k : Value → Prop} (h : gd.holds → Tells f args rs) (hk : k (retV rs)) : VCallNode P τ L gd f args H E k :=
  VCallNode.val _ h hk
theorem CallNode.tells {f : Nat} {args rs : List Value} {k : PV → List Ck → List Fact → Prop} (h : Tells f args rs) (hk : k (.v (retV rs)) H E) : CallNode P τ L f args H E k :=
  CallNode.val _ h hk
end Go.Q
