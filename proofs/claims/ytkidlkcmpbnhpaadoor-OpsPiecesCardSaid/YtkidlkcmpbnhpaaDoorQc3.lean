/-
  The document's check of values; floats' bits. Conditions: as stated at each.
-/
import Derived.Test.YtkidlkcmpbnhpaaDoorQu
namespace Go.Q
open Go Go.Proofs.Tryd
set_option maxRecDepth 100000
variable {L : Nat → Prop} {gd : Gd} {H : List Ck} {E : List Fact}
/-- An operation that turns nothing. -/
theorem RawNode.val {o : Oper} {F : Tr} {k : PV → List Ck → List Fact → Prop} (r : Value)
    (h : ∀ β w (a : Act), Ok τ L β H E w → (∀ x y, ldK F x (fun s => s = .n y) → a.eval x = y.den β) → (execOp a.eval o).run P w = .ok (.value r) w) (hk : k (.v r) H E) : RawNode P τ L o F H E k := by
  constructor
  intro β w a hok hev
  exact ⟨.v r, H, E, β, w, .inl (h β w a hok hev), fun _ _ => rfl, Nat.le_refl _, fun i c h1 h2 => .inr ⟨i, c, h1, h2, rfl⟩, trivial, hok, Kp.refl _ _, hk⟩
theorem eval_func (a : Act) (f : FuncId) : a.eval (.func f) = .func (.func f) #[] #[] := rfl
/-- A call of a function without a body, of one argument. -/
theorem RawNode.ext1 {o : Oper} {F : Tr} {k : PV → List Ck → List Fact → Prop} {f : FuncId} {x : Operand} {ts : Array TypeId} {v r : Value} (ho : o.op = .call ⟨.value (.func f), #[x], ts⟩) (hx : ldK F x fun s => s = .n (.v v))
    (h : ∀ w, (callFunc f #[v]).run P w = .ok (.value r) w) (hk : k (.v r) H E) : RawNode P τ L o F H E k := by
  refine RawNode.val r (fun β w a hok hev => ?_) hk
  obtain ⟨dst, op, ty, pos, aft, grd⟩ := o
  simp only at ho
  subst ho
  have h1 : a.eval x = v := hev x _ hx
  simp [execOp, resolve, eval_func, Deferred.ofValue, invoke, h1, h w]
theorem VRawNode.ext1 {o : Oper} {F : Tr} {k : Value → Prop} {f : FuncId} {x : Operand} {ts : Array TypeId} {v r : Value} (ho : o.op = .call ⟨.value (.func f), #[x], ts⟩) (hx : useK gd F x fun z => z = .v v)
    (h : ∀ w, (callFunc f #[v]).run P w = .ok (.value r) w) (hk : k r) : VRawNode P τ L gd o F H E k := by
  refine VRawNode.mk r (fun hg β w a hok hev => ?_) hk
  obtain ⟨dst, op, ty, pos, aft, grd⟩ := o
  simp only at ho
  subst ho
  have h1 : a.eval x = v := hev x _ hx
  simp [execOp, resolve, eval_func, Deferred.ofValue, invoke, h1, h w]
theorem bits64 (b : Nat) (w : World) : (callFunc 47 #[.float .f64 b]).run P w = .ok (.value (.int .u64 b)) w := by kernel_rfl
theorem from64 (n : Int) (w : World) : (callFunc 50 #[.int .u64 n]).run P w = .ok (.value (.float .f64 n.toNat)) w := by kernel_rfl
abbrev vVal (k n : Int) (f : Nat) (s : ByteArray) : Value := .agg #[.int .i64 k, .int .i64 n, .float .f64 f, .string s]
/-- The document's check of a value; 'tx': is it a text? -/
def okVal (tx : ByteArray → Bool) (k n : Int) (f : Nat) (s : ByteArray) : Bool :=
  let z : Bool := (f : Int) == 0
  let e : Bool := s.toList == (⟨#[]⟩ : ByteArray).toList
  if k == 0 then n == 0 && z && e
  else if k == 5 then n == 0 && z && e
  else if k == 1 then (n == 0 || n == 1) && z && e
  else if k == 2 then z && e
  else if k == 3 then n == 0 && e
  else if k == 4 then n == 0 && z && decide ((s.size : Int) ≤ 4096) && tx s
  else false
theorem fin0 {b X : Bool} (e : b = X) (h : (!X) = true) : (if b = true then (0 : Int) else 20) = 20 := by rw [e, (Bool.not_eq_true' _).mp h]; rfl
theorem fin1 {b X : Bool} (e : b = X) (h : (!X) = false) : (if b = true then (0 : Int) else 20) = 0 := by rw [e, (Bool.not_eq_false' _).mp h]; rfl
theorem pvInt {x y : Int} (h : x = y) : [PV.v (.int .i64 y)] = [Value.int .i64 x].map PV.v := by rw [h]; rfl
theorem tRefVal {E : List Fact} (tx : ByteArray → Bool) (k n : Int) (f : Nat) (s : ByteArray) (hn : TellsIn E 21 [.string s] [.bool (tx s)]) :
    TellsIn E 19 [vVal k n f s] [.int .i64 (if okVal tx k n f s = true then 0 else 20)] :=
  TellsIn.of 7 func19 (by kernel_rfl) fun L => by
    refine RawNode.ext1 rfl rfl (bits64 f) ?_
    refine JoinNode.both (fun h0 => ?_) (fun h0 => ?_)
    · refine JoinNode.both (fun _ => ?_) (fun h => by rw [h0] at h; cases h)
      have e : okVal tx k n f s = ((n == 0 && (f : Int) == 0) && s.toList == (⟨#[]⟩ : ByteArray).toList) := by unfold okVal; rw [if_pos h0]
      exact JoinNode.both (fun h => pvInt (fin0 e h)) (fun h => pvInt (fin1 e h))
    refine JoinNode.both (fun h1 => ?_) (fun h1 => ?_)
    · have e : okVal tx k n f s = ((n == 0 && (f : Int) == 0) && s.toList == (⟨#[]⟩ : ByteArray).toList) := by unfold okVal; rw [if_neg (by rw [h0]; simp), if_pos h1]
      exact JoinNode.both (fun h => pvInt (fin0 e h)) (fun h => pvInt (fin1 e h))
    refine JoinNode.both (fun h2 => ?_) (fun h2 => ?_)
    · have e : okVal tx k n f s = (((n == 0 || n == 1) && (f : Int) == 0) && s.toList == (⟨#[]⟩ : ByteArray).toList) := by unfold okVal; rw [if_neg (by rw [h0]; simp), if_neg (by rw [h1]; simp), if_pos h2]
      exact JoinNode.both (fun h => pvInt (fin0 e h)) (fun h => pvInt (fin1 e h))
    refine JoinNode.both (fun h3 => ?_) (fun h3 => ?_)
    · have e : okVal tx k n f s = ((f : Int) == 0 && s.toList == (⟨#[]⟩ : ByteArray).toList) := by unfold okVal; rw [if_neg (by rw [h0]; simp), if_neg (by rw [h1]; simp), if_neg (by rw [h2]; simp), if_pos h3]
      exact JoinNode.both (fun h => pvInt (fin0 e h)) (fun h => pvInt (fin1 e h))
    refine JoinNode.both (fun h4 => ?_) (fun h4 => ?_)
    · have e : okVal tx k n f s = (n == 0 && s.toList == (⟨#[]⟩ : ByteArray).toList) := by unfold okVal; rw [if_neg (by rw [h0]; simp), if_neg (by rw [h1]; simp), if_neg (by rw [h2]; simp), if_neg (by rw [h3]; simp), if_pos h4]
      exact JoinNode.both (fun h => pvInt (fin0 e h)) (fun h => pvInt (fin1 e h))
    refine JoinNode.both (fun h5 => ?_) (fun h5 => ?_)
    · refine VCallNode.tellsIn (fun _ => hn) (fun _ β w ho => ho.hold.loc (fun _ h => h.elim)) ?_
      have e : okVal tx k n f s = (((n == 0 && (f : Int) == 0) && decide ((s.size : Int) ≤ 4096)) && tx s) := by unfold okVal; rw [if_neg (by rw [h0]; simp), if_neg (by rw [h1]; simp), if_neg (by rw [h2]; simp), if_neg (by rw [h3]; simp), if_neg (by rw [h4]; simp), if_pos h5]
      exact JoinNode.both (fun h => pvInt (fin0 e h)) (fun h => pvInt (fin1 e h))
    · have e : okVal tx k n f s = false := by unfold okVal; rw [if_neg (by rw [h0]; simp), if_neg (by rw [h1]; simp), if_neg (by rw [h2]; simp), if_neg (by rw [h3]; simp), if_neg (by rw [h4]; simp), if_neg (by rw [h5]; simp)]
      exact JoinNode.both (fun h => pvInt (fin0 e h)) (fun h => pvInt (fin1 e h))
end Go.Q
