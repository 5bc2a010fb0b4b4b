/-
  The engine's table of types as a tree. Conditions: none.
-/
import Derived.Test.YtkidlkcmpbnhpaaDoorQe12
namespace Go.Q
open Go
def tiOther : TI := ⟨.other, 0, 0, false, [], [], 0⟩
inductive TT where
  | e
  | n (l : TT) (k : Nat) (x : TI) (r : TT)
def TT.get : TT → Nat → TI
  | .e, _ => tiOther
  | .n l k x r, t => match Nat.beq t k with
    | true => x
    | false => match Nat.blt t k with
      | true => l.get t
      | false => r.get t
def TT.ok (P : Program) : TT → Bool
  | .e => true
  | .n l k x r => l.ok P && tiOk P k x && r.ok P
def TT.zok (P : Program) : TT → Prop
  | .e => True
  | .n l k x r => l.zok P ∧ (x.zero = [] ∨ zOk P k x) ∧ r.zok P
theorem TT.ok_get {P : Program} : ∀ {t : TT}, t.ok P = true → ∀ T, (t.get T).kind = .other ∨ tiOk P T (t.get T) = true
  | .e, _, _ => .inl rfl
  | .n l k x r, h, T => by
    simp only [TT.ok, Bool.and_eq_true] at h
    unfold TT.get
    cases hb : Nat.beq T k with
    | true => exact .inr (by rw [Nat.eq_of_beq_eq_true hb]; exact h.1.2)
    | false =>
      cases Nat.blt T k with
      | true => exact TT.ok_get h.1.1 T
      | false => exact TT.ok_get h.2 T
theorem TT.zok_get {P : Program} : ∀ {t : TT}, t.zok P → ∀ T, (t.get T).zero = [] ∨ zOk P T (t.get T)
  | .e, _, _ => .inl rfl
  | .n l k x r, h, T => by
    unfold TT.get
    cases hb : Nat.beq T k with
    | true => rw [Nat.eq_of_beq_eq_true hb]; exact h.2.1
    | false =>
      cases Nat.blt T k with
      | true => exact TT.zok_get h.1 T
      | false => exact TT.zok_get h.2.2 T
def entersB (P : Program) (τ : Tab) : Bool := (List.range τ.nf).all fun f => !τ.enters f || match P.funcs[f]? with
  | some fn => !(fn.name == "runtime.NumGoroutine") && !fn.body.isNone
  | none => false
theorem tabOk_of {P : Program} {t : TT} {nf : Nat} {ext : List Nat} (h : t.ok P = true) (z : t.zok P) (e : entersB P ⟨t.get, nf, ext⟩ = true) : TabOk P ⟨t.get, nf, ext⟩ := by
  refine ⟨fun f hf args w => ?_, TT.ok_get h, TT.zok_get z⟩
  have hlt : f < nf := by
    have hf2 := hf
    unfold Tab.enters at hf2
    cases hb : Nat.blt f nf with
    | true => simpa [Nat.blt_eq] using hb
    | false => simp only [hb] at hf2; cases hf2
  unfold entersB at e
  rw [List.all_eq_true] at e
  have := e f (List.mem_range.2 hlt)
  rw [hf] at this
  cases hp : P.funcs[f]? with
  | none => rw [hp] at this; cases this
  | some fn =>
    rw [hp] at this
    simp only [Bool.not_true, Bool.false_or, Bool.and_eq_true, Bool.not_eq_true'] at this
    unfold callFunc
    simp only [Sem.run_bind, run_program, Result.andThen_ok, hp]
    simp only [this.1, this.2, Bool.false_eq_true, if_false]
    rfl
end Go.Q
