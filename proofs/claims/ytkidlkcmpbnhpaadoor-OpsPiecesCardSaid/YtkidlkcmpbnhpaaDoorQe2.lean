/-
  The engine's stops: how each is passed. Conditions: as stated at each.
-/
import Derived.Test.YtkidlkcmpbnhpaaDoorQe1
namespace Go.Q
open Go
variable {P : Program} {τ : Tab} {L : Nat → Prop}

theorem Kp.refl (L : Nat → Prop) (w : World) : Kp L w w := ⟨rfl, rfl, rfl, Nat.le_refl _, fun _ _ _ => rfl⟩
theorem Kp.mono {L L' : Nat → Prop} {w w' : World} (h : Kp L w w') (hl : ∀ b, L b → L' b) : Kp L' w w' := ⟨h.os, h.tape, h.output, h.size, fun b hb hn => h.block b hb (fun x => hn (hl b x))⟩
theorem Kp.trans {L : Nat → Prop} {a b c : World} (h : Kp L a b) (k : Kp L b c) : Kp L a c :=
  ⟨k.os.trans h.os, k.tape.trans h.tape, k.output.trans h.output, Nat.le_trans h.size k.size, fun i hi hn => (k.block i (Nat.lt_of_lt_of_le hi h.size) hn).trans (h.block i hi hn)⟩
theorem Kp.none {L : Nat → Prop} {w w' : World} (h : Kp (fun _ => False) w w') : Kp L w w' := h.mono fun _ x => x.elim
theorem Holds.keep {L : Nat → Prop} {w w' : World} (h : Kp L w w') : ∀ {E : List Fact}, Holds E L w → Holds E L w'
  | [], _ => trivial
  | f :: _, ⟨a, b⟩ => ⟨f.keep L w w' h a, Holds.keep h b⟩
theorem Holds.loc {L L' : Nat → Prop} {w : World} (h : ∀ b, L' b → L b ∨ w.heap.size ≤ b) : ∀ {E : List Fact}, Holds E L w → Holds E L' w
  | [], _ => trivial
  | f :: _, ⟨a, b⟩ => ⟨f.loc L L' w h a, Holds.loc h b⟩
theorem Holds.app {L : Nat → Prop} {w : World} : ∀ {E E' : List Fact}, Holds E L w → Holds E' L w → Holds (E ++ E') L w
  | [], _, _, h => h
  | _ :: _, _, ⟨a, b⟩, h => ⟨a, Holds.app b h⟩
theorem lt_of_some {w : World} {b : Nat} {o : Obj} (h : w.heap[b]? = some o) : b < w.heap.size := by
  rcases Nat.lt_or_ge b w.heap.size with h1 | h1
  · exact h1
  · rw [Array.getElem?_eq_none h1] at h; cases h
theorem Ok.lt_own {β : Nat → Nat} {H : List Ck} {E : List Fact} {w : World} (h : Ok τ L β H E w) {i : Nat} {c : Ck} (hi : H[i]? = some c) (hv : c.live = true) : β i < w.heap.size :=
  lt_of_some (h.own i c hi hv)
theorem loc_set {β : Nat → Nat} {H : List Ck} {i : Nat} {c c' : Ck} (hc : H[i]? = some c) (hv : c.live = true) {b : Nat} (h : loc β (H.set i c') b) : loc β H b := by
  obtain ⟨j, d, hj, hd, e⟩ := h
  by_cases hij : i = j
  · subst hij; exact ⟨i, c, hc, hv, e⟩
  · rw [List.getElem?_set_ne hij] at hj; exact ⟨j, d, hj, hd, e⟩
/-- What turns nothing that is owned. -/
theorem Ok.kp {β : Nat → Nat} {H : List Ck} {E : List Fact} {w w' : World} (h : Ok τ L β H E w) (k : Kp (fun _ => False) w w') : Ok τ L β H E w' :=
  ⟨h.inj, fun i c hc hv => (k.block _ (lt_of_some (h.own i c hc hv)) (fun x => x)).trans (h.own i c hc hv), h.no, h.len, fun b hb => Nat.lt_of_lt_of_le (h.lt b hb) k.size, h.sep, h.hold.keep k.none⟩
theorem Ok.more {β : Nat → Nat} {H : List Ck} {E E' : List Fact} {w : World} (h : Ok τ L β H E w) (h' : Holds E' (both L β H) w) : Ok τ L β H E' w :=
  ⟨h.inj, h.own, h.no, h.len, h.lt, h.sep, h'⟩

variable {H : List Ck} {E : List Fact}
/-- A call whose answer is known, and that turns nothing; it may leave new facts. -/
theorem CallNode.pure {f : FuncId} {args : List Value} {k : PV → List Ck → List Fact → Prop} (r : Value) (E' : List Fact)
    (h : ∀ β w, Ok τ L β H E w → Calls P f args.toArray w fun e w' => e = .returned r ∧ Kp (fun _ => False) w w' ∧ Holds E' (both L β H) w')
    (hk : k (.v r) H (E' ++ E)) : CallNode P τ L f args H E k := by
  constructor
  intro β w hok
  refine (h β w hok).mono fun e w' ⟨he, hkp, hE⟩ => ?_
  have := hok.kp hkp
  exact ⟨.v r, H, E' ++ E, β, he, fun _ _ => rfl, Nat.le_refl _, (fun i c h1 h2 => .inr ⟨i, c, h1, h2, rfl⟩), trivial, this.more (hE.app this.hold), hkp.none, hk⟩
/-- .. and leaves none. -/
theorem CallNode.val {f : FuncId} {args : List Value} {k : PV → List Ck → List Fact → Prop} (r : Value)
    (h : ∀ w, Calls P f args.toArray w fun e w' => e = .returned r ∧ Kp (fun _ => False) w w') (hk : k (.v r) H E) : CallNode P τ L f args H E k :=
  CallNode.pure r [] (fun _ w _ => (h w).mono fun _ _ ⟨a, b⟩ => ⟨a, b, trivial⟩) hk
theorem CallNode.ok {f : FuncId} {args : List Value} {k : PV → List Ck → List Fact → Prop} (r : Value)
    (h : ∀ β w, Ok τ L β H E w → Calls P f args.toArray w fun e w' => e = .returned r ∧ Kp (fun _ => False) w w') (hk : k (.v r) H E) : CallNode P τ L f args H E k :=
  CallNode.pure r [] (fun β w ho => (h β w ho).mono fun _ _ ⟨a, b⟩ => ⟨a, b, trivial⟩) hk
/-- A call that turns nothing, of whose answer something is known. -/
theorem CallNode.some {f : FuncId} {args : List Value} {k : PV → List Ck → List Fact → Prop} (R : Value → List Fact → Prop)
    (h : ∀ β w, Ok τ L β H E w → Calls P f args.toArray w fun e w' => ∃ r E', e = .returned r ∧ Kp (fun _ => False) w w' ∧ Holds E' (both L β H) w' ∧ R r E')
    (hk : ∀ r E', R r E' → k (.v r) H (E' ++ E)) : CallNode P τ L f args H E k := by
  constructor
  intro β w hok
  refine (h β w hok).mono fun e w' ⟨r, E', he, hkp, hE, hR⟩ => ?_
  have := hok.kp hkp
  exact ⟨.v r, H, E' ++ E, β, he, fun _ _ => rfl, Nat.le_refl _, (fun i c h1 h2 => .inr ⟨i, c, h1, h2, rfl⟩), trivial, this.more (hE.app this.hold), hkp.none, hk r E' hR⟩
theorem VCallNode.val {gd : Gd} {f : FuncId} {args : List Value} {k : Value → Prop} (r : Value)
    (h : gd.holds → ∀ w, Calls P f args.toArray w fun e w' => e = .returned r ∧ Kp (fun _ => False) w w') (hk : k r) : VCallNode P τ L gd f args H E k := by
  constructor
  exact ⟨r, fun hg _ w _ => h hg w, hk⟩
theorem VCallNode.ok {gd : Gd} {f : FuncId} {args : List Value} {k : Value → Prop} (r : Value)
    (h : gd.holds → ∀ β w, Ok τ L β H E w → Calls P f args.toArray w fun e w' => e = .returned r ∧ Kp (fun _ => False) w w') (hk : k r) : VCallNode P τ L gd f args H E k := by
  constructor
  exact ⟨r, h, hk⟩
theorem IdxNode.mk {gd : Gd} {ao : Option Addr} {n : Nat} {i : Int} {size : Nat} {k : Value → Prop} (ad : Addr) (h : gd.holds → ao = .some ad ∧ 0 ≤ i ∧ i < n)
    (hk : k (.pointer (.some (ad.add (i.toNat * size))))) : IdxNode gd ao n i size k := by
  constructor
  exact ⟨ad, h, hk⟩
theorem LoadNode.agg {gd : Gd} {ao : Option Addr} {size : Nat} {k : Value → Prop} (cs : List Value) (hl : cs.length = size)
    (h : gd.holds → ∀ β w, Ok τ L β H E w → ∃ ad, ao = .some ad ∧ cellsAt w ad cs) (hk : k (.agg cs.toArray)) : LoadNode τ L gd H E ao size true k := by
  constructor
  exact ⟨cs, hl, h, hk⟩
theorem LoadNode.one {gd : Gd} {ao : Option Addr} {k : Value → Prop} (y : Value)
    (h : gd.holds → ∀ β w, Ok τ L β H E w → ∃ ad, ao = .some ad ∧ w.cell? ad = .some y) (hk : k y) : LoadNode τ L gd H E ao 1 false k := by
  constructor
  refine ⟨[y], rfl, fun hg β w ho => ?_, y, rfl, hk⟩
  obtain ⟨ad, e, hc⟩ := h hg β w ho
  refine ⟨ad, e, fun j v hj => ?_⟩
  match j, hj with
  | 0, hj => simp at hj; subst hj; simpa [Addr.add] using hc
theorem VRawNode.mk {gd : Gd} {o : Oper} {F : Tr} {k : Value → Prop} (r : Value) (h : gd.holds → ∀ β w (a : Act), Ok τ L β H E w → (∀ x y, useK gd F x (fun z => z = y) → a.eval x = y.den β) →
    (execOp a.eval o).run P w = .ok (.value r) w) (hk : k r) : VRawNode P τ L gd o F H E k := by
  constructor
  exact ⟨r, h, hk⟩
theorem JoinNode.both {t : Bool} {A B : (Exit → Tr → List Ck → List Fact → Prop) → Prop} {Q : Exit → Tr → List Ck → List Fact → Prop} (h1 : t = true → A Q) (h2 : t = false → B Q) : JoinNode t A B Q := by
  constructor; exact ⟨h1, h2⟩
theorem JoinNode.yes {t : Bool} {A B : (Exit → Tr → List Ck → List Fact → Prop) → Prop} {Q : Exit → Tr → List Ck → List Fact → Prop} (ht : t = true) (h : A Q) : JoinNode t A B Q := by
  constructor; exact ⟨fun _ => h, (fun e => by rw [ht] at e; cases e)⟩
theorem JoinNode.no {t : Bool} {A B : (Exit → Tr → List Ck → List Fact → Prop) → Prop} {Q : Exit → Tr → List Ck → List Fact → Prop} (ht : t = false) (h : B Q) : JoinNode t A B Q := by
  constructor; exact ⟨(fun e => by rw [ht] at e; cases e), fun _ => h⟩
theorem LoopNode.mk {d m : Nat} {body : Tr → List Ck → List Fact → (Exit → Tr → List Ck → List Fact → Prop) → Prop} {F : Tr} {Q : Exit → Tr → List Ck → List Fact → Prop}
    {α : Type} (l : α → List (Nat × SV)) (h : α → List Ck) (E' : α → List Fact) (I : α → Prop) (μ : α → Nat) (x : α)
    (h0 : I x) (hd : Down m F H E (l x) (h x) (E' x)) (hm : ∀ x, m ≤ (h x).length)
    (round : ∀ x, I x → Tr.putsK (l x) (Tr.full d) fun F' => body F' (h x) (E' x) fun e F'' H'' E'' => match e with
      | .normal => ∃ x', μ x' < μ x ∧ I x' ∧ Down m F'' H'' E'' (l x') (h x') (E' x')
      | e => Q e F'' H'' E'') : LoopNode d m body F H E Q := by
  constructor
  exact ⟨α, l, h, E', I, μ, x, h0, hd, hm, round⟩
end Go.Q
