/-
  The engine is sound: operations that turn nothing. Conditions: as stated at each.
-/
import Derived.Test.YtkidlkcmpbnhpaaDoorQe3
namespace Go.Q
open Go
variable {P : Program} {τ : Tab} {L : Nat → Prop}

theorem tab_of (hτ : TabOk P τ) {T : TypeId} (h : (τ.ti T).kind ≠ .other) :
    ∃ i d, P.info? T = some i ∧ P.underlying T = some d ∧ i.size = (τ.ti T).size ∧ i.bytes = (τ.ti T).bytes ∧
      (match d with | .struct _ | .array _ _ => (τ.ti T).agg = true | _ => (τ.ti T).agg = false) ∧ tiOk P T (τ.ti T) = true := by
  have ht := (hτ.info T).resolve_left h
  have ht' := ht
  unfold tiOk at ht
  split at ht
  · rename_i i d hi hd
    simp only [Bool.and_eq_true, beq_iff_eq] at ht
    refine ⟨i, d, hi, hd, ht.1.1.1, ht.1.1.2, ?_, ht'⟩
    have := ht.1.2
    cases d <;> simp_all
  · cases ht
theorem run_isAgg (hτ : TabOk P τ) {T : TypeId} (h : (τ.ti T).kind ≠ .other) (w : World) : (isAgg T).run P w = .ok (τ.ti T).agg w := by
  obtain ⟨i, d, hi, hd, _, _, ha, _⟩ := tab_of hτ h
  have := run_underlying (w := w) hd
  cases d <;> simp [isAgg, this, ha]
theorem run_sizeOf (hτ : TabOk P τ) {T : TypeId} (h : (τ.ti T).kind ≠ .other) (w : World) : (Go.sizeOf T).run P w = .ok (τ.ti T).size w := by
  obtain ⟨i, d, hi, hd, hs, _⟩ := tab_of hτ h
  simp [Go.sizeOf, typeInfo, hi, hs]

theorem run_loadCellsFrom : ∀ (cs : List Value) (ad : Addr) (j : Nat) (acc : Array Value) (w : World), (∀ (i : Nat) (v : Value), cs[i]? = some v → w.cell? (ad.add (j + i)) = some v) →
    (loadCellsFrom ad j cs.length acc).run P w = .ok (acc ++ cs.toArray) w
  | [], ad, j, acc, w, _ => by simp [loadCellsFrom]
  | c :: r, ad, j, acc, w, h => by
    have h0 : w.cell? (ad.add j) = some c := by simpa using h 0 c rfl
    have ih := run_loadCellsFrom r ad (j + 1) (acc.push c) w (fun i v hi => by have := h (i + 1) v (by simpa using hi); rwa [Nat.add_assoc, Nat.add_comm 1 i])
    simp [loadCellsFrom, load, Sem.run, h0, ih]
theorem run_loadVar_agg (hτ : TabOk P τ) {T : TypeId} (h : (τ.ti T).kind ≠ .other) (hg : (τ.ti T).agg = true) {ad : Addr} {cs : List Value} {w : World} (hl : cs.length = (τ.ti T).size) (hc : cellsAt w ad cs) :
    (loadVar T ad).run P w = .ok (.agg cs.toArray) w := by
  have := run_loadCellsFrom (P := P) cs ad 0 #[] w (fun i v hi => by simpa using hc i v hi)
  rw [hl] at this
  simp [loadVar, run_isAgg hτ h, hg, run_sizeOf hτ h, loadCells, this]
theorem run_loadVar_one (hτ : TabOk P τ) {T : TypeId} (h : (τ.ti T).kind ≠ .other) (hg : (τ.ti T).agg = false) {ad : Addr} {y : Value} {w : World} (hc : w.cell? ad = some y) :
    (loadVar T ad).run P w = .ok y w := by
  simp [loadVar, run_isAgg hτ h, hg, load, Sem.run, hc]

theorem field_of (hτ : TabOk P τ) {T : TypeId} (h : (τ.ti T).kind = .struct) {f off n : Nat} {g : Bool} (hf : (τ.ti T).offs[f]? = some (off, n, g)) :
    ∃ fs fd, P.underlying T = some (.struct fs) ∧ fs[f]? = some fd ∧ fieldOk P fd (off, n, g) = true := by
  obtain ⟨i, d, hi, hd, _, _, _, ht⟩ := tab_of hτ (T := T) (by rw [h]; simp)
  unfold tiOk at ht
  rw [hi, hd, h] at ht
  cases d with
  | struct fs =>
    simp only [Bool.and_eq_true] at ht
    have hfs := ht.2
    refine ⟨fs, ?_⟩
    have key : ∀ (l : List Field) (o : List (Nat × Nat × Bool)) (f : Nat), fieldsOk P l o = true → o[f]? = some (off, n, g) → ∃ fd, l[f]? = some fd ∧ fieldOk P fd (off, n, g) = true := by
      intro l
      induction l with
      | nil => intro o f ho hf; cases o with | nil => simp at hf | cons x xs => simp [fieldsOk] at ho
      | cons a l ih =>
        intro o f ho hf
        cases o with
        | nil => simp at hf
        | cons x xs =>
          simp only [fieldsOk, Bool.and_eq_true] at ho
          cases f with
          | zero => simp at hf; subst hf; exact ⟨a, rfl, ho.1⟩
          | succ f => simpa using ih xs f ho.2 (by simpa using hf)
    obtain ⟨fd, h1, h2⟩ := key _ _ f hfs hf
    exact ⟨fd, hd, by simpa using h1, h2⟩
  | _ => simp at ht
theorem offK_spec {k : Nat → Nat → Bool → Prop} : ∀ {l : List (Nat × Nat × Bool)} {i : Nat}, offK l i k → ∃ o n g, l[i]? = some (o, n, g) ∧ k o n g
  | [], _, h => h.elim
  | (o, n, g) :: _, 0, h => ⟨o, n, g, rfl, h⟩
  | _ :: r, i + 1, h => by
    obtain ⟨o, n, g, h1, h2⟩ := offK_spec (l := r) (i := i) h
    exact ⟨o, n, g, by simpa using h1, h2⟩
theorem tupK_spec {k : Value → Prop} : ∀ {l : List Value} {i : Nat}, tupK l i k → ∃ v, l[i]? = some v ∧ k v
  | [], _, h => h.elim
  | v :: _, 0, h => ⟨v, rfl, h⟩
  | _ :: r, i + 1, h => by
    obtain ⟨v, h1, h2⟩ := tupK_spec (l := r) (i := i) h
    exact ⟨v, by simpa using h1, h2⟩
theorem run_fieldSize (hτ : TabOk P τ) {fd : Field} {off n : Nat} {g : Bool} (h : fieldOk P fd (off, n, g) = true) (w : World) :
    (Go.sizeOf fd.type).run P w = .ok n w ∧ n ≠ 0 ∧ fd.offset = off ∧ (isAgg fd.type).run P w = .ok g w := by
  unfold fieldOk at h
  simp only [Bool.and_eq_true, beq_iff_eq, bne_iff_ne] at h
  obtain ⟨⟨⟨h1, h2⟩, h3⟩, h4⟩ := h
  cases hi : P.info? fd.type with
  | none => simp [hi] at h3
  | some i =>
    simp [hi] at h3
    refine ⟨by simp [Go.sizeOf, typeInfo, hi, h3], h2, h1, ?_⟩
    split at h4
    · rename_i hu; simp [isAgg, run_underlying hu]; exact h4
    · rename_i hu; simp [isAgg, run_underlying hu]; exact h4
    · rename_i d hn1 hn2 hu
      have hg : g = false := by simpa using h4
      cases d <;> simp [isAgg, run_underlying hu, hg] <;> first | exact hn1 _ rfl | exact hn2 _ _ rfl
    · cases h4

theorem mem_getH {H : List Ck} {i : Nat} {c : Ck} (h : H[i]? = some c) : i < H.length := by
  rcases Nat.lt_or_ge i H.length with h1 | h1
  · exact h1
  · rw [List.getElem?_eq_none h1] at h; cases h
/-- A chunk's cells, read in the world. -/
theorem cellsAt_box {β : Nat → Nat} {H : List Ck} {E : List Fact} {w : World} (hok : Ok τ L β H E w) {i : Nat} {ty : TypeId} {cs : List Value} {no : Option Nat} (h : H[i]? = some (.box ty cs no)) :
    ∀ (j : Nat) (v : Value), cs[j]? = some v → w.cell? ⟨β i, j, none⟩ = some v := by
  intro j v hj
  have := hok.own i _ h rfl
  simp [World.cell?, this, Ck.ob, hj]
theorem add_off (b o j : Nat) : (Addr.add ⟨b, o, none⟩ j) = ⟨b, o + j, none⟩ := by
  unfold Addr.add; split <;> simp_all

theorem kb_eq {k k' : IntKind} (h : kb k k' = true) : k = k' := by cases k <;> cases k' <;> first | rfl | cases h
theorem binI_spec {op : BinOp} {k : IntKind} {a b : Int} {c : Value → Prop} {d : Prop} (h : binI op k a b c d) :
    d ∨ ∃ v, c v ∧ ∀ (t : TypeId) (w : World), (binOp op t (.int k a) (.int k b)).run P w = .ok v w := by
  cases op <;> first
    | exact .inl h
    | exact .inr ⟨_, h, fun t w => by simp [binOp, Op.intArith, Op.intCmp]⟩
theorem binS_spec {op : BinOp} {a b : ByteArray} {c : Value → Prop} {d : Prop} (h : binS op a b c d) :
    d ∨ ∃ v, c v ∧ ∀ (t : TypeId) (w : World), (binOp op t (.string a) (.string b)).run P w = .ok v w := by
  cases op <;> first
    | exact .inl h
    | exact .inr ⟨_, h, fun t w => by simp [binOp, Op.stringOp]⟩
theorem eqGuard_int (op : BinOp) (t : TypeId) (x y : Operand) (k k' : IntKind) (a b : Int) (w : World) : (eqGuard op t x y (.int k a) (.int k' b)).run P w = .ok () w := by
  unfold eqGuard; cases op <;> rfl
theorem eqGuard_string (op : BinOp) (t : TypeId) (x y : Operand) (a b : ByteArray) (w : World) : (eqGuard op t x y (.string a) (.string b)).run P w = .ok () w := by
  unfold eqGuard; cases op <;> rfl

section
variable {β : Nat → Nat} {n : Nat} {F : Tr} {gs : List (Nat × Nat)} {a : Act} {H : List Ck} {E : List Fact} {gd : Gd}

def Quiet (P : Program) (τ : Tab) (L : Nat → Prop) (β : Nat → Nat) (H : List Ck) (E : List Fact) (gd : Gd) (o : Oper) (a : Act) (y : PV) : Prop :=
  gd.holds → ∀ (C : World → Prop), (∀ w w', C w → Kp (fun _ => False) w w' → C w') → ∀ w, C w → Ok τ L β H E w → o.quietAt P a C w (y.den β)

theorem Quiet.run {o : Oper} {y : PV} (h : gd.holds → ∀ w, Ok τ L β H E w → (execOp a.eval o).run P w = .ok (.value (y.den β)) w) : Quiet P τ L β H E gd o a y := by
  intro hg C _ w _ hok
  unfold Oper.quietAt
  rw [h hg w hok]
  exact ⟨rfl, rfl⟩

theorem vraw_spec (hF : FrOk β n H.length F gs a) (hg : GdOk F gd) {o : Oper} {k : PV → Prop} (h : VRawNode P τ L gd o F H E fun z => k (.v z)) :
    ∃ y, k y ∧ y.lim H.length ∧ Quiet P τ L β H E gd o a y := by
  replace h := h.out
  obtain ⟨r, h, hk⟩ := h
  refine ⟨.v r, hk, trivial, Quiet.run fun hh w hok => h hh β w a hok fun x y hu => ?_⟩
  obtain ⟨y', rfl, _, he⟩ := useK_spec hF hg hu
  exact he hh
theorem call_quiet {o : Oper} {f : FuncId} {args : List Value} {r : Value} (hr : gd.holds → ∀ w, (execOp a.eval o).run P w = .ok (.enter f args.toArray) w)
    (h : gd.holds → ∀ β w, Ok τ L β H E w → Calls P f args.toArray w fun e w' => e = .returned r ∧ Kp (fun _ => False) w w') : Quiet P τ L β H E gd o a (.v r) := by
  intro hg C hC w hw hok
  unfold Oper.quietAt
  rw [hr hg w]
  exact ⟨rfl, (h hg β w hok).mono fun e w' ⟨h1, h2⟩ => ⟨h1, hC _ _ hw h2⟩⟩
end
end Go.Q
