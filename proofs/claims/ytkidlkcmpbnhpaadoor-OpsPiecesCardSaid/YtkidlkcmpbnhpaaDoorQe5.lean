/-
  The engine is sound: the value of an operation that turns nothing. Conditions: as stated at each.
-/
import Derived.Test.YtkidlkcmpbnhpaaDoorQe4
namespace Go.Q
open Go
variable {P : Program} {τ : Tab} {L : Nat → Prop}
section
variable {β : Nat → Nat} {n : Nat} {F : Tr} {gs : List (Nat × Nat)} {a : Act} {H : List Ck} {E : List Fact} {gd : Gd}

theorem load_box (hτ : TabOk P τ) {w : World} (hok : Ok τ L β H E w) {T ty : TypeId} {cs : List Value} {no : Option Nat} {i o : Nat} (hT : (τ.ti T).kind ≠ .other) (hc : H[i]? = some (.box ty cs no)) {k : Value → Prop}
    (h : loadK τ T ty o cs k) :
    ∃ v, k v ∧ ∀ w, Ok τ L β H E w → (loadVar T ⟨β i, o, none⟩).run P w = .ok v w := by
  have slow : mkVal (τ.ti T).agg (τ.ti T).size o cs k → ∃ v, k v ∧ ∀ w, Ok τ L β H E w → (loadVar T ⟨β i, o, none⟩).run P w = .ok v w := fun h => by
    obtain ⟨v, hk, ⟨hg, y, hy, rfl⟩ | ⟨hg, hl, rfl⟩⟩ := mkVal_spec h
    · exact ⟨v, hk, fun w hok => run_loadVar_one hτ hT hg (cellsAt_box hok hc o _ hy)⟩
    · refine ⟨_, hk, fun w hok => run_loadVar_agg hτ hT hg (by simp; omega) fun j v hj => ?_⟩
      rw [List.getElem?_take, List.getElem?_drop] at hj
      split at hj
      · rw [add_off]; exact cellsAt_box hok hc _ _ hj
      · cases hj
  unfold loadK at h
  split at h
  · rename_i h0 hty hg
    have e0 : o = 0 := Nat.eq_of_beq_eq_true h0
    have ety : ty = T := Nat.eq_of_beq_eq_true hty
    subst e0; subst ety
    refine ⟨_, h, fun w hok => run_loadVar_agg hτ hT hg (hok.len i ty cs no hc) fun j v hj => ?_⟩
    rw [add_off]
    simpa using cellsAt_box hok hc j v hj
  · exact slow h

theorem fill_spec {offs : List (Nat × Nat × Bool)} (place : Nat → Option (Nat × Nat)) (hp : ∀ (i o m : Nat) (g : Bool), offs[i]? = some (o, m, g) → place i = some (o, m)) :
    ∀ (is : List Nat) (vs cs : List Value) (k : List Value → Prop), fillK offs is vs cs k → ∃ cs', k cs' ∧ Instr.fill place cs.toArray (is.zip vs) = some cs'.toArray := by
  intro is
  induction is with
  | nil =>
    intro vs cs k h
    cases vs with
    | nil => exact ⟨cs, h, rfl⟩
    | cons v vs => exact h.elim
  | cons i is ih =>
    intro vs cs k h
    cases vs with
    | nil => exact h.elim
    | cons v vs =>
      unfold fillK at h
      obtain ⟨o, m, g, ho, h⟩ := offK_spec h
      split at h
      · rename_i hm
        have hm' : (cellsOf v).length = m := Nat.eq_of_beq_eq_true hm
        obtain ⟨hle, h⟩ := spliceK_spec h
        obtain ⟨cs', hk, hf⟩ := ih vs _ _ h
        refine ⟨cs', hk, ?_⟩
        have hcells : v.cells = (cellsOf v).toArray := by cases v <;> rfl
        have hsz : v.cells.size = m := by rw [hcells]; simpa using hm'
        simp only [List.zip_cons_cons, Instr.fill, hp i o m g ho, hsz]
        rw [if_neg (by simp; rw [hm'] at hle; omega)]
        rw [← hf]
        congr 1
        have key : ∀ (new : List Value) (s : Nat) (cs : List Value), s + new.length ≤ cs.length →
            (new.toArray.zipIdx.foldl (fun cs (x : Value × Nat) => cs.setIfInBounds (s + x.2) x.1) cs.toArray) = (splice cs s new).toArray := by
          intro new s cs hs
          apply Array.ext'
          apply List.ext_getElem?
          intro t
          have gen : ∀ (new : List Value) (q : Nat) (A : Array Value), ((new.zipIdx q).foldl (fun cs (x : Value × Nat) => cs.setIfInBounds (s + x.2) x.1) A)[t]? =
              if s + q ≤ t ∧ t < s + q + new.length ∧ t < A.size then new[t - (s + q)]? else A[t]? := by
            intro new
            induction new with
            | nil => intro q A; simp; omega
            | cons x xs ihx =>
              intro q A
              rw [List.zipIdx_cons, List.foldl_cons, ihx]
              simp only [Array.size_setIfInBounds, List.length_cons]
              by_cases e : t = s + q
              · subst e
                by_cases hl : s + q < A.size
                · rw [if_neg (by omega), if_pos (by omega)]; simp [hl]
                · rw [if_neg (by omega), if_neg (by omega)]; simp [hl]
              · by_cases c : s + (q + 1) ≤ t ∧ t < s + (q + 1) + xs.length ∧ t < A.size
                · rw [if_pos c, if_pos (by omega)]
                  obtain ⟨u, hu⟩ : ∃ u, t - (s + q) = u + 1 := ⟨t - (s + q) - 1, by omega⟩
                  rw [hu, List.getElem?_cons_succ]
                  congr 1; omega
                · rw [if_neg c, if_neg (by omega), Array.getElem?_setIfInBounds_ne (by omega)]
          have g := gen new 0 cs.toArray
          simp only [← Array.foldl_toList] at *
          have hz : new.toArray.zipIdx.toList = new.zipIdx := by simp
          rw [hz, Array.getElem?_toList, g]
          simp only [splice, Nat.add_zero, List.size_toArray, List.getElem?_toArray]
          by_cases c : s ≤ t ∧ t < s + new.length
          · rw [if_pos (by omega), List.append_assoc, List.getElem?_append_right (by simp; omega), List.getElem?_append_left (by simp; omega)]
            simp; congr 1; omega
          · by_cases c2 : t < s
            · rw [if_neg (by omega), List.append_assoc, List.getElem?_append_left (by simp; omega)]
              simp [c2]
            · rw [if_neg (by omega), List.getElem?_append_right (by simp; omega), List.getElem?_drop]
              congr 1; simp; omega
        rw [hcells]
        exact key _ _ _ hle
      · exact h.elim
end
end Go.Q
