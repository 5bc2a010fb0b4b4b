/-
  Facts on memory; rows read and turned; loops over rows. Conditions: none.
-/
import Derived.Test.YtkidlkcmpbnhpaaDoorQx
import Derived.Laws.IdiomCopy
namespace Go.Q
open Go Go.Proofs.Tryd
set_option maxRecDepth 100000
theorem wrap_i64 {x : Int} (h1 : -(2 ^ 63) ≤ x) (h2 : x < 2 ^ 63) : IntKind.i64.wrap x = x := by
  simp [IntKind.wrap, IntKind.bits, IntKind.signed]
  omega
theorem wrap_u64 {x : Int} (h1 : 0 ≤ x) (h2 : x < 2 ^ 64) : IntKind.u64.wrap x = x := by
  simp [IntKind.wrap, IntKind.bits, IntKind.signed]
  omega
theorem addr_add (b o n : Nat) : (⟨b, o, none⟩ : Addr).add n = ⟨b, o + n, none⟩ := by
  unfold Addr.add
  split
  · rename_i h; subst h; rfl
  · rfl
/-- What the block b holds from o on; it is none of those in L. -/
def rowF (b o : Nat) (cs : List Value) : Fact where
  hold L w := ¬ L b ∧ b < w.heap.size ∧ ∀ (j : Nat) (v : Value), cs[j]? = some v → w.cell? ⟨b, o + j, none⟩ = some v
  keep L w w' k h := by
    refine ⟨h.1, Nat.lt_of_lt_of_le h.2.1 k.size, fun j v hv => ?_⟩
    have := h.2.2 j v hv
    unfold World.cell? at this ⊢
    simp only [k.block b h.2.1 h.1]
    exact this
  loc L L' w hl h := ⟨fun hb => (hl b hb).elim h.1 fun x => by have := h.2.1; omega, h.2.1, h.2.2⟩
theorem Holds.mem {f : Fact} {L : Nat → Prop} {w : World} : ∀ {E : List Fact}, f ∈ E → Holds E L w → f.hold L w
  | _ :: _, .head _, h => h.1
  | _ :: _, .tail _ hm, h => Holds.mem hm h.2
theorem Ok.fact {L : Nat → Prop} {β : Nat → Nat} {H : List Ck} {E : List Fact} {w : World} {f : Fact} (h : Ok τ L β H E w) (hf : f ∈ E) : f.hold (fun _ => False) w :=
  f.loc _ _ w (fun _ h => h.elim) (Holds.mem hf h.hold)
theorem cell_own {w : World} {b : Nat} {cs : List Value} {ty : TypeId} {x : Nat × Nat} (h : w.heap[b]? = some (.cells cs.toArray ty x)) (j : Nat) : w.cell? ⟨b, j, none⟩ = cs[j]? := by
  simp [World.cell?, h]
/-- An owned row, or a variable, as a fact. -/
theorem Ok.rowF {L : Nat → Prop} {β : Nat → Nat} {H : List Ck} {E : List Fact} {w : World} {i b : Nat} {cs : List Value} (h : Ok τ L β H E w) (o : Nat) (hi : (∃ ty, H[i]? = some (.row ty cs (some b))) ∨ ∃ ty, H[i]? = some (.box ty cs (some b))) :
    (Go.Q.rowF b o (cs.drop o)).hold (fun _ => False) w := by
  have key : ∃ ty, w.heap[b]? = some (.cells cs.toArray ty (0, 0)) := by
    rcases hi with ⟨ty, hi⟩ | ⟨ty, hi⟩
    · have := h.own i _ hi rfl
      rw [h.no i b _ hi rfl] at this
      exact ⟨ty, this⟩
    · have := h.own i _ hi rfl
      rw [h.no i b _ hi rfl] at this
      exact ⟨ty, this⟩
  obtain ⟨ty, hb⟩ := key
  refine ⟨fun x => x, lt_of_some hb, fun j v hv => ?_⟩
  rw [cell_own hb]
  simpa using hv
theorem loc_kill0 {β : Nat → Nat} {H : List Ck} {i : Nat} {b : Nat} (h : loc β (H.set i .dead) b) : loc β H b := by
  obtain ⟨j, d, hj, hd, e⟩ := h
  by_cases hij : i = j
  · subst hij
    rw [List.getElem?_set, if_pos rfl] at hj
    split at hj
    · injection hj with hj; subst hj; cases hd
    · cases hj
  · rw [List.getElem?_set_ne hij] at hj
    exact ⟨j, d, hj, hd, e⟩
theorem heap_at_eta {w : World} {b : Nat} {o : Obj} (h : w.heap[b]? = some o) : w.heap.setIfInBounds b o = w.heap := by
  apply Array.ext_getElem?
  intro i
  rw [Array.getElem?_setIfInBounds]
  by_cases e : b = i
  · subst e; rw [if_pos rfl, if_pos (lt_of_some h), h]
  · rw [if_neg e]
theorem setCell_row {w : World} {b off : Nat} {cs : List Value} {ty : TypeId} {x : Nat × Nat} {v : Value} (hb : w.heap[b]? = some (.cells cs.toArray ty x)) :
    w.setCell ⟨b, off, none⟩ v = { w with heap := w.heap.setIfInBounds b (.cells (cs.set off v).toArray ty x) } := by
  unfold World.setCell
  congr 1
  apply Array.ext_getElem?
  intro i
  simp only [Array.getElem?_modify, Array.getElem?_setIfInBounds]
  by_cases e : b = i
  · subst e
    have hlt := lt_of_some hb
    have hb2 := hb
    rw [Array.getElem?_eq_getElem hlt] at hb2
    injection hb2 with hb2
    simp [hlt, hb2]
  · simp [e]
theorem setCells_row : ∀ {w : World} {b : Nat} {cs : List Value} {ty : TypeId} {x : Nat × Nat} (hb : w.heap[b]? = some (.cells cs.toArray ty x)) (off : Nat) (news : List Value), off + news.length ≤ cs.length →
    w.setCells b off news = { w with heap := w.heap.setIfInBounds b (.cells (splice cs off news).toArray ty x) }
  | w, b, cs, ty, x, hb, off, [], h => by
    have : splice cs off [] = cs := by simp [splice]
    rw [this, heap_at_eta hb]; rfl
  | w, b, cs, ty, x, hb, off, v :: r, h => by
    simp at h
    simp only [World.setCells]
    have hb' : ({ w with heap := w.heap.setIfInBounds b (.cells (cs.set off v).toArray ty x) } : World).heap[b]? = some (.cells (cs.set off v).toArray ty x) := by
      simp [lt_of_some hb]
    rw [setCell_row hb, setCells_row hb' (off + 1) r (by simp; omega), splice_set _ _ _ _ (by omega)]
    simp only [Array.setIfInBounds_setIfInBounds]
/-- A list's cells. -/
def flat {α : Type} (enc : α → List Value) : List α → List Value
  | [] => []
  | x :: r => enc x ++ flat enc r
theorem flat_get {α : Type} {enc : α → List Value} {s : Nat} (hs : ∀ x, (enc x).length = s) : ∀ {l : List α} {i : Nat} {x : α}, l[i]? = some x → ∀ (j : Nat) (v : Value), (enc x)[j]? = some v → (flat enc l)[i * s + j]? = some v
  | [], _, _, h, _, _, _ => by simp at h
  | y :: r, 0, x, h, j, v, hv => by
    simp at h; subst h
    simp only [flat, Nat.zero_mul, Nat.zero_add]
    rw [List.getElem?_append_left (List.getElem?_eq_some_iff.1 hv).1]
    exact hv
  | y :: r, i + 1, x, h, j, v, hv => by
    simp only [flat]
    rw [List.getElem?_append_right (by rw [hs, Nat.add_mul]; omega), hs]
    have := flat_get hs (l := r) (i := i) (by simpa using h) j v hv
    rw [← this]
    congr 1
    rw [Nat.add_mul]; omega
def posOf (o : Option Nat) : Int := match o with | some i => i | none => -1
theorem posOf_find {α : Type} {p : α → Bool} {l : List α} {i : Nat} {x : α} (h : ∀ j y, j < i → l[j]? = some y → p y = false) (hi : l[i]? = some x) (hx : p x = true) : posOf (l.findIdx? p) = i := by
  have : l.findIdx? p = some i := by
    rw [List.findIdx?_eq_some_iff_getElem]
    obtain ⟨h1, h2⟩ := List.getElem?_eq_some_iff.1 hi
    exact ⟨h1, by rw [h2]; exact hx, fun j hj => by simpa using h j l[j] hj (List.getElem?_eq_getElem (by omega))⟩
  rw [this]; rfl
theorem posOf_none {α : Type} {p : α → Bool} {l : List α} (h : ∀ (j : Nat) y, j < l.length → l[j]? = some y → p y = false) : posOf (l.findIdx? p) = -1 := by
  have : l.findIdx? p = none := by
    rw [List.findIdx?_eq_none_iff]
    intro x hx
    obtain ⟨j, hj, e⟩ := List.mem_iff_getElem.1 hx
    exact h j x hj (by rw [List.getElem?_eq_getElem hj, e])
  rw [this]; rfl
variable {L : Nat → Prop} {gd : Gd} {H : List Ck} {E : List Fact}
theorem CallNode.tellsIn {E' : List Fact} {f : Nat} {args rs : List Value} {k : PV → List Ck → List Fact → Prop} (h : TellsIn E' f args rs) (hE : ∀ β w, Ok τ L β H E w → Holds E' (fun _ => False) w) (hk : k (.v (retV rs)) H E) : CallNode P τ L f args H E k :=
  CallNode.ok _ (fun β w ho => h (fun _ => False) w (fun _ h => h.elim) (hE β w ho)) hk
theorem VCallNode.tellsIn {E' : List Fact} {f : Nat} {args rs : List Value} {k : Value → Prop} (h : gd.holds → TellsIn E' f args rs) (hE : gd.holds → ∀ β w, Ok τ L β H E w → Holds E' (fun _ => False) w) (hk : k (retV rs)) : VCallNode P τ L gd f args H E k :=
  VCallNode.ok _ (fun hg β w ho => h hg (fun _ => False) w (fun _ h => h.elim) (hE hg β w ho)) hk
theorem TellsIn.mono {E E' : List Fact} {f : Nat} {args rs : List Value} (h : TellsIn E f args rs) (hE : ∀ L w, Holds E' L w → Holds E L w) : TellsIn E' f args rs := fun L w hL hH => h L w hL (hE L w hH)
theorem Tells.tellsIn {E : List Fact} {f : Nat} {args rs : List Value} (h : Tells f args rs) : TellsIn E f args rs := fun _ w _ _ => h w
/-- An element of a row is read. -/
theorem LoadNode.elem {α : Type} {enc : α → List Value} {s b o : Nat} {l : List α} {ao : Option Addr} {k : Value → Prop} (i : Nat) (x : α) (hs : ∀ x, (enc x).length = s) (he : rowF b o (flat enc l) ∈ E)
    (hi : gd.holds → l[i]? = some x) (ha : ao = some ⟨b, o + i * s, none⟩) (hk : k (.agg (enc x).toArray)) : LoadNode τ L gd H E ao s true k := by
  refine LoadNode.agg (enc x) (hs x) (fun hg β w ho => ⟨_, ha, fun j v hv => ?_⟩) hk
  have := (ho.fact he).2.2 (i * s + j) v (flat_get hs (hi hg) j v hv)
  rw [addr_add, Nat.add_assoc]; exact this
/-- A row's cell is read. -/
theorem LoadNode.cell {b o : Nat} {cs : List Value} {ao : Option Addr} {k : Value → Prop} (j : Nat) (v : Value) (he : rowF b o cs ∈ E) (hj : gd.holds → cs[j]? = some v) (ha : ao = some ⟨b, o + j, none⟩) (hk : k v) : LoadNode τ L gd H E ao 1 false k :=
  LoadNode.one v (fun hg β w ho => ⟨_, ha, (ho.fact he).2.2 j v (hj hg)⟩) hk
theorem IdxNode.at {b o n s : Nat} {ao : Option Addr} {x : Int} {k : Value → Prop} (i : Nat) (hx : x = i) (ha : ao = some ⟨b, o, none⟩) (hi : gd.holds → i < n) (hk : k (.pointer (some ⟨b, o + i * s, none⟩))) : IdxNode gd ao n x s k := by
  refine IdxNode.mk ⟨b, o, none⟩ (fun hg => ⟨ha, by rw [hx]; omega, by rw [hx]; exact Int.ofNat_lt.2 (hi hg)⟩) ?_
  rw [hx, addr_add]
  exact hk
end Go.Q
