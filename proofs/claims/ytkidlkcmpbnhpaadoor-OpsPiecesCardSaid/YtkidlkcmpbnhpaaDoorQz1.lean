/-
  What was read, read again behind a call that keeps all old blocks. Conditions: no slice type of elements without cells.
-/
import Derived.Test.YtkidlkcmpbnhpaaDoorQf
import Derived.ChangeSame
import Derived.Below
namespace Go.Q
open Go Go.RowKit
variable {H : Type} {enc : TypeId × Value → H} {P : Program} {w w' : World}
/-- What a type leads to lies in the table, and no slice has elements without cells. -/
def leadsOk (P : Program) (d : Option TypeDesc) : Bool := match d with
  | some (.pointer e) => decide (e < P.types.size)
  | some (.slice e) => decide (e < P.types.size) && decide (0 < P.cellsOf e)
  | some (.struct fs) => fs.toList.all fun f => decide (f.type < P.types.size)
  | some (.array _ e) => decide (e < P.types.size)
  | some (.map _ e) => decide (e < P.types.size)
  | _ => true
def tableOk (P : Program) : Bool := (List.range P.types.size).all fun t => leadsOk P (P.underlying t)
theorem cells_old (hk : ∀ b, b < w.heap.size → w'.heap[b]? = w.heap[b]?) {base n : Nat} {a : Addr} {cs : List Value} (h : w.cells? base a n = some cs) : w'.cells? base a n = some cs := by
  refine World.cells?_carry h fun p hp => ?_
  obtain ⟨i, hi, rfl⟩ := MemPlace.mem_row.1 hp
  have hb : a.block < w.heap.size := World.cells?_block h (by omega)
  show w'.cell? _ = w.cell? _
  simp only [World.cell?, hk _ hb]
theorem trodStep_old (hz : tableOk P = true) (hk : ∀ b, b < w.heap.size → w'.heap[b]? = w.heap[b]?) {base : Nat} {r r' : TypeId → List Value → Option (DataW H × List MemPlace)}
    (hr : ∀ t cs x, t < P.types.size → r t cs = some x → r' t cs = some x) {t : TypeId} {cs : List Value} {x : DataW H × List MemPlace}
    (ht : t < P.types.size) (h : DataW.trodStep enc P w base (fun _ => true) true r t cs = some x) : DataW.trodStep enc P w' base (fun b => decide (b < w.heap.size)) true r' t cs = some x := by
  have hl : leadsOk P (P.underlying t) = true := List.all_eq_true.1 hz t (List.mem_range.2 ht)
  unfold DataW.trodStep at h ⊢
  split at h
  case h_1 => exact h
  case h_2 => exact h
  case h_3 => exact h
  case h_4 => exact h
  case h_5 => exact h
  case h_6 e a hu =>
    rw [hu] at hl
    have hl : e < P.types.size := of_decide_eq_true hl
    simp only [Option.map_eq_some_iff, Option.bind_eq_some_iff] at h ⊢
    obtain ⟨y, ⟨cs', hc, hy⟩, rfl⟩ := h
    exact ⟨y, ⟨cs', cells_old hk hc, hr _ _ _ hl hy⟩, rfl⟩
  case h_7 => exact h
  case h_8 e a len cap hu =>
    rw [hu] at hl
    have hl : (decide (e < P.types.size) && decide (0 < P.cellsOf e)) = true := hl
    rw [Bool.and_eq_true] at hl
    obtain ⟨hl, hc0⟩ := hl
    have hl : e < P.types.size := of_decide_eq_true hl
    have hc0 : 0 < P.cellsOf e := of_decide_eq_true hc0
    simp only at h ⊢
    split at h
    · rename_i hc
      rw [if_pos hc]
      simp only [Option.map_eq_some_iff, Option.bind_eq_some_iff] at h ⊢
      obtain ⟨elems, he, rest, hrest, rfl⟩ := h
      have one : ∀ (i : Nat) (y : DataW H × List MemPlace), (w.cells? base (a.add (i * P.cellsOf e)) (P.cellsOf e)).bind (r e) = some y → (w'.cells? base (a.add (i * P.cellsOf e)) (P.cellsOf e)).bind (r' e) = some y := by
        intro i y hv
        simp only [Option.bind_eq_some_iff] at hv ⊢
        obtain ⟨cs', hc', hy'⟩ := hv
        exact ⟨cs', cells_old hk hc', hr _ _ _ hl hy'⟩
      refine ⟨elems, mapM_carry he (fun i y _ _ => one i y), rest, ?_, rfl⟩
      rw [if_pos trivial] at hrest
      by_cases hb : a.block < w.heap.size
      · rw [if_pos (by simpa using hb)]
        exact mapM_carry hrest (fun j y _ _ => one (len + j) y)
      · have hcl : cap - len = 0 := by
          cases hn : cap - len with
          | zero => rfl
          | succ m =>
            rw [hn] at hrest
            obtain ⟨y, hy⟩ := WideShapes.mapM_each hrest 0 (List.mem_range.2 (Nat.succ_pos m))
            simp only [Option.bind_eq_some_iff] at hy
            obtain ⟨cs', hc', _⟩ := hy
            have := World.cells?_block hc' hc0
            have e1 : ∀ (a : Addr) (n : Nat), (a.add n).block = a.block := fun a n => by unfold Addr.add; split <;> rfl
            rw [e1] at this
            exact absurd this hb
        rw [hcl] at hrest
        rw [if_neg (by simpa using hb)]
        simpa using hrest
    · cases h
  case h_9 fs hu =>
    rw [hu] at hl
    have hl : (fs.toList.all fun f => decide (f.type < P.types.size)) = true := hl
    split at h
    · rename_i hc
      rw [if_pos hc]
      simp only [Option.map_eq_some_iff] at h ⊢
      obtain ⟨xs, hx, rfl⟩ := h
      exact ⟨xs, mapM_carry hx (fun f y hf _ hv => hr _ _ _ (of_decide_eq_true (List.all_eq_true.1 hl f hf)) hv), rfl⟩
    · cases h
  case h_10 n e hu =>
    rw [hu] at hl
    have hl : e < P.types.size := of_decide_eq_true hl
    split at h
    · rename_i hc
      rw [if_pos hc]
      simp only [Option.map_eq_some_iff] at h ⊢
      obtain ⟨xs, hx, rfl⟩ := h
      exact ⟨xs, mapM_carry hx (fun f y _ _ hv => hr _ _ _ hl hv), rfl⟩
    · cases h
  case h_11 => exact h
  case h_12 => exact h
  case h_13 => exact h
  case h_14 k e b hu =>
    rw [hu] at hl
    have hl : e < P.types.size := of_decide_eq_true hl
    split at h
    · rename_i es clock hb
      split at h
      · rename_i hc
        simp only [Option.bind_eq_some_iff] at h
        obtain ⟨entries, he, hd⟩ := h
        split at hd
        · rename_i hris
          have hx := Option.some.inj hd
          subst hx
          have hb' : w'.heap[b]? = some (.map es clock) := (hk b (Array.getElem?_eq_some_iff.1 hb).1).trans hb
          simp only [hb', if_pos hc, Option.bind_eq_some_iff]
          refine ⟨entries, mapM_carry he (fun x y _ hy hv => ?_), by simp [hris]⟩
          simp only [Option.bind_eq_some_iff] at hv ⊢
          obtain ⟨key, hk, hz⟩ := hv
          refine ⟨key, hk, ?_⟩
          split at hz
          · rename_i hf
            rw [if_pos hf]
            simp only [Option.map_eq_some_iff] at hz ⊢
            obtain ⟨q, hq, rfl⟩ := hz
            exact ⟨q, hr _ _ _ hl hq, rfl⟩
          · cases hz
        · cases hd
      · cases h
    · cases h
  case h_15 => exact h
  case h_16 => exact h
  case h_17 => exact h
  case h_18 => exact h
  case h_19 => exact h
  case h_20 => exact h
  case h_21 => cases h
theorem trod_old (hz : tableOk P = true) (hk : ∀ b, b < w.heap.size → w'.heap[b]? = w.heap[b]?) {base : Nat} : ∀ (n : Nat) (t : TypeId) (cs : List Value) (x : DataW H × List MemPlace), t < P.types.size →
    DataW.trod enc P w base (fun _ => true) true n t cs = some x → DataW.trod enc P w' base (fun b => decide (b < w.heap.size)) true n t cs = some x
  | 0, _, _, _, _, h => by simp [DataW.trod] at h
  | n + 1, t, cs, x, ht, h => by
    rw [DataW.trod_step] at h ⊢
    exact trodStep_old hz hk (fun t cs x ht h => trod_old hz hk n t cs x ht h) ht h
theorem trodAll_old (hz : tableOk P = true) (hk : ∀ b, b < w.heap.size → w'.heap[b]? = w.heap[b]?) {base : Nat} : ∀ {ts : List TypeId} {vs : List Value} {ds : List (DataW H)} {ps : List MemPlace}, (∀ t ∈ ts, t < P.types.size) →
    DataW.TrodAll enc P w base (fun _ => true) true ts vs ds ps → DataW.TrodAll enc P w' base (fun b => decide (b < w.heap.size)) true ts vs ds ps
  | [], _, _, _, _, h => by
    obtain ⟨rfl, rfl, rfl⟩ := ChangeShapes.trodAll_nil h
    rfl
  | t :: ts, _, _, _, hts, h => by
    obtain ⟨v, vs, d, ds, p, q, rfl, rfl, rfl, ⟨n, hn⟩, h2⟩ := ChangeShapes.trodAll_cons h
    exact ⟨p, q, ⟨n, trod_old hz hk n _ _ _ (hts t List.mem_cons_self) hn⟩, trodAll_old hz hk (fun u hu => hts u (List.mem_cons_of_mem _ hu)) h2, rfl⟩
theorem below_kp {w w' : World} (h : Kp (fun _ => False) w w') : Below w.heap.size w w' := ⟨h.os, h.tape, h.output, h.size, fun b hb => h.block b hb (fun x => x)⟩
/-- A law that tells true, and keeps all old blocks. -/
theorem law_post (hz : tableOk P = true) {f : Func} {s : ChangeSpec} {apart fresh handsOn : Bool} {args : Array Value} {ds : List (DataW H)} {before : List MemPlace}
    (hW : DataW.Whole enc P f.params.toList s.vars apart w args.toList ds [] before) (hv : s.vars = []) (hk : Kp (fun _ => False) w w') (hf : s.fn H (ds ++ []) = { results := [.lit (.bool true)], args := ds }) {t : TypeId} (hr : f.resultTypes.toList = [t]) (hn : f.resultTypes.size = 1) (ht : P.underlying t = some .bool) (hps : (f.params.toList.all fun t => decide (t < P.types.size)) = true) :
    s.post enc P f apart fresh handsOn false w args (.bool true) w' := by
  have hW' := hW
  obtain ⟨p, q, hA, hV, rfl, _, _⟩ := hW
  refine ⟨ds, [], p ++ q, [], p, [], hW', ?_, ?_, ?_, (below_kp hk).frame _, fun h => by cases h⟩
  · rw [hf, hr, hn]
    exact ⟨[], [], ⟨1, by show DataW.trod enc P w' _ _ _ 1 t [.bool true] = _; simp [DataW.trod, ht]⟩, rfl, rfl⟩
  · rw [hf]
    exact trodAll_old hz (fun b hb => hk.block b hb (fun x => x)) (fun t ht => of_decide_eq_true (List.all_eq_true.1 hps t ht)) hA
  · rw [hf, hv]
    rfl
end Go.Q
