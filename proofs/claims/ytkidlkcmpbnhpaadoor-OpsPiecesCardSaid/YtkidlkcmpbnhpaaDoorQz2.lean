/-
  What a call is handed, opened: plain structs, slices of bytes; the tables. Conditions: none.
-/
import Derived.Test.YtkidlkcmpbnhpaaDoorQz1
import Derived.Test.YtkidlkcmpbnhpaaDoorQu
import Derived.Test.YtkidlkcmpbnhpaaDoorRows
import Derived.Deep.Slices
import Derived.Lib.LaidU8T
import Derived.PinnedBridge
import Derived.ProofKit
import Derived.OpenShut
import Derived.LaidMore
import Derived.Lay
import Derived.Stop.Joined
import Derived.MakeChecks
namespace Go.Q
open Go Go.Proofs Go.Proofs.Tryd Go.Shelf Go.RowKit
variable {H : Type} {enc : TypeId × Value → H} {w : World}
def cellIs : Option TypeDesc → Value → Prop
  | some (.int k), v => ∃ n, v = .int k n ∧ k.has n
  | some .bool, v => ∃ b, v = .bool b
  | some .string, v => ∃ s, v = .string s ∧ (s.size : Int) ≤ IntKind.i64.max
  | some (.float k), v => ∃ b, v = .float k b ∧ k.has b
  | _, _ => True
theorem okWide_cell {Q : Program} {r : Reach} {base : Nat} {u : TypeId} {v : Value} (h : Cell.okWide Q w r base u v) : cellIs (Q.underlying u) v := by
  unfold Cell.okWide Cell.ok at h
  generalize Q.underlying u = d at h ⊢
  rcases d with _ | d
  · trivial
  · cases d with
    | int k =>
      cases v <;> simp at h
      exact ⟨_, by rw [h.1], h.2⟩
    | bool =>
      cases v <;> simp at h
      exact ⟨_, rfl⟩
    | string =>
      cases v <;> simp at h
      exact ⟨_, rfl, h⟩
    | float k =>
      cases v <;> simp at h
      exact ⟨_, by rw [h.1], h.2⟩
    | _ => trivial
def fits : List (Option TypeDesc) → List Value → Prop
  | [], vs => vs = []
  | d :: ds, vs => ∃ v r, vs = v :: r ∧ cellIs d v ∧ fits ds r
theorem fits_of : ∀ (ds : List (Option TypeDesc)) (vs : List Value), vs.length = ds.length → (∀ (i : Nat) v d, vs[i]? = some v → ds[i]? = some d → cellIs d v) → fits ds vs
  | [], vs, h, _ => List.length_eq_zero_iff.1 h
  | d :: ds, [], h, _ => by cases h
  | d :: ds, v :: r, h, hh => ⟨v, r, rfl, hh 0 v d rfl rfl, fits_of ds r (by simpa using h) fun i v d hv hd => hh (i + 1) v d (by simpa using hv) (by simpa using hd)⟩
def isStruct : Option TypeDesc → Bool
  | some (.struct _) => true
  | _ => false
theorem open_plain {Q : Program} {r : Reach} {base : Nat} {t : TypeId} {v : Value} {L : List (Option TypeDesc)} (hs : isStruct (Q.underlying t) = true) (hL : (Q.cellTypes Q.depth t).map (fun ts => ts.map Q.underlying) = some L) (hc : Q.cellsOf t = L.length) (h : Value.okWide Q w r base t v) :
    ∃ cs : List Value, v = .agg cs.toArray ∧ fits L cs := by
  unfold Value.okWide at h
  unfold isStruct at hs
  split at hs
  · rename_i fs hu
    rw [hu] at h
    obtain ⟨cs, rfl, hsz, ts, hts, _, hall⟩ := h
    rw [hts] at hL
    have hL : ts.map Q.underlying = L := Option.some.inj hL
    refine ⟨cs.toList, by simp, fits_of _ _ (by rw [Array.length_toList, hsz, hc]) fun i v d hv hd => ?_⟩
    have hi : i < L.length := (List.getElem?_eq_some_iff.1 hd).1
    have hlen : ts.length = L.length := by rw [← hL, List.length_map]
    obtain ⟨u, hu', ho⟩ := hall i v (by simpa using hv)
    rw [Nat.mod_eq_of_lt (by omega)] at hu'
    rw [← hL, List.getElem?_map, hu'] at hd
    have hd : Q.underlying u = d := Option.some.inj hd
    rw [← hd]
    exact okWide_cell ho
  · cases hs
def encB (x : Int) : List Value := [.int .u8 x]
theorem flat_encB : ∀ (l : List Int) (i : Nat), (flat encB l)[i]? = l[i]?.map fun x => .int .u8 x
  | [], i => by simp [flat]
  | x :: r, 0 => rfl
  | x :: r, i + 1 => by
    have := flat_encB r i
    simpa [flat, encB] using this
/-- A slice of bytes. -/
theorem open_bytes {Q : Program} {b0 : Nat} {t e : TypeId} {v : Value} {d : DataW H} {p : List MemPlace} (ht : Q.underlying t = some (.slice e)) (he : Q.underlying e = some (.int .u8)) (hc : Q.cellsOf e = 1)
    (hval : Value.okWide Q w .any b0 t v) (h : DataW.Trod enc Q w 0 (fun _ => true) true t v d p) :
    v = .slice none 0 0 ∨ ∃ b o cap cuts, v = .slice (some ⟨b, o, none⟩) cuts.length cap ∧ (rowF b o (flat encB cuts)).hold (fun _ => False) w ∧ (∀ x ∈ cuts, 0 ≤ x ∧ x < 256) ∧ cuts.length < 2 ^ 63 := by
  have hval' : Cell.okWide Q w .any b0 t v := by
    unfold Value.okWide at hval
    rw [ht] at hval; exact hval
  unfold Cell.okWide Cell.ok at hval'
  rw [ht] at hval'
  obtain ⟨n, hn⟩ := h
  have hcs : v.cells.toList = [v] := by
    cases v <;> simp at hval' <;> rfl
  rw [hcs] at hn
  rcases Deep.open_slice1 ht hc hn with ⟨h1, _⟩ | ⟨a, len, cap, m, n', V, D, Pl, h1, _, hl, hm, hmm, _, hV⟩
  · exact .inl (List.cons.inj h1).1
  · have h1 := (List.cons.inj h1).1
    subst h1
    right
    simp at hval'
    obtain ⟨_, _, _, hsp, row, cells, hsh, _⟩ := hval'
    obtain ⟨b, o, spot⟩ := a
    simp only at hsp hsh
    subst hsp
    have hm' : m = cap := by rw [hmm]; rfl
    have hz : ∀ i, i < len → ∃ z : Int, w.cell? ⟨b, o + i, none⟩ = some (.int .u8 z) ∧ 0 ≤ z ∧ z < 256 := fun i hi => by
      obtain ⟨c1, c2⟩ := hV i (by omega)
      obtain ⟨z, e1, _, e3⟩ := DataW.trod_int he c2
      have e1 := (List.cons.inj e1).1
      refine ⟨z, ?_, ?_⟩
      · have : (⟨b, o, none⟩ : Addr).add i = ⟨b, o + i, none⟩ := WideShapes.add_plain b o i
        rw [← this, c1, e1]
      · simp only [Lit.wf, Bool.and_eq_true, decide_eq_true_eq] at e3
        have f1 : IntKind.u8.min = 0 := rfl
        have f2 : IntKind.u8.max = 255 := rfl
        rw [f1, f2] at e3
        omega
    obtain ⟨Z, hZ⟩ : ∃ Z : Nat → Int, ∀ i, i < len → w.cell? ⟨b, o + i, none⟩ = some (.int .u8 (Z i)) ∧ 0 ≤ Z i ∧ Z i < 256 := by
      classical
      exact ⟨fun i => if hi : i < len then (hz i hi).choose else 0, fun i hi => by simp only [dif_pos hi]; exact (hz i hi).choose_spec⟩
    have hb : b < w.heap.size := by
      unfold World.shape? at hsh
      rcases Nat.lt_or_ge b w.heap.size with hlt | hge
      · exact hlt
      · rw [Array.getElem?_eq_none hge] at hsh; cases hsh
    refine ⟨b, o, cap, (List.range len).map Z, by simp, ⟨fun x => x, hb, fun j v hv => ?_⟩, fun x hx => ?_, ?_⟩
    · rw [flat_encB, List.getElem?_map] at hv
      rcases Nat.lt_or_ge j len with hj | hj
      · rw [List.getElem?_range hj] at hv
        simp at hv
        rw [← hv]; exact (hZ j hj).1
      · rw [List.getElem?_eq_none (by simpa using hj)] at hv; cases hv
    · obtain ⟨i, hi, rfl⟩ := List.mem_map.1 hx
      exact (hZ i (List.mem_range.1 hi)).2
    · simp; omega
theorem tabs_of {w : World} {l : List (String × DataW Unit)} (h : laidMetH P l w) (hp : (l.all fun x => x.2.handleName?.isNone) = true) (h1 : ("unicode/utf8.first", Go.Lib.firstData) ∈ l) (h2 : ("unicode/utf8.acceptRanges", Go.Lib.acceptData) ∈ l) : tabsF.hold (fun _ => False) w := by
  rw [MakeChecks.laidMetH_plain _ _ _ hp] at h
  have ht : Lib.Utf8Tabs (laysValidRen.g 3) (laysValidRen.g 4) w := utf8Tabs_of_readsT (U8Types.of196 laysValid) ⟨by kernel_rfl, by kernel_rfl, by kernel_rfl, by kernel_rfl, by kernel_rfl, by kernel_rfl, by kernel_rfl⟩ (Lib.laidMet.reads h h1) (Lib.laidMet.reads h h2)
  have lt : ∀ {b o : Nat} {v : Value}, w.cell? ⟨b, o, none⟩ = some v → b < w.heap.size := fun {b o v} hc => by
    unfold World.cell? at hc
    rcases Nat.lt_or_ge b w.heap.size with hlt | hge
    · exact hlt
    · simp only [Array.getElem?_eq_none hge] at hc; cases hc
  exact ⟨fun x => x, fun x => x, lt (ht.1 0 (by omega)), lt (ht.2 0 (by omega)).1, ht⟩
end Go.Q
