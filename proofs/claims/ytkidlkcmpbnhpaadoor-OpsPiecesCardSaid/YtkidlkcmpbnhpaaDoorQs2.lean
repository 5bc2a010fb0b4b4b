/-
  MADE BY PROGRAM (sort.py). slices.rotateCmpFunc, insertionSortCmpFunc, at api.Op. Conditions: as stated at each.
-/
import Derived.Test.YtkidlkcmpbnhpaaDoorQs1
namespace Go.Q
open Go Go.Proofs.Tryd
set_option maxRecDepth 100000
variable {L : Nat → Prop} {gd : Gd} {F : Tr} {H : List Ck} {E : List Fact}
theorem aSwapRange' {l : List OpD} {rest : List Value} {b cap N0 : Nat} {A C N : Int} (a c n : Nat) {g : Value} (hN0 : l.length = N0) (hA : A = (a : Nat)) (hC : C = (c : Nat)) (hN : N = (n : Nat)) (hcap : l.length ≤ cap) (hl : l.length < 2 ^ 40) (ha : a + n ≤ l.length) (hc : c + n ≤ l.length) :
    Acts [rowOp l rest b] [] 90 [.slice (some ⟨b, 0, none⟩) N0 cap, .int .i64 A, .int .i64 C, .int .i64 N, g]
      (fun r C E' => r = .tuple #[] ∧ E' = [] ∧ C = [rowOp (swapRangeL l a c n) rest b]) := by
  subst hN0; subst hA; subst hC; subst hN; exact aSwapRange l rest b cap a c n g hcap hl ha hc
def rotF {α : Type} (m : Nat) : Nat → Nat → Nat → List α → List α
  | 0, _, _, l => l
  | f + 1, i, j, l => if i = j then swapRangeL l (m - i) m i else if j < i then rotF m f (i - j) j (swapRangeL l (m - i) m j) else rotF m f i (j - i) (swapRangeL l (m - i) (m + j - i) i)
def rotL {α : Type} (l : List α) (a m b : Nat) : List α := rotF m (b - a) (m - a) (b - m) l
theorem rotF_len {α : Type} (m : Nat) : ∀ (f i j : Nat) (l : List α), (rotF m f i j l).length = l.length
  | 0, _, _, _ => rfl
  | f + 1, i, j, l => by
    unfold rotF
    split
    · exact swapRangeL_len _ _ _ _
    · split
      · rw [rotF_len m f, swapRangeL_len]
      · rw [rotF_len m f, swapRangeL_len]
theorem rotL_len {α : Type} (l : List α) (a m b : Nat) : (rotL l a m b).length = l.length := rotF_len _ _ _ _ _
set_option maxHeartbeats 1000000 in
theorem aRotate (l : List OpD) (rest : List Value) (b cap a m e : Nat) (g : Value) (hcap : l.length ≤ cap) (hl : l.length < 2 ^ 40) (ha : a < m) (hm : m < e) (he : e ≤ l.length) :
    Acts [rowOp l rest b] [] 80 [.slice (some ⟨b, 0, none⟩) l.length cap, .int .i64 (a : Nat), .int .i64 (m : Nat), .int .i64 (e : Nat), g]
      (fun r C E' => r = .tuple #[] ∧ E' = [] ∧ C = [rowOp (rotL l a m e) rest b]) :=
  Acts.of 6 func80 (by kernel_rfl) fun L => by
    have w1 : IntKind.i64.wrap ((m : Int) - a) = ((m - a : Nat) : Int) := by rw [wrap_i64 (by omega) (by omega)]; omega
    have w2 : IntKind.i64.wrap ((e : Int) - m) = ((e - m : Nat) : Int) := by rw [wrap_i64 (by omega) (by omega)]; omega
    refine LoopNode.mk (α := Nat × Nat × Nat × List OpD) (fun x => [(0, .n (.v (.slice (some ⟨b, 0, none⟩) l.length cap))), (2, .n (.v (.int .i64 (m : Nat)))), (4, .n (.v g)), (10, .n (.v (.int .i64 (x.2.1 : Nat)))), (11, .n (.v (.int .i64 (x.2.2.1 : Nat))))])
      (fun x => [rowOp x.2.2.2 rest b]) (fun _ => []) (fun x => x.2.2.2.length = l.length ∧ 1 ≤ x.2.1 ∧ 1 ≤ x.2.2.1 ∧ x.2.1 ≤ m ∧ m + x.2.2.1 ≤ l.length ∧ x.2.1 + x.2.2.1 ≤ x.1 ∧ rotF m x.1 x.2.1 x.2.2.1 x.2.2.2 = rotL l a m e) (fun x => x.2.1 + x.2.2.1) (e - a, m - a, e - m, l)
      ⟨rfl, by show 1 ≤ m - a; omega, by show 1 ≤ e - m; omega, by show m - a ≤ m; omega, by show m + (e - m) ≤ _; omega, by show m - a + (e - m) ≤ e - a; omega, rfl⟩
      (.inl ⟨live5 ⟨rfl, trivial⟩ ⟨rfl, trivial⟩ ⟨rfl, trivial⟩ ⟨congrArg (fun z => SV.n (.v (.int .i64 z))) w1, trivial⟩ ⟨congrArg (fun z => SV.n (.v (.int .i64 z))) w2, trivial⟩, ⟨.inl rfl, trivial⟩, fun _ _ h => h⟩) (fun _ => Nat.le_refl _) ?_
    rintro ⟨f, i, j, t⟩ ⟨ht, hi, hj, him, hjl, hf, heq⟩
    simp only at ht hi hj him hjl hf heq
    have v1 : IntKind.i64.wrap ((m : Int) - i) = ((m - i : Nat) : Int) := by rw [wrap_i64 (by omega) (by omega)]; omega
    obtain ⟨f, rfl⟩ : ∃ f', f = f' + 1 := ⟨f - 1, by omega⟩
    refine JoinNode.both (fun h1 => ?_) (fun h1 => ?_)
    · have h1' : i ≠ j := by
        have c : ((i : Int) != (j : Int)) = true := h1
        simp only [bne_iff_ne, ne_eq] at c; omega
      unfold rotF at heq
      rw [if_neg h1'] at heq
      refine JoinNode.both (fun h2 => ?_) (fun h2 => ?_)
      · have h2' : j < i := by have c : (i : Int) > j := of_decide_eq_true h2; omega
        rw [if_pos h2'] at heq
        have v2 : IntKind.i64.wrap ((i : Int) - j) = ((i - j : Nat) : Int) := by rw [wrap_i64 (by omega) (by omega)]; omega
        refine CallNode.acts [0] (aSwapRange' (m - i) m j ht v1 rfl rfl (by omega) (by omega) (by omega) (by omega)) ⟨rfl, trivial⟩ (by simp) (fun _ _ _ => trivial) ?_
        rintro r C' E' ⟨rfl, rfl, rfl⟩
        refine ⟨(f, i - j, j, swapRangeL t (m - i) m j), by show i - j + j < i + j; omega, ⟨by rw [swapRangeL_len]; exact ht, by show 1 ≤ i - j; omega, hj, by show i - j ≤ m; omega, hjl, by show i - j + j ≤ f; omega, heq⟩,
          .inl ⟨live5 ⟨rfl, trivial⟩ ⟨rfl, trivial⟩ ⟨rfl, trivial⟩ ⟨congrArg (fun z => SV.n (.v (.int .i64 z))) v2, trivial⟩ ⟨rfl, trivial⟩, ⟨.inl rfl, trivial⟩, fun _ _ h => h⟩⟩
      · have h2' : ¬ j < i := by have c : ¬ (i : Int) > j := of_decide_eq_false h2; omega
        rw [if_neg h2'] at heq
        have v2 : IntKind.i64.wrap ((j : Int) - i) = ((j - i : Nat) : Int) := by rw [wrap_i64 (by omega) (by omega)]; omega
        have v3 : IntKind.i64.wrap (IntKind.i64.wrap ((m : Int) + j) - i) = ((m + j - i : Nat) : Int) := by rw [wrap_i64 (x := (m : Int) + j) (by omega) (by omega), wrap_i64 (by omega) (by omega)]; omega
        refine CallNode.acts [0] (aSwapRange' (m - i) (m + j - i) i ht v1 v3 rfl (by omega) (by omega) (by omega) (by omega)) ⟨rfl, trivial⟩ (by simp) (fun _ _ _ => trivial) ?_
        rintro r C' E' ⟨rfl, rfl, rfl⟩
        refine ⟨(f, i, j - i, swapRangeL t (m - i) (m + j - i) i), by show i + (j - i) < i + j; omega, ⟨by rw [swapRangeL_len]; exact ht, hi, by show 1 ≤ j - i; omega, him, by show m + (j - i) ≤ _; omega, by show i + (j - i) ≤ f; omega, heq⟩,
          .inl ⟨live5 ⟨rfl, trivial⟩ ⟨rfl, trivial⟩ ⟨rfl, trivial⟩ ⟨rfl, trivial⟩ ⟨congrArg (fun z => SV.n (.v (.int .i64 z))) v2, trivial⟩, ⟨.inl rfl, trivial⟩, fun _ _ h => h⟩⟩
    · have h1' : i = j := by
        have c : ((i : Int) != (j : Int)) = false := h1
        simp only [bne_eq_false_iff_eq] at c; omega
      unfold rotF at heq
      rw [if_pos h1'] at heq
      refine CallNode.acts [0] (aSwapRange' (m - i) m i ht v1 rfl rfl (by omega) (by omega) (by omega) (by omega)) ⟨rfl, trivial⟩ (by simp) (fun _ _ _ => trivial) ?_
      rintro r C' E' ⟨rfl, rfl, rfl⟩
      exact ⟨[], _, [], rfl, Yields.refl, Nat.le_refl _, rfl, rfl, by rw [← heq]; rfl⟩
/-! Insertion -/
def lessAt {α : Type} (less : α → α → Bool) (l : List α) (i j : Nat) : Bool := match l[i]?, l[j]? with
  | some x, some y => less x y
  | _, _ => false
def insF {α : Type} (less : α → α → Bool) (a : Nat) : Nat → List α → List α
  | 0, l => l
  | j + 1, l => if decide (a < j + 1) && lessAt less l (j + 1) j then insF less a j (swapL l (j + 1) j) else l
def insFor {α : Type} (less : α → α → Bool) (a : Nat) (l : List α) : Nat → List α
  | 0 => l
  | n + 1 => insF less a (a + 1 + n) (insFor less a l n)
def insL {α : Type} (less : α → α → Bool) (l : List α) (a b : Nat) : List α := insFor less a l (b - (a + 1))
theorem insF_len {α : Type} (less : α → α → Bool) (a : Nat) : ∀ (j : Nat) (l : List α), (insF less a j l).length = l.length
  | 0, _ => rfl
  | j + 1, l => by
    unfold insF
    split
    · rw [insF_len less a j, swapL_len]
    · rfl
theorem insFor_len {α : Type} (less : α → α → Bool) (a : Nat) (l : List α) : ∀ n, (insFor less a l n).length = l.length
  | 0 => rfl
  | n + 1 => by rw [insFor, insF_len, insFor_len less a l n]
theorem insL_len {α : Type} (less : α → α → Bool) (l : List α) (a b : Nat) : (insL less l a b).length = l.length := insFor_len _ _ _ _
theorem lessAt_of {α : Type} {less : α → α → Bool} {l : List α} {i j : Nat} {x y : α} (hi : l[i]? = some x) (hj : l[j]? = some y) : lessAt less l i j = less x y := by unfold lessAt; rw [hi, hj]
/-- An index that may lie outside where the guard is shut. -/
theorem IdxNode.at2 {b o n s : Nat} {ao : Option Addr} {x : Int} {k : Value → Prop} (i : Nat) (hx : x.toNat = i) (ha : ao = some ⟨b, o, none⟩) (hi : gd.holds → 0 ≤ x ∧ i < n) (hk : k (.pointer (some ⟨b, o + i * s, none⟩))) : IdxNode gd ao n x s k := by
  refine IdxNode.mk ⟨b, o, none⟩ (fun hg => ⟨ha, (hi hg).1, ?_⟩) ?_
  · have := hi hg; omega
  · rw [hx, addr_add]; exact hk
/-- Of two operations: which is less, by their ids. -/
def cmpOp (x y : OpD) : Int := if lessId x.c x.k y.c y.k = true then -1 else if lessId y.c y.k x.c x.k = true then 1 else 0
def lessOp (x y : OpD) : Bool := decide (cmpOp x y < 0)
abbrev cmpFn : Value := .func (.func 32) #[] #[]
theorem tJoin2 (x y : OpD) : Tells 32 [vOp x, vOp y] [.int .i64 (cmpOp x y)] :=
  Tells.of 5 func32 (by kernel_rfl) fun L => by
    refine CallNode.tells (tLess x.c x.k y.c y.k) ?_
    refine JoinNode.both (fun h => ?_) (fun h => ?_)
    · exact show _ = _ by unfold cmpOp; rw [if_pos (show lessId x.c x.k y.c y.k = true from h)]; rfl
    have h' : lessId x.c x.k y.c y.k = false := h
    refine CallNode.tells (tLess y.c y.k x.c x.k) ?_
    refine JoinNode.both (fun h2 => ?_) (fun h2 => ?_)
    · exact show _ = _ by unfold cmpOp; rw [if_neg (by rw [h']; simp), if_pos (show lessId y.c y.k x.c x.k = true from h2)]; rfl
    · have h2' : lessId y.c y.k x.c x.k = false := h2
      exact show _ = _ by unfold cmpOp; rw [if_neg (by rw [h']; simp), if_neg (by rw [h2']; simp)]; rfl
set_option maxHeartbeats 2000000 in
theorem aInsert (l : List OpD) (rest : List Value) (b cap a e : Nat) (hcap : l.length ≤ cap) (hl : l.length < 2 ^ 40) (ha : a ≤ l.length) (he : e ≤ l.length) :
    Acts [rowOp l rest b] [] 71 [.slice (some ⟨b, 0, none⟩) l.length cap, .int .i64 (a : Nat), .int .i64 (e : Nat), cmpFn]
      (fun r C E' => r = .tuple #[] ∧ E' = [] ∧ C = [rowOp (insL lessOp l a e) rest b]) := by
  refine Acts.of 6 func71 (by kernel_rfl) fun L => ?_
  have w0 : IntKind.i64.wrap ((a : Int) + 1) = ((a + 1 + 0 : Nat) : Int) := by rw [wrap_i64 (by omega) (by omega)]; omega
  refine LoopNode.mk (α := Nat) (fun n => [(0, .n (.v (.slice (some ⟨b, 0, none⟩) l.length cap))), (1, .n (.v (.int .i64 (a : Nat)))), (2, .n (.v (.int .i64 (e : Nat)))), (3, .n (.v cmpFn)), (8, .n (.v (.int .i64 (a + 1 + n : Nat))))])
    (fun n => [rowOp (insFor lessOp a l n) rest b]) (fun _ => []) (fun n => n = 0 ∨ a + 1 + n ≤ e) (fun n => e - n) 0 (.inl rfl)
    (.inl ⟨live5 ⟨rfl, trivial⟩ ⟨rfl, trivial⟩ ⟨rfl, trivial⟩ ⟨rfl, trivial⟩ ⟨congrArg (fun z => SV.n (.v (.int .i64 z))) w0, trivial⟩, ⟨.inl rfl, trivial⟩, fun _ _ h => h⟩) (fun _ => Nat.le_refl _) ?_
  intro n hn
  refine JoinNode.both (fun ht => ?_) (fun ht => ?_)
  · have hlt : a + 1 + n < e := by
      have c : ((a + 1 + n : Nat) : Int) < e := of_decide_eq_true ht
      omega
    refine LoopNode.mk (α := Nat × List OpD) (fun x => [(0, .n (.v (.slice (some ⟨b, 0, none⟩) l.length cap))), (1, .n (.v (.int .i64 (a : Nat)))), (2, .n (.v (.int .i64 (e : Nat)))), (3, .n (.v cmpFn)), (8, .n (.v (.int .i64 (a + 1 + n : Nat)))), (9, .n (.v (.int .i64 (x.1 : Nat))))])
      (fun x => [rowOp x.2 rest b]) (fun _ => []) (fun x => x.1 < e ∧ x.2.length = l.length ∧ insF lessOp a x.1 x.2 = insFor lessOp a l (n + 1)) (fun x => x.1) (a + 1 + n, insFor lessOp a l n)
      ⟨hlt, insFor_len _ _ _ _, rfl⟩
      (.inl ⟨⟨⟨rfl, trivial⟩, ⟨rfl, trivial⟩, ⟨rfl, trivial⟩, ⟨rfl, trivial⟩, ⟨rfl, trivial⟩, ⟨rfl, trivial⟩, trivial⟩, ⟨.inl rfl, trivial⟩, fun _ _ h => h⟩) (fun _ => Nat.le_refl _) ?_
    rintro ⟨j, t⟩ ⟨hj, htl, heq⟩
    simp only at hj htl heq
    have hjx : t[j]? = some (t.getD j OpD.zero) := by rw [List.getD_eq_getElem?_getD, List.getElem?_eq_getElem (by omega)]; rfl
    have w1 : (IntKind.i64.wrap ((j : Int) - 1)).toNat = j - 1 := by rw [wrap_i64 (by omega) (by omega)]; omega
    refine DrawNode.quiet (by kernel_rfl) ?_
    refine IdxNode.at j rfl rfl (fun _ => by omega) ?_
    refine LoadNode.own (q := 0) (i := j) (t.getD j OpD.zero) cells22 rfl (fun _ => hjx) rfl ?_
    have hg1 : ∀ {t0 : Nat}, (Gd.yes t0 true (eff true (decide ((j : Int) > a))) .no).holds → a < j := fun h => by
      have c : decide ((j : Int) > a) = true := h
      have := of_decide_eq_true c
      omega
    refine IdxNode.at2 (j - 1) w1 rfl (fun h => ?_) ?_
    · have := hg1 h
      exact ⟨show 0 ≤ IntKind.i64.wrap ((j : Int) - 1) by rw [wrap_i64 (by omega) (by omega)]; omega, by omega⟩
    refine LoadNode.own (q := 0) (i := j - 1) (t.getD (j - 1) OpD.zero) cells22 rfl (fun h => ?_) rfl ?_
    · rw [List.getD_eq_getElem?_getD, List.getElem?_eq_getElem (show j - 1 < t.length by omega)]; rfl
    refine ⟨fun _ => enters_at rfl, VCallNode.tells (fun _ => tJoin2 _ _) ?_⟩
    refine JoinNode.both (fun h1 => ?_) (fun h1 => ?_)
    · have h1' : (decide ((j : Int) > a) && decide (cmpOp (t.getD j OpD.zero) (t.getD (j - 1) OpD.zero) < 0)) = true := h1
      rw [Bool.and_eq_true] at h1'
      have haj : a < j := by have := of_decide_eq_true h1'.1; omega
      obtain ⟨j, rfl⟩ : ∃ j', j = j' + 1 := ⟨j - 1, by omega⟩
      have hjy : t[j]? = some (t.getD j OpD.zero) := by rw [List.getD_eq_getElem?_getD, List.getElem?_eq_getElem (by omega)]; rfl
      have v1 : IntKind.i64.wrap (((j + 1 : Nat) : Int) - 1) = ((j : Nat) : Int) := by rw [wrap_i64 (by omega) (by omega)]; omega
      have hins : insF lessOp a (j + 1) t = insF lessOp a j (swapL t (j + 1) j) := by
        have hl2 : lessAt lessOp t (j + 1) j = true := by rw [lessAt_of hjx hjy]; exact h1'.2
        rw [insF, if_pos]
        rw [hl2]; simp; omega
      generalize t.getD (j + 1) OpD.zero = x at hjx
      generalize t.getD j OpD.zero = y at hjy
      apply DrawNode.merge (hB := by kernel_rfl) 0 (.take 0 (.take 1 (.take 2 (.take 3 (.take 4 (.take 5 (.take 6 (.take 7 (.take 8 (.take 10 (.take 11 (.take 12 (.br 9 (.br 13 (.take 14 (.br 15 (.take 16 (.br 17 .done .no)) .no)) .no) (.br 13 (.br 9 (.take 14 (.br 15 (.take 16 (.br 17 .done .no)) .no)) .no) .no))))))))))))))
      case h =>
        refine IdxNode.at (j) v1 rfl (fun _ => by omega) ?_
        refine IdxNode.at (j + 1) rfl rfl (fun _ => by omega) ?_
        refine ⟨?_, ?_, trivial⟩
        · refine LoadNode.own (q := 0) (i := j) y cells22 rfl (fun _ => hjy) rfl ?_
          refine ⟨?_, trivial⟩
          refine LoadNode.own (q := 0) (i := j + 1) x cells22 rfl (fun _ => hjx) rfl ?_
          refine IdxNode.at (j + 1) rfl rfl (fun _ => by omega) ?_
          refine ⟨?_, trivial⟩
          refine StoreNode.own (q := 0) (i := j + 1) y cells22 rfl (show j + 1 < (t).length by omega) rfl ?_
          refine IdxNode.at (j) v1 rfl (fun _ => by omega) ?_
          refine ⟨?_, trivial⟩
          refine StoreNode.own (q := 0) (i := j) x cells22 rfl (show j < ((t).set (j + 1) y).length by rw [List.length_set]; omega) rfl ?_
          exact ⟨rfl, rfl, rfl⟩
        · refine LoadNode.own (q := 0) (i := j + 1) x cells22 rfl (fun _ => hjx) rfl ?_
          refine ⟨?_, trivial⟩
          refine LoadNode.own (q := 0) (i := j) y cells22 rfl (fun _ => hjy) rfl ?_
          refine IdxNode.at (j + 1) rfl rfl (fun _ => by omega) ?_
          refine ⟨?_, trivial⟩
          refine StoreNode.own (q := 0) (i := j + 1) y cells22 rfl (show j + 1 < (t).length by omega) rfl ?_
          refine IdxNode.at (j) v1 rfl (fun _ => by omega) ?_
          refine ⟨?_, trivial⟩
          refine StoreNode.own (q := 0) (i := j) x cells22 rfl (show j < ((t).set (j + 1) y).length by rw [List.length_set]; omega) rfl ?_
          exact ⟨rfl, rfl, rfl⟩
      case hk =>
        refine ⟨(j, (t.set (j + 1) y).set j x), by show j < j + 1; omega, ⟨by show j < e; omega, by simp; exact htl, ?_⟩,
          .inl ⟨⟨⟨rfl, trivial⟩, ⟨rfl, trivial⟩, ⟨rfl, trivial⟩, ⟨rfl, trivial⟩, ⟨rfl, trivial⟩, ⟨congrArg (fun z => SV.n (.v (.int .i64 z))) v1, trivial⟩, trivial⟩, ⟨.inl rfl, trivial⟩, fun _ _ h => h⟩⟩
        show insF lessOp a j ((t.set (j + 1) y).set j x) = _
        rw [← heq, hins, swapL_at hjx hjy]
    · have h1' : (decide ((j : Int) > a) && decide (cmpOp (t.getD j OpD.zero) (t.getD (j - 1) OpD.zero) < 0)) = false := h1
      have hins : insF lessOp a j t = t := by
        cases j with
        | zero => rfl
        | succ j =>
          rw [insF, if_neg]
          intro h
          rw [Bool.and_eq_true] at h
          have hjy : t[j]? = some (t.getD j OpD.zero) := by rw [List.getD_eq_getElem?_getD, List.getElem?_eq_getElem (by omega)]; rfl
          rw [lessAt_of hjx hjy] at h
          have h2 : decide (((j + 1 : Nat) : Int) > a) = true := by have := of_decide_eq_true h.1; simp; omega
          rw [h2] at h1'
          have h3 : decide (cmpOp (t.getD (j + 1) OpD.zero) (t.getD j OpD.zero) < 0) = true := h.2
          rw [show j + 1 - 1 = j from rfl, h3] at h1'
          cases h1'
      have w2 : IntKind.i64.wrap (((a + 1 + n : Nat) : Int) + 1) = ((a + 1 + (n + 1) : Nat) : Int) := by rw [wrap_i64 (by omega) (by omega)]; omega
      refine ⟨n + 1, by omega, .inr (by omega), .inl ⟨live5 ⟨rfl, trivial⟩ ⟨rfl, trivial⟩ ⟨rfl, trivial⟩ ⟨rfl, trivial⟩ ⟨congrArg (fun z => SV.n (.v (.int .i64 z))) w2, trivial⟩, ⟨.inl ?_, trivial⟩, fun _ _ h => h⟩⟩
      rw [← heq, hins]
  · have hge : n = e - (a + 1) := by
      have c : ¬ ((a + 1 + n : Nat) : Int) < e := of_decide_eq_false ht
      omega
    subst hge
    exact ⟨[], _, [], rfl, Yields.refl, Nat.le_refl _, rfl, rfl, rfl⟩
end Go.Q
