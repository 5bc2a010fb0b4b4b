/-
  Rows of structs that are turned in place; slices.swapRangeCmpFunc. Conditions: as stated at each.
-/
import Derived.Test.YtkidlkcmpbnhpaaDoorQo3
namespace Go.Q
open Go Go.Proofs.Tryd
set_option maxRecDepth 100000
/-! Plain: two elements change places. -/
def swapL {α : Type} (l : List α) (i j : Nat) : List α := match l[i]?, l[j]? with
  | some x, some y => (l.set i y).set j x
  | _, _ => l
def swapRangeL {α : Type} (l : List α) (a b : Nat) : Nat → List α
  | 0 => l
  | n + 1 => swapL (swapRangeL l a b n) (a + n) (b + n)
theorem swapL_at {α : Type} {l : List α} {i j : Nat} {x y : α} (hi : l[i]? = some x) (hj : l[j]? = some y) : swapL l i j = (l.set i y).set j x := by unfold swapL; rw [hi, hj]
theorem swapL_len {α : Type} (l : List α) (i j : Nat) : (swapL l i j).length = l.length := by
  unfold swapL; split <;> simp
theorem swapRangeL_len {α : Type} (l : List α) (a b : Nat) : ∀ n, (swapRangeL l a b n).length = l.length
  | 0 => rfl
  | n + 1 => by rw [swapRangeL, swapL_len, swapRangeL_len l a b n]
theorem flat_len {α : Type} {enc : α → List Value} {s : Nat} (hs : ∀ x, (enc x).length = s) : ∀ l : List α, (flat enc l).length = l.length * s
  | [] => by simp [flat]
  | x :: r => by rw [flat, List.length_append, hs, flat_len hs r, List.length_cons, Nat.add_mul]; omega
theorem flat_app {α : Type} (enc : α → List Value) : ∀ a b : List α, flat enc (a ++ b) = flat enc a ++ flat enc b
  | [], b => rfl
  | x :: r, b => by simp only [List.cons_append, flat, flat_app enc r b, List.append_assoc]
theorem flat_set {α : Type} {enc : α → List Value} {s : Nat} (hs : ∀ x, (enc x).length = s) (rest : List Value) : ∀ (l : List α) (i : Nat) (y : α), i < l.length →
    (flat enc l ++ rest).take (i * s) ++ enc y ++ (flat enc l ++ rest).drop (i * s + (enc y).length) = flat enc (l.set i y) ++ rest
  | [], i, y, h => by simp at h
  | x :: r, 0, y, h => by
    simp only [flat, List.set_cons_zero, Nat.zero_mul, List.take_zero, List.nil_append, Nat.zero_add, hs, List.append_assoc]
    congr 1
    rw [← hs x, List.drop_left]
  | x :: r, i + 1, y, h => by
    have ih := flat_set hs rest r i y (by simpa using h)
    simp only [flat, List.set_cons_succ, List.append_assoc] at ih ⊢
    have e1 : (i + 1) * s = (enc x).length + i * s := by rw [hs, Nat.add_mul]; omega
    rw [e1, List.take_length_add_append, show (enc x).length + i * s + (enc y).length = (enc x).length + (i * s + (enc y).length) by omega, List.drop_length_add_append, List.append_assoc, ih]
variable {L : Nat → Prop} {gd : Gd} {F : Tr} {H : List Ck} {E : List Fact}
/-- An element of a row of one's own is read. -/
theorem LoadNode.own {α : Type} {enc : α → List Value} {q i s b ty : Nat} {l : List α} {rest : List Value} {ao : Option Addr} {k : Value → Prop} (x : α) (hs : ∀ x, (enc x).length = s) (hH : H[q]? = some (.row ty (flat enc l ++ rest) (some b)))
    (hi : gd.holds → l[i]? = some x) (ha : ao = some ⟨b, 0 + i * s, none⟩) (hk : k (.agg (enc x).toArray)) : LoadNode τ L gd H E ao s true k := by
  refine LoadNode.agg (enc x) (hs x) (fun hg β w ho => ⟨_, ha, fun j v hv => ?_⟩) hk
  have h1 := flat_get hs (hi hg) j v hv
  have h2 := (ho.rowF 0 (.inl ⟨ty, hH⟩)).2.2 (i * s + j) v (by rw [List.drop_zero, List.getElem?_append_left (List.getElem?_eq_some_iff.1 h1).1]; exact h1)
  rw [addr_add, Nat.add_assoc]; exact h2
/-- An element of a row of one's own is turned. -/
theorem StoreNode.own {α : Type} {enc : α → List Value} {q i s b ty : Nat} {l : List α} {rest : List Value} {ao : Option Addr} {k : List Ck → Prop} (y : α) (hs : ∀ x, (enc x).length = s) (hH : H[q]? = some (.row ty (flat enc l ++ rest) (some b)))
    (hi : i < l.length) (ha : ao = some ⟨b, 0 + i * s, none⟩) (hk : k (H.set q (.row ty (flat enc (l.set i y) ++ rest) (some b)))) : StoreNode ao (enc y) H k := by
  constructor
  have h1 : (i + 1) * s ≤ l.length * s := Nat.mul_le_mul_right _ hi
  refine ⟨q, b, i * s, ty, flat enc l ++ rest, hH, by rw [ha, Nat.zero_add], ?_, ?_⟩
  · rw [List.length_append, flat_len hs, hs]; rw [Nat.add_mul] at h1; omega
  · rw [flat_set hs rest l i y hi]; exact hk
/-- A drawn region of which all orders end alike. -/
theorem DrawNode.merge {ops : Array Oper} {k : Tr → List Ck → List Fact → Prop} (n : Nat) (p : Plan) (F1 : Tr) (H1 : List Ck) (E1 : List Fact) (hB : mixB ops n p = true)
    (h : wpOps P τ L true ops (ops.toList.take n) [] [] F H E fun F' H' E' => wpPlan P τ L ops p F' H' E' fun F H E => F = F1 ∧ H = H1 ∧ E = E1) (hk : k F1 H1 E1) : DrawNode P τ L ops F H E k :=
  DrawNode.mixed n p _ hB h (fun F H E ⟨e1, e2, e3⟩ => by subst e1; subst e2; subst e3; exact hk)
theorem cells22 (x : OpD) : (OpD.cells x).length = 22 := rfl
abbrev rowOp (l : List OpD) (rest : List Value) (b : Nat) : Ck := .row 31 (flat OpD.cells l ++ rest) (some b)
set_option maxHeartbeats 1000000 in
theorem aSwapRange (l : List OpD) (rest : List Value) (b cap a c n : Nat) (g : Value) (hcap : l.length ≤ cap) (hl : l.length < 2 ^ 40) (ha : a + n ≤ l.length) (hc : c + n ≤ l.length) :
    Acts [rowOp l rest b] [] 90 [.slice (some ⟨b, 0, none⟩) l.length cap, .int .i64 (a : Nat), .int .i64 (c : Nat), .int .i64 (n : Nat), g]
      (fun r C E' => r = .tuple #[] ∧ E' = [] ∧ C = [rowOp (swapRangeL l a c n) rest b]) :=
  Acts.of 6 func90 (by kernel_rfl) fun L => by
    refine LoopNode.mk (α := Nat) (fun i => [(0, .n (.v (.slice (some ⟨b, 0, none⟩) l.length cap))), (1, .n (.v (.int .i64 (a : Nat)))), (2, .n (.v (.int .i64 (c : Nat)))), (3, .n (.v (.int .i64 (n : Nat)))), (10, .n (.v (.int .i64 (i : Nat))))])
      (fun i => [rowOp (swapRangeL l a c i) rest b]) (fun _ => []) (fun i => i ≤ n) (fun i => n - i) 0 (Nat.zero_le _)
      (.inl ⟨⟨⟨rfl, trivial⟩, ⟨rfl, trivial⟩, ⟨rfl, trivial⟩, ⟨rfl, trivial⟩, ⟨rfl, trivial⟩, trivial⟩, ⟨.inl rfl, trivial⟩, fun _ _ h => h⟩) (fun _ => Nat.le_refl _) ?_
    intro i hi
    refine JoinNode.both (fun ht => ?_) (fun ht => ?_)
    · have hlt : i < n := by have c := of_decide_eq_true ht; omega
      have hlen := swapRangeL_len l a c i
      have w1 : IntKind.i64.wrap ((a : Int) + i) = ((a + i : Nat) : Int) := wrap_i64 (by omega) (by omega)
      have w2 : IntKind.i64.wrap ((c : Int) + i) = ((c + i : Nat) : Int) := wrap_i64 (by omega) (by omega)
      obtain ⟨x, hx⟩ : ∃ x, (swapRangeL l a c i)[a + i]? = some x := ⟨_, List.getElem?_eq_getElem (by omega)⟩
      obtain ⟨y, hy⟩ : ∃ y, (swapRangeL l a c i)[c + i]? = some y := ⟨_, List.getElem?_eq_getElem (by omega)⟩
      apply DrawNode.merge (hB := by kernel_rfl) 0 (.take 0 (.take 1 (.take 2 (.take 3 (.take 4 (.take 5 (.take 6 (.take 7 (.take 8 (.take 9 (.take 10 (.take 11 (.take 12 (.take 14 (.take 15 (.take 16 (.take 17 (.take 18 (.br 13 (.br 19 (.take 20 (.br 21 (.take 22 (.br 23 .done .no)) .no)) .no) (.br 19 (.br 13 (.take 20 (.br 21 (.take 22 (.br 23 .done .no)) .no)) .no) .no))))))))))))))))))))
      case h =>
        refine IdxNode.at (c + i) w2 rfl (fun _ => by omega) ?_
        refine IdxNode.at (a + i) w1 rfl (fun _ => by omega) ?_
        refine ⟨?_, ?_, trivial⟩
        · refine LoadNode.own (q := 0) (i := c + i) y cells22 rfl (fun _ => hy) rfl ?_
          refine ⟨?_, trivial⟩
          refine LoadNode.own (q := 0) (i := a + i) x cells22 rfl (fun _ => hx) rfl ?_
          refine IdxNode.at (a + i) w1 rfl (fun _ => by omega) ?_
          refine ⟨?_, trivial⟩
          refine StoreNode.own (q := 0) (i := a + i) y cells22 rfl (by omega) rfl ?_
          refine IdxNode.at (c + i) w2 rfl (fun _ => by omega) ?_
          refine ⟨?_, trivial⟩
          refine StoreNode.own (q := 0) (i := c + i) x cells22 rfl (by simp; omega) rfl ?_
          exact ⟨rfl, rfl, rfl⟩
        · refine LoadNode.own (q := 0) (i := a + i) x cells22 rfl (fun _ => hx) rfl ?_
          refine ⟨?_, trivial⟩
          refine LoadNode.own (q := 0) (i := c + i) y cells22 rfl (fun _ => hy) rfl ?_
          refine IdxNode.at (a + i) w1 rfl (fun _ => by omega) ?_
          refine ⟨?_, trivial⟩
          refine StoreNode.own (q := 0) (i := a + i) y cells22 rfl (by omega) rfl ?_
          refine IdxNode.at (c + i) w2 rfl (fun _ => by omega) ?_
          refine ⟨?_, trivial⟩
          refine StoreNode.own (q := 0) (i := c + i) x cells22 rfl (by simp; omega) rfl ?_
          exact ⟨rfl, rfl, rfl⟩
      case hk =>
        refine ⟨i + 1, by omega, by omega, .inl ⟨⟨⟨rfl, trivial⟩, ⟨rfl, trivial⟩, ⟨rfl, trivial⟩, ⟨rfl, trivial⟩, ⟨?_, trivial⟩, trivial⟩, ⟨.inl ?_, trivial⟩, fun _ _ h => h⟩⟩
        · show SV.n (.v (.int .i64 (IntKind.i64.wrap ((i : Int) + 1)))) = _
          rw [wrap_i64 (by omega) (by omega)]; rfl
        · show rowOp (swapRangeL l a c (i + 1)) rest b = _
          rw [swapRangeL, swapL_at hx hy]
    · have hge : i = n := by have c := of_decide_eq_false ht; omega
      subst hge
      exact ⟨[], _, [], rfl, Yields.refl, Nat.le_refl _, rfl, rfl, rfl⟩
end Go.Q
