/-
  MADE BY PROGRAM (sort2.py). slices.symMergeCmpFunc, stableCmpFunc, SortStableFunc, at api.Op. Conditions: as stated at each.
-/
import Derived.Test.YtkidlkcmpbnhpaaDoorQs2
namespace Go.Q
open Go Go.Proofs.Tryd
set_option maxRecDepth 100000
variable {L : Nat → Prop} {gd : Gd} {F : Tr} {H : List Ck} {E : List Fact}
def bsF (p : Nat → Bool) : Nat → Nat → Nat → Nat
  | 0, i, _ => i
  | f + 1, i, j => if i < j then (if p ((i + j) / 2) then bsF p f ((i + j) / 2 + 1) j else bsF p f i ((i + j) / 2)) else i
def bsL (p : Nat → Bool) (i j : Nat) : Nat := bsF p (j - i + 1) i j
theorem bsF_le (p : Nat → Bool) : ∀ (f i j : Nat), i ≤ j → i ≤ bsF p f i j ∧ bsF p f i j ≤ j
  | 0, i, j, h => ⟨Nat.le_refl _, h⟩
  | f + 1, i, j, h => by
    unfold bsF
    split
    · split
      · have := bsF_le p f ((i + j) / 2 + 1) j (by omega); omega
      · have := bsF_le p f i ((i + j) / 2) (by omega); omega
    · omega
theorem bsL_le (p : Nat → Bool) {i j : Nat} (h : i ≤ j) : i ≤ bsL p i j ∧ bsL p i j ≤ j := bsF_le p _ i j h
def upL {α : Type} (l : List α) (a : Nat) : Nat → List α
  | 0 => l
  | n + 1 => swapL (upL l a n) (a + n) (a + n + 1)
theorem upL_len {α : Type} (l : List α) (a : Nat) : ∀ n, (upL l a n).length = l.length
  | 0 => rfl
  | n + 1 => by rw [upL, swapL_len, upL_len l a n]
def downL {α : Type} (l : List α) (m : Nat) : Nat → List α
  | 0 => l
  | n + 1 => swapL (downL l m n) (m - n) (m - n - 1)
theorem downL_len {α : Type} (l : List α) (m : Nat) : ∀ n, (downL l m n).length = l.length
  | 0 => rfl
  | n + 1 => by rw [downL, swapL_len, downL_len l m n]
def symStart {α : Type} (less : α → α → Bool) (l : List α) (a m b : Nat) : Nat :=
  bsL (fun c => !lessAt less l ((a + b) / 2 + m - 1 - c) c) (if (a + b) / 2 < m then (a + b) / 2 + m - b else a) (if (a + b) / 2 < m then (a + b) / 2 else m)
def symF {α : Type} (less : α → α → Bool) : Nat → List α → Nat → Nat → Nat → List α
  | 0, l, _, _, _ => l
  | f + 1, l, a, m, b =>
    if m - a = 1 then upL l a (bsL (fun h => lessAt less l h a) m b - 1 - a)
    else if b - m = 1 then downL l m (m - bsL (fun h => !lessAt less l m h) a m)
    else
      let s := symStart less l a m b
      let l1 := if s < m ∧ m < (a + b) / 2 + m - s then rotL l s m ((a + b) / 2 + m - s) else l
      let l2 := if a < s ∧ s < (a + b) / 2 then symF less f l1 a s ((a + b) / 2) else l1
      if (a + b) / 2 < (a + b) / 2 + m - s ∧ (a + b) / 2 + m - s < b then symF less f l2 ((a + b) / 2) ((a + b) / 2 + m - s) b else l2
theorem symF_len {α : Type} (less : α → α → Bool) : ∀ (f : Nat) (l : List α) (a m b : Nat), (symF less f l a m b).length = l.length
  | 0, _, _, _, _ => rfl
  | f + 1, l, a, m, b => by
    unfold symF
    split
    · exact upL_len _ _ _
    split
    · exact downL_len _ _ _
    have e1 : (if symStart less l a m b < m ∧ m < (a + b) / 2 + m - symStart less l a m b then rotL l (symStart less l a m b) m ((a + b) / 2 + m - symStart less l a m b) else l).length = l.length := by
      split
      · exact rotL_len _ _ _ _
      · rfl
    simp only
    split
    · rw [symF_len less f]
      split
      · rw [symF_len less f, e1]
      · exact e1
    · split
      · rw [symF_len less f, e1]
      · exact e1
theorem half_i (i j : Nat) (h : i + j < 2 ^ 60) : IntKind.i64.wrap ((IntKind.u64.wrap (IntKind.i64.wrap ((i : Int) + j))).fdiv (2 ^ 1)) = (((i + j) / 2 : Nat) : Int) := by
  rw [wrap_i64 (x := (i : Int) + j) (by omega) (by omega), wrap_u64 (by omega) (by omega)]
  have : ((i : Int) + j).fdiv (2 ^ 1) = (((i + j) / 2 : Nat) : Int) := by
    rw [Int.fdiv_eq_ediv_of_nonneg _ (by omega)]; omega
  rw [this, wrap_i64 (by omega) (by omega)]
theorem getOp {t : List OpD} {i : Nat} (h : i < t.length) : t[i]? = some (t.getD i OpD.zero) := by rw [List.getD_eq_getElem?_getD, List.getElem?_eq_getElem h]; rfl
theorem lessAt_get {t : List OpD} {i j : Nat} (hi : i < t.length) (hj : j < t.length) : lessAt lessOp t i j = decide (cmpOp (t.getD i OpD.zero) (t.getD j OpD.zero) < 0) := lessAt_of (getOp hi) (getOp hj)
theorem live6 {F : Tr} {m : Nat} {a b c d e f : Nat × SV} (h1 : F.get a.1 = a.2 ∧ svLim m a.2) (h2 : F.get b.1 = b.2 ∧ svLim m b.2) (h3 : F.get c.1 = c.2 ∧ svLim m c.2) (h4 : F.get d.1 = d.2 ∧ svLim m d.2) (h5 : F.get e.1 = e.2 ∧ svLim m e.2) (h6 : F.get f.1 = f.2 ∧ svLim m f.2) : live m F [a, b, c, d, e, f] := ⟨h1, h2, h3, h4, h5, h6, trivial⟩
theorem slotI {x y : Int} (h : x = y) : SV.n (.v (.int .i64 x)) = SV.n (.v (.int .i64 y)) := by rw [h]
theorem aRotate' {l : List OpD} {rest : List Value} {b cap N0 : Nat} {A M Z : Int} (a m e : Nat) {g : Value} (hN0 : l.length = N0) (hA : A = (a : Nat)) (hM : M = (m : Nat)) (hZ : Z = (e : Nat)) (hcap : l.length ≤ cap) (hl : l.length < 2 ^ 40) (ha : a < m) (hm : m < e) (he : e ≤ l.length) :
    Acts [rowOp l rest b] [] 80 [.slice (some ⟨b, 0, none⟩) N0 cap, .int .i64 A, .int .i64 M, .int .i64 Z, g]
      (fun r C E' => r = .tuple #[] ∧ E' = [] ∧ C = [rowOp (rotL l a m e) rest b]) := by
  subst hN0; subst hA; subst hM; subst hZ; exact aRotate l rest b cap a m e g hcap hl ha hm he
theorem cutP {R G : Prop} (h1 : R → G) (h2 : R) : G := h1 h2
set_option maxHeartbeats 8000000 in
theorem aSym : ∀ (f : Nat) (l : List OpD) (rest : List Value) (b cap a m e : Nat), l.length ≤ cap → l.length < 2 ^ 40 → a < m → m < e → e ≤ l.length → e - a ≤ f →
    Acts [rowOp l rest b] [] 72 [.slice (some ⟨b, 0, none⟩) l.length cap, .int .i64 (a : Nat), .int .i64 (m : Nat), .int .i64 (e : Nat), cmpFn]
      (fun r C E' => r = .tuple #[] ∧ E' = [] ∧ C = [rowOp (symF lessOp f l a m e) rest b]) := by
  intro f
  induction f with
  | zero => intro l rest b cap a m e _ _ _ _ _ _; omega
  | succ f ih =>
  intro l rest b cap a m e hcap hl ham hme hel hf
  have ih' : ∀ {l : List OpD} {N0 : Nat} {A M Z : Int} (a m e : Nat), l.length = N0 → A = (a : Nat) → M = (m : Nat) → Z = (e : Nat) → l.length ≤ cap → l.length < 2 ^ 40 → a < m → m < e → e ≤ l.length → e - a ≤ f →
      Acts [rowOp l rest b] [] 72 [.slice (some ⟨b, 0, none⟩) N0 cap, .int .i64 A, .int .i64 M, .int .i64 Z, cmpFn] (fun r C E' => r = .tuple #[] ∧ E' = [] ∧ C = [rowOp (symF lessOp f l a m e) rest b]) := by
    intro l N0 A M Z a m e h1 h2 h3 h4 h5 h6 h7 h8 h9 h10
    subst h1; subst h2; subst h3; subst h4
    exact ih l rest b cap a m e h5 h6 h7 h8 h9 h10
  refine Acts.of 8 func72 (by kernel_rfl) fun L => ?_
  have w1 : IntKind.i64.wrap ((m : Int) - a) = ((m - a : Nat) : Int) := by rw [wrap_i64 (by omega) (by omega)]; omega
  have w2 : IntKind.i64.wrap ((e : Int) - m) = ((e - m : Nat) : Int) := by rw [wrap_i64 (by omega) (by omega)]; omega
  refine JoinNode.both (fun k1 => ?_) (fun k1 => ?_)
  · have hma : m - a = 1 := by
      have c : (IntKind.i64.wrap ((m : Int) - a) == 1) = true := k1
      rw [w1] at c; simp only [beq_iff_eq] at c; omega
    refine LoopNode.mk (α := Nat × Nat × Nat) (fun x => [(0, .n (.v (.slice (some ⟨b, 0, none⟩) l.length cap))), (1, .n (.v (.int .i64 (a : Nat)))), (4, .n (.v cmpFn)), (10, .n (.v (.int .i64 (x.2.1 : Nat)))), (11, .n (.v (.int .i64 (x.2.2 : Nat))))])
      (fun _ => [rowOp l rest b]) (fun _ => []) (fun x => m ≤ x.2.1 ∧ x.2.1 ≤ x.2.2 ∧ x.2.2 ≤ e ∧ x.2.2 - x.2.1 < x.1 ∧ bsF (fun h => lessAt lessOp l h a) x.1 x.2.1 x.2.2 = bsL (fun h => lessAt lessOp l h a) m e) (fun x => x.2.2 - x.2.1) (e - m + 1, m, e)
      ⟨Nat.le_refl _, by show m ≤ e; omega, Nat.le_refl _, by show e - m < e - m + 1; omega, rfl⟩
      (.inl ⟨live5 ⟨rfl, trivial⟩ ⟨rfl, trivial⟩ ⟨rfl, trivial⟩ ⟨rfl, trivial⟩ ⟨rfl, trivial⟩, ⟨.inl rfl, trivial⟩, fun _ _ h => h⟩) (fun _ => Nat.le_refl _) ?_
    rintro ⟨g, i, j⟩ ⟨hi, hij, hj, hg, heq⟩
    simp only at hi hij hj hg heq
    obtain ⟨g, rfl⟩ : ∃ g', g = g' + 1 := ⟨g - 1, by omega⟩
    refine JoinNode.both (fun ht => ?_) (fun ht => ?_)
    · have hlt : i < j := by have c : (i : Int) < j := of_decide_eq_true ht; omega
      unfold bsF at heq
      rw [if_pos hlt, lessAt_get (show (i + j) / 2 < l.length by omega) (show a < l.length by omega)] at heq
      have wh := half_i i j (by omega)
      refine VRawNode.shrN 1 rfl rfl rfl (by decide) ?_
      refine DrawNode.quiet (by kernel_rfl) ?_
      refine IdxNode.at ((i + j) / 2) wh rfl (fun _ => by omega) ?_
      refine LoadNode.own (q := 0) (i := (i + j) / 2) (l.getD ((i + j) / 2) OpD.zero) cells22 rfl (fun _ => getOp (by omega)) rfl ?_
      refine IdxNode.at a rfl rfl (fun _ => by omega) ?_
      refine LoadNode.own (q := 0) (i := a) (l.getD a OpD.zero) cells22 rfl (fun _ => getOp (by omega)) rfl ?_
      refine ⟨fun _ => enters_at rfl, VCallNode.tells (fun _ => tJoin2 _ _) ?_⟩
      refine JoinNode.both (fun h1 => ?_) (fun h1 => ?_)
      · rw [if_pos (show decide (cmpOp (l.getD ((i + j) / 2) OpD.zero) (l.getD a OpD.zero) < 0) = true from h1)] at heq
        refine ⟨(g, (i + j) / 2 + 1, j), by show j - ((i + j) / 2 + 1) < j - i; omega, ⟨by show m ≤ (i + j) / 2 + 1; omega, by show (i + j) / 2 + 1 ≤ j; omega, hj, by show j - ((i + j) / 2 + 1) < g; omega, heq⟩,
          .inl ⟨live5 ⟨rfl, trivial⟩ ⟨rfl, trivial⟩ ⟨rfl, trivial⟩ ⟨slotI ?_, trivial⟩ ⟨rfl, trivial⟩, ⟨.inl rfl, trivial⟩, fun _ _ h => h⟩⟩
        rw [show IntKind.i64.wrap ((IntKind.u64.wrap (IntKind.i64.wrap ((i : Int) + j))).fdiv (2 ^ 1)) = _ from wh, wrap_i64 (by omega) (by omega)]; rfl
      · rw [if_neg (show ¬ decide (cmpOp (l.getD ((i + j) / 2) OpD.zero) (l.getD a OpD.zero) < 0) = true by have h1 : decide (cmpOp (l.getD ((i + j) / 2) OpD.zero) (l.getD a OpD.zero) < 0) = false := h1; rw [h1]; simp)] at heq
        refine ⟨(g, i, (i + j) / 2), by show (i + j) / 2 - i < j - i; omega, ⟨hi, by show i ≤ (i + j) / 2; omega, by show (i + j) / 2 ≤ e; omega, by show (i + j) / 2 - i < g; omega, heq⟩,
          .inl ⟨live5 ⟨rfl, trivial⟩ ⟨rfl, trivial⟩ ⟨rfl, trivial⟩ ⟨rfl, trivial⟩ ⟨slotI wh, trivial⟩, ⟨.inl rfl, trivial⟩, fun _ _ h => h⟩⟩
    · have hge : ¬ i < j := by have c : ¬ (i : Int) < j := of_decide_eq_false ht; omega
      unfold bsF at heq
      rw [if_neg hge] at heq
      have hfin : symF lessOp (f + 1) l a m e = upL l a (i - 1 - a) := by
        rw [symF, if_pos hma, ← heq]
      have wi : IntKind.i64.wrap ((i : Int) - 1) = ((i - 1 : Nat) : Int) := by rw [wrap_i64 (by omega) (by omega)]; omega
      refine LoopNode.mk (α := Nat) (fun n => [(0, .n (.v (.slice (some ⟨b, 0, none⟩) l.length cap))), (10, .n (.v (.int .i64 (i : Nat)))), (13, .n (.v (.int .i64 (a + n : Nat))))])
        (fun n => [rowOp (upL l a n) rest b]) (fun _ => []) (fun n => a + n ≤ i - 1) (fun n => i - n) 0 (by show a + 0 ≤ i - 1; omega)
        (.inl ⟨⟨⟨rfl, trivial⟩, ⟨rfl, trivial⟩, ⟨rfl, trivial⟩, trivial⟩, ⟨.inl rfl, trivial⟩, fun _ _ h => h⟩) (fun _ => Nat.le_refl _) ?_
      intro n hn
      refine JoinNode.both (fun ht2 => ?_) (fun ht2 => ?_)
      · have hlt2 : a + n < i - 1 := by
          have c : ((a + n : Nat) : Int) < IntKind.i64.wrap ((i : Int) - 1) := of_decide_eq_true ht2
          rw [wi] at c; omega
        have htl : (upL l a n).length = l.length := upL_len _ _ _
        have v1 : IntKind.i64.wrap (((a + n : Nat) : Int) + 1) = ((a + n + 1 : Nat) : Int) := by rw [wrap_i64 (by omega) (by omega)]; omega
        have hx := getOp (t := upL l a n) (show a + n < (upL l a n).length by omega)
        have hy := getOp (t := upL l a n) (show a + n + 1 < (upL l a n).length by omega)
        generalize (upL l a n).getD (a + n) OpD.zero = x at hx
        generalize (upL l a n).getD (a + n + 1) OpD.zero = y at hy
        have hsw : upL l a (n + 1) = ((upL l a n).set (a + n) y).set (a + n + 1) x := by rw [upL, swapL_at hx hy]
        apply DrawNode.merge (hB := by kernel_rfl) 0 (.take 0 (.take 1 (.take 2 (.take 3 (.take 4 (.take 5 (.take 6 (.take 7 (.take 8 (.take 10 (.take 11 (.take 12 (.br 9 (.br 13 (.take 14 (.br 15 (.take 16 (.br 17 .done .no)) .no)) .no) (.br 13 (.br 9 (.take 14 (.br 15 (.take 16 (.br 17 .done .no)) .no)) .no) .no))))))))))))))
        case h =>
          refine IdxNode.at (a + n + 1) v1 rfl (fun _ => by omega) ?_
          refine IdxNode.at (a + n) rfl rfl (fun _ => by omega) ?_
          refine ⟨?_, ?_, trivial⟩
          · refine LoadNode.own (q := 0) (i := a + n + 1) y cells22 rfl (fun _ => hy) rfl ?_
            refine ⟨?_, trivial⟩
            refine LoadNode.own (q := 0) (i := a + n) x cells22 rfl (fun _ => hx) rfl ?_
            refine IdxNode.at (a + n) rfl rfl (fun _ => by omega) ?_
            refine ⟨?_, trivial⟩
            refine StoreNode.own (q := 0) (i := a + n) y cells22 rfl (show a + n < (upL l a n).length by omega) rfl ?_
            refine IdxNode.at (a + n + 1) v1 rfl (fun _ => by omega) ?_
            refine ⟨?_, trivial⟩
            refine StoreNode.own (q := 0) (i := a + n + 1) x cells22 rfl (show a + n + 1 < ((upL l a n).set (a + n) y).length by rw [List.length_set]; omega) rfl ?_
            exact ⟨rfl, rfl, rfl⟩
          · refine LoadNode.own (q := 0) (i := a + n) x cells22 rfl (fun _ => hx) rfl ?_
            refine ⟨?_, trivial⟩
            refine LoadNode.own (q := 0) (i := a + n + 1) y cells22 rfl (fun _ => hy) rfl ?_
            refine IdxNode.at (a + n) rfl rfl (fun _ => by omega) ?_
            refine ⟨?_, trivial⟩
            refine StoreNode.own (q := 0) (i := a + n) y cells22 rfl (show a + n < (upL l a n).length by omega) rfl ?_
            refine IdxNode.at (a + n + 1) v1 rfl (fun _ => by omega) ?_
            refine ⟨?_, trivial⟩
            refine StoreNode.own (q := 0) (i := a + n + 1) x cells22 rfl (show a + n + 1 < ((upL l a n).set (a + n) y).length by rw [List.length_set]; omega) rfl ?_
            exact ⟨rfl, rfl, rfl⟩
        case hk =>
          refine ⟨n + 1, by omega, by omega, .inl ⟨⟨⟨rfl, trivial⟩, ⟨rfl, trivial⟩, ⟨slotI v1, trivial⟩, trivial⟩, ⟨.inl ?_, trivial⟩, fun _ _ h => h⟩⟩
          show rowOp (upL l a (n + 1)) rest b = _
          rw [hsw]
      · have hge2 : n = i - 1 - a := by
          have c : ¬ ((a + n : Nat) : Int) < IntKind.i64.wrap ((i : Int) - 1) := of_decide_eq_false ht2
          rw [wi] at c; omega
        subst hge2
        exact ⟨[], _, [], rfl, Yields.refl, Nat.le_refl _, rfl, rfl, by rw [hfin]; first | done | rfl⟩
  have hma : ¬ m - a = 1 := by
    have c : (IntKind.i64.wrap ((m : Int) - a) == 1) = false := k1
    rw [w1] at c; simp only [beq_eq_false_iff_ne] at c; omega
  refine JoinNode.both (fun k2 => ?_) (fun k2 => ?_)
  · have hem : e - m = 1 := by
      have c : (IntKind.i64.wrap ((e : Int) - m) == 1) = true := k2
      rw [w2] at c; simp only [beq_iff_eq] at c; omega
    refine LoopNode.mk (α := Nat × Nat × Nat) (fun x => [(0, .n (.v (.slice (some ⟨b, 0, none⟩) l.length cap))), (2, .n (.v (.int .i64 (m : Nat)))), (4, .n (.v cmpFn)), (14, .n (.v (.int .i64 (x.2.1 : Nat)))), (15, .n (.v (.int .i64 (x.2.2 : Nat))))])
      (fun _ => [rowOp l rest b]) (fun _ => []) (fun x => a ≤ x.2.1 ∧ x.2.1 ≤ x.2.2 ∧ x.2.2 ≤ m ∧ x.2.2 - x.2.1 < x.1 ∧ bsF (fun h => !lessAt lessOp l m h) x.1 x.2.1 x.2.2 = bsL (fun h => !lessAt lessOp l m h) a m) (fun x => x.2.2 - x.2.1) (m - a + 1, a, m)
      ⟨Nat.le_refl _, by show a ≤ m; omega, Nat.le_refl _, by show m - a < m - a + 1; omega, rfl⟩
      (.inl ⟨live5 ⟨rfl, trivial⟩ ⟨rfl, trivial⟩ ⟨rfl, trivial⟩ ⟨rfl, trivial⟩ ⟨rfl, trivial⟩, ⟨.inl rfl, trivial⟩, fun _ _ h => h⟩) (fun _ => Nat.le_refl _) ?_
    rintro ⟨g, i, j⟩ ⟨hi, hij, hj, hg, heq⟩
    simp only at hi hij hj hg heq
    obtain ⟨g, rfl⟩ : ∃ g', g = g' + 1 := ⟨g - 1, by omega⟩
    refine JoinNode.both (fun ht => ?_) (fun ht => ?_)
    · have hlt : i < j := by have c : (i : Int) < j := of_decide_eq_true ht; omega
      unfold bsF at heq
      rw [if_pos hlt, lessAt_get (show m < l.length by omega) (show (i + j) / 2 < l.length by omega)] at heq
      have wh := half_i i j (by omega)
      refine VRawNode.shrN 1 rfl rfl rfl (by decide) ?_
      refine DrawNode.quiet (by kernel_rfl) ?_
      refine IdxNode.at m rfl rfl (fun _ => by omega) ?_
      refine LoadNode.own (q := 0) (i := m) (l.getD m OpD.zero) cells22 rfl (fun _ => getOp (by omega)) rfl ?_
      refine IdxNode.at ((i + j) / 2) wh rfl (fun _ => by omega) ?_
      refine LoadNode.own (q := 0) (i := (i + j) / 2) (l.getD ((i + j) / 2) OpD.zero) cells22 rfl (fun _ => getOp (by omega)) rfl ?_
      refine ⟨fun _ => enters_at rfl, VCallNode.tells (fun _ => tJoin2 _ _) ?_⟩
      refine JoinNode.both (fun h1 => ?_) (fun h1 => ?_)
      · rw [if_pos (show (!decide (cmpOp (l.getD m OpD.zero) (l.getD ((i + j) / 2) OpD.zero) < 0)) = true from h1)] at heq
        refine ⟨(g, (i + j) / 2 + 1, j), by show j - ((i + j) / 2 + 1) < j - i; omega, ⟨by show a ≤ (i + j) / 2 + 1; omega, by show (i + j) / 2 + 1 ≤ j; omega, hj, by show j - ((i + j) / 2 + 1) < g; omega, heq⟩,
          .inl ⟨live5 ⟨rfl, trivial⟩ ⟨rfl, trivial⟩ ⟨rfl, trivial⟩ ⟨slotI ?_, trivial⟩ ⟨rfl, trivial⟩, ⟨.inl rfl, trivial⟩, fun _ _ h => h⟩⟩
        rw [show IntKind.i64.wrap ((IntKind.u64.wrap (IntKind.i64.wrap ((i : Int) + j))).fdiv (2 ^ 1)) = _ from wh, wrap_i64 (by omega) (by omega)]; rfl
      · rw [if_neg (show ¬ (!decide (cmpOp (l.getD m OpD.zero) (l.getD ((i + j) / 2) OpD.zero) < 0)) = true by have h1 : (!decide (cmpOp (l.getD m OpD.zero) (l.getD ((i + j) / 2) OpD.zero) < 0)) = false := h1; rw [h1]; simp)] at heq
        refine ⟨(g, i, (i + j) / 2), by show (i + j) / 2 - i < j - i; omega, ⟨hi, by show i ≤ (i + j) / 2; omega, by show (i + j) / 2 ≤ m; omega, by show (i + j) / 2 - i < g; omega, heq⟩,
          .inl ⟨live5 ⟨rfl, trivial⟩ ⟨rfl, trivial⟩ ⟨rfl, trivial⟩ ⟨rfl, trivial⟩ ⟨slotI wh, trivial⟩, ⟨.inl rfl, trivial⟩, fun _ _ h => h⟩⟩
    · have hge : ¬ i < j := by have c : ¬ (i : Int) < j := of_decide_eq_false ht; omega
      unfold bsF at heq
      rw [if_neg hge] at heq
      have hfin : symF lessOp (f + 1) l a m e = downL l m (m - i) := by
        rw [symF, if_neg hma, if_pos hem, ← heq]
      refine LoopNode.mk (α := Nat) (fun n => [(0, .n (.v (.slice (some ⟨b, 0, none⟩) l.length cap))), (14, .n (.v (.int .i64 (i : Nat)))), (17, .n (.v (.int .i64 (m - n : Nat))))])
        (fun n => [rowOp (downL l m n) rest b]) (fun _ => []) (fun n => n ≤ m - i) (fun n => m - i - n) 0 (Nat.zero_le _)
        (.inl ⟨⟨⟨rfl, trivial⟩, ⟨rfl, trivial⟩, ⟨rfl, trivial⟩, trivial⟩, ⟨.inl rfl, trivial⟩, fun _ _ h => h⟩) (fun _ => Nat.le_refl _) ?_
      intro n hn
      refine JoinNode.both (fun ht2 => ?_) (fun ht2 => ?_)
      · have hlt2 : i < m - n := by
          have c : ((m - n : Nat) : Int) > i := of_decide_eq_true ht2
          omega
        have htl : (downL l m n).length = l.length := downL_len _ _ _
        have v1 : IntKind.i64.wrap (((m - n : Nat) : Int) - 1) = ((m - n - 1 : Nat) : Int) := by rw [wrap_i64 (by omega) (by omega)]; omega
        have hx := getOp (t := downL l m n) (show m - n < (downL l m n).length by omega)
        have hy := getOp (t := downL l m n) (show m - n - 1 < (downL l m n).length by omega)
        generalize (downL l m n).getD (m - n) OpD.zero = x at hx
        generalize (downL l m n).getD (m - n - 1) OpD.zero = y at hy
        have hsw : downL l m (n + 1) = ((downL l m n).set (m - n) y).set (m - n - 1) x := by rw [downL, swapL_at hx hy]
        have e0 : m - (n + 1) = m - n - 1 := by omega
        apply DrawNode.merge (hB := by kernel_rfl) 0 (.take 0 (.take 1 (.take 2 (.take 3 (.take 4 (.take 5 (.take 6 (.take 7 (.take 8 (.take 10 (.take 11 (.take 12 (.br 9 (.br 13 (.take 14 (.br 15 (.take 16 (.br 17 .done .no)) .no)) .no) (.br 13 (.br 9 (.take 14 (.br 15 (.take 16 (.br 17 .done .no)) .no)) .no) .no))))))))))))))
        case h =>
          refine IdxNode.at (m - n - 1) v1 rfl (fun _ => by omega) ?_
          refine IdxNode.at (m - n) rfl rfl (fun _ => by omega) ?_
          refine ⟨?_, ?_, trivial⟩
          · refine LoadNode.own (q := 0) (i := m - n - 1) y cells22 rfl (fun _ => hy) rfl ?_
            refine ⟨?_, trivial⟩
            refine LoadNode.own (q := 0) (i := m - n) x cells22 rfl (fun _ => hx) rfl ?_
            refine IdxNode.at (m - n) rfl rfl (fun _ => by omega) ?_
            refine ⟨?_, trivial⟩
            refine StoreNode.own (q := 0) (i := m - n) y cells22 rfl (show m - n < (downL l m n).length by omega) rfl ?_
            refine IdxNode.at (m - n - 1) v1 rfl (fun _ => by omega) ?_
            refine ⟨?_, trivial⟩
            refine StoreNode.own (q := 0) (i := m - n - 1) x cells22 rfl (show m - n - 1 < ((downL l m n).set (m - n) y).length by rw [List.length_set]; omega) rfl ?_
            exact ⟨rfl, rfl, rfl⟩
          · refine LoadNode.own (q := 0) (i := m - n) x cells22 rfl (fun _ => hx) rfl ?_
            refine ⟨?_, trivial⟩
            refine LoadNode.own (q := 0) (i := m - n - 1) y cells22 rfl (fun _ => hy) rfl ?_
            refine IdxNode.at (m - n) rfl rfl (fun _ => by omega) ?_
            refine ⟨?_, trivial⟩
            refine StoreNode.own (q := 0) (i := m - n) y cells22 rfl (show m - n < (downL l m n).length by omega) rfl ?_
            refine IdxNode.at (m - n - 1) v1 rfl (fun _ => by omega) ?_
            refine ⟨?_, trivial⟩
            refine StoreNode.own (q := 0) (i := m - n - 1) x cells22 rfl (show m - n - 1 < ((downL l m n).set (m - n) y).length by rw [List.length_set]; omega) rfl ?_
            exact ⟨rfl, rfl, rfl⟩
        case hk =>
          refine ⟨n + 1, by omega, by omega, .inl ⟨⟨⟨rfl, trivial⟩, ⟨rfl, trivial⟩, ⟨slotI ?_, trivial⟩, trivial⟩, ⟨.inl ?_, trivial⟩, fun _ _ h => h⟩⟩
          · rw [e0]; exact v1
          · show rowOp (downL l m (n + 1)) rest b = _
            rw [hsw]
      · have hge2 : n = m - i := by
          have c : ¬ ((m - n : Nat) : Int) > i := of_decide_eq_false ht2
          omega
        subst hge2
        exact ⟨[], _, [], rfl, Yields.refl, Nat.le_refl _, rfl, rfl, by rw [hfin]; first | done | rfl⟩
  have hem : ¬ e - m = 1 := by
    have c : (IntKind.i64.wrap ((e : Int) - m) == 1) = false := k2
    rw [w2] at c; simp only [beq_eq_false_iff_ne] at c; omega
  have wmid := half_i a e (by omega)
  obtain ⟨mid, hmid⟩ : ∃ mid, mid = (a + e) / 2 := ⟨_, rfl⟩
  have wn : IntKind.i64.wrap (((mid : Nat) : Int) + m) = ((mid + m : Nat) : Int) := by rw [wrap_i64 (by omega) (by omega)]; omega
  have ws : IntKind.i64.wrap (((mid + m : Nat) : Int) - e) = ((mid + m : Nat) : Int) - e := by rw [wrap_i64 (by omega) (by omega)]
  have wp' : IntKind.i64.wrap (((mid + m : Nat) : Int) - 1) = ((mid + m - 1 : Nat) : Int) := by rw [wrap_i64 (by omega) (by omega)]; omega
  rw [← hmid] at wmid
  refine VRawNode.shrN 1 rfl rfl rfl (by decide) ?_
  have hs0 : symStart lessOp l a m e = bsL (fun c => !lessAt lessOp l (mid + m - 1 - c) c) (if mid < m then mid + m - e else a) (if mid < m then mid else m) := by rw [hmid]; rfl
  obtain ⟨s0, hs0e⟩ : ∃ s0, s0 = if mid < m then mid + m - e else a := ⟨_, rfl⟩
  obtain ⟨r0, hr0e⟩ : ∃ r0, r0 = if mid < m then mid else m := ⟨_, rfl⟩
  rw [← hs0e, ← hr0e] at hs0
  have hsr : s0 ≤ r0 := by
    rw [hs0e, hr0e]; split <;> omega
  have wn' : IntKind.i64.wrap (IntKind.i64.wrap ((IntKind.u64.wrap (IntKind.i64.wrap ((a : Int) + e))).fdiv (2 ^ 1)) + m) = ((mid + m : Nat) : Int) := by rw [wmid]; exact wn
  have wmid' : decide ((m : Int) > IntKind.i64.wrap ((IntKind.u64.wrap (IntKind.i64.wrap ((a : Int) + e))).fdiv (2 ^ 1))) = decide (mid < m) := by rw [wmid, decide_eq_decide]; omega
  apply cutP
  · intro hr
    refine JoinNode.both (fun k3 => ?_) (fun k3 => ?_)
    · have k3' : mid < m := by
        have c : decide ((m : Int) > IntKind.i64.wrap ((IntKind.u64.wrap (IntKind.i64.wrap ((a : Int) + e))).fdiv (2 ^ 1))) = true := k3
        rw [wmid'] at c; exact of_decide_eq_true c
      refine LoopNode.mk (α := Nat × Nat × Nat) (fun x => [(0, .n (.v (.slice (some ⟨b, 0, none⟩) l.length cap))), (1, .n (.v (.int .i64 (a : Nat)))), (2, .n (.v (.int .i64 (m : Nat)))), (3, .n (.v (.int .i64 (e : Nat)))), (4, .n (.v cmpFn)), (18, .n (.v (.int .i64 (mid : Nat)))), (19, .n (.v (.int .i64 (mid + m : Nat)))), (20, .n (.v (.int .i64 (x.2.1 : Nat)))), (21, .n (.v (.int .i64 (x.2.2 : Nat)))), (22, .n (.v (.int .i64 (mid + m - 1 : Nat))))])
          (fun _ => [rowOp l rest b]) (fun _ => []) (fun x => s0 ≤ x.2.1 ∧ x.2.1 ≤ x.2.2 ∧ x.2.2 ≤ r0 ∧ x.2.2 - x.2.1 < x.1 ∧ bsF (fun c => !lessAt lessOp l (mid + m - 1 - c) c) x.1 x.2.1 x.2.2 = symStart lessOp l a m e) (fun x => x.2.2 - x.2.1) (r0 - s0 + 1, s0, r0)
          ⟨Nat.le_refl _, hsr, Nat.le_refl _, Nat.lt_succ_self _, by rw [hs0]; rfl⟩ (.inl ⟨⟨⟨rfl, trivial⟩, ⟨rfl, trivial⟩, ⟨rfl, trivial⟩, ⟨rfl, trivial⟩, ⟨rfl, trivial⟩, ⟨slotI wmid, trivial⟩, ⟨slotI ?_, trivial⟩, ⟨slotI ?_, trivial⟩, ⟨slotI ?_, trivial⟩, ⟨slotI ?_, trivial⟩, trivial⟩, ⟨.inl rfl, trivial⟩, fun _ _ h => h⟩) (fun _ => Nat.le_refl _) hr
      · exact wn'
      · show IntKind.i64.wrap (IntKind.i64.wrap (IntKind.i64.wrap ((IntKind.u64.wrap (IntKind.i64.wrap ((a : Int) + e))).fdiv (2 ^ 1)) + m) - e) = _
        rw [wn', ws]
        show _ = ((s0 : Nat) : Int)
        rw [hs0e, if_pos k3']; omega
      · show IntKind.i64.wrap ((IntKind.u64.wrap (IntKind.i64.wrap ((a : Int) + e))).fdiv (2 ^ 1)) = _
        rw [wmid]
        show _ = ((r0 : Nat) : Int)
        rw [hr0e, if_pos k3']
      · show IntKind.i64.wrap (IntKind.i64.wrap (IntKind.i64.wrap ((IntKind.u64.wrap (IntKind.i64.wrap ((a : Int) + e))).fdiv (2 ^ 1)) + m) - 1) = _
        rw [wn', wp']
    · have k3' : ¬ mid < m := by
        have c : decide ((m : Int) > IntKind.i64.wrap ((IntKind.u64.wrap (IntKind.i64.wrap ((a : Int) + e))).fdiv (2 ^ 1))) = false := k3
        rw [wmid'] at c; exact of_decide_eq_false c
      refine LoopNode.mk (α := Nat × Nat × Nat) (fun x => [(0, .n (.v (.slice (some ⟨b, 0, none⟩) l.length cap))), (1, .n (.v (.int .i64 (a : Nat)))), (2, .n (.v (.int .i64 (m : Nat)))), (3, .n (.v (.int .i64 (e : Nat)))), (4, .n (.v cmpFn)), (18, .n (.v (.int .i64 (mid : Nat)))), (19, .n (.v (.int .i64 (mid + m : Nat)))), (20, .n (.v (.int .i64 (x.2.1 : Nat)))), (21, .n (.v (.int .i64 (x.2.2 : Nat)))), (22, .n (.v (.int .i64 (mid + m - 1 : Nat))))])
          (fun _ => [rowOp l rest b]) (fun _ => []) (fun x => s0 ≤ x.2.1 ∧ x.2.1 ≤ x.2.2 ∧ x.2.2 ≤ r0 ∧ x.2.2 - x.2.1 < x.1 ∧ bsF (fun c => !lessAt lessOp l (mid + m - 1 - c) c) x.1 x.2.1 x.2.2 = symStart lessOp l a m e) (fun x => x.2.2 - x.2.1) (r0 - s0 + 1, s0, r0)
          ⟨Nat.le_refl _, hsr, Nat.le_refl _, Nat.lt_succ_self _, by rw [hs0]; rfl⟩ (.inl ⟨⟨⟨rfl, trivial⟩, ⟨rfl, trivial⟩, ⟨rfl, trivial⟩, ⟨rfl, trivial⟩, ⟨rfl, trivial⟩, ⟨slotI wmid, trivial⟩, ⟨slotI ?_, trivial⟩, ⟨slotI ?_, trivial⟩, ⟨slotI ?_, trivial⟩, ⟨slotI ?_, trivial⟩, trivial⟩, ⟨.inl rfl, trivial⟩, fun _ _ h => h⟩) (fun _ => Nat.le_refl _) hr
      · exact wn'
      · show (a : Int) = ((s0 : Nat) : Int)
        rw [hs0e, if_neg k3']
      · show (m : Int) = ((r0 : Nat) : Int)
        rw [hr0e, if_neg k3']
      · show IntKind.i64.wrap (IntKind.i64.wrap (IntKind.i64.wrap ((IntKind.u64.wrap (IntKind.i64.wrap ((a : Int) + e))).fdiv (2 ^ 1)) + m) - 1) = _
        rw [wn', wp']
  rintro ⟨g, i, j⟩ ⟨hi, hij, hj, hg, heq⟩
  simp only at hi hij hj hg heq
  obtain ⟨g, rfl⟩ : ∃ g', g = g' + 1 := ⟨g - 1, by omega⟩
  have hs0b : a ≤ s0 ∧ mid + m - e ≤ s0 := by rw [hs0e]; split <;> omega
  have hr0b : r0 ≤ m ∧ r0 ≤ mid := by rw [hr0e]; split <;> omega
  refine JoinNode.both (fun ht => ?_) (fun ht => ?_)
  · have hlt : i < j := by have c : (i : Int) < j := of_decide_eq_true ht; omega
    unfold bsF at heq
    rw [if_pos hlt, lessAt_get (show mid + m - 1 - (i + j) / 2 < l.length by omega) (show (i + j) / 2 < l.length by omega)] at heq
    have wh := half_i i j (by omega)
    have wc : IntKind.i64.wrap (((mid + m - 1 : Nat) : Int) - IntKind.i64.wrap ((IntKind.u64.wrap (IntKind.i64.wrap ((i : Int) + j))).fdiv (2 ^ 1))) = ((mid + m - 1 - (i + j) / 2 : Nat) : Int) := by rw [wh, wrap_i64 (by omega) (by omega)]; omega
    refine VRawNode.shrN 1 rfl rfl rfl (by decide) ?_
    refine DrawNode.quiet (by kernel_rfl) ?_
    refine IdxNode.at (mid + m - 1 - (i + j) / 2) wc rfl (fun _ => by omega) ?_
    refine LoadNode.own (q := 0) (i := mid + m - 1 - (i + j) / 2) (l.getD (mid + m - 1 - (i + j) / 2) OpD.zero) cells22 rfl (fun _ => getOp (by omega)) rfl ?_
    refine IdxNode.at ((i + j) / 2) wh rfl (fun _ => by omega) ?_
    refine LoadNode.own (q := 0) (i := (i + j) / 2) (l.getD ((i + j) / 2) OpD.zero) cells22 rfl (fun _ => getOp (by omega)) rfl ?_
    refine ⟨fun _ => enters_at rfl, VCallNode.tells (fun _ => tJoin2 _ _) ?_⟩
    refine JoinNode.both (fun h1 => ?_) (fun h1 => ?_)
    · rw [if_pos (show (!decide (cmpOp (l.getD (mid + m - 1 - (i + j) / 2) OpD.zero) (l.getD ((i + j) / 2) OpD.zero) < 0)) = true from h1)] at heq
      refine ⟨(g, (i + j) / 2 + 1, j), by show j - ((i + j) / 2 + 1) < j - i; omega, ⟨by show s0 ≤ (i + j) / 2 + 1; omega, by show (i + j) / 2 + 1 ≤ j; omega, hj, by show j - ((i + j) / 2 + 1) < g; omega, heq⟩,
        .inl ⟨⟨⟨rfl, trivial⟩, ⟨rfl, trivial⟩, ⟨rfl, trivial⟩, ⟨rfl, trivial⟩, ⟨rfl, trivial⟩, ⟨rfl, trivial⟩, ⟨rfl, trivial⟩, ⟨slotI ?_, trivial⟩, ⟨rfl, trivial⟩, ⟨rfl, trivial⟩, trivial⟩, ⟨.inl rfl, trivial⟩, fun _ _ h => h⟩⟩
      rw [show IntKind.i64.wrap ((IntKind.u64.wrap (IntKind.i64.wrap ((i : Int) + j))).fdiv (2 ^ 1)) = _ from wh, wrap_i64 (by omega) (by omega)]; rfl
    · rw [if_neg (show ¬ (!decide (cmpOp (l.getD (mid + m - 1 - (i + j) / 2) OpD.zero) (l.getD ((i + j) / 2) OpD.zero) < 0)) = true by have h1 : (!decide (cmpOp (l.getD (mid + m - 1 - (i + j) / 2) OpD.zero) (l.getD ((i + j) / 2) OpD.zero) < 0)) = false := h1; rw [h1]; simp)] at heq
      refine ⟨(g, i, (i + j) / 2), by show (i + j) / 2 - i < j - i; omega, ⟨hi, by show i ≤ (i + j) / 2; omega, by show (i + j) / 2 ≤ r0; omega, by show (i + j) / 2 - i < g; omega, heq⟩,
        .inl ⟨⟨⟨rfl, trivial⟩, ⟨rfl, trivial⟩, ⟨rfl, trivial⟩, ⟨rfl, trivial⟩, ⟨rfl, trivial⟩, ⟨rfl, trivial⟩, ⟨rfl, trivial⟩, ⟨rfl, trivial⟩, ⟨slotI wh, trivial⟩, ⟨rfl, trivial⟩, trivial⟩, ⟨.inl rfl, trivial⟩, fun _ _ h => h⟩⟩
  · have hge : ¬ i < j := by have c : ¬ (i : Int) < j := of_decide_eq_false ht; omega
    unfold bsF at heq
    rw [if_neg hge] at heq
    have hend : IntKind.i64.wrap (((mid + m : Nat) : Int) - i) = ((mid + m - i : Nat) : Int) := by rw [wrap_i64 (by omega) (by omega)]; omega
    have hfin : symF lessOp (f + 1) l a m e =
        (let l1 := if i < m ∧ m < mid + m - i then rotL l i m (mid + m - i) else l
         let l2 := if a < i ∧ i < mid then symF lessOp f l1 a i mid else l1
         if mid < mid + m - i ∧ mid + m - i < e then symF lessOp f l2 mid (mid + m - i) e else l2) := by
      rw [symF, if_neg hma, if_neg hem, ← heq, ← hmid]
    simp only at hfin
    -- the three tests
    have t1 : (decide ((i : Int) < m) && decide ((m : Int) < IntKind.i64.wrap (((mid + m : Nat) : Int) - i))) = decide (i < m ∧ m < mid + m - i) := by rw [hend, Bool.eq_iff_iff]; simp only [Bool.and_eq_true, decide_eq_true_eq]; omega
    have t2 : (decide ((a : Int) < i) && decide ((i : Int) < mid)) = decide (a < i ∧ i < mid) := by rw [Bool.eq_iff_iff]; simp only [Bool.and_eq_true, decide_eq_true_eq]; omega
    have t3 : (decide ((mid : Int) < IntKind.i64.wrap (((mid + m : Nat) : Int) - i)) && decide (IntKind.i64.wrap (((mid + m : Nat) : Int) - i) < e)) = decide (mid < mid + m - i ∧ mid + m - i < e) := by rw [hend, Bool.eq_iff_iff]; simp only [Bool.and_eq_true, decide_eq_true_eq]; omega
    refine JoinNode.both (fun c1 => ?_) (fun c1 => ?_)
    · have d1 : i < m ∧ m < mid + m - i := by
        have c : (decide ((i : Int) < m) && decide ((m : Int) < IntKind.i64.wrap (((mid + m : Nat) : Int) - i))) = true := c1
        rw [t1] at c; exact of_decide_eq_true c
      rw [if_pos d1] at hfin
      refine CallNode.acts [0] (aRotate' i m (mid + m - i) rfl rfl rfl hend (by omega) (by omega) (by omega) (by omega) (by omega)) ⟨rfl, trivial⟩ (by simp) (fun _ _ _ => trivial) ?_
      rintro r C' E' ⟨rfl, rfl, rfl⟩
      refine JoinNode.both (fun c2 => ?_) (fun c2 => ?_)
      · have d2 : a < i ∧ i < mid := by
          have c : (decide ((a : Int) < i) && decide ((i : Int) < mid)) = true := c2
          rw [t2] at c; exact of_decide_eq_true c
        rw [if_pos d2] at hfin
        refine CallNode.acts [0] (ih' a i mid (by rw [rotL_len]) rfl rfl rfl (by rw [rotL_len]; omega) (by rw [rotL_len]; omega) (by omega) (by omega) (by rw [rotL_len]; omega) (by omega)) ⟨rfl, trivial⟩ (by simp) (fun _ _ _ => trivial) ?_
        rintro r C' E' ⟨rfl, rfl, rfl⟩
        refine JoinNode.both (fun c3 => ?_) (fun c3 => ?_)
        · have d3 : mid < mid + m - i ∧ mid + m - i < e := by
            have c : (decide ((mid : Int) < IntKind.i64.wrap (((mid + m : Nat) : Int) - i)) && decide (IntKind.i64.wrap (((mid + m : Nat) : Int) - i) < e)) = true := c3
            rw [t3] at c; exact of_decide_eq_true c
          rw [if_pos d3] at hfin
          refine CallNode.acts [0] (ih' mid (mid + m - i) e (by rw [symF_len]; rw [rotL_len]) rfl hend rfl (by rw [symF_len]; rw [rotL_len]; omega) (by rw [symF_len]; rw [rotL_len]; omega) (by omega) (by omega) (by rw [symF_len]; rw [rotL_len]; omega) (by omega)) ⟨rfl, trivial⟩ (by simp) (fun _ _ _ => trivial) ?_
          rintro r C' E' ⟨rfl, rfl, rfl⟩
          exact ⟨[], _, [], rfl, Yields.refl, Nat.le_refl _, rfl, rfl, by rw [hfin]; first | done | rfl⟩
        · have d3 : ¬ (mid < mid + m - i ∧ mid + m - i < e) := by
            have c : (decide ((mid : Int) < IntKind.i64.wrap (((mid + m : Nat) : Int) - i)) && decide (IntKind.i64.wrap (((mid + m : Nat) : Int) - i) < e)) = false := c3
            rw [t3] at c; exact of_decide_eq_false c
          rw [if_neg d3] at hfin
          exact ⟨[], _, [], rfl, Yields.refl, Nat.le_refl _, rfl, rfl, by rw [hfin]; first | done | rfl⟩
      · have d2 : ¬ (a < i ∧ i < mid) := by
          have c : (decide ((a : Int) < i) && decide ((i : Int) < mid)) = false := c2
          rw [t2] at c; exact of_decide_eq_false c
        rw [if_neg d2] at hfin
        refine JoinNode.both (fun c3 => ?_) (fun c3 => ?_)
        · have d3 : mid < mid + m - i ∧ mid + m - i < e := by
            have c : (decide ((mid : Int) < IntKind.i64.wrap (((mid + m : Nat) : Int) - i)) && decide (IntKind.i64.wrap (((mid + m : Nat) : Int) - i) < e)) = true := c3
            rw [t3] at c; exact of_decide_eq_true c
          rw [if_pos d3] at hfin
          refine CallNode.acts [0] (ih' mid (mid + m - i) e (by rw [rotL_len]) rfl hend rfl (by rw [rotL_len]; omega) (by rw [rotL_len]; omega) (by omega) (by omega) (by rw [rotL_len]; omega) (by omega)) ⟨rfl, trivial⟩ (by simp) (fun _ _ _ => trivial) ?_
          rintro r C' E' ⟨rfl, rfl, rfl⟩
          exact ⟨[], _, [], rfl, Yields.refl, Nat.le_refl _, rfl, rfl, by rw [hfin]; first | done | rfl⟩
        · have d3 : ¬ (mid < mid + m - i ∧ mid + m - i < e) := by
            have c : (decide ((mid : Int) < IntKind.i64.wrap (((mid + m : Nat) : Int) - i)) && decide (IntKind.i64.wrap (((mid + m : Nat) : Int) - i) < e)) = false := c3
            rw [t3] at c; exact of_decide_eq_false c
          rw [if_neg d3] at hfin
          exact ⟨[], _, [], rfl, Yields.refl, Nat.le_refl _, rfl, rfl, by rw [hfin]; first | done | rfl⟩
    · have d1 : ¬ (i < m ∧ m < mid + m - i) := by
        have c : (decide ((i : Int) < m) && decide ((m : Int) < IntKind.i64.wrap (((mid + m : Nat) : Int) - i))) = false := c1
        rw [t1] at c; exact of_decide_eq_false c
      rw [if_neg d1] at hfin
      refine JoinNode.both (fun c2 => ?_) (fun c2 => ?_)
      · have d2 : a < i ∧ i < mid := by
          have c : (decide ((a : Int) < i) && decide ((i : Int) < mid)) = true := c2
          rw [t2] at c; exact of_decide_eq_true c
        rw [if_pos d2] at hfin
        refine CallNode.acts [0] (ih' a i mid rfl rfl rfl rfl (by omega) (by omega) (by omega) (by omega) (by omega) (by omega)) ⟨rfl, trivial⟩ (by simp) (fun _ _ _ => trivial) ?_
        rintro r C' E' ⟨rfl, rfl, rfl⟩
        refine JoinNode.both (fun c3 => ?_) (fun c3 => ?_)
        · have d3 : mid < mid + m - i ∧ mid + m - i < e := by
            have c : (decide ((mid : Int) < IntKind.i64.wrap (((mid + m : Nat) : Int) - i)) && decide (IntKind.i64.wrap (((mid + m : Nat) : Int) - i) < e)) = true := c3
            rw [t3] at c; exact of_decide_eq_true c
          rw [if_pos d3] at hfin
          refine CallNode.acts [0] (ih' mid (mid + m - i) e (by rw [symF_len]) rfl hend rfl (by rw [symF_len]; omega) (by rw [symF_len]; omega) (by omega) (by omega) (by rw [symF_len]; omega) (by omega)) ⟨rfl, trivial⟩ (by simp) (fun _ _ _ => trivial) ?_
          rintro r C' E' ⟨rfl, rfl, rfl⟩
          exact ⟨[], _, [], rfl, Yields.refl, Nat.le_refl _, rfl, rfl, by rw [hfin]; first | done | rfl⟩
        · have d3 : ¬ (mid < mid + m - i ∧ mid + m - i < e) := by
            have c : (decide ((mid : Int) < IntKind.i64.wrap (((mid + m : Nat) : Int) - i)) && decide (IntKind.i64.wrap (((mid + m : Nat) : Int) - i) < e)) = false := c3
            rw [t3] at c; exact of_decide_eq_false c
          rw [if_neg d3] at hfin
          exact ⟨[], _, [], rfl, Yields.refl, Nat.le_refl _, rfl, rfl, by rw [hfin]; first | done | rfl⟩
      · have d2 : ¬ (a < i ∧ i < mid) := by
          have c : (decide ((a : Int) < i) && decide ((i : Int) < mid)) = false := c2
          rw [t2] at c; exact of_decide_eq_false c
        rw [if_neg d2] at hfin
        refine JoinNode.both (fun c3 => ?_) (fun c3 => ?_)
        · have d3 : mid < mid + m - i ∧ mid + m - i < e := by
            have c : (decide ((mid : Int) < IntKind.i64.wrap (((mid + m : Nat) : Int) - i)) && decide (IntKind.i64.wrap (((mid + m : Nat) : Int) - i) < e)) = true := c3
            rw [t3] at c; exact of_decide_eq_true c
          rw [if_pos d3] at hfin
          refine CallNode.acts [0] (ih' mid (mid + m - i) e rfl rfl hend rfl (by omega) (by omega) (by omega) (by omega) (by omega) (by omega)) ⟨rfl, trivial⟩ (by simp) (fun _ _ _ => trivial) ?_
          rintro r C' E' ⟨rfl, rfl, rfl⟩
          exact ⟨[], _, [], rfl, Yields.refl, Nat.le_refl _, rfl, rfl, by rw [hfin]; first | done | rfl⟩
        · have d3 : ¬ (mid < mid + m - i ∧ mid + m - i < e) := by
            have c : (decide ((mid : Int) < IntKind.i64.wrap (((mid + m : Nat) : Int) - i)) && decide (IntKind.i64.wrap (((mid + m : Nat) : Int) - i) < e)) = false := c3
            rw [t3] at c; exact of_decide_eq_false c
          rw [if_neg d3] at hfin
          exact ⟨[], _, [], rfl, Yields.refl, Nat.le_refl _, rfl, rfl, by rw [hfin]; first | done | rfl⟩
end Go.Q
