/-
  slices.stableCmpFunc, SortStableFunc, at api.Op. Conditions: fewer than 2^40 elements.
-/
import Derived.Test.YtkidlkcmpbnhpaaDoorQs3
namespace Go.Q
open Go Go.Proofs.Tryd
set_option maxRecDepth 100000
variable {L : Nat → Prop} {gd : Gd} {F : Tr} {H : List Ck} {E : List Fact}
def symL {α : Type} (less : α → α → Bool) (l : List α) (a m e : Nat) : List α := symF less (e - a) l a m e
theorem symL_len {α : Type} (less : α → α → Bool) (l : List α) (a m e : Nat) : (symL less l a m e).length = l.length := symF_len _ _ _ _ _ _
def blocksF {α : Type} (less : α → α → Bool) (n : Nat) : Nat → List α → Nat → List α
  | 0, l, _ => l
  | f + 1, l, a => if a + 20 ≤ n then blocksF less n f (insL less l a (a + 20)) (a + 20) else insL less l a n
def roundF {α : Type} (less : α → α → Bool) (n bs : Nat) : Nat → List α → Nat → List α
  | 0, l, _ => l
  | f + 1, l, a => if a + 2 * bs ≤ n then roundF less n bs f (symL less l a (a + bs) (a + 2 * bs)) (a + 2 * bs) else if a + bs < n then symL less l a (a + bs) n else l
def roundsF {α : Type} (less : α → α → Bool) (n : Nat) : Nat → List α → Nat → List α
  | 0, l, _ => l
  | f + 1, l, bs => if bs < n then roundsF less n f (roundF less n bs (n + 1) l 0) (2 * bs) else l
def stableL {α : Type} (less : α → α → Bool) (l : List α) : List α := roundsF less l.length (l.length + 1) (blocksF less l.length (l.length + 1) l 0) 20
theorem blocksF_len {α : Type} (less : α → α → Bool) (n : Nat) : ∀ (f : Nat) (l : List α) (a : Nat), (blocksF less n f l a).length = l.length
  | 0, _, _ => rfl
  | f + 1, l, a => by
    unfold blocksF
    split
    · rw [blocksF_len less n f, insL_len]
    · exact insL_len _ _ _ _
theorem roundF_len {α : Type} (less : α → α → Bool) (n bs : Nat) : ∀ (f : Nat) (l : List α) (a : Nat), (roundF less n bs f l a).length = l.length
  | 0, _, _ => rfl
  | f + 1, l, a => by
    unfold roundF
    split
    · rw [roundF_len less n bs f, symL_len]
    · split
      · exact symL_len _ _ _ _ _
      · rfl
theorem roundsF_len {α : Type} (less : α → α → Bool) (n : Nat) : ∀ (f : Nat) (l : List α) (bs : Nat), (roundsF less n f l bs).length = l.length
  | 0, _, _ => rfl
  | f + 1, l, bs => by
    unfold roundsF
    split
    · rw [roundsF_len less n f, roundF_len]
    · rfl
theorem stableL_len {α : Type} (less : α → α → Bool) (l : List α) : (stableL less l).length = l.length := by
  unfold stableL; rw [roundsF_len, blocksF_len]
theorem aInsert' {l : List OpD} {rest : List Value} {b cap N0 : Nat} {A Z : Int} (a e : Nat) (hN0 : l.length = N0) (hA : A = (a : Nat)) (hZ : Z = (e : Nat)) (hcap : l.length ≤ cap) (hl : l.length < 2 ^ 40) (ha : a ≤ l.length) (he : e ≤ l.length) :
    Acts [rowOp l rest b] [] 71 [.slice (some ⟨b, 0, none⟩) N0 cap, .int .i64 A, .int .i64 Z, cmpFn]
      (fun r C E' => r = .tuple #[] ∧ E' = [] ∧ C = [rowOp (insL lessOp l a e) rest b]) := by
  subst hN0; subst hA; subst hZ; exact aInsert l rest b cap a e hcap hl ha he
theorem aSym' {l : List OpD} {rest : List Value} {b cap N0 : Nat} {A M Z : Int} (a m e : Nat) (h1 : l.length = N0) (h2 : A = (a : Nat)) (h3 : M = (m : Nat)) (h4 : Z = (e : Nat)) (h5 : l.length ≤ cap) (h6 : l.length < 2 ^ 40) (h7 : a < m) (h8 : m < e) (h9 : e ≤ l.length) :
    Acts [rowOp l rest b] [] 72 [.slice (some ⟨b, 0, none⟩) N0 cap, .int .i64 A, .int .i64 M, .int .i64 Z, cmpFn] (fun r C E' => r = .tuple #[] ∧ E' = [] ∧ C = [rowOp (symL lessOp l a m e) rest b]) := by
  subst h1; subst h2; subst h3; subst h4; exact aSym (e - a) l rest b cap a m e h5 h6 h7 h8 h9 (Nat.le_refl _)
set_option maxHeartbeats 4000000 in
theorem aStable (l : List OpD) (rest : List Value) (b cap : Nat) (hcap : l.length ≤ cap) (hl : l.length < 2 ^ 40) :
    Acts [rowOp l rest b] [] 54 [.slice (some ⟨b, 0, none⟩) l.length cap, .int .i64 (l.length : Nat), cmpFn]
      (fun r C E' => r = .tuple #[] ∧ E' = [] ∧ C = [rowOp (stableL lessOp l) rest b]) := by
  obtain ⟨n, hn⟩ : ∃ n, n = l.length := ⟨_, rfl⟩
  obtain ⟨R, hR⟩ : ∃ R, R = blocksF lessOp n (n + 1) l 0 := ⟨_, rfl⟩
  refine Acts.of 6 func54 (by kernel_rfl) fun L => ?_
  rw [← hn]
  refine LoopNode.mk (α := Nat × Nat × List OpD) (fun x => [(0, .n (.v (.slice (some ⟨b, 0, none⟩) n cap))), (1, .n (.v (.int .i64 (n : Nat)))), (2, .n (.v cmpFn)), (6, .n (.v (.int .i64 20))), (7, .n (.v (.int .i64 (x.2.1 : Nat)))), (8, .n (.v (.int .i64 (x.2.1 + 20 : Nat))))])
    (fun x => [rowOp x.2.2 rest b]) (fun _ => []) (fun x => x.2.1 ≤ n ∧ n < x.1 + x.2.1 ∧ x.2.2.length = n ∧ blocksF lessOp n x.1 x.2.2 x.2.1 = R) (fun x => n - x.2.1) (n + 1, 0, l)
    ⟨Nat.zero_le _, by show n < n + 1 + 0; omega, hn.symm, hR.symm⟩ (.inl ⟨live6 ⟨rfl, trivial⟩ ⟨rfl, trivial⟩ ⟨rfl, trivial⟩ ⟨rfl, trivial⟩ ⟨rfl, trivial⟩ ⟨rfl, trivial⟩, ⟨.inl rfl, trivial⟩, fun _ _ h => h⟩) (fun _ => Nat.le_refl _) ?_
  rintro ⟨f, a, t⟩ ⟨han, hf, htl, heq⟩
  simp only at han hf htl heq
  obtain ⟨f, rfl⟩ : ∃ f', f = f' + 1 := ⟨f - 1, by omega⟩
  refine JoinNode.both (fun ht => ?_) (fun ht => ?_)
  · have hle : a + 20 ≤ n := by have c : ((a + 20 : Nat) : Int) ≤ n := of_decide_eq_true ht; omega
    refine CallNode.acts [0] (aInsert' a (a + 20) htl rfl rfl (by omega) (by omega) (by omega) (by omega)) ⟨rfl, trivial⟩ (by simp) (fun _ _ _ => trivial) ?_
    rintro r C' E' ⟨rfl, rfl, rfl⟩
    unfold blocksF at heq
    rw [if_pos hle] at heq
    refine ⟨(f, a + 20, insL lessOp t a (a + 20)), by show n - (a + 20) < n - a; omega, ⟨hle, by show n < f + (a + 20); omega, (insL_len _ _ _ _).trans htl, heq⟩,
      .inl ⟨live6 ⟨rfl, trivial⟩ ⟨rfl, trivial⟩ ⟨rfl, trivial⟩ ⟨rfl, trivial⟩ ⟨rfl, trivial⟩ ⟨slotI ?_, trivial⟩, ⟨.inl rfl, trivial⟩, fun _ _ h => h⟩⟩
    show IntKind.i64.wrap (((a + 20 : Nat) : Int) + 20) = ((a + 20 + 20 : Nat) : Int)
    rw [wrap_i64 (by omega) (by omega)]; omega
  · have hgt : ¬ a + 20 ≤ n := by have c : ¬ ((a + 20 : Nat) : Int) ≤ n := of_decide_eq_false ht; omega
    unfold blocksF at heq
    rw [if_neg hgt] at heq
    refine CallNode.acts [0] (aInsert' a n htl rfl rfl (by omega) (by omega) (by omega) (by omega)) ⟨rfl, trivial⟩ (by simp) (fun _ _ _ => trivial) ?_
    rintro r C' E' ⟨rfl, rfl, rfl⟩
    have hst : stableL lessOp l = roundsF lessOp n (n + 1) (insL lessOp t a n) 20 := by unfold stableL; rw [← hn, ← hR, ← heq]
    have h0 : (insL lessOp t a n).length = n := (insL_len _ _ _ _).trans htl
    obtain ⟨R2, hR2⟩ : ∃ R2, R2 = stableL lessOp l := ⟨_, rfl⟩
    rw [← hR2] at hst
    refine LoopNode.mk (α := Nat × Nat × List OpD) (fun x => [(0, .n (.v (.slice (some ⟨b, 0, none⟩) n cap))), (1, .n (.v (.int .i64 (n : Nat)))), (2, .n (.v cmpFn)), (6, .n (.v (.int .i64 (x.2.1 : Nat))))])
      (fun x => [rowOp x.2.2 rest b]) (fun _ => []) (fun x => 20 ≤ x.2.1 ∧ x.2.1 ≤ 20 + 2 * n ∧ n < x.1 + x.2.1 ∧ x.2.2.length = n ∧ roundsF lessOp n x.1 x.2.2 x.2.1 = R2) (fun x => n - x.2.1) (n + 1, 20, insL lessOp t a n)
      ⟨Nat.le_refl _, by show 20 ≤ 20 + 2 * n; omega, by show n < n + 1 + 20; omega, h0, hst.symm⟩ (.inl ⟨⟨⟨rfl, trivial⟩, ⟨rfl, trivial⟩, ⟨rfl, trivial⟩, ⟨rfl, trivial⟩, trivial⟩, ⟨.inl rfl, trivial⟩, fun _ _ h => h⟩) (fun _ => Nat.le_refl _) ?_
    rintro ⟨g, bs, u⟩ ⟨hb1, hb2, hg, hul, heq2⟩
    simp only at hb1 hb2 hg hul heq2
    refine JoinNode.both (fun ht2 => ?_) (fun ht2 => ?_)
    · have hlt : bs < n := by have c : (bs : Int) < n := of_decide_eq_true ht2; omega
      obtain ⟨g, rfl⟩ : ∃ g', g = g' + 1 := ⟨g - 1, by omega⟩
      rw [roundsF, if_pos hlt] at heq2
      obtain ⟨R3, hR3⟩ : ∃ R3, R3 = roundF lessOp n bs (n + 1) u 0 := ⟨_, rfl⟩
      rw [← hR3] at heq2
      have w2 : IntKind.i64.wrap (2 * (bs : Int)) = ((0 + 2 * bs : Nat) : Int) := by rw [wrap_i64 (by omega) (by omega)]; omega
      refine LoopNode.mk (α := Nat × Nat × List OpD) (fun x => [(0, .n (.v (.slice (some ⟨b, 0, none⟩) n cap))), (1, .n (.v (.int .i64 (n : Nat)))), (2, .n (.v cmpFn)), (6, .n (.v (.int .i64 (bs : Nat)))), (7, .n (.v (.int .i64 (x.2.1 : Nat)))), (8, .n (.v (.int .i64 (x.2.1 + 2 * bs : Nat))))])
        (fun x => [rowOp x.2.2 rest b]) (fun _ => []) (fun x => x.2.1 ≤ n ∧ n < x.1 + x.2.1 ∧ x.2.2.length = n ∧ roundF lessOp n bs x.1 x.2.2 x.2.1 = R3) (fun x => n - x.2.1) (n + 1, 0, u)
        ⟨Nat.zero_le _, by show n < n + 1 + 0; omega, hul, hR3.symm⟩ (.inl ⟨live6 ⟨rfl, trivial⟩ ⟨rfl, trivial⟩ ⟨rfl, trivial⟩ ⟨rfl, trivial⟩ ⟨rfl, trivial⟩ ⟨slotI w2, trivial⟩, ⟨.inl rfl, trivial⟩, fun _ _ h => h⟩) (fun _ => Nat.le_refl _) ?_
      rintro ⟨k, c, v⟩ ⟨hcn, hk, hvl, heq3⟩
      simp only at hcn hk hvl heq3
      obtain ⟨k, rfl⟩ : ∃ k', k = k' + 1 := ⟨k - 1, by omega⟩
      have wc : IntKind.i64.wrap ((c : Int) + bs) = ((c + bs : Nat) : Int) := wrap_i64 (by omega) (by omega)
      have wb : IntKind.i64.wrap ((bs : Int) * 2) = ((2 * bs : Nat) : Int) := by rw [wrap_i64 (by omega) (by omega)]; omega
      refine JoinNode.both (fun ht3 => ?_) (fun ht3 => ?_)
      · have hle : c + 2 * bs ≤ n := by have q : ((c + 2 * bs : Nat) : Int) ≤ n := of_decide_eq_true ht3; omega
        rw [roundF, if_pos hle] at heq3
        refine CallNode.acts [0] (aSym' c (c + bs) (c + 2 * bs) hvl rfl wc rfl (by omega) (by omega) (by omega) (by omega) (by omega)) ⟨rfl, trivial⟩ (by simp) (fun _ _ _ => trivial) ?_
        rintro r C' E' ⟨rfl, rfl, rfl⟩
        refine ⟨(k, c + 2 * bs, symL lessOp v c (c + bs) (c + 2 * bs)), by show n - (c + 2 * bs) < n - c; omega, ⟨hle, by show n < k + (c + 2 * bs); omega, (symL_len _ _ _ _ _).trans hvl, heq3⟩,
          .inl ⟨live6 ⟨rfl, trivial⟩ ⟨rfl, trivial⟩ ⟨rfl, trivial⟩ ⟨rfl, trivial⟩ ⟨rfl, trivial⟩ ⟨slotI ?_, trivial⟩, ⟨.inl rfl, trivial⟩, fun _ _ h => h⟩⟩
        show IntKind.i64.wrap (((c + 2 * bs : Nat) : Int) + IntKind.i64.wrap (2 * (bs : Int))) = ((c + 2 * bs + 2 * bs : Nat) : Int)
        rw [w2, wrap_i64 (by omega) (by omega)]; omega
      · have hgt2 : ¬ c + 2 * bs ≤ n := by have q : ¬ ((c + 2 * bs : Nat) : Int) ≤ n := of_decide_eq_false ht3; omega
        rw [roundF, if_neg hgt2] at heq3
        refine JoinNode.both (fun ht4 => ?_) (fun ht4 => ?_)
        · have hlt4 : c + bs < n := by
            have q : IntKind.i64.wrap ((c : Int) + bs) < n := of_decide_eq_true ht4
            rw [wc] at q; omega
          rw [if_pos hlt4] at heq3
          refine CallNode.acts [0] (aSym' c (c + bs) n hvl rfl wc rfl (by omega) (by omega) (by omega) (by omega) (by omega)) ⟨rfl, trivial⟩ (by simp) (fun _ _ _ => trivial) ?_
          rintro r C' E' ⟨rfl, rfl, rfl⟩
          refine ⟨(g, 2 * bs, symL lessOp v c (c + bs) n), by show n - 2 * bs < n - bs; omega, ⟨by show 20 ≤ 2 * bs; omega, by show 2 * bs ≤ 20 + 2 * n; omega, by show n < g + 2 * bs; omega, (symL_len _ _ _ _ _).trans hvl, by rw [← heq3] at heq2; exact heq2⟩,
            .inl ⟨⟨⟨rfl, trivial⟩, ⟨rfl, trivial⟩, ⟨rfl, trivial⟩, ⟨slotI wb, trivial⟩, trivial⟩, ⟨.inl rfl, trivial⟩, fun _ _ h => h⟩⟩
        · have hlt4 : ¬ c + bs < n := by
            have q : ¬ IntKind.i64.wrap ((c : Int) + bs) < n := of_decide_eq_false ht4
            rw [wc] at q; omega
          rw [if_neg hlt4] at heq3
          refine ⟨(g, 2 * bs, v), by show n - 2 * bs < n - bs; omega, ⟨by show 20 ≤ 2 * bs; omega, by show 2 * bs ≤ 20 + 2 * n; omega, by show n < g + 2 * bs; omega, hvl, by rw [← heq3] at heq2; exact heq2⟩,
            .inl ⟨⟨⟨rfl, trivial⟩, ⟨rfl, trivial⟩, ⟨rfl, trivial⟩, ⟨slotI wb, trivial⟩, trivial⟩, ⟨.inl rfl, trivial⟩, fun _ _ h => h⟩⟩
    · have hge : ¬ bs < n := by have c : ¬ (bs : Int) < n := of_decide_eq_false ht2; omega
      have heq2 : u = R2 := by
        cases g with
        | zero => exact heq2
        | succ g => rw [roundsF, if_neg hge] at heq2; exact heq2
      exact ⟨[], _, [], rfl, Yields.refl, Nat.le_refl _, rfl, rfl, by rw [← hR2, ← heq2]⟩
theorem aSortStable (l : List OpD) (rest : List Value) (b cap : Nat) (hcap : l.length ≤ cap) (hl : l.length < 2 ^ 40) :
    Acts [rowOp l rest b] [] 31 [.slice (some ⟨b, 0, none⟩) l.length cap, cmpFn]
      (fun r C E' => r = .tuple #[] ∧ E' = [] ∧ C = [rowOp (stableL lessOp l) rest b]) :=
  Acts.of 5 func31 (by kernel_rfl) fun L => by
    refine CallNode.acts [0] (aStable l rest b cap hcap hl) ⟨rfl, trivial⟩ (by simp) (fun _ _ _ => trivial) ?_
    rintro r C' E' ⟨rfl, rfl, rfl⟩
    exact ⟨[], _, [], rfl, Yields.refl, Nat.le_refl _, rfl, rfl, rfl⟩
end Go.Q
