/-
  The mirrors of slices' stable sort do sort. Conditions: none beyond a total order.
-/
import Derived.Test.YtkidlkcmpbnhpaaDoorQs4
namespace Go.Q
open Go
theorem swapL_get {α : Type} {l : List α} {i j : Nat} (hi : i < l.length) (hj : j < l.length) (p : Nat) : (swapL l i j)[p]? = if p = j then l[i]? else if p = i then l[j]? else l[p]? := by
  rw [swapL_at (List.getElem?_eq_getElem hi) (List.getElem?_eq_getElem hj), List.getElem?_set, List.getElem?_set, List.length_set]
  by_cases h1 : p = j
  · subst h1; rw [if_pos rfl, if_pos rfl, if_pos hj, List.getElem?_eq_getElem hi]
  · rw [if_neg (fun e => h1 e.symm), if_neg h1]
    by_cases h2 : p = i
    · subst h2; rw [if_pos rfl, if_pos rfl, if_pos hi, List.getElem?_eq_getElem hj]
    · rw [if_neg (fun e => h2 e.symm), if_neg h2]
theorem swapL_perm {α : Type} (l : List α) (i j : Nat) : (swapL l i j).Perm l := by
  unfold swapL
  split
  · rename_i x y hx hy
    obtain ⟨h1, rfl⟩ := List.getElem?_eq_some_iff.1 hx
    obtain ⟨h2, rfl⟩ := List.getElem?_eq_some_iff.1 hy
    exact List.set_set_perm h1 h2
  · exact List.Perm.refl _
theorem swapRangeL_perm {α : Type} (l : List α) (a b : Nat) : ∀ n, (swapRangeL l a b n).Perm l
  | 0 => List.Perm.refl _
  | n + 1 => (swapL_perm _ _ _).trans (swapRangeL_perm l a b n)
theorem rotF_perm {α : Type} (m : Nat) : ∀ (f i j : Nat) (l : List α), (rotF m f i j l).Perm l
  | 0, _, _, _ => List.Perm.refl _
  | f + 1, i, j, l => by
    unfold rotF
    split
    · exact swapRangeL_perm _ _ _ _
    · split
      · exact (rotF_perm m f _ _ _).trans (swapRangeL_perm _ _ _ _)
      · exact (rotF_perm m f _ _ _).trans (swapRangeL_perm _ _ _ _)
theorem insF_perm {α : Type} (less : α → α → Bool) (a : Nat) : ∀ (j : Nat) (l : List α), (insF less a j l).Perm l
  | 0, _ => List.Perm.refl _
  | j + 1, l => by
    unfold insF
    split
    · exact (insF_perm less a j _).trans (swapL_perm _ _ _)
    · exact List.Perm.refl _
theorem insFor_perm {α : Type} (less : α → α → Bool) (a : Nat) (l : List α) : ∀ n, (insFor less a l n).Perm l
  | 0 => List.Perm.refl _
  | n + 1 => (insF_perm less a _ _).trans (insFor_perm less a l n)
theorem upL_perm {α : Type} (l : List α) (a : Nat) : ∀ n, (upL l a n).Perm l
  | 0 => List.Perm.refl _
  | n + 1 => (swapL_perm _ _ _).trans (upL_perm l a n)
theorem downL_perm {α : Type} (l : List α) (m : Nat) : ∀ n, (downL l m n).Perm l
  | 0 => List.Perm.refl _
  | n + 1 => (swapL_perm _ _ _).trans (downL_perm l m n)
theorem symF_perm {α : Type} (less : α → α → Bool) : ∀ (f : Nat) (l : List α) (a m b : Nat), (symF less f l a m b).Perm l
  | 0, _, _, _, _ => List.Perm.refl _
  | f + 1, l, a, m, b => by
    unfold symF
    split
    · exact upL_perm _ _ _
    · split
      · exact downL_perm _ _ _
      · have h1 : (if symStart less l a m b < m ∧ m < (a + b) / 2 + m - symStart less l a m b then rotL l (symStart less l a m b) m ((a + b) / 2 + m - symStart less l a m b) else l).Perm l := by
          split
          · exact rotF_perm _ _ _ _ _
          · exact List.Perm.refl _
        dsimp only
        split
        · refine (symF_perm less f _ _ _ _).trans ?_
          split
          · exact (symF_perm less f _ _ _ _).trans h1
          · exact h1
        · split
          · exact (symF_perm less f _ _ _ _).trans h1
          · exact h1
theorem blocksF_perm {α : Type} (less : α → α → Bool) (n : Nat) : ∀ (f : Nat) (l : List α) (a : Nat), (blocksF less n f l a).Perm l
  | 0, _, _ => List.Perm.refl _
  | f + 1, l, a => by
    unfold blocksF
    split
    · exact (blocksF_perm less n f _ _).trans (insFor_perm _ _ _ _)
    · exact insFor_perm _ _ _ _
theorem roundF_perm {α : Type} (less : α → α → Bool) (n bs : Nat) : ∀ (f : Nat) (l : List α) (a : Nat), (roundF less n bs f l a).Perm l
  | 0, _, _ => List.Perm.refl _
  | f + 1, l, a => by
    unfold roundF
    split
    · exact (roundF_perm less n bs f _ _).trans (symF_perm _ _ _ _ _ _)
    · split
      · exact symF_perm _ _ _ _ _ _
      · exact List.Perm.refl _
theorem roundsF_perm {α : Type} (less : α → α → Bool) (n : Nat) : ∀ (f : Nat) (l : List α) (bs : Nat), (roundsF less n f l bs).Perm l
  | 0, _, _ => List.Perm.refl _
  | f + 1, l, bs => by
    unfold roundsF
    split
    · exact (roundsF_perm less n f _ _).trans (roundF_perm _ _ _ _ _ _)
    · exact List.Perm.refl _
theorem stableL_perm {α : Type} (less : α → α → Bool) (l : List α) : (stableL less l).Perm l := (roundsF_perm _ _ _ _ _).trans (blocksF_perm _ _ _ _ _)
theorem swapRangeL_get {α : Type} (l : List α) (a b : Nat) : ∀ (n p : Nat), a + n ≤ b → b + n ≤ l.length →
    (swapRangeL l a b n)[p]? = if a ≤ p ∧ p < a + n then l[p - a + b]? else if b ≤ p ∧ p < b + n then l[p - b + a]? else l[p]?
  | 0, p, _, _ => by rw [if_neg (by omega), if_neg (by omega)]; rfl
  | n + 1, p, h1, h2 => by
    have ih := fun q => swapRangeL_get l a b n q (by omega) (by omega)
    rw [swapRangeL, swapL_get (by rw [swapRangeL_len]; omega) (by rw [swapRangeL_len]; omega), ih, ih, ih]
    repeat' split
    all_goals first | rfl | (exfalso; omega) | (refine congrArg (fun q : Nat => l[q]?) ?_; omega)
theorem rotF_get {α : Type} (m : Nat) : ∀ (f i j : Nat) (l : List α) (p : Nat), i + j ≤ f → 0 < i → 0 < j → i ≤ m → m + j ≤ l.length →
    (rotF m f i j l)[p]? = if m - i ≤ p ∧ p < m - i + j then l[p + i]? else if m - i + j ≤ p ∧ p < m + j then l[p - j]? else l[p]?
  | 0, _, _, _, _, h, hi, _, _, _ => by omega
  | f + 1, i, j, l, p, h, hi, hj, him, hl => by
    unfold rotF
    by_cases e : i = j
    · subst e
      rw [if_pos rfl, swapRangeL_get _ _ _ _ _ (by omega) (by omega)]
      repeat' split
      all_goals first | rfl | (exfalso; omega) | (refine congrArg (fun q : Nat => l[q]?) ?_; omega)
    · rw [if_neg e]
      by_cases e2 : j < i
      · rw [if_pos e2, rotF_get m f (i - j) j _ p (by omega) (by omega) hj (by omega) (by rw [swapRangeL_len]; exact hl)]
        have ih := fun q => swapRangeL_get l (m - i) m j q (by omega) (by omega)
        rw [ih, ih, ih]
        repeat' split
        all_goals first | rfl | (exfalso; omega) | (refine congrArg (fun q : Nat => l[q]?) ?_; omega)
      · rw [if_neg e2, rotF_get m f i (j - i) _ p (by omega) hi (by omega) him (by rw [swapRangeL_len]; omega)]
        have ih := fun q => swapRangeL_get l (m - i) (m + j - i) i q (by omega) (by omega)
        rw [ih, ih, ih]
        repeat' split
        all_goals first | rfl | (exfalso; omega) | (refine congrArg (fun q : Nat => l[q]?) ?_; omega)
theorem rotL_get {α : Type} (l : List α) {a m b : Nat} (p : Nat) (h1 : a < m) (h2 : m < b) (h3 : b ≤ l.length) :
    (rotL l a m b)[p]? = if a ≤ p ∧ p < a + (b - m) then l[p + (m - a)]? else if a + (b - m) ≤ p ∧ p < b then l[p - (b - m)]? else l[p]? := by
  unfold rotL
  rw [rotF_get m _ _ _ l p (by omega) (by omega) (by omega) (by omega) (by omega)]
  repeat' split
  all_goals first | rfl | (exfalso; omega) | (refine congrArg (fun q : Nat => l[q]?) ?_; omega)
theorem upL_get {α : Type} (l : List α) (a : Nat) : ∀ (n p : Nat), a + n < l.length →
    (upL l a n)[p]? = if a ≤ p ∧ p < a + n then l[p + 1]? else if p = a + n then l[a]? else l[p]?
  | 0, p, _ => by
    rw [if_neg (by omega)]
    split
    · rename_i h; rw [h]; rfl
    · rfl
  | n + 1, p, h => by
    have ih := fun q => upL_get l a n q (by omega)
    rw [upL, swapL_get (by rw [upL_len]; omega) (by rw [upL_len]; omega), ih, ih, ih]
    repeat' split
    all_goals first | rfl | (exfalso; omega) | (refine congrArg (fun q : Nat => l[q]?) ?_; omega)
theorem downL_get {α : Type} (l : List α) (m : Nat) : ∀ (n p : Nat), n ≤ m → m < l.length →
    (downL l m n)[p]? = if m - n < p ∧ p ≤ m then l[p - 1]? else if p = m - n then l[m]? else l[p]?
  | 0, p, _, _ => by
    rw [if_neg (by omega)]
    split
    · rename_i h; rw [h]; rfl
    · rfl
  | n + 1, p, h, hm => by
    have ih := fun q => downL_get l m n q (by omega) hm
    rw [downL, swapL_get (by rw [downL_len]; omega) (by rw [downL_len]; omega), ih, ih, ih]
    repeat' split
    all_goals first | rfl | (exfalso; omega) | (refine congrArg (fun q : Nat => l[q]?) ?_; omega)
/-- Sorted between two places. -/
def Srt {α : Type} (less : α → α → Bool) (l : List α) (a b : Nat) : Prop := ∀ p q, a ≤ p → p < q → q < b → lessAt less l q p = false
/-- Turned only between two places, and its values there come from there. -/
def Wth {α : Type} (l l' : List α) (a b : Nat) : Prop := (∀ p, (p < a ∨ b ≤ p) → l'[p]? = l[p]?) ∧ ∀ p, a ≤ p → p < b → ∃ q, a ≤ q ∧ q < b ∧ l'[p]? = l[q]?
theorem Wth.refl {α : Type} (l : List α) (a b : Nat) : Wth l l a b := ⟨fun _ _ => rfl, fun p h1 h2 => ⟨p, h1, h2, rfl⟩⟩
theorem Wth.trans {α : Type} {l l1 l2 : List α} {a b : Nat} (h : Wth l l1 a b) (g : Wth l1 l2 a b) : Wth l l2 a b :=
  ⟨fun p hp => (g.1 p hp).trans (h.1 p hp), fun p h1 h2 => by
    obtain ⟨q, q1, q2, e⟩ := g.2 p h1 h2
    obtain ⟨r, r1, r2, e'⟩ := h.2 q q1 q2
    exact ⟨r, r1, r2, e.trans e'⟩⟩
theorem Wth.wide {α : Type} {l l' : List α} {a b a' b' : Nat} (h : Wth l l' a b) (h1 : a' ≤ a) (h2 : b ≤ b') : Wth l l' a' b' :=
  ⟨fun p hp => h.1 p (by omega), fun p p1 p2 => by
    by_cases c : a ≤ p ∧ p < b
    · obtain ⟨q, q1, q2, e⟩ := h.2 p c.1 c.2
      exact ⟨q, by omega, by omega, e⟩
    · exact ⟨p, p1, p2, h.1 p (by omega)⟩⟩
theorem lessAt_congr {α : Type} {less : α → α → Bool} {l l' : List α} {p q p' q' : Nat} (hp : l'[p]? = l[p']?) (hq : l'[q]? = l[q']?) : lessAt less l' q p = lessAt less l q' p' := by
  unfold lessAt; rw [hp, hq]
theorem Srt.out {α : Type} {less : α → α → Bool} {l l' : List α} {a b c d : Nat} (h : Srt less l a b) (w : Wth l l' c d) (hd : b ≤ c ∨ d ≤ a) : Srt less l' a b :=
  fun p q h1 h2 h3 => by rw [lessAt_congr (w.1 p (by omega)) (w.1 q (by omega))]; exact h p q h1 h2 h3
theorem Srt.part {α : Type} {less : α → α → Bool} {l : List α} {a b c d : Nat} (h : Srt less l a b) (h1 : a ≤ c) (h2 : d ≤ b) : Srt less l c d :=
  fun p q g1 g2 g3 => h p q (by omega) g2 (by omega)
structure Ordr {α : Type} (less : α → α → Bool) : Prop where
  asym : ∀ x y, less x y = true → less y x = false
  tr : ∀ x y z, less y x = false → less z y = false → less z x = false
theorem Ordr.as {α : Type} {less : α → α → Bool} (h : Ordr less) {l : List α} {p q : Nat} (c : lessAt less l q p = true) : lessAt less l p q = false := by
  unfold lessAt at c ⊢
  split at c
  · rename_i x y hx hy; rw [hx, hy]; exact h.asym _ _ c
  · cases c
theorem Ordr.trn {α : Type} {less : α → α → Bool} (h : Ordr less) {l : List α} {p q r : Nat} (hq : q < l.length) (c : lessAt less l q p = false) (d : lessAt less l r q = false) : lessAt less l r p = false := by
  unfold lessAt at c d ⊢
  rw [List.getElem?_eq_getElem hq] at c d
  cases hp : l[p]? with
  | none => cases l[r]? <;> rfl
  | some x => cases hr : l[r]? with
    | none => rfl
    | some z => rw [hp] at c; rw [hr] at d; exact h.tr _ _ _ c d
theorem bsF_inv (p : Nat → Bool) : ∀ (f i j : Nat), i ≤ j → j - i < f → (i < bsF p f i j → p (bsF p f i j - 1) = true) ∧ (bsF p f i j < j → p (bsF p f i j) = false)
  | 0, i, j, _, h => by omega
  | f + 1, i, j, hij, h => by
    unfold bsF
    by_cases c : i < j
    · rw [if_pos c]
      by_cases hp : p ((i + j) / 2) = true
      · rw [if_pos hp]
        have ih := bsF_inv p f ((i + j) / 2 + 1) j (by omega) (by omega)
        have hb := bsF_le p f ((i + j) / 2 + 1) j (by omega)
        refine ⟨fun _ => ?_, ih.2⟩
        by_cases c2 : bsF p f ((i + j) / 2 + 1) j = (i + j) / 2 + 1
        · rw [c2]; exact hp
        · exact ih.1 (by omega)
      · rw [if_neg hp]
        have ih := bsF_inv p f i ((i + j) / 2) (by omega) (by omega)
        have hb := bsF_le p f i ((i + j) / 2) (by omega)
        refine ⟨ih.1, fun _ => ?_⟩
        by_cases c2 : bsF p f i ((i + j) / 2) = (i + j) / 2
        · rw [c2]; simpa using hp
        · exact ih.2 (by omega)
    · rw [if_neg c]
      exact ⟨fun h => by omega, fun h => by omega⟩
theorem bsL_inv (p : Nat → Bool) {i j : Nat} (h : i ≤ j) : (i < bsL p i j → p (bsL p i j - 1) = true) ∧ (bsL p i j < j → p (bsL p i j) = false) := bsF_inv p _ i j h (by omega)
theorem insF_srt {α : Type} {less : α → α → Bool} (ho : Ordr less) (a t : Nat) : ∀ (j : Nat) (l : List α), a ≤ j → j < t → t ≤ l.length → (∀ p q, a ≤ p → p < q → q < t → p ≠ j → q ≠ j → lessAt less l q p = false) → (∀ q, j < q → q < t → lessAt less l q j = false) →
    Srt less (insF less a j l) a t ∧ Wth l (insF less a j l) a t
  | 0, l, h1, h2, h3, h4, h5 => ⟨fun p q g1 g2 g3 => by
      by_cases c : p = 0
      · subst c; exact h5 q g2 g3
      · exact h4 p q g1 g2 g3 c (by omega), Wth.refl _ _ _⟩
  | j + 1, l, h1, h2, h3, h4, h5 => by
    unfold insF
    by_cases c : (decide (a < j + 1) && lessAt less l (j + 1) j) = true
    · rw [if_pos c]
      rw [Bool.and_eq_true] at c
      have ca : a < j + 1 := of_decide_eq_true c.1
      have hg := fun p => swapL_get (l := l) (i := j + 1) (j := j) (by omega) (by omega) p
      have hj : (swapL l (j + 1) j)[j]? = l[j + 1]? := by rw [hg, if_pos rfl]
      have hj1 : (swapL l (j + 1) j)[j + 1]? = l[j]? := by rw [hg, if_neg (by omega), if_pos rfl]
      have hr : ∀ p, p ≠ j → p ≠ j + 1 → (swapL l (j + 1) j)[p]? = l[p]? := fun p e1 e2 => by rw [hg, if_neg e1, if_neg e2]
      have ih := insF_srt ho a t j (swapL l (j + 1) j) (by omega) (by omega) (by rw [swapL_len]; exact h3) (fun p q g1 g2 g3 g4 g5 => by
        by_cases e1 : p = j + 1
        · subst e1
          rw [lessAt_congr hj1 (hr q (by omega) (by omega))]
          exact h4 j q (by omega) (by omega) g3 (by omega) (by omega)
        · by_cases e2 : q = j + 1
          · subst e2
            rw [lessAt_congr (hr p (by omega) (by omega)) hj1]
            exact h4 p j g1 (by omega) (by omega) (by omega) (by omega)
          · rw [lessAt_congr (hr p g4 e1) (hr q g5 e2)]
            exact h4 p q g1 g2 g3 e1 e2) (fun q g1 g2 => by
        by_cases e : q = j + 1
        · subst e
          rw [lessAt_congr hj hj1]
          exact ho.as c.2
        · rw [lessAt_congr hj (hr q (by omega) e)]
          exact h5 q (by omega) g2)
      refine ⟨ih.1, Wth.trans ⟨fun p hp => hr p (by omega) (by omega), fun p g1 g2 => ?_⟩ ih.2⟩
      by_cases e1 : p = j
      · subst e1; exact ⟨p + 1, by omega, by omega, hj⟩
      · by_cases e2 : p = j + 1
        · subst e2; exact ⟨j, by omega, by omega, hj1⟩
        · exact ⟨p, g1, g2, hr p e1 e2⟩
    · rw [if_neg c]
      refine ⟨fun p q g1 g2 g3 => ?_, Wth.refl _ _ _⟩
      by_cases e1 : p = j + 1
      · subst e1; exact h5 q g2 g3
      · by_cases e2 : q = j + 1
        · subst e2
          have cf : lessAt less l (j + 1) j = false := by
            rw [decide_eq_true (show a < j + 1 by omega), Bool.true_and] at c
            simpa using c
          by_cases e3 : p = j
          · subst e3; exact cf
          · exact ho.trn (q := j) (by omega) (h4 p j g1 (by omega) (by omega) e1 (by omega)) cf
        · exact h4 p q g1 g2 g3 e1 e2
theorem insFor_srt {α : Type} {less : α → α → Bool} (ho : Ordr less) (a : Nat) (l : List α) : ∀ n, a + 1 + n ≤ l.length → Srt less (insFor less a l n) a (a + 1 + n) ∧ Wth l (insFor less a l n) a (a + 1 + n)
  | 0, _ => ⟨fun p q g1 g2 g3 => by omega, Wth.refl _ _ _⟩
  | n + 1, h => by
    have ih := insFor_srt ho a l n (by omega)
    have := insF_srt ho a (a + 1 + (n + 1)) (a + 1 + n) (insFor less a l n) (by omega) (by omega) (by rw [insFor_len]; exact h) (fun p q g1 g2 g3 g4 g5 => ih.1 p q g1 g2 (by omega)) (fun q g1 g2 => by omega)
    exact ⟨this.1, (ih.2.wide (Nat.le_refl _) (by omega)).trans this.2⟩
theorem insL_srt {α : Type} {less : α → α → Bool} (ho : Ordr less) (l : List α) {a b : Nat} (hab : a ≤ b) (hb : b ≤ l.length) : Srt less (insL less l a b) a b ∧ Wth l (insL less l a b) a b := by
  by_cases c : a = b
  · subst c
    unfold insL
    rw [show a - (a + 1) = 0 by omega]
    exact ⟨fun p q g1 g2 g3 => by omega, Wth.refl _ _ _⟩
  · have := insFor_srt ho a l (b - (a + 1)) (by omega)
    rw [show a + 1 + (b - (a + 1)) = b by omega] at this
    exact this
end Go.Q
