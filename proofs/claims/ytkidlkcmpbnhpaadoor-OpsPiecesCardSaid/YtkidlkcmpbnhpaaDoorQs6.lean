/-
  The mirrors of slices' stable sort do sort (second part). Conditions: none beyond a total order.
-/
import Derived.Test.YtkidlkcmpbnhpaaDoorQs5
namespace Go.Q
open Go
variable {α : Type} {less : α → α → Bool}
theorem up_srt (ho : Ordr less) {l : List α} {a b : Nat} (h1 : a + 1 < b) (hb : b ≤ l.length) (hs : Srt less l (a + 1) b) :
    Srt less (upL l a (bsL (fun h => lessAt less l h a) (a + 1) b - 1 - a)) a b ∧ Wth l (upL l a (bsL (fun h => lessAt less l h a) (a + 1) b - 1 - a)) a b := by
  obtain ⟨i, hi⟩ : ∃ i, i = bsL (fun h => lessAt less l h a) (a + 1) b := ⟨_, rfl⟩
  have hle := bsL_le (fun h => lessAt less l h a) (i := a + 1) (j := b) (by omega)
  have hin := bsL_inv (fun h => lessAt less l h a) (i := a + 1) (j := b) (by omega)
  rw [← hi] at hle hin ⊢
  have hg := fun p => upL_get l a (i - 1 - a) p (by omega)
  have ga : ∀ p, a ≤ p → p < i - 1 → (upL l a (i - 1 - a))[p]? = l[p + 1]? := fun p e1 e2 => by rw [hg, if_pos (by omega)]
  have gb : (upL l a (i - 1 - a))[i - 1]? = l[a]? := by rw [hg, if_neg (by omega), if_pos (by omega)]
  have gc : ∀ p, p < a ∨ i ≤ p → (upL l a (i - 1 - a))[p]? = l[p]? := fun p e => by rw [hg, if_neg (by omega), if_neg (by omega)]
  refine ⟨fun p q g1 g2 g3 => ?_, fun p hp => gc p (by omega), fun p g1 g2 => ?_⟩
  · rcases Nat.lt_trichotomy p (i - 1) with c | c | c
    · rcases Nat.lt_trichotomy q (i - 1) with d | d | d
      · rw [lessAt_congr (ga p g1 c) (ga q (by omega) d)]
        exact hs _ _ (by omega) (by omega) (by omega)
      · subst d
        rw [lessAt_congr (ga p g1 c) gb]
        have h2 := ho.as (hin.1 (by omega))
        by_cases e : p + 1 = i - 1
        · rw [e]; exact h2
        · exact ho.trn (q := i - 1) (by omega) (hs (p + 1) (i - 1) (by omega) (by omega) (by omega)) h2
      · rw [lessAt_congr (ga p g1 c) (gc q (by omega))]
        exact hs _ _ (by omega) (by omega) (by omega)
    · subst c
      rw [lessAt_congr gb (gc q (by omega))]
      have h2 : lessAt less l i a = false := hin.2 (by omega)
      by_cases e : i = q
      · rw [← e]; exact h2
      · exact ho.trn (q := i) (by omega) h2 (hs i q (by omega) (by omega) (by omega))
    · rw [lessAt_congr (gc p (by omega)) (gc q (by omega))]
      exact hs _ _ (by omega) (by omega) (by omega)
  · rcases Nat.lt_trichotomy p (i - 1) with c | c | c
    · exact ⟨p + 1, by omega, by omega, ga p g1 c⟩
    · subst c; exact ⟨a, by omega, by omega, gb⟩
    · exact ⟨p, g1, g2, gc p (by omega)⟩
theorem down_srt (ho : Ordr less) {l : List α} {a m : Nat} (h1 : a < m) (hb : m < l.length) (hs : Srt less l a m) :
    Srt less (downL l m (m - bsL (fun h => !lessAt less l m h) a m)) a (m + 1) ∧ Wth l (downL l m (m - bsL (fun h => !lessAt less l m h) a m)) a (m + 1) := by
  obtain ⟨i, hi⟩ : ∃ i, i = bsL (fun h => !lessAt less l m h) a m := ⟨_, rfl⟩
  have hle := bsL_le (fun h => !lessAt less l m h) (i := a) (j := m) (by omega)
  have hin := bsL_inv (fun h => !lessAt less l m h) (i := a) (j := m) (by omega)
  rw [← hi] at hle hin ⊢
  have hg := fun p => downL_get l m (m - i) p (by omega) hb
  have ga : ∀ p, i < p → p ≤ m → (downL l m (m - i))[p]? = l[p - 1]? := fun p e1 e2 => by rw [hg, if_pos (by omega)]
  have gb : (downL l m (m - i))[i]? = l[m]? := by rw [hg, if_neg (by omega), if_pos (by omega)]
  have gc : ∀ p, p < i ∨ m < p → (downL l m (m - i))[p]? = l[p]? := fun p e => by rw [hg, if_neg (by omega), if_neg (by omega)]
  refine ⟨fun p q g1 g2 g3 => ?_, fun p hp => gc p (by omega), fun p g1 g2 => ?_⟩
  · rcases Nat.lt_trichotomy q i with c | c | c
    · rw [lessAt_congr (gc p (by omega)) (gc q (by omega))]
      exact hs _ _ (by omega) (by omega) (by omega)
    · subst c
      rw [lessAt_congr (gc p (by omega)) gb]
      have h2 : lessAt less l m (q - 1) = false := by have := hin.1 (by omega); simpa using this
      by_cases e : p = q - 1
      · rw [e]; exact h2
      · exact ho.trn (q := q - 1) (by omega) (hs p (q - 1) (by omega) (by omega) (by omega)) h2
    · rcases Nat.lt_trichotomy p i with d | d | d
      · rw [lessAt_congr (gc p (by omega)) (ga q c (by omega))]
        exact hs _ _ (by omega) (by omega) (by omega)
      · subst d
        rw [lessAt_congr gb (ga q c (by omega))]
        have h2 : lessAt less l m p = true := by have := hin.2 (by omega); simpa using this
        have h3 := ho.as h2
        by_cases e : p = q - 1
        · rw [← e]; exact h3
        · exact ho.trn (q := p) (by omega) h3 (hs p (q - 1) (by omega) (by omega) (by omega))
      · rw [lessAt_congr (ga p d (by omega)) (ga q c (by omega))]
        exact hs _ _ (by omega) (by omega) (by omega)
  · rcases Nat.lt_trichotomy p i with c | c | c
    · exact ⟨p, g1, g2, gc p (by omega)⟩
    · subst c; exact ⟨m, by omega, by omega, gb⟩
    · exact ⟨p - 1, by omega, by omega, ga p c (by omega)⟩
theorem symF_srt (ho : Ordr less) : ∀ (f : Nat) (l : List α) (a m b : Nat), b - a ≤ f → a < m → m < b → b ≤ l.length → Srt less l a m → Srt less l m b →
    Srt less (symF less f l a m b) a b ∧ Wth l (symF less f l a m b) a b
  | 0, l, a, m, b, h, _, _, _, _, _ => by omega
  | f + 1, l, a, m, b, hf, ham, hmb, hb, sA, sB => by
    unfold symF
    by_cases c1 : m - a = 1
    · rw [if_pos c1]
      obtain rfl : m = a + 1 := by omega
      exact up_srt ho (by omega) hb sB
    rw [if_neg c1]
    by_cases c2 : b - m = 1
    · rw [if_pos c2]
      obtain rfl : b = m + 1 := by omega
      exact down_srt ho ham hb sA
    rw [if_neg c2]
    obtain ⟨d, hd⟩ : ∃ d, d = (a + b) / 2 := ⟨_, rfl⟩
    obtain ⟨s, hs⟩ : ∃ s, s = symStart less l a m b := ⟨_, rfl⟩
    rw [← hs, ← hd]
    dsimp only
    unfold symStart at hs
    rw [← hd] at hs
    obtain ⟨lo, hlo⟩ : ∃ lo, lo = if d < m then d + m - b else a := ⟨_, rfl⟩
    obtain ⟨hi, hhi⟩ : ∃ hi, hi = if d < m then d else m := ⟨_, rfl⟩
    rw [← hlo, ← hhi] at hs
    have hda : a < d := by omega
    have hdb : d < b := by omega
    have hlo' : lo ≤ hi ∧ a ≤ lo ∧ hi ≤ m ∧ hi ≤ d ∧ (lo = a ∨ lo + b = d + m) ∧ (hi = d ∨ hi = m) ∧ d + m ≤ b + lo := by
      rw [hlo, hhi]
      split <;> omega
    obtain ⟨k1, k2, k3, k4, k5, k6, k7⟩ := hlo'
    have hle := bsL_le (fun c => !lessAt less l (d + m - 1 - c) c) k1
    have hin := bsL_inv (fun c => !lessAt less l (d + m - 1 - c) c) k1
    rw [← hs] at hle hin
    obtain ⟨e, he⟩ : ∃ e, e = d + m - s := ⟨_, rfl⟩
    rw [← he]
    have hL1 : ∃ l1, l1 = (if s < m ∧ m < e then rotL l s m e else l) ∧ l1.length = l.length ∧ (∀ p, s ≤ p → p < d → l1[p]? = l[p + (m - s)]?) ∧ (∀ p, d ≤ p → p < e → l1[p]? = l[p - (d - s)]?) ∧ (∀ p, p < s ∨ e ≤ p → l1[p]? = l[p]?) := by
      refine ⟨_, rfl, ?_, fun p g1 g2 => ?_, fun p g1 g2 => ?_, fun p g => ?_⟩
      · split
        · exact rotL_len _ _ _ _
        · rfl
      · split
        · rw [rotL_get l p (by omega) (by omega) (by omega), if_pos (by omega)]
        · rw [show p + (m - s) = p by omega]
      · split
        · rw [rotL_get l p (by omega) (by omega) (by omega), if_neg (by omega), if_pos (by omega), show e - m = d - s by omega]
        · rw [show p - (d - s) = p by omega]
      · split
        · rw [rotL_get l p (by omega) (by omega) (by omega), if_neg (by omega), if_neg (by omega)]
        · rfl
    obtain ⟨l1, hl1, hn1, q1, q2, q3⟩ := hL1
    rw [← hl1]
    have w1 : Wth l l1 a b := ⟨fun p g => q3 p (by omega), fun p g1 g2 => by
      by_cases x1 : p < s ∨ e ≤ p
      · exact ⟨p, g1, g2, q3 p x1⟩
      · by_cases x2 : p < d
        · exact ⟨p + (m - s), by omega, by omega, q1 p (by omega) x2⟩
        · exact ⟨p - (d - s), by omega, by omega, q2 p (by omega) (by omega)⟩⟩
    have sa : Srt less l1 a s := fun p q g1 g2 g3 => by rw [lessAt_congr (q3 p (by omega)) (q3 q (by omega))]; exact sA p q g1 g2 (by omega)
    have sb : Srt less l1 s d := fun p q g1 g2 g3 => by rw [lessAt_congr (q1 p (by omega) (by omega)) (q1 q (by omega) (by omega))]; exact sB _ _ (by omega) (by omega) (by omega)
    have sc : Srt less l1 d e := fun p q g1 g2 g3 => by rw [lessAt_congr (q2 p (by omega) (by omega)) (q2 q (by omega) (by omega))]; exact sA _ _ (by omega) (by omega) (by omega)
    have sd : Srt less l1 e b := fun p q g1 g2 g3 => by rw [lessAt_congr (q3 p (by omega)) (q3 q (by omega))]; exact sB p q (by omega) g2 g3
    have x1 : a < s → e < b → lessAt less l e (s - 1) = false := fun y1 y2 => by
      have := hin.1 (by omega)
      rw [show d + m - 1 - (s - 1) = e by omega] at this
      simpa using this
    have x2 : m < e → s < m → lessAt less l s (e - 1) = false := fun y1 y2 => by
      have := hin.2 (by omega)
      rw [show d + m - 1 - s = e - 1 by omega] at this
      exact ho.as (by simpa using this)
    have cross : ∀ p q, a ≤ p → p < d → d ≤ q → q < b → lessAt less l1 q p = false := fun p q g1 g2 g3 g4 => by
      by_cases y1 : p < s
      · by_cases y2 : q < e
        · rw [lessAt_congr (q3 p (by omega)) (q2 q g3 y2)]
          exact sA _ _ g1 (by omega) (by omega)
        · rw [lessAt_congr (q3 p (by omega)) (q3 q (by omega))]
          have z1 : lessAt less l e p = false := by
            by_cases y3 : p = s - 1
            · rw [y3]; exact x1 (by omega) (by omega)
            · exact ho.trn (q := s - 1) (by omega) (sA p (s - 1) g1 (by omega) (by omega)) (x1 (by omega) (by omega))
          by_cases y4 : q = e
          · rw [y4]; exact z1
          · exact ho.trn (q := e) (by omega) z1 (sB e q (by omega) (by omega) g4)
      · by_cases y2 : q < e
        · rw [lessAt_congr (q1 p (by omega) g2) (q2 q g3 y2)]
          have z1 : lessAt less l s (p + (m - s)) = false := by
            by_cases y3 : p + (m - s) = e - 1
            · rw [y3]; exact x2 (by omega) (by omega)
            · exact ho.trn (q := e - 1) (by omega) (sB _ (e - 1) (by omega) (by omega) (by omega)) (x2 (by omega) (by omega))
          by_cases y4 : q - (d - s) = s
          · rw [y4]; exact z1
          · exact ho.trn (q := s) (by omega) z1 (sA s _ (by omega) (by omega) (by omega))
        · rw [lessAt_congr (q1 p (by omega) g2) (q3 q (by omega))]
          exact sB _ _ (by omega) (by omega) (by omega)
    obtain ⟨l2, hl2⟩ : ∃ l2, l2 = if a < s ∧ s < d then symF less f l1 a s d else l1 := ⟨_, rfl⟩
    rw [← hl2]
    have h2 : l2.length = l.length ∧ Srt less l2 a d ∧ Wth l1 l2 a d := by
      rw [hl2]
      split
      · rename_i y
        have := symF_srt ho f l1 a s d (by omega) y.1 y.2 (by omega) sa sb
        exact ⟨by rw [symF_len]; exact hn1, this⟩
      · rename_i y
        refine ⟨hn1, ?_, Wth.refl _ _ _⟩
        by_cases z : a < s
        · rw [show d = s by omega]; exact sa
        · rw [show a = s by omega]; exact sb
    obtain ⟨hn2, s2, w2⟩ := h2
    obtain ⟨l3, hl3⟩ : ∃ l3, l3 = if d < e ∧ e < b then symF less f l2 d e b else l2 := ⟨_, rfl⟩
    rw [← hl3]
    have h3 : Srt less l3 d b ∧ Wth l2 l3 d b := by
      rw [hl3]
      split
      · rename_i y
        exact symF_srt ho f l2 d e b (by omega) y.1 y.2 (by omega) (sc.out w2 (.inr (Nat.le_refl _))) (sd.out w2 (.inr (by omega)))
      · rename_i y
        refine ⟨?_, Wth.refl _ _ _⟩
        by_cases z : d < e
        · have : e = b := by omega
          rw [← this]; exact sc.out w2 (.inr (Nat.le_refl _))
        · have : d = e := by omega
          rw [this]; exact sd.out w2 (.inr (by omega))
    obtain ⟨s3, w3⟩ := h3
    refine ⟨fun p q g1 g2 g3 => ?_, w1.trans ((w2.wide (Nat.le_refl _) (by omega)).trans (w3.wide (by omega) (Nat.le_refl _)))⟩
    by_cases y1 : q < d
    · exact (s2.out w3 (.inl (Nat.le_refl _))) p q g1 g2 y1
    · by_cases y2 : d ≤ p
      · exact s3 p q y2 g2 g3
      · obtain ⟨p', p1, p2, ep⟩ := w2.2 p g1 (by omega)
        obtain ⟨q', r1, r2, eq⟩ := w3.2 q (by omega) g3
        rw [lessAt_congr ((w3.1 p (.inl (by omega))).trans ep) (eq.trans (w2.1 q' (.inr r1)))]
        exact cross p' q' p1 p2 r1 r2
theorem symL_srt (ho : Ordr less) (l : List α) {a m b : Nat} (ham : a < m) (hmb : m < b) (hb : b ≤ l.length) (sA : Srt less l a m) (sB : Srt less l m b) :
    Srt less (symL less l a m b) a b ∧ Wth l (symL less l a m b) a b := symF_srt ho _ l a m b (Nat.le_refl _) ham hmb hb sA sB
theorem blocksF_srt (ho : Ordr less) (n : Nat) : ∀ (f : Nat) (l : List α) (a : Nat), l.length = n → a ≤ n → n - a < f →
    (∀ j, Srt less (blocksF less n f l a) (a + j * 20) (min (a + j * 20 + 20) n)) ∧ Wth l (blocksF less n f l a) a n
  | 0, _, _, _, _, h => by omega
  | f + 1, l, a, hn, ha, hf => by
    unfold blocksF
    by_cases c : a + 20 ≤ n
    · rw [if_pos c]
      have hi := insL_srt ho l (a := a) (b := a + 20) (by omega) (by omega)
      have ih := blocksF_srt ho n f (insL less l a (a + 20)) (a + 20) (by rw [insL_len]; exact hn) c (by omega)
      refine ⟨fun j => ?_, (hi.2.wide (Nat.le_refl _) c).trans (ih.2.wide (by omega) (Nat.le_refl _))⟩
      cases j with
      | zero => exact (hi.1.out ih.2 (.inl (Nat.le_refl _))).part (by omega) (by omega)
      | succ j => exact (ih.1 j).part (by omega) (by omega)
    · rw [if_neg c]
      have hi := insL_srt ho l (a := a) (b := n) ha (by omega)
      exact ⟨fun j => hi.1.part (by omega) (by omega), hi.2⟩
theorem roundF_srt (ho : Ordr less) (n bs : Nat) (hbs : 0 < bs) : ∀ (f : Nat) (l : List α) (a : Nat), l.length = n → a ≤ n → n - a < f → (∀ j, Srt less l (a + j * bs) (min (a + j * bs + bs) n)) →
    (∀ j, Srt less (roundF less n bs f l a) (a + j * (2 * bs)) (min (a + j * (2 * bs) + 2 * bs) n)) ∧ Wth l (roundF less n bs f l a) a n
  | 0, _, _, _, _, h, _ => by omega
  | f + 1, l, a, hn, ha, hf, hs => by
    unfold roundF
    have s0 := hs 0
    have s1 := hs 1
    rw [Nat.zero_mul] at s0
    rw [Nat.one_mul] at s1
    by_cases c : a + 2 * bs ≤ n
    · rw [if_pos c]
      have hm := symL_srt ho l (a := a) (m := a + bs) (b := a + 2 * bs) (by omega) (by omega) (by omega) (s0.part (by omega) (by omega)) (s1.part (by omega) (by omega))
      have ih := roundF_srt ho n bs hbs f (symL less l a (a + bs) (a + 2 * bs)) (a + 2 * bs) (by rw [symL_len]; exact hn) c (by omega) (fun j => by
        refine ((hs (j + 2)).out hm.2 (.inr (by rw [Nat.add_mul]; omega))).part (by rw [Nat.add_mul]; omega) (by rw [Nat.add_mul]; omega))
      refine ⟨fun j => ?_, (hm.2.wide (Nat.le_refl _) c).trans (ih.2.wide (by omega) (Nat.le_refl _))⟩
      cases j with
      | zero => exact (hm.1.out ih.2 (.inl (Nat.le_refl _))).part (by omega) (by omega)
      | succ j => exact (ih.1 j).part (by rw [Nat.add_mul]; omega) (by rw [Nat.add_mul]; omega)
    · rw [if_neg c]
      by_cases d : a + bs < n
      · rw [if_pos d]
        have hm := symL_srt ho l (a := a) (m := a + bs) (b := n) (by omega) (by omega) (by omega) (s0.part (by omega) (by omega)) (s1.part (by omega) (by omega))
        exact ⟨fun j => hm.1.part (by omega) (by omega), hm.2⟩
      · rw [if_neg d]
        exact ⟨fun j => s0.part (by omega) (by omega), Wth.refl _ _ _⟩
theorem roundsF_srt (ho : Ordr less) (n : Nat) : ∀ (f : Nat) (l : List α) (bs : Nat), l.length = n → 0 < bs → n - bs < f → (∀ j, Srt less l (j * bs) (min (j * bs + bs) n)) → Srt less (roundsF less n f l bs) 0 n
  | 0, _, _, _, _, h, _ => by omega
  | f + 1, l, bs, hn, hbs, hf, hs => by
    unfold roundsF
    by_cases c : bs < n
    · rw [if_pos c]
      have := roundF_srt ho n bs hbs (n + 1) l 0 hn (Nat.zero_le _) (by omega) (fun j => by rw [Nat.zero_add]; exact hs j)
      refine roundsF_srt ho n f _ (2 * bs) (by rw [roundF_len]; exact hn) (by omega) (by omega) (fun j => ?_)
      have := this.1 j
      rw [Nat.zero_add] at this
      exact this
    · rw [if_neg c]
      have := hs 0
      rw [Nat.zero_mul] at this
      exact this.part (by omega) (by omega)
theorem stableL_srt (ho : Ordr less) (l : List α) : Srt less (stableL less l) 0 l.length := by
  unfold stableL
  have := blocksF_srt ho l.length (l.length + 1) l 0 rfl (Nat.zero_le _) (by omega)
  refine roundsF_srt ho l.length _ _ 20 (blocksF_len _ _ _ _ _) (by omega) (by omega) (fun j => ?_)
  have h := this.1 j
  rw [Nat.zero_add] at h
  exact h
/-- A list that holds the values of a strictly rising one is sorted to that. -/
theorem stableL_eq (ho : Ordr less) {l s : List α} (hp : l.Perm s) (hs : s.Pairwise fun x y => less x y = true) : stableL less l = s := by
  have h1 : (stableL less l).Perm s := (stableL_perm less l).trans hp
  have hlen : (stableL less l).length = l.length := (stableL_perm less l).length_eq
  refine List.Perm.eq_of_pairwise (le := fun x y => less y x = false) ?_ ?_ (hs.imp fun {x y} h => ho.asym x y h) h1
  · intro x y hx hy e1 e2
    have hx' := h1.subset hx
    obtain ⟨i, hi, rfl⟩ := List.mem_iff_getElem.1 hx'
    obtain ⟨j, hj, rfl⟩ := List.mem_iff_getElem.1 hy
    rw [List.pairwise_iff_getElem] at hs
    rcases Nat.lt_trichotomy i j with c | c | c
    · rw [hs i j hi hj c] at e2; cases e2
    · subst c; rfl
    · rw [hs j i hj hi c] at e1; cases e1
  · rw [List.pairwise_iff_getElem]
    intro i j hi hj hij
    have := stableL_srt ho l i j (Nat.zero_le _) hij (by omega)
    rw [lessAt_of (List.getElem?_eq_getElem hj) (List.getElem?_eq_getElem hi)] at this
    exact this
end Go.Q
