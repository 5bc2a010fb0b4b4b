/-
  Plain laws of texts: runes and their bytes. Conditions: none.
-/
import Derived.Test.YtkidlkcmpbnhpaaDoorQt3
namespace Go.Q
open Go Go.Proofs
set_option maxRecDepth 100000
def encR (r : Nat) : List UInt8 := (Utf8.encode (r : Int)).data.toList
def okR (r : Nat) : Prop := r < 55296 ∨ (57344 ≤ r ∧ r ≤ 1114111)
theorem valid_ok {r : Nat} (h : okR r) : Utf8.valid (r : Int) = true := by
  unfold okR at h
  unfold Utf8.valid
  simp only [Bool.or_eq_true, Bool.and_eq_true, decide_eq_true_eq]
  omega
theorem encR_1 {r : Nat} (h : r < 128) : encR r = [UInt8.ofNat r] := by
  unfold encR Utf8.encode
  rw [valid_ok (.inl (by omega))]
  simp [h]
theorem encR_2 {r : Nat} (h1 : 128 ≤ r) (h : r < 2048) : encR r = [UInt8.ofNat (192 + r / 64), UInt8.ofNat (128 + r % 64)] := by
  unfold encR Utf8.encode
  rw [valid_ok (.inl (by omega))]
  simp [show ¬ r < 128 by omega, h]
theorem encR_3 {r : Nat} (hok : okR r) (h1 : 2048 ≤ r) (h : r < 65536) : encR r = [UInt8.ofNat (224 + r / 4096), UInt8.ofNat (128 + r / 64 % 64), UInt8.ofNat (128 + r % 64)] := by
  unfold encR Utf8.encode
  rw [valid_ok hok]
  simp [show ¬ r < 128 by omega, show ¬ r < 2048 by omega, h]
theorem encR_4 {r : Nat} (hok : okR r) (h1 : 65536 ≤ r) : encR r = [UInt8.ofNat (240 + r / 262144), UInt8.ofNat (128 + r / 4096 % 64), UInt8.ofNat (128 + r / 64 % 64), UInt8.ofNat (128 + r % 64)] := by
  unfold encR Utf8.encode
  rw [valid_ok hok]
  simp [show ¬ r < 128 by omega, show ¬ r < 2048 by omega, show ¬ r < 65536 by omega]
theorem toNat8 {n : Nat} (h : n < 256) : (UInt8.ofNat n).toNat = n := by simp [UInt8.toNat_ofNat']; omega
set_option maxHeartbeats 1000000 in
theorem dec_enc {r : Nat} (hok : okR r) (t : List UInt8) : Lib.decodeL (encR r ++ t) = (r, (encR r).length) ∧ ¬ ((Lib.decodeL (encR r ++ t)).1 = 65533 ∧ (Lib.decodeL (encR r ++ t)).2 = 1) ∧ 1 ≤ (encR r).length := by
  have hr : r ≤ 1114111 := by unfold okR at hok; omega
  rcases Nat.lt_or_ge r 128 with h | h
  · rw [encR_1 h, Lib.decodeL_N]
    have e : (UInt8.ofNat r).toNat = r := toNat8 (by omega)
    simp only [List.singleton_append, List.getD_cons_zero, e]
    rw [Lib.decodeN_ascii _ _ _ _ _ h]
    simp; omega
  rcases Nat.lt_or_ge r 2048 with h2 | h2
  · rw [encR_2 h h2, Lib.decodeL_N]
    have e0 : (UInt8.ofNat (192 + r / 64)).toNat = 192 + r / 64 := toNat8 (by omega)
    have e1 : (UInt8.ofNat (128 + r % 64)).toNat = 128 + r % 64 := toNat8 (by omega)
    simp only [List.cons_append, List.nil_append, List.getD_cons_zero, List.getD_cons_succ, e0, e1, List.length_cons]
    have : Lib.decodeN (t.length + 1 + 1) (192 + r / 64) (128 + r % 64) (t.getD 0 0).toNat (t.getD 1 0).toNat = (r, 2) := by
      unfold Lib.decodeN
      rw [if_neg (by omega), if_pos (by omega), if_pos (by omega)]
      apply Prod.ext <;> simp only <;> omega
    rw [this]
    simp
  rcases Nat.lt_or_ge r 65536 with h3 | h3
  · rw [encR_3 hok h2 h3, Lib.decodeL_N]
    have e0 : (UInt8.ofNat (224 + r / 4096)).toNat = 224 + r / 4096 := toNat8 (by omega)
    have e1 : (UInt8.ofNat (128 + r / 64 % 64)).toNat = 128 + r / 64 % 64 := toNat8 (by omega)
    have e2 : (UInt8.ofNat (128 + r % 64)).toNat = 128 + r % 64 := toNat8 (by omega)
    simp only [List.cons_append, List.nil_append, List.getD_cons_zero, List.getD_cons_succ, e0, e1, e2, List.length_cons]
    have : Lib.decodeN (t.length + 1 + 1 + 1) (224 + r / 4096) (128 + r / 64 % 64) (128 + r % 64) (t.getD 0 0).toNat = (r, 3) := by
      unfold okR at hok
      unfold Lib.decodeN
      rw [if_neg (by omega), if_neg (by omega), if_pos (by omega), if_pos (by omega)]
      apply Prod.ext <;> simp only <;> omega
    rw [this]
    simp
  · rw [encR_4 hok h3, Lib.decodeL_N]
    have e0 : (UInt8.ofNat (240 + r / 262144)).toNat = 240 + r / 262144 := toNat8 (by omega)
    have e3 : (UInt8.ofNat (128 + r / 4096 % 64)).toNat = 128 + r / 4096 % 64 := toNat8 (by omega)
    have e1 : (UInt8.ofNat (128 + r / 64 % 64)).toNat = 128 + r / 64 % 64 := toNat8 (by omega)
    have e2 : (UInt8.ofNat (128 + r % 64)).toNat = 128 + r % 64 := toNat8 (by omega)
    simp only [List.cons_append, List.nil_append, List.getD_cons_zero, List.getD_cons_succ, e0, e1, e2, e3, List.length_cons]
    have : Lib.decodeN (t.length + 1 + 1 + 1 + 1) (240 + r / 262144) (128 + r / 4096 % 64) (128 + r / 64 % 64) (128 + r % 64) = (r, 4) := by
      unfold Lib.decodeN
      rw [if_neg (by omega), if_neg (by omega), if_neg (by omega), if_pos (by omega), if_pos (by omega)]
      apply Prod.ext <;> simp only <;> omega
    rw [this]
    simp
def encs (rs : List Nat) : List UInt8 := rs.flatMap encR
theorem encs_cons (r : Nat) (rs : List Nat) : encs (r :: rs) = encR r ++ encs rs := by simp [encs]
theorem encs_app (a b : List Nat) : encs (a ++ b) = encs a ++ encs b := by simp [encs]
theorem runes_encs : ∀ {rs : List Nat}, (∀ r ∈ rs, okR r) → runes (encs rs) = rs ∧ Lib.validD (encs rs) = true
  | [], _ => ⟨rfl, rfl⟩
  | r :: rs, h => by
    obtain ⟨h1, h2, h3⟩ := dec_enc (h r List.mem_cons_self) (encs rs)
    obtain ⟨i1, i2⟩ := runes_encs (rs := rs) fun x hx => h x (List.mem_cons_of_mem _ hx)
    have hne : encR r ++ encs rs ≠ [] := fun e => by have := congrArg List.length e; simp at this; rw [this.1] at h3; simp at h3
    rw [encs_cons, runes_step hne, Lib.validD_step _ hne, if_neg h2, h1]
    simp only [List.drop_left]
    exact ⟨by rw [i1], i2⟩
theorem encR_eq (l : List UInt8) (r : Nat) (h : okR r) : encR r = Lib.encodeRune (r : Int) := by
  have hr : r ≤ 1114111 := by unfold okR at h; omega
  have d1 : (r : Int) / 64 = ((r / 64 : Nat) : Int) := by omega
  have d2 : (r : Int) / 4096 = ((r / 4096 : Nat) : Int) := by omega
  have d3 : (r : Int) / 262144 = ((r / 262144 : Nat) : Int) := by omega
  have byte : ∀ (z : Int) (n : Nat), z = n → z.toNat.toUInt8 = UInt8.ofNat n := fun z n e => by subst e; rfl
  unfold Lib.encodeRune
  rcases Nat.lt_or_ge r 128 with h1 | h1
  · rw [encR_1 h1, Lib.encodeRuneZ_one (by omega) (by omega)]
    simp only [List.map_cons, List.map_nil]
    rw [byte _ r rfl]
  rcases Nat.lt_or_ge r 2048 with h2 | h2
  · rw [encR_2 h1 h2, Lib.encodeRuneZ_two (by omega) (by omega)]
    simp only [List.map_cons, List.map_nil]
    rw [byte _ (192 + r / 64) (by omega), byte _ (128 + r % 64) (by omega)]
  rcases Nat.lt_or_ge r 65536 with h3 | h3
  · rw [encR_3 h h2 h3, Lib.encodeRuneZ_three (by unfold okR at h; omega)]
    simp only [List.map_cons, List.map_nil]
    rw [byte _ (224 + r / 4096) (by omega), byte _ (128 + r / 64 % 64) (by omega), byte _ (128 + r % 64) (by omega)]
  · rw [encR_4 h h3, Lib.encodeRuneZ_four (by omega) (by omega)]
    simp only [List.map_cons, List.map_nil]
    rw [byte _ (240 + r / 262144) (by omega), byte _ (128 + r / 4096 % 64) (by omega), byte _ (128 + r / 64 % 64) (by omega), byte _ (128 + r % 64) (by omega)]
theorem dec_ok {l : List UInt8} (hne : l ≠ []) (hb : ¬ ((Lib.decodeL l).1 = 65533 ∧ (Lib.decodeL l).2 = 1)) : okR (Lib.decodeL l).1 := by
  rw [Lib.decodeL_N] at hb ⊢
  have h0 := (l.getD 0 0).toNat_lt
  unfold okR
  unfold Lib.decodeN at hb ⊢
  repeat' split
  all_goals first | (simp only; omega) | (exfalso; simp_all; done)
theorem encs_runes : ∀ (n : Nat) (l : List UInt8), l.length ≤ n → Lib.validD l = true → encs (runes l) = l ∧ ∀ r ∈ runes l, okR r
  | _, [], _, _ => ⟨rfl, fun r h => by simp [runes, runesF] at h⟩
  | 0, _ :: _, h, _ => by simp at h
  | n + 1, b :: t, h, hv => by
    have hne : b :: t ≠ [] := by simp
    rw [Lib.validD_step _ hne] at hv
    have hp := dec_pos hne
    by_cases hb : (Lib.decodeL (b :: t)).1 = 65533 ∧ (Lib.decodeL (b :: t)).2 = 1
    · rw [if_pos hb] at hv; cases hv
    · rw [if_neg hb] at hv
      obtain ⟨i1, i2⟩ := encs_runes n _ (by simp at h ⊢; omega) hv
      have hok := dec_ok hne hb
      rw [runes_step hne, encs_cons, i1, encR_eq (b :: t) _ hok, Lib.encode_decode _ hne hb]
      exact ⟨List.take_append_drop _ _, fun r hr => by
        rcases List.mem_cons.1 hr with rfl | hr
        · exact hok
        · exact i2 r hr⟩
theorem text_encs {l : List UInt8} (h : Lib.validD l = true) : encs (runes l) = l := (encs_runes _ l (Nat.le_refl _) h).1
theorem text_ok {l : List UInt8} (h : Lib.validD l = true) : ∀ r ∈ runes l, okR r := (encs_runes _ l (Nat.le_refl _) h).2
theorem countFrom_runes (s : ByteArray) : ∀ (fuel pos : Nat), s.size ≤ pos + fuel → Lib.runeCountFrom s fuel pos = (runes (s.data.toList.drop pos)).length
  | 0, pos, h => by
    rw [List.drop_of_length_le (by rw [sz_list]; omega)]; rfl
  | fuel + 1, pos, h => by
    rcases Nat.lt_or_ge pos s.size with h1 | h1
    · have hne : s.data.toList.drop pos ≠ [] := fun e => by have := congrArg List.length e; rw [List.length_drop, sz_list] at this; simp at this; omega
      have hw := Lib.decode_width_pos s pos h1
      rw [runes_step hne, Lib.decodeL_drop, List.drop_drop]
      have ih := countFrom_runes s fuel (pos + (Utf8.decode s pos).2) (by omega)
      simp only [Lib.runeCountFrom, h1, if_true, List.length_cons]
      rw [ih]; omega
    · rw [List.drop_of_length_le (by rw [sz_list]; omega), Lib.runeCountFrom_end s _ _ (by omega)]; rfl
theorem count_runes (s : ByteArray) : Lib.runeCount s = (runes s.data.toList).length := by
  have := countFrom_runes s s.size 0 (by omega)
  simpa [Lib.runeCount] using this
end Go.Q
