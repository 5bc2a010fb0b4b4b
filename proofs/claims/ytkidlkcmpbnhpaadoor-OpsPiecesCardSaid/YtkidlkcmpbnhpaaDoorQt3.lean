/-
  quireref3.Runes, Check, Len: what they tell. Conditions: texts are shorter than 2^40 bytes.
-/
import Derived.Test.YtkidlkcmpbnhpaaDoorQt2
namespace Go.Q
open Go Go.Proofs Go.Proofs.Tryd
set_option maxRecDepth 100000
variable {L : Nat → Prop} {gd : Gd} {H : List Ck} {E : List Fact}
/-- A text's runes. -/
def runesF : Nat → List UInt8 → List Nat
  | 0, _ => []
  | _ + 1, [] => []
  | n + 1, l => (Lib.decodeL l).1 :: runesF n (l.drop (Lib.decodeL l).2)
def runes (l : List UInt8) : List Nat := runesF l.length l
theorem dec_pos {l : List UInt8} (h : l ≠ []) : 1 ≤ (Lib.decodeL l).2 := by
  have hl : 0 < l.length := List.length_pos_iff.2 h
  have := Lib.decode_width_pos ⟨l.toArray⟩ 0 (by simpa [ByteArray.size] using hl)
  exact this
theorem runesF_fuel : ∀ (n m : Nat) (l : List UInt8), l.length ≤ n → l.length ≤ m → runesF n l = runesF m l
  | 0, 0, _, _, _ => rfl
  | 0, m + 1, l, h, _ => by
    have : l = [] := List.length_eq_zero_iff.1 (by omega)
    subst this; rfl
  | n + 1, 0, l, _, h => by
    have : l = [] := List.length_eq_zero_iff.1 (by omega)
    subst this; rfl
  | n + 1, m + 1, [], _, _ => rfl
  | n + 1, m + 1, b :: r, h1, h2 => by
    have := dec_pos (l := b :: r) (by simp)
    simp only [runesF]
    rw [runesF_fuel n m _ (by simp at h1 ⊢; omega) (by simp at h2 ⊢; omega)]
theorem runes_step {l : List UInt8} (h : l ≠ []) : runes l = (Lib.decodeL l).1 :: runes (l.drop (Lib.decodeL l).2) := by
  cases l with
  | nil => exact absurd rfl h
  | cons b r =>
    have := dec_pos (l := b :: r) (by simp)
    unfold runes
    simp only [List.length_cons, runesF]
    rw [runesF_fuel _ ((b :: r).drop (Lib.decodeL (b :: r)).2).length _ (by simp; omega) (Nat.le_refl _)]
theorem runes_len : ∀ (n : Nat) (l : List UInt8), l.length ≤ n → (runes l).length ≤ l.length
  | 0, l, h => by
    have : l = [] := List.length_eq_zero_iff.1 (by omega)
    subst this; simp [runes, runesF]
  | n + 1, [], _ => by simp [runes, runesF]
  | n + 1, b :: r, h => by
    have := dec_pos (l := b :: r) (by simp)
    rw [runes_step (by simp)]
    have := runes_len n ((b :: r).drop (Lib.decodeL (b :: r)).2) (by simp at h ⊢; omega)
    simp only [List.length_cons, List.length_drop] at this ⊢
    omega
theorem runes_le (l : List UInt8) : (runes l).length ≤ l.length := runes_len _ l (Nat.le_refl _)
theorem nextL_bad {l : List UInt8} (hne : l ≠ []) : (nextL l).2 = 0 ↔ (Lib.decodeL l).1 = 65533 ∧ (Lib.decodeL l).2 = 1 := by
  have := dec_pos hne
  unfold nextL
  constructor
  · intro h
    by_cases e : Lib.decodeL l = (65533, 1)
    · rw [e]; exact ⟨rfl, rfl⟩
    · rw [if_neg e] at h; omega
  · rintro ⟨h1, h2⟩
    rw [if_pos (Prod.ext h1 h2)]
theorem nextL_ok {l : List UInt8} (h : (nextL l).2 ≠ 0) : nextL l = Lib.decodeL l := by
  unfold nextL at h ⊢
  split
  · rename_i e; rw [if_pos e] at h; exact absurd rfl h
  · rfl
theorem dec_lt (l : List UInt8) : (Lib.decodeL l).1 < 2 ^ 21 := by
  rw [Lib.decodeL_N]
  have h0 := (l.getD 0 0).toNat_lt
  unfold Lib.decodeN
  repeat' split
  all_goals first | omega | (simp only; omega)
abbrev isTextL (l : List UInt8) : Bool := Lib.validD l
def runeCells (rs : List Nat) : List Value := rs.map fun (r : Nat) => .int .i32 ((r : Nat) : Int)
theorem cat_data (a b : ByteArray) : (a ++ b).data.toList = a.data.toList ++ b.data.toList := by simp
theorem part_data (s : ByteArray) (a b : Nat) : (s.extract a b).data.toList = (s.data.toList.drop a).take (b - a) := by
  simp [ByteArray.data_extract, Array.toList_extract, List.extract_eq_take_drop]
theorem sz_list (s : ByteArray) : s.data.toList.length = s.size := by simp
theorem elem_i32 : ElemOk 70 := ⟨rfl, (fun h => by cases h), rfl, (fun h => by cases h)⟩
/-- What Runes leaves. -/
def RunesR (s : ByteArray) (r : Value) (C : List Ck) (E' : List Fact) : Prop := E' = [] ∧
  if isText s = true then ∃ v c, r = .tuple #[v, .bool true] ∧ C = [c] ∧ RowIs 21 v c (runes s.data.toList).length (runeCells (runes s.data.toList)) else r = .tuple #[.slice none 0 0, .bool false] ∧ C = []
theorem valid_step {l : List UInt8} (h : l ≠ []) : Lib.validD l = if (nextL l).2 = 0 then false else Lib.validD (l.drop (Lib.decodeL l).2) := by
  rw [Lib.validD_step l h]
  by_cases e : (Lib.decodeL l).1 = 65533 ∧ (Lib.decodeL l).2 = 1
  · rw [if_pos e, if_pos ((nextL_bad h).2 e)]
  · rw [if_neg e, if_neg (fun x => e ((nextL_bad h).1 x))]
theorem aRunes3 (s : ByteArray) (hs : s.size < 2 ^ 40) : Acts [] [] 48 [.string s] (RunesR s) :=
  Acts.of 5 func48 (by kernel_rfl) fun L => by
    refine LoopNode.mk (α := ByteArray × List Nat × Value × Ck) (fun x => [(0, .n (.v (.string x.1))), (2, .n (.v (.slice none 0 0))), (3, .n (.v (.bool false))), (4, .n (.v x.2.2.1))]) (fun x => [x.2.2.2]) (fun _ => [])
      (fun x => RowIs 21 x.2.2.1 x.2.2.2 x.2.1.length (runeCells x.2.1) ∧ x.2.1 ++ runes x.1.data.toList = runes s.data.toList ∧ Lib.validD x.1.data.toList = isText s ∧ x.1.size ≤ s.size) (fun x => x.1.size) (s, [], .slice none 0 0, .dead)
      ⟨RowIs.nil _, rfl, rfl, Nat.le_refl _⟩ (.inl ⟨⟨⟨rfl, trivial⟩, ⟨rfl, trivial⟩, ⟨rfl, trivial⟩, ⟨rfl, trivial⟩, trivial⟩, ⟨rfl, trivial⟩, fun _ _ h => h⟩) (fun _ => Nat.zero_le _) ?_
    rintro ⟨t, ds, v, c⟩ ⟨hr, hd, hv, hle⟩
    simp only at hr hd hv hle
    refine JoinNode.both (fun h1 => ?_) (fun h1 => ?_)
    · have h1' : (0 : Int) < t.size := of_decide_eq_true h1
      have hne : t.data.toList ≠ [] := fun e => by have := sz_list t; rw [e] at this; simp at this; omega
      refine CallNode.tells (tNext t (by omega) (by omega)) ?_
      refine JoinNode.both (fun h2 => ?_) (fun h2 => ?_)
      · have h2' : (nextL t.data.toList).2 = 0 := by
          have h2 : (((nextL t.data.toList).2 : Int) == 0) = true := h2
          simpa using h2
        have hb : isText s = false := by rw [← hv, valid_step hne, if_pos h2']
        exact ⟨[.slice none 0 0, .bool false], [], [], rfl, Yields.none, Nat.le_refl _, rfl, by rw [hb]; exact ⟨rfl, rfl⟩⟩
      · have h2' : (nextL t.data.toList).2 ≠ 0 := by
          have h2 : (((nextL t.data.toList).2 : Int) == 0) = false := h2
          simpa using h2
        have hn := nextL_ok h2'
        rw [hn]
        have hw := Lib.decodeL_le t.data.toList hne
        have hp := dec_pos hne
        have hq := runes_step hne
        have hlen : ds.length + 1 ≤ s.size := by
          have h3 := runes_le s.data.toList
          rw [← hd, hq, sz_list] at h3
          simp at h3
          omega
        intro b
        refine RawNode.app (i := 0) (n := ds.length) (m := 1) (news := [.int .i32 ((Lib.decodeL t.data.toList).1 : Nat)]) rfl rfl rfl elem_i32 rfl hr (fun β w ho => src_own ho (i := 1) rfl rfl rfl (by simp [Value.oneCell'])) (by show (ds.length + 1) * 4 ≤ _; omega) (by omega) fun v' c' hr' => ?_
        refine VRawNode.partFrom (Lib.decodeL t.data.toList).2 rfl rfl rfl rfl (fun _ => rfl) (fun _ => by rw [← sz_list]; exact hw) ?_
        have hdat : (t.extract (Lib.decodeL t.data.toList).2 t.size).data.toList = t.data.toList.drop (Lib.decodeL t.data.toList).2 := by
          rw [part_data, ← sz_list, List.take_of_length_le (by simp)]
        have hsz : (t.extract (Lib.decodeL t.data.toList).2 t.size).size = t.size - (Lib.decodeL t.data.toList).2 := by simp
        refine ⟨(t.extract (Lib.decodeL t.data.toList).2 t.size, ds ++ [(Lib.decodeL t.data.toList).1], v', c'), by show _ < t.size; rw [hsz]; omega, ⟨?_, ?_, ?_, by show _ ≤ s.size; rw [hsz]; omega⟩,
          .inr ⟨[], 0, [2], [c'], Nat.le_refl _, Nat.zero_le _, rfl, ⟨.inl rfl, trivial⟩, fun _ _ => .inl (Nat.zero_le _), by simp, ⟨⟨rfl, trivial⟩, ⟨rfl, trivial⟩, ⟨rfl, trivial⟩, ⟨rfl, trivial⟩, trivial⟩, fun _ _ h => h⟩⟩
        · have hr2 : RowIs 21 v' c' (ds.length + 1) (runeCells ds ++ [.int .i32 ((Lib.decodeL t.data.toList).1 : Nat)]) := hr'
          simpa [runeCells] using hr2
        · show (ds ++ [_]) ++ runes _ = _
          rw [hdat, ← hd, hq]; simp
        · show Lib.validD _ = _
          rw [hdat, ← hv, valid_step hne, if_neg h2']
    · have h1' : ¬ (0 : Int) < t.size := of_decide_eq_false h1
      have hne : t.data.toList = [] := List.length_eq_zero_iff.1 (by rw [sz_list]; omega)
      have hb : isText s = true := by rw [← hv, hne]; rfl
      have he : ds = runes s.data.toList := by rw [← hd, hne]; simp [runes, runesF]
      subst he
      refine ⟨[v, .bool true], [c], [], rfl, Yields.refl, Nat.zero_le _, rfl, by rw [hb]; exact ⟨v, c, rfl, rfl, hr⟩⟩
theorem tCheck3 (s : ByteArray) (hs : s.size < 2 ^ 40) : Tells 21 [.string s] [.bool (isText s)] :=
  Tells.of 4 func21 (by kernel_rfl) fun L => by
    refine CallNode.acts [] (aRunes3 s hs) trivial List.nodup_nil (fun _ _ _ => trivial) ?_
    rintro r C' E' ⟨rfl, h⟩
    by_cases hv : isText s = true
    · rw [if_pos hv] at h
      obtain ⟨v, c, rfl, rfl, hr⟩ := h
      rw [hv]; exact rfl
    · rw [if_neg hv] at h
      obtain ⟨rfl, rfl⟩ := h
      rw [Bool.not_eq_true _ |>.mp hv]; exact rfl
theorem tLen3 (s : ByteArray) (hs : s.size < 2 ^ 40) : Tells 20 [.string s] [.int .i64 (if isText s = true then ((runes s.data.toList).length : Int) else 0)] :=
  Tells.of 4 func20 (by kernel_rfl) fun L => by
    refine CallNode.acts [] (aRunes3 s hs) trivial List.nodup_nil (fun _ _ _ => trivial) ?_
    rintro r C' E' ⟨rfl, h⟩
    by_cases hv : isText s = true
    · rw [if_pos hv] at h
      obtain ⟨v, c, rfl, rfl, hr⟩ := h
      rw [if_pos hv]
      rcases hr with ⟨rfl, rfl, e, _⟩ | ⟨b, cap, cs, rfl, rfl, h1, h2, h3⟩
      · rw [e]; exact rfl
      · exact rfl
    · rw [if_neg hv] at h
      obtain ⟨rfl, rfl⟩ := h
      rw [if_neg hv]; exact rfl
end Go.Q
