/-
  MADE BY PROGRAM (next.py). quireref3.next: what it tells. Conditions: the text is not empty.
-/
import Derived.Test.YtkidlkcmpbnhpaaDoorQt1
namespace Go.Q
open Go Go.Proofs Go.Proofs.Tryd
set_option maxRecDepth 100000
variable {L : Nat → Prop} {gd : Gd} {H : List Ck} {E : List Fact}
def accR (r0 : Nat) (b : Nat → Nat) : Nat → Nat
  | 0 => r0
  | 1 => r0
  | i + 2 => accR r0 b (i + 1) * 64 + b (i + 1) % 64
theorem accR_succ {r0 : Nat} {b : Nat → Nat} {i : Nat} (h : 1 ≤ i) : accR r0 b (i + 1) = accR r0 b i * 64 + b i % 64 := by
  cases i with
  | zero => omega
  | succ i => rfl
theorem accR_lt {r0 : Nat} {b : Nat → Nat} (h : r0 < 32) {i : Nat} (hi : i ≤ 4) : accR r0 b i < 2 ^ 23 := by
  have : i = 0 ∨ i = 1 ∨ i = 2 ∨ i = 3 ∨ i = 4 := by omega
  rcases this with rfl | rfl | rfl | rfl | rfl <;> simp only [accR] <;> omega
def byteN (s : ByteArray) (k : Nat) : Nat := (s.data.toList.getD k 0).toNat
theorem and31N (s : ByteArray) (k : Nat) : bits .and .u8 (byteN s k : Int) 31 = ((byteN s k % 32 : Nat) : Int) := and31 _
theorem and15N (s : ByteArray) (k : Nat) : bits .and .u8 (byteN s k : Int) 15 = ((byteN s k % 16 : Nat) : Int) := and15 _
theorem and7N (s : ByteArray) (k : Nat) : bits .and .u8 (byteN s k : Int) 7 = ((byteN s k % 8 : Nat) : Int) := and7 _
theorem and63N (s : ByteArray) (k : Nat) : bits .and .u8 (byteN s k : Int) 63 = ((byteN s k % 64 : Nat) : Int) := and63 _
theorem and192N (s : ByteArray) (k : Nat) : bits .and .u8 (byteN s k : Int) 192 = ((byteN s k / 64 * 64 : Nat) : Int) := and192 _
theorem byte_get {s : ByteArray} {i : Nat} (h : i < s.size) : s.data.toList[i]? = some (s.data.toList.getD i 0) := by
  have : i < s.data.toList.length := by simpa using h
  rw [List.getD_eq_getElem?_getD, List.getElem?_eq_getElem this]; rfl
theorem pvNext {p : Nat × Nat} {a b : Int} {x y : Nat} (h : p = (x, y)) (ha : a = x) (hb : b = y) : [PV.v (.int .i32 a), PV.v (.int .i64 b)] = [Value.int .i32 p.1, Value.int .i64 p.2].map PV.v := by
  subst h; subst ha; subst hb; rfl
theorem beqN {a b : Nat} : ((a : Int) == (b : Int)) = (a == b) := by
  rw [Bool.eq_iff_iff]; simp; omega
theorem live5 {F : Tr} {m : Nat} {a b c d e : Nat × SV} (h1 : F.get a.1 = a.2 ∧ svLim m a.2) (h2 : F.get b.1 = b.2 ∧ svLim m b.2) (h3 : F.get c.1 = c.2 ∧ svLim m c.2) (h4 : F.get d.1 = d.2 ∧ svLim m d.2) (h5 : F.get e.1 = e.2 ∧ svLim m e.2) : live m F [a, b, c, d, e] := ⟨h1, h2, h3, h4, h5, trivial⟩
set_option maxHeartbeats 4000000 in
theorem tNext (s : ByteArray) (h0 : 0 < s.size) (hs : s.size < 2 ^ 62) : Tells 67 [.string s] [.int .i32 (nextL s.data.toList).1, .int .i64 (nextL s.data.toList).2] :=
  Tells.of 7 func67 (by kernel_rfl) fun L => by
    have hb0 : byteN s 0 < 256 := (s.data.toList.getD 0 0).toNat_lt
    have hb1 : byteN s 1 < 256 := (s.data.toList.getD 1 0).toNat_lt
    have hb2 : byteN s 2 < 256 := (s.data.toList.getD 2 0).toNat_lt
    have hb3 : byteN s 3 < 256 := (s.data.toList.getD 3 0).toNat_lt
    have hlen : s.data.toList.length = s.size := by simp
    have eN : nextL s.data.toList = nextN s.size (byteN s 0) (byteN s 1) (byteN s 2) (byteN s 3) := by rw [nextL_N, hlen]; rfl
    have wr : IntKind.i32.wrap (byteN s 0 : Int) = byteN s 0 := wrap_i32 (by omega) (by omega)
    refine VRawNode.byte 0 (s.data.toList.getD 0 0) rfl rfl rfl rfl (fun _ => rfl) (fun _ => byte_get h0) ?_
    refine JoinNode.both (fun h1 => ?_) (fun h1 => ?_)
    · have h1' : (byteN s 0 : Int) < 128 := of_decide_eq_true h1
      exact pvNext (eN.trans (nextN_1 (by omega))) wr rfl
    have h1' : ¬ (byteN s 0 : Int) < 128 := of_decide_eq_false h1
    refine JoinNode.both (fun c2 => ?_) (fun c2 => ?_)
    · have d2 : 194 ≤ byteN s 0 ∧ byteN s 0 < 224 := by
        have c := c2
        simp only [Bool.and_eq_true, decide_eq_true_eq] at c
        have e1 : (byteN s 0 : Int) ≥ 194 := c.1
        have e2 : (byteN s 0 : Int) < 224 := c.2
        omega
      refine VRawNode.band rfl rfl rfl (.inl rfl) ?_
      have er : IntKind.i32.wrap (bits .and .u8 (byteN s 0 : Int) 31) = ((byteN s 0 % 32 : Nat) : Int) := by
        rw [and31N, wrap_i32 (by omega) (by omega)]
      have hr0 : byteN s 0 % 32 < 32 := by omega
      refine JoinNode.both (fun h3 => ?_) (fun h3 => ?_)
      · have h3' : (s.size : Int) < 2 := of_decide_eq_true h3
        exact pvNext (eN.trans (show _ = (0, 0) by rw [nextN_2 d2, if_neg (by omega)])) rfl rfl
      have h3' : ¬ (s.size : Int) < 2 := of_decide_eq_false h3
      refine LoopNode.mk (α := Nat) (fun i => [(0, .n (.v (.string s))), (5, .n (.v (.int .i64 2))), (6, .n (.v (.int .i32 128))), (7, .n (.v (.int .i32 (accR (byteN s 0 % 32) (byteN s) i : Nat)))), (8, .n (.v (.int .i64 (i : Nat))))]) (fun _ => []) (fun _ => [])
        (fun i => 1 ≤ i ∧ i ≤ 2 ∧ ∀ j, 1 ≤ j → j < i → byteN s j / 64 = 2) (fun i => 2 - i) 1 ⟨Nat.le_refl _, by omega, fun j h1 h2 => by omega⟩
        (.inl ⟨live5 ⟨rfl, trivial⟩ ⟨rfl, trivial⟩ ⟨rfl, trivial⟩ ⟨congrArg (fun z => SV.n (.v (.int .i32 z))) er, trivial⟩ ⟨rfl, trivial⟩, trivial, fun _ _ h => h⟩) (fun _ => Nat.le_refl _) ?_
      rintro i ⟨hi1, hi2, hi3⟩
      have hacc := accR_lt (b := byteN s) hr0 (i := i) (by omega)
      refine JoinNode.both (fun h4 => ?_) (fun h4 => ?_)
      · have h4' : (i : Int) < 2 := of_decide_eq_true h4
        refine VRawNode.byte i (s.data.toList.getD i 0) rfl rfl rfl rfl (fun _ => rfl) (fun _ => byte_get (by omega)) ?_
        refine VRawNode.band rfl rfl rfl (.inl rfl) ?_
        have hbi : byteN s i < 256 := (s.data.toList.getD i 0).toNat_lt
        refine JoinNode.both (fun h5 => ?_) (fun h5 => ?_)
        · have h5' : byteN s i / 64 ≠ 2 := by
            have c : (bits .and .u8 (byteN s i : Int) 192 != 128) = true := h5
            rw [and192N] at c
            simp only [bne_iff_ne, ne_eq] at c
            omega
          refine pvNext (eN.trans (show _ = (0, 0) by
            rw [nextN_2 d2, if_neg]
            have : i = 1 := by omega
            rcases this with rfl <;> omega)) rfl rfl
        · have h5' : byteN s i / 64 = 2 := by
            have c : (bits .and .u8 (byteN s i : Int) 192 != 128) = false := h5
            rw [and192N] at c
            simp only [bne_eq_false_iff_eq] at c
            omega
          refine VRawNode.shlN 6 rfl rfl rfl (by decide) ?_
          refine VRawNode.byte i (s.data.toList.getD i 0) rfl rfl rfl rfl (fun _ => rfl) (fun _ => byte_get (by omega)) ?_
          refine VRawNode.band rfl rfl rfl (.inl rfl) ?_
          refine VRawNode.band rfl rfl rfl (.inr (.inl rfl)) ?_
          have e7 : bits .or .i32 (IntKind.i32.wrap ((accR (byteN s 0 % 32) (byteN s) i : Nat) * 2 ^ 6)) (IntKind.i32.wrap (bits .and .u8 (byteN s i : Int) 63)) = ((accR (byteN s 0 % 32) (byteN s) (i + 1) : Nat) : Int) := by
            rw [and63N, wrap_i32 (by omega) (by omega)]
            by_cases h6 : i = 3
            · subst h6
              have : accR (byteN s 0 % 32) (byteN s) 3 < 2 ^ 17 := by simp only [accR]; omega
              rw [wrap_i32 (by omega) (by omega), show (2 : Int) ^ 6 = 64 from rfl, or64 _ _ (by omega) (by omega), accR_succ (i := 3) (by omega)]
            · have : i = 1 ∨ i = 2 := by omega
              have : accR (byteN s 0 % 32) (byteN s) i < 2 ^ 17 := by
                rcases this with rfl | rfl <;> simp only [accR] <;> omega
              rw [wrap_i32 (by omega) (by omega), show (2 : Int) ^ 6 = 64 from rfl, or64 _ _ (by omega) (by omega), accR_succ (by omega)]
          refine ⟨i + 1, by omega, ⟨by omega, by omega, fun j a1 a2 => ?_⟩, .inl ⟨live5 ⟨rfl, trivial⟩ ⟨rfl, trivial⟩ ⟨rfl, trivial⟩ ⟨congrArg (fun z => SV.n (.v (.int .i32 z))) e7, trivial⟩ ⟨?_, trivial⟩, trivial, fun _ _ h => h⟩⟩
          · rcases Nat.lt_or_ge j i with a3 | a3
            · exact hi3 j a1 a3
            · have : j = i := by omega
              subst this; exact h5'
          · show SV.n (.v (.int .i64 (IntKind.i64.wrap ((i : Int) + 1)))) = _
            rw [wrap_i64 (by omega) (by omega)]; rfl
      · have h4' : ¬ (i : Int) < 2 := of_decide_eq_false h4
        have : i = 2 := by omega
        subst this
        have k1 := hi3 1 (by omega) (by omega)
        have ea : accR (byteN s 0 % 32) (byteN s) 2 = byteN s 0 % 32 * 64 + byteN s 1 % 64 := by
          have e1 : byteN s (0 + 1) = byteN s 1 := rfl
          have e2 : byteN s (1 + 1) = byteN s 2 := rfl
          have e3 : byteN s (2 + 1) = byteN s 3 := rfl
          simp only [accR]
          first | done | omega
        refine JoinNode.both (fun h6 => ?_) (fun h6 => ?_)
        · have h6' : (((decide (((accR (byteN s 0 % 32) (byteN s) 2 : Nat) : Int) < 128) || decide (((accR (byteN s 0 % 32) (byteN s) 2 : Nat) : Int) > 1114111)) || (decide (((accR (byteN s 0 % 32) (byteN s) 2 : Nat) : Int) ≥ 55296) && decide (((accR (byteN s 0 % 32) (byteN s) 2 : Nat) : Int) < 57344)))) = true := h6
          simp only [Bool.or_eq_true, Bool.and_eq_true, decide_eq_true_eq] at h6'
          exact pvNext (eN.trans (show _ = (0, 0) by rw [nextN_2 d2, if_neg (by omega)])) rfl rfl
        · have h6' : (((decide (((accR (byteN s 0 % 32) (byteN s) 2 : Nat) : Int) < 128) || decide (((accR (byteN s 0 % 32) (byteN s) 2 : Nat) : Int) > 1114111)) || (decide (((accR (byteN s 0 % 32) (byteN s) 2 : Nat) : Int) ≥ 55296) && decide (((accR (byteN s 0 % 32) (byteN s) 2 : Nat) : Int) < 57344)))) = false := h6
          simp only [Bool.or_eq_false_iff, Bool.and_eq_false_iff, decide_eq_false_iff_not] at h6'
          exact pvNext (eN.trans (show _ = (accR (byteN s 0 % 32) (byteN s) 2, 2) by rw [nextN_2 d2, if_pos (by omega), ea])) rfl rfl
    refine JoinNode.both (fun c3 => ?_) (fun c3 => ?_)
    · have d3 : 224 ≤ byteN s 0 ∧ byteN s 0 < 240 := by
        have c := c3
        simp only [Bool.and_eq_true, decide_eq_true_eq] at c
        have e1 : (byteN s 0 : Int) ≥ 224 := c.1
        have e2 : (byteN s 0 : Int) < 240 := c.2
        omega
      refine VRawNode.band rfl rfl rfl (.inl rfl) ?_
      have er : IntKind.i32.wrap (bits .and .u8 (byteN s 0 : Int) 15) = ((byteN s 0 % 16 : Nat) : Int) := by
        rw [and15N, wrap_i32 (by omega) (by omega)]
      have hr0 : byteN s 0 % 16 < 32 := by omega
      refine JoinNode.both (fun h3 => ?_) (fun h3 => ?_)
      · have h3' : (s.size : Int) < 3 := of_decide_eq_true h3
        exact pvNext (eN.trans (show _ = (0, 0) by rw [nextN_3 d3, if_neg (by omega)])) rfl rfl
      have h3' : ¬ (s.size : Int) < 3 := of_decide_eq_false h3
      refine LoopNode.mk (α := Nat) (fun i => [(0, .n (.v (.string s))), (5, .n (.v (.int .i64 3))), (6, .n (.v (.int .i32 2048))), (7, .n (.v (.int .i32 (accR (byteN s 0 % 16) (byteN s) i : Nat)))), (8, .n (.v (.int .i64 (i : Nat))))]) (fun _ => []) (fun _ => [])
        (fun i => 1 ≤ i ∧ i ≤ 3 ∧ ∀ j, 1 ≤ j → j < i → byteN s j / 64 = 2) (fun i => 3 - i) 1 ⟨Nat.le_refl _, by omega, fun j h1 h2 => by omega⟩
        (.inl ⟨live5 ⟨rfl, trivial⟩ ⟨rfl, trivial⟩ ⟨rfl, trivial⟩ ⟨congrArg (fun z => SV.n (.v (.int .i32 z))) er, trivial⟩ ⟨rfl, trivial⟩, trivial, fun _ _ h => h⟩) (fun _ => Nat.le_refl _) ?_
      rintro i ⟨hi1, hi2, hi3⟩
      have hacc := accR_lt (b := byteN s) hr0 (i := i) (by omega)
      refine JoinNode.both (fun h4 => ?_) (fun h4 => ?_)
      · have h4' : (i : Int) < 3 := of_decide_eq_true h4
        refine VRawNode.byte i (s.data.toList.getD i 0) rfl rfl rfl rfl (fun _ => rfl) (fun _ => byte_get (by omega)) ?_
        refine VRawNode.band rfl rfl rfl (.inl rfl) ?_
        have hbi : byteN s i < 256 := (s.data.toList.getD i 0).toNat_lt
        refine JoinNode.both (fun h5 => ?_) (fun h5 => ?_)
        · have h5' : byteN s i / 64 ≠ 2 := by
            have c : (bits .and .u8 (byteN s i : Int) 192 != 128) = true := h5
            rw [and192N] at c
            simp only [bne_iff_ne, ne_eq] at c
            omega
          refine pvNext (eN.trans (show _ = (0, 0) by
            rw [nextN_3 d3, if_neg]
            have : i = 1 ∨ i = 2 := by omega
            rcases this with rfl | rfl <;> omega)) rfl rfl
        · have h5' : byteN s i / 64 = 2 := by
            have c : (bits .and .u8 (byteN s i : Int) 192 != 128) = false := h5
            rw [and192N] at c
            simp only [bne_eq_false_iff_eq] at c
            omega
          refine VRawNode.shlN 6 rfl rfl rfl (by decide) ?_
          refine VRawNode.byte i (s.data.toList.getD i 0) rfl rfl rfl rfl (fun _ => rfl) (fun _ => byte_get (by omega)) ?_
          refine VRawNode.band rfl rfl rfl (.inl rfl) ?_
          refine VRawNode.band rfl rfl rfl (.inr (.inl rfl)) ?_
          have e7 : bits .or .i32 (IntKind.i32.wrap ((accR (byteN s 0 % 16) (byteN s) i : Nat) * 2 ^ 6)) (IntKind.i32.wrap (bits .and .u8 (byteN s i : Int) 63)) = ((accR (byteN s 0 % 16) (byteN s) (i + 1) : Nat) : Int) := by
            rw [and63N, wrap_i32 (by omega) (by omega)]
            by_cases h6 : i = 3
            · subst h6
              have : accR (byteN s 0 % 16) (byteN s) 3 < 2 ^ 17 := by simp only [accR]; omega
              rw [wrap_i32 (by omega) (by omega), show (2 : Int) ^ 6 = 64 from rfl, or64 _ _ (by omega) (by omega), accR_succ (i := 3) (by omega)]
            · have : i = 1 ∨ i = 2 := by omega
              have : accR (byteN s 0 % 16) (byteN s) i < 2 ^ 17 := by
                rcases this with rfl | rfl <;> simp only [accR] <;> omega
              rw [wrap_i32 (by omega) (by omega), show (2 : Int) ^ 6 = 64 from rfl, or64 _ _ (by omega) (by omega), accR_succ (by omega)]
          refine ⟨i + 1, by omega, ⟨by omega, by omega, fun j a1 a2 => ?_⟩, .inl ⟨live5 ⟨rfl, trivial⟩ ⟨rfl, trivial⟩ ⟨rfl, trivial⟩ ⟨congrArg (fun z => SV.n (.v (.int .i32 z))) e7, trivial⟩ ⟨?_, trivial⟩, trivial, fun _ _ h => h⟩⟩
          · rcases Nat.lt_or_ge j i with a3 | a3
            · exact hi3 j a1 a3
            · have : j = i := by omega
              subst this; exact h5'
          · show SV.n (.v (.int .i64 (IntKind.i64.wrap ((i : Int) + 1)))) = _
            rw [wrap_i64 (by omega) (by omega)]; rfl
      · have h4' : ¬ (i : Int) < 3 := of_decide_eq_false h4
        have : i = 3 := by omega
        subst this
        have k1 := hi3 1 (by omega) (by omega)
        have k2 := hi3 2 (by omega) (by omega)
        have ea : accR (byteN s 0 % 16) (byteN s) 3 = byteN s 0 % 16 * 4096 + byteN s 1 % 64 * 64 + byteN s 2 % 64 := by
          have e1 : byteN s (0 + 1) = byteN s 1 := rfl
          have e2 : byteN s (1 + 1) = byteN s 2 := rfl
          have e3 : byteN s (2 + 1) = byteN s 3 := rfl
          simp only [accR]
          first | done | omega
        refine JoinNode.both (fun h6 => ?_) (fun h6 => ?_)
        · have h6' : (((decide (((accR (byteN s 0 % 16) (byteN s) 3 : Nat) : Int) < 2048) || decide (((accR (byteN s 0 % 16) (byteN s) 3 : Nat) : Int) > 1114111)) || (decide (((accR (byteN s 0 % 16) (byteN s) 3 : Nat) : Int) ≥ 55296) && decide (((accR (byteN s 0 % 16) (byteN s) 3 : Nat) : Int) < 57344)))) = true := h6
          simp only [Bool.or_eq_true, Bool.and_eq_true, decide_eq_true_eq] at h6'
          exact pvNext (eN.trans (show _ = (0, 0) by rw [nextN_3 d3, if_neg (by omega)])) rfl rfl
        · have h6' : (((decide (((accR (byteN s 0 % 16) (byteN s) 3 : Nat) : Int) < 2048) || decide (((accR (byteN s 0 % 16) (byteN s) 3 : Nat) : Int) > 1114111)) || (decide (((accR (byteN s 0 % 16) (byteN s) 3 : Nat) : Int) ≥ 55296) && decide (((accR (byteN s 0 % 16) (byteN s) 3 : Nat) : Int) < 57344)))) = false := h6
          simp only [Bool.or_eq_false_iff, Bool.and_eq_false_iff, decide_eq_false_iff_not] at h6'
          exact pvNext (eN.trans (show _ = (accR (byteN s 0 % 16) (byteN s) 3, 3) by rw [nextN_3 d3, if_pos (by omega), ea])) rfl rfl
    refine JoinNode.both (fun c4 => ?_) (fun c4 => ?_)
    · have d4 : 240 ≤ byteN s 0 ∧ byteN s 0 < 245 := by
        have c := c4
        simp only [Bool.and_eq_true, decide_eq_true_eq] at c
        have e1 : (byteN s 0 : Int) ≥ 240 := c.1
        have e2 : (byteN s 0 : Int) < 245 := c.2
        omega
      refine VRawNode.band rfl rfl rfl (.inl rfl) ?_
      have er : IntKind.i32.wrap (bits .and .u8 (byteN s 0 : Int) 7) = ((byteN s 0 % 8 : Nat) : Int) := by
        rw [and7N, wrap_i32 (by omega) (by omega)]
      have hr0 : byteN s 0 % 8 < 32 := by omega
      refine JoinNode.both (fun h3 => ?_) (fun h3 => ?_)
      · have h3' : (s.size : Int) < 4 := of_decide_eq_true h3
        exact pvNext (eN.trans (show _ = (0, 0) by rw [nextN_4 d4, if_neg (by omega)])) rfl rfl
      have h3' : ¬ (s.size : Int) < 4 := of_decide_eq_false h3
      refine LoopNode.mk (α := Nat) (fun i => [(0, .n (.v (.string s))), (5, .n (.v (.int .i64 4))), (6, .n (.v (.int .i32 65536))), (7, .n (.v (.int .i32 (accR (byteN s 0 % 8) (byteN s) i : Nat)))), (8, .n (.v (.int .i64 (i : Nat))))]) (fun _ => []) (fun _ => [])
        (fun i => 1 ≤ i ∧ i ≤ 4 ∧ ∀ j, 1 ≤ j → j < i → byteN s j / 64 = 2) (fun i => 4 - i) 1 ⟨Nat.le_refl _, by omega, fun j h1 h2 => by omega⟩
        (.inl ⟨live5 ⟨rfl, trivial⟩ ⟨rfl, trivial⟩ ⟨rfl, trivial⟩ ⟨congrArg (fun z => SV.n (.v (.int .i32 z))) er, trivial⟩ ⟨rfl, trivial⟩, trivial, fun _ _ h => h⟩) (fun _ => Nat.le_refl _) ?_
      rintro i ⟨hi1, hi2, hi3⟩
      have hacc := accR_lt (b := byteN s) hr0 (i := i) (by omega)
      refine JoinNode.both (fun h4 => ?_) (fun h4 => ?_)
      · have h4' : (i : Int) < 4 := of_decide_eq_true h4
        refine VRawNode.byte i (s.data.toList.getD i 0) rfl rfl rfl rfl (fun _ => rfl) (fun _ => byte_get (by omega)) ?_
        refine VRawNode.band rfl rfl rfl (.inl rfl) ?_
        have hbi : byteN s i < 256 := (s.data.toList.getD i 0).toNat_lt
        refine JoinNode.both (fun h5 => ?_) (fun h5 => ?_)
        · have h5' : byteN s i / 64 ≠ 2 := by
            have c : (bits .and .u8 (byteN s i : Int) 192 != 128) = true := h5
            rw [and192N] at c
            simp only [bne_iff_ne, ne_eq] at c
            omega
          refine pvNext (eN.trans (show _ = (0, 0) by
            rw [nextN_4 d4, if_neg]
            have : i = 1 ∨ i = 2 ∨ i = 3 := by omega
            rcases this with rfl | rfl | rfl <;> omega)) rfl rfl
        · have h5' : byteN s i / 64 = 2 := by
            have c : (bits .and .u8 (byteN s i : Int) 192 != 128) = false := h5
            rw [and192N] at c
            simp only [bne_eq_false_iff_eq] at c
            omega
          refine VRawNode.shlN 6 rfl rfl rfl (by decide) ?_
          refine VRawNode.byte i (s.data.toList.getD i 0) rfl rfl rfl rfl (fun _ => rfl) (fun _ => byte_get (by omega)) ?_
          refine VRawNode.band rfl rfl rfl (.inl rfl) ?_
          refine VRawNode.band rfl rfl rfl (.inr (.inl rfl)) ?_
          have e7 : bits .or .i32 (IntKind.i32.wrap ((accR (byteN s 0 % 8) (byteN s) i : Nat) * 2 ^ 6)) (IntKind.i32.wrap (bits .and .u8 (byteN s i : Int) 63)) = ((accR (byteN s 0 % 8) (byteN s) (i + 1) : Nat) : Int) := by
            rw [and63N, wrap_i32 (by omega) (by omega)]
            by_cases h6 : i = 3
            · subst h6
              have : accR (byteN s 0 % 8) (byteN s) 3 < 2 ^ 17 := by simp only [accR]; omega
              rw [wrap_i32 (by omega) (by omega), show (2 : Int) ^ 6 = 64 from rfl, or64 _ _ (by omega) (by omega), accR_succ (i := 3) (by omega)]
            · have : i = 1 ∨ i = 2 := by omega
              have : accR (byteN s 0 % 8) (byteN s) i < 2 ^ 17 := by
                rcases this with rfl | rfl <;> simp only [accR] <;> omega
              rw [wrap_i32 (by omega) (by omega), show (2 : Int) ^ 6 = 64 from rfl, or64 _ _ (by omega) (by omega), accR_succ (by omega)]
          refine ⟨i + 1, by omega, ⟨by omega, by omega, fun j a1 a2 => ?_⟩, .inl ⟨live5 ⟨rfl, trivial⟩ ⟨rfl, trivial⟩ ⟨rfl, trivial⟩ ⟨congrArg (fun z => SV.n (.v (.int .i32 z))) e7, trivial⟩ ⟨?_, trivial⟩, trivial, fun _ _ h => h⟩⟩
          · rcases Nat.lt_or_ge j i with a3 | a3
            · exact hi3 j a1 a3
            · have : j = i := by omega
              subst this; exact h5'
          · show SV.n (.v (.int .i64 (IntKind.i64.wrap ((i : Int) + 1)))) = _
            rw [wrap_i64 (by omega) (by omega)]; rfl
      · have h4' : ¬ (i : Int) < 4 := of_decide_eq_false h4
        have : i = 4 := by omega
        subst this
        have k1 := hi3 1 (by omega) (by omega)
        have k2 := hi3 2 (by omega) (by omega)
        have k3 := hi3 3 (by omega) (by omega)
        have ea : accR (byteN s 0 % 8) (byteN s) 4 = byteN s 0 % 8 * 262144 + byteN s 1 % 64 * 4096 + byteN s 2 % 64 * 64 + byteN s 3 % 64 := by
          have e1 : byteN s (0 + 1) = byteN s 1 := rfl
          have e2 : byteN s (1 + 1) = byteN s 2 := rfl
          have e3 : byteN s (2 + 1) = byteN s 3 := rfl
          simp only [accR]
          first | done | omega
        refine JoinNode.both (fun h6 => ?_) (fun h6 => ?_)
        · have h6' : (((decide (((accR (byteN s 0 % 8) (byteN s) 4 : Nat) : Int) < 65536) || decide (((accR (byteN s 0 % 8) (byteN s) 4 : Nat) : Int) > 1114111)) || (decide (((accR (byteN s 0 % 8) (byteN s) 4 : Nat) : Int) ≥ 55296) && decide (((accR (byteN s 0 % 8) (byteN s) 4 : Nat) : Int) < 57344)))) = true := h6
          simp only [Bool.or_eq_true, Bool.and_eq_true, decide_eq_true_eq] at h6'
          exact pvNext (eN.trans (show _ = (0, 0) by rw [nextN_4 d4, if_neg (by omega)])) rfl rfl
        · have h6' : (((decide (((accR (byteN s 0 % 8) (byteN s) 4 : Nat) : Int) < 65536) || decide (((accR (byteN s 0 % 8) (byteN s) 4 : Nat) : Int) > 1114111)) || (decide (((accR (byteN s 0 % 8) (byteN s) 4 : Nat) : Int) ≥ 55296) && decide (((accR (byteN s 0 % 8) (byteN s) 4 : Nat) : Int) < 57344)))) = false := h6
          simp only [Bool.or_eq_false_iff, Bool.and_eq_false_iff, decide_eq_false_iff_not] at h6'
          exact pvNext (eN.trans (show _ = (accR (byteN s 0 % 8) (byteN s) 4, 4) by rw [nextN_4 d4, if_pos (by omega), ea])) rfl rfl
    refine pvNext (eN.trans (nextN_bad ?_)) rfl rfl
    simp only [Bool.and_eq_false_iff, decide_eq_false_iff_not] at c2 c3 c4
    have e2 : ¬ (byteN s 0 : Int) ≥ 194 ∨ ¬ (byteN s 0 : Int) < 224 := c2
    have e3 : ¬ (byteN s 0 : Int) ≥ 224 ∨ ¬ (byteN s 0 : Int) < 240 := c3
    have e4 : ¬ (byteN s 0 : Int) ≥ 240 ∨ ¬ (byteN s 0 : Int) < 245 := c4
    omega
end Go.Q
