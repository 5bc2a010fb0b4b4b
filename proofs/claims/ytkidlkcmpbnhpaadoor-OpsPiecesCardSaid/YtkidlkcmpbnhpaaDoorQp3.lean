/-
  The plain law of OpsPieces (second part). Conditions: none.
-/
import Derived.Test.YtkidlkcmpbnhpaaDoorQp2
namespace Go.Q
open Go Go.Proofs.Tryd
def partsB (o : OpD) : Nat → List Nat → List OpD
  | _, [] => []
  | a, b :: r => pieceO o a b :: partsB o b r
theorem pcs_parts {o : OpD} {n : Nat} (h : TextOp o n) : ∀ (bs : List Nat) (a : Nat), rises n a bs → pcsB o a bs = partsB o a bs
  | [], _, _ => rfl
  | b :: r, a, hr => by
    unfold pcsB partsB
    rw [cut_part h (by have := hr.1; have := hr.2.1; omega), pcs_parts h r b hr.2.2]
theorem parts_mem {o : OpD} {n : Nat} : ∀ (bs : List Nat) (a : Nat), rises n a bs → ∀ x ∈ partsB o a bs, ∃ c d, a ≤ c ∧ c < d ∧ d ≤ n ∧ x = pieceO o c d
  | [], _, _, x, hx => by cases hx
  | b :: r, a, hr, x, hx => by
    rcases List.mem_cons.1 hx with rfl | hx
    · exact ⟨a, b, Nat.le_refl _, hr.1, hr.2.1, rfl⟩
    · obtain ⟨c, d, h1, h2, h3, h4⟩ := parts_mem r b hr.2.2 x hx
      exact ⟨c, d, by have := hr.1; omega, h2, h3, h4⟩
theorem parts_rise {o : OpD} {n : Nat} : ∀ (bs : List Nat) (a : Nat), rises n a bs → (partsB o a bs).Pairwise fun x y => lessOp x y = true
  | [], _, _ => List.Pairwise.nil
  | b :: r, a, hr => by
    unfold partsB
    refine List.Pairwise.cons (fun y hy => ?_) (parts_rise r b hr.2.2)
    obtain ⟨c, d, h1, h2, h3, rfl⟩ := parts_mem r b hr.2.2 y hy
    rw [lessOp_iff]
    refine .inr ⟨rfl, ?_⟩
    show o.k + (a : Nat) < o.k + (c : Nat)
    have := hr.1
    omega
theorem twins_of : ∀ (l : List OpD), (l.Pairwise fun x y => lessOp x y = true) → noTwins l
  | [], _ => trivial
  | [_], _ => trivial
  | a :: b :: r, h => by
    cases h with
    | cons h1 h2 =>
      refine ⟨?_, twins_of (b :: r) h2⟩
      have h3 := h1 b List.mem_cons_self
      rw [lessOp_iff] at h3
      rw [Bool.eq_false_iff]
      intro c
      simp only [Bool.and_eq_true, beq_iff_eq] at c
      omega
theorem catS_cons (s : ByteArray) (r : List ByteArray) : (catS (s :: r)).data.toList = s.data.toList ++ (catS r).data.toList := by
  unfold catS; simp
theorem parts_cat {o : OpD} {n : Nat} (h : TextOp o n) : ∀ (bs : List Nat) (a : Nat), a ≤ n → rises n a bs → lastB a bs = n → (catS ((partsB o a bs).map fun x => x.tx)).data.toList = encs ((runes o.tx.data.toList).drop a)
  | [], a, ha, _, hl => by
    have e : a = n := hl
    rw [List.drop_of_length_le (by rw [h.len]; omega)]
    rfl
  | b :: r, a, ha, hr, hl => by
    have ih := parts_cat h r b hr.2.1 hr.2.2 hl
    show (catS ((pieceO o a b).tx :: (partsB o b r).map fun x => x.tx)).data.toList = _
    rw [catS_cons, ih]
    show encs (((runes o.tx.data.toList).take b).drop a) ++ _ = _
    rw [← encs_app]
    congr 1
    have e1 := List.take_append_drop b (runes o.tx.data.toList)
    have hab := hr.1
    have hbn := hr.2.1
    have e2 : (runes o.tx.data.toList).drop a = ((runes o.tx.data.toList).take b ++ (runes o.tx.data.toList).drop b).drop a := by rw [e1]
    rw [e2, List.drop_append_of_le_length (by rw [List.length_take, h.len]; omega)]
theorem parts_text {o : OpD} {n : Nat} (h : TextOp o n) {bs : List Nat} (hr : rises n 0 bs) (hl : lastB 0 bs = n) : catS ((partsB o 0 bs).map fun x => x.tx) = o.tx := by
  have h1 := parts_cat h bs 0 (Nat.zero_le _) hr hl
  rw [List.drop_zero, text_encs h.txt] at h1
  exact (of_data h1).trans rfl
theorem parts_follow {o : OpD} {n a b d : Nat} (h : TextOp o n) (hab : a < b) (hb : b ≤ n) : followsOp (pieceO o a b) (pieceO o b d) = true := by
  have hk1 := h.k1
  have hk2 := h.k2
  have hn1 := h.n1
  unfold followsOp
  rw [part_end h hab hb, wrap_u (by omega)]
  have e1 : (pieceO o a b).kind = 1 := h.kind
  have e2 : (pieceO o b d).kind = 1 := h.kind
  have e3 : (pieceO o b d).lc = o.c := if_pos (by omega)
  have e4 : (pieceO o b d).lk = o.k + b - 1 := if_pos (by omega)
  have e5 : (pieceO o a b).c = o.c := rfl
  have e6 : (pieceO o b d).c = o.c := rfl
  have e7 : (pieceO o b d).k = o.k + b := rfl
  have e8 : (pieceO o a b).rc = o.rc := rfl
  have e9 : (pieceO o a b).rk = o.rk := rfl
  have e10 : (pieceO o b d).rc = o.rc := rfl
  have e11 : (pieceO o b d).rk = o.rk := rfl
  rw [e1, e2, e3, e4, e5, e6, e7, e8, e9, e10, e11]
  simp
theorem parts_run {o : OpD} {n : Nat} (h : TextOp o n) : ∀ (bs : List Nat) (a b : Nat), a < b → b ≤ n → rises n b bs → runOf (pieceO o a b) (partsB o b bs) = partsB o b bs
  | [], _, _, _, _, _ => rfl
  | d :: r, a, b, h1, h2, hr => by
    unfold partsB runOf
    rw [if_pos (parts_follow h h1 h2), parts_run h r b d hr.1 hr.2.1 hr.2.2]
theorem pcs_one {o x : OpD} {n : Nat} (h : TextOp o n) {texts : List ByteArray} (ht : catS texts = o.tx) (hx : withText x (runes o.tx.data.toList) = o) : pcs x texts = [o] := by
  unfold pcs
  rw [ht]
  have hl := h.len
  have h0 := h.n0
  have h1 := h.n1
  obtain ⟨f, hf⟩ : ∃ f, (runes o.tx.data.toList).length = f + 1 := ⟨n - 1, by omega⟩
  rw [hf, piecesF_cons (fun e => by rw [e] at hl; simp at hl; omega), List.take_of_length_le (by omega), List.drop_of_length_le (by omega), piecesF_nil, hx]
theorem parts_join {o : OpD} {n : Nat} (h : TextOp o n) {bs : List Nat} (hr : rises n 0 bs) (hl : lastB 0 bs = n) : joinF (partsB o 0 bs).length (partsB o 0 bs) = [o] := by
  have ht := parts_text h hr hl
  cases bs with
  | nil =>
    have : 0 = n := hl
    have := h.n0
    omega
  | cons b r =>
    show pcs (pieceO o 0 b) ((pieceO o 0 b :: runOf (pieceO o 0 b) (partsB o b r)).map fun x => x.tx) ++ joinF (partsB o b r).length ((partsB o b r).drop (runOf (pieceO o 0 b) (partsB o b r)).length) = [o]
    rw [parts_run h r 0 b hr.1 hr.2.1 hr.2.2, List.drop_of_length_le (Nat.le_refl _)]
    have e1 : joinF (partsB o b r).length [] = [] := by cases (partsB o b r).length <;> rfl
    rw [e1, List.append_nil]
    refine pcs_one h ht ?_
    have e2 := textOf_encs h.txt
    unfold withText
    rw [e2]
    unfold pieceO
    simp
theorem le_sum : ∀ {l : List Nat} {x : Nat}, x ∈ l → x ≤ l.sum
  | y :: r, x, h => by
    rw [List.sum_cons]
    rcases List.mem_cons.1 h with rfl | h
    · omega
    · have := le_sum h; omega
theorem goodPieces (o : OpD) (hl : lightOp o = true) (h8 : ok8 o = true) (hk : o.kind = 1) (bs : List Nat) (hr : rises (lenOp o) 0 bs) (he : lastB 0 bs = lenOp o) : GoodP o (pcsB o 0 bs) := by
  have h := textOp_of h8 hk
  have hs := light_of hl
  rw [pcs_parts h bs 0 hr]
  have ht := parts_text h hr he
  have htot : total (partsB o 0 bs) < 2 ^ 20 := by
    have h1 := cat_size ((partsB o 0 bs).map fun x => x.tx)
    rw [ht, List.map_map] at h1
    unfold total
    have h2 : ((partsB o 0 bs).map fun x => x.tx.size) = (partsB o 0 bs).map ((fun s : ByteArray => s.size) ∘ fun x => x.tx) := rfl
    rw [h2, ← h1]; omega
  refine ⟨fun x hx => ?_, htot, twins_of _ (parts_rise bs 0 hr), parts_rise bs 0 hr, parts_join h hr he⟩
  have hsz : x.tx.size ≤ total (partsB o 0 bs) := by
    unfold total
    exact le_sum (List.mem_map.2 ⟨x, hx, rfl⟩)
  obtain ⟨c, d, h1, h2, h3, rfl⟩ := parts_mem bs 0 hr x hx
  exact ⟨by omega, h.kind, part_zero h c d, part_chk h h2 h3⟩
/-- quirelaw8.OpsPieces tells true. -/
theorem tOpsPieces (o : OpD) (cuts : List Int) (ao : Option Addr) (bc oc capc : Nat) (turn : Int) (hao : cuts ≠ [] → ao = some ⟨bc, oc, none⟩) (hcu : ∀ x ∈ cuts, 0 ≤ x ∧ x < 256) (htu : -(2 ^ 63) ≤ turn ∧ turn < 2 ^ 63) (hcl : cuts.length < 2 ^ 63) :
    TellsIn [tabsF, rowF bc oc (flat encB cuts)] 3 [vOp o, .slice ao cuts.length capc, .int .i64 turn] [.bool true] :=
  tPieces o cuts ao bc oc capc turn hao hcu htu hcl (fun hl h8 hk bs hr he => goodPieces o hl h8 hk bs hr he) (fun _ h8 hk => by
    have h := textOp_of h8 hk
    exact ⟨h.txt, h.z.f, h.n0, h.n1, same8_self h.z⟩)
end Go.Q
