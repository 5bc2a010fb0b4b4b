/-
  The plain law of OpsPieces: pieces of a text, sorted and joined, are the text. Conditions: none.
-/
import Derived.Test.YtkidlkcmpbnhpaaDoorQo8
namespace Go.Q
open Go Go.Proofs.Tryd
theorem bytes_nil {s : ByteArray} (h : (s.toList == (⟨#[]⟩ : ByteArray).toList) = true) : s = ⟨#[]⟩ := by
  have h1 := eq_of_beq h
  rw [ByteArray.toList_eq, ByteArray.toList_eq] at h1
  exact of_data h1
/-- A right operation that inserts text, in numbers. -/
structure TextOp (o : OpD) (n : Nat) : Prop where
  c1 : 1 ≤ o.c
  c2 : o.c ≤ 9007199254740991
  k1 : 1 ≤ o.k
  k2 : o.k + n ≤ 9007199254740992
  kind : o.kind = 1
  st : o.st = 0
  l : namedId o.lc o.lk = true
  r : namedId o.rc o.rk = true
  txt : isText o.tx = true
  n0 : 0 < n
  n1 : n ≤ 4096
  len : (runes o.tx.data.toList).length = n
  z : ZeroV o
  key : o.key = ⟨#[]⟩
  pc : o.pc = 0
  pk : o.pk = 0
  fc : o.fc = 0
  fk : o.fk = 0
  fa : o.fa = false
  tc : o.tc = 0
  tk : o.tk = 0
  ta : o.ta = false
  inl : ¬ (o.lc = o.c ∧ o.k ≤ o.lk ∧ o.lk < o.k + n)
  inr : ¬ (o.rc = o.c ∧ o.k ≤ o.rk ∧ o.rk < o.k + n)
theorem named_num {a b : Int} (h : namedId a b = true) : (a = 0 ∧ b = 0) ∨ (1 ≤ a ∧ a ≤ 9007199254740991 ∧ 1 ≤ b ∧ b ≤ 9007199254740991) := by
  unfold namedId noId rightId isNum at h
  simp only [Bool.or_eq_true, Bool.and_eq_true, decide_eq_true_eq, beq_iff_eq] at h
  omega
theorem right_num {a b : Int} : rightId a b = true ↔ (1 ≤ a ∧ a ≤ 9007199254740991 ∧ 1 ≤ b ∧ b ≤ 9007199254740991) := by
  unfold rightId isNum
  simp only [Bool.and_eq_true, decide_eq_true_eq]
  omega
theorem wrap_u {x : Int} (h : 0 ≤ x ∧ x < 2 ^ 60) : IntKind.u64.wrap x = x := wrap_u64 h.1 (by omega)
theorem textLen_of {s : ByteArray} (h : isText s = true) : textLen s = (runes s.data.toList).length := by
  unfold textLen; rw [if_pos h, count_runes]
theorem lenOp_of {o : OpD} (h : o.kind = 1) : lenOp o = textLen o.tx := by
  unfold lenOp; rw [h]; rfl
theorem textOp_of {o : OpD} (h8 : ok8 o = true) (hk : o.kind = 1) : TextOp o (lenOp o) := by
  have hlen := lenOp_of hk
  unfold ok8 okKind at h8
  rw [hk] at h8
  simp only [Bool.and_eq_true] at h8
  obtain ⟨⟨hr, h1⟩, hno⟩ := h8
  have h1 : ok1 o = true := by simpa using h1
  unfold ok1 placesO zeroV spansO noId at h1
  simp only [Bool.and_eq_true, decide_eq_true_eq, beq_iff_eq] at h1
  obtain ⟨⟨⟨⟨⟨⟨⟨⟨⟨⟨hl, hrr⟩, htx⟩, hn0⟩, hn1⟩, hend⟩, hst⟩, hv0, hv⟩, hkey⟩, hpc, hpk⟩, ⟨⟨hfc, hfk⟩, hfa⟩, ⟨htc, htk⟩, hta⟩ := h1
  have hr' := right_num.1 hr
  unfold okV okVal at hv
  rw [hv0] at hv
  have hv : ((o.vn == 0) = true ∧ (((o.vf : Nat) : Int) == 0) = true) ∧ (o.vs.toList == (⟨#[]⟩ : ByteArray).toList) = true := by simpa only [beq_self_eq_true, if_true, Bool.and_eq_true] using hv
  have hz : ZeroV o := ⟨hv0, by simpa using hv.1.1, by have := hv.1.2; simp at this; omega, bytes_nil hv.2⟩
  rw [wrap_u (x := ((textLen o.tx : Nat) : Int)) (by omega), wrap_u (x := o.k + ((textLen o.tx : Nat) : Int)) (by omega), wrap_u (by omega)] at hend
  have hin : ∀ x ∈ namesOp o, inOwn o x = false := fun x hx => by
    rw [Bool.eq_false_iff]
    intro c
    have : (namesOp o).any (inOwn o) = true := List.any_eq_true.2 ⟨x, hx, c⟩
    rw [this] at hno; cases hno
  have own : ∀ x y : Int, (x, y) ∈ namesOp o → namedId x y = true → ¬ (x = o.c ∧ o.k ≤ y ∧ y < o.k + (lenOp o : Nat)) := fun x y hx hn hc => by
    have h := hin _ hx
    unfold inOwn at h
    have hnm := named_num hn
    have h2 : (x == o.c && decide (y ≥ o.k) && decide (IntKind.u64.wrap (y - o.k) < IntKind.u64.wrap (lenOp o))) = true := by
      rw [wrap_u (x := y - o.k) (by omega), wrap_u (x := ((lenOp o : Nat) : Int)) (by omega)]
      simp only [Bool.and_eq_true, decide_eq_true_eq, beq_iff_eq]
      omega
    rw [h2] at h; cases h
  exact ⟨hr'.1, hr'.2.1, hr'.2.2.1, by omega, hk, hst, hl, hrr, htx, by omega, by omega, by rw [hlen, textLen_of htx], hz, bytes_nil hkey, hpc, hpk, hfc, hfk, hfa, htc, htk, hta, own _ _ (.head _) hl, own _ _ (.tail _ (.head _)) hrr⟩
theorem bytesLess_refl : Op.bytesLess [] [] = false := rfl
theorem vcmp_zero {a b : OpD} (ha : ZeroV a) (hb : ZeroV b) : vcmp a b = 0 := by
  unfold vcmp
  rw [ha.k, ha.n, ha.f, ha.s, hb.k, hb.n, hb.f, hb.s]
  unfold cmp2
  rw [ByteArray.toList_eq]
  kernel_rfl
theorem same8_self {o : OpD} (h : ZeroV o) : same8 o o = true := by
  unfold same8 sameOp eqS
  rw [vcmp_zero h h]
  simp
/-- A piece. -/
def pieceO (o : OpD) (a b : Nat) : OpD :=
  { o with tx := textOf (encs (((runes o.tx.data.toList).take b).drop a)), k := o.k + a, lc := if 0 < a then o.c else o.lc, lk := if 0 < a then o.k + a - 1 else o.lk }
theorem cut_part {o : OpD} {n a b : Nat} (h : TextOp o n) (ha : a < n) : cutOp o a b = pieceO o a b := by
  have := h.k1
  have := h.k2
  have := h.n1
  have e1 : IntKind.u64.wrap (o.k + IntKind.u64.wrap ((a : Nat) : Int)) = o.k + a := by
    rw [wrap_u (x := ((a : Nat) : Int)) (by omega), wrap_u (by omega)]
  unfold cutOp pieceO cutR
  rw [e1, Int.toNat_natCast, Int.toNat_natCast]
  by_cases c : 0 < a
  · rw [if_pos (show (0 : Int) < (a : Nat) by omega), if_pos (show (0 : Int) < (a : Nat) by omega), if_pos c, if_pos c, wrap_u (x := o.k + ((a : Nat) : Int) - 1) (by omega)]
  · rw [if_neg (show ¬ (0 : Int) < (a : Nat) by omega), if_neg (show ¬ (0 : Int) < (a : Nat) by omega), if_neg c, if_neg c]
theorem sub_ok {l : List UInt8} (h : Lib.validD l = true) (a b : Nat) : ∀ r ∈ ((runes l).take b).drop a, okR r :=
  fun r hr => text_ok h r (List.mem_of_mem_take (List.mem_of_mem_drop hr))
theorem textOf_encs {s : ByteArray} (h : isText s = true) : textOf (encs (runes s.data.toList)) = s := by
  rw [text_encs h]; rfl
theorem part_runes {o : OpD} {n : Nat} (h : TextOp o n) (a b : Nat) : runes (pieceO o a b).tx.data.toList = ((runes o.tx.data.toList).take b).drop a ∧ isText (pieceO o a b).tx = true := by
  show runes (textOf _).data.toList = _ ∧ Lib.validD (textOf _).data.toList = true
  rw [textOf_data]
  exact runes_encs (sub_ok h.txt a b)
theorem part_len {o : OpD} {n : Nat} (h : TextOp o n) {a b : Nat} (hb : b ≤ n) : textLen (pieceO o a b).tx = b - a := by
  obtain ⟨h1, h2⟩ := part_runes h a b
  rw [textLen_of h2, h1, List.length_drop, List.length_take, h.len]; omega
theorem part_lenOp {o : OpD} {n : Nat} (h : TextOp o n) {a b : Nat} (hb : b ≤ n) : lenOp (pieceO o a b) = b - a := by
  rw [lenOp_of (show (pieceO o a b).kind = 1 from h.kind), part_len h hb]
theorem part_end {o : OpD} {n : Nat} (h : TextOp o n) {a b : Nat} (hab : a < b) (hb : b ≤ n) : endOp (pieceO o a b) = o.k + b := by
  unfold endOp
  rw [part_lenOp h hb]
  show IntKind.u64.wrap (o.k + (a : Nat) + IntKind.u64.wrap ((b - a : Nat) : Int)) = _
  have := h.k1
  have := h.k2
  have := h.n1
  rw [wrap_u (x := ((b - a : Nat) : Int)) (by omega), wrap_u (by omega)]
  omega
theorem part_zero {o : OpD} {n : Nat} (h : TextOp o n) (a b : Nat) : ZeroV (pieceO o a b) := ⟨h.z.k, h.z.n, h.z.f, h.z.s⟩
theorem part_bare {o : OpD} {n : Nat} (h : TextOp o n) (a b : Nat) : bareT (pieceO o a b) = pieceO o a b := by
  obtain ⟨c, k, kind, st, lc, lk, rc, rk, tx, vk, vn, vf, vs, key, pc, pk, fc, fk, fa, tc, tk, ta⟩ := o
  have e1 := h.kind
  have e2 := h.st
  have e3 := h.z.k
  have e4 := h.z.n
  have e5 := h.z.f
  have e6 := h.z.s
  have e7 := h.key
  have e8 := h.pc
  have e9 := h.pk
  have e10 := h.fc
  have e11 := h.fk
  have e12 := h.fa
  have e13 := h.tc
  have e14 := h.tk
  have e15 := h.ta
  simp only at e1 e2 e3 e4 e5 e6 e7 e8 e9 e10 e11 e12 e13 e14 e15
  subst e1; subst e2; subst e3; subst e4; subst e5; subst e6; subst e7; subst e8; subst e9; subst e10; subst e11; subst e12; subst e13; subst e14; subst e15
  rfl
theorem sameOp_refl (o : OpD) : sameOp true o o = true := by
  unfold sameOp eqS; simp
theorem bad_no {c k e x y : Int} (h : namedId x y = true) (hn : ¬ (x = c ∧ k ≤ y ∧ y < e)) : badName c k e x y = false := by
  unfold badName
  rw [h]
  have : inRg c k e x y = false := by
    rw [Bool.eq_false_iff]
    intro g
    unfold inRg at g
    simp only [Bool.and_eq_true, decide_eq_true_eq, beq_iff_eq] at g
    omega
  rw [this]; simp
theorem named_zero : namedId 0 0 = true := rfl
theorem part_chk {o : OpD} {n : Nat} (h : TextOp o n) {a b : Nat} (hab : a < b) (hb : b ≤ n) : chkT (pieceO o a b) = true := by
  have hc1 := h.c1
  have hc2 := h.c2
  have hk1 := h.k1
  have hk2 := h.k2
  have hn1 := h.n1
  have hl := part_len h (a := a) hb
  obtain ⟨hr1, hr2⟩ := part_runes h a b
  have hne : ((pieceO o a b).tx.toList == (⟨#[]⟩ : ByteArray).toList) = false := by
    rw [Bool.eq_false_iff]
    intro c
    rw [bytes_nil c, textLen_of rfl] at hl
    have : (runes (⟨#[]⟩ : ByteArray).data.toList).length = 0 := rfl
    omega
  unfold chkT rightT
  rw [part_bare h, sameOp_refl, part_end h hab hb, hr2, hne, hl]
  have e1 : rightId (pieceO o a b).c (pieceO o a b).k = true := right_num.2 ⟨hc1, hc2, by show 1 ≤ o.k + (a : Nat); omega, by show o.k + (a : Nat) ≤ _; omega⟩
  rw [e1, wrap_u (by omega)]
  have e2 : ((namesOp (pieceO o a b)).any fun x => badName (pieceO o a b).c (pieceO o a b).k (o.k + (b : Nat)) x.1 x.2) = false := by
    rw [Bool.eq_false_iff]
    intro g
    obtain ⟨x, hx, hb'⟩ := List.any_eq_true.1 g
    have zero : badName (pieceO o a b).c (pieceO o a b).k (o.k + (b : Nat)) 0 0 = false := bad_no named_zero (fun z => by have : (0 : Int) = o.c := z.1; omega)
    have hx : x = ((pieceO o a b).lc, (pieceO o a b).lk) ∨ x = (o.rc, o.rk) ∨ x = (o.fc, o.fk) ∨ x = (o.tc, o.tk) ∨ x = (o.pc, o.pk) := by
      have hx : x ∈ [((pieceO o a b).lc, (pieceO o a b).lk), (o.rc, o.rk), (o.fc, o.fk), (o.tc, o.tk), (o.pc, o.pk)] := hx
      simpa using hx
    rcases hx with rfl | rfl | rfl | rfl | rfl
    · by_cases c : 0 < a
      · have f1 : (pieceO o a b).lc = o.c := if_pos c
        have f2 : (pieceO o a b).lk = o.k + a - 1 := if_pos c
        rw [f1, f2] at hb'
        rw [bad_no (by unfold namedId; rw [right_num.2 ⟨hc1, hc2, by omega, by omega⟩]; simp) (fun z => by have := z.2.1; have : o.k + (a : Nat) ≤ o.k + (a : Nat) - 1 := this; omega)] at hb'
        cases hb'
      · have f1 : (pieceO o a b).lc = o.lc := if_neg c
        have f2 : (pieceO o a b).lk = o.lk := if_neg c
        rw [f1, f2] at hb'
        have hb' : badName o.c (o.k + (a : Nat)) (o.k + (b : Nat)) o.lc o.lk = true := hb'
        rw [bad_no h.l (fun z => h.inl ⟨z.1, by have := z.2.1; omega, by have := z.2.2; omega⟩)] at hb'
        cases hb'
    · have hb' : badName o.c (o.k + (a : Nat)) (o.k + (b : Nat)) o.rc o.rk = true := hb'
      rw [bad_no h.r (fun z => h.inr ⟨z.1, by have := z.2.1; omega, by have := z.2.2; omega⟩)] at hb'
      cases hb'
    · rw [h.fc, h.fk, zero] at hb'; cases hb'
    · rw [h.tc, h.tk, zero] at hb'; cases hb'
    · rw [h.pc, h.pk, zero] at hb'; cases hb'
  rw [e2, decide_eq_true (show ((b - a : Nat) : Int) ≤ 4096 by omega), decide_eq_true (show o.k + (b : Nat) - 1 ≤ 9007199254740991 by omega)]
  rfl
end Go.Q
