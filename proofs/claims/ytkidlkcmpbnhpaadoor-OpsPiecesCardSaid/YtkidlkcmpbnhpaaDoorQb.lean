/-
  More operators, as stops of the walk: bits, shifts, bytes of a string, parts of strings and rows. Conditions: as stated at each.
-/
import Derived.Test.YtkidlkcmpbnhpaaDoorQa
namespace Go.Q
open Go Go.Proofs.Tryd
set_option maxRecDepth 100000
variable {L : Nat → Prop} {gd : Gd} {F : Tr} {H : List Ck} {E : List Fact}
/-- An operator on two integers. -/
theorem VRawNode.int {o : Oper} {T T2 : TypeId} {op : BinOp} {x y : Operand} {k1 k2 : IntKind} {a b : Int} {r : Value} {k : Value → Prop} (ho : o.op = .binOp op T x y T2) (hx : useK gd F x fun z => z = .v (.int k1 a)) (hy : useK gd F y fun z => z = .v (.int k2 b))
    (hr : gd.holds → ∀ w, (binOp op T (.int k1 a) (.int k2 b)).run P w = .ok r w) (hk : k r) : VRawNode P τ L gd o F H E k := by
  refine VRawNode.mk r (fun hg β w c hok hev => ?_) hk
  obtain ⟨dst, op', ty, pos, aft, grd⟩ := o
  simp only at ho
  subst ho
  have h1 : c.eval x = .int k1 a := hev x _ hx
  have h2 : c.eval y = .int k2 b := hev y _ hy
  simp [execOp, h1, h2, eqGuard_int, hr hg]
/-- Bits. -/
theorem VRawNode.band {o : Oper} {T T2 : TypeId} {op : BinOp} {x y : Operand} {k1 : IntKind} {a b : Int} {k : Value → Prop} (ho : o.op = .binOp op T x y T2) (hx : useK gd F x fun z => z = .v (.int k1 a)) (hy : useK gd F y fun z => z = .v (.int k1 b))
    (hop : op = .and ∨ op = .or ∨ op = .xor ∨ op = .andNot) (hk : k (.int k1 (bits op k1 a b))) : VRawNode P τ L gd o F H E k :=
  VRawNode.int ho hx hy (fun _ w => by rcases hop with rfl | rfl | rfl | rfl <;> simp [binOp, intBits_and, intBits_or, intBits_xor, intBits_andNot]) hk
/-- A shift by a number that is known. -/
theorem VRawNode.shlN {o : Oper} {T T2 : TypeId} {x y : Operand} {k1 k2 : IntKind} {a : Int} {k : Value → Prop} (n : Nat) (ho : o.op = .binOp .shl T x y T2) (hx : useK gd F x fun z => z = .v (.int k1 a)) (hy : useK gd F y fun z => z = .v (.int k2 n))
    (hn : n ≤ k1.bits) (hk : k (.int k1 (k1.wrap (a * 2 ^ n)))) : VRawNode P τ L gd o F H E k :=
  VRawNode.int ho hx hy (fun _ w => by
    have h1 : ¬ ((n : Int) < 0) := by omega
    have h2 : min n k1.bits = n := Nat.min_eq_left hn
    show (Op.shift .shl k1 a k2 n).run P w = _
    simp [Op.shift, h1, h2]) hk
theorem VRawNode.shrN {o : Oper} {T T2 : TypeId} {x y : Operand} {k1 k2 : IntKind} {a : Int} {k : Value → Prop} (n : Nat) (ho : o.op = .binOp .shr T x y T2) (hx : useK gd F x fun z => z = .v (.int k1 a)) (hy : useK gd F y fun z => z = .v (.int k2 n))
    (hn : n ≤ k1.bits) (hk : k (.int k1 (a.fdiv (2 ^ n)))) : VRawNode P τ L gd o F H E k :=
  VRawNode.int ho hx hy (fun _ w => by
    have h1 : ¬ ((n : Int) < 0) := by omega
    have h2 : min n k1.bits = n := Nat.min_eq_left hn
    show (Op.shift .shr k1 a k2 n).run P w = _
    simp [Op.shift, h1, h2]) hk
theorem VRawNode.rem {o : Oper} {T T2 : TypeId} {x y : Operand} {k1 : IntKind} {a b : Int} {k : Value → Prop} (ho : o.op = .binOp .rem T x y T2) (hx : useK gd F x fun z => z = .v (.int k1 a)) (hy : useK gd F y fun z => z = .v (.int k1 b))
    (hb : gd.holds → b ≠ 0) (hk : k (.int k1 (a.tmod b))) : VRawNode P τ L gd o F H E k :=
  VRawNode.int ho hx hy (fun hg w => by
    simp [binOp, Op.intDiv, hb hg]) hk
theorem VRawNode.quo {o : Oper} {T T2 : TypeId} {x y : Operand} {k1 : IntKind} {a b : Int} {k : Value → Prop} (ho : o.op = .binOp .quo T x y T2) (hx : useK gd F x fun z => z = .v (.int k1 a)) (hy : useK gd F y fun z => z = .v (.int k1 b))
    (hb : gd.holds → b ≠ 0) (hk : k (.int k1 (k1.wrap (a.tdiv b)))) : VRawNode P τ L gd o F H E k :=
  VRawNode.int ho hx hy (fun hg w => by
    simp [binOp, Op.intDiv, hb hg]) hk
/-- Two texts, one behind the other. -/
theorem VRawNode.cat {o : Oper} {T T2 : TypeId} {x y : Operand} {a b : ByteArray} {k : Value → Prop} (ho : o.op = .binOp .add T x y T2) (hx : useK gd F x fun z => z = .v (.string a)) (hy : useK gd F y fun z => z = .v (.string b))
    (hs : gd.holds → a.size + b.size < 2 ^ 62) (hk : k (.string (a ++ b))) : VRawNode P τ L gd o F H E k := by
  refine VRawNode.mk _ (fun hg β w c hok hev => ?_) hk
  obtain ⟨dst, op', ty, pos, aft, grd⟩ := o
  simp only at ho
  subst ho
  have h1 : c.eval x = .string a := hev x _ hx
  have h2 : c.eval y = .string b := hev y _ hy
  have h3 := hs hg
  have h4 : ¬ (9223372036854775807 < (a.size : Int) + b.size) := by omega
  have hg : (eqGuard .add T x y (.string a) (.string b)).run P w = .ok () w := by unfold eqGuard; rfl
  have hb : (binOp .add T (.string a) (.string b)).run P w = .ok (.string (a ++ b)) w := by
    simp [binOp, Op.stringOp, h4]
  simp [execOp, h1, h2, hg, hb]
/-- A byte of a string. -/
theorem VRawNode.byte {o : Oper} {T : TypeId} {x y : Operand} {s : ByteArray} {ki : IntKind} {z : Int} {k : Value → Prop} (i : Nat) (c : UInt8) (ho : o.op = .index T x y) (hT : (τ.ti T).kind = .string) (hx : useK gd F x fun z => z = .v (.string s))
    (hy : useK gd F y fun q => q = .v (.int ki z)) (hz : gd.holds → z = i) (hi : gd.holds → s.data.toList[i]? = some c) (hk : k (.int .u8 c.toNat)) : VRawNode P τ L gd o F H E k := by
  refine VRawNode.mk _ (fun hg β w a hok hev => ?_) hk
  obtain ⟨dst, op', ty, pos, aft, grd⟩ := o
  simp only at ho
  subst ho
  have h1 : a.eval x = .string s := hev x _ hx
  have h2 : a.eval y = .int ki z := hev y _ hy
  have h3 : s[i]? = some c := by
    have := hi hg
    rw [Array.getElem?_toList] at this
    obtain ⟨h4, h5⟩ := Array.getElem?_eq_some_iff.1 this
    have h6 : i < s.size := h4
    rw [getElem?_pos s i h6]
    exact congrArg some h5
  simp [execOp, h1, h2, Instr.index, asIntOf, run_underlying (kind_string hτ hT), hz hg, h3]
/-- Part of a string. -/
theorem VRawNode.partS {o : Oper} {T : TypeId} {x lo hi : Operand} {s : ByteArray} {k1 k2 : IntKind} {z1 z2 : Int} {k : Value → Prop} (a b : Nat) (ho : o.op = .slice T x (some lo) (some hi) none) (hT : (τ.ti T).kind = .string) (hx : useK gd F x fun z => z = .v (.string s))
    (hlo : useK gd F lo fun q => q = .v (.int k1 z1)) (hhi : useK gd F hi fun q => q = .v (.int k2 z2)) (h1 : gd.holds → z1 = a) (h2 : gd.holds → z2 = b) (hab : gd.holds → a ≤ b ∧ b ≤ s.size) (hk : k (.string (s.extract a b))) : VRawNode P τ L gd o F H E k := by
  refine VRawNode.mk _ (fun hg β w c hok hev => ?_) hk
  obtain ⟨dst, op', ty, pos, aft, grd⟩ := o
  simp only at ho
  subst ho
  have e1 : c.eval x = .string s := hev x _ hx
  have e2 : c.eval lo = .int k1 z1 := hev lo _ hlo
  have e3 : c.eval hi = .int k2 z2 := hev hi _ hhi
  obtain ⟨h3, h4⟩ := hab hg
  simp [execOp, e1, e2, e3, Instr.sliceAt, Instr.slice, Instr.sliceBounds, Instr.sliceBound, asIntOf, run_underlying (kind_string hτ hT), h1 hg, h2 hg, h3, h4]
theorem VRawNode.partFrom {o : Oper} {T : TypeId} {x lo : Operand} {s : ByteArray} {k1 : IntKind} {z1 : Int} {k : Value → Prop} (a : Nat) (ho : o.op = .slice T x (some lo) none none) (hT : (τ.ti T).kind = .string) (hx : useK gd F x fun z => z = .v (.string s))
    (hlo : useK gd F lo fun q => q = .v (.int k1 z1)) (h1 : gd.holds → z1 = a) (hab : gd.holds → a ≤ s.size) (hk : k (.string (s.extract a s.size))) : VRawNode P τ L gd o F H E k := by
  refine VRawNode.mk _ (fun hg β w c hok hev => ?_) hk
  obtain ⟨dst, op', ty, pos, aft, grd⟩ := o
  simp only at ho
  subst ho
  have e1 : c.eval x = .string s := hev x _ hx
  have e2 : c.eval lo = .int k1 z1 := hev lo _ hlo
  have h3 := hab hg
  simp [execOp, e1, e2, Instr.sliceAt, Instr.slice, Instr.sliceBounds, Instr.sliceBound, asIntOf, run_underlying (kind_string hτ hT), h1 hg, h3]
/-- Part of a row. -/
theorem VRawNode.rowPart {o : Oper} {T : TypeId} {x lo hi : Operand} {b0 o0 n cap : Nat} {k1 k2 : IntKind} {z1 z2 : Int} {k : Value → Prop} (a b : Nat) (ho : o.op = .slice T x (some lo) (some hi) none) (hT : (τ.ti T).kind = .slice) (hE : (τ.ti (τ.ti T).elem).kind ≠ .other)
    (hx : useK gd F x fun z => z = .v (.slice (some ⟨b0, o0, none⟩) n cap))
    (hlo : useK gd F lo fun q => q = .v (.int k1 z1)) (hhi : useK gd F hi fun q => q = .v (.int k2 z2)) (h1 : gd.holds → z1 = a) (h2 : gd.holds → z2 = b) (hab : gd.holds → a ≤ b ∧ b ≤ cap)
    (hk : k (.slice (some (if cap = a then ⟨b0, o0, none⟩ else ⟨b0, o0 + a * (τ.ti (τ.ti T).elem).size, none⟩)) (b - a) (cap - a))) : VRawNode P τ L gd o F H E k := by
  refine VRawNode.mk _ (fun hg β w c hok hev => ?_) hk
  obtain ⟨dst, op', ty, pos, aft, grd⟩ := o
  simp only at ho
  subst ho
  have e1 : c.eval x = .slice (some ⟨b0, o0, none⟩) n cap := hev x _ hx
  have e2 : c.eval lo = .int k1 z1 := hev lo _ hlo
  have e3 : c.eval hi = .int k2 z2 := hev hi _ hhi
  obtain ⟨h3, h4⟩ := hab hg
  simp [execOp, e1, e2, e3, Instr.sliceAt, Instr.slice, Instr.sliceBounds, Instr.sliceBound, asIntOf, run_underlying (slice_info hT), run_sizeOf hτ hE, h1 hg, h2 hg, h3, h4, addr_add]
  split <;> rfl
end Go.Q
