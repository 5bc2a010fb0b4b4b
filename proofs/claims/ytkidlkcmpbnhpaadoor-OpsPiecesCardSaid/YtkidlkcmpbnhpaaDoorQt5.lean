/-
  More stops of the walk: the lesser of two numbers; texts to runes and back; parts of rows. Conditions: as stated at each.
-/
import Derived.Test.YtkidlkcmpbnhpaaDoorQt4
import Derived.Laws.IdiomStrings
import Derived.WalkSpells
namespace Go.Q
open Go Go.Proofs Go.Proofs.Tryd
set_option maxRecDepth 100000
variable {L : Nat → Prop} {gd : Gd} {F : Tr} {H : List Ck} {E : List Fact}
theorem RawNode.min2 {o : Oper} {k : PV → List Ck → List Fact → Prop} {x y : Operand} {ts : Array TypeId} {k1 : IntKind} {a b : Int} (ho : o.op = .call ⟨.builtin .min, #[x, y], ts⟩) (hx : ldK F x fun s => s = .n (.v (.int k1 a))) (hy : ldK F y fun s => s = .n (.v (.int k1 b)))
    (hk : k (.v (.int k1 (if b < a then b else a))) H E) : RawNode P τ L o F H E k := by
  refine RawNode.val _ (fun β w c hok hev => ?_) hk
  obtain ⟨dst, op, ty, pos, aft, grd⟩ := o
  simp only at ho
  subst ho
  have h1 : c.eval x = .int k1 a := hev x _ hx
  have h2 : c.eval y = .int k1 b := hev y _ hy
  simp [execOp, resolve, invoke, builtin, h1, h2, Builtin.min_, Builtin.min2]
theorem RawNode.max2 {o : Oper} {k : PV → List Ck → List Fact → Prop} {x y : Operand} {ts : Array TypeId} {k1 : IntKind} {a b : Int} (ho : o.op = .call ⟨.builtin .max, #[x, y], ts⟩) (hx : ldK F x fun s => s = .n (.v (.int k1 a))) (hy : ldK F y fun s => s = .n (.v (.int k1 b)))
    (hk : k (.v (.int k1 (if b > a then b else a))) H E) : RawNode P τ L o F H E k := by
  refine RawNode.val _ (fun β w c hok hev => ?_) hk
  obtain ⟨dst, op, ty, pos, aft, grd⟩ := o
  simp only at ho
  subst ho
  have h1 : c.eval x = .int k1 a := hev x _ hx
  have h2 : c.eval y = .int k1 b := hev y _ hy
  simp [execOp, resolve, invoke, builtin, h1, h2, Builtin.max_, Builtin.max2]
theorem runesFrom_list (s : ByteArray) : ∀ (fuel pos : Nat) (acc : Array Value), s.size ≤ pos + fuel → (Conv.runesFrom s fuel pos acc).toList = acc.toList ++ runeCells (runes (s.data.toList.drop pos))
  | 0, pos, acc, h => by
    rw [List.drop_of_length_le (by rw [sz_list]; omega)]; simp [Conv.runesFrom, runeCells, runes, runesF]
  | fuel + 1, pos, acc, h => by
    unfold Conv.runesFrom
    rcases Nat.lt_or_ge pos s.size with h1 | h1
    · have hne : s.data.toList.drop pos ≠ [] := fun e => by have := congrArg List.length e; rw [List.length_drop, sz_list] at this; simp at this; omega
      have hw := Lib.decode_width_pos s pos h1
      rw [if_pos h1, runesFrom_list s fuel _ _ (by omega), runes_step hne, Lib.decodeL_drop, List.drop_drop]
      simp [runeCells]
    · rw [if_neg (by omega), List.drop_of_length_le (by rw [sz_list]; omega)]; simp [runeCells, runes, runesF]
/-- A text as a row of runes. -/
theorem RawNode.toRunes {o : Oper} {k : PV → List Ck → List Fact → Prop} {x : Operand} {S T : TypeId} {s : ByteArray} (ho : o.op = .convert S T x) (hS : (τ.ti S).kind = .string) (hT : (τ.ti T).kind = .slice) (hE : (τ.ti T).elem = 21) (hx : ldK F x fun z => z = .n (.v (.string s))) (hs : s.size < 2 ^ 40)
    (hk : ∀ b cap cs, (runes s.data.toList).length ≤ cap → cs.length = cap → cs.take (runes s.data.toList).length = runeCells (runes s.data.toList) →
      k (.v (.slice (some ⟨b, 0, none⟩) (runes s.data.toList).length cap)) (H ++ [.row 21 cs (some b)]) E) : RawNode P τ L o F H E k := by
  constructor
  intro β w a hok hev
  obtain ⟨dst, op, ty, pos, aft, grd⟩ := o
  simp only at ho
  subst ho
  have h1 : a.eval x = .string s := hev x _ hx
  have hd := slice_info hT
  rw [hE] at hd
  have hl := runesFrom_list s s.size 0 #[] (by omega)
  simp only [List.drop_zero, List.nil_append] at hl
  have hsz : (Conv.runesFrom s s.size 0 #[]).size = (runes s.data.toList).length := by
    rw [← Array.length_toList, hl]; simp [runeCells]
  have hle := runes_le s.data.toList
  rw [sz_list] at hle
  have hrun := run_runes_of_string (P := P) w S T 21 s (kind_string hτ hS) hd underlying21 (by rw [hsz]; omega)
  rw [hsz] at hrun
  have hge := grownCap_ge w (runes s.data.toList).length 0 21
  let cs := (Conv.runesFrom s s.size 0 #[] ++ Array.replicate (grownCap w (runes s.data.toList).length 0 21 - (runes s.data.toList).length) (Value.int .i32 0)).toList
  have hcs : cs = runeCells (runes s.data.toList) ++ List.replicate (grownCap w (runes s.data.toList).length 0 21 - (runes s.data.toList).length) (Value.int .i32 0) := by
    show (_ ++ _ : Array Value).toList = _
    rw [Array.toList_append, hl]; simp
  have hrl : (runeCells (runes s.data.toList)).length = (runes s.data.toList).length := by simp [runeCells]
  have hOk := hok.drew.add (.row 21 cs (some w.heap.size)) (Nat.le_refl 0) (fun b e => by injection e with e; exact e.symm) (fun ty cs x e => by cases e)
  refine ⟨.v (.slice (some ⟨w.heap.size, 0, none⟩) (runes s.data.toList).length (grownCap w (runes s.data.toList).length 0 21)), _, E, _, _, .inl ?_, fun q hq => ext_lt hq, by simp, fun q d h1 h2 => ?_, trivial, hOk,
    ⟨rfl, rfl, rfl, (by show w.heap.size ≤ (w.heap.push _).size; simp), fun q hq _ => (by
      show (w.heap.push _)[q]? = _
      rw [Array.getElem?_push, if_neg (by omega)])⟩, hk _ _ cs hge ?_ ?_⟩
  · simp only [execOp, h1]
    simp only [Sem.run_bind, hrun]
    rfl
  · rcases mem_append_one h1 with ⟨a1, a2⟩ | ⟨rfl, _⟩
    · rw [ext_lt a2]; exact .inr ⟨q, d, a1, h2, rfl⟩
    · rw [ext_eq]; exact .inl (Nat.le_refl _)
  · rw [hcs, List.length_append, hrl, List.length_replicate]; omega
  · rw [hcs, ← hrl, List.take_left']; rfl
/-- A row of runes as a text. -/
theorem VRawNode.ofRunes {o : Oper} {k : Value → Prop} {x : Operand} {S T : TypeId} {b off n cap : Nat} (rs : List Nat) (ho : o.op = .convert S T x) (hS : (τ.ti S).kind = .slice) (hE : (τ.ti S).elem = 21) (hT : (τ.ti T).kind = .string) (hx : useK gd F x fun z => z = .v (.slice (some ⟨b, off, none⟩) n cap)) (hn : n = rs.length)
    (hc : gd.holds → ∀ β w, Ok τ L β H E w → ∀ (j : Nat) (v : Value), (runeCells rs)[j]? = some v → w.cell? ⟨b, off + j, none⟩ = some v) (hk : k (.string (textOf (encs rs)))) : VRawNode P τ L gd o F H E k := by
  refine VRawNode.mk _ (fun hg β w a hok hev => ?_) hk
  obtain ⟨dst, op', ty, pos, aft, grd⟩ := o
  simp only at ho
  subst ho
  have h1 : a.eval x = .slice (some ⟨b, off, none⟩) n cap := hev x _ hx
  have hs := slice_info hS
  rw [hE] at hs
  have hrun := run_convert_runes (P := P) w S T 21 ⟨b, off, none⟩ n cap (rs.map Int.ofNat) (by simp [hn]) hs underlying21 (kind_string hτ hT) (fun j hj => by
    have hj' : j < rs.length := by simpa using hj
    have h2 : (runeCells rs)[j]? = some (.int .i32 ((rs[j]'hj' : Nat) : Int)) := by simp [runeCells, List.getElem?_eq_getElem hj']
    rw [addr_add, hc hg β w hok j _ h2]
    simp [List.getD_eq_getElem?_getD, List.getElem?_eq_getElem hj'])
  have e2 : runesBytes ((rs.map Int.ofNat).take n) = textOf (encs rs) := by
    rw [List.take_of_length_le (by simp [hn])]
    exact of_data (by unfold runesBytes; rw [runesBytes_encs]; rfl)
  simp only [execOp, h1, Sem.run_bind, hrun, e2]
  rfl
/-- The first of a row; all behind the first ones. -/
theorem VRawNode.rowTo {o : Oper} {T : TypeId} {x hi : Operand} {b0 o0 n cap : Nat} {k2 : IntKind} {z2 : Int} {k : Value → Prop} (b : Nat) (ho : o.op = .slice T x none (some hi) none) (hT : (τ.ti T).kind = .slice) (hE : (τ.ti (τ.ti T).elem).kind ≠ .other)
    (hx : useK gd F x fun z => z = .v (.slice (some ⟨b0, o0, none⟩) n cap)) (hhi : useK gd F hi fun q => q = .v (.int k2 z2)) (h2 : gd.holds → z2 = b) (hab : gd.holds → b ≤ cap)
    (hk : k (.slice (some ⟨b0, o0, none⟩) b cap)) : VRawNode P τ L gd o F H E k := by
  refine VRawNode.mk _ (fun hg β w c hok hev => ?_) hk
  obtain ⟨dst, op', ty, pos, aft, grd⟩ := o
  simp only at ho
  subst ho
  have e1 : c.eval x = .slice (some ⟨b0, o0, none⟩) n cap := hev x _ hx
  have e3 : c.eval hi = .int k2 z2 := hev hi _ hhi
  have h4 := hab hg
  simp [execOp, e1, e3, Instr.sliceAt, Instr.slice, Instr.sliceBounds, Instr.sliceBound, asIntOf, run_underlying (slice_info hT), run_sizeOf hτ hE, h2 hg, h4, addr_add]
theorem VRawNode.rowFrom {o : Oper} {T : TypeId} {x lo : Operand} {b0 o0 n cap : Nat} {k1 : IntKind} {z1 : Int} {k : Value → Prop} (a : Nat) (ho : o.op = .slice T x (some lo) none none) (hT : (τ.ti T).kind = .slice) (hE : (τ.ti (τ.ti T).elem).kind ≠ .other)
    (hx : useK gd F x fun z => z = .v (.slice (some ⟨b0, o0, none⟩) n cap)) (hlo : useK gd F lo fun q => q = .v (.int k1 z1)) (h1 : gd.holds → z1 = a) (hab : gd.holds → a ≤ n ∧ n ≤ cap)
    (hk : k (.slice (some (if cap = a then ⟨b0, o0, none⟩ else ⟨b0, o0 + a * (τ.ti (τ.ti T).elem).size, none⟩)) (n - a) (cap - a))) : VRawNode P τ L gd o F H E k := by
  refine VRawNode.mk _ (fun hg β w c hok hev => ?_) hk
  obtain ⟨dst, op', ty, pos, aft, grd⟩ := o
  simp only at ho
  subst ho
  have e1 : c.eval x = .slice (some ⟨b0, o0, none⟩) n cap := hev x _ hx
  have e2 : c.eval lo = .int k1 z1 := hev lo _ hlo
  obtain ⟨h3, h4⟩ := hab hg
  simp [execOp, e1, e2, Instr.sliceAt, Instr.slice, Instr.sliceBounds, Instr.sliceBound, asIntOf, run_underlying (slice_info hT), run_sizeOf hτ hE, h1 hg, h3, h4, addr_add]
  split <;> rfl
/-- A slice held against nil. -/
theorem VRawNode.isNil {o : Oper} {T T2 : TypeId} {x y : Operand} {ao : Option Addr} {n cap : Nat} {k : Value → Prop} (ho : o.op = .binOp .eql T x y T2) (hT : (τ.ti T).kind = .slice) (hx : useK gd F x fun z => z = .v (.slice ao n cap)) (hy : useK gd F y fun z => z = .v (.slice none 0 0)) (hk : k (.bool ao.isNone)) : VRawNode P τ L gd o F H E k := by
  refine VRawNode.mk _ (fun hg β w c hok hev => ?_) hk
  obtain ⟨dst, op', ty, pos, aft, grd⟩ := o
  simp only at ho
  subst ho
  have e1 : c.eval x = .slice ao n cap := hev x _ hx
  have e2 : c.eval y = .slice none 0 0 := hev y _ hy
  have hb : (binOp .eql T (.slice ao n cap) (.slice none 0 0)).run P w = .ok (.bool ao.isNone) w := by
    simp only [binOp]
    simp [Op.equal, Op.maxDepth, Lib.run_equalIn_slice_nil w 9999 T _ ao n cap 0 0 (slice_info hT)]
  have hg : (eqGuard .eql T x y (.slice ao n cap) (.slice none 0 0)).run P w = .ok () w := by unfold eqGuard; rfl
  simp [execOp, e1, e2, hg, hb]
end Go.Q
