/-
  quireref2.Cmp; quireref8.Same, ops.Same, sameAll. Conditions: as stated at each.
-/
import Derived.Test.YtkidlkcmpbnhpaaDoorQo2
namespace Go.Q
open Go Go.Proofs.Tryd
set_option maxRecDepth 100000
variable {L : Nat → Prop} {H : List Ck} {E : List Fact}
theorem tInts (a b : Int) : Tells 69 [.int .i64 a, .int .i64 b] [.int .i64 (cmpI a b)] :=
  Tells.of 4 func69 (by kernel_rfl) fun L => by
    refine JoinNode.both (fun h => ?_) (fun h => ?_)
    · exact show _ = _ by unfold cmpI; rw [if_pos (of_decide_eq_true h)]; rfl
    · refine JoinNode.both (fun h2 => ?_) (fun h2 => ?_)
      · exact show _ = _ by unfold cmpI; rw [if_neg (of_decide_eq_false h), if_pos (of_decide_eq_true h2)]; rfl
      · exact show _ = _ by unfold cmpI; rw [if_neg (of_decide_eq_false h), if_neg (of_decide_eq_false h2)]; rfl
/-- A float's bits, in the document's order. -/
def isNaNF (f : Nat) : Bool := FloatKind.f64.format.order f f != some .eq
def orderF (f : Nat) : Int :=
  if isNaNF f = true then 9223372036854775807
  else if decide (IntKind.i64.wrap f < 0) = true then IntKind.i64.wrap (-1 - bits .and .i64 (IntKind.i64.wrap f) 9223372036854775807)
  else IntKind.i64.wrap f
theorem tOrder (f : Nat) : Tells 70 [.float .f64 f] [.int .i64 (orderF f)] :=
  Tells.of 5 func70 (by kernel_rfl) fun L => by
    refine VRawNode.float rfl rfl rfl rfl ?_
    refine JoinNode.both (fun h => ?_) (fun h => ?_)
    · exact show _ = _ by unfold orderF; rw [if_pos (show isNaNF f = true from h)]; rfl
    refine RawNode.ext1 rfl rfl (bits64 f) ?_
    refine JoinNode.both (fun h2 => ?_) (fun h2 => ?_)
    · refine VRawNode.band rfl rfl rfl (.inl rfl) ?_
      exact show _ = _ by unfold orderF; rw [if_neg (show ¬ isNaNF f = true by rw [show isNaNF f = false from h]; simp), if_pos h2]; rfl
    · exact show _ = _ by unfold orderF; rw [if_neg (show ¬ isNaNF f = true by rw [show isNaNF f = false from h]; simp), if_neg (by rw [h2]; simp)]; rfl
def cmp2 (k n : Int) (f : Nat) (s : ByteArray) (k' n' : Int) (f' : Nat) (s' : ByteArray) : Int :=
  let c1 := cmpI k k'
  let c2 := if (c1 == 0) = true then cmpI n n' else c1
  let c3 := if (c2 == 0) = true then cmpI (orderF f) (orderF f') else c2
  if (c3 != 0) = true then c3 else if Op.bytesLess s.toList s'.toList = true then -1 else if (!(Op.bytesLess s.toList s'.toList || s.toList == s'.toList)) = true then 1 else 0
set_option maxHeartbeats 1000000 in
theorem tCmp2 (k n : Int) (f : Nat) (s : ByteArray) (k' n' : Int) (f' : Nat) (s' : ByteArray) : Tells 52 [vVal k n f s, vVal k' n' f' s'] [.int .i64 (cmp2 k n f s k' n' f' s')] :=
  Tells.of 6 func52 (by kernel_rfl) fun L => by
    refine CallNode.tells (tInts k k') ?_
    have fin : ∀ c1 c2 c3 : Int, c1 = cmpI k k' → c2 = (if (c1 == 0) = true then cmpI n n' else c1) → c3 = (if (c2 == 0) = true then cmpI (orderF f) (orderF f') else c2) →
        cmp2 k n f s k' n' f' s' = (if (c3 != 0) = true then c3 else if Op.bytesLess s.toList s'.toList = true then -1 else if (!(Op.bytesLess s.toList s'.toList || s.toList == s'.toList)) = true then 1 else 0) := by
      intro c1 c2 c3 e1 e2 e3; subst e1; subst e2; subst e3; rfl
    refine JoinNode.both (fun h1 => ?_) (fun h1 => ?_)
    · refine CallNode.tells (tInts n n') ?_
      refine JoinNode.both (fun h2 => ?_) (fun h2 => ?_)
      · refine DrawNode.quiet (by kernel_rfl) (VCallNode.tells (fun _ => tOrder f) (VCallNode.tells (fun _ => tOrder f') (VCallNode.tells (fun _ => tInts _ _) ?_)))
        have e := fin _ _ _ rfl (if_pos h1).symm (if_pos h2).symm
        refine JoinNode.both (fun h3 => ?_) (fun h3 => ?_)
        · exact show _ = _ by rw [e, if_pos h3]; rfl
        refine JoinNode.both (fun h4 => ?_) (fun h4 => ?_)
        · exact show _ = _ by rw [e, if_neg (by have h3 : (cmpI (orderF f) (orderF f') != 0) = false := h3; rw [h3]; simp), if_pos h4]; rfl
        refine JoinNode.both (fun h5 => ?_) (fun h5 => ?_)
        · exact show _ = _ by rw [e, if_neg (by have h3 : (cmpI (orderF f) (orderF f') != 0) = false := h3; rw [h3]; simp), if_neg (by have h4 : Op.bytesLess s.toList s'.toList = false := h4; rw [h4]; simp), if_pos h5]; rfl
        · exact show _ = _ by rw [e, if_neg (by have h3 : (cmpI (orderF f) (orderF f') != 0) = false := h3; rw [h3]; simp), if_neg (by have h4 : Op.bytesLess s.toList s'.toList = false := h4; rw [h4]; simp), if_neg (by have h5 : (!(Op.bytesLess s.toList s'.toList || s.toList == s'.toList)) = false := h5; rw [h5]; simp)]; rfl
      · have h2' : (cmpI n n' == 0) = false := h2
        have e := fin _ _ _ rfl (if_pos h1).symm (if_neg (by rw [h2']; simp)).symm
        refine JoinNode.yes (show (cmpI n n' != 0) = true by rw [bne, h2']; rfl) ?_
        exact show _ = _ by rw [e, if_pos (by rw [bne, h2']; rfl)]; rfl
    · have h1' : (cmpI k k' == 0) = false := h1
      refine JoinNode.no h1' ?_
      have e := fin _ _ _ rfl (if_neg (by rw [h1']; simp)).symm (if_neg (by rw [h1']; simp)).symm
      refine JoinNode.yes (show (cmpI k k' != 0) = true by rw [bne, h1']; rfl) ?_
      exact show _ = _ by rw [e, if_pos (by rw [bne, h1']; rfl)]; rfl
def eqS (a b : ByteArray) : Bool := a.toList == b.toList
/-- Two operations, alike but for their values; v: these. -/
def sameOp (v : Bool) (a b : OpD) : Bool :=
  (a.c == b.c && a.k == b.k) && (a.kind == b.kind) && (a.st == b.st) && (a.lc == b.lc && a.lk == b.lk) && (a.rc == b.rc && a.rk == b.rk) && eqS a.tx b.tx && v && eqS a.key b.key && (a.pc == b.pc && a.pk == b.pk) && (a.fc == b.fc && a.fk == b.fk && a.fa == b.fa) && (a.tc == b.tc && a.tk == b.tk && a.ta == b.ta)
def vcmp (a b : OpD) : Int := cmp2 a.vk a.vn a.vf a.vs b.vk b.vn b.vf b.vs
set_option maxHeartbeats 1000000 in
theorem tSame8 (a b : OpD) : Tells 27 [vOp a, vOp b] [.bool (sameOp (vcmp a b == 0) a b)] :=
  Tells.of 7 func27 (by kernel_rfl) fun L => by
    refine VRawNode.eqlId rfl rfl rfl ?_
    refine VRawNode.eqlId rfl rfl rfl ?_
    refine VRawNode.eqlId rfl rfl rfl ?_
    refine VCallNode.tells (fun _ => tCmp2 a.vk a.vn a.vf a.vs b.vk b.vn b.vf b.vs) ?_
    refine VRawNode.eqlId rfl rfl rfl ?_
    refine VRawNode.eqlAnchor rfl rfl rfl ?_
    refine VRawNode.eqlAnchor rfl rfl rfl ?_
    exact rfl
/-- Its value is zero. -/
structure ZeroV (o : OpD) : Prop where
  k : o.vk = 0
  n : o.vn = 0
  f : o.vf = 0
  s : o.vs = ⟨#[]⟩
theorem ZeroV.val {o : OpD} (h : ZeroV o) : vVal o.vk o.vn o.vf o.vs = vZero := by rw [h.k, h.n, h.f, h.s]
set_option maxHeartbeats 1000000 in
theorem tSameO (a b : OpD) (ha : ZeroV a) (hb : ZeroV b) : Tells 39 [vOp a, vOp b] [.bool (sameOp true a b)] :=
  Tells.of 7 func39 (by kernel_rfl) fun L => by
    refine VRawNode.eqlId rfl rfl rfl ?_
    refine VRawNode.eqlId rfl rfl rfl ?_
    refine VRawNode.eqlId rfl rfl rfl ?_
    refine VCallNode.tells (args := [vVal a.vk a.vn a.vf a.vs, vVal b.vk b.vn b.vf b.vs]) (fun _ => by rw [ha.val, hb.val]; exact tSame0) ?_
    refine VRawNode.eqlId rfl rfl rfl ?_
    refine VRawNode.eqlAnchor rfl rfl rfl ?_
    refine VRawNode.eqlAnchor rfl rfl rfl ?_
    exact rfl
/-- Two lists of operations, held against one another: the first ends where they part. -/
def sameAllD (a b : List OpD) : Bool := a.length == b.length && (a.zip b).all fun x => sameOp (vcmp x.1 x.2 == 0) x.1 x.2
end Go.Q
