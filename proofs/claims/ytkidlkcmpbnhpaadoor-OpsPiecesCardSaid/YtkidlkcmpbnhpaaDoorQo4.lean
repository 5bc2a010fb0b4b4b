/-
  ops.bare, Check, Join$1, Join$3; slices.Clone, DeleteFunc, CompactFunc where nothing goes. Conditions: as stated at each.
-/
import Derived.Test.YtkidlkcmpbnhpaaDoorQs4
namespace Go.Q
open Go Go.Proofs.Tryd
set_option maxRecDepth 100000
variable {L : Nat → Prop} {H : List Ck} {E : List Fact}
/-- An operation with just the fields of a text. -/
def bareT (o : OpD) : OpD := { OpD.zero with c := o.c, k := o.k, kind := 1, lc := o.lc, lk := o.lk, rc := o.rc, rk := o.rk, tx := o.tx }
def rightT (o : OpD) : Bool := isText o.tx && (!(o.tx.toList == (⟨#[]⟩ : ByteArray).toList)) && decide ((textLen o.tx : Int) ≤ 4096)
set_option maxHeartbeats 1000000 in
theorem tBare (o : OpD) (hs : o.tx.size < 2 ^ 40) (hk : o.kind = 1) : TellsIn [tabsF] 38 [vOp o] [vOp (bareT o), .bool (rightT o)] := by
  obtain ⟨c, k, kind, st, lc, lk, rc, rk, tx, vk, vn, vf, vs, key, pc, pk, fc, fk, fa, tc, tk, ta⟩ := o
  simp only at hs hk
  subst hk
  exact TellsIn.of 7 func38 (by kernel_rfl) fun L => by
    refine JoinNode.yes rfl ?_
    refine CallNode.tellsIn (tUtfCheck tx (by omega)) (fun _ _ => ho1) ?_
    refine VCallNode.tellsIn (fun _ => tUtfLen' tx (by omega)) (fun _ _ _ => ho1) ?_
    apply DrawNode.merge (hB := by kernel_rfl) 0 (.take 0 (.take 2 (.br 1 (.take 4 (.br 3 (.br 5 (.take 6 (.br 7 .done .no)) .no) (.br 5 (.br 3 (.take 6 (.br 7 .done .no)) .no) .no))) (.br 3 (.br 1 (.take 4 (.br 5 (.take 6 (.br 7 .done .no)) .no)) .no) .no))))
    case h =>
      repeat' (first | exact ⟨rfl, rfl, rfl⟩ | exact trivial | refine ⟨?_, ?_⟩)
    case hk => exact rfl
theorem bareT_zero (o : OpD) : ZeroV (bareT o) := ⟨rfl, rfl, rfl, rfl⟩
/-- What ops.Check takes. -/
def chkT (o : OpD) : Bool := rightT o && sameOp true o (bareT o) && rightId o.c o.k && decide (IntKind.u64.wrap (endOp o - 1) ≤ 9007199254740991) && !(namesOp o).any fun x => badName o.c o.k (endOp o) x.1 x.2
theorem noT {o : OpD} (h : chkT o = false) : (if chkT o = true then (0 : Int) else 120) = 120 := by rw [h]; rfl
set_option maxHeartbeats 1000000 in
theorem tCheckO (o : OpD) (hs : o.tx.size < 2 ^ 40) (hk : o.kind = 1) (hz : ZeroV o) : TellsIn [tabsF] 12 [vOp o] [.int .i64 (if chkT o = true then 0 else 120)] :=
  TellsIn.of 6 func12 (by kernel_rfl) fun L => by
    refine CallNode.tellsIn (tBare o hs hk) (fun _ _ => ho1) ?_
    refine VCallNode.tells (fun _ => tSameO o (bareT o) hz (bareT_zero o)) ?_
    refine VCallNode.tells (fun _ => tRight o.c o.k) ?_
    refine JoinNode.both (fun h1 => ?_) (fun h1 => ?_)
    · have h1' : ((!rightT o || !sameOp true o (bareT o)) || !rightId o.c o.k) = true := h1
      exact pvInt (noT (by
        unfold chkT
        cases h2 : rightT o <;> cases h3 : sameOp true o (bareT o) <;> cases h4 : rightId o.c o.k <;> first | rfl | (rw [h2, h3, h4] at h1'; cases h1')))
    have h1' : ((!rightT o || !sameOp true o (bareT o)) || !rightId o.c o.k) = false := h1
    have hc : chkT o = (decide (IntKind.u64.wrap (endOp o - 1) ≤ 9007199254740991) && !(namesOp o).any fun x => badName o.c o.k (endOp o) x.1 x.2) := by
      unfold chkT
      cases h2 : rightT o <;> cases h3 : sameOp true o (bareT o) <;> cases h4 : rightId o.c o.k <;> first | rfl | (rw [h2, h3, h4] at h1'; cases h1')
    refine CallNode.tellsIn (tRangeOp o (by omega)) (fun _ _ => ho1) ?_
    refine JoinNode.both (fun h2 => ?_) (fun h2 => ?_)
    · have h2' : IntKind.u64.wrap (endOp o - 1) > 9007199254740991 := of_decide_eq_true h2
      exact pvInt (noT (by rw [hc, decide_eq_false (by omega)]; rfl))
    have h2' : ¬ IntKind.u64.wrap (endOp o - 1) > 9007199254740991 := of_decide_eq_false h2
    have hc2 : chkT o = !(namesOp o).any fun x => badName o.c o.k (endOp o) x.1 x.2 := by rw [hc, decide_eq_true (by omega), Bool.true_and]
    intro b
    refine CallNode.givesF (tNames o) (fun _ _ _ => trivial) ?_
    rintro bn n cap T cs ⟨rfl, rfl, rfl⟩
    refine CallNode.tellsIn (tContainsId (E0 := [varF b [.int .u64 o.c, .int .u64 o.k, .int .u64 (endOp o)]]) (p := fun x => badName o.c o.k (endOp o) x.1 x.2) (g := 41) (first := #[]) (cp := #[.pointer (some ⟨b, 0, none⟩)]) (enters_at rfl) (namesOp o)
      (fun x _ => tCheck1 b o.c o.k (endOp o) x.1 x.2) bn 0 5 (by show 5 < _; omega)) (fun β w ho => ⟨ho.fact (.head _), ho.rowF 0 (i := 2) (.inr ⟨_, rfl⟩), trivial⟩) ?_
    refine JoinNode.both (fun h3 => ?_) (fun h3 => ?_)
    · have h3' : ((namesOp o).any fun x => badName o.c o.k (endOp o) x.1 x.2) = true := h3
      exact pvInt (noT (by rw [hc2, h3']; rfl))
    · have h3' : ((namesOp o).any fun x => badName o.c o.k (endOp o) x.1 x.2) = false := h3
      exact pvInt (by rw [hc2, h3']; rfl)
/-- An operation without any field. -/
theorem tBare0 : Tells 38 [vOp OpD.zero] [vOp OpD.zero, .bool false] :=
  Tells.of 7 func38 (by kernel_rfl) fun L => by
    refine JoinNode.no rfl ?_
    refine JoinNode.no rfl ?_
    refine JoinNode.no rfl ?_
    refine JoinNode.no rfl ?_
    exact rfl
theorem tCheck0 : Tells 12 [vOp OpD.zero] [.int .i64 120] :=
  Tells.of 6 func12 (by kernel_rfl) fun L => by
    refine CallNode.tells tBare0 ?_
    refine VCallNode.tells (rs := [.bool true]) (fun h => by cases h) ?_
    refine VCallNode.tells (rs := [.bool true]) (fun h => by cases h) ?_
    exact JoinNode.yes rfl rfl
theorem tJoin1 (o : OpD) (hs : o.tx.size < 2 ^ 40) (hk : o.kind = 1) (hz : ZeroV o) : TellsIn [tabsF] 30 [vOp o] [.bool (!chkT o)] :=
  TellsIn.of 4 func30 (by kernel_rfl) fun L => by
    refine CallNode.tellsIn (tCheckO o hs hk hz) (fun _ _ => ho1) ?_
    cases h : chkT o <;> exact rfl
theorem tJoin3 (a b : OpD) : Tells 35 [vOp a, vOp b] [.bool (a.c == b.c && a.k == b.k)] :=
  Tells.of 4 func35 (by kernel_rfl) fun L => VRawNode.eqlId rfl rfl rfl rfl
theorem elem_Op : ElemOk 36 := ⟨rfl, (fun h => by cases h), rfl, (fun h => by cases h)⟩
theorem oneOp (o : OpD) : ∀ u ∈ o.cells, u.oneCell' = true := by
  intro u hu
  simp only [OpD.cells, List.mem_cons, List.not_mem_nil, or_false] at hu
  rcases hu with rfl | rfl | rfl | rfl | rfl | rfl | rfl | rfl | rfl | rfl | rfl | rfl | rfl | rfl | rfl | rfl | rfl | rfl | rfl | rfl | rfl | rfl <;> rfl
theorem oneOps : ∀ (l : List OpD), ∀ u ∈ flat OpD.cells l, u.oneCell' = true
  | [], u, h => by simp [flat] at h
  | o :: r, u, h => by
    rw [flat, List.mem_append] at h
    rcases h with h | h
    · exact oneOp o u h
    · exact oneOps r u h
/-- A copy of one's own. -/
theorem aClone (l : List OpD) (b o cap : Nat) (hl : l.length < 2 ^ 30) (h0 : 0 < l.length) : Acts [] [rowF b o (flat OpD.cells l)] 29 [.slice (some ⟨b, o, none⟩) l.length cap]
    (fun r C E' => E' = [] ∧ ∃ b' cap' rest, r = .slice (some ⟨b', 0, none⟩) l.length cap' ∧ l.length ≤ cap' ∧ C = [rowOp l rest b']) :=
  Acts.of 4 func29 (by kernel_rfl) fun L => by
    refine VRawNode.isNil rfl rfl rfl rfl ?_
    refine JoinNode.no rfl ?_
    intro b1
    refine RawNode.app (i := 0) (n := 0) (m := l.length) (news := flat OpD.cells l) rfl rfl rfl elem_Op rfl (RowIs.lit (n := 0) (cs := []) rfl) (fun β w ho => src_fact (ho.fact (.head _)) rfl (flat_len cells22 l) (oneOps l)) (by show (0 + l.length) * 200 ≤ _; omega) (by omega) fun v' c' hr' => ?_
    rcases hr' with ⟨_, _, e, _⟩ | ⟨b', cap', cs, rfl, rfl, h1, h2, h3⟩
    · omega
    have h2' : cs.length = cap' * 22 := h2
    have h3' : cs.take ((0 + l.length) * 22) = flat OpD.cells l := h3
    have h4 : cs = flat OpD.cells l ++ cs.drop ((0 + l.length) * 22) := by rw [← h3', List.take_append_drop]
    refine ⟨[.slice (some ⟨b', 0, none⟩) (0 + l.length) cap'], [rowOp l (cs.drop ((0 + l.length) * 22)) b'], [], rfl, ?_, Nat.zero_le _, rfl, b', cap', _, by rw [Nat.zero_add]; rfl, by omega, rfl⟩
    have hy := (Yields.pick (m := 0) (p := 0) (is := [1]) (H := [Ck.dead, Ck.row 31 cs (some b')]) (cs := [Ck.row 31 cs (some b')]) (E := [rowF b o (flat OpD.cells l)]) (Nat.le_refl _) (Nat.zero_le _) ⟨.inl rfl, trivial⟩ (fun _ _ => Nat.zero_le _) (by simp)).trans (Yields.facts (E' := []) fun _ _ _ => trivial)
    show Yields 0 _ _ [Ck.row 31 (flat OpD.cells l ++ cs.drop ((0 + l.length) * 22)) (some b')] []
    rw [← h4]
    exact hy
/-- Nothing goes. -/
theorem tDeleteNone (l : List OpD) (b o cap : Nat) (hl : l.length < 2 ^ 40) (h : ∀ x ∈ l, x.tx.size < 2 ^ 40 ∧ x.kind = 1 ∧ ZeroV x ∧ chkT x = true) :
    TellsIn [rowF b o (flat OpD.cells l), tabsF] 28 [.slice (some ⟨b, o, none⟩) l.length cap, .func (.func 30) #[] #[]] [.slice (some ⟨b, o, none⟩) l.length cap] :=
  TellsIn.of 6 func28 (by kernel_rfl) fun L => by
    refine CallNode.tellsIn (tIndexOp (E0 := [tabsF]) (p := fun x => !chkT x) (g := 30) (first := #[]) (cp := #[]) (enters_at rfl) l (fun x hx => tJoin1 x (h x hx).1 (h x hx).2.1 (h x hx).2.2.1) b o cap (by omega)) (fun β w ho => ho.hold.loc (fun _ h => h.elim)) ?_
    have hn : posOf (l.findIdx? fun x => !chkT x) = -1 := posOf_none fun j y _ hy => by
      have := (h y (List.mem_of_getElem? hy)).2.2.2
      simp [this]
    refine JoinNode.yes (show (posOf (l.findIdx? fun x => !chkT x) == -1) = true by rw [hn]; rfl) ?_
    exact rfl
/-- No two neighbours are alike. -/
def noTwins : List OpD → Prop
  | a :: b :: r => (b.c == a.c && b.k == a.k) = false ∧ noTwins (b :: r)
  | _ => True
theorem noTwins_at : ∀ {l : List OpD} {i : Nat} {x y : OpD}, noTwins l → l[i]? = some x → l[i + 1]? = some y → (y.c == x.c && y.k == x.k) = false
  | a :: b :: r, 0, x, y, h, hx, hy => by
    simp at hx hy; subst hx; subst hy; exact h.1
  | a :: b :: r, i + 1, x, y, h, hx, hy => noTwins_at (i := i) h.2 (by simpa using hx) (by simpa using hy)
  | [a], i, x, y, h, hx, hy => by simp at hy
  | [], i, x, y, h, hx, hy => by simp at hx
set_option maxHeartbeats 1000000 in
theorem tCompactNone (l : List OpD) (b o cap : Nat) (hl : l.length < 2 ^ 40) (h : noTwins l) :
    TellsIn [rowF b o (flat OpD.cells l)] 34 [.slice (some ⟨b, o, none⟩) l.length cap, .func (.func 35) #[] #[]] [.slice (some ⟨b, o, none⟩) l.length cap] :=
  TellsIn.of 7 func34 (by kernel_rfl) fun L => by
    refine JoinNode.both (fun h1 => rfl) (fun h1 => ?_)
    have h1' : ¬ (l.length : Int) < 2 := of_decide_eq_false h1
    refine LoopNode.mk (α := Nat) (fun i => [(0, .n (.v (.slice (some ⟨b, o, none⟩) l.length cap))), (1, .n (.v (.func (.func 35) #[] #[]))), (5, .n (.v (.int .i64 (i + 1 : Nat))))]) (fun _ => []) (fun _ => [rowF b o (flat OpD.cells l)])
      (fun i => i + 1 ≤ l.length) (fun i => l.length - i) 0 (by omega)
      (.inl ⟨⟨⟨rfl, trivial⟩, ⟨rfl, trivial⟩, ⟨rfl, trivial⟩, trivial⟩, trivial, fun _ _ h => h⟩) (fun _ => Nat.zero_le _) ?_
    intro i hi
    refine JoinNode.both (fun ht => ?_) (fun ht => ?_)
    · have hlt : i + 1 < l.length := by have c : ((i + 1 : Nat) : Int) < l.length := of_decide_eq_true ht; omega
      have w1 : IntKind.i64.wrap (((i + 1 : Nat) : Int) - 1) = (i : Nat) := by rw [wrap_i64 (by omega) (by omega)]; omega
      refine DrawNode.quiet (by kernel_rfl) ?_
      refine IdxNode.at (i + 1) rfl rfl (fun _ => hlt) ?_
      refine LoadNode.elem (i + 1) l[i + 1] cells22 (.head _) (fun _ => List.getElem?_eq_getElem hlt) rfl ?_
      refine IdxNode.at i w1 rfl (fun _ => by omega) ?_
      refine LoadNode.elem i (l[i]'(by omega)) cells22 (.head _) (fun _ => List.getElem?_eq_getElem (by omega)) rfl ?_
      refine ⟨fun _ => enters_at rfl, VCallNode.tells (fun _ => tJoin3 _ _) ?_⟩
      refine JoinNode.no (noTwins_at h (List.getElem?_eq_getElem (by omega)) (List.getElem?_eq_getElem hlt)) ?_
      refine ⟨i + 1, by omega, by omega, .inl ⟨⟨⟨rfl, trivial⟩, ⟨rfl, trivial⟩, ⟨slotI ?_, trivial⟩, trivial⟩, trivial, fun _ _ h => h⟩⟩
      rw [wrap_i64 (by omega) (by omega)]; rfl
    · exact rfl
end Go.Q
