/-
  ops.pieces. Conditions: as stated at each.
-/
import Derived.Test.YtkidlkcmpbnhpaaDoorQo4
namespace Go.Q
open Go Go.Proofs.Tryd
set_option maxRecDepth 100000
variable {L : Nat → Prop} {H : List Ck} {E : List Fact}
/-- An operation of another text; what comes behind it. -/
def withText (o : OpD) (t : List Nat) : OpD := { o with tx := textOf (encs t) }
def behind (o : OpD) (n : Nat) : OpD := { o with k := IntKind.u64.wrap (o.k + IntKind.u64.wrap (n : Int)), lc := o.c, lk := IntKind.u64.wrap (IntKind.u64.wrap (o.k + IntKind.u64.wrap (n : Int)) - 1) }
def piecesF : Nat → OpD → List Nat → List OpD
  | 0, _, _ => []
  | _ + 1, _, [] => []
  | f + 1, o, r :: rs => withText o ((r :: rs).take 4096) :: piecesF f (behind (withText o ((r :: rs).take 4096)) ((r :: rs).take 4096).length) ((r :: rs).drop 4096)
theorem piecesF_cons {f : Nat} {o : OpD} {rs : List Nat} (h : rs ≠ []) : piecesF (f + 1) o rs = withText o (rs.take 4096) :: piecesF f (behind (withText o (rs.take 4096)) (rs.take 4096).length) (rs.drop 4096) := by
  cases rs with
  | nil => exact absurd rfl h
  | cons r rs => rfl
theorem piecesF_nil (f : Nat) (o : OpD) : piecesF f o [] = [] := by cases f <;> rfl
structure PcSt where
  f : Nat
  done : List OpD
  o : OpD
  rs : List Nat
  off : Nat
  cap : Nat
  v : Value
  c : Ck
set_option maxHeartbeats 4000000 in
theorem aPieces (c0 : Ck) (v0 : Value) (n : Nat) (xs : List Value) (o : OpD) (bt ot capt : Nat) (texts : List ByteArray) (hr : RowIs 31 v0 c0 n xs) (hk : o.kind = 1) (hct : texts.length ≤ capt) (hN : texts.length < 2 ^ 30) (hl : (catS texts).size < 2 ^ 30) (hn : n < 2 ^ 36) :
    Acts [c0] [rowF bt ot (flat encS texts)] 37 [v0, vOp o, .slice (some ⟨bt, ot, none⟩) texts.length capt]
      (fun r C E' => E' = [] ∧ ∃ v' c', r = v' ∧ C = [.dead, c'] ∧ RowIs 31 v' c' (n + (piecesF (runes (catS texts).data.toList).length o (runes (catS texts).data.toList)).length) (xs ++ flat OpD.cells (piecesF (runes (catS texts).data.toList).length o (runes (catS texts).data.toList)))) := by
  obtain ⟨rs0, hrs0⟩ : ∃ rs0, rs0 = runes (catS texts).data.toList := ⟨_, rfl⟩
  have hrl : rs0.length < 2 ^ 30 := by
    have := runes_le (catS texts).data.toList
    rw [sz_list] at this; rw [hrs0]; omega
  refine Acts.of 6 func37 (by kernel_rfl) fun L => ?_
  rw [← hrs0]
  refine JoinNode.no (show (o.kind != 1) = false by rw [hk]; rfl) ?_
  refine CallNode.tellsIn (tJoinS bt ot capt texts hct (by omega) (by omega)) (fun β w ho => ⟨ho.fact (.head _), trivial⟩) ?_
  refine RawNode.toRunes rfl rfl rfl rfl rfl (by omega) ?_
  rw [← hrs0]
  intro b2 cap2 cs2 h1 h2 h3
  obtain ⟨PS, hPS⟩ : ∃ PS, PS = piecesF rs0.length o rs0 := ⟨_, rfl⟩
  rw [← hPS]
  refine LoopNode.mk (α := PcSt) (fun x => [(0, .n (.v x.v)), (4, .n (.p 1 0)), (7, .n (.v (.slice (some ⟨b2, x.off, none⟩) x.rs.length x.cap)))])
    (fun x => [.dead, .box 31 x.o.cells none, .row 21 cs2 (some b2), x.c]) (fun _ => [])
    (fun x => RowIs 31 x.v x.c (n + x.done.length) (xs ++ flat OpD.cells x.done) ∧ x.done ++ piecesF x.f x.o x.rs = PS ∧ x.rs.length ≤ x.f ∧ x.rs.length ≤ x.cap ∧ (cs2.drop x.off).take x.rs.length = runeCells x.rs ∧ x.done.length + x.rs.length ≤ rs0.length) (fun x => x.rs.length)
    ⟨rs0.length, [], o, rs0, 0, cap2, v0, c0⟩ ⟨by simpa [flat] using hr, hPS.symm, Nat.le_refl _, h1, by simpa using h3, by simp⟩
    (.inr ⟨[0], 3, [0], [c0], by show 1 ≤ 3; omega, Nat.le_refl _, rfl, ⟨.inl rfl, trivial⟩, fun i hi => .inr hi, by simp, ⟨⟨rfl, trivial⟩, ⟨rfl, by show 1 < 3; omega⟩, ⟨rfl, trivial⟩, trivial⟩, fun _ _ _ => trivial⟩) (fun _ => by show 1 ≤ 4; omega) ?_
  rintro ⟨f, done, o', rs, off, cap, v, c⟩ ⟨hri, hp, hf, hc, hcells, hdl⟩
  simp only at hri hp hf hc hcells hdl
  refine JoinNode.both (fun ht => ?_) (fun ht => ?_)
  · have hpos : 0 < rs.length := by have c : (rs.length : Int) > 0 := of_decide_eq_true ht; omega
    have hne : rs ≠ [] := List.length_pos_iff.1 hpos
    obtain ⟨f, rfl⟩ : ∃ f', f = f' + 1 := ⟨f - 1, by omega⟩
    rw [piecesF_cons hne] at hp
    obtain ⟨a, ha⟩ : ∃ a, a = (rs.take 4096).length := ⟨_, rfl⟩
    have ha' : a = min 4096 rs.length := by rw [ha, List.length_take]
    refine RawNode.min2 rfl rfl rfl ?_
    have hm : (if (4096 : Int) < rs.length then (4096 : Int) else rs.length) = (a : Nat) := by split <;> omega
    refine VRawNode.rowTo a rfl rfl (fun h => by cases h) rfl rfl (fun _ => hm) (fun _ => show a ≤ cap by omega) ?_
    refine VRawNode.ofRunes (rs.take 4096) rfl rfl rfl rfl rfl ha (fun _ β w ho j u hj => ?_) ?_
    · have h4 := (ho.rowF 0 (i := 2) (.inl ⟨_, rfl⟩)).2.2 (off + j) u
      rw [Nat.zero_add] at h4
      refine h4 ?_
      have h5 : (runeCells rs)[j]? = some u := by
        have : runeCells (rs.take 4096) = (runeCells rs).take 4096 := by simp [runeCells, List.map_take]
        rw [this, List.getElem?_take] at hj
        split at hj
        · exact hj
        · cases hj
      rw [← hcells, List.getElem?_take] at h5
      split at h5
      · rw [List.getElem?_drop] at h5; simpa using h5
      · cases h5
    intro b3
    refine RawNode.app (i := 3) (n := n + done.length) (m := 1) (news := (withText o' (rs.take 4096)).cells) rfl rfl rfl elem_Op rfl hri (fun β w ho => src_own ho (i := 4) rfl rfl rfl (oneOp _)) (by show (n + done.length + 1) * 200 ≤ _; omega) (by omega) fun v' c' hr' => ?_
    refine VRawNode.rowFrom a rfl rfl (fun h => by cases h) rfl rfl (fun _ => hm) (fun _ => show a ≤ rs.length ∧ rs.length ≤ cap by omega) ?_
    have hlen2 : (rs.drop 4096).length = rs.length - a := by rw [List.length_drop]; omega
    have hmw : IntKind.u64.wrap (if (4096 : Int) < rs.length then (4096 : Int) else rs.length) = IntKind.u64.wrap (a : Nat) := by rw [hm]
    refine ⟨⟨f, done ++ [withText o' (rs.take 4096)], behind (withText o' (rs.take 4096)) a, rs.drop 4096, if cap = a then off else off + a * 1, cap - a, v', c'⟩, by show (rs.drop 4096).length < rs.length; omega, ⟨?_, ?_, ?_, ?_, ?_, ?_⟩,
      .inr ⟨[], 3, [5], [c'], by show 1 ≤ 3; omega, by show 3 ≤ 6; omega, ?_, ⟨.inl rfl, trivial⟩, fun i hi => .inl (by simp at hi; omega), by simp, ⟨⟨rfl, trivial⟩, ⟨rfl, by show 1 < 3; omega⟩, ⟨?_, trivial⟩, trivial⟩, fun _ _ h => h⟩⟩
    · have hr2 : RowIs 31 v' c' (n + done.length + 1) (xs ++ flat OpD.cells done ++ (withText o' (rs.take 4096)).cells) := hr'
      have e1 : n + (done ++ [withText o' (rs.take 4096)]).length = n + done.length + 1 := by simp; omega
      have e2 : xs ++ flat OpD.cells (done ++ [withText o' (rs.take 4096)]) = xs ++ flat OpD.cells done ++ (withText o' (rs.take 4096)).cells := by rw [flat_app]; simp [flat]
      show RowIs _ v' c' (n + (done ++ [withText o' (rs.take 4096)]).length) (xs ++ flat OpD.cells (done ++ [withText o' (rs.take 4096)]))
      rw [e1, e2]; exact hr2
    · show (done ++ [_]) ++ _ = PS
      rw [← hp, ha]; simp
    · show (rs.drop 4096).length ≤ f; omega
    · show (rs.drop 4096).length ≤ cap - a; omega
    · show (cs2.drop (if cap = a then off else off + a * 1)).take (rs.drop 4096).length = runeCells (rs.drop 4096)
      by_cases e : cap = a
      · have : (rs.drop 4096).length = 0 := by omega
        rw [this, List.length_eq_zero_iff.1 this]; rfl
      · rw [if_neg e, Nat.mul_one, ← List.drop_drop, hlen2]
        have e3 : runeCells (rs.drop 4096) = (runeCells rs).drop a := by
          have : rs.drop 4096 = rs.drop a := by
            rcases Nat.lt_or_ge 4096 rs.length with h | h
            · rw [show a = 4096 by omega]
            · rw [List.drop_of_length_le h, List.drop_of_length_le (by omega)]
          rw [this]; simp [runeCells, List.map_drop]
        rw [e3, ← hcells, List.drop_take]
    · show (done ++ [_]).length + (rs.drop 4096).length ≤ rs0.length
      simp only [List.length_append, List.length_singleton]; omega
    · show [Ck.dead, Ck.box 31 (behind (withText o' (rs.take 4096)) a).cells none, Ck.row 21 cs2 (some b2), c'] =
        [Ck.dead, Ck.box 31 (OpD.cells { withText o' (rs.take 4096) with k := IntKind.u64.wrap (o'.k + IntKind.u64.wrap (if (4096 : Int) < rs.length then (4096 : Int) else rs.length)), lc := o'.c, lk := IntKind.u64.wrap (IntKind.u64.wrap (o'.k + IntKind.u64.wrap (if (4096 : Int) < rs.length then (4096 : Int) else rs.length)) - 1) }) none, Ck.row 21 cs2 (some b2), c']
      rw [hmw]; rfl
    · show SV.n (.v (.slice (some (if cap = a then ⟨b2, off, none⟩ else ⟨b2, off + a * 1, none⟩)) (rs.length - a) (cap - a))) = SV.n (.v (.slice (some ⟨b2, if cap = a then off else off + a * 1, none⟩) (rs.drop 4096).length (cap - a)))
      rw [hlen2]
      split <;> rfl
  · have hz : rs.length = 0 := by have c : ¬ (rs.length : Int) > 0 := of_decide_eq_false ht; omega
    have hnil : rs = [] := List.length_eq_zero_iff.1 hz
    subst hnil
    rw [piecesF_nil, List.append_nil] at hp
    subst hp
    exact ⟨[v], [.dead, c], [], rfl, Yields.pick (p := 1) (is := [3]) (by show 1 ≤ 1; omega) (by show 1 ≤ 4; omega) ⟨.inl rfl, trivial⟩ (fun i hi => by simp at hi; omega) (by simp), by show 1 ≤ 2; omega, rfl, v, c, rfl, rfl, hri⟩
end Go.Q
