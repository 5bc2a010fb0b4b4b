/-
  ops.Join. Conditions: as stated.
-/
import Derived.Test.YtkidlkcmpbnhpaaDoorQo5
namespace Go.Q
open Go Go.Proofs.Tryd
set_option maxRecDepth 100000
variable {L : Nat → Prop} {gd : Gd} {H : List Ck} {E : List Fact}
theorem rowF_pre {b o : Nat} {cs ds : List Value} {L : Nat → Prop} {w : World} (h : (rowF b o (cs ++ ds)).hold L w) : (rowF b o cs).hold L w :=
  ⟨h.1, h.2.1, fun j v hv => h.2.2 j v (by rw [List.getElem?_append_left (List.getElem?_eq_some_iff.1 hv).1]; exact hv)⟩
/-- A cell of a row of one's own is read. -/
theorem LoadNode.ownCell {q b ty : Nat} {cs : List Value} {ao : Option Addr} {k : Value → Prop} (j : Nat) (v : Value) (hH : H[q]? = some (.row ty cs (some b))) (hj : gd.holds → cs[j]? = some v) (ha : ao = some ⟨b, j, none⟩) (hk : k v) : LoadNode τ L gd H E ao 1 false k :=
  LoadNode.one v (fun hg β w ho => ⟨_, ha, by
    have := (ho.rowF 0 (.inl ⟨ty, hH⟩)).2.2 j v (by simpa using hj hg)
    rw [Nat.zero_add] at this; exact this⟩) hk
def runOf : OpD → List OpD → List OpD
  | _, [] => []
  | p, y :: r => if followsOp p y = true then y :: runOf y r else []
theorem runOf_le : ∀ (p : OpD) (l : List OpD), (runOf p l).length ≤ l.length
  | _, [] => Nat.le_refl _
  | p, y :: r => by
    unfold runOf
    split
    · have := runOf_le y r; simp; omega
    · simp
def pcs (x : OpD) (texts : List ByteArray) : List OpD := piecesF (runes (catS texts).data.toList).length x (runes (catS texts).data.toList)
def joinF : Nat → List OpD → List OpD
  | 0, _ => []
  | _ + 1, [] => []
  | f + 1, x :: r => pcs x ((x :: runOf x r).map (fun o : OpD => o.tx)) ++ joinF f (r.drop (runOf x r).length)
theorem joinF_at {f i : Nat} {s : List OpD} {x : OpD} (hx : s[i]? = some x) : joinF (f + 1) (s.drop i) = pcs x ((x :: runOf x (s.drop (i + 1))).map (fun o : OpD => o.tx)) ++ joinF f (s.drop (i + 1 + (runOf x (s.drop (i + 1))).length)) := by
  obtain ⟨h1, h2⟩ := List.getElem?_eq_some_iff.1 hx
  rw [List.drop_eq_getElem_cons h1, h2, joinF, List.drop_drop]
theorem joinF_end {f : Nat} {s : List OpD} {i : Nat} (h : s.length ≤ i) : joinF f (s.drop i) = [] := by
  rw [List.drop_of_length_le h]; cases f <;> rfl
theorem runOf_at {s : List OpD} {k : Nat} {p : OpD} (hk : k < s.length) : runOf p (s.drop k) = if followsOp p (s.getD k OpD.zero) = true then s.getD k OpD.zero :: runOf (s.getD k OpD.zero) (s.drop (k + 1)) else [] := by
  have h := getOp hk
  obtain ⟨h1, h2⟩ := List.getElem?_eq_some_iff.1 h
  rw [List.drop_eq_getElem_cons h1, h2, runOf]
theorem elem_S : ElemOk 63 := ⟨rfl, (fun h => by cases h), rfl, (fun h => by cases h)⟩
theorem take_getD {s : List OpD} {i k : Nat} (h : i ≤ k) (hk : k < s.length) : (s.drop i).take (k + 1 - i) = (s.drop i).take (k - i) ++ [s.getD k OpD.zero] := by
  have h1 := getOp hk
  rw [show k + 1 - i = (k - i) + 1 by omega, List.take_add_one, List.getElem?_drop, show i + (k - i) = k by omega, h1]; rfl
def total (l : List OpD) : Nat := (l.map fun o => o.tx.size).sum
theorem cat_size : ∀ (l : List ByteArray), (catS l).size = (l.map (·.size)).sum
  | [] => rfl
  | s :: r => by
    have ih := cat_size r
    unfold catS at ih ⊢
    simp only [ByteArray.size, List.map_cons, List.flatten_cons, List.size_toArray, List.length_append, List.sum_cons, Array.length_toList] at ih ⊢
    omega
theorem sum_drop : ∀ (l : List Nat) (i : Nat), (l.drop i).sum ≤ l.sum
  | [], _ => by simp
  | x :: r, 0 => by simp
  | x :: r, i + 1 => by have := sum_drop r i; simp; omega
theorem sum_take : ∀ (l : List Nat) (i : Nat), (l.take i).sum ≤ l.sum
  | [], _ => by simp
  | x :: r, 0 => by simp
  | x :: r, i + 1 => by have := sum_take r i; simp; omega
theorem part_size (s : List OpD) (i k : Nat) : (catS (((s.drop i).take k).map (fun o : OpD => o.tx))).size ≤ total s := by
  rw [cat_size, List.map_map]
  have h1 : ((s.drop i).take k).map (ByteArray.size ∘ fun o : OpD => o.tx) = ((s.map fun o => o.tx.size).drop i).take k := by rw [← List.map_drop, ← List.map_take]; rfl
  rw [h1]
  exact Nat.le_trans (sum_take _ _) (sum_drop _ _)
theorem piecesF_len : ∀ (f : Nat) (o : OpD) (rs : List Nat), (piecesF f o rs).length ≤ rs.length
  | 0, _, _ => by simp [piecesF]
  | _ + 1, _, [] => by simp [piecesF]
  | f + 1, o, r :: rs => by
    have := piecesF_len f (behind (withText o ((r :: rs).take 4096)) ((r :: rs).take 4096).length) ((r :: rs).drop 4096)
    simp only [piecesF, List.length_cons, List.length_drop] at this ⊢
    omega
theorem tCompactNone' (l : List OpD) (b o cap N0 : Nat) (hN : l.length = N0) (hl : l.length < 2 ^ 40) (h : noTwins l) :
    TellsIn [rowF b o (flat OpD.cells l)] 34 [.slice (some ⟨b, o, none⟩) N0 cap, .func (.func 35) #[] #[]] [.slice (some ⟨b, o, none⟩) N0 cap] := by
  subst hN; exact tCompactNone l b o cap hl h
theorem aPieces' (c0 : Ck) (v0 : Value) (n : Nat) (xs : List Value) (o : OpD) (bt ot capt N0 : Nat) (texts : List ByteArray) (hN0 : texts.length = N0) (hr : RowIs 31 v0 c0 n xs) (hk : o.kind = 1) (hct : texts.length ≤ capt) (hN : texts.length < 2 ^ 30) (hl : (catS texts).size < 2 ^ 30) (hn : n < 2 ^ 36) :
    Acts [c0] [rowF bt ot (flat encS texts)] 37 [v0, vOp o, .slice (some ⟨bt, ot, none⟩) N0 capt]
      (fun r C E' => E' = [] ∧ ∃ v' c', r = v' ∧ C = [.dead, c'] ∧ RowIs 31 v' c' (n + (pcs o texts).length) (xs ++ flat OpD.cells (pcs o texts))) := by
  subst hN0; exact aPieces c0 v0 n xs o bt ot capt texts hr hk hct hN hl hn
structure JnSt where
  f : Nat
  i : Nat
  done : List OpD
  v : Value
  c : Ck
structure TxSt where
  k : Nat
  v : Value
  c : Ck
set_option maxHeartbeats 4000000 in
theorem aJoin (l : List OpD) (b o cap : Nat) (hl : l.length < 2 ^ 16) (h0 : 0 < l.length) (hg : ∀ x ∈ l, x.tx.size < 2 ^ 20 ∧ x.kind = 1 ∧ ZeroV x ∧ chkT x = true)
    (hgs : ∀ x ∈ stableL lessOp l, x.tx.size < 2 ^ 20 ∧ x.kind = 1) (htot : total (stableL lessOp l) < 2 ^ 20) (htw : noTwins (stableL lessOp l)) :
    Acts [] [rowF b o (flat OpD.cells l), tabsF] 11 [.slice (some ⟨b, o, none⟩) l.length cap]
      (fun r C E' => E' = [] ∧ ∃ v' c', r = v' ∧ C = [c'] ∧ RowIs 31 v' c' (joinF (stableL lessOp l).length (stableL lessOp l)).length (flat OpD.cells (joinF (stableL lessOp l).length (stableL lessOp l)))) := by
  obtain ⟨s, hs⟩ : ∃ s, s = stableL lessOp l := ⟨_, rfl⟩
  rw [← hs] at hgs htot htw ⊢
  have hsl : s.length = l.length := by rw [hs]; exact stableL_len _ _
  obtain ⟨J, hJ⟩ : ∃ J, J = joinF s.length s := ⟨_, rfl⟩
  rw [← hJ]
  refine Acts.of 6 func11 (by kernel_rfl) fun L => ?_
  refine CallNode.acts [] (aClone l b o cap (by omega) h0) trivial List.nodup_nil (fun _ _ h => ⟨h.1, trivial⟩) ?_
  rintro r C' E' ⟨rfl, b', cap', rest, rfl, hcap', rfl⟩
  refine CallNode.tellsIn (tDeleteNone l b' 0 cap' (by omega) (fun x hx => ⟨by have := (hg x hx).1; omega, (hg x hx).2.1, (hg x hx).2.2.1, (hg x hx).2.2.2⟩)) (fun β w ho => ⟨rowF_pre (ho.rowF 0 (i := 0) (.inl ⟨_, rfl⟩)), ho.fact (.tail _ (.head _)), trivial⟩) ?_
  refine CallNode.acts [0] (aSortStable l rest b' cap' hcap' (by omega)) ⟨rfl, trivial⟩ (by simp) (fun _ _ _ => trivial) ?_
  rintro r C' E' ⟨rfl, rfl, rfl⟩
  rw [← hs]
  refine CallNode.tellsIn (tCompactNone' s b' 0 cap' l.length hsl (by omega) htw) (fun β w ho => ⟨rowF_pre (ho.rowF 0 (i := 0) (.inl ⟨_, rfl⟩)), trivial⟩) ?_
  refine LoopNode.mk (α := JnSt) (fun x => [(3, .n (.v (.slice (some ⟨b', 0, none⟩) l.length cap'))), (4, .n (.v x.v)), (5, .n (.v (.int .i64 (x.i : Nat))))])
    (fun x => [rowOp s rest b', x.c]) (fun _ => [tabsF])
    (fun x => RowIs 31 x.v x.c x.done.length (flat OpD.cells x.done) ∧ x.done ++ joinF x.f (s.drop x.i) = J ∧ x.i ≤ s.length ∧ s.length ≤ x.i + x.f ∧ x.done.length ≤ x.i * 2 ^ 20) (fun x => s.length - x.i)
    ⟨s.length, 0, [], .slice none 0 0, .dead⟩ ⟨RowIs.nil _, hJ.symm, Nat.zero_le _, by show s.length ≤ 0 + s.length; omega, Nat.zero_le _⟩
    (.inl ⟨⟨⟨rfl, trivial⟩, ⟨rfl, trivial⟩, ⟨rfl, trivial⟩, trivial⟩, ⟨.inl rfl, rfl, trivial⟩, fun _ _ h => ⟨h.2.1, trivial⟩⟩) (fun _ => Nat.zero_le _) ?_
  rintro ⟨f, i, done, v, c⟩ ⟨hri, hp, hi, hf, hdl⟩
  simp only at hri hp hi hf hdl
  refine JoinNode.both (fun ht => ?_) (fun ht => ?_)
  · have hlt : i < s.length := by have c : (i : Int) < l.length := of_decide_eq_true ht; omega
    obtain ⟨f, rfl⟩ : ∃ f', f = f' + 1 := ⟨f - 1, by omega⟩
    have hx := getOp hlt
    rw [joinF_at hx] at hp
    have w1 : IntKind.i64.wrap ((i : Int) + 1) = ((i + 1 : Nat) : Int) := by rw [wrap_i64 (by omega) (by omega)]; omega
    have tx_at : ∀ {k : Nat}, k < s.length → (flat OpD.cells s ++ rest)[k * 22 + 8]? = some (.string (s.getD k OpD.zero).tx) := fun {k} hk => by
      have h1 := flat_get cells22 (getOp hk) 8 (.string (s.getD k OpD.zero).tx) rfl
      rw [List.getElem?_append_left (List.getElem?_eq_some_iff.1 h1).1]; exact h1
    refine IdxNode.at i rfl rfl (fun _ => by omega) ?_
    refine LoadNode.ownCell (q := 0) (i * 22 + 8) (.string (s.getD i OpD.zero).tx) rfl (fun _ => tx_at hlt) (by show some (Addr.add ⟨b', 0 + i * 22, none⟩ 8) = _; rw [addr_add, Nat.zero_add]) ?_
    intro b3
    have e1 : (s.drop i).take 1 = [s.getD i OpD.zero] := by
      have := take_getD (Nat.le_refl i) hlt
      simpa using this
    refine LoopNode.mk (α := TxSt) (fun x => [(3, .n (.v (.slice (some ⟨b', 0, none⟩) l.length cap'))), (4, .n (.v v)), (5, .n (.v (.int .i64 (i : Nat)))), (6, .n (.v (.int .i64 (x.k : Nat)))), (7, .n (.v x.v))])
      (fun x => [rowOp s rest b', c, x.c]) (fun _ => [tabsF])
      (fun x => i < x.k ∧ x.k ≤ s.length ∧ RowIs 9 x.v x.c (x.k - i) (flat encS (((s.drop i).take (x.k - i)).map (fun o : OpD => o.tx))) ∧
        s.getD i OpD.zero :: runOf (s.getD i OpD.zero) (s.drop (i + 1)) = (s.drop i).take (x.k - i) ++ runOf (s.getD (x.k - 1) OpD.zero) (s.drop x.k)) (fun x => s.length - x.k)
      ⟨i + 1, .slice (some ⟨b3, 0, none⟩) 1 1, .row 9 [.string (s.getD i OpD.zero).tx] (some b3)⟩
      ⟨Nat.lt_succ_self _, hlt, by
        show RowIs _ _ _ (i + 1 - i) (flat encS (((s.drop i).take (i + 1 - i)).map (fun o : OpD => o.tx)))
        rw [show i + 1 - i = 1 by omega, e1]
        exact RowIs.lit rfl, by
        show _ = (s.drop i).take (i + 1 - i) ++ runOf (s.getD (i + 1 - 1) OpD.zero) (s.drop (i + 1))
        rw [show i + 1 - i = 1 by omega, e1]; rfl⟩
      (.inl ⟨live5 ⟨rfl, trivial⟩ ⟨rfl, trivial⟩ ⟨rfl, trivial⟩ ⟨slotI w1, trivial⟩ ⟨rfl, trivial⟩, ⟨.inl rfl, .inl rfl, .inl rfl, trivial⟩, fun _ _ h => h⟩) (fun _ => Nat.zero_le _) ?_
    rintro ⟨k, vt, ct⟩ ⟨hik, hk, hrt, hrun⟩
    simp only at hik hk hrt hrun
    have w2 : IntKind.i64.wrap ((k : Int) - 1) = ((k - 1 : Nat) : Int) := by rw [wrap_i64 (by omega) (by omega)]; omega
    refine DrawNode.quiet (by kernel_rfl) ?_
    refine IdxNode.at (k - 1) w2 rfl (fun _ => by omega) ?_
    refine LoadNode.own (q := 0) (i := k - 1) (s.getD (k - 1) OpD.zero) cells22 rfl (fun _ => getOp (by omega)) rfl ?_
    have hgk : ∀ {t0 : Nat}, (Gd.yes t0 true (eff true (decide ((k : Int) < l.length))) .no).holds → k < s.length := fun h => by
      have c : decide ((k : Int) < l.length) = true := h
      have := of_decide_eq_true c
      omega
    refine IdxNode.at k rfl rfl (fun h => by have := hgk h; omega) ?_
    refine LoadNode.own (q := 0) (i := k) (s.getD k OpD.zero) cells22 rfl (fun h => getOp (hgk h)) rfl ?_
    refine VCallNode.tellsIn (fun _ => tFollows (s.getD (k - 1) OpD.zero) (s.getD k OpD.zero) (by have := (hgs _ (List.mem_of_getElem? (getOp (t := s) (i := k - 1) (by omega)))).1; omega)) (fun _ β w ho => ⟨ho.fact (.head _), trivial⟩) ?_
    refine JoinNode.both (fun hy => ?_) (fun hy => ?_)
    · have hy' : (decide ((k : Int) < l.length) && followsOp (s.getD (k - 1) OpD.zero) (s.getD k OpD.zero)) = true := hy
      rw [Bool.and_eq_true] at hy'
      have hkl : k < s.length := by have := of_decide_eq_true hy'.1; omega
      have e2 := take_getD (Nat.le_of_lt hik) hkl
      have w3 : IntKind.i64.wrap ((k : Int) + 1) = ((k + 1 : Nat) : Int) := by rw [wrap_i64 (by omega) (by omega)]; omega
      refine IdxNode.at k rfl rfl (fun _ => by omega) ?_
      refine LoadNode.ownCell (q := 0) (k * 22 + 8) (.string (s.getD k OpD.zero).tx) rfl (fun _ => tx_at hkl) (by show some (Addr.add ⟨b', 0 + k * 22, none⟩ 8) = _; rw [addr_add, Nat.zero_add]) ?_
      intro b4
      refine RawNode.app (i := 2) (n := k - i) (m := 1) (news := [.string (s.getD k OpD.zero).tx]) rfl rfl rfl elem_S rfl hrt (fun β w ho => src_own ho (i := 3) rfl rfl rfl (by simp [Value.oneCell'])) (by show (k - i + 1) * 16 ≤ _; omega) (by omega) fun v' c' hr' => ?_
      refine ⟨⟨k + 1, v', c'⟩, by show s.length - (k + 1) < s.length - k; omega, ⟨by show i < k + 1; omega, hkl, ?_, ?_⟩,
        .inr ⟨[], 2, [4], [c'], Nat.zero_le _, by show 2 ≤ 5; omega, rfl, ⟨.inl rfl, trivial⟩, fun i hi => .inl (by simp at hi; omega), by simp, live5 ⟨rfl, trivial⟩ ⟨rfl, trivial⟩ ⟨rfl, trivial⟩ ⟨slotI w3, trivial⟩ ⟨rfl, trivial⟩, fun _ _ h => h⟩⟩
      · show RowIs 9 v' c' (k + 1 - i) (flat encS (((s.drop i).take (k + 1 - i)).map (fun o : OpD => o.tx)))
        have hr2 : RowIs 9 v' c' (k - i + 1) (flat encS (((s.drop i).take (k - i)).map (fun o : OpD => o.tx)) ++ [.string (s.getD k OpD.zero).tx]) := hr'
        rw [e2, show k + 1 - i = k - i + 1 by omega, List.map_append, flat_app]
        exact hr2
      · show _ = (s.drop i).take (k + 1 - i) ++ runOf (s.getD (k + 1 - 1) OpD.zero) (s.drop (k + 1))
        rw [hrun, e2, runOf_at hkl, if_pos hy'.2, List.append_assoc]; rfl
    · have hy' : (decide ((k : Int) < l.length) && followsOp (s.getD (k - 1) OpD.zero) (s.getD k OpD.zero)) = false := hy
      have hr0 : runOf (s.getD (k - 1) OpD.zero) (s.drop k) = [] := by
        rcases Nat.lt_or_ge k s.length with h1 | h1
        · rw [runOf_at h1, if_neg]
          intro h2
          rw [h2, decide_eq_true (by omega)] at hy'; cases hy'
        · rw [List.drop_of_length_le h1]; rfl
      rw [hr0, List.append_nil] at hrun
      have hcl : (runOf (s.getD i OpD.zero) (s.drop (i + 1))).length = k - i - 1 := by
        have h1 := congrArg List.length hrun
        simp only [List.length_cons, List.length_take, List.length_drop] at h1
        omega
      rw [hrun, hcl, show i + 1 + (k - i - 1) = k by omega] at hp
      refine IdxNode.at i rfl rfl (fun _ => by omega) ?_
      refine LoadNode.own (q := 0) (i := i) (s.getD i OpD.zero) cells22 rfl (fun _ => hx) rfl ?_
      rcases hrt with ⟨_, _, e, _⟩ | ⟨bt, capt, cst, rfl, rfl, q1, q2, q3⟩
      · omega
      have hlen : (((s.drop i).take (k - i)).map (fun o : OpD => o.tx)).length = k - i := by simp; omega
      have hcst : cst = flat encS (((s.drop i).take (k - i)).map (fun o : OpD => o.tx)) ++ cst.drop ((k - i) * 1) := by
        have q3' : cst.take ((k - i) * 1) = flat encS (((s.drop i).take (k - i)).map (fun o : OpD => o.tx)) := q3
        rw [← q3', List.take_append_drop]
      have hsz := part_size s i (k - i)
      have hxi := hgs _ (List.mem_of_getElem? hx)
      refine CallNode.freeze 2 _ bt cst (.inl rfl) ?_
      refine CallNode.acts [1] (aPieces' c v done.length (flat OpD.cells done) (s.getD i OpD.zero) bt 0 capt (k - i) (((s.drop i).take (k - i)).map (fun o : OpD => o.tx)) hlen hri hxi.2 (by omega) (by omega) (by omega) (by omega)) ⟨rfl, trivial⟩ (by simp) (fun L w h => ⟨rowF_pre (cs := flat encS (((s.drop i).take (k - i)).map (fun o : OpD => o.tx))) (ds := cst.drop ((k - i) * 1)) (by rw [← hcst]; exact h.1), trivial⟩) ?_
      rintro r C' E' ⟨rfl, v', c', rfl, rfl, hr'⟩
      refine ⟨⟨f, k, done ++ pcs (s.getD i OpD.zero) (((s.drop i).take (k - i)).map (fun o : OpD => o.tx)), r, c'⟩, by show s.length - k < s.length - i; omega, ⟨?_, ?_, hk, by show s.length ≤ k + f; omega, ?_⟩,
        .inr ⟨[], 1, [3], [c'], Nat.zero_le _, by show 1 ≤ 4; omega, rfl, ⟨.inl rfl, trivial⟩, fun i hi => .inl (by simp at hi; omega), by simp, ⟨⟨rfl, trivial⟩, ⟨rfl, trivial⟩, ⟨rfl, trivial⟩, trivial⟩, fun _ _ h => ⟨h.2.1, trivial⟩⟩⟩
      · show RowIs 31 r c' (done ++ pcs _ _).length (flat OpD.cells (done ++ pcs _ _))
        rw [List.length_append, flat_app]; exact hr'
      · show (done ++ pcs _ _) ++ joinF f (s.drop k) = J
        rw [List.append_assoc]; exact hp
      · show (done ++ pcs _ _).length ≤ k * 2 ^ 20
        have h1 := piecesF_len (runes (catS (((s.drop i).take (k - i)).map (fun o : OpD => o.tx))).data.toList).length (s.getD i OpD.zero) (runes (catS (((s.drop i).take (k - i)).map (fun o : OpD => o.tx))).data.toList)
        have h2 := runes_le (catS (((s.drop i).take (k - i)).map (fun o : OpD => o.tx))).data.toList
        rw [sz_list] at h2
        have h3 : (pcs (s.getD i OpD.zero) (((s.drop i).take (k - i)).map (fun o : OpD => o.tx))).length ≤ 2 ^ 20 := by unfold pcs; omega
        rw [List.length_append]
        have h4 : (i + 1) * 2 ^ 20 ≤ k * 2 ^ 20 := Nat.mul_le_mul_right _ (by omega)
        omega
  · have hge : s.length ≤ i := by have c : ¬ (i : Int) < l.length := of_decide_eq_false ht; omega
    rw [joinF_end hge, List.append_nil] at hp
    subst hp
    have hy := Yields.pick (m := 0) (p := 0) (is := [1]) (H := [rowOp s rest b', c]) (cs := [c]) (E := [tabsF]) (Nat.le_refl _) (Nat.zero_le _) ⟨.inl rfl, trivial⟩ (fun _ _ => Nat.zero_le _) (by simp)
    exact ⟨[v], [c], [], rfl, hy.trans (Yields.facts (E' := []) fun _ _ _ => trivial), Nat.zero_le _, rfl, v, c, rfl, rfl, hri⟩
end Go.Q
