/-
  quirelaw8.sameAll, and the chapter's examples (quirelaw8.known). Conditions: as stated.
-/
import Derived.Test.YtkidlkcmpbnhpaaDoorQo6
import Derived.Test.YtkidlkcmpbnhpaaDoorQs6
namespace Go.Q
open Go Go.Proofs.Tryd
set_option maxRecDepth 100000
variable {L : Nat → Prop} {gd : Gd} {H : List Ck} {E : List Fact}
def same8 (a b : OpD) : Bool := sameOp (vcmp a b == 0) a b
set_option maxHeartbeats 1000000 in
theorem tSameAll (l l2 : List OpD) (b o cap b2 o2 cap2 : Nat) (hl : l.length < 2 ^ 40) (he : l2.length = l.length) (hs : ∀ (i : Nat) (x y : OpD), l[i]? = some x → l2[i]? = some y → same8 x y = true) :
    TellsIn [rowF b o (flat OpD.cells l), rowF b2 o2 (flat OpD.cells l2)] 10 [.slice (some ⟨b, o, none⟩) l.length cap, .slice (some ⟨b2, o2, none⟩) l2.length cap2] [.bool true] :=
  TellsIn.of 7 func10 (by kernel_rfl) fun L => by
    refine JoinNode.no (show ((l.length : Int) != (l2.length : Int)) = false by rw [he]; simp) ?_
    refine LoopNode.mk (α := Nat) (fun i => [(0, .n (.v (.slice (some ⟨b, o, none⟩) l.length cap))), (1, .n (.v (.slice (some ⟨b2, o2, none⟩) l2.length cap2))), (5, .n (.v (.int .i64 (i : Nat))))]) (fun _ => []) (fun _ => [rowF b o (flat OpD.cells l), rowF b2 o2 (flat OpD.cells l2)])
      (fun i => i ≤ l.length) (fun i => l.length - i) 0 (by omega)
      (.inl ⟨⟨⟨rfl, trivial⟩, ⟨rfl, trivial⟩, ⟨rfl, trivial⟩, trivial⟩, trivial, fun _ _ h => h⟩) (fun _ => Nat.zero_le _) ?_
    intro i hi
    refine JoinNode.both (fun ht => ?_) (fun ht => ?_)
    · have hlt : i < l.length := by have c : (i : Int) < l.length := of_decide_eq_true ht; omega
      refine DrawNode.quiet (by kernel_rfl) ?_
      refine IdxNode.at i rfl rfl (fun _ => hlt) ?_
      refine LoadNode.elem i l[i] cells22 (.head _) (fun _ => List.getElem?_eq_getElem hlt) rfl ?_
      refine IdxNode.at i rfl rfl (fun _ => by omega) ?_
      refine LoadNode.elem i (l2[i]'(by omega)) cells22 (.tail _ (.head _)) (fun _ => List.getElem?_eq_getElem (by omega)) rfl ?_
      refine VCallNode.tells (fun _ => tSame8 _ _) ?_
      refine JoinNode.no (show (!same8 l[i] (l2[i]'(by omega))) = false by rw [hs i _ _ (List.getElem?_eq_getElem hlt) (List.getElem?_eq_getElem (by omega))]; rfl) ?_
      refine ⟨i + 1, by omega, by omega, .inl ⟨⟨⟨rfl, trivial⟩, ⟨rfl, trivial⟩, ⟨slotI ?_, trivial⟩, trivial⟩, trivial, fun _ _ h => h⟩⟩
      rw [wrap_i64 (by omega) (by omega)]; rfl
    · exact rfl
def oK : OpD := { OpD.zero with c := 1, k := 5, kind := 1, tx := ⟨#[97, 98, 99]⟩ }
def cK : OpD := { OpD.zero with c := 1, k := 6, kind := 1, tx := ⟨#[98, 99]⟩, lc := 1, lk := 5 }
def aK : OpD := { OpD.zero with c := 1, k := 5, kind := 1, tx := ⟨#[97]⟩ }
theorem kn1 : cutOk oK 1 3 = true := by kernel_rfl
theorem kn2 : cutOp oK 1 3 = cK := by kernel_rfl
theorem kn3 : cutOk oK 0 1 = true := by kernel_rfl
theorem kn4 : cutOp oK 0 1 = aK := by kernel_rfl
theorem kn5 : cutOk oK 2 2 = false := by kernel_rfl
theorem kn6 : stableL lessOp [cK, aK] = [aK, cK] := by kernel_rfl
theorem kn7 : joinF 2 [aK, cK] = [oK] := by kernel_rfl
theorem kn8 : chkT cK = true := by kernel_rfl
theorem kn9 : chkT aK = true := by kernel_rfl
theorem kn10 : chkT oK = true := by kernel_rfl
theorem kn11 : lenOp oK = 3 := by kernel_rfl
theorem kn12 : fitsOp aK cK = true := by kernel_rfl
theorem kn13 : fitsOp cK aK = false := by kernel_rfl
theorem kn14 : endOp oK = 8 := by kernel_rfl
theorem pvBool {x y : Bool} (h : x = y) : [PV.v (.bool x)] = [Value.bool y].map PV.v := by rw [h]; rfl
set_option maxHeartbeats 4000000 in
theorem tKnown : TellsIn [tabsF] 4 [] [.bool true] :=
  TellsIn.of 7 func4 (by kernel_rfl) fun L => by
    refine CallNode.tellsIn (show TellsIn [tabsF] 8 [vOp oK, .int .i64 1, .int .i64 3] [vOp cK, .bool true] from by have := tCutOp oK (by decide) (by kernel_rfl) rfl rfl 1 3; rw [kn1, kn2] at this; exact this) (fun _ _ => ho1) ?_
    refine CallNode.tellsIn (show TellsIn [tabsF] 8 [vOp oK, .int .i64 0, .int .i64 1] [vOp aK, .bool true] from by have := tCutOp oK (by decide) (by kernel_rfl) rfl rfl 0 1; rw [kn3, kn4] at this; exact this) (fun _ _ => ho1) ?_
    intro b
    refine CallNode.freeze 3 _ b _ (.inl rfl) ?_
    refine CallNode.acts [] (aJoin [cK, aK] b 0 2 (by decide) (by decide) (fun x hx => by
      rcases List.mem_cons.1 hx with rfl | hx
      rotate_left
      rcases List.mem_singleton.1 hx with rfl
      · exact ⟨by decide, rfl, ⟨rfl, rfl, rfl, rfl⟩, kn9⟩
      · exact ⟨by decide, rfl, ⟨rfl, rfl, rfl, rfl⟩, kn8⟩) (fun x hx => by
      rw [kn6] at hx
      rcases List.mem_cons.1 hx with rfl | hx
      rotate_left
      rcases List.mem_singleton.1 hx with rfl
      · exact ⟨by decide, rfl⟩
      · exact ⟨by decide, rfl⟩) (by rw [kn6]; decide) (by rw [kn6]; exact ⟨by decide, trivial⟩)) trivial List.nodup_nil (fun L w h => h) ?_
    rintro r C' E' ⟨rfl, v', c', rfl, rfl, hr⟩
    rw [kn6] at hr
    have hr2 : RowIs 31 r c' 1 (flat OpD.cells [oK]) := by
      have e : joinF [aK, cK].length [aK, cK] = [oK] := kn7
      rw [e] at hr; exact hr
    rcases hr2 with ⟨_, _, e, _⟩ | ⟨bt, capt, cst, rfl, rfl, q1, q2, q3⟩
    · cases e
    refine CallNode.tellsIn (show TellsIn [tabsF] 8 [vOp oK, .int .i64 2, .int .i64 2] [vOp OpD.zero, .bool false] from by have := tCutOp oK (by decide) (by kernel_rfl) rfl rfl 2 2; rw [kn5] at this; exact this) (fun β w ho => ⟨ho.fact (.tail _ (.head _)), trivial⟩) ?_
    refine CallNode.tellsIn (show TellsIn [tabsF] 12 [vOp oK] [.int .i64 0] from by have := tCheckO oK (by decide) rfl ⟨rfl, rfl, rfl, rfl⟩; rw [kn10] at this; exact this) (fun β w ho => ⟨ho.fact (.tail _ (.head _)), trivial⟩) ?_
    refine VRawNode.eqlId rfl rfl rfl ?_
    refine IdxNode.at 0 rfl rfl (fun _ => by omega) ?_
    refine LoadNode.ownCell (q := 4) 8 (.string oK.tx) rfl (fun _ => by
      have h8 : (cst.take (1 * (τ.ti 31).size))[8]? = some (.string oK.tx) := by rw [q3]; rfl
      rw [List.getElem?_take] at h8
      split at h8
      · exact h8
      · cases h8) (by show some (Addr.add ⟨bt, 0 + 0 * 22, none⟩ 8) = _; rw [addr_add]) ?_
    refine VCallNode.tellsIn (fun _ => show TellsIn [tabsF] 13 [vOp oK] [.int .i64 3] from by have := tLenOp oK (by decide); rw [kn11] at this; exact this) (fun _ β w ho => ⟨ho.fact (.tail _ (.head _)), trivial⟩) ?_
    refine VCallNode.tells (fun _ => tCheck0) ?_
    refine VCallNode.tellsIn (fun _ => show TellsIn [tabsF] 14 [vOp aK, vOp cK] [.bool true] from by have := tFits aK cK (by decide) (by decide); rw [kn12] at this; exact this) (fun _ β w ho => ⟨ho.fact (.tail _ (.head _)), trivial⟩) ?_
    refine VCallNode.tellsIn (fun _ => show TellsIn [tabsF] 14 [vOp cK, vOp aK] [.bool false] from by have := tFits cK aK (by decide) (by decide); rw [kn13] at this; exact this) (fun _ β w ho => ⟨ho.fact (.tail _ (.head _)), trivial⟩) ?_
    refine VCallNode.tellsIn (fun _ => show TellsIn [tabsF] 15 [vOp oK] [vRg 1 5 8] from by have := tRangeOp oK (by decide); rw [kn14] at this; exact this) (fun _ β w ho => ⟨ho.fact (.tail _ (.head _)), trivial⟩) ?_
    refine VRawNode.eqlRange rfl rfl rfl ?_
    refine pvBool ?_
    have e : (oK.tx.toList == (⟨#[97, 98, 99]⟩ : ByteArray).toList) = true := beq_self_eq_true _
    have e2 : (cK.tx.toList == (⟨#[98, 99]⟩ : ByteArray).toList) = true := beq_self_eq_true _
    rw [e, e2]; rfl
end Go.Q
