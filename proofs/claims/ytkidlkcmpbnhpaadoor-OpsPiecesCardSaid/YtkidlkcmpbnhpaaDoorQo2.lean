/-
  quirehelp.Place, ops.Cut. Conditions: as stated at each.
-/
import Derived.Test.YtkidlkcmpbnhpaaDoorQo1
namespace Go.Q
open Go Go.Proofs.Tryd
set_option maxRecDepth 100000
variable {L : Nat → Prop} {H : List Ck} {E : List Fact}
def placeI (k n : Int) : Int := k % n
theorem tPlace (k n : Int) (hk : -(2 ^ 63) ≤ k ∧ k < 2 ^ 63) (hn : 0 < n) (hn2 : n < 2 ^ 62) : Tells 9 [.int .i64 k, .int .i64 n] [.int .i64 (k % n)] :=
  Tells.of 4 func9 (by kernel_rfl) fun L => by
    have e1 : k.tmod n = if 0 ≤ k ∨ k % n = 0 then k % n else k % n - n := by
      rw [Int.tmod_eq_emod]
      have : n.natAbs = n := by omega
      by_cases h : 0 ≤ k ∨ n ∣ k
      · rw [if_pos h, if_pos]
        · omega
        · rcases h with h | h
          · exact .inl h
          · exact .inr (Int.emod_eq_zero_of_dvd h)
      · rw [if_neg h, if_neg]
        · omega
        · intro h2
          rcases h2 with h2 | h2
          · exact h (.inl h2)
          · exact h (.inr (Int.dvd_of_emod_eq_zero h2))
    have e2 := Int.emod_nonneg k (show n ≠ 0 by omega)
    have e3 := Int.emod_lt_of_pos k hn
    refine VRawNode.rem rfl rfl rfl (fun _ => by omega) ?_
    refine JoinNode.both (fun h => ?_) (fun h => ?_)
    · have h' : k.tmod n < 0 := of_decide_eq_true h
      rw [e1] at h'
      refine pvInt ?_
      show k % n = _
      rw [e1, wrap_i64 (by split <;> omega) (by split <;> omega)]
      split at h' <;> rename_i h2
      · omega
      · rw [if_neg h2]; omega
    · have h' : ¬ k.tmod n < 0 := of_decide_eq_false h
      rw [e1] at h'
      refine pvInt ?_
      show k % n = _
      rw [e1]
      split at h' <;> rename_i h2
      · rw [if_pos h2]
      · omega
def OpD.zero : OpD := ⟨0, 0, 0, 0, 0, 0, 0, 0, ⟨#[]⟩, 0, 0, 0, ⟨#[]⟩, ⟨#[]⟩, 0, 0, 0, 0, false, 0, 0, false⟩
/-- A part of a text. -/
def cutOp (o : OpD) (a b : Int) : OpD :=
  { o with tx := textOf (encs (cutR a b (runes o.tx.data.toList))), k := IntKind.u64.wrap (o.k + IntKind.u64.wrap a), lc := if 0 < a then o.c else o.lc, lk := if 0 < a then IntKind.u64.wrap (IntKind.u64.wrap (o.k + IntKind.u64.wrap a) - 1) else o.lk }
/-- May it be cut there? -/
def cutOk (o : OpD) (a b : Int) : Bool := !(decide (a < 0) || decide (a ≥ b) || decide (b > (lenOp o : Int)))
set_option maxHeartbeats 1000000 in
theorem tCutOp (o : OpD) (hs : o.tx.size < 2 ^ 40) (hv : isText o.tx = true) (hk : o.kind = 1) (hf : o.vf = 0) (a b : Int) :
    TellsIn [tabsF] 8 [vOp o, .int .i64 a, .int .i64 b] [if cutOk o a b = true then vOp (cutOp o a b) else vOp OpD.zero, .bool (cutOk o a b)] := by
  obtain ⟨c, k, kind, st, lc, lk, rc, rk, tx, vk, vn, vf, vs, key, pc, pk, fc, fk, fa, tc, tk, ta⟩ := o
  simp only at hs hv hk hf
  subst hk; subst hf
  exact TellsIn.of 6 func8 (by kernel_rfl) fun L => by
    refine VCallNode.tellsIn (fun _ => tLenOp ⟨c, k, 1, st, lc, lk, rc, rk, tx, vk, vn, 0, vs, key, pc, pk, fc, fk, fa, tc, tk, ta⟩ (by show tx.size < _; omega)) (fun _ _ _ => ho1) ?_
    refine JoinNode.both (fun h => ?_) (fun h => ?_)
    · have h' : cutOk ⟨c, k, 1, st, lc, lk, rc, rk, tx, vk, vn, 0, vs, key, pc, pk, fc, fk, fa, tc, tk, ta⟩ a b = false := by unfold cutOk; rw [Bool.not_eq_false']; exact h
      rw [h']; exact rfl
    · have h' : cutOk ⟨c, k, 1, st, lc, lk, rc, rk, tx, vk, vn, 0, vs, key, pc, pk, fc, fk, fa, tc, tk, ta⟩ a b = true := by unfold cutOk; rw [Bool.not_eq_true']; exact h
      rw [h']
      refine CallNode.tells (tClean vk vn vs) ?_
      refine JoinNode.no rfl ?_
      refine CallNode.tellsIn (tUtfCut tx hs hv a b) (fun _ _ => ho1) ?_
      refine JoinNode.both (fun h2 => ?_) (fun h2 => ?_)
      · have h2' : 0 < a := of_decide_eq_true h2
        exact show _ = _ by unfold cutOp; simp only [h2', if_true]; rfl
      · have h2' : ¬ 0 < a := of_decide_eq_false h2
        exact show _ = _ by unfold cutOp; simp only [h2', if_false]; rfl
end Go.Q
