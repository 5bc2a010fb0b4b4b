/-
  The given law quirelaw8.OpsPieces tells true for every input: its row, and its tied card. Conditions: none but the row's own (the two tables of unicode/utf8 as listed; the card ties them).
-/
import Derived.Test.YtkidlkcmpbnhpaaDoorQp3
import Derived.Test.YtkidlkcmpbnhpaaDoorCards
import Derived.Test.YtkidlkcmpbnhpaaDoorTie
import Derived.SevenTiedAt
namespace Go.Q
open Go Go.Proofs Go.Proofs.YtkidlkcmpbnhpaaDoor Go.Proofs.Tryd Go.RowKit Go.ChangeShapes
open Go.Proofs.YtkidlkcmpbnhpaaDoor.Rows (opsPiecesRow opsPiecesSpec)
set_option maxRecDepth 100000
theorem own : ownKnob P.godebug = none := by kernel_rfl
theorem table_ok : tableOk P = true := by kernel_rfl
theorem open_op {w : World} {base : Nat} {v : Value} (h : Value.okWide P w .any base 31 v) : ∃ o : OpD, v = vOp o := by
  obtain ⟨cs, rfl, hf⟩ := open_plain (L := [some (.int .u64), some (.int .u64), some (.int .i64), some (.int .u64), some (.int .u64), some (.int .u64), some (.int .u64), some (.int .u64), some .string, some (.int .i64), some (.int .i64), some (.float .f64), some .string, some .string, some (.int .u64), some (.int .u64), some (.int .u64), some (.int .u64), some .bool, some (.int .u64), some (.int .u64), some .bool]) (by kernel_rfl) (by kernel_rfl) (by kernel_rfl) h
  obtain ⟨_, _, rfl, ⟨c, rfl, _⟩, _, _, rfl, ⟨k, rfl, _⟩, _, _, rfl, ⟨kind, rfl, _⟩, _, _, rfl, ⟨st, rfl, _⟩, _, _, rfl, ⟨lc, rfl, _⟩, _, _, rfl, ⟨lk, rfl, _⟩, _, _, rfl, ⟨rc, rfl, _⟩, _, _, rfl, ⟨rk, rfl, _⟩, _, _, rfl, ⟨tx, rfl, _⟩, _, _, rfl, ⟨vk, rfl, _⟩, _, _, rfl, ⟨vn, rfl, _⟩, _, _, rfl, ⟨vf, rfl, _⟩, _, _, rfl, ⟨vs, rfl, _⟩, _, _, rfl, ⟨key, rfl, _⟩, _, _, rfl, ⟨pc, rfl, _⟩, _, _, rfl, ⟨pk, rfl, _⟩, _, _, rfl, ⟨fc, rfl, _⟩, _, _, rfl, ⟨fk, rfl, _⟩, _, _, rfl, ⟨fa, rfl⟩, _, _, rfl, ⟨tc, rfl, _⟩, _, _, rfl, ⟨tk, rfl, _⟩, _, _, rfl, ⟨ta, rfl⟩, rfl⟩ := hf
  exact ⟨⟨c, k, kind, st, lc, lk, rc, rk, tx, vk, vn, vf, vs, key, pc, pk, fc, fk, fa, tc, tk, ta⟩, rfl⟩
theorem accept_eq : (Rows.laid_unicode_utf8_acceptRanges : DataW Unit) = Go.Lib.acceptData := by kernel_rfl
noncomputable abbrev fn3 : Func := f3
theorem pieces_lifted (os : Os) (started : os.Started) (H : Type) (enc : TypeId × Value → H) :
    ReturnsInHanded {} Tryd.checked os 3 .any (fun w args => (opsPiecesSpec.pre enc P fn3 opsPiecesRow.domain false w args ∧ laidMetH P opsPiecesRow.laid w) ∧ sizedMet enc P fn3 (OpenSpec.ofChange opsPiecesSpec) false w args)
      (opsPiecesSpec.post enc P fn3 false true false false) := by
  refine returnsInHanded_of_change_and (C := Tryd.checked) (X := fun w _ => laidMetH P opsPiecesRow.laid w) (fun _ _ _ hh h => h.of_heap hh) own started (by kernel_rfl) func3
    (ChangeSpec.witness_shaped (enc := enc) (C := Tryd.checked) (os := os) (X := fun w _ => laidMetH P opsPiecesRow.laid w) false (World.laidAll P os opsPiecesRow.laid) #[vOp OpD.zero, .slice none 0 0, .int .i64 0] 8 (World.laidAll_os _ _ _)
      (World.shaped_of_ZipB (by kernel_rfl) (by kernel_rfl)) (by kernel_rfl) (by kernel_rfl) (by kernel_rfl)
      (by rw [MakeChecks.laidMetH_plain _ _ _ (by kernel_rfl)]; exact laidMet_laidAll _ (by kernel_rfl) (by kernel_rfl))) ?_
  intro W base args ds gs before hval0 hW hc _ hL _
  have hval : ∀ (j : Nat) t v, fn3.params[j]? = some t → args[j]? = some v → Value.okWide P W .any base t v := hval0
  have hW' := hW
  obtain ⟨p, q, hA0, hV, rfl, _, _⟩ := hW
  have hA : DataW.TrodAll enc P W 0 (fun _ => true) true fn3.params.toList args.toList ds p := hA0
  have hpar : fn3.params = #[31, 32, 3] := by kernel_rfl
  rw [hpar] at hA hval
  obtain ⟨v0, v1, v2, d0, d1, d2, p0, p1, p2, rfl, rfl, rfl, h0, h1, h2⟩ := trodAll_three hA
  obtain ⟨rfl, rfl⟩ := trodVars_none hV
  obtain ⟨o, rfl⟩ := open_op (hval 0 _ v0 rfl rfl)
  obtain ⟨turn, rfl, rfl, rfl, wt⟩ := open_int (show P.underlying 3 = some (.int .i64) by kernel_rfl) (hval 2 _ v2 rfl rfl) h2
  have ht : -(2 ^ 63) ≤ turn ∧ turn < 2 ^ 63 := by
    simp only [Lit.wf, Bool.and_eq_true, decide_eq_true_eq] at wt
    have f1 : IntKind.i64.min = -9223372036854775808 := by decide
    have f2 : IntKind.i64.max = 9223372036854775807 := by decide
    rw [f1, f2] at wt
    omega
  have htab : tabsF.hold (fun _ => False) W := tabs_of hL (by kernel_rfl) (by rw [← Pinned.utf8First_eq]; exact .tail _ (.head _)) (by rw [← accept_eq]; exact .head _)
  have fin : Calls P 3 #[vOp o, v1, .int .i64 turn] W fun e W' => e = .returned (.bool true) ∧ Kp (fun _ => False) W W' := by
    rcases open_bytes (show P.underlying 32 = some (.slice 5) by kernel_rfl) (by kernel_rfl) (by kernel_rfl) (hval 1 _ v1 rfl rfl) h1 with rfl | ⟨b, off, cap, cuts, rfl, hr, hx, hn⟩
    · exact tOpsPieces o [] none (laysValidRen.g 3) 0 0 turn (fun h => absurd rfl h) (fun _ h => by cases h) ht (by decide) (fun _ => False) W (fun _ h => h.elim) ⟨htab, ⟨fun x => x, htab.2.2.1, fun j v h => by simp [flat] at h⟩, trivial⟩
    · exact tOpsPieces o cuts _ b off cap turn (fun _ => rfl) hx ht hn (fun _ => False) W (fun _ h => h.elim) ⟨htab, hr, trivial⟩
  refine fin.mono fun e W' ⟨he, hk⟩ => ⟨_, he, ?_⟩
  simp only [List.append_nil] at hW'
  exact law_post table_ok hW' rfl hk rfl (t := 4) (by kernel_rfl) (by kernel_rfl) (by kernel_rfl) (by kernel_rfl)
theorem pieces_holds : Rows.OpsPiecesSaid :=
  OpenClaim.holds_of_wide 3 fn3 rfl rfl rfl rfl rfl rfl rfl ⟨rfl, rfl, rfl, rfl, rfl⟩ rfl rfl rfl rfl rfl (by kernel_rfl) func3 (by kernel_rfl)
    (of_decide_eq_true (by kernel_rfl)) (by unfold Func.isWrapper; first | (rw [if_pos (by decide +kernel)]; kernel_rfl) | (rw [if_neg (by decide +kernel)]; exact ⟨rfl, rfl⟩))
    (fun os started H enc _ => pieces_lifted os started H enc)
theorem pieces_card : Rows.OpsPiecesCardSaid :=
  Claim7.holds_tied_plain_at .later [] [.data, .pinned] true (true, "e9967fe2cf413b713a8800e2b0b6ff9cec0e432baba276da8b745dd9bdd0e9d7") false pieces_holds (fun _ h => by cases h) (by kernel_rfl) (fun _ h => by cases h) opsPieces_row_tie rfl ⟨rfl, rfl⟩ (by kernel_rfl) rfl
    (fun f fn hf hfn => by
      obtain rfl : f = 3 := Option.some.inj ((show P.funcNamed "quire/quirelaw8.OpsPieces" = some 3 by kernel_rfl).symm.trans hf) |>.symm
      obtain rfl : fn = fn3 := (Option.some.inj ((show P.funcs[3]? = some fn3 from func3).symm.trans hfn)).symm
      exact ⟨by kernel_rfl, fun j t ht => by
        have hpar : fn3.params = #[31, 32, 3] := by kernel_rfl
        rw [hpar] at ht
        have hm : t ∈ [31, 32, 3] := by simpa using Array.mem_of_getElem? ht
        have hall : ([31, 32, 3].all fun u => !P.wantsStandIn u) = true := by kernel_rfl
        exact (show P.wantsStandIn t = false by simpa using List.all_eq_true.1 hall t hm)⟩)
    (by kernel_rfl)
end Go.Q
namespace Go.Proofs.YtkidlkcmpbnhpaaDoor
theorem opsPieces_card : Rows.OpsPiecesCardSaid := Go.Q.pieces_card
#print axioms opsPieces_card
end Go.Proofs.YtkidlkcmpbnhpaaDoor
