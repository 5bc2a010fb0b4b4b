/-
  utf.Runes, utf.Cut: what they tell. Conditions: texts are shorter than 2^40 bytes.
-/
import Derived.Test.YtkidlkcmpbnhpaaDoorQp1
import Derived.RangeFuncMany
import Derived.RangeFuncFrom
import Derived.RangeFuncLeaves
import Derived.Shelf.Abstract
import Derived.WalkKit
import Derived.TacticsIn
import Derived.BigFrameIn
import Derived.Laws.Cover4
import Derived.OwnWalkIn
import Derived.Laws.RangeAny
import Derived.LoopIn
import Derived.OneCell
import Derived.Maps.AppendAt
import Derived.OwnWalk
import Derived.Lib.Hide
import Derived.LoopNIn
import Derived.TacticsInMore
import Derived.RegionIn
import Derived.Maps.RangeWalk
namespace Go.Proofs
open Go Go.RowKit Go.Shelf Go.Q Go.Proofs.Tryd
set_option maxRecDepth 100000
namespace QCut
theorem next_at {W : World} {r pos : Nat} {s : ByteArray} (h : W.heap[r]? = some (.stringIter s pos)) (hp : pos < s.size) (ty : TypeId) :
    (Instr.next (.pointer (some ⟨r, 0, none⟩)) true ty).run Go.Q.P W = .ok (.tuple #[.bool true, .int .i64 pos, .int .i32 ((Utf8.decode s pos).1 : Nat)]) (W.putObj r (.stringIter s (pos + (Utf8.decode s pos).2))) := by
  simp only [Instr.next, getObj, setObj, Sem.run_bind, Sem.run, h, Result.andThen, hp, if_true]
  rfl
theorem next_end {W : World} {r pos : Nat} {s : ByteArray} (h : W.heap[r]? = some (.stringIter s pos)) (hp : ¬ pos < s.size) (ty : TypeId) :
    (Instr.next (.pointer (some ⟨r, 0, none⟩)) true ty).run Go.Q.P W = .ok (.tuple #[.bool false]) W := by
  simp [Instr.next, getObj, Sem.run, h, hp]
abbrev encs2 (x : Nat × Nat) : Array Value := #[.int .i64 (x.2 : Nat), .int .i32 (x.1 : Nat)]
/-- A text's runes, each with its number. -/
def numbered (s : ByteArray) : List (Nat × Nat) := (runes s.data.toList).zipIdx
theorem grown_of {W W' : World} (h : Below W.heap.size W W') : W.grownBy W' none := ⟨h.os, h.tape, h.output, h.size, fun k hk _ => h.block k hk⟩
set_option maxHeartbeats 2000000 in
theorem runes1_stops (n : Nat) (hn : 1 ≤ n) (s : ByteArray) (hs : s.size < 2 ^ 40) (b : Nat) (w : World) (hb : b < w.heap.size) (hc : w.cell? ⟨b, 0, none⟩ = some (.string s)) (ht : tabsF.hold (fun _ => False) w) (hv : isText s = true) :
    SeqStopsA Fence.wide n Go.Q.P 68 #[.pointer (some ⟨b, 0, none⟩)] encs2 (fun xs => xs = numbered s) (fun _ => True) s.size w := fun l J Jx W hW hJ hJx hY h0 => by
  have hcW : W.cell? ⟨b, 0, none⟩ = some (.string s) := (hW.cell (p := ⟨b, 0, none⟩) hb).trans hc
  have htW : tabsF.hold (fun _ => False) W := tabsF.keep _ _ _ ⟨hW.os, hW.tape, hW.output, hW.size, fun k hk _ => hW.block k hk⟩ ht
  have hchk : CallsIn Fence.wide (n - 1) Go.Q.P 56 #[.string s] W fun e w' => e = .returned (.bool true) ∧ Below W.heap.size W w' := by
    refine (callsIn_wide.2 (tUtfCheck s (by omega) (fun _ => False) W (fun _ h => h.elim) ⟨htW, trivial⟩)).mono fun e w' ⟨h1, h2⟩ => ⟨by rw [h1, hv]; rfl, ⟨h2.os, h2.tape, h2.output, h2.size, fun k hk => h2.block k hk (fun h => h)⟩⟩
  have f1 : Fence.wide.fn 56 := trivial
  refine callsIn_of_wp func68 rfl trivial ?_ rfl
  simp only [ntmps68, List.size_toArray, List.length_cons, List.length_nil, Nat.reduceAdd, Nat.reduceSub, Array.replicate_succ, Array.replicate_zero, List.push_toArray, List.append_toArray, List.nil_append, List.cons_append]
  have hbW : b < W.heap.size := Nat.lt_of_lt_of_le hb hW.size
  have t9 := underlying9
  gi_wp2_with (gi_at_call 56; refine hchk.mono ?_; rintro e W1 ⟨rfl, hk1⟩; have hc1 : W1.cell? ⟨b, 0, none⟩ = some (.string s) := (hk1.cell (p := ⟨b, 0, none⟩) hbW).trans hcW)
  have hJ1 : J [] W1 := hJ [] W W1 none h0 (grown_of hk1) (fun r e => by cases e)
  have hJ2 : J [] (W1.iter s 0) := hJ [] W1 _ none hJ1 (World.grownBy_alloc W1 _ none) (fun r e => by cases e)
  have hit : (W1.iter s 0).heap[W1.heap.size]? = some (.stringIter s 0) := World.iter_heap W1 s 0
  have hWs := hk1.size
  obtain ⟨it, hitE⟩ : ∃ it, it = W1.heap.size := ⟨_, rfl⟩
  have hle : W.heap.size ≤ it := by omega
  obtain ⟨W2, hW2⟩ : ∃ W2, W2 = W1.iter s 0 := ⟨_, rfl⟩
  rw [← hW2] at hJ2
  rw [← hW2, ← hitE] at hit
  simp only [← hW2, ← hitE]
  clear hJ1 hc1 hk1 hchk hitE hW2 hWs
  gi_loopw [3] (fun c wr => ∃ (pos : Nat) (pre : List (Nat × Nat)), c = .int .i64 (pre.length : Nat) ∧ wr.heap[it]? = some (.stringIter s pos) ∧ pre.map (·.1) ++ runes (s.data.toList.drop pos) = runes s.data.toList ∧ pre = (pre.map (·.1)).zipIdx ∧ pos ≤ s.size ∧ J pre wr) (fun _ wr => s.size - wr.iterPos it)
  case atStart => exact ⟨0, [], rfl, hit, rfl, rfl, Nat.zero_le _, hJ2⟩
  case round =>
    obtain ⟨pos, pre, rfl, hi, hr, hp, hps, hj⟩ := hrel
    by_cases hlt : pos < s.size
    · have hnx : ∀ ty, (Instr.next (.pointer (some ⟨it, 0, none⟩)) true ty).run Go.Q.P wr = _ := fun ty => next_at hi hlt ty
      have hwd := Lib.decode_width_pos s pos hlt
      have hne : s.data.toList.drop pos ≠ [] := fun e => by have := congrArg List.length e; rw [List.length_drop, sz_list] at this; simp at this; omega
      have hst := runes_step hne
      rw [Lib.decodeL_drop] at hst
      have hlen : pre.length < s.size := by
        have h1 := runes_le s.data.toList
        rw [← hr, hst, sz_list] at h1
        simp at h1; omega
      obtain ⟨W3, hW3⟩ : ∃ W3, W3 = wr.putObj it (.stringIter s (pos + (Utf8.decode s pos).2)) := ⟨_, rfl⟩
      have hitlt := lt_of_some hi
      have hi3 : W3.heap[it]? = some (.stringIter s (pos + (Utf8.decode s pos).2)) := by rw [hW3]; exact World.putObj_heap_same hitlt
      have hJ3 : J pre W3 := hJ pre wr W3 (some it) hj (by rw [hW3]; exact grownBy_putObj' _ _ _) (fun r e => by cases e; exact ⟨hle, _, hi, rfl⟩)
      rw [← hW3] at hnx
      clear hW3
      obtain ⟨f1, t1, a1, b1, hy1, hR1⟩ := hY pre ((Utf8.decode s pos).1, pre.length) W3 hJ3 hlen
      dsimp only [encs2] at hy1
      have Hst := Lib.hid hst
      have Hr := Lib.hid hr
      have Hp := Lib.hid hp
      have Hi := Lib.hid hi
      have Hi3 := Lib.hid hi3
      clear hst hr hp hi hi3 hj hJ3 hne
      gi_wp2
      refine hR1.mono ?_
      rintro e W4 (⟨rfl, hJ4, hk4⟩ | ⟨rfl, hx4⟩)
      · gi_wp2
        go_roundw
        case rel =>
          refine ⟨pos + (Utf8.decode s pos).2, pre ++ [((Utf8.decode s pos).1, pre.length)], ?_, hk4.same _ _ Hi3.out rfl, ?_, ?_, ?_, hJ4⟩
          · simp
          · rw [← Hr.out, Hst.out]; simp [List.drop_drop]
          · have := Hp.out
            rw [List.map_append, List.zipIdx_append, ← this]; simp
          · have := Lib.decodeL_le (s.data.toList.drop pos) (fun e => by have := congrArg List.length e; rw [List.length_drop, sz_list] at this; simp at this; omega)
            rw [Lib.decodeL_drop, List.length_drop, sz_list] at this; omega
        case measure =>
          simp [World.iterPos, hk4.same _ _ Hi3.out rfl, Hi.out]; omega
      · gi_wp2
        refine bodyPost_ret (results_none rfl _ _ _) rfl ?_
        exact ⟨⟨_, rfl⟩, .inr ⟨_, trivial, hx4⟩⟩
    · have hnx : ∀ ty, (Instr.next (.pointer (some ⟨it, 0, none⟩)) true ty).run Go.Q.P wr = _ := fun ty => next_end hi hlt ty
      have he : s.data.toList.drop pos = [] := List.drop_of_length_le (by rw [sz_list]; omega)
      have hd : pre = numbered s := by
        rw [he] at hr
        have : runes [] = [] := rfl
        rw [this, List.append_nil] at hr
        unfold numbered
        rw [← hr]; exact hp
      have Hd := Lib.hid hd
      clear hr hp hi he hd
      gi_wp2
      go_end0
      exact ⟨⟨_, rfl⟩, .inl ⟨_, Hd.out, hj⟩⟩
/-- The runes of these numbers. -/
def selR (a b : Int) (l : List (Nat × Nat)) : List Nat := (l.filter fun x => decide (a ≤ (x.2 : Int)) && decide ((x.2 : Int) < b)).map (·.1)
theorem selR_in {a b : Int} {l : List (Nat × Nat)} {x : Nat × Nat} (h1 : a ≤ (x.2 : Int)) (h2 : (x.2 : Int) < b) : selR a b (l ++ [x]) = selR a b l ++ [x.1] := by simp [selR, h1, h2]
theorem selR_out {a b : Int} {l : List (Nat × Nat)} {x : Nat × Nat} (h : ¬ (a ≤ (x.2 : Int) ∧ (x.2 : Int) < b)) : selR a b (l ++ [x]) = selR a b l := by
  have : (decide (a ≤ (x.2 : Int)) && decide ((x.2 : Int) < b)) = false := by simpa using h
  simp [selR, this]
theorem selR_len (a b : Int) (l : List (Nat × Nat)) : (selR a b l).length ≤ l.length := by
  unfold selR; rw [List.length_map]; exact List.length_filter_le _ _
structure CutI (w W0 : World) (B4 B5 B7 : Nat) (a b : Int) (pre : List (Nat × Nat)) (W : World) : Prop where
  row : ∃ v, W.heap[B7]? = some (.cells #[v] 70 (0, 0)) ∧ W.ownsRow W0.heap.size 21 1 v (selR a b pre).length (runeCells (selR a b pre))
  from4 : W.heap[B4]? = some (.cells #[.int .i64 a] 3 (0, 0))
  to5 : W.heap[B5]? = some (.cells #[.int .i64 b] 3 (0, 0))
  below : Below w.heap.size w W
  big : W0.heap.size ≤ W.heap.size
theorem ownsRow_ne {W : World} {base e size : Nat} {v : Value} {n : Nat} {xs : List Value} (h : W.ownsRow base e size v n xs) {j : Nat} {o : Obj} (hj : W.heap[j]? = some o) (ho : o.isCells = false) : v.ownBlock = none ∨ v.ownBlock ≠ some j := by
  rcases h.2 with ⟨rfl, _⟩ | ⟨g, cap, cur, rfl, _, hg, _⟩
  · exact .inl rfl
  · refine .inr fun e => ?_
    injection e with e
    subst e
    rw [hg] at hj; injection hj with hj; subst hj; cases ho
theorem cutI_own {w W0 : World} {B4 B5 B7 : Nat} {a b : Int} (h4 : B4 < W0.heap.size) (h5 : B5 < W0.heap.size) (h7 : B7 < W0.heap.size) (hw : w.heap.size ≤ W0.heap.size) : OwnFrom W0.heap.size (CutI w W0 B4 B5 B7 a b) := by
  rintro s W W' row ⟨⟨v, hv, hr⟩, h1, h2, h3, h6⟩ hg hrow
  have ne : ∀ k, k < W0.heap.size → some k ≠ row := fun k hk e => by have := (hrow k e.symm).1; omega
  refine ⟨⟨v, (hg.block B7 (lt_of_some hv) (ne B7 h7)).trans hv, hr.kept hg ?_⟩, (hg.block B4 (lt_of_some h1) (ne B4 h4)).trans h1, (hg.block B5 (lt_of_some h2) (ne B5 h5)).trans h2, h3.grown hg h3.size (fun k e => by have := (hrow k e).1; omega), Nat.le_trans h6 hg.size⟩
  cases row with
  | none => exact Classical.or_iff_not_imp_left.2 fun hh e => hh e
  | some r =>
    obtain ⟨_, o, ho, hc⟩ := hrow r rfl
    exact ownsRow_ne hr ho hc
theorem runes_call (s : ByteArray) (w : World) : Calls Go.Q.P 51 #[.string s] w fun e w' => e = .returned (.func (.func 68) #[] #[.pointer (some ⟨w.heap.size, 0, none⟩)]) ∧ w' = w.alloc (.cells #[.string s] 9) := by
  go_enter func51, ntmps51
  go_wp2
  go_ret
  exact ⟨rfl, rfl⟩
set_option maxHeartbeats 4000000 in
theorem cut_in (s : ByteArray) (hs : s.size < 2 ^ 40) (hv : isText s = true) (a b : Int) (w : World) (ht : tabsF.hold (fun _ => False) w) :
    CallsIn Fence.wide 5 Go.Q.P 26 #[.string s, .int .i64 a, .int .i64 b] w fun e w' => e = .returned (.string (runesBytes ((selR a b (numbered s)).map Int.ofNat))) ∧ Below w.heap.size w w' := by
  have f1 : Fence.wide.fn 51 := trivial
  refine callsIn_of_wp_marks func26 rfl trivial ?_ rfl
  simp only [ntmps26, List.size_toArray, List.length_cons, List.length_nil, Nat.reduceAdd, Nat.reduceSub, Array.replicate_succ, Array.replicate_zero, List.push_toArray, List.append_toArray, List.nil_append, List.cons_append]
  gi_wp2_with (gi_at_call 51; refine (callsIn_wide.2 (runes_call s _)).mono ?_; rintro e W0 ⟨rfl, rfl⟩)
  obtain ⟨W0, hW0⟩ : ∃ W0, W0 = (((w.alloc (.cells #[.int .i64 a] 3)).alloc (.cells #[.int .i64 b] 3)).alloc (.cells #[.slice none 0 0] 70)).alloc (.cells #[.string s] 9) := ⟨_, rfl⟩
  have hsz : W0.heap.size = w.heap.size + 4 := by rw [hW0]; simp
  have h4 : W0.heap[w.heap.size]? = some (.cells #[.int .i64 a] 3 (0, 0)) := by
    rw [hW0]
    refine (Below.heap_alloc _ _ _ (by simp <;> omega)).trans ((Below.heap_alloc _ _ _ (by simp <;> omega)).trans ((Below.heap_alloc _ _ _ (by simp)).trans (World.alloc_heap_new w _)))
  have h5 : W0.heap[w.heap.size + 1]? = some (.cells #[.int .i64 b] 3 (0, 0)) := by
    rw [hW0]
    refine (Below.heap_alloc _ _ _ (by simp <;> omega)).trans ((Below.heap_alloc _ _ _ (by simp)).trans ?_)
    have := World.alloc_heap_new (w.alloc (.cells #[.int .i64 a] 3)) (.cells #[.int .i64 b] 3); simpa using this
  have h7 : W0.heap[w.heap.size + 1 + 1]? = some (.cells #[.slice none 0 0] 70 (0, 0)) := by
    rw [hW0]
    refine (Below.heap_alloc _ _ _ (by simp)).trans ?_
    have := World.alloc_heap_new ((w.alloc (.cells #[.int .i64 a] 3)).alloc (.cells #[.int .i64 b] 3)) (.cells #[.slice none 0 0] 70); simpa using this
  have hS : W0.heap[w.heap.size + 1 + 1 + 1]? = some (.cells #[.string s] 9 (0, 0)) := by
    rw [hW0]
    have := World.alloc_heap_new (((w.alloc (.cells #[.int .i64 a] 3)).alloc (.cells #[.int .i64 b] 3)).alloc (.cells #[.slice none 0 0] 70)) (.cells #[.string s] 9); simpa using this
  have hbW : Below w.heap.size w W0 := by rw [hW0]; exact ((((Below.refl _ w).alloc (Nat.le_refl _) _).alloc (by simp) _).alloc (by simp <;> omega) _).alloc (by simp <;> omega) _
  simp only [← hW0]
  clear hW0
  have htW : tabsF.hold (fun _ => False) W0 := tabsF.keep _ _ _ ⟨hbW.os, hbW.tape, hbW.output, hbW.size, fun k hk _ => hbW.block k hk⟩ ht
  obtain ⟨i0, hi, hz0, hz1, hz2⟩ := info_parts (show (Go.Q.P.info? 21).map (fun i => (i.zero, i.size, i.bytes)) = some (some (.int .i32 0), 1, 4) by kernel_rfl)
  have hseq := seqStopsA_iff.1 (runes1_stops (5 - 1) (by omega) s hs (w.heap.size + 1 + 1 + 1) W0 (by omega) (by simp [World.cell?, hS]) htW hv)
  refine wpIn_rangeFunc_ownF rfl (by omega) (gf := 68) (lb := #[.pointer (some ⟨w.heap.size + 1 + 1 + 1, 0, none⟩)]) rfl trivial (hτ.enters _ rfl) hseq walksK_t walksK_b (Below.refl _ _) (fun _ => rfl)
    (CutI w W0 w.heap.size (w.heap.size + 1) (w.heap.size + 1 + 1) a b) (fun _ _ _ => False) (cutI_own (by omega) (by omega) (by omega) (by omega)) (fun _ _ _ _ _ hs _ _ => hs)
    ⟨⟨_, h7, World.ownsRow_nil _ _ _ _⟩, h4, h5, hbW, Nat.le_refl _⟩
    (fun x => { tmps := #[.string s, .int .i64 a, .int .i64 b, undef, .pointer (some ⟨w.heap.size, 0, none⟩), .pointer (some ⟨w.heap.size + 1, 0, none⟩), .string ⟨#[]⟩, .pointer (some ⟨w.heap.size + 1 + 1, 0, none⟩), .int .i64 (x.2 : Nat), .int .i32 (x.1 : Nat), .string s,
      .func (.func 68) #[] #[.pointer (some ⟨w.heap.size + 1 + 1 + 1, 0, none⟩)], .int .i64 (x.2 : Nat), .int .i32 (x.1 : Nat), undef, undef, undef, undef, undef, undef, undef, undef, undef, undef, undef, undef, undef, undef], defers := [] }) ?assign ?body ?done ?stop
  case assign =>
    intro l x W K hK
    gi_wp2_with (rw [Oper.semAt_eq _ _ _ (fun c h => by cases h)]; go_simp; try go_bits)
    exact hK
  case body =>
    rintro l pre x W ⟨⟨v, hv7, hrow⟩, hc4, hc5, hbl, hbig⟩ hlen
    have hlenp : (selR a b pre).length ≤ s.size := Nat.le_trans (selR_len a b pre) (Nat.le_of_lt hlen)
    have g4 := cell_of_one hc4
    have g5 := cell_of_one hc5
    have g7 := cell_of_one hv7
    have q7 := free_of_one hv7
    have hsel1 := Lib.hid (fun h1 h2 => selR_in (a := a) (b := b) (l := pre) (x := x) h1 h2)
    have hsel2 := Lib.hid (fun h => selR_out (a := a) (b := b) (l := pre) (x := x) h)
    by_cases hin : a ≤ (x.2 : Int) ∧ (x.2 : Int) < b
    · obtain ⟨hin1, hin2⟩ := hin
      have d1 : decide ((x.2 : Int) ≥ a) = true := by simpa using hin1
      have d2 : decide ((x.2 : Int) < b) = true := by simpa using hin2
      have hlt7 := lt_of_some hv7
      gi_wp2_with (first
        | (gi_at_builtin; refine wpListIn_append_own _ rfl _ _ 70 rfl W0.heap.size 21 i0 (.int .i32 0) 1 4 underlying70 hi hz0 hz1 hz2 rfl (by decide) _ _ _ rfl (hrow.alloc _) ⟨W.heap.size, 0, none⟩ 1 1 [.int .i32 (x.1 : Nat)] rfl rfl (cell_one_new _ _ _) (by simp [Value.oneCell']) (by unfold maxLen; omega) (by omega) (by simp; omega) ?_; intro v' w3 hown' hg3 hnil3
           have hne7 : some (w.heap.size + 1 + 1) ≠ v.ownBlock := fun e => by have := (hrow.lt _ e.symm).1; omega
           have hv3 : w3.heap[w.heap.size + 1 + 1]? = some (.cells #[v] 70 (0, 0)) := (hg3.block _ (by simp; omega) hne7).trans ((Below.heap_alloc _ _ _ hlt7).trans hv7)
           have hc3 := cell_of_one hv3
           have hf3 := free_of_one hv3
           obtain ⟨g', cap', rfl⟩ : ∃ g' cap', v' = .slice (some ⟨g', 0, none⟩) ((selR a b pre).length + 1) cap' := by
             rcases hown'.2 with ⟨_, h0⟩ | ⟨g, c, cur, h, _⟩
             · exact absurd h0 (by omega)
             · exact ⟨g, c, h⟩
           try simp only [Act.put, List.setIfInBounds_toArray, List.set_cons_succ, List.set_cons_zero])
        | (rw [Oper.semAt_eq _ _ _ (fun c h => by cases h)]; go_simp; try go_bits))
      have hg3' : (W.alloc (.cells #[.int .i32 (x.1 : Nat)] 21)).grownBy w3 v.ownBlock := hg3
      have hne : ∀ k, k < W0.heap.size → some k ≠ v.ownBlock := fun k hk e => by have := (hrow.lt _ e.symm).1; omega
      have old3 : ∀ k, k < W0.heap.size → w3.heap[k]? = W.heap[k]? := fun k hk => (hg3'.block k (by simp; omega) (hne k hk)).trans (Below.heap_alloc _ _ _ (by omega))
      have oldB : ∀ k, k ≠ w.heap.size + 1 + 1 → (w3.setCell ⟨w.heap.size + 1 + 1, 0, none⟩ (.slice (some ⟨g', 0, none⟩) ((selR a b pre).length + 1) cap')).heap[k]? = w3.heap[k]? := fun k hk => Below.heap_setCell _ _ _ _ hk
      have hb3 : Below w.heap.size w w3 := (hbl.alloc hbl.size _).grown hg3' (by simp; omega) (fun k e => by have := (hrow.lt _ e).1; omega)
      have hK3 : KeepsOthers W w3 := (KeepsOthers.alloc W _).trans (KeepsOthers.of_grownBy hg3' (fun j o e ho => by
        rcases hrow.2 with ⟨rfl, _⟩ | ⟨g, cap, cur, rfl, _, hg, _⟩
        · cases e
        · injection e with e
          subst e
          rw [Below.heap_alloc _ _ _ (lt_of_some hg), hg] at ho
          injection ho with ho; subst ho; rfl))
      have hK4 := hK3.trans (KeepsOthers.setCell w3 ⟨w.heap.size + 1 + 1, 0, none⟩ (.slice (some ⟨g', 0, none⟩) ((selR a b pre).length + 1) cap'))
      refine ⟨hK4, hK4.walks, ⟨_, one_setCell hv3, ?_⟩, (oldB _ (by omega)).trans ((old3 _ (by omega)).trans hc4), (oldB _ (by omega)).trans ((old3 _ (by omega)).trans hc5), hb3.setCell (by simp; omega) _, ?_⟩
      · rw [hsel1.out hin1 hin2]
        have e1 : (selR a b pre ++ [x.1]).length = (selR a b pre).length + 1 := by simp
        have e2 : runeCells (selR a b pre ++ [x.1]) = runeCells (selR a b pre) ++ [.int .i32 (x.1 : Nat)] := by simp [runeCells]
        rw [e1, e2]
        exact ownsRow_setCell_other hown' (fun e => by have := (hown'.lt _ e).1; simp at this; omega) _
      · have h1 := hg3'.size
        have h2 := (KeepsOthers.setCell w3 ⟨w.heap.size + 1 + 1, 0, none⟩ (.slice (some ⟨g', 0, none⟩) ((selR a b pre).length + 1) cap')).size
        simp at h1; omega
    · have hfin : CutI w W0 w.heap.size (w.heap.size + 1) (w.heap.size + 1 + 1) a b (pre ++ [x]) W := ⟨⟨v, hv7, by rw [hsel2.out hin]; exact hrow⟩, hc4, hc5, hbl, hbig⟩
      by_cases h1 : a ≤ (x.2 : Int)
      · have h2 : ¬ (x.2 : Int) < b := fun h => hin ⟨h1, h⟩
        have d1 : decide ((x.2 : Int) ≥ a) = true := by simpa using h1
        have d2 : decide ((x.2 : Int) < b) = false := by simpa using h2
        gi_wp2_with (rw [Oper.semAt_eq _ _ _ (fun c h => by cases h)]; go_simp; try go_bits)
        exact ⟨KeepsOthers.refl _, KeepsWalks.refl _, hfin⟩
      · have d1 : decide ((x.2 : Int) ≥ a) = false := by simpa using h1
        gi_wp2_with (rw [Oper.semAt_eq _ _ _ (fun c h => by cases h)]; go_simp; try go_bits)
        exact ⟨KeepsOthers.refl _, KeepsWalks.refl _, hfin⟩
  case done =>
    rintro D xs W hD rfl ⟨⟨v, hv7, hrow⟩, hc4, hc5, hbl, hbig⟩ hK
    have g7 := cell_of_one hv7
    have hconv : ∃ r, (convert 70 9 v).run Go.Q.P W = .ok r W ∧ r = .string (runesBytes ((selR a b (numbered s)).map Int.ofNat)) := by
      rcases hrow.2 with ⟨rfl, h0⟩ | ⟨g, cap, cur, rfl, _, hg, hcap, _, hcur, hxs⟩
      · refine ⟨_, run_convert_runes_nil W _ _ 21 0 0 underlying70 underlying21 underlying9, ?_⟩
        rw [List.length_eq_zero_iff.1 h0]; rfl
      · refine ⟨_, run_convert_runes W _ _ 21 ⟨g, 0, none⟩ _ cap ((selR a b (numbered s)).map Int.ofNat) (by simp) underlying70 underlying21 underlying9 (fun j hj => ?_), by rw [List.take_of_length_le (by simp)]⟩
        have hj' : j < (selR a b (numbered s)).length := by simpa using hj
        have h1 : (runeCells (selR a b (numbered s)))[j]? = some (.int .i32 (((selR a b (numbered s))[j]'hj' : Nat) : Int)) := by
          simp [runeCells, List.getElem?_eq_getElem hj']
        have h2 := hrow.cells (g := g) rfl j _ h1
        rw [h2]
        simp [List.getD_eq_getElem?_getD, List.getElem?_eq_getElem hj']
    obtain ⟨r, hconv, hr⟩ := hconv
    have Hr := Lib.hid hr
    clear hr
    gi_wp2
    refine ⟨by simp, .inl ⟨_, _, rfl, run_takeDeferred hK, ?_⟩⟩
    exact ⟨_, results_tmp rfl _ _ _, by rw [← Hr.out]; rfl, hbl.grown (grownBy_putObj' _ _ _) hbl.size (fun k e => by cases e; omega)⟩
  case stop =>
    rintro D c pre W _ _ h _
    exact h.elim
end QCut
end Go.Proofs
namespace Go.Q
open Go Go.Proofs Go.Proofs.Tryd
set_option maxRecDepth 100000
/-- The runes from a on, below b. -/
def cutR (a b : Int) (rs : List Nat) : List Nat := (rs.take b.toNat).drop a.toNat
theorem sel_go (a b : Int) (rs : List Nat) : ∀ (k : Nat), QCut.selR a b (rs.zipIdx k) = (rs.take (b.toNat - k)).drop (a.toNat - k) := by
  induction rs with
  | nil => intro k; simp [QCut.selR]
  | cons r rs ih =>
    intro k
    have h := ih (k + 1)
    unfold QCut.selR at h ⊢
    rw [List.zipIdx_cons, List.filter_cons]
    by_cases h1 : a ≤ (k : Int) <;> by_cases h2 : (k : Int) < b
    · have e1 : a.toNat - k = 0 := by omega
      have e2 : a.toNat - (k + 1) = 0 := by omega
      obtain ⟨m, hm⟩ : ∃ m, b.toNat - k = m + 1 := ⟨b.toNat - k - 1, by omega⟩
      have e3 : b.toNat - (k + 1) = m := by omega
      simp only [h1, h2, decide_true, Bool.and_self, if_true, List.map_cons, h, e1, e2, e3, hm, List.take_succ_cons, List.drop_zero]
    · have e3 : b.toNat - k = 0 := by omega
      have e4 : b.toNat - (k + 1) = 0 := by omega
      rw [if_neg (by simp only [h2, decide_false, Bool.and_false]; exact Bool.false_ne_true), h, e3, e4]
      simp
    · obtain ⟨m, hm⟩ : ∃ m, b.toNat - k = m + 1 := ⟨b.toNat - k - 1, by omega⟩
      have e3 : b.toNat - (k + 1) = m := by omega
      obtain ⟨p, hp⟩ : ∃ p, a.toNat - k = p + 1 := ⟨a.toNat - k - 1, by omega⟩
      have e1 : a.toNat - (k + 1) = p := by omega
      rw [if_neg (by simp only [h1, decide_false, Bool.false_and]; exact Bool.false_ne_true), h, e3, e1, hm, hp, List.take_succ_cons, List.drop_succ_cons]
    · have e3 : b.toNat - k = 0 := by omega
      have e4 : b.toNat - (k + 1) = 0 := by omega
      rw [if_neg (by simp only [h1, decide_false, Bool.false_and]; exact Bool.false_ne_true), h, e3, e4]
      simp
theorem runesBytes_encs (rs : List Nat) : ∀ s : ByteArray, ((rs.map Int.ofNat).foldl (fun r n => r ++ Utf8.encode n) s).data.toList = s.data.toList ++ encs rs := by
  induction rs with
  | nil => intro s; simp [encs]
  | cons r rs ih =>
    intro s
    have e : encR r = (Utf8.encode (Int.ofNat r)).data.toList := by rw [encR, Int.ofNat_eq_natCast]
    rw [List.map_cons, List.foldl_cons, ih, encs_cons, cat_data, List.append_assoc, e]
def textOf (l : List UInt8) : ByteArray := ⟨l.toArray⟩
theorem textOf_data (l : List UInt8) : (textOf l).data.toList = l := rfl
theorem of_data {s : ByteArray} {l : List UInt8} (h : s.data.toList = l) : s = textOf l := by subst h; rfl
theorem tUtfCut (s : ByteArray) (hs : s.size < 2 ^ 40) (hv : isText s = true) (a b : Int) : TellsIn [tabsF] 26 [.string s, .int .i64 a, .int .i64 b] [.string (textOf (encs (cutR a b (runes s.data.toList))))] := fun L w hL hE =>
  (callsIn_wide.1 (QCut.cut_in s hs hv a b w (tabsF.loc _ _ w (fun _ h => h.elim) hE.1))).mono fun e w' ⟨h1, h2⟩ => ⟨by
    rw [h1]
    have e1 : QCut.selR a b (QCut.numbered s) = cutR a b (runes s.data.toList) := by
      unfold QCut.numbered; rw [sel_go]; rfl
    have e2 : runesBytes ((cutR a b (runes s.data.toList)).map Int.ofNat) = textOf (encs (cutR a b (runes s.data.toList))) := of_data (by unfold runesBytes; rw [runesBytes_encs]; rfl)
    rw [e1, e2]; rfl, kp_below h2⟩
end Go.Q
