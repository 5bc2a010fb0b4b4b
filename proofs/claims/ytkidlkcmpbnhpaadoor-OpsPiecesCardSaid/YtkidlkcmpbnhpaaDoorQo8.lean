/-
  The walk of quirelaw8.OpsPieces, given the plain law on pieces. Conditions: as stated.
-/
import Derived.Test.YtkidlkcmpbnhpaaDoorQo7
import Derived.Test.YtkidlkcmpbnhpaaDoorQz2
namespace Go.Q
open Go Go.Proofs.Tryd
set_option maxRecDepth 100000
variable {L : Nat → Prop} {gd : Gd} {H : List Ck} {E : List Fact}
def pcsB (o : OpD) : Nat → List Nat → List OpD
  | _, [] => []
  | a, b :: r => cutOp o a b :: pcsB o b r
def lastB : Nat → List Nat → Nat
  | a, [] => a
  | _, b :: r => lastB b r
def rises (n : Nat) : Nat → List Nat → Prop
  | _, [] => True
  | a, b :: r => a < b ∧ b ≤ n ∧ rises n b r
theorem pcsB_snoc (o : OpD) (t : Nat) : ∀ (bs : List Nat) (a : Nat), pcsB o a (bs ++ [t]) = pcsB o a bs ++ [cutOp o (lastB a bs) t]
  | [], _ => rfl
  | b :: r, a => by simp [pcsB, lastB, pcsB_snoc o t r b]
theorem lastB_snoc (t : Nat) : ∀ (bs : List Nat) (a : Nat), lastB a (bs ++ [t]) = t
  | [], _ => rfl
  | b :: r, a => by simp [lastB, lastB_snoc t r b]
theorem rises_snoc {n t : Nat} : ∀ (bs : List Nat) (a : Nat), rises n a bs → lastB a bs < t → t ≤ n → rises n a (bs ++ [t])
  | [], _, _, h1, h2 => ⟨h1, h2, trivial⟩
  | b :: r, a, h, h1, h2 => ⟨h.1, h.2.1, rises_snoc r b h.2.2 h1 h2⟩
theorem rises_last {n : Nat} : ∀ (bs : List Nat) (a : Nat), a ≤ n → rises n a bs → lastB a bs ≤ n
  | [], _, h, _ => h
  | b :: r, a, _, h => rises_last r b h.2.1 h.2.2
theorem pcsB_len (o : OpD) : ∀ (bs : List Nat) (a : Nat), (pcsB o a bs).length = bs.length
  | [], _ => rfl
  | b :: r, a => by simp [pcsB, pcsB_len o r b]
/-- What the plain law has to say of the pieces. -/
structure GoodP (o : OpD) (s : List OpD) : Prop where
  each : ∀ x ∈ s, x.tx.size < 2 ^ 20 ∧ x.kind = 1 ∧ ZeroV x ∧ chkT x = true
  all : total s < 2 ^ 20
  twins : noTwins s
  rise : s.Pairwise fun x y => lessOp x y = true
  join : joinF s.length s = [o]
theorem tCutOp' (o : OpD) (hs : o.tx.size < 2 ^ 40) (hv : isText o.tx = true) (hk : o.kind = 1) (hf : o.vf = 0) (a b : Nat) (b0 : Int) (hb : b0 = b) (h1 : a < b) (h2 : b ≤ lenOp o) :
    TellsIn [tabsF] 8 [vOp o, .int .i64 (a : Nat), .int .i64 b0] [vOp (cutOp o a b), .bool true] := by
  subst hb
  have := tCutOp o hs hv hk hf a b
  have c : cutOk o a b = true := by
    unfold cutOk
    rw [decide_eq_false (by omega), decide_eq_false (by omega), decide_eq_false (by omega)]; rfl
  rw [c] at this
  exact this
theorem light_of {o : OpD} (h : lightOp o = true) : o.tx.size ≤ 20000 ∧ o.key.size ≤ 200 ∧ o.vs.size ≤ 6000 := by
  unfold lightOp at h
  simp only [Bool.and_eq_true, decide_eq_true_eq] at h
  omega
theorem lessOp_iff (x y : OpD) : lessOp x y = true ↔ x.c < y.c ∨ (x.c = y.c ∧ x.k < y.k) := by
  unfold lessOp cmpOp lessId
  by_cases h1 : x.c < y.c
  · simp [h1]
  · by_cases h2 : x.c = y.c
    · by_cases h3 : x.k < y.k
      · simp [h2, h3]
      · simp [h2, h3]
        split <;> simp
    · simp [h1, h2]
      split <;> simp
theorem ordOp : Ordr lessOp := by
  constructor
  · intro x y h
    rw [lessOp_iff] at h
    rw [Bool.eq_false_iff]
    intro g
    rw [lessOp_iff] at g
    omega
  · intro x y z h g
    rw [Bool.eq_false_iff] at h g ⊢
    intro e
    rw [ne_eq, lessOp_iff] at h g
    rw [lessOp_iff] at e
    omega
theorem joinPieces (o : OpD) (s l : List OpD) (rest : List Value) (b cap N : Nat) (hN : s.length = N) (hN2 : N < 2 ^ 16) (h0 : 0 < N) (hg : GoodP o s) (hp : l.Perm s) :
    Acts [] [rowF b 0 (flat OpD.cells l ++ rest), tabsF] 11 [.slice (some ⟨b, 0, none⟩) N cap]
      (fun r C E' => E' = [] ∧ ∃ v' c', r = v' ∧ C = [c'] ∧ RowIs 31 v' c' 1 (flat OpD.cells [o])) := by
  have hl : l.length = N := by rw [hp.length_eq]; exact hN
  have hs : stableL lessOp l = s := stableL_eq ordOp hp hg.rise
  subst hl
  have h := aJoin l b 0 cap hN2 h0 (fun x hx => hg.each x (hp.subset hx)) (by rw [hs]; exact fun x hx => ⟨(hg.each x hx).1, (hg.each x hx).2.1⟩) (by rw [hs]; exact hg.all) (by rw [hs]; exact hg.twins)
  rw [hs, hg.join] at h
  exact h.facts fun L w hh => ⟨rowF_pre hh.1, hh.2⟩
structure LpSt where
  bs : List Nat
  v : Value
  c : Ck
structure SwSt where
  i : Nat
  l : List OpD
set_option maxHeartbeats 4000000 in
theorem tPieces (o : OpD) (cuts : List Int) (ao : Option Addr) (bc oc capc : Nat) (turn : Int) (hao : cuts ≠ [] → ao = some ⟨bc, oc, none⟩) (hcu : ∀ x ∈ cuts, 0 ≤ x ∧ x < 256) (htu : -(2 ^ 63) ≤ turn ∧ turn < 2 ^ 63) (hcl : cuts.length < 2 ^ 63)
    (hp : lightOp o = true → ok8 o = true → o.kind = 1 → ∀ bs, rises (lenOp o) 0 bs → lastB 0 bs = lenOp o → GoodP o (pcsB o 0 bs))
    (hz : lightOp o = true → ok8 o = true → o.kind = 1 → isText o.tx = true ∧ o.vf = 0 ∧ 0 < lenOp o ∧ lenOp o ≤ 4096 ∧ same8 o o = true) :
    TellsIn [tabsF, rowF bc oc (flat encB cuts)] 3 [vOp o, .slice ao cuts.length capc, .int .i64 turn] [.bool true] :=
  TellsIn.of 7 func3 (by kernel_rfl) fun L => by
    refine CallNode.tellsIn tKnown (fun β w ho => ⟨ho.fact (.head _), trivial⟩) ?_
    refine JoinNode.no rfl ?_
    refine CallNode.tells (tLight o) ?_
    have hlt : ∀ {t0 : Nat}, (Gd.yes t0 false (eff false (!lightOp o)) .no).holds → lightOp o = true := fun h => by
      have h1 : (!(!lightOp o)) = true := h
      simpa using h1
    refine VCallNode.tells (fun hg => tCheck8 o (by have := light_of (hlt hg); omega) (by have := light_of (hlt hg); omega) (by have := light_of (hlt hg); omega)) ?_
    refine JoinNode.both (fun h => rfl) (fun h => ?_)
    have h' : (!lightOp o || ((if ok8 o = true then (0 : Int) else 120) != 0) || decide ((cuts.length : Int) > 40) || (o.kind != 1)) = false := h
    simp only [Bool.or_eq_false_iff] at h'
    obtain ⟨⟨⟨hl, h8⟩, hn40⟩, hk⟩ := h'
    have hl : lightOp o = true := by simpa using hl
    have h8 : ok8 o = true := by
      by_cases c : ok8 o = true
      · exact c
      · rw [if_neg c] at h8; cases h8
    have hk : o.kind = 1 := by simpa using hk
    have hn40 : cuts.length ≤ 40 := by have := of_decide_eq_false hn40; omega
    have hp := hp hl h8 hk
    obtain ⟨hv, hf, hn0, hn1, hsame⟩ := hz hl h8 hk
    have hsz := light_of hl
    obtain ⟨n, hn⟩ : ∃ n, n = lenOp o := ⟨_, rfl⟩
    refine CallNode.tells (tLen8 o (by omega)) ?_
    rw [← hn] at hp hn0 hn1 ⊢
    refine LoopNode.mk (α := LpSt) (fun x => [(3, .n (.p 0 0)), (1, .n (.v (.slice ao cuts.length capc))), (2, .n (.v (.int .i64 turn))), (7, .n (.v (.int .i64 (n : Nat)))), (8, .n (.v x.v)), (9, .n (.v (.int .i64 (lastB 0 x.bs : Nat)))), (10, .n (.v (.int .i64 (x.bs.length : Nat))))])
      (fun x => [.box 31 o.cells none, x.c]) (fun _ => [tabsF, rowF bc oc (flat encB cuts)])
      (fun x => RowIs 31 x.v x.c x.bs.length (flat OpD.cells (pcsB o 0 x.bs)) ∧ rises n 0 x.bs ∧ x.bs.length ≤ cuts.length + 1 ∧ (x.bs.length = cuts.length + 1 → lastB 0 x.bs = n)) (fun x => n - lastB 0 x.bs)
      ⟨[], .slice none 0 0, .dead⟩ ⟨RowIs.nil _, trivial, Nat.zero_le _, fun h => by simp at h⟩
      (.inl ⟨⟨⟨rfl, Nat.zero_lt_two⟩, ⟨rfl, trivial⟩, ⟨rfl, trivial⟩, ⟨rfl, trivial⟩, ⟨rfl, trivial⟩, ⟨rfl, trivial⟩, ⟨rfl, trivial⟩, trivial⟩, ⟨.inl rfl, rfl, trivial⟩, fun _ _ h => h⟩) (fun _ => Nat.zero_le _) ?_
    rintro ⟨bs, v, c⟩ ⟨hri, hrs, hbl, hend⟩
    simp only at hri hrs hbl hend
    refine JoinNode.both (fun ht => ?_) (fun ht => ?_)
    · have hat : lastB 0 bs < n := by have c : ((lastB 0 bs : Nat) : Int) < n := of_decide_eq_true ht; omega
      have hbl2 : bs.length ≤ cuts.length := by
        by_cases c : bs.length = cuts.length + 1
        · have := hend c; omega
        · omega
      refine JoinNode.both (fun hi => ?_) (fun hi => ?_)
      · have hilt : bs.length < cuts.length := by have c : ((bs.length : Nat) : Int) < cuts.length := of_decide_eq_true hi; omega
        have hx := hcu _ (List.getElem_mem hilt)
        obtain ⟨x, hxe⟩ : ∃ x, x = cuts[bs.length] := ⟨_, rfl⟩
        rw [← hxe] at hx
        obtain ⟨e, hto, h1, h2⟩ : ∃ e : Nat, (if IntKind.i64.wrap (IntKind.i64.wrap ((lastB 0 bs : Nat) + 1) + (IntKind.i64.wrap x).tmod 9) < (n : Int) then IntKind.i64.wrap (IntKind.i64.wrap ((lastB 0 bs : Nat) + 1) + (IntKind.i64.wrap x).tmod 9) else (n : Int)) = (e : Nat) ∧ lastB 0 bs < e ∧ e ≤ n := by
          have e1 : IntKind.i64.wrap x = x := wrap_i64 (by omega) (by omega)
          have e2 : IntKind.i64.wrap ((lastB 0 bs : Nat) + 1) = (lastB 0 bs : Nat) + 1 := wrap_i64 (by omega) (by omega)
          have e3 : x.tmod 9 = x % 9 := Int.tmod_eq_emod_of_nonneg hx.1
          have e4 : IntKind.i64.wrap (((lastB 0 bs : Nat) : Int) + 1 + x % 9) = ((lastB 0 bs : Nat) : Int) + 1 + x % 9 := wrap_i64 (by omega) (by omega)
          rw [e1, e2, e3, e4]
          by_cases c : ((lastB 0 bs : Nat) : Int) + 1 + x % 9 < n
          · rw [if_pos c]
            exact ⟨(((lastB 0 bs : Nat) : Int) + 1 + x % 9).toNat, by omega, by omega, by omega⟩
          · rw [if_neg c]
            exact ⟨n, rfl, hat, Nat.le_refl _⟩
        refine IdxNode.at bs.length rfl (hao (fun e => by rw [e] at hilt; simp at hilt)) (fun _ => hilt) ?_
        refine LoadNode.cell bs.length (.int .u8 x) (.tail _ (.head _)) (fun _ => by
          have := flat_get (enc := encB) (s := 1) (fun _ => rfl) (List.getElem?_eq_getElem hilt) 0 (.int .u8 x) (by rw [hxe]; rfl)
          simpa using this) (by show some (⟨bc, oc + bs.length * 1, none⟩ : Addr) = _; rw [Nat.mul_one]) ?_
        refine VRawNode.rem rfl rfl rfl (fun _ => by decide) ?_
        refine RawNode.min2 rfl rfl rfl ?_
        refine CallNode.tellsIn (tCutOp' o (by omega) hv hk hf (lastB 0 bs) e _ hto h1 (by omega)) (fun β w ho => ⟨ho.fact (.head _), trivial⟩) ?_
        refine JoinNode.no rfl ?_
        intro b3
        refine RawNode.app (i := 1) (n := bs.length) (m := 1) (news := (cutOp o (lastB 0 bs : Nat) (e : Nat)).cells) rfl rfl rfl elem_Op rfl hri (fun β w ho => src_own ho (i := 3) rfl rfl rfl (oneOp _)) (by show (bs.length + 1) * 200 ≤ _; omega) (by omega) fun v' c' hr' => ?_
        refine ⟨⟨bs ++ [e], v', c'⟩, ?_, ⟨?_, rises_snoc bs 0 hrs h1 h2, ?_, ?_⟩,
          .inr ⟨[], 1, [4], [c'], Nat.zero_le _, by show 1 ≤ 5; omega, rfl, ⟨.inl rfl, trivial⟩, fun i hi => .inl (by simp at hi; omega), by simp, ⟨⟨rfl, Nat.one_pos⟩, ⟨rfl, trivial⟩, ⟨rfl, trivial⟩, ⟨rfl, trivial⟩, ⟨rfl, trivial⟩, ⟨slotI ?_, trivial⟩, ⟨slotI ?_, trivial⟩, trivial⟩, fun _ _ h => h⟩⟩
        · show n - lastB 0 (bs ++ [e]) < n - lastB 0 bs
          rw [lastB_snoc]; omega
        · have hr2 : RowIs 31 v' c' (bs.length + 1) (flat OpD.cells (pcsB o 0 bs) ++ (cutOp o (lastB 0 bs : Nat) (e : Nat)).cells) := hr'
          show RowIs _ v' c' (bs ++ [e]).length (flat OpD.cells (pcsB o 0 (bs ++ [e])))
          rw [pcsB_snoc, flat_app, List.length_append]
          have e5 : flat OpD.cells [cutOp o (lastB 0 bs : Nat) (e : Nat)] = (cutOp o (lastB 0 bs : Nat) (e : Nat)).cells := List.append_nil _
          rw [e5]; exact hr2
        · show (bs ++ [e]).length ≤ cuts.length + 1
          rw [List.length_append, List.length_singleton]; omega
        · intro hh
          have hh : (bs ++ [e]).length = cuts.length + 1 := hh
          rw [List.length_append, List.length_singleton] at hh
          show lastB 0 (bs ++ [e]) = n
          rw [lastB_snoc]; omega
        · refine hto.trans ?_
          show ((e : Nat) : Int) = ((lastB 0 (bs ++ [e]) : Nat) : Int)
          rw [lastB_snoc]
        · show IntKind.i64.wrap (((bs.length : Nat) : Int) + 1) = (((bs ++ [e]).length : Nat) : Int)
          rw [wrap_i64 (by omega) (by omega), List.length_append]; rfl
      · obtain ⟨e, hto, h1, h2, he⟩ : ∃ e : Nat, (n : Int) = (e : Nat) ∧ lastB 0 bs < e ∧ e ≤ n ∧ e = n := ⟨n, rfl, hat, Nat.le_refl _, rfl⟩
        refine CallNode.tellsIn (tCutOp' o (by omega) hv hk hf (lastB 0 bs) e _ hto h1 (by omega)) (fun β w ho => ⟨ho.fact (.head _), trivial⟩) ?_
        refine JoinNode.no rfl ?_
        intro b3
        refine RawNode.app (i := 1) (n := bs.length) (m := 1) (news := (cutOp o (lastB 0 bs : Nat) (e : Nat)).cells) rfl rfl rfl elem_Op rfl hri (fun β w ho => src_own ho (i := 3) rfl rfl rfl (oneOp _)) (by show (bs.length + 1) * 200 ≤ _; omega) (by omega) fun v' c' hr' => ?_
        refine ⟨⟨bs ++ [e], v', c'⟩, ?_, ⟨?_, rises_snoc bs 0 hrs h1 h2, ?_, ?_⟩,
          .inr ⟨[], 1, [4], [c'], Nat.zero_le _, by show 1 ≤ 5; omega, rfl, ⟨.inl rfl, trivial⟩, fun i hi => .inl (by simp at hi; omega), by simp, ⟨⟨rfl, Nat.one_pos⟩, ⟨rfl, trivial⟩, ⟨rfl, trivial⟩, ⟨rfl, trivial⟩, ⟨rfl, trivial⟩, ⟨slotI ?_, trivial⟩, ⟨slotI ?_, trivial⟩, trivial⟩, fun _ _ h => h⟩⟩
        · show n - lastB 0 (bs ++ [e]) < n - lastB 0 bs
          rw [lastB_snoc]; omega
        · have hr2 : RowIs 31 v' c' (bs.length + 1) (flat OpD.cells (pcsB o 0 bs) ++ (cutOp o (lastB 0 bs : Nat) (e : Nat)).cells) := hr'
          show RowIs _ v' c' (bs ++ [e]).length (flat OpD.cells (pcsB o 0 (bs ++ [e])))
          rw [pcsB_snoc, flat_app, List.length_append]
          have e5 : flat OpD.cells [cutOp o (lastB 0 bs : Nat) (e : Nat)] = (cutOp o (lastB 0 bs : Nat) (e : Nat)).cells := List.append_nil _
          rw [e5]; exact hr2
        · show (bs ++ [e]).length ≤ cuts.length + 1
          rw [List.length_append, List.length_singleton]; omega
        · intro hh
          have hh : (bs ++ [e]).length = cuts.length + 1 := hh
          rw [List.length_append, List.length_singleton] at hh
          show lastB 0 (bs ++ [e]) = n
          rw [lastB_snoc]; omega
        · refine hto.trans ?_
          show ((e : Nat) : Int) = ((lastB 0 (bs ++ [e]) : Nat) : Int)
          rw [lastB_snoc]
        · show IntKind.i64.wrap (((bs.length : Nat) : Int) + 1) = (((bs ++ [e]).length : Nat) : Int)
          rw [wrap_i64 (by omega) (by omega), List.length_append]; rfl
    · have hge : n ≤ lastB 0 bs := by have c : ¬ ((lastB 0 bs : Nat) : Int) < n := of_decide_eq_false ht; omega
      have hle := rises_last bs 0 (Nat.zero_le n) hrs
      have hg := hp bs hrs (by omega)
      have hlen := pcsB_len o bs 0
      obtain ⟨l0, hl0⟩ : ∃ l0, l0 = pcsB o 0 bs := ⟨_, rfl⟩
      rw [← hl0] at hg hlen hri
      have hpos : 0 < bs.length := by
        cases bs with
        | nil => simp only [lastB] at hge; omega
        | cons x r => simp
      rcases hri with ⟨_, _, e, _⟩ | ⟨b, cap, cs, rfl, rfl, q1, q2, q3⟩
      · omega
      obtain ⟨rest, rfl⟩ : ∃ rest, cs = flat OpD.cells l0 ++ rest := ⟨_, by rw [← q3]; exact (List.take_append_drop _ _).symm⟩
      obtain ⟨T, hT, hT1⟩ : ∃ T : Nat, turn % 1000 = (T : Int) ∧ T < 1000 := ⟨(turn % 1000).toNat, by omega, by omega⟩
      refine CallNode.tells (tPlace turn 1000 htu (by omega) (by omega)) ?_
      refine LoopNode.mk (α := SwSt) (fun x => [(3, .n (.p 0 0)), (2, .n (.v (.int .i64 (T : Nat)))), (8, .n (.v (.slice (some ⟨b, 0, none⟩) bs.length cap))), (14, .n (.v (.int .i64 (x.i : Nat))))])
        (fun x => [.box 31 o.cells none, rowOp x.l rest b]) (fun _ => [tabsF])
        (fun x => x.l.Perm l0 ∧ x.i ≤ bs.length) (fun x => bs.length - x.i)
        ⟨0, l0⟩ ⟨List.Perm.refl _, Nat.zero_le _⟩
        (.inl ⟨⟨⟨rfl, Nat.zero_lt_two⟩, ⟨slotI hT, trivial⟩, ⟨rfl, trivial⟩, ⟨rfl, trivial⟩, trivial⟩, ⟨.inl rfl, .inl rfl, trivial⟩, fun _ _ h => ⟨h.1, trivial⟩⟩) (fun _ => Nat.zero_le _) ?_
      rintro ⟨i, l⟩ ⟨hpl, hi⟩
      simp only at hpl hi
      have hll : l.length = bs.length := by rw [hpl.length_eq]; exact hlen
      refine JoinNode.both (fun ht => ?_) (fun ht => ?_)
      · have hilt : i < bs.length := by have c : (i : Int) < bs.length := of_decide_eq_true ht; omega
        obtain ⟨K, hK⟩ : ∃ K, K = (T + 3 * i) % bs.length := ⟨_, rfl⟩
        have hKl : K < bs.length := by rw [hK]; exact Nat.mod_lt _ hpos
        have wk : (IntKind.i64.wrap ((T : Int) + IntKind.i64.wrap (3 * (i : Int)))).tmod (bs.length : Int) = (K : Nat) := by
          rw [wrap_i64 (x := 3 * (i : Int)) (by omega) (by omega), wrap_i64 (by omega) (by omega), Int.tmod_eq_emod_of_nonneg (by omega), hK]
          have : (T : Int) + 3 * (i : Int) = ((T + 3 * i : Nat) : Int) := by omega
          rw [this]; rfl
        refine VRawNode.rem rfl rfl rfl (fun _ => by omega) ?_
        obtain ⟨x, hx⟩ : ∃ x, l[i]? = some x := ⟨_, List.getElem?_eq_getElem (by omega)⟩
        obtain ⟨y, hy⟩ : ∃ y, l[K]? = some y := ⟨_, List.getElem?_eq_getElem (by omega)⟩
        apply DrawNode.merge (hB := by kernel_rfl) 0 (.take 0 (.take 1 (.take 2 (.take 3 (.take 4 (.take 5 (.take 6 (.take 8 (.take 9 (.take 10 (.br 7 (.br 11 (.take 12 (.br 13 (.take 14 (.br 15 .done .no)) .no)) .no) (.br 11 (.br 7 (.take 12 (.br 13 (.take 14 (.br 15 .done .no)) .no)) .no) .no))))))))))))
        case h =>
          refine IdxNode.at K wk rfl (fun _ => by omega) ?_
          refine IdxNode.at i rfl rfl (fun _ => by omega) ?_
          refine ⟨?_, ?_, trivial⟩
          · refine LoadNode.own (q := 1) (i := K) y cells22 rfl (fun _ => hy) rfl ?_
            refine ⟨?_, trivial⟩
            refine LoadNode.own (q := 1) (i := i) x cells22 rfl (fun _ => hx) rfl ?_
            refine IdxNode.at i rfl rfl (fun _ => by omega) ?_
            refine ⟨?_, trivial⟩
            refine StoreNode.own (q := 1) (i := i) y cells22 rfl (by show i < l.length; omega) rfl ?_
            refine IdxNode.at K wk rfl (fun _ => by omega) ?_
            refine ⟨?_, trivial⟩
            refine StoreNode.own (q := 1) (i := K) x cells22 rfl (by simp; omega) rfl ?_
            exact ⟨rfl, rfl, rfl⟩
          · refine LoadNode.own (q := 1) (i := i) x cells22 rfl (fun _ => hx) rfl ?_
            refine ⟨?_, trivial⟩
            refine LoadNode.own (q := 1) (i := K) y cells22 rfl (fun _ => hy) rfl ?_
            refine IdxNode.at i rfl rfl (fun _ => by omega) ?_
            refine ⟨?_, trivial⟩
            refine StoreNode.own (q := 1) (i := i) y cells22 rfl (by show i < l.length; omega) rfl ?_
            refine IdxNode.at K wk rfl (fun _ => by omega) ?_
            refine ⟨?_, trivial⟩
            refine StoreNode.own (q := 1) (i := K) x cells22 rfl (by simp; omega) rfl ?_
            exact ⟨rfl, rfl, rfl⟩
        case hk =>
          refine ⟨⟨i + 1, swapL l i K⟩, by show bs.length - (i + 1) < bs.length - i; omega, ⟨(swapL_perm l i K).trans hpl, by show i + 1 ≤ bs.length; omega⟩, .inl ⟨⟨⟨rfl, Nat.zero_lt_two⟩, ⟨rfl, trivial⟩, ⟨rfl, trivial⟩, ⟨slotI ?_, trivial⟩, trivial⟩, ⟨.inl rfl, .inl ?_, trivial⟩, fun _ _ h => h⟩⟩
          · show IntKind.i64.wrap ((i : Int) + 1) = ((i + 1 : Nat) : Int)
            rw [wrap_i64 (by omega) (by omega)]; rfl
          · show rowOp (swapL l i K) rest b = _
            rw [swapL_at hx hy]
      · have hJ := joinPieces o l0 l rest b cap bs.length hlen (by omega) hpos hg hpl
        refine DrawNode.mixed 0 (.take 0 (.br 1 (.br 2 (.br 3 (.br 4 (.take 5 .done) .no) .no) .no) (.br 2 (.br 1 (.br 3 (.br 4 (.take 5 .done) .no) .no) (.br 3 (.br 1 (.br 4 (.take 5 .done) .no) .no) .no)) .no))) _ (by kernel_rfl) ⟨?_, ⟨?_, ?_, trivial⟩, trivial⟩ (fun F H E h => h)
        · refine CallNode.freeze 1 _ b _ (.inl rfl) ?_
          refine CallNode.acts [] hJ trivial List.nodup_nil (fun L w h => ⟨h.1, h.2.1, trivial⟩) ?_
          rintro r C' E' ⟨rfl, v', c', rfl, rfl, hr⟩
          rcases hr with ⟨_, _, e, _⟩ | ⟨bt, capt, cst, rfl, rfl, p1, p2, p3⟩
          · cases e
          obtain ⟨rest2, rfl⟩ : ∃ rest2, cst = flat OpD.cells [o] ++ rest2 := ⟨_, by rw [← p3]; exact (List.take_append_drop _ _).symm⟩
          refine ⟨?_, trivial⟩
          refine ⟨?_, trivial⟩
          intro b4
          refine ⟨?_, trivial⟩
          refine CallNode.tellsIn (tSameAll [o] [o] bt 0 capt b4 0 1 (by show 1 < 2 ^ 40; omega) rfl (fun i x y hx hy => by
            have hx' := List.mem_of_getElem? hx
            have hy' := List.mem_of_getElem? hy
            rw [List.mem_singleton.1 hx', List.mem_singleton.1 hy']; exact hsame)) (fun β w ho => ⟨rowF_pre (ho.rowF 0 (i := 2) (.inl ⟨_, rfl⟩)), ho.rowF 0 (i := 3) (.inl ⟨_, rfl⟩), trivial⟩) ?_
          exact rfl
        · refine CallNode.freeze 1 _ b _ (.inl rfl) ?_
          refine CallNode.acts [] hJ trivial List.nodup_nil (fun L w h => ⟨h.1, h.2.1, trivial⟩) ?_
          rintro r C' E' ⟨rfl, v', c', rfl, rfl, hr⟩
          rcases hr with ⟨_, _, e, _⟩ | ⟨bt, capt, cst, rfl, rfl, p1, p2, p3⟩
          · cases e
          obtain ⟨rest2, rfl⟩ : ∃ rest2, cst = flat OpD.cells [o] ++ rest2 := ⟨_, by rw [← p3]; exact (List.take_append_drop _ _).symm⟩
          refine ⟨?_, trivial⟩
          intro b4
          refine ⟨?_, trivial⟩
          refine CallNode.tellsIn (tSameAll [o] [o] bt 0 capt b4 0 1 (by show 1 < 2 ^ 40; omega) rfl (fun i x y hx hy => by
            have hx' := List.mem_of_getElem? hx
            have hy' := List.mem_of_getElem? hy
            rw [List.mem_singleton.1 hx', List.mem_singleton.1 hy']; exact hsame)) (fun β w ho => ⟨rowF_pre (ho.rowF 0 (i := 2) (.inl ⟨_, rfl⟩)), ho.rowF 0 (i := 3) (.inl ⟨_, rfl⟩), trivial⟩) ?_
          exact rfl
        · intro b4
          refine ⟨?_, trivial⟩
          refine CallNode.freeze 1 _ b _ (.inl rfl) ?_
          refine CallNode.acts [] hJ trivial List.nodup_nil (fun L w h => ⟨h.1, h.2.1, trivial⟩) ?_
          rintro r C' E' ⟨rfl, v', c', rfl, rfl, hr⟩
          rcases hr with ⟨_, _, e, _⟩ | ⟨bt, capt, cst, rfl, rfl, p1, p2, p3⟩
          · cases e
          obtain ⟨rest2, rfl⟩ : ∃ rest2, cst = flat OpD.cells [o] ++ rest2 := ⟨_, by rw [← p3]; exact (List.take_append_drop _ _).symm⟩
          refine ⟨?_, trivial⟩
          refine CallNode.tellsIn (tSameAll [o] [o] bt 0 capt b4 0 1 (by show 1 < 2 ^ 40; omega) rfl (fun i x y hx hy => by
            have hx' := List.mem_of_getElem? hx
            have hy' := List.mem_of_getElem? hy
            rw [List.mem_singleton.1 hx', List.mem_singleton.1 hy']; exact hsame)) (fun β w ho => ⟨rowF_pre (ho.rowF 0 (i := 3) (.inl ⟨_, rfl⟩)), ho.rowF 0 (i := 2) (.inl ⟨_, rfl⟩), trivial⟩) ?_
          exact rfl
end Go.Q
