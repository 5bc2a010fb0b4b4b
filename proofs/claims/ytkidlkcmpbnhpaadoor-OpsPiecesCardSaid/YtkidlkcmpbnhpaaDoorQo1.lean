/-
  MADE BY PROGRAM (check8.py). quireref8.Len, key, zero, Check. Conditions: texts are shorter than 2^40 bytes.
-/
import Derived.Test.YtkidlkcmpbnhpaaDoorQc6
namespace Go.Q
open Go Go.Proofs.Tryd
set_option maxRecDepth 100000
variable {L : Nat → Prop} {H : List Ck} {E : List Fact}
theorem textLen_eq (s : ByteArray) : (if isText s = true then ((runes s.data.toList).length : Int) else 0) = (textLen s : Nat) := by
  unfold textLen
  split
  · rw [count_runes]
  · rfl
theorem tLen3' (s : ByteArray) (hs : s.size < 2 ^ 40) : Tells 20 [.string s] [.int .i64 (textLen s)] := by
  have := tLen3 s hs
  rw [textLen_eq] at this; exact this
theorem tLen8 (o : OpD) (hs : o.tx.size < 2 ^ 40) : Tells 7 [vOp o] [.int .i64 (lenOp o)] :=
  Tells.of 4 func7 (by kernel_rfl) fun L => by
    refine JoinNode.both (fun h => ?_) (fun h => ?_)
    · exact CallNode.tells (tLen3' o.tx hs) (show _ = _ by unfold lenOp; rw [if_pos h]; rfl)
    · exact show _ = _ by unfold lenOp; rw [if_neg (by rw [h]; simp)]; rfl
def okKey (s : ByteArray) : Bool := decide ((s.size : Int) ≥ 1) && decide ((s.size : Int) ≤ 64) && isText s
theorem tKey8 (s : ByteArray) (hs : s.size < 2 ^ 40) : Tells 23 [.string s] [.bool (okKey s)] :=
  Tells.of 4 func23 (by kernel_rfl) fun L => VCallNode.tells (fun _ => tCheck3 s hs) rfl
def okV (o : OpD) : Bool := okVal isText o.vk o.vn o.vf o.vs
theorem tRefV (o : OpD) (hs : o.vs.size < 2 ^ 40) : Tells 19 [vVal o.vk o.vn o.vf o.vs] [.int .i64 (if okV o = true then 0 else 20)] := fun w =>
  tRefVal isText o.vk o.vn o.vf o.vs (tCheck3 o.vs hs).tellsIn (E := []) (fun _ => False) w (fun _ h => h.elim) trivial
theorem is0 (b : Bool) : (((if b = true then (0 : Int) else 20) == 0) : Bool) = b := by cases b <;> rfl
def zeroV (o : OpD) : Bool := o.vk == 0 && okV o
theorem tZero8 (o : OpD) (hs : o.vs.size < 2 ^ 40) : Tells 22 [vVal o.vk o.vn o.vf o.vs] [.bool (zeroV o)] :=
  Tells.of 4 func22 (by kernel_rfl) fun L => VCallNode.tells (fun _ => tRefV o hs) (show [PV.v (.bool (o.vk == 0 && ((if okV o = true then (0 : Int) else 20) == 0)))] = _ by rw [is0]; rfl)
def placesO (o : OpD) : Bool := namedId o.lc o.lk && namedId o.rc o.rk
def nowhereO (o : OpD) : Bool := noId o.lc o.lk && noId o.rc o.rk
def spansO (o : OpD) : Bool := (o.fc == 0 && o.fk == 0 && o.fa == false) && (o.tc == 0 && o.tk == 0 && o.ta == false)
def empty (s : ByteArray) : Bool := s.toList == (⟨#[]⟩ : ByteArray).toList
def ok1 (o : OpD) : Bool := placesO o && isText o.tx && decide ((textLen o.tx : Int) ≥ 1) && decide ((textLen o.tx : Int) ≤ 4096) && decide (IntKind.u64.wrap (IntKind.u64.wrap (o.k + IntKind.u64.wrap (textLen o.tx)) - 1) ≤ 9007199254740991) && (o.st == 0) && zeroV o && empty o.key && noId o.pc o.pk && spansO o
def ok2 (o : OpD) : Bool := placesO o && okV o && (o.vk != 5) && (o.st == 0) && empty o.tx && empty o.key && noId o.pc o.pk && spansO o
def ok3 (o : OpD) : Bool := nowhereO o && namedId o.fc o.fk && namedId o.tc o.tk && okKey o.key && okV o && (o.vk != 5) && isNum o.st && empty o.tx && noId o.pc o.pk
def ok4 (o : OpD) : Bool := nowhereO o && spansO o && namedId o.pc o.pk && okKey o.key && okV o && isNum o.st && empty o.tx
def okKind (o : OpD) : Bool := if o.kind == 1 then ok1 o else if o.kind == 2 then ok2 o else if o.kind == 3 then ok3 o else if o.kind == 4 then ok4 o else false
/-- Is it one of the operation's own ids? -/
def inOwn (o : OpD) (x : Int × Int) : Bool := x.1 == o.c && decide (x.2 ≥ o.k) && decide (IntKind.u64.wrap (x.2 - o.k) < IntKind.u64.wrap (lenOp o))
def ok8 (o : OpD) : Bool := rightId o.c o.k && okKind o && !(namesOp o).any (inOwn o)
theorem no8a {o : OpD} (h : rightId o.c o.k = false) : (if ok8 o = true then (0 : Int) else 120) = 120 := by unfold ok8; rw [h]; rfl
theorem no8b {o : OpD} (h : okKind o = false) : (if ok8 o = true then (0 : Int) else 120) = 120 := by unfold ok8; rw [h]; simp
theorem no8c {o : OpD} {i : Nat} {x : Int × Int} (hi : (namesOp o)[i]? = some x) (h : inOwn o x = true) : (if ok8 o = true then (0 : Int) else 120) = 120 := by
  have : (namesOp o).any (inOwn o) = true := List.any_eq_true.2 ⟨x, List.mem_of_getElem? hi, h⟩
  unfold ok8; rw [this]; simp
theorem yes8 {o : OpD} (h0 : rightId o.c o.k = true) (h1 : okKind o = true) (h2 : ∀ (j : Nat) x, (namesOp o)[j]? = some x → inOwn o x = false) : (if ok8 o = true then (0 : Int) else 120) = 0 := by
  have : (namesOp o).any (inOwn o) = false := by
    rw [Bool.eq_false_iff]; intro h
    obtain ⟨x, hx, hp⟩ := List.any_eq_true.1 h
    obtain ⟨j, hj, e⟩ := List.mem_iff_getElem.1 hx
    have := h2 j x (by rw [List.getElem?_eq_getElem hj, e])
    rw [hp] at this; cases this
  unfold ok8; rw [h0, h1, this]; rfl
set_option maxHeartbeats 4000000 in
theorem tCheck8 (o : OpD) (h1 : o.tx.size < 2 ^ 40) (h2 : o.key.size < 2 ^ 40) (h3 : o.vs.size < 2 ^ 40) : Tells 6 [vOp o] [.int .i64 (if ok8 o = true then 0 else 120)] :=
  Tells.of 9 func6 (by kernel_rfl) fun L => by
    refine CallNode.tells (tRight6 o.c o.k) ?_
    refine JoinNode.both (fun h0 => ?_) (fun h0 => ?_)
    · exact pvInt (no8a (by simpa [retV] using h0))
    have h0' : rightId o.c o.k = true := by simpa [retV] using h0
    refine CallNode.tells (tNamed o.lc o.lk) ?_
    refine VCallNode.tells (fun _ => tNamed o.rc o.rk) ?_
    refine CallNode.tells (tNone o.lc o.lk) ?_
    refine VCallNode.tells (fun _ => tNone o.rc o.rk) ?_
    refine VRawNode.eqlAnchor rfl rfl rfl ?_
    refine VRawNode.eqlAnchor rfl rfl rfl ?_
    refine CallNode.tells (tRefV o h3) ?_
    refine JoinNode.both (fun k1 => ?_) (fun k1 => ?_)
    · refine CallNode.tells (tLen3' o.tx h1) ?_
      refine VCallNode.tells (fun _ => tCheck3 o.tx h1) ?_
      refine VCallNode.tells (fun _ => tZero8 o h3) ?_
      refine VCallNode.tells (fun _ => tNone o.pc o.pk) ?_
      have hk : okKind o = ok1 o := by unfold okKind; rw [if_pos k1]
      refine JoinNode.both (fun h5 => ?_) (fun h5 => ?_)
      · have h5' : (!ok1 o) = true := h5
        exact pvInt (no8b (by rw [hk]; simpa using h5'))
      have h5' : (!ok1 o) = false := h5
      refine CallNode.givesF (tNames8 o) (fun _ _ _ => trivial) ?_
      rintro b n cap T cs ⟨rfl, rfl, rfl⟩
      refine LoopNode.mk (α := Nat) (fun i => [(1, .n (.p 0 0)), (10, .n (.v (.slice (some ⟨b, 0, none⟩) 5 5))), (11, .n (.v (.int .i64 (i : Nat))))]) (fun _ => [.box 31 o.cells none]) (fun _ => [rowF b 0 (flat encId (namesOp o))])
        (fun i => i ≤ 5 ∧ ∀ (j : Nat) x, j < i → (namesOp o)[j]? = some x → inOwn o x = false) (fun i => 5 - i) 0 ⟨Nat.zero_le _, fun j x h => by omega⟩
        (.inl ⟨⟨⟨rfl, Nat.zero_lt_one⟩, ⟨rfl, trivial⟩, ⟨rfl, trivial⟩, trivial⟩, ⟨.inl rfl, trivial⟩, fun _ _ h => h⟩) (fun _ => Nat.zero_le _) ?_
      rintro i ⟨hi, hp⟩
      refine JoinNode.both (fun ht => ?_) (fun ht => ?_)
      · have hlt : i < 5 := by
          have c : (i : Int) < 5 := of_decide_eq_true ht
          omega
        obtain ⟨x, hx⟩ : ∃ x, (namesOp o)[i]? = some x := ⟨_, List.getElem?_eq_getElem (show i < (namesOp o).length from hlt)⟩
        have c0 : (flat encId (namesOp o))[i * 2]? = some (.int .u64 x.1) := flat_get (enc := encId) (s := 2) (fun _ => rfl) hx 0 _ rfl
        have c1 : (flat encId (namesOp o))[i * 2 + 1]? = some (.int .u64 x.2) := flat_get (enc := encId) (s := 2) (fun _ => rfl) hx 1 _ rfl
        refine DrawNode.quiet (by kernel_rfl) ?_
        refine IdxNode.at i rfl rfl (fun _ => hlt) ?_
        refine LoadNode.cell (i * 2) _ (.head _) (fun _ => c0) rfl ?_
        refine IdxNode.at i rfl rfl (fun _ => hlt) ?_
        refine LoadNode.cell (i * 2 + 1) _ (.head _) (fun _ => c1) rfl ?_
        refine IdxNode.at i rfl rfl (fun _ => hlt) ?_
        refine LoadNode.cell (i * 2 + 1) _ (.head _) (fun _ => c1) rfl ?_
        refine VCallNode.tells (fun _ => tLen8 o h1) ?_
        refine JoinNode.both (fun hy => ?_) (fun hy => ?_)
        · exact pvInt (no8c hx hy)
        · refine ⟨i + 1, by omega, ⟨by omega, fun j y hj hy2 => ?_⟩, .inl ⟨⟨⟨rfl, Nat.zero_lt_one⟩, ⟨rfl, trivial⟩, ⟨?_, trivial⟩, trivial⟩, ⟨.inl rfl, trivial⟩, fun _ _ h => h⟩⟩
          · rcases Nat.lt_or_ge j i with h | h
            · exact hp j y h hy2
            · have : j = i := by omega
              subst this
              rw [hx] at hy2; injection hy2 with hy2; subst hy2
              exact hy
          · show SV.n (.v (.int .i64 (IntKind.i64.wrap ((i : Int) + 1)))) = _
            rw [wrap_i64 (by omega) (by omega)]; rfl
      · have hge : i = 5 := by
          have c : ¬ (i : Int) < 5 := of_decide_eq_false ht
          omega
        subst hge
        exact pvInt (yes8 h0' (by rw [hk]; simpa using h5') (fun j x hx => hp j x (by have := (List.getElem?_eq_some_iff.1 hx).1; exact this) hx))
    refine JoinNode.both (fun k2 => ?_) (fun k2 => ?_)
    · refine VCallNode.tells (fun _ => tNone o.pc o.pk) ?_
      have e2 := is0 (okV o)
      have hk : okKind o = ok2 o := by unfold okKind; rw [if_neg (by rw [k1]; simp), if_pos k2]
      refine JoinNode.both (fun h5 => ?_) (fun h5 => ?_)
      · have h5' : (!ok2 o) = true := by unfold ok2; rw [← e2]; exact h5
        exact pvInt (no8b (by rw [hk]; simpa using h5'))
      have h5' : (!ok2 o) = false := by unfold ok2; rw [← e2]; exact h5
      refine CallNode.givesF (tNames8 o) (fun _ _ _ => trivial) ?_
      rintro b n cap T cs ⟨rfl, rfl, rfl⟩
      refine LoopNode.mk (α := Nat) (fun i => [(1, .n (.p 0 0)), (10, .n (.v (.slice (some ⟨b, 0, none⟩) 5 5))), (11, .n (.v (.int .i64 (i : Nat))))]) (fun _ => [.box 31 o.cells none]) (fun _ => [rowF b 0 (flat encId (namesOp o))])
        (fun i => i ≤ 5 ∧ ∀ (j : Nat) x, j < i → (namesOp o)[j]? = some x → inOwn o x = false) (fun i => 5 - i) 0 ⟨Nat.zero_le _, fun j x h => by omega⟩
        (.inl ⟨⟨⟨rfl, Nat.zero_lt_one⟩, ⟨rfl, trivial⟩, ⟨rfl, trivial⟩, trivial⟩, ⟨.inl rfl, trivial⟩, fun _ _ h => h⟩) (fun _ => Nat.zero_le _) ?_
      rintro i ⟨hi, hp⟩
      refine JoinNode.both (fun ht => ?_) (fun ht => ?_)
      · have hlt : i < 5 := by
          have c : (i : Int) < 5 := of_decide_eq_true ht
          omega
        obtain ⟨x, hx⟩ : ∃ x, (namesOp o)[i]? = some x := ⟨_, List.getElem?_eq_getElem (show i < (namesOp o).length from hlt)⟩
        have c0 : (flat encId (namesOp o))[i * 2]? = some (.int .u64 x.1) := flat_get (enc := encId) (s := 2) (fun _ => rfl) hx 0 _ rfl
        have c1 : (flat encId (namesOp o))[i * 2 + 1]? = some (.int .u64 x.2) := flat_get (enc := encId) (s := 2) (fun _ => rfl) hx 1 _ rfl
        refine DrawNode.quiet (by kernel_rfl) ?_
        refine IdxNode.at i rfl rfl (fun _ => hlt) ?_
        refine LoadNode.cell (i * 2) _ (.head _) (fun _ => c0) rfl ?_
        refine IdxNode.at i rfl rfl (fun _ => hlt) ?_
        refine LoadNode.cell (i * 2 + 1) _ (.head _) (fun _ => c1) rfl ?_
        refine IdxNode.at i rfl rfl (fun _ => hlt) ?_
        refine LoadNode.cell (i * 2 + 1) _ (.head _) (fun _ => c1) rfl ?_
        refine VCallNode.tells (fun _ => tLen8 o h1) ?_
        refine JoinNode.both (fun hy => ?_) (fun hy => ?_)
        · exact pvInt (no8c hx hy)
        · refine ⟨i + 1, by omega, ⟨by omega, fun j y hj hy2 => ?_⟩, .inl ⟨⟨⟨rfl, Nat.zero_lt_one⟩, ⟨rfl, trivial⟩, ⟨?_, trivial⟩, trivial⟩, ⟨.inl rfl, trivial⟩, fun _ _ h => h⟩⟩
          · rcases Nat.lt_or_ge j i with h | h
            · exact hp j y h hy2
            · have : j = i := by omega
              subst this
              rw [hx] at hy2; injection hy2 with hy2; subst hy2
              exact hy
          · show SV.n (.v (.int .i64 (IntKind.i64.wrap ((i : Int) + 1)))) = _
            rw [wrap_i64 (by omega) (by omega)]; rfl
      · have hge : i = 5 := by
          have c : ¬ (i : Int) < 5 := of_decide_eq_false ht
          omega
        subst hge
        exact pvInt (yes8 h0' (by rw [hk]; simpa using h5') (fun j x hx => hp j x (by have := (List.getElem?_eq_some_iff.1 hx).1; exact this) hx))
    refine JoinNode.both (fun k3 => ?_) (fun k3 => ?_)
    · refine VCallNode.tells (fun _ => tNamed o.fc o.fk) ?_
      refine VCallNode.tells (fun _ => tNamed o.tc o.tk) ?_
      refine VCallNode.tells (fun _ => tKey8 o.key h2) ?_
      refine VCallNode.tells (fun _ => tNone o.pc o.pk) ?_
      have e2 := is0 (okV o)
      have hk : okKind o = ok3 o := by unfold okKind; rw [if_neg (by rw [k1]; simp), if_neg (by rw [k2]; simp), if_pos k3]
      refine JoinNode.both (fun h5 => ?_) (fun h5 => ?_)
      · have h5' : (!ok3 o) = true := by unfold ok3; rw [← e2]; exact h5
        exact pvInt (no8b (by rw [hk]; simpa using h5'))
      have h5' : (!ok3 o) = false := by unfold ok3; rw [← e2]; exact h5
      refine CallNode.givesF (tNames8 o) (fun _ _ _ => trivial) ?_
      rintro b n cap T cs ⟨rfl, rfl, rfl⟩
      refine LoopNode.mk (α := Nat) (fun i => [(1, .n (.p 0 0)), (10, .n (.v (.slice (some ⟨b, 0, none⟩) 5 5))), (11, .n (.v (.int .i64 (i : Nat))))]) (fun _ => [.box 31 o.cells none]) (fun _ => [rowF b 0 (flat encId (namesOp o))])
        (fun i => i ≤ 5 ∧ ∀ (j : Nat) x, j < i → (namesOp o)[j]? = some x → inOwn o x = false) (fun i => 5 - i) 0 ⟨Nat.zero_le _, fun j x h => by omega⟩
        (.inl ⟨⟨⟨rfl, Nat.zero_lt_one⟩, ⟨rfl, trivial⟩, ⟨rfl, trivial⟩, trivial⟩, ⟨.inl rfl, trivial⟩, fun _ _ h => h⟩) (fun _ => Nat.zero_le _) ?_
      rintro i ⟨hi, hp⟩
      refine JoinNode.both (fun ht => ?_) (fun ht => ?_)
      · have hlt : i < 5 := by
          have c : (i : Int) < 5 := of_decide_eq_true ht
          omega
        obtain ⟨x, hx⟩ : ∃ x, (namesOp o)[i]? = some x := ⟨_, List.getElem?_eq_getElem (show i < (namesOp o).length from hlt)⟩
        have c0 : (flat encId (namesOp o))[i * 2]? = some (.int .u64 x.1) := flat_get (enc := encId) (s := 2) (fun _ => rfl) hx 0 _ rfl
        have c1 : (flat encId (namesOp o))[i * 2 + 1]? = some (.int .u64 x.2) := flat_get (enc := encId) (s := 2) (fun _ => rfl) hx 1 _ rfl
        refine DrawNode.quiet (by kernel_rfl) ?_
        refine IdxNode.at i rfl rfl (fun _ => hlt) ?_
        refine LoadNode.cell (i * 2) _ (.head _) (fun _ => c0) rfl ?_
        refine IdxNode.at i rfl rfl (fun _ => hlt) ?_
        refine LoadNode.cell (i * 2 + 1) _ (.head _) (fun _ => c1) rfl ?_
        refine IdxNode.at i rfl rfl (fun _ => hlt) ?_
        refine LoadNode.cell (i * 2 + 1) _ (.head _) (fun _ => c1) rfl ?_
        refine VCallNode.tells (fun _ => tLen8 o h1) ?_
        refine JoinNode.both (fun hy => ?_) (fun hy => ?_)
        · exact pvInt (no8c hx hy)
        · refine ⟨i + 1, by omega, ⟨by omega, fun j y hj hy2 => ?_⟩, .inl ⟨⟨⟨rfl, Nat.zero_lt_one⟩, ⟨rfl, trivial⟩, ⟨?_, trivial⟩, trivial⟩, ⟨.inl rfl, trivial⟩, fun _ _ h => h⟩⟩
          · rcases Nat.lt_or_ge j i with h | h
            · exact hp j y h hy2
            · have : j = i := by omega
              subst this
              rw [hx] at hy2; injection hy2 with hy2; subst hy2
              exact hy
          · show SV.n (.v (.int .i64 (IntKind.i64.wrap ((i : Int) + 1)))) = _
            rw [wrap_i64 (by omega) (by omega)]; rfl
      · have hge : i = 5 := by
          have c : ¬ (i : Int) < 5 := of_decide_eq_false ht
          omega
        subst hge
        exact pvInt (yes8 h0' (by rw [hk]; simpa using h5') (fun j x hx => hp j x (by have := (List.getElem?_eq_some_iff.1 hx).1; exact this) hx))
    refine JoinNode.both (fun k4 => ?_) (fun k4 => ?_)
    · refine VCallNode.tells (fun _ => tNamed o.pc o.pk) ?_
      refine VCallNode.tells (fun _ => tKey8 o.key h2) ?_
      have e2 := is0 (okV o)
      have hk : okKind o = ok4 o := by unfold okKind; rw [if_neg (by rw [k1]; simp), if_neg (by rw [k2]; simp), if_neg (by rw [k3]; simp), if_pos k4]
      refine JoinNode.both (fun h5 => ?_) (fun h5 => ?_)
      · have h5' : (!ok4 o) = true := by unfold ok4; rw [← e2]; exact h5
        exact pvInt (no8b (by rw [hk]; simpa using h5'))
      have h5' : (!ok4 o) = false := by unfold ok4; rw [← e2]; exact h5
      refine CallNode.givesF (tNames8 o) (fun _ _ _ => trivial) ?_
      rintro b n cap T cs ⟨rfl, rfl, rfl⟩
      refine LoopNode.mk (α := Nat) (fun i => [(1, .n (.p 0 0)), (10, .n (.v (.slice (some ⟨b, 0, none⟩) 5 5))), (11, .n (.v (.int .i64 (i : Nat))))]) (fun _ => [.box 31 o.cells none]) (fun _ => [rowF b 0 (flat encId (namesOp o))])
        (fun i => i ≤ 5 ∧ ∀ (j : Nat) x, j < i → (namesOp o)[j]? = some x → inOwn o x = false) (fun i => 5 - i) 0 ⟨Nat.zero_le _, fun j x h => by omega⟩
        (.inl ⟨⟨⟨rfl, Nat.zero_lt_one⟩, ⟨rfl, trivial⟩, ⟨rfl, trivial⟩, trivial⟩, ⟨.inl rfl, trivial⟩, fun _ _ h => h⟩) (fun _ => Nat.zero_le _) ?_
      rintro i ⟨hi, hp⟩
      refine JoinNode.both (fun ht => ?_) (fun ht => ?_)
      · have hlt : i < 5 := by
          have c : (i : Int) < 5 := of_decide_eq_true ht
          omega
        obtain ⟨x, hx⟩ : ∃ x, (namesOp o)[i]? = some x := ⟨_, List.getElem?_eq_getElem (show i < (namesOp o).length from hlt)⟩
        have c0 : (flat encId (namesOp o))[i * 2]? = some (.int .u64 x.1) := flat_get (enc := encId) (s := 2) (fun _ => rfl) hx 0 _ rfl
        have c1 : (flat encId (namesOp o))[i * 2 + 1]? = some (.int .u64 x.2) := flat_get (enc := encId) (s := 2) (fun _ => rfl) hx 1 _ rfl
        refine DrawNode.quiet (by kernel_rfl) ?_
        refine IdxNode.at i rfl rfl (fun _ => hlt) ?_
        refine LoadNode.cell (i * 2) _ (.head _) (fun _ => c0) rfl ?_
        refine IdxNode.at i rfl rfl (fun _ => hlt) ?_
        refine LoadNode.cell (i * 2 + 1) _ (.head _) (fun _ => c1) rfl ?_
        refine IdxNode.at i rfl rfl (fun _ => hlt) ?_
        refine LoadNode.cell (i * 2 + 1) _ (.head _) (fun _ => c1) rfl ?_
        refine VCallNode.tells (fun _ => tLen8 o h1) ?_
        refine JoinNode.both (fun hy => ?_) (fun hy => ?_)
        · exact pvInt (no8c hx hy)
        · refine ⟨i + 1, by omega, ⟨by omega, fun j y hj hy2 => ?_⟩, .inl ⟨⟨⟨rfl, Nat.zero_lt_one⟩, ⟨rfl, trivial⟩, ⟨?_, trivial⟩, trivial⟩, ⟨.inl rfl, trivial⟩, fun _ _ h => h⟩⟩
          · rcases Nat.lt_or_ge j i with h | h
            · exact hp j y h hy2
            · have : j = i := by omega
              subst this
              rw [hx] at hy2; injection hy2 with hy2; subst hy2
              exact hy
          · show SV.n (.v (.int .i64 (IntKind.i64.wrap ((i : Int) + 1)))) = _
            rw [wrap_i64 (by omega) (by omega)]; rfl
      · have hge : i = 5 := by
          have c : ¬ (i : Int) < 5 := of_decide_eq_false ht
          omega
        subst hge
        exact pvInt (yes8 h0' (by rw [hk]; simpa using h5') (fun j x hx => hp j x (by have := (List.getElem?_eq_some_iff.1 hx).1; exact this) hx))
    have hk : okKind o = false := by unfold okKind; rw [if_neg (by rw [k1]; simp), if_neg (by rw [k2]; simp), if_neg (by rw [k3]; simp), if_neg (by rw [k4]; simp)]
    exact JoinNode.yes rfl (pvInt (no8b hk))
end Go.Q
