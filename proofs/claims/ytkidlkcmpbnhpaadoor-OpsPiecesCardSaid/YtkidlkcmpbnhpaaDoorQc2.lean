/-
  MADE BY PROGRAM (index.py): slices.IndexFunc, slices.ContainsFunc, at each type of element. Conditions: as stated at each.
-/
import Derived.Test.YtkidlkcmpbnhpaaDoorQc1
namespace Go.Q
open Go Go.Proofs.Tryd
set_option maxRecDepth 100000
theorem posOf_any {α : Type} (p : α → Bool) (l : List α) : l.any p = decide (posOf (l.findIdx? p) ≥ 0) := by
  cases h : l.findIdx? p with
  | none =>
    rw [List.findIdx?_eq_none_iff] at h
    have : l.any p = false := by simpa using h
    rw [this]; rfl
  | some i =>
    rw [List.findIdx?_eq_some_iff_getElem] at h
    obtain ⟨h1, h2, _⟩ := h
    have : l.any p = true := List.any_eq_true.2 ⟨_, List.getElem_mem h1, h2⟩
    rw [this]
    simp [posOf]
/-- The first of which a function says yes. -/
theorem tIndexId {E0 : List Fact} {p : Int × Int → Bool} {g : Nat} {first cp : Array Value} (hge : ∀ args w, (callFunc g args).run P w = .ok (.enter g args) w)
    (l : List (Int × Int)) (hg : ∀ x ∈ l, TellsIn E0 g (first.toList ++ [.agg (encId x).toArray] ++ cp.toList) [.bool (p x)]) (b o cap : Nat) (hn : l.length < 2 ^ 62) :
    TellsIn (rowF b o (flat encId l) :: E0) 65 [.slice (some ⟨b, o, none⟩) l.length cap, .func (.func g) first cp] [.int .i64 (posOf (l.findIdx? p))] :=
  TellsIn.of 5 func65 (by kernel_rfl) fun L => by
    refine LoopNode.mk (α := Nat) (fun i => [(0, .n (.v (.slice (some ⟨b, o, none⟩) l.length cap))), (1, .n (.v (.func (.func g) first cp))), (4, .n (.v (.int .i64 0))), (7, .n (.v (.int .i64 l.length))), (8, .n (.v (.int .i64 i)))]) (fun _ => []) (fun _ => rowF b o (flat encId l) :: E0)
      (fun i => i ≤ l.length ∧ ∀ j y, j < i → l[j]? = some y → p y = false) (fun i => l.length - i) 0 ⟨Nat.zero_le _, fun j y h => by omega⟩
      (.inl ⟨⟨⟨rfl, trivial⟩, ⟨rfl, trivial⟩, ⟨rfl, trivial⟩, ⟨rfl, trivial⟩, ⟨rfl, trivial⟩, trivial⟩, trivial, fun _ _ h => h⟩) (fun _ => Nat.zero_le _) ?_
    rintro i ⟨hi, hp⟩
    refine JoinNode.both (fun ht => ?_) (fun ht => ?_)
    · have hlt : i < l.length := by simpa using ht
      refine IdxNode.at i rfl rfl (fun _ => hlt) ?_
      refine LoadNode.elem i l[i] (fun _ => rfl) (.head _) (fun _ => List.getElem?_eq_getElem hlt) rfl ?_
      refine ⟨hge, CallNode.tellsIn (hg l[i] (List.getElem_mem hlt)) (fun β w ho => ?_) ?_⟩
      · exact (ho.hold.2).loc (fun _ h => h.elim)
      refine JoinNode.both (fun hy => ?_) (fun hy => ?_)
      · exact show _ = _ by rw [posOf_find hp (List.getElem?_eq_getElem hlt) hy]; rfl
      · refine ⟨i + 1, by omega, ⟨by omega, fun j y hj hy2 => ?_⟩, .inl ⟨⟨⟨rfl, trivial⟩, ⟨rfl, trivial⟩, ⟨rfl, trivial⟩, ⟨rfl, trivial⟩, ⟨?_, trivial⟩, trivial⟩, trivial, fun _ _ h => h⟩⟩
        · rcases Nat.lt_or_ge j i with h | h
          · exact hp j y h hy2
          · have : j = i := by omega
            subst this
            rw [List.getElem?_eq_getElem hlt] at hy2
            injection hy2 with hy2
            rw [← hy2]; exact hy
        · show SV.n (.v (.int .i64 (IntKind.i64.wrap ((i : Int) + 1)))) = _
          rw [wrap_i64 (by omega) (by omega)]; rfl
    · have hge' : i = l.length := by
        have : ¬ i < l.length := by simpa using ht
        omega
      subst hge'
      exact show _ = _ by rw [posOf_none hp]; rfl

/-- Is there one of which a function says yes? -/
theorem tContainsId {E0 : List Fact} {p : Int × Int → Bool} {g : Nat} {first cp : Array Value} (hge : ∀ args w, (callFunc g args).run P w = .ok (.enter g args) w)
    (l : List (Int × Int)) (hg : ∀ x ∈ l, TellsIn E0 g (first.toList ++ [.agg (encId x).toArray] ++ cp.toList) [.bool (p x)]) (b o cap : Nat) (hn : l.length < 2 ^ 62) :
    TellsIn (rowF b o (flat encId l) :: E0) 44 [.slice (some ⟨b, o, none⟩) l.length cap, .func (.func g) first cp] [.bool (l.any p)] :=
  TellsIn.of 4 func44 (by kernel_rfl) fun L => CallNode.tellsIn (tIndexId hge l hg b o cap hn) (fun β w ho => ho.hold.loc (fun _ h => h.elim)) (show _ = _ by rw [posOf_any]; rfl)

/-- The first of which a function says yes. -/
theorem tIndexRg {E0 : List Fact} {p : Int × Int × Int → Bool} {g : Nat} {first cp : Array Value} (hge : ∀ args w, (callFunc g args).run P w = .ok (.enter g args) w)
    (l : List (Int × Int × Int)) (hg : ∀ x ∈ l, TellsIn E0 g (first.toList ++ [.agg (encRg x).toArray] ++ cp.toList) [.bool (p x)]) (b o cap : Nat) (hn : l.length < 2 ^ 62) :
    TellsIn (rowF b o (flat encRg l) :: E0) 79 [.slice (some ⟨b, o, none⟩) l.length cap, .func (.func g) first cp] [.int .i64 (posOf (l.findIdx? p))] :=
  TellsIn.of 5 func79 (by kernel_rfl) fun L => by
    refine LoopNode.mk (α := Nat) (fun i => [(0, .n (.v (.slice (some ⟨b, o, none⟩) l.length cap))), (1, .n (.v (.func (.func g) first cp))), (4, .n (.v (.int .i64 0))), (7, .n (.v (.int .i64 l.length))), (8, .n (.v (.int .i64 i)))]) (fun _ => []) (fun _ => rowF b o (flat encRg l) :: E0)
      (fun i => i ≤ l.length ∧ ∀ j y, j < i → l[j]? = some y → p y = false) (fun i => l.length - i) 0 ⟨Nat.zero_le _, fun j y h => by omega⟩
      (.inl ⟨⟨⟨rfl, trivial⟩, ⟨rfl, trivial⟩, ⟨rfl, trivial⟩, ⟨rfl, trivial⟩, ⟨rfl, trivial⟩, trivial⟩, trivial, fun _ _ h => h⟩) (fun _ => Nat.zero_le _) ?_
    rintro i ⟨hi, hp⟩
    refine JoinNode.both (fun ht => ?_) (fun ht => ?_)
    · have hlt : i < l.length := by simpa using ht
      refine IdxNode.at i rfl rfl (fun _ => hlt) ?_
      refine LoadNode.elem i l[i] (fun _ => rfl) (.head _) (fun _ => List.getElem?_eq_getElem hlt) rfl ?_
      refine ⟨hge, CallNode.tellsIn (hg l[i] (List.getElem_mem hlt)) (fun β w ho => ?_) ?_⟩
      · exact (ho.hold.2).loc (fun _ h => h.elim)
      refine JoinNode.both (fun hy => ?_) (fun hy => ?_)
      · exact show _ = _ by rw [posOf_find hp (List.getElem?_eq_getElem hlt) hy]; rfl
      · refine ⟨i + 1, by omega, ⟨by omega, fun j y hj hy2 => ?_⟩, .inl ⟨⟨⟨rfl, trivial⟩, ⟨rfl, trivial⟩, ⟨rfl, trivial⟩, ⟨rfl, trivial⟩, ⟨?_, trivial⟩, trivial⟩, trivial, fun _ _ h => h⟩⟩
        · rcases Nat.lt_or_ge j i with h | h
          · exact hp j y h hy2
          · have : j = i := by omega
            subst this
            rw [List.getElem?_eq_getElem hlt] at hy2
            injection hy2 with hy2
            rw [← hy2]; exact hy
        · show SV.n (.v (.int .i64 (IntKind.i64.wrap ((i : Int) + 1)))) = _
          rw [wrap_i64 (by omega) (by omega)]; rfl
    · have hge' : i = l.length := by
        have : ¬ i < l.length := by simpa using ht
        omega
      subst hge'
      exact show _ = _ by rw [posOf_none hp]; rfl

/-- Is there one of which a function says yes? -/
theorem tContainsRg {E0 : List Fact} {p : Int × Int × Int → Bool} {g : Nat} {first cp : Array Value} (hge : ∀ args w, (callFunc g args).run P w = .ok (.enter g args) w)
    (l : List (Int × Int × Int)) (hg : ∀ x ∈ l, TellsIn E0 g (first.toList ++ [.agg (encRg x).toArray] ++ cp.toList) [.bool (p x)]) (b o cap : Nat) (hn : l.length < 2 ^ 62) :
    TellsIn (rowF b o (flat encRg l) :: E0) 62 [.slice (some ⟨b, o, none⟩) l.length cap, .func (.func g) first cp] [.bool (l.any p)] :=
  TellsIn.of 4 func62 (by kernel_rfl) fun L => CallNode.tellsIn (tIndexRg hge l hg b o cap hn) (fun β w ho => ho.hold.loc (fun _ h => h.elim)) (show _ = _ by rw [posOf_any]; rfl)

/-- The first of which a function says yes. -/
theorem tIndexOp {E0 : List Fact} {p : OpD → Bool} {g : Nat} {first cp : Array Value} (hge : ∀ args w, (callFunc g args).run P w = .ok (.enter g args) w)
    (l : List (OpD)) (hg : ∀ x ∈ l, TellsIn E0 g (first.toList ++ [.agg (OpD.cells x).toArray] ++ cp.toList) [.bool (p x)]) (b o cap : Nat) (hn : l.length < 2 ^ 62) :
    TellsIn (rowF b o (flat OpD.cells l) :: E0) 53 [.slice (some ⟨b, o, none⟩) l.length cap, .func (.func g) first cp] [.int .i64 (posOf (l.findIdx? p))] :=
  TellsIn.of 5 func53 (by kernel_rfl) fun L => by
    refine LoopNode.mk (α := Nat) (fun i => [(0, .n (.v (.slice (some ⟨b, o, none⟩) l.length cap))), (1, .n (.v (.func (.func g) first cp))), (4, .n (.v (.int .i64 0))), (7, .n (.v (.int .i64 l.length))), (8, .n (.v (.int .i64 i)))]) (fun _ => []) (fun _ => rowF b o (flat OpD.cells l) :: E0)
      (fun i => i ≤ l.length ∧ ∀ j y, j < i → l[j]? = some y → p y = false) (fun i => l.length - i) 0 ⟨Nat.zero_le _, fun j y h => by omega⟩
      (.inl ⟨⟨⟨rfl, trivial⟩, ⟨rfl, trivial⟩, ⟨rfl, trivial⟩, ⟨rfl, trivial⟩, ⟨rfl, trivial⟩, trivial⟩, trivial, fun _ _ h => h⟩) (fun _ => Nat.zero_le _) ?_
    rintro i ⟨hi, hp⟩
    refine JoinNode.both (fun ht => ?_) (fun ht => ?_)
    · have hlt : i < l.length := by simpa using ht
      refine IdxNode.at i rfl rfl (fun _ => hlt) ?_
      refine LoadNode.elem i l[i] (fun _ => rfl) (.head _) (fun _ => List.getElem?_eq_getElem hlt) rfl ?_
      refine ⟨hge, CallNode.tellsIn (hg l[i] (List.getElem_mem hlt)) (fun β w ho => ?_) ?_⟩
      · exact (ho.hold.2).loc (fun _ h => h.elim)
      refine JoinNode.both (fun hy => ?_) (fun hy => ?_)
      · exact show _ = _ by rw [posOf_find hp (List.getElem?_eq_getElem hlt) hy]; rfl
      · refine ⟨i + 1, by omega, ⟨by omega, fun j y hj hy2 => ?_⟩, .inl ⟨⟨⟨rfl, trivial⟩, ⟨rfl, trivial⟩, ⟨rfl, trivial⟩, ⟨rfl, trivial⟩, ⟨?_, trivial⟩, trivial⟩, trivial, fun _ _ h => h⟩⟩
        · rcases Nat.lt_or_ge j i with h | h
          · exact hp j y h hy2
          · have : j = i := by omega
            subst this
            rw [List.getElem?_eq_getElem hlt] at hy2
            injection hy2 with hy2
            rw [← hy2]; exact hy
        · show SV.n (.v (.int .i64 (IntKind.i64.wrap ((i : Int) + 1)))) = _
          rw [wrap_i64 (by omega) (by omega)]; rfl
    · have hge' : i = l.length := by
        have : ¬ i < l.length := by simpa using ht
        omega
      subst hge'
      exact show _ = _ by rw [posOf_none hp]; rfl

end Go.Q
