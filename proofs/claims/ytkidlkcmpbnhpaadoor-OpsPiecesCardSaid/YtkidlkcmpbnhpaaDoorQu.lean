/-
  utf8.ValidString, utf.Check: what they tell, where the two tables lie. Conditions: none.
-/
import Derived.Test.YtkidlkcmpbnhpaaDoorQv
import Derived.Test.YtkidlkcmpbnhpaaDoorQh
namespace Go.Q
open Go Go.Proofs Go.Proofs.Tryd Go.Shelf Go.RowKit
set_option maxRecDepth 100000
/-- The two tables of utf8 lie where they lie. -/
def tabsF : Fact where
  hold L w := ¬ L (laysValidRen.g 3) ∧ ¬ L (laysValidRen.g 4) ∧ laysValidRen.g 3 < w.heap.size ∧ laysValidRen.g 4 < w.heap.size ∧ Lib.Utf8Tabs (laysValidRen.g 3) (laysValidRen.g 4) w
  keep L w w' k h := by
    obtain ⟨h1, h2, h3, h4, h5, h6⟩ := h
    have c3 : ∀ j, w'.cell? ⟨laysValidRen.g 3, j, none⟩ = w.cell? ⟨laysValidRen.g 3, j, none⟩ := fun j => by simp only [World.cell?, k.block _ h3 h1]
    have c4 : ∀ j, w'.cell? ⟨laysValidRen.g 4, j, none⟩ = w.cell? ⟨laysValidRen.g 4, j, none⟩ := fun j => by simp only [World.cell?, k.block _ h4 h2]
    exact ⟨h1, h2, Nat.lt_of_lt_of_le h3 k.size, Nat.lt_of_lt_of_le h4 k.size, fun c hc => by rw [c3]; exact h5 c hc, fun i hi => by rw [c4, c4]; exact h6 i hi⟩
  loc L L' w hl h := by
    obtain ⟨h1, h2, h3, h4, h5⟩ := h
    exact ⟨fun hb => (hl _ hb).elim h1 fun x => by omega, fun hb => (hl _ hb).elim h2 fun x => by omega, h3, h4, h5⟩
theorem kp_below {w w' : World} (h : Below w.heap.size w w') : Kp (fun _ => False) w w' := ⟨h.os, h.tape, h.output, h.size, fun b hb _ => h.block b hb⟩
abbrev isText (s : ByteArray) : Bool := Lib.validD s.data.toList
theorem tValid (s : ByteArray) (hs : s.size < 2 ^ 62) : TellsIn [tabsF] 76 [.string s] [.bool (isText s)] := fun L w hL hE =>
  (Any.utf8_ValidString laysValid s w (by omega) hE.1.2.2.2.2).mono fun e w' ⟨h1, h2⟩ => ⟨h1, kp_below h2⟩
theorem tUtfCheck (s : ByteArray) (hs : s.size < 2 ^ 62) : TellsIn [tabsF] 56 [.string s] [.bool (isText s)] :=
  TellsIn.of 3 func56 (by kernel_rfl) fun L => CallNode.tellsIn (tValid s hs) (fun β w ho => ⟨ho.fact (.head _), trivial⟩) rfl
theorem kp_iter (w : World) (s : ByteArray) (pos : Nat) : Kp (fun _ => False) w (w.iter s pos) :=
  ⟨rfl, rfl, rfl, by simp [World.iter], fun b hb _ => by
    show (w.heap.push (.stringIter s pos))[b]? = _
    rw [Array.getElem?_push, if_neg (by omega)]⟩
theorem tCount (s : ByteArray) (hs : s.size < 2 ^ 62) : Tells 66 [.string s] [.int .i64 (Lib.runeCount s)] := fun w =>
  (Any.utf8_RuneCountInString laysCount s w (by omega)).mono fun e w' ⟨h1, pos, h2⟩ => ⟨h1, h2 ▸ kp_iter w s pos⟩
theorem tUtfLen (s : ByteArray) (hs : s.size < 2 ^ 62) : TellsIn [tabsF] 46 [.string s] [.int .i64 (if isText s = true then Lib.runeCount s else 0)] :=
  TellsIn.of 4 func46 (by kernel_rfl) fun L => CallNode.tellsIn (tUtfCheck s hs) (fun β w ho => ⟨ho.fact (.head _), trivial⟩)
    (JoinNode.both (fun h => show _ = _ by rw [if_neg (by simpa using h)]; rfl) (fun h => CallNode.tells (tCount s hs) (show _ = _ by rw [if_pos (by simpa using h)]; rfl)))
theorem laysX : Builder.Extra P laysJoinRen :=
  { sizeBuilder := by kernel_rfl, liesBuilder := by kernel_rfl, t5 := by kernel_rfl, a5 := isAgg5, z5 := sizeOf5, v5 := zeroValue5, infoByte := by kernel_rfl, cellsByte := by kernel_rfl, sizeByte := by kernel_rfl, neB5 := by decide }
/-- strings.Join, of no separator: of which the strings lie in a row. -/
def encS (s : ByteArray) : List Value := [.string s]
def catS (xs : List ByteArray) : ByteArray := ⟨(xs.map (·.data.toList)).flatten.toArray⟩
theorem join_empty (xs : List (List UInt8)) : Lib.join xs [] = xs.flatten := by
  unfold Lib.join
  induction xs with
  | nil => rfl
  | cons x r ih =>
    cases r with
    | nil => simp [List.intercalate]
    | cons y r => simp [List.intercalate] at ih ⊢; exact ih
theorem flatS_get : ∀ {xs : List ByteArray} {j : Nat} {x : ByteArray}, xs[j]? = some x → (flat encS xs)[j]? = some (.string x) := fun h => by
  have := flat_get (enc := encS) (s := 1) (fun _ => rfl) h 0 _ rfl
  simpa using this
theorem tJoinS (b o cap : Nat) (xs : List ByteArray) (hcap : xs.length ≤ cap) (hN : xs.length < 2 ^ 40) (hl : (catS xs).size < 2 ^ 40) :
    TellsIn [rowF b o (flat encS xs)] 55 [.slice (some ⟨b, o, none⟩) xs.length cap, .string ⟨#[]⟩] [.string (catS xs)] := fun L w hL hE => by
  have he : Lib.join (xs.map (·.data.toList)) (⟨#[]⟩ : ByteArray).data.toList = (xs.map (·.data.toList)).flatten := join_empty _
  have hsz : (Lib.join (xs.map (·.data.toList)) (⟨#[]⟩ : ByteArray).data.toList).length < 2 ^ 40 := by
    rw [he]
    have : (catS xs).size = ((xs.map (·.data.toList)).flatten).length := by simp [catS, ByteArray.size]
    omega
  refine (Any.strings_Join laysJoin laysX b o cap xs ⟨#[]⟩ w (fun j x hx => hE.1.2.2 j _ (flatS_get hx)) hE.1.2.1 (by omega) hcap (by omega)).mono fun e w' ⟨h1, h2⟩ => ⟨?_, kp_below h2⟩
  rw [h1, he]; rfl
end Go.Q
