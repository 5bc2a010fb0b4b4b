/-
  append, as a stop of the walk. Conditions: as stated at each.
-/
import Derived.Test.YtkidlkcmpbnhpaaDoorQg
import Derived.Laws.AppendOwn
import Derived.Deep.AppendSrc
import Derived.Deep.Upon
namespace Go.Q
open Go Go.Proofs.Tryd
set_option maxRecDepth 100000
variable {L : Nat → Prop} {gd : Gd} {H : List Ck} {E : List Fact}
theorem Ok.drew {β : Nat → Nat} {w : World} (h : Ok τ L β H E w) : Ok τ L β H E w.drew := h.kp ⟨rfl, rfl, rfl, Nat.le_refl _, fun _ _ _ => rfl⟩
theorem slice_info {T : TypeId} (h : (τ.ti T).kind = .slice) : P.underlying T = some (.slice (τ.ti T).elem) := kind_under hτ h
/-- A slice of one's own: nothing yet; or a row, from its first cell on, and its chunk. ty: its elements' type; n of them, with the cells xs. -/
def RowIs (ty : TypeId) (v : Value) (c : Ck) (n : Nat) (xs : List Value) : Prop :=
  (v = .slice none 0 0 ∧ c = .dead ∧ n = 0 ∧ xs = []) ∨
  ∃ b cap cs, v = .slice (some ⟨b, 0, none⟩) n cap ∧ c = .row ty cs (some b) ∧ n ≤ cap ∧ cs.length = cap * (τ.ti ty).size ∧ cs.take (n * (τ.ti ty).size) = xs
theorem RowIs.nil (ty : TypeId) : RowIs ty (.slice none 0 0) .dead 0 [] := .inl ⟨rfl, rfl, rfl, rfl⟩
theorem RowIs.len {ty : TypeId} {v : Value} {c : Ck} {n : Nat} {xs : List Value} (h : RowIs ty v c n xs) : xs.length = n * (τ.ti ty).size := by
  rcases h with ⟨_, _, rfl, rfl⟩ | ⟨b, cap, cs, _, _, h1, h2, rfl⟩
  · simp
  · rw [List.length_take, h2]; exact Nat.min_eq_left (Nat.mul_le_mul_right _ h1)
theorem RowIs.lit {ty : TypeId} {b n : Nat} {cs : List Value} (h : cs.length = n * (τ.ti ty).size) : RowIs ty (.slice (some ⟨b, 0, none⟩) n n) (.row ty cs (some b)) n cs :=
  .inr ⟨b, n, cs, rfl, rfl, Nat.le_refl _, h, List.take_of_length_le (by omega)⟩
/-- The kinds of elements of which rows are made. -/
structure ElemOk (T : TypeId) : Prop where
  kind : (τ.ti T).kind = .slice
  zero : (τ.ti (τ.ti T).elem).zero ≠ []
  zlen : (τ.ti (τ.ti T).elem).zero.length = (τ.ti (τ.ti T).elem).size
  known : (τ.ti (τ.ti T).elem).kind ≠ .other
/-- What is appended: a row of one's own; a row that is known; nothing; a text's bytes. -/
theorem src_own {β : Nat → Nat} {w : World} (h : Ok τ L β H E w) {i ty b n cap Tx sz : Nat} {cs : List Value} (hi : H[i]? = some (.row ty cs (some b))) (hT : (τ.ti Tx).kind = .slice) (hl : cs.length = n * sz) (h1 : ∀ u ∈ cs, u.oneCell' = true) :
    Src P sz Tx (.slice (some ⟨b, 0, none⟩) n cap) n cs w :=
  Src.ofSlice w (slice_info hT) ⟨b, 0, none⟩ n cap cs hl (fun j u hj => by rw [addr_add]; exact (h.rowF 0 (.inl ⟨_, hi⟩)).2.2 j u (by simpa using hj)) h1
theorem src_fact {w : World} {b o n cap Tx sz : Nat} {cs : List Value} {L0 : Nat → Prop} (h : (rowF b o cs).hold L0 w) (hT : (τ.ti Tx).kind = .slice) (hl : cs.length = n * sz) (h1 : ∀ u ∈ cs, u.oneCell' = true) :
    Src P sz Tx (.slice (some ⟨b, o, none⟩) n cap) n cs w :=
  Src.ofSlice w (slice_info hT) ⟨b, o, none⟩ n cap cs hl (fun j u hj => by rw [addr_add]; exact h.2.2 j u hj) h1
theorem src_nil (w : World) {Tx sz cap : Nat} (hT : (τ.ti Tx).kind = .slice) : Src P sz Tx (.slice none 0 cap) 0 [] w := Src.ofNil w (slice_info hT) cap
theorem src_text (w : World) {Tx : Nat} (hT : (τ.ti Tx).kind = .string) (s : ByteArray) : Src P 1 Tx (.string s) s.size (byteCells s) w := Src.ofString w (kind_string hτ hT) s
set_option maxHeartbeats 1000000 in
/-- append: to nothing, or to a row of one's own. -/
theorem RawNode.app {o : Oper} {F : Tr} {k : PV → List Ck → List Fact → Prop} {s x : Operand} {T Tx i n m : Nat} {v vx : Value} {c : Ck} {xs news : List Value}
    (ho : o.op = .call ⟨.builtin .append, #[s, x], #[T, Tx]⟩) (hs : ldK F s fun z => z = .n (.v v)) (hx : ldK F x fun z => z = .n (.v vx)) (hT : ElemOk T)
    (hi : H[i]? = some c) (hr : RowIs (τ.ti T).elem v c n xs) (hsrc : ∀ β w, Ok τ L β H E w → Src P (τ.ti (τ.ti T).elem).size Tx vx m news w)
    (hbig : (n + m) * (τ.ti (τ.ti T).elem).bytes ≤ 2 ^ 46) (hbig2 : n + m ≤ 2 ^ 46)
    (hk : ∀ v' c', RowIs (τ.ti T).elem v' c' (n + m) (xs ++ news) → k (.v v') (H.set i .dead ++ [c']) E) : RawNode P τ L o F H E k := by
  constructor
  intro β w a hok hev
  obtain ⟨dst, op, ty, pos, aft, grd⟩ := o
  simp only at ho
  subst ho
  have h1 : a.eval s = v := hev s _ hs
  have h2 : a.eval x = vx := hev x _ hx
  obtain ⟨j, z, hj, hz', hzc⟩ := (hτ.zero (τ.ti T).elem).resolve_left hT.zero
  obtain ⟨j', d', hj', _, hsz, hby, _, _⟩ := tab_of hτ (T := (τ.ti T).elem) hT.known
  rw [hj] at hj'; injection hj' with hj'; subst hj'
  have ht := slice_info hT.kind
  have hS := hsrc β w hok
  rw [← hsz] at hS
  have hil : i < H.length := mem_getH hi
  have hrun0 : ∀ {r : Value} {w' : World}, (Builtin.append_ #[T, Tx] ty #[v, vx]).run P w = .ok r w' → (execOp a.eval ⟨dst, .call ⟨.builtin .append, #[s, x], #[T, Tx]⟩, ty, pos, aft, grd⟩).run P w = .ok (.value r) w' := fun {r w'} h => by
    simp [execOp, resolve, invoke, builtin, h1, h2, h]
  have hzs : z.cells.size = (τ.ti (τ.ti T).elem).size := by rw [← hT.zlen, ← hzc]; simp
  -- a new row
  have grow : ∀ (base : Option Addr) (cap : Nat), v = .slice base n cap → xs.length = n * j.size → (Builtin.firstCells j.size n (.slice base n cap)).run P w.drew = .ok xs.toArray w.drew → cap < n + m → n ≤ cap →
      ∃ (r : PV) (H' : List Ck) (E' : List Fact) (β' : Nat → Nat) (w' : World),
        ((execOp a.eval ⟨dst, .call ⟨.builtin .append, #[s, x], #[T, Tx]⟩, ty, pos, aft, grd⟩).run P w = .ok (.value (r.den β')) w' ∨ ((execOp a.eval ⟨dst, .call ⟨.builtin .append, #[s, x], #[T, Tx]⟩, ty, pos, aft, grd⟩).run P w = .ok .skip w' ∧ r = .v undef)) ∧
        (∀ i, i < H.length → β' i = β i) ∧ H.length ≤ H'.length ∧ (∀ (i : Nat) (c : Ck), H'[i]? = some c → c.live = true → w.heap.size ≤ β' i ∨ loc β H (β' i)) ∧ r.lim H'.length ∧
        Ok τ L β' H' E' w' ∧ Kp (loc β H) w w' ∧ k r H' E' := by
    intro base cap hv hxl hold hlt hle
    subst hv
    have hrun := hrun0 (run_append_grow_src (P := P) w T Tx ty _ j z ht hj hz' base n cap xs hold vx m news hS hlt (by omega) (growslice_fits hlt (by rw [hby]; omega)))
    have hge := grownCap_ge w (n + m) cap (τ.ti T).elem
    let cs' := xs ++ news ++ (Builtin.zeroCells z.cells (grownCap w (n + m) cap (τ.ti T).elem - (n + m))).toList
    have hcl : cs'.length = grownCap w (n + m) cap (τ.ti T).elem * (τ.ti (τ.ti T).elem).size := by
      show (xs ++ news ++ _).length = _
      rw [List.length_append, List.length_append, hxl, hS.newsLen, Array.length_toList, size_zeroCells, hzs, hsz, ← Nat.add_mul, ← Nat.add_mul]
      congr 1
      omega
    have hct : cs'.take ((n + m) * (τ.ti (τ.ti T).elem).size) = xs ++ news := by
      apply List.take_left'
      rw [List.length_append, hxl, hS.newsLen, hsz, Nat.add_mul]
    have hOk := (hok.drew.kill i).add (.row (τ.ti T).elem cs' (some w.heap.size)) (Nat.le_refl 0) (fun b e => by injection e with e; exact e.symm) (fun ty cs x e => by cases e)
    refine ⟨.v (.slice (some ⟨w.heap.size, 0, none⟩) (n + m) (grownCap w (n + m) cap (τ.ti T).elem)), _, E, _, _, .inl ?_, fun q hq => ext_lt (by simpa using hq), by simp, fun q d h1 h2 => ?_, trivial, hOk,
      ⟨rfl, rfl, rfl, (by show w.heap.size ≤ (w.heap.push _).size; simp), fun q hq _ => (by
        show (w.heap.push _)[q]? = _
        rw [Array.getElem?_push, if_neg (by omega)])⟩, hk _ _ (.inr ⟨_, _, cs', rfl, rfl, hge, hcl, hct⟩)⟩
    · rw [hrun]
      have harr : (xs ++ news).toArray ++ Builtin.zeroCells z.cells (grownCap w (n + m) cap (τ.ti T).elem - (n + m)) = cs'.toArray := by
        apply Array.ext'
        simp [cs']
      rw [harr]; rfl
    · rcases mem_append_one h1 with ⟨a1, a2⟩ | ⟨rfl, _⟩
      · rw [ext_lt a2]; exact .inr (loc_kill0 ⟨q, d, a1, h2, rfl⟩)
      · rw [ext_eq]; exact .inl (Nat.le_refl _)
  rcases hr with ⟨rfl, rfl, rfl, rfl⟩ | ⟨b, cap, cs, rfl, rfl, hn, hcs, hxs⟩
  · rcases Nat.eq_zero_or_pos m with rfl | hm
    · have hn0 : news = [] := by have := hS.newsLen; simpa using this
      subst hn0
      have hrun := hrun0 (run_append_nothing (P := P) w T Tx ty _ j ht hj none 0 0 (Nat.le_refl _) vx hS)
      have hb : ∃ β', (∀ i, i < H.length → β' i = β i) ∧ Ok τ L β' (H.set i .dead ++ [.dead]) E w ∧ ∀ (q : Nat) (d : Ck), (H.set i .dead ++ [.dead])[q]? = some d → d.live = true → loc β H (β' q) := by
        have hk0 := hok.kill i
        have was : ∀ {q : Nat} {d : Ck}, (H.set i .dead ++ [.dead])[q]? = some d → d.live = true → (H.set i .dead)[q]? = some d := fun {q d} hq hl => by
          rcases mem_append_one hq with ⟨a1, _⟩ | ⟨_, rfl⟩
          · exact a1
          · cases hl
        have hno : ∀ (b : Nat) (c : Ck), c.no = some b → c.live = true := fun b c e => by cases c <;> first | rfl | cases e
        refine ⟨β, fun _ _ => rfl, ⟨fun a b ca cb ha hb la lb e => hk0.inj a b _ _ (was ha la) (was hb lb) la lb e, fun a d hd hl => hk0.own a d (was hd hl) hl, fun a b d hd hb => hk0.no a b d (was hd (hno b d hb)) hb, fun a ty cs x hd => hk0.len a ty cs x (was hd rfl), hk0.lt, fun a d hd hl => hk0.sep a d (was hd hl) hl, hk0.hold.loc fun b hb => .inl ?_⟩, fun q d hq hl => loc_kill0 ⟨q, d, was hq hl, hl, rfl⟩⟩
        rcases hb with hb | ⟨q, d, hq, hl, e⟩
        · exact .inl hb
        · exact .inr ⟨q, d, was hq hl, hl, e⟩
      obtain ⟨β', b1, b2, b3⟩ := hb
      exact ⟨.v (.slice none 0 0), _, E, β', w, .inl hrun, b1, by simp, fun q d h1 h2 => .inr (b3 q d h1 h2), trivial, b2, Kp.refl _ _, hk _ _ (RowIs.nil _)⟩
    · exact grow none 0 rfl (by simp) (run_firstCells_none w.drew j.size 0 0 0) (by omega) (by omega)
  · have hb : w.heap[b]? = some (.cells cs.toArray (τ.ti T).elem (0, 0)) := by
      have := hok.own i _ hi rfl
      rw [hok.no i b _ hi rfl] at this
      exact this
    have hxl : xs.length = n * j.size := by rw [← hxs, List.length_take, hsz, hcs]; exact Nat.min_eq_left (Nat.mul_le_mul_right _ hn)
    by_cases hroom : n + m ≤ cap
    · have hfit : n * j.size + news.length ≤ cs.length := by
        rw [hS.newsLen, ← Nat.add_mul, hcs, hsz]; exact Nat.mul_le_mul_right _ hroom
      have hrun := hrun0 (run_append_room_src (P := P) w T Tx ty _ j ht hj b 0 n cap vx m news hS hroom (fun q hq => by rw [cell_own hb]; rw [List.getElem?_eq_getElem (by omega)]; rfl) (fun q hq => by simp [World.frozen?, hb]))
      rw [Nat.zero_add, setCells_row hb _ _ hfit] at hrun
      have hbi := hok.no i b _ hi rfl
      let cs' := splice cs (n * j.size) news
      have hOk := (hok.set (c' := .row (τ.ti T).elem cs' (some b)) hi rfl (Nat.le_refl 0) rfl (fun ty cs x e => by cases e)).move (i := i) (c := .row (τ.ti T).elem cs' (some b)) (by rw [List.getElem?_set, if_pos rfl, if_pos hil]) rfl
      rw [List.set_set] at hOk
      have hsl : (H.set i (.row (τ.ti T).elem cs' (some b))).length = H.length := by simp
      refine ⟨.v (.slice (some ⟨b, 0, none⟩) (n + m) cap), _, E, _, _, .inl ?_, fun q hq => ext_lt (by simpa using hq), by simp, fun q d h1 h2 => ?_, trivial, hOk, ⟨rfl, rfl, rfl, by simp, fun q hq hnq => ?_⟩, hk _ _ (.inr ⟨b, cap, cs', rfl, rfl, hroom, ?_, ?_⟩)⟩
      · rw [hrun, hbi]; rfl
      · rcases mem_append_one h1 with ⟨a1, a2⟩ | ⟨rfl, _⟩
        · rw [ext_lt (by simpa using a2)]; exact .inr (loc_kill0 ⟨q, d, a1, h2, rfl⟩)
        · simp only [List.length_set]
          rw [ext_eq]; exact .inr ⟨i, _, hi, rfl, rfl⟩
      · have : β i ≠ q := fun e => hnq ⟨i, _, hi, rfl, e⟩
        simp only [Array.getElem?_setIfInBounds_ne this]
      · show (splice cs (n * j.size) news).length = _
        rw [← hcs]; simp [splice]; omega
      · show (splice cs (n * j.size) news).take _ = _
        unfold splice
        rw [← hxs, ← hsz]
        apply List.take_left'
        rw [List.length_append, hS.newsLen, List.length_take, Nat.min_eq_left (by rw [hcs, hsz]; exact Nat.mul_le_mul_right _ hn), Nat.add_mul]
    · refine grow _ cap rfl hxl ?_ (by omega) hn
      refine run_firstCells_some w.drew j.size n ⟨b, 0, none⟩ n cap xs hxl fun q u hq => ?_
      have hb' : w.drew.heap[b]? = some (.cells cs.toArray (τ.ti T).elem (0, 0)) := hb
      rw [addr_add, Nat.zero_add, cell_own hb']
      rw [← hxs, List.getElem?_take] at hq
      split at hq
      · exact hq
      · cases hq
end Go.Q
