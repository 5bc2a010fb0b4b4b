/-
  Functions that make or turn memory: what they leave. Conditions: none.
-/
import Derived.Test.YtkidlkcmpbnhpaaDoorQb
namespace Go.Q
open Go Go.Proofs.Tryd
set_option maxRecDepth 100000
/-- Called with these, owning the chunks C, in a world of the facts E: the value, the chunks (the first ones have kept their numbers), the facts are as R says. -/
def Acts (C : List Ck) (E : List Fact) (f : Nat) (args : List Value) (R : Value → List Ck → List Fact → Prop) : Prop := ∀ (L : Nat → Prop) β w, Ok τ L β C E w →
  Calls P f args.toArray w fun e w' => ∃ r C' E' β', e = .returned r ∧ (∀ i, i < C.length → β' i = β i) ∧ C.length ≤ C'.length ∧ Kp (loc β C) w w' ∧ Ok τ L β' C' E' w' ∧
    (∀ (i : Nat) (c : Ck), C'[i]? = some c → c.live = true → w.heap.size ≤ β' i ∨ loc β C (β' i)) ∧ R r C' E'
/-- A state may be taken for another one (of the first m chunks each stays in its place). -/
def Yields (m : Nat) (H : List Ck) (E : List Fact) (C : List Ck) (E' : List Fact) : Prop := ∀ (L : Nat → Prop) β w, Ok τ L β H E w →
  ∃ β', (∀ i, i < m → β' i = β i) ∧ Ok τ L β' C E' w ∧ ∀ (i : Nat) (c : Ck), C[i]? = some c → c.live = true → loc β H (β' i)
theorem Yields.refl {m : Nat} {H : List Ck} {E : List Fact} : Yields m H E H E := fun L β w h => ⟨β, fun _ _ => rfl, h, fun i c h1 h2 => ⟨i, c, h1, h2, rfl⟩⟩
theorem Yields.trans {m : Nat} {H H1 H2 : List Ck} {E E1 E2 : List Fact} (h : Yields m H E H1 E1) (k : Yields m H1 E1 H2 E2) : Yields m H E H2 E2 := fun L β w ho => by
  obtain ⟨β1, a1, a2, a3⟩ := h L β w ho
  obtain ⟨β2, b1, b2, b3⟩ := k L β1 w a2
  refine ⟨β2, fun i hi => (b1 i hi).trans (a1 i hi), b2, fun i c h1 h2 => ?_⟩
  obtain ⟨j, d, c1, c2, c3⟩ := b3 i c h1 h2
  rw [← c3]; exact a3 j d c1 c2
theorem Yields.facts {m : Nat} {H : List Ck} {E E' : List Fact} (h : ∀ L w, Holds E L w → Holds E' L w) : Yields m H E H E' := fun L β w ho => ⟨β, fun _ _ => rfl, ho.more (h _ _ ho.hold), fun i c h1 h2 => ⟨i, c, h1, h2, rfl⟩⟩
theorem Yields.of {m : Nat} {H : List Ck} {E E' : List Fact} (h : ∀ (L : Nat → Prop) β w, Ok τ L β H E w → Holds E' (both L β H) w) : Yields m H E H E' := fun L β w ho => ⟨β, fun _ _ => rfl, ho.more (h _ _ _ ho), fun i c h1 h2 => ⟨i, c, h1, h2, rfl⟩⟩
theorem rowF_of {L : Nat → Prop} {w : World} {b : Nat} {cs : List Value} {ty : TypeId} (hL : ¬ L b) (hb : w.heap[b]? = some (.cells cs.toArray ty (0, 0))) : (rowF b 0 cs).hold L w :=
  ⟨hL, lt_of_some hb, fun j v hv => by rw [Nat.zero_add, cell_own hb]; exact hv⟩
theorem loc_kill {β : Nat → Nat} {H : List Ck} {i : Nat} {b : Nat} (h : loc β (H.set i .dead) b) : loc β H b ∧ ∀ c, H[i]? = some c → ∀ {L E w}, Ok τ L β H E w → c.live = true → b ≠ β i := by
  obtain ⟨j, d, hj, hd, e⟩ := h
  by_cases hij : i = j
  · subst hij
    rw [List.getElem?_set, if_pos rfl] at hj
    split at hj
    · injection hj with hj; subst hj; cases hd
    · cases hj
  · rw [List.getElem?_set_ne hij] at hj
    exact ⟨⟨j, d, hj, hd, e⟩, fun c hc L E w ho hl he => hij (ho.inj i j _ _ hc hj hl hd (by rw [e, he]))⟩
theorem Ok.freeze {L : Nat → Prop} {β : Nat → Nat} {H : List Ck} {E : List Fact} {w : World} (h : Ok τ L β H E w) {i ty b : Nat} {cs : List Value} (hi : H[i]? = some (.row ty cs (some b)) ∨ H[i]? = some (.box ty cs (some b))) :
    Ok τ L β (H.set i .dead) (Go.Q.rowF b 0 cs :: E) w := by
  have key : ∃ c, H[i]? = some c ∧ c.live = true ∧ c.no = some b ∧ c.ob = .cells cs.toArray ty (0, 0) := by
    rcases hi with hi | hi
    · exact ⟨_, hi, rfl, rfl, rfl⟩
    · exact ⟨_, hi, rfl, rfl, rfl⟩
  obtain ⟨c, hc, hl, hn, ho⟩ := key
  have hb := h.no i b c hc hn
  have hw := h.own i c hc hl
  rw [hb, ho] at hw
  refine (h.kill i).more ⟨rowF_of ?_ hw, (h.kill i).hold⟩
  rintro (h1 | h1)
  · exact h.sep i c hc hl (hb ▸ h1)
  · exact (loc_kill h1).2 c hc h hl hb.symm
theorem Yields.fz {m : Nat} {H C : List Ck} {E E' : List Fact} (i ty b : Nat) (cs : List Value) (hi : H[i]? = some (.row ty cs (some b)) ∨ H[i]? = some (.box ty cs (some b))) (k : Yields m (H.set i .dead) (rowF b 0 cs :: E) C E') : Yields m H E C E' :=
  Yields.trans (fun L β w ho => ⟨β, fun _ _ => rfl, ho.freeze hi, fun j c h1 h2 => (loc_kill ⟨j, c, h1, h2, rfl⟩).1⟩) k
/-- The first p chunks (but for some), and some of the others. -/
theorem Yields.pickK {m p : Nat} {ks is : List Nat} {H cs : List Ck} {E : List Fact} (hm : m ≤ p) (hp : p ≤ H.length) (hk : picked H is cs) (hge : ∀ i, i ∈ is → p ≤ i ∨ i ∈ ks) (hnd : is.Nodup) : Yields m H E (killAll (H.take p) ks ++ cs) E := fun L β w ho => by
  have G : Good τ L w (loc β H) β 0 0 β .e [] H E { tmps := #[], defers := [] } w := ⟨⟨rfl, rfl, fun _ => trivial, (fun t y e => by cases e), (fun t j b e y h => by cases h), (fun t j b e y h => by cases h), trivial⟩, ho, fun _ h => by omega, Nat.zero_le _, fun i c h1 h2 => .inr ⟨i, c, h1, h2, rfl⟩, Kp.refl _ _⟩
  obtain ⟨F', _, G'⟩ := G.down2 (l := []) (E' := E) (Nat.zero_le _) hp hk hge hnd trivial (fun _ _ h => h) (d := 0) (k := fun _ => True) trivial
  exact ⟨_, fun i hi => by unfold moved; rw [if_pos (by omega)], G'.ok, fun i c h1 h2 => (G'.anc i c h1 h2).resolve_left (fun h => by have := lt_of_some (G'.ok.own i c h1 h2); omega)⟩
theorem Yields.pick {m p : Nat} {is : List Nat} {H cs : List Ck} {E : List Fact} (hm : m ≤ p) (hp : p ≤ H.length) (hk : picked H is cs) (hge : ∀ i, i ∈ is → p ≤ i) (hnd : is.Nodup) : Yields m H E (H.take p ++ cs) E :=
  Yields.pickK (ks := []) hm hp hk (fun i hi => .inl (hge i hi)) hnd
theorem Yields.drop {m : Nat} {H : List Ck} {E : List Fact} (p : Nat) (hm : m ≤ p) (hp : p ≤ H.length) : Yields m H E (H.take p) E := by
  have := Yields.pick (m := m) (p := p) (is := []) (H := H) (cs := []) (E := E) hm hp trivial (fun _ h => by cases h) List.nodup_nil
  simpa using this
theorem Yields.none {H : List Ck} {E : List Fact} : Yields 0 H E [] E := Yields.drop 0 (Nat.le_refl _) (Nat.zero_le _)
theorem Acts.of {C : List Ck} {E : List Fact} {f : Nat} {fn : Func} {args : List Value} {R : Value → List Ck → List Fact → Prop} (d : Nat) (hf : P.funcs[f]? = some fn) (hc : funcOk fn args.length = true)
    (h : ∀ L, Start P τ L d fn (args.map PV.v) C E fun ys H E => ∃ rs C' E', ys = rs.map PV.v ∧ Yields C.length H E C' E' ∧ C.length ≤ C'.length ∧ R (retV rs) C' E') : Acts C E f args R := by
  intro L β w hok
  have := fn_sound hτ hm hf (by simpa using hc) (fun y hy => by obtain ⟨v, _, rfl⟩ := List.mem_map.1 hy; trivial) (h L) hok
  rw [den_v] at this
  refine this.mono fun e w' ⟨ys, H', E', β', ⟨rs, C', E1, hys, hy, hlen, hR⟩, he, hfix, hle, hok', hk, hnew⟩ => ?_
  subst hys
  obtain ⟨β2, a1, a2, a3⟩ := hy L β' w' hok'
  refine ⟨_, C', E1, β2, by rw [he, retOf_v], fun i hi => (a1 i hi).trans (hfix i hi), hlen, hk, a2, fun i c h1 h2 => ?_, hR⟩
  obtain ⟨j, d', c1, c2, c3⟩ := a3 i c h1 h2
  rw [← c3]; exact hnew j d' c1 c2
theorem Acts.mono {C : List Ck} {E : List Fact} {f : Nat} {args : List Value} {R R' : Value → List Ck → List Fact → Prop} (h : Acts C E f args R) (hR : ∀ r C' E', R r C' E' → R' r C' E') : Acts C E f args R' :=
  fun L β w ho => (h L β w ho).mono fun e w' ⟨r, C', E', β', a1, a2, a3, a4, a5, a6, a7⟩ => ⟨r, C', E', β', a1, a2, a3, a4, a5, a6, hR _ _ _ a7⟩
theorem Acts.facts {C : List Ck} {E E0 : List Fact} {f : Nat} {args : List Value} {R : Value → List Ck → List Fact → Prop} (h : Acts C E f args R) (hE : ∀ L w, Holds E0 L w → Holds E L w) : Acts C E0 f args R :=
  fun L β w ho => h L β w (ho.more (hE _ _ ho.hold))
variable {L : Nat → Prop} {H : List Ck} {E : List Fact}
/-- The chunks of these numbers are handed on: C' comes in their places, and behind all. -/
def putAll : List Ck → List Nat → List Ck → List Ck
  | H, [], C => H ++ C
  | H, i :: is, c :: C => putAll (H.set i c) is C
  | H, _ :: _, [] => H
theorem putAll_length : ∀ {is : List Nat} {H C : List Ck}, is.length ≤ C.length → (putAll H is C).length = H.length + (C.length - is.length)
  | [], H, C, _ => by simp [putAll]
  | i :: is, H, c :: C, h => by
    simp only [putAll]
    rw [putAll_length (by simpa using h)]
    simp
  | i :: is, H, [], h => by simp at h
theorem putAll_get : ∀ {is : List Nat} {H C : List Ck} (i : Nat), is.Nodup → is.length ≤ C.length → (∀ j, j ∈ is → j < H.length) →
    (∃ j : Nat, is[j]? = some i ∧ (putAll H is C)[i]? = C[j]?) ∨ (i ∉ is ∧ i < H.length ∧ (putAll H is C)[i]? = H[i]?) ∨ (H.length ≤ i ∧ (putAll H is C)[i]? = C[is.length + (i - H.length)]?)
  | [], H, C, i, _, _, _ => by
    rcases Nat.lt_or_ge i H.length with h | h
    · exact .inr (.inl ⟨by simp, h, by simp [putAll, List.getElem?_append_left h]⟩)
    · exact .inr (.inr ⟨h, by simp [putAll, List.getElem?_append_right h]⟩)
  | a :: is, H, [], i, _, h, _ => by simp at h
  | a :: is, H, (c : Ck) :: C, i, hn, hl, hlt => by
    have hn' := List.nodup_cons.1 hn
    rcases putAll_get (is := is) (H := H.set a c) (C := C) i hn'.2 (by simpa using hl) (fun j hj => by simpa using hlt j (List.mem_cons_of_mem _ hj)) with ⟨j, h1, h2⟩ | ⟨h1, h2, h3⟩ | ⟨h1, h2⟩
    · exact .inl ⟨j + 1, by simpa using h1, by simpa [putAll] using h2⟩
    · by_cases e : a = i
      · subst e
        refine .inl ⟨0, rfl, ?_⟩
        simp only [putAll, h3]
        rw [List.getElem?_set, if_pos rfl, if_pos (hlt a List.mem_cons_self)]; rfl
      · refine .inr (.inl ⟨?_, by simpa using h2, ?_⟩)
        · intro hm
          rcases List.mem_cons.1 hm with h | h
          · exact e h.symm
          · exact h1 h
        · simp only [putAll, h3]
          exact List.getElem?_set_ne e
    · refine .inr (.inr ⟨by simpa using h1, ?_⟩)
      simp only [putAll, h2, List.length_set, List.length_cons]
      rw [show is.length + 1 + (i - H.length) = (is.length + (i - H.length)) + 1 by omega, List.getElem?_cons_succ]
/-- These chunks, exactly. -/
def Taken (H : List Ck) : List Nat → List Ck → Prop
  | [], [] => True
  | i :: is, c :: cs => H[i]? = some c ∧ Taken H is cs
  | _, _ => False
theorem taken_spec {H : List Ck} : ∀ {is : List Nat} {C : List Ck}, Taken H is C → is.length = C.length ∧ ∀ (j : Nat) (c : Ck), C[j]? = some c → ∃ i, is[j]? = some i ∧ H[i]? = some c
  | [], [], _ => ⟨rfl, fun j c e => by simp at e⟩
  | i :: is, c :: cs, ⟨h1, h2⟩ => by
    obtain ⟨a1, a2⟩ := taken_spec h2
    refine ⟨by simpa using a1, fun j c' e => ?_⟩
    cases j with
    | zero => simp at e; subst e; exact ⟨i, rfl, h1⟩
    | succ j => simpa using a2 j c' (by simpa using e)
  | [], _ :: _, h => h.elim
  | _ :: _, [], h => h.elim
def part (L : Nat → Prop) (β : Nat → Nat) (H : List Ck) (is : List Nat) (b : Nat) : Prop := L b ∨ ∃ (i : Nat) (c : Ck), H[i]? = some c ∧ c.live = true ∧ i ∉ is ∧ β i = b
theorem Ok.split {β : Nat → Nat} {w : World} {is : List Nat} {C : List Ck} (h : Ok τ L β H E w) (ht : Taken H is C) (hn : is.Nodup) : Ok τ (part L β H is) (fun j => β (is.getD j 0)) C E w := by
  obtain ⟨hl, hg⟩ := taken_spec ht
  have at_ : ∀ (j : Nat) (c : Ck), C[j]? = some c → ∃ i, is[j]? = some i ∧ H[i]? = some c ∧ β (is.getD j 0) = β i := fun j c hc => by
    obtain ⟨i, h1, h2⟩ := hg j c hc
    exact ⟨i, h1, h2, by rw [List.getD_eq_getElem?_getD, h1]; rfl⟩
  refine ⟨fun i j c d hi hj li lj e => ?_, fun i c hi hv => ?_, fun i b c hi hb => ?_, fun i ty cs n hi => ?_, fun b hb => ?_, fun i c hi hv hL => ?_, h.hold.loc fun b hb => .inl ?_⟩
  · obtain ⟨i', a1, a2, a3⟩ := at_ i c hi
    obtain ⟨j', b1, b2, b3⟩ := at_ j d hj
    have := h.inj i' j' _ _ a2 b2 li lj (by rw [← a3, ← b3]; exact e)
    subst this
    exact (List.getElem?_inj (by have := (List.getElem?_eq_some_iff.1 a1).1; exact this) hn).1 (a1.trans b1.symm)
  · obtain ⟨i', a1, a2, a3⟩ := at_ i c hi
    rw [a3]; exact h.own i' c a2 hv
  · obtain ⟨i', a1, a2, a3⟩ := at_ i c hi
    rw [a3]; exact h.no i' b c a2 hb
  · obtain ⟨i', a1, a2, a3⟩ := at_ i _ hi
    exact h.len i' ty cs n a2
  · rcases hb with hb | ⟨i, c, h1, h2, _, h3⟩
    · exact h.lt b hb
    · rw [← h3]; exact h.lt_own h1 h2
  · obtain ⟨i', a1, a2, a3⟩ := at_ i c hi
    rcases hL with hL | ⟨k, d, k1, k2, k3, k4⟩
    · exact h.sep i' c a2 hv (a3 ▸ hL)
    · have := h.inj i' k _ _ a2 k1 hv k2 (by rw [k4, a3])
      subst this
      exact k3 (List.mem_of_getElem? a1)
  · rcases hb with (hb | ⟨i, c, h1, h2, _, h3⟩) | ⟨j, c, h1, h2, h3⟩
    · exact .inl hb
    · exact .inr ⟨i, c, h1, h2, h3⟩
    · obtain ⟨i', a1, a2, a3⟩ := at_ j c h1
      exact .inr ⟨i', c, a2, h2, by rw [← a3]; exact h3⟩
theorem Ok.join {β β2 : Nat → Nat} {w w' : World} {is : List Nat} {C C' : List Ck} {E' : List Fact} (h : Ok τ L β H E w) (ht : Taken H is C) (hn : is.Nodup) (hlen : C.length ≤ C'.length)
    (hfix : ∀ j, j < C.length → β2 j = β (is.getD j 0)) (hk : Kp (loc (fun j => β (is.getD j 0)) C) w w') (h' : Ok τ (part L β H is) β2 C' E' w')
    (hnew : ∀ (i : Nat) (c : Ck), C'[i]? = some c → c.live = true → w.heap.size ≤ β2 i ∨ loc (fun j => β (is.getD j 0)) C (β2 i)) :
    ∃ β3, (∀ i, i < H.length → β3 i = β i) ∧ Ok τ L β3 (putAll H is C') (E' ++ E) w' ∧ Kp (loc β H) w w' ∧ ∀ (i : Nat) (c : Ck), (putAll H is C')[i]? = some c → c.live = true → w.heap.size ≤ β3 i ∨ loc β H (β3 i) := by
  obtain ⟨hl, hg⟩ := taken_spec ht
  have hisH : ∀ j, j ∈ is → j < H.length := fun j hj => by
    obtain ⟨i, hi, e⟩ := List.mem_iff_getElem.1 hj
    have hi' : i < C.length := by omega
    obtain ⟨i', a1, a2⟩ := hg i C[i] (List.getElem?_eq_getElem hi')
    rw [List.getElem?_eq_getElem hi] at a1
    injection a1 with a1
    rw [← e, a1]; exact mem_getH a2
  have hsub : ∀ b, loc (fun j => β (is.getD j 0)) C b → loc β H b := fun b ⟨j, c, h1, h2, h3⟩ => by
    obtain ⟨i', a1, a2⟩ := hg j c h1
    exact ⟨i', c, a2, h2, by rw [← h3]; simp only [List.getD_eq_getElem?_getD, a1]; rfl⟩
  let β3 : Nat → Nat := fun i => if i < H.length then β i else β2 (is.length + (i - H.length))
  have hlt3 : ∀ i, i < H.length → β3 i = β i := fun i hi => by show (if i < H.length then _ else _) = _; rw [if_pos hi]
  have hge3 : ∀ i, H.length ≤ i → β3 i = β2 (is.length + (i - H.length)) := fun i hi => by show (if i < H.length then _ else _) = _; rw [if_neg (by omega)]
  have was : ∀ (i : Nat) (c : Ck), (putAll H is C')[i]? = some c → (i ∉ is ∧ H[i]? = some c ∧ β3 i = β i) ∨ (∃ j, C'[j]? = some c ∧ β3 i = β2 j ∧ (is[j]? = some i ∨ (H.length ≤ i ∧ j = is.length + (i - H.length)))) := fun i c hc => by
    rcases putAll_get (is := is) (H := H) (C := C') i hn (by omega) hisH with ⟨j, h1, h2⟩ | ⟨h1, h2, h3⟩ | ⟨h1, h2⟩
    · refine .inr ⟨j, h2 ▸ hc, ?_, .inl h1⟩
      have hj : j < C.length := by have := (List.getElem?_eq_some_iff.1 h1).1; omega
      rw [hlt3 i (hisH i (List.mem_of_getElem? h1)), hfix j hj, List.getD_eq_getElem?_getD, h1]; rfl
    · exact .inl ⟨h1, h3 ▸ hc, hlt3 i h2⟩
    · exact .inr ⟨_, h2 ▸ hc, hge3 i h1, .inr ⟨h1, rfl⟩⟩
  have hL2 : ∀ b, L b → part L β H is b := fun b hb => .inl hb
  refine ⟨β3, hlt3, ⟨fun i j c d hi hj li lj e => ?_, fun i c hi hv => ?_, fun i b c hi hb => ?_, fun i ty cs n hi => ?_, fun b hb => h'.lt b (hL2 b hb), fun i c hi hv hL => ?_, ?_⟩, hk.mono hsub, fun i c hi hv => ?_⟩
  · rcases was i c hi with ⟨a1, a2, a3⟩ | ⟨i', a1, a2, a3⟩ <;> rcases was j d hj with ⟨b1, b2, b3⟩ | ⟨j', b1, b2, b3⟩
    · rw [a3, b3] at e; exact h.inj i j _ _ a2 b2 li lj e
    · exact absurd (.inr ⟨i, c, a2, li, a1, by rw [← a3, e, b2]⟩) (h'.sep j' d b1 lj)
    · exact absurd (.inr ⟨j, d, b2, lj, b1, by rw [← b3, ← e, a2]⟩) (h'.sep i' c a1 li)
    · rw [a2, b2] at e
      have := h'.inj i' j' _ _ a1 b1 li lj e
      subst this
      rcases a3 with a3 | ⟨a3, a4⟩ <;> rcases b3 with b3 | ⟨b3, b4⟩
      · rw [a3] at b3; injection b3
      · have := (List.getElem?_eq_some_iff.1 a3).1; omega
      · have := (List.getElem?_eq_some_iff.1 b3).1; omega
      · omega
  · rcases was i c hi with ⟨a1, a2, a3⟩ | ⟨i', a1, a2, a3⟩
    · rw [a3]
      refine (hk.block _ (h.lt_own a2 hv) ?_).trans (h.own i c a2 hv)
      rintro ⟨j, d, c1, c2, c3⟩
      obtain ⟨k, d1, d2⟩ := hg j d c1
      have : β k = β i := by rw [← c3]; simp only [List.getD_eq_getElem?_getD, d1]; rfl
      have := h.inj k i _ _ d2 a2 c2 hv this
      subst this
      exact a1 (List.mem_of_getElem? d1)
    · rw [a2]; exact h'.own i' c a1 hv
  · rcases was i c hi with ⟨a1, a2, a3⟩ | ⟨i', a1, a2, a3⟩
    · rw [a3]; exact h.no i b c a2 hb
    · rw [a2]; exact h'.no i' b c a1 hb
  · rcases was i _ hi with ⟨a1, a2, a3⟩ | ⟨i', a1, a2, a3⟩
    · exact h.len i ty cs n a2
    · exact h'.len i' ty cs n a1
  · rcases was i c hi with ⟨a1, a2, a3⟩ | ⟨i', a1, a2, a3⟩
    · exact h.sep i c a2 hv (a3 ▸ hL)
    · exact h'.sep i' c a1 hv (hL2 _ (a2 ▸ hL))
  · have in' : ∀ b, both L β3 (putAll H is C') b → both (part L β H is) β2 C' b ∧ (both L β H b ∨ w.heap.size ≤ b) := fun b hb => by
      rcases hb with hb | ⟨i, c, hi, hv, e⟩
      · exact ⟨.inl (hL2 b hb), .inl (.inl hb)⟩
      · rcases was i c hi with ⟨a1, a2, a3⟩ | ⟨i', a1, a2, a3⟩
        · exact ⟨.inl (.inr ⟨i, c, a2, hv, a1, by rw [← a3]; exact e⟩), .inl (.inr ⟨i, c, a2, hv, by rw [← a3]; exact e⟩)⟩
        · refine ⟨.inr ⟨i', c, a1, hv, by rw [← a2]; exact e⟩, ?_⟩
          rcases hnew i' c a1 hv with h1 | h1
          · exact .inr (by rw [← e, a2]; exact h1)
          · exact .inl (.inr (by rw [← e, a2]; exact hsub _ h1))
    refine (h'.hold.loc fun b hb => .inl (in' b hb).1).app ?_
    have e1 : Holds E (fun b => both L β H b ∨ both L β3 (putAll H is C') b) w := h.hold.loc fun b hb => by
      rcases hb with hb | hb
      · exact .inl hb
      · exact (in' b hb).2
    have e2 := e1.keep (hk.mono fun b hb => .inl (.inr (hsub b hb)))
    exact e2.loc fun b hb => .inl (.inr hb)
  · rcases was i c hi with ⟨a1, a2, a3⟩ | ⟨i', a1, a2, a3⟩
    · exact .inr (by rw [a3]; exact ⟨i, c, a2, hv, rfl⟩)
    · rw [a2]
      exact (hnew i' c a1 hv).imp id (hsub _)
/-- A call that is handed chunks. -/
theorem CallNode.acts {f : Nat} {args : List Value} {C : List Ck} {E0 : List Fact} {R : Value → List Ck → List Fact → Prop} {k : PV → List Ck → List Fact → Prop} (is : List Nat) (h : Acts C E0 f args R) (ht : Taken H is C) (hn : is.Nodup)
    (hE : ∀ L w, Holds E L w → Holds E0 L w) (hk : ∀ r C' E', R r C' E' → k (.v r) (putAll H is C') (E' ++ E)) : CallNode P τ L f args H E k := by
  constructor
  intro β w ho
  have hs := ho.split ht hn
  refine ((h.facts hE) _ _ w hs).mono fun e w' ⟨r, C', E', β', a1, a2, a3, a4, a5, a6, a7⟩ => ?_
  obtain ⟨β3, b1, b2, b3, b4⟩ := ho.join ht hn a3 (fun j hj => a2 j hj) a4 a5 a6
  exact ⟨.v r, _, _, β3, a1, b1, by rw [putAll_length (by have := (taken_spec ht).1; omega)]; omega, b4, trivial, b2, b3, hk r C' E' a7⟩
/-- A row, or a variable, is given up: it is a fact from here on. -/
theorem CallNode.freeze {f : Nat} {args : List Value} {k : PV → List Ck → List Fact → Prop} (i ty b : Nat) (cs : List Value) (hi : H[i]? = Option.some (.row ty cs (Option.some b)) ∨ H[i]? = Option.some (.box ty cs (Option.some b)))
    (h : CallNode P τ L f args (H.set i .dead) (rowF b 0 cs :: E) k) : CallNode P τ L f args H E k := by
  constructor
  intro β w ho
  refine (h.out β w (ho.freeze hi)).mono fun e w' ⟨r, H', E', β', a1, a2, a3, a4, a5, a6, a7, a8⟩ => ?_
  exact ⟨r, H', E', β', a1, fun j hj => a2 j (by simpa using hj), by simpa using a3, fun j c h1 h2 => (a4 j c h1 h2).imp id fun h3 => (loc_kill h3).1, a5, a6, a7.mono fun b hb => (loc_kill hb).1, a8⟩
/-- What is known is less. -/
theorem CallNode.fact {f : Nat} {args : List Value} {k : PV → List Ck → List Fact → Prop} (E' : List Fact) (hE : ∀ L w, Holds E L w → Holds E' L w) (h : CallNode P τ L f args H E' k) : CallNode P τ L f args H E k := by
  constructor
  intro β w ho
  exact h.out β w (ho.more (hE _ _ ho.hold))
/-- Called with these, in a world of these facts, f makes a row: how many it holds, its room, its cells are as R says. -/
def Gives (E : List Fact) (f : Nat) (args : List Value) (R : Nat → Nat → TypeId → List Value → Prop) : Prop :=
  Acts [] E f args fun r C' E' => ∃ b n cap T cs, r = .slice (some ⟨b, 0, none⟩) n cap ∧ C' = [.row T cs (some b)] ∧ E' = [] ∧ R n cap T cs
theorem Gives.of {E : List Fact} {f : Nat} {fn : Func} {args : List Value} {R : Nat → Nat → TypeId → List Value → Prop} (d : Nat) (hf : P.funcs[f]? = some fn) (hc : funcOk fn args.length = true)
    (h : ∀ L, Start P τ L d fn (args.map PV.v) [] E fun ys (H : List Ck) _ => ∃ (b n cap : Nat) (T : TypeId) (cs : List Value) (i : Nat), ys = [.v (.slice (some ⟨b, 0, none⟩) n cap)] ∧ H[i]? = some (Ck.row T cs (some b)) ∧ R n cap T cs) : Gives E f args R := by
  intro L β w hok
  have := fn_sound hτ hm hf (by simpa using hc) (fun y hy => by obtain ⟨v, _, rfl⟩ := List.mem_map.1 hy; trivial) (h L) hok
  rw [den_v] at this
  refine this.mono fun e w' ⟨ys, H', E', β', ⟨b, n, cap, T, cs, i, hys, hi, hR⟩, he, _, _, hok', hk, hnew⟩ => ?_
  subst hys
  have hy : Yields 0 H' E' [.row T cs (some b)] [] := ((Yields.pick (m := 0) (p := 0) (is := [i]) (cs := [.row T cs (some b)]) (Nat.le_refl _) (Nat.zero_le _) ⟨.inl hi, trivial⟩ (fun _ _ => Nat.zero_le _) (by simp)).trans (Yields.facts fun _ _ _ => trivial))
  obtain ⟨β2, _, a2, a3⟩ := hy L β' w' hok'
  refine ⟨_, _, [], β2, he, fun i hi => by simp at hi, Nat.zero_le _, hk, a2, fun j c h1 h2 => ?_, b, n, cap, T, cs, rfl, rfl, rfl, hR⟩
  obtain ⟨j', d', c1, c2, c3⟩ := a3 j c h1 h2
  rw [← c3]; exact hnew j' d' c1 c2
/-- The row is one's own. -/
theorem CallNode.givesC {E' : List Fact} {f : Nat} {args : List Value} {R : Nat → Nat → TypeId → List Value → Prop} {k : PV → List Ck → List Fact → Prop} (h : Gives E' f args R) (hE : ∀ L w, Holds E L w → Holds E' L w)
    (hk : ∀ b n cap T cs, R n cap T cs → k (.v (.slice (Option.some ⟨b, 0, none⟩) n cap)) (H ++ [.row T cs (Option.some b)]) E) : CallNode P τ L f args H E k :=
  CallNode.acts [] h trivial List.nodup_nil hE fun r C' E' ⟨b, n, cap, T, cs, e1, e2, e3, hR⟩ => by
    subst e1; subst e2; subst e3
    exact hk b n cap T cs hR
/-- Facts on memory that a call leaves. -/
theorem CallNode.did {f : Nat} {args : List Value} {k : PV → List Ck → List Fact → Prop} (m : Nat) (h : CallNode P τ L f args H E fun r H' E' => ∃ C' E2, Yields H.length H' E' C' E2 ∧ H.length ≤ C'.length ∧ (∀ i o, r ≠ .p i o) ∧ k r C' E2) : CallNode P τ L f args H E k := by
  constructor
  intro β w ho
  refine (h.out β w ho).mono fun e w' ⟨r, H', E', β', a1, a2, a3, a4, a5, a6, a7, C', E2, hy, hl, hr, hk⟩ => ?_
  obtain ⟨β2, b1, b2, b3⟩ := hy L β' w' a6
  cases r with
  | p i o => exact absurd rfl (hr i o)
  | v x =>
    refine ⟨.v x, C', E2, β2, a1, fun i hi => (b1 i hi).trans (a2 i hi), hl, fun i c h1 h2 => ?_, trivial, b2, a7, hk⟩
    obtain ⟨j, d, c1, c2, c3⟩ := b3 i c h1 h2
    rw [← c3]; exact a4 j d c1 c2
/-- The row is known as a fact. -/
theorem CallNode.givesF {E' : List Fact} {f : Nat} {args : List Value} {R : Nat → Nat → TypeId → List Value → Prop} {k : PV → List Ck → List Fact → Prop} (h : Gives E' f args R) (hE : ∀ L w, Holds E L w → Holds E' L w)
    (hk : ∀ b n cap T cs, R n cap T cs → k (.v (.slice (Option.some ⟨b, 0, none⟩) n cap)) H (rowF b 0 cs :: E)) : CallNode P τ L f args H E k :=
  CallNode.did 0 (CallNode.givesC h hE fun b n cap T cs hR => ⟨H, rowF b 0 cs :: E, by
    have h1 : Yields H.length (H ++ [.row T cs (Option.some b)]) E ((H ++ [Ck.row T cs (Option.some b)]).set H.length .dead) (rowF b 0 cs :: E) := Yields.fz H.length T b cs (.inl (by simp)) Yields.refl
    have h2 := Yields.drop (H := (H ++ [Ck.row T cs (Option.some b)]).set H.length .dead) (E := rowF b 0 cs :: E) H.length (Nat.le_refl _) (by simp)
    have h3 : ((H ++ [Ck.row T cs (Option.some b)]).set H.length .dead).take H.length = H := by
      rw [List.take_set_of_le (Nat.le_refl _)]; simp
    rw [h3] at h2
    exact h1.trans h2, Nat.le_refl _, (fun _ _ e => by cases e), hk b n cap T cs hR⟩)
end Go.Q
