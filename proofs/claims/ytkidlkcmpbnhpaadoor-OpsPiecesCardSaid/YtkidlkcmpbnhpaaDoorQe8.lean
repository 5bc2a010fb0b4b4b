/-
  The engine is sound: what is kept from step to step. Conditions: as stated at each.
-/
import Derived.Test.YtkidlkcmpbnhpaaDoorQe7
namespace Go.Q
open Go
variable {P : Program} {τ : Tab} {L : Nat → Prop}

/-- All that is known between two steps. -/
structure Good (τ : Tab) (L : Nat → Prop) (w0 : World) (M : Nat → Prop) (β0 : Nat → Nat) (m0 n : Nat) (β : Nat → Nat) (F : Tr) (gs : List (Nat × Nat)) (H : List Ck) (E : List Fact) (a : Act) (w : World) : Prop where
  fr : FrOk β n H.length F gs a
  ok : Ok τ L β H E w
  fix : ∀ i, i < m0 → β i = β0 i
  mle : m0 ≤ H.length
  anc : ∀ (i : Nat) (c : Ck), H[i]? = some c → c.live = true → w0.heap.size ≤ β i ∨ M (β i)
  kp : Kp M w0 w

section
variable {w0 : World} {M : Nat → Prop} {β0 : Nat → Nat} {m0 n : Nat} {β : Nat → Nat} {F : Tr} {gs : List (Nat × Nat)} {H : List Ck} {E : List Fact} {a : Act} {w : World}

theorem keyOk_spec {d : Nat} : ∀ {gs : List (Nat × Nat)}, keyOk (some d) gs = true → ∀ t j, (t, j) ∈ gs → j ≠ d
  | [], _, _, _, h => by cases h
  | (u, i) :: r, h, t, j, hm => by
    simp only [keyOk] at h
    cases hb : Nat.beq i d with
    | true => rw [hb] at h; cases h
    | false =>
      rw [hb] at h
      cases hm with
      | head => intro e; subst e; rw [Nat.beq_refl] at hb; cases hb
      | tail _ hm => exact keyOk_spec h t j hm

theorem FrOk.put {β : Nat → Nat} {m d : Nat} {F F' : Tr} {x : SV} {v : Value} (h : FrOk β n m F gs a) (hd : d < n) (hk : ∀ t j, (t, j) ∈ gs → j ≠ d)
    (h1 : F'.get d = x) (h2 : ∀ u, u ≠ d → F'.get u = F.get u) (hs : slotOK β x v) (hl : ∀ y, x = .n y → y.lim m)
    (gs' : List (Nat × Nat)) (hord : gsOk gs') (hsub : ∀ p, p ∈ gs → p ∈ gs') (hx : ∀ j b e y, x = .g j b e y → y.lim m ∧ j ≠ d ∧ (∃ e0 c, (F.get j).ask = some (e0, c) ∧ e = (e0 && eff b c)) ∧ (d, j) ∈ gs') :
    FrOk β n m F' gs' (a.put (some d) v) := by
  refine ⟨h.defers, by simp [Act.put, h.size], fun t => ?_, fun t y e => ?_, fun t j b e0 y e => ?_, fun t j b e0 y e => ?_, hord⟩
  · by_cases e : t = d
    · subst e; rw [h1, getD_put_same (by rw [h.size]; exact hd)]; exact hs
    · rw [h2 t e, getD_put_other e]; exact h.slot t
  · by_cases e' : t = d
    · subst e'; rw [h1] at e; exact hl y e
    · rw [h2 t e'] at e; exact h.limn t y e
  · by_cases e' : t = d
    · subst e'; rw [h1] at e; exact (hx j b e0 y e).1
    · rw [h2 t e'] at e; exact h.limg t j b e0 y e
  · by_cases e' : t = d
    · subst e'
      rw [h1] at e
      obtain ⟨_, a2, a3, a4⟩ := hx j b e0 y e
      exact ⟨by rw [h2 j a2]; exact a3, a4⟩
    · rw [h2 t e'] at e
      obtain ⟨s1, s2⟩ := h.star t j b e0 y e
      exact ⟨by rw [h2 j (hk t j s2)]; exact s1, hsub _ s2⟩
theorem FrOk.den {β β' : Nat → Nat} {m m' : Nat} {F : Tr} (h : FrOk β n m F gs a) (hb : ∀ i, i < m → β' i = β i) (hm : m ≤ m') : FrOk β' n m' F gs a := by
  refine ⟨h.defers, h.size, fun t => ?_, fun t y e => PV.lim_mono hm (h.limn t y e), fun t j b e0 y e => PV.lim_mono hm (h.limg t j b e0 y e), h.star, h.ord⟩
  have := h.slot t
  generalize hs : F.get t = s at this
  cases s with
  | u => trivial
  | n y => simp only [slotOK] at this ⊢; rw [PV.den_ext hb (h.limn t y hs)]; exact this
  | g j b e y => simp only [slotOK] at this ⊢; rw [PV.den_ext hb (h.limg t j b e y hs)]; exact this
/-- A value goes into its slot. -/
theorem Good.put {d : Option Tmp} {x : SV} {v : Value} {k : Tr → Prop} (h : Good τ L w0 M β0 m0 n β F gs H E a w) (hd : ∀ t, d = some t → t < n) (hk : keyOk d gs = true)
    (hp : putDst d x F k) (hs : slotOK β x v) (hl : ∀ y, x = .n y → y.lim H.length) (hg : ∀ j c b y, x = .g j c b y → False) :
    ∃ F', k F' ∧ Good τ L w0 M β0 m0 n β F' gs H E (a.put d v) w := by
  unfold putDst at hp
  cases d with
  | none => exact ⟨F, hp, h⟩
  | some t =>
    obtain ⟨F', hk', h1, h2⟩ := Tr.putK_spec _ _ _ _ hp
    exact ⟨F', hk', ⟨h.fr.put (hd t rfl) (keyOk_spec hk) h1 h2 hs hl gs h.fr.ord (fun _ hp => hp) fun j c b y e => (hg j c b y e).elim, h.ok, h.fix, h.mle, h.anc, h.kp⟩⟩
theorem Good.world {w' : World} (h : Good τ L w0 M β0 m0 n β F gs H E a w) (k : Kp (fun _ => False) w w') : Good τ L w0 M β0 m0 n β F gs H E a w' :=
  ⟨h.fr, h.ok.kp k, h.fix, h.mle, h.anc, h.kp.trans k.none⟩
/-- An object of which no cell is frozen. -/
def soft (o : Obj) : Prop := match o with
  | .cells _ _ (lo, hi) => hi ≤ lo
  | _ => True
theorem Kp.alloc (L : Nat → Prop) (w : World) {o : Obj} (_ : soft o) : Kp L w { w with heap := w.heap.push o } :=
  ⟨rfl, rfl, rfl, by simp, fun b hb _ => by simp only [Array.getElem?_push]; rw [if_neg (by omega)]⟩
def ext (β : Nat → Nat) (m b : Nat) : Nat → Nat := fun i => if i = m then b else β i
theorem ext_lt {β : Nat → Nat} {m b i : Nat} (h : i < m) : ext β m b i = β i := by unfold ext; rw [if_neg (by omega)]
theorem ext_eq {β : Nat → Nat} {m b : Nat} : ext β m b m = b := by unfold ext; rw [if_pos rfl]
theorem mem_append_one {c d : Ck} {i : Nat} (h : (H ++ [d])[i]? = some c) : (H[i]? = some c ∧ i < H.length) ∨ (i = H.length ∧ c = d) := by
  rcases Nat.lt_or_ge i H.length with hl | hl
  · rw [List.getElem?_append_left hl] at h; exact .inl ⟨h, hl⟩
  · rw [List.getElem?_append_right hl] at h
    rcases Nat.eq_or_lt_of_le hl with e | e
    · subst e; simp at h; exact .inr ⟨rfl, h.symm⟩
    · rw [List.getElem?_eq_none (by simp; omega)] at h; cases h
/-- A new chunk, at a new block. -/
theorem Ok.add (h : Ok τ L β H E w) (c : Ck) (hs : soft c.ob) (hn : ∀ b, c.no = some b → b = w.heap.size) (hl : ∀ ty cs x, c = .box ty cs x → cs.length = (τ.ti ty).size) :
    Ok τ L (ext β H.length w.heap.size) (H ++ [c]) E { w with heap := w.heap.push c.ob } := by
  have hbl : ∀ b, both L (ext β H.length w.heap.size) (H ++ [c]) b → both L β H b ∨ w.heap.size ≤ b := by
    intro b hb
    rcases hb with hb | ⟨i, d, hi, hv, hb⟩
    · exact .inl (.inl hb)
    · rcases mem_append_one hi with ⟨h1, h2⟩ | ⟨rfl, rfl⟩
      · rw [ext_lt h2] at hb; exact .inl (.inr ⟨i, d, h1, hv, hb⟩)
      · rw [ext_eq] at hb; exact .inr (by omega)
  refine ⟨fun i j ci cj hci hcj li lj e => ?_, fun i d hd hv => ?_, fun i b d hd hb => ?_, fun i ty cs x hd => ?_, fun b hb => ?_, fun i d hd hv => ?_, (h.hold.loc hbl).keep (Kp.alloc _ _ hs)⟩
  · rcases mem_append_one hci with ⟨a1, h1⟩ | ⟨h1, _⟩ <;> rcases mem_append_one hcj with ⟨a2, h2⟩ | ⟨h2, _⟩
    · rw [ext_lt h1, ext_lt h2] at e; exact h.inj i j _ _ a1 a2 li lj e
    · subst h2; rw [ext_lt h1, ext_eq] at e
      have := h.lt_own a1 li; omega
    · subst h1; rw [ext_lt h2, ext_eq] at e
      have := h.lt_own a2 lj; omega
    · omega
  · rcases mem_append_one hd with ⟨h1, h2⟩ | ⟨rfl, rfl⟩
    · rw [ext_lt h2]
      have := h.own i d h1 hv
      have hlt := lt_of_some this
      simp only [Array.getElem?_push]; rw [if_neg (by omega)]; exact this
    · rw [ext_eq]; simp
  · rcases mem_append_one hd with ⟨h1, h2⟩ | ⟨rfl, rfl⟩
    · rw [ext_lt h2]; exact h.no i b d h1 hb
    · rw [ext_eq]; exact (hn b hb).symm
  · rcases mem_append_one hd with ⟨h1, h2⟩ | ⟨_, e⟩
    · exact h.len i ty cs x h1
    · exact hl ty cs x e.symm
  · have := h.lt b hb; simp; omega
  · rcases mem_append_one hd with ⟨h1, h2⟩ | ⟨rfl, rfl⟩
    · rw [ext_lt h2]; exact h.sep i d h1 hv
    · rw [ext_eq]; intro hL; exact absurd (h.lt _ hL) (Nat.lt_irrefl _)
/-- A chunk moves behind the others; its old number is dead. -/
theorem Ok.move (h : Ok τ L β H E w) {i : Nat} {c : Ck} (hc : H[i]? = some c) (hv : c.live = true) : Ok τ L (ext β H.length (β i)) (H.set i .dead ++ [c]) E w := by
  have hi : i < H.length := mem_getH hc
  have was : ∀ {j : Nat} {d : Ck}, (H.set i .dead ++ [c])[j]? = some d → d.live = true → ∃ j', H[j']? = some d ∧ ext β H.length (β i) j = β j' ∧ ((j' = i ∧ j = H.length) ∨ (j' ≠ i ∧ j = j')) := fun {j d} hd hl => by
    rcases mem_append_one hd with ⟨h1, h2⟩ | ⟨h1, rfl⟩
    · have h2 : j < H.length := by simpa using h2
      by_cases e : i = j
      · subst e; rw [List.getElem?_set, if_pos rfl, if_pos hi] at h1; injection h1 with h1; subst h1; cases hl
      · rw [List.getElem?_set_ne e] at h1
        exact ⟨j, h1, ext_lt h2, .inr ⟨Ne.symm e, rfl⟩⟩
    · have h1 : j = H.length := by simpa using h1
      exact ⟨i, hc, by rw [h1, ext_eq], .inl ⟨rfl, h1⟩⟩
  refine ⟨fun a b ca cb ha hb la lb e => ?_, fun a d hd hl => ?_, fun a b d hd hb => ?_, fun a ty cs x hd => ?_, h.lt, fun a d hd hl => ?_, h.hold.loc fun b hb => .inl ?_⟩
  · obtain ⟨a', a1, a2, a3⟩ := was ha la
    obtain ⟨b', b1, b2, b3⟩ := was hb lb
    rw [a2, b2] at e
    have := h.inj a' b' _ _ a1 b1 la lb e
    omega
  · obtain ⟨a', a1, a2, _⟩ := was hd hl
    rw [a2]; exact h.own a' d a1 hl
  · have hl : d.live = true := by cases d <;> first | rfl | cases hb
    obtain ⟨a', a1, a2, _⟩ := was hd hl
    rw [a2]; exact h.no a' b d a1 hb
  · obtain ⟨a', a1, a2, _⟩ := was hd rfl
    exact h.len a' ty cs x a1
  · obtain ⟨a', a1, a2, _⟩ := was hd hl
    rw [a2]; exact h.sep a' d a1 hl
  · rcases hb with hb | ⟨j, d, hj, hl, hb⟩
    · exact .inl hb
    · obtain ⟨a', a1, a2, _⟩ := was hj hl
      exact .inr ⟨a', d, a1, hl, by rw [← a2]; exact hb⟩
/-- A chunk is owned no more. -/
theorem Ok.kill (h : Ok τ L β H E w) (i : Nat) : Ok τ L β (H.set i .dead) E w := by
  have was : ∀ {j : Nat} {d : Ck}, (H.set i .dead)[j]? = some d → d.live = true → H[j]? = some d := fun {j d} hd hl => by
    by_cases e : i = j
    · subst e
      rw [List.getElem?_set, if_pos rfl] at hd
      split at hd
      · injection hd with hd; subst hd; cases hl
      · cases hd
    · rwa [List.getElem?_set_ne e] at hd
  refine ⟨fun a b ca cb ha hb la lb e => h.inj a b _ _ (was ha la) (was hb lb) la lb e, fun a d hd hl => h.own a d (was hd hl) hl, fun a b d hd hb => ?_, fun a ty cs x hd => h.len a ty cs x (was hd rfl), h.lt, fun a d hd hl => h.sep a d (was hd hl) hl, h.hold.loc fun b hb => .inl ?_⟩
  · have hl : d.live = true := by cases d <;> first | rfl | cases hb
    exact h.no a b d (was hd hl) hb
  · rcases hb with hb | ⟨j, d, hj, hl, hb⟩
    · exact .inl hb
    · exact .inr ⟨j, d, was hj hl, hl, hb⟩
theorem Good.add (h : Good τ L w0 M β0 m0 n β F gs H E a w) (c : Ck) (hs : soft c.ob) (hn : ∀ b, c.no = some b → b = w.heap.size) (hl : ∀ ty cs x, c = .box ty cs x → cs.length = (τ.ti ty).size) :
    Good τ L w0 M β0 m0 n (ext β H.length w.heap.size) F gs (H ++ [c]) E a { w with heap := w.heap.push c.ob } := by
  refine ⟨h.fr.den (fun i hi => ext_lt hi) (by simp), h.ok.add c hs hn hl, fun i hi => by rw [ext_lt (Nat.lt_of_lt_of_le hi h.mle)]; exact h.fix i hi, by have := h.mle; simp; omega, fun i d hd hv => ?_, h.kp.trans (Kp.alloc _ _ hs)⟩
  rcases mem_append_one hd with ⟨h1, h2⟩ | ⟨rfl, rfl⟩
  · rw [ext_lt h2]; exact h.anc i d h1 hv
  · rw [ext_eq]; exact .inl h.kp.size

/-! Stores -/
theorem splice_get (cs new : List Value) (o t : Nat) (h : o + new.length ≤ cs.length) : (splice cs o new)[t]? = if o ≤ t ∧ t < o + new.length then new[t - o]? else cs[t]? := by
  unfold splice
  by_cases c1 : t < o
  · rw [if_neg (by omega), List.append_assoc, List.getElem?_append_left (by simp; omega), List.getElem?_take, if_pos c1]
  · by_cases c2 : t < o + new.length
    · rw [if_pos (by omega), List.append_assoc, List.getElem?_append_right (by simp; omega), List.getElem?_append_left (by simp; omega)]
      congr 1; simp; omega
    · rw [if_neg (by omega), List.getElem?_append_right (by simp; omega), List.getElem?_drop]
      congr 1; simp; omega
theorem splice_set (cs r : List Value) (k : Nat) (v : Value) (h : k + (r.length + 1) ≤ cs.length) : splice (cs.set k v) (k + 1) r = splice cs k (v :: r) := by
  apply List.ext_getElem?
  intro t
  rw [splice_get _ _ _ _ (by simp; omega), splice_get _ _ _ _ (by simp; omega)]
  simp only [List.length_cons]
  by_cases c1 : t < k
  · rw [if_neg (by omega), if_neg (by omega), List.getElem?_set, if_neg (by omega)]
  · by_cases c2 : t = k
    · subst c2
      rw [if_neg (by omega), if_pos (by omega), List.getElem?_set, if_pos rfl, if_pos (by omega)]
      simp
    · by_cases c3 : t < k + 1 + r.length
      · rw [if_pos (by omega), if_pos (by omega)]
        obtain ⟨u, rfl⟩ : ∃ u, t = k + 1 + u := ⟨t - (k + 1), by omega⟩
        rw [show k + 1 + u - (k + 1) = u by omega, show k + 1 + u - k = u + 1 by omega, List.getElem?_cons_succ]
      · rw [if_neg (by omega), if_neg (by omega), List.getElem?_set, if_neg (by omega)]
theorem run_storeCells : ∀ (vs : List Value) (b off j : Nat) (cs : List Value) (ty : TypeId) (w : World), ones vs = true → w.heap[b]? = some (.cells cs.toArray ty (0, 0)) → off + j + vs.length ≤ cs.length →
    (storeCells ⟨b, off, none⟩ vs j).run P w = .ok () { w with heap := w.heap.setIfInBounds b (.cells (splice cs (off + j) vs).toArray ty (0, 0)) }
  | [], b, off, j, cs, ty, w, _, hb, _ => by
    have hlt := lt_of_some hb
    have : w.heap.setIfInBounds b (.cells (splice cs (off + j) []).toArray ty (0, 0)) = w.heap := by
      apply Array.ext
      · simp
      · intro i h1 h2
        by_cases e : i = b
        · subst e; rw [Array.getElem?_eq_getElem h2] at hb; injection hb with hb; simp [splice, hb]
        · rw [Array.getElem_setIfInBounds_ne h2 (Ne.symm e)]
    simp [storeCells, this]
  | v :: r, b, off, j, cs, ty, w, ho, hb, hl => by
    have hlt := lt_of_some hb
    simp at hl
    have hc : w.cell? ⟨b, off + j, none⟩ = some (cs[off + j]'(by omega)) := by
      simp [World.cell?, hb]
    have hfz : w.frozen? ⟨b, off + j, none⟩ = false := by simp [World.frozen?, hb]
    have hone : (∀ x, v ≠ .agg x) ∧ (∀ x, v ≠ .tuple x) ∧ ones r = true := by
      cases v <;> first | (simp [ones] at ho; done) | exact ⟨fun _ e => (by cases e), fun _ e => (by cases e), ho⟩
    have hst : (store ⟨b, off + j, none⟩ v).run P w = .ok () (w.setCell ⟨b, off + j, none⟩ v) := by
      unfold store
      cases v <;> first | exact absurd rfl (hone.1 _) | exact absurd rfl (hone.2.1 _) | simp [Sem.run, hc, hfz]
    have hw : w.setCell ⟨b, off + j, none⟩ v = { w with heap := w.heap.setIfInBounds b (.cells (cs.set (off + j) v).toArray ty (0, 0)) } := by
      unfold World.setCell
      congr 1
      apply Array.ext_getElem?
      intro i
      simp only [Array.getElem?_modify, Array.getElem?_setIfInBounds]
      by_cases e : b = i
      · subst e
        have hb2 := hb
        rw [Array.getElem?_eq_getElem hlt] at hb2
        injection hb2 with hb2
        simp [hlt, hb2]
      · simp [e]
    have hb' : ({ w with heap := w.heap.setIfInBounds b (.cells (cs.set (off + j) v).toArray ty (0, 0)) } : World).heap[b]? = some (.cells (cs.set (off + j) v).toArray ty (0, 0)) := by
      simp [hlt]
    have ih := run_storeCells r b off (j + 1) (cs.set (off + j) v) ty _ hone.2.2 hb' (by simp; omega)
    simp only [storeCells, Sem.run_bind, add_off, hst, hw, Result.andThen_ok]
    rw [ih]
    congr 2
    rw [Array.setIfInBounds_setIfInBounds]
    congr 2
    have hs : splice (cs.set (off + j) v) (off + (j + 1)) r = splice cs (off + j) (v :: r) := splice_set _ _ _ _ (by omega)
    rw [hs]

theorem Ok.set (h : Ok τ L β H E w) {i : Nat} {c c' : Ck} (hc : H[i]? = some c) (hv : c.live = true) (hs' : soft c'.ob) (hn : c'.no = c.no) (hl : ∀ ty cs x, c' = .box ty cs x → cs.length = (τ.ti ty).size) :
    Ok τ L β (H.set i c') E { w with heap := w.heap.setIfInBounds (β i) c'.ob } := by
  have hi := mem_getH hc
  have get : ∀ {j d}, (H.set i c')[j]? = some d → (j = i ∧ d = c') ∨ (j ≠ i ∧ H[j]? = some d) := fun {j d} hd => by
    by_cases e : j = i
    · subst e; rw [List.getElem?_set, if_pos rfl, if_pos hi] at hd; injection hd with hd; exact .inl ⟨rfl, hd.symm⟩
    · rw [List.getElem?_set, if_neg (Ne.symm e)] at hd; exact .inr ⟨e, hd⟩
  refine ⟨fun j k cj ck hj hk lj lk e => ?_, fun j d hd hdv => ?_, fun j b d hd hb => ?_, fun j ty cs x hd => ?_, fun b hb => by simpa using h.lt b hb, fun j d hd hl => ?_, ?_⟩
  · have was : ∀ {j : Nat} {d : Ck}, (H.set i c')[j]? = some d → d.live = true → ∃ d0 : Ck, H[j]? = some d0 ∧ d0.live = true := fun {j d} hd hl => by
      rcases get hd with ⟨e, _⟩ | ⟨_, hd⟩
      · exact ⟨c, e ▸ hc, hv⟩
      · exact ⟨d, hd, hl⟩
    obtain ⟨_, a1, a2⟩ := was hj lj
    obtain ⟨_, b1, b2⟩ := was hk lk
    exact h.inj _ _ _ _ a1 b1 a2 b2 e
  · rcases get hd with ⟨rfl, rfl⟩ | ⟨hne, hd⟩
    · simp [h.lt_own hc hv]
    · have : β i ≠ β j := fun e => hne (h.inj i j _ _ hc hd hv hdv e).symm
      simp only [Array.getElem?_setIfInBounds_ne this]
      exact h.own j d hd hdv
  · rcases get hd with ⟨rfl, rfl⟩ | ⟨_, hd⟩
    · exact h.no j b c hc (hn ▸ hb)
    · exact h.no j b d hd hb
  · rcases get hd with ⟨_, e⟩ | ⟨_, hd⟩
    · exact hl ty cs x e.symm
    · exact h.len j ty cs x hd
  · rcases get hd with ⟨e, _⟩ | ⟨_, hd⟩
    · rw [e]; exact h.sep i c hc hv
    · exact h.sep j d hd hl
  · have hk : Kp (both L β H) w { w with heap := w.heap.setIfInBounds (β i) c'.ob } := ⟨rfl, rfl, rfl, by simp, fun b hb hnb => by
      have : β i ≠ b := fun e => hnb (.inr ⟨i, c, hc, hv, e⟩)
      simp only [Array.getElem?_setIfInBounds_ne this]⟩
    have h1 : Holds E (both L β H) { w with heap := w.heap.setIfInBounds (β i) c'.ob } := h.hold.keep hk
    exact h1.loc fun b hb => .inl (hb.imp id (loc_set hc hv))
theorem Good.kp_trans (h : Good τ L w0 M β0 m0 n β F gs H E a w) {w' : World} (k : Kp (loc β H) w w') : Kp M w0 w' :=
  ⟨k.os.trans h.kp.os, k.tape.trans h.kp.tape, k.output.trans h.kp.output, Nat.le_trans h.kp.size k.size, fun b hb hnb => (k.block b (Nat.lt_of_lt_of_le hb h.kp.size) (by
    rintro ⟨i, c, hi, hv, e⟩
    rcases h.anc i c hi hv with a1 | a1
    · omega
    · rw [e] at a1; exact hnb a1)).trans (h.kp.block b hb hnb)⟩
theorem Good.set (h : Good τ L w0 M β0 m0 n β F gs H E a w) {i : Nat} {c c' : Ck} (hc : H[i]? = some c) (hs : c.live = true) (hs' : soft c'.ob) (hn : c'.no = c.no) (hl : ∀ ty cs x, c' = .box ty cs x → cs.length = (τ.ti ty).size) :
    Good τ L w0 M β0 m0 n β F gs (H.set i c') E a { w with heap := w.heap.setIfInBounds (β i) c'.ob } := by
  have hi := mem_getH hc
  refine ⟨h.fr.den (fun _ _ => rfl) (by simp), h.ok.set hc hs hs' hn hl, h.fix, by simpa using h.mle, fun j d hd hl => ?_, h.kp_trans ⟨rfl, rfl, rfl, by simp, fun b hb hnb => ?_⟩⟩
  · obtain ⟨k, d', h1, h2, h3⟩ := loc_set (β := β) hc hs ⟨j, d, hd, hl, rfl⟩
    rw [← h3]; exact h.anc k d' h1 h2
  · have : β i ≠ b := fun e => hnb ⟨i, c, hc, hs, e⟩
    simp only [Array.getElem?_setIfInBounds_ne this]
end
end Go.Q
