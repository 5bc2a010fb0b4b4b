/-
  The engine is sound: lists of operations, regions. Conditions: as stated at each.
-/
import Derived.Test.YtkidlkcmpbnhpaaDoorQe9
namespace Go.Q
open Go
variable {P : Program} {τ : Tab} {L : Nat → Prop}
section
variable {w0 : World} {M : Nat → Prop} {β0 : Nat → Nat} {m0 n : Nat} {β : Nat → Nat} {F : Tr} {gs : List (Nat × Nat)} {H : List Ck} {E : List Fact} {a : Act} {w : World}

theorem Ok.pin (h : Ok τ L β H E w) {i : Nat} {c : Ck} (hc : H[i]? = some c) : Ok τ L β (H.set i (c.pin (β i))) E w := by
  have hi := mem_getH hc
  have hob : ∀ b, (c.pin b).ob = c.ob := fun b => by cases c <;> rfl
  have get : ∀ {j d}, (H.set i (c.pin (β i)))[j]? = some d → (j = i ∧ d = c.pin (β i)) ∨ (j ≠ i ∧ H[j]? = some d) := fun {j d} hd => by
    by_cases e : j = i
    · subst e; rw [List.getElem?_set, if_pos rfl, if_pos hi] at hd; injection hd with hd; exact .inl ⟨rfl, hd.symm⟩
    · rw [List.getElem?_set, if_neg (Ne.symm e)] at hd; exact .inr ⟨e, hd⟩
  have hlv : ∀ b, (c.pin b).live = c.live := fun b => by cases c <;> rfl
  refine ⟨fun j k cj ck hj hk lj lk e => ?_, fun j d hd hv => ?_, fun j b d hd hb => ?_, fun j ty cs x hd => ?_, h.lt, fun j d hd hl => ?_, h.hold.loc fun b hb => .inl ?_⟩
  · have was : ∀ {j : Nat} {d : Ck}, (H.set i (c.pin (β i)))[j]? = some d → d.live = true → ∃ d0 : Ck, H[j]? = some d0 ∧ d0.live = true := fun {j d} hd hl => by
      rcases get hd with ⟨e, e2⟩ | ⟨_, hd⟩
      · exact ⟨c, e ▸ hc, by rw [e2, hlv] at hl; exact hl⟩
      · exact ⟨d, hd, hl⟩
    obtain ⟨_, a1, a2⟩ := was hj lj
    obtain ⟨_, b1, b2⟩ := was hk lk
    exact h.inj _ _ _ _ a1 b1 a2 b2 e
  · rcases get hd with ⟨rfl, rfl⟩ | ⟨_, hd⟩
    · rw [hob]; exact h.own _ c hc ((hlv _).symm.trans hv)
    · exact h.own j d hd hv
  · rcases get hd with ⟨rfl, rfl⟩ | ⟨_, hd⟩
    · cases c <;> first | (cases hb; done) | (injection hb)
    · exact h.no j b d hd hb
  · rcases get hd with ⟨rfl, e⟩ | ⟨_, hd⟩
    · cases c with
      | box t l m => injection e with e1 e2 e3; subst e1; subst e2; exact h.len j ty cs m hc
      | row t l m => cases e
      | obj o m => cases e
      | dead => cases e
    · exact h.len j ty cs x hd
  · rcases get hd with ⟨rfl, rfl⟩ | ⟨_, hd⟩
    · exact h.sep _ c hc ((hlv _).symm.trans hl)
    · exact h.sep j d hd hl
  · rcases hb with hb | ⟨j, d, hd, hl, hb⟩
    · exact .inl hb
    · rcases get hd with ⟨rfl, rfl⟩ | ⟨_, hd⟩
      · exact .inr ⟨_, c, hc, (hlv _).symm.trans hl, hb⟩
      · exact .inr ⟨j, d, hd, hl, hb⟩
theorem Good.pin (G : Good τ L w0 M β0 m0 n β F gs H E a w) {i : Nat} {c : Ck} (hc : H[i]? = some c) : Good τ L w0 M β0 m0 n β F gs (H.set i (c.pin (β i))) E a w :=
  ⟨G.fr.den (fun _ _ => rfl) (by simp), G.ok.pin hc, G.fix, by simpa using G.mle, fun j d h1 h2 => by
    have hlv : ∀ b, (c.pin b).live = c.live := fun b => by cases c <;> rfl
    by_cases e : i = j
    · subst e
      rw [List.getElem?_set, if_pos rfl, if_pos (mem_getH hc)] at h1
      injection h1 with h1
      subst h1
      exact G.anc i c hc ((hlv _).symm.trans h2)
    · rw [List.getElem?_set_ne e] at h1; exact G.anc j d h1 h2, G.kp⟩
theorem pins_spec : ∀ {xs : List Operand} {H : List Ck} {k : List Ck → Prop}, Good τ L w0 M β0 m0 n β F gs H E a w → pins F xs H k → ∃ H', k H' ∧ Good τ L w0 M β0 m0 n β F gs H' E a w
  | [], H, k, G, h => ⟨H, h, G⟩
  | x :: r, H, k, G, h => by
    unfold pins at h
    obtain ⟨s, h, _⟩ := ldK_spec G.fr h
    split at h
    · obtain ⟨c, hc, h⟩ := getH_spec h
      split at h
      · exact pins_spec G h
      · obtain ⟨hi, h⟩ := setH_spec (h (β _))
        exact pins_spec (G.pin hc) h
    · exact pins_spec G h

theorem wipe_spec : ∀ {gs : List (Nat × Nat)} {F : Tr} {k : Tr → Prop}, Good τ L w0 M β0 m0 n β F gs H E a w → wipe gs F k → ∃ F', k F' ∧ Good τ L w0 M β0 m0 n β F' [] H E a w
  | [], F, k, G, h => ⟨F, h, G⟩
  | (t, i) :: r, F, k, G, h => by
    unfold wipe at h
    rw [Tr.getK_iff] at h
    have more : ∀ {F' : Tr}, (∀ u, u ≠ t → F'.get u = F.get u) → (F'.get t = .u ∨ (F'.get t = F.get t ∧ ∀ j b e y, F.get t ≠ .g j b e y)) → Good τ L w0 M β0 m0 n β F' r H E a w := by
      intro F' h2 h3
      refine ⟨⟨G.fr.defers, G.fr.size, fun u => ?_, fun u y e => ?_, fun u j b e0 y e => ?_, fun u j b e0 y e => ?_, G.fr.ord.2⟩, G.ok, G.fix, G.mle, G.anc, G.kp⟩
      · by_cases e : u = t
        · subst e
          rcases h3 with h3 | ⟨h3, _⟩ <;> rw [h3]
          · trivial
          · exact G.fr.slot u
        · rw [h2 u e]; exact G.fr.slot u
      · by_cases e' : u = t
        · subst e'
          rcases h3 with h3 | ⟨h3, _⟩ <;> rw [h3] at e
          · cases e
          · exact G.fr.limn u y e
        · rw [h2 u e'] at e; exact G.fr.limn u y e
      · by_cases e' : u = t
        · subst e'
          rcases h3 with h3 | ⟨h3, h5⟩ <;> rw [h3] at e
          · cases e
          · exact absurd e (h5 _ _ _ _)
        · rw [h2 u e'] at e; exact G.fr.limg u j b e0 y e
      · by_cases e' : u = t
        · subst e'
          rcases h3 with h3 | ⟨h3, h5⟩ <;> rw [h3] at e
          · cases e
          · exact absurd e (h5 _ _ _ _)
        · rw [h2 u e'] at e
          obtain ⟨s1, s2⟩ := G.fr.star u j b e0 y e
          have s3 : (u, j) ∈ r := by
            cases s2 with
            | head => exact absurd rfl e'
            | tail _ s2 => exact s2
          have hj : j ≠ t := G.fr.ord.1 u j s3
          rw [h2 j hj]
          exact ⟨s1, s3⟩
    split at h
    · obtain ⟨F', h, h1, h2⟩ := Tr.putK_spec _ _ _ _ h
      exact wipe_spec (more h2 (.inl h1)) h
    · rename_i hne
      exact wipe_spec (more (fun _ _ => rfl) (.inr ⟨rfl, fun j b e y e' => hne j b e y e'⟩)) h

theorem guard_val (G : Good τ L w0 M β0 m0 n β F gs H E a w) {all : Array Oper} {j t : Nat} {c e0 : Bool} (hj : (all[j]?).bind (·.dst) = some t) (ht : (F.get t).ask = some (e0, c)) :
    yielded all a.tmps j = if e0 = true then some c else none := by
  have hs := G.fr.slot t
  have hs : a.tmps.getD t undef = if e0 = true then .bool c else undef := by
    generalize F.get t = s at ht hs
    cases s with
    | u => cases ht
    | n y =>
      cases y with
      | p i o => cases ht
      | v x =>
        cases x <;> first | (cases ht; done) | skip
        injection ht with ht; injection ht with h1 h2; subst h1; subst h2; exact hs
    | g j b e y =>
      cases y with
      | p i o => cases ht
      | v x =>
        cases x <;> first | (cases ht; done) | skip
        injection ht with ht; injection ht with h1 h2; subst h1; subst h2; exact hs
  unfold yielded
  rw [hj]
  rw [Array.getD_eq_getD_getElem?] at hs
  cases h : a.tmps[t]? with
  | none => rw [h] at hs; cases e0 <;> first | (simp [h]; done) | cases hs
  | some v =>
    rw [h] at hs
    cases e0 <;> simp at hs <;> simp [h, hs, undef]
theorem upK_spec : ∀ (f : Nat) {j : Nat} {k : Gd → Prop}, upK F f j k → ∃ u, k u ∧ Up F j u
  | 0, j, k, h => ⟨_, h, trivial⟩
  | f + 1, j, k, h => by
    unfold upK at h
    rw [Tr.getK_iff] at h
    split at h
    · rename_i j' b' e' y hg
      obtain ⟨u, hk, hu⟩ := upK_spec f h
      exact ⟨_, hk, ⟨y, hg⟩, hu⟩
    · exact ⟨_, h, trivial⟩

/-- A slot is told anew, of which nothing else is told. -/
theorem Good.tell {t i : Nat} {r : List (Nat × Nat)} {F' : Tr} {s : SV} (G : Good τ L w0 M β0 m0 n β F ((t, i) :: r) H E a w) (h1 : F'.get t = s) (h2 : ∀ u, u ≠ t → F'.get u = F.get u)
    (hs : slotOK β s (a.tmps.getD t undef)) (hl : ∀ y, s = .n y → y.lim H.length) (hg : ∀ j b e y, s ≠ .g j b e y) : Good τ L w0 M β0 m0 n β F' r H E a w := by
  refine ⟨⟨G.fr.defers, G.fr.size, fun u => ?_, fun u y e => ?_, fun u j b e0 y e => ?_, fun u j b e0 y e => ?_, G.fr.ord.2⟩, G.ok, G.fix, G.mle, G.anc, G.kp⟩
  · by_cases e : u = t
    · subst e; rw [h1]; exact hs
    · rw [h2 u e]; exact G.fr.slot u
  · by_cases e' : u = t
    · subst e'; rw [h1] at e; exact hl y e
    · rw [h2 u e'] at e; exact G.fr.limn u y e
  · by_cases e' : u = t
    · subst e'; rw [h1] at e; exact absurd e (hg _ _ _ _)
    · rw [h2 u e'] at e; exact G.fr.limg u j b e0 y e
  · by_cases e' : u = t
    · subst e'; rw [h1] at e; exact absurd e (hg _ _ _ _)
    · rw [h2 u e'] at e
      obtain ⟨s1, s2⟩ := G.fr.star u j b e0 y e
      have s3 : (u, j) ∈ r := by
        cases s2 with
        | head => exact absurd rfl e'
        | tail _ s2 => exact s2
      rw [h2 j (G.fr.ord.1 u j s3)]
      exact ⟨s1, s3⟩
theorem Good.skip {t i : Nat} {r : List (Nat × Nat)} (G : Good τ L w0 M β0 m0 n β F ((t, i) :: r) H E a w) (hg : ∀ j b e y, F.get t ≠ .g j b e y) : Good τ L w0 M β0 m0 n β F r H E a w :=
  G.tell rfl (fun _ _ => rfl) (G.fr.slot t) (fun y e => G.fr.limn t y e) hg
theorem eff_ne : ∀ {b c : Bool}, (b = true → c = true → False) → (b = false → c = false → False) → eff b c = false
  | true, true, h, _ => (h rfl rfl).elim
  | true, false, _, _ => rfl
  | false, true, _, _ => rfl
  | false, false, _, h => (h rfl rfl).elim
theorem free_spec {t : Nat} {c : Bool} : ∀ {gs : List (Nat × Nat)} {F : Tr} {k : Tr → Prop}, Good τ L w0 M β0 m0 n β F gs H E a w → F.get t = .n (.v (.bool c)) → free t c gs F k → ∃ F', k F' ∧ Good τ L w0 M β0 m0 n β F' [] H E a w
  | [], F, k, G, ht, h => by
    obtain ⟨F', hk, h1, h2⟩ := Tr.putK_spec _ _ _ _ h
    have hF : ∀ u, F'.get u = F.get u := fun u => by
      by_cases e : u = t
      · rw [e, h1, ht]
      · exact h2 u e
    exact ⟨F', hk, ⟨G.fr.defers, G.fr.size, fun u => by rw [hF]; exact G.fr.slot u, fun u y e => G.fr.limn u y (by rw [← hF]; exact e), fun u j b e y he => G.fr.limg u j b e y (by rw [← hF]; exact he),
      fun u j b e y he => by rw [hF] at he ⊢; exact G.fr.star u j b e y he, trivial⟩, G.ok, G.fix, G.mle, G.anc, G.kp⟩
  | (d, i) :: r, F, k, G, ht, h => by
    unfold free at h
    rw [Tr.getK_iff] at h
    split at h
    · rename_i j b e y hg
      have hdt : d ≠ t := fun e => by rw [e, ht] at hg; cases hg
      have hs := G.fr.slot d
      rw [hg] at hs
      have hs : a.tmps.getD d undef = if e = true then y.den β else undef := hs
      have hst := (G.fr.star d j b e y hg).1
      have key : j = t → e = eff b c := fun hj => by
        obtain ⟨e0, c0, ha, he⟩ := hst
        rw [hj, ht] at ha
        injection ha with ha; injection ha with h1 h2
        subst h1; subst h2
        simpa using he
      have hlim := G.fr.limg d j b e y hg
      split at h
      · rename_i hj
        obtain ⟨F', h, h1, h2⟩ := Tr.putK_spec _ _ _ _ h
        have he := key (Nat.eq_of_beq_eq_true hj)
        refine free_spec (G.tell h1 h2 (show _ = _ by rw [hs, he]; rfl) (fun z e => by injection e with e; subst e; exact hlim) (fun _ _ _ _ e => by cases e)) (by rw [h2 t (Ne.symm hdt)]; exact ht) h
      · rename_i hj
        obtain ⟨F', h, h1, h2⟩ := Tr.putK_spec _ _ _ _ h
        have he := key (Nat.eq_of_beq_eq_true hj)
        refine free_spec (G.tell h1 h2 (show _ = _ by rw [hs, he]; rfl) (fun z e => by injection e with e; subst e; exact hlim) (fun _ _ _ _ e => by cases e)) (by rw [h2 t (Ne.symm hdt)]; exact ht) h
      · rename_i hj hn1 hn2
        obtain ⟨F', h, h1, h2⟩ := Tr.putK_spec _ _ _ _ h
        have he := key (Nat.eq_of_beq_eq_true hj)
        have hf : e = false := by
          rw [he]
          exact eff_ne (fun e1 e2 => hn1 e1 e2) (fun e1 e2 => hn2 e1 e2)
        refine free_spec (G.tell h1 h2 (show _ = _ by rw [hs, hf]; rfl) (fun z e => by injection e with e; subst e; trivial) (fun _ _ _ _ e => by cases e)) (by rw [h2 t (Ne.symm hdt)]; exact ht) h
      · obtain ⟨F', h, h1, h2⟩ := Tr.putK_spec _ _ _ _ h
        exact free_spec (G.tell h1 h2 trivial (fun z e => by cases e) (fun _ _ _ _ e => by cases e)) (by rw [h2 t (Ne.symm hdt)]; exact ht) h
    · rename_i hne
      exact free_spec (G.skip fun j b e y e' => hne j b e y e') ht h

theorem opsOk_cons {o : Oper} {r : List Oper} (h : opsOk n (o :: r) = true) : (∀ t, o.dst = some t → t < n) ∧ opsOk n r = true := by
  unfold opsOk at h ⊢
  rw [List.all_cons, Bool.and_eq_true] at h
  refine ⟨fun t ht => ?_, h.2⟩
  have := h.1
  rw [ht] at this
  simpa using this
/-- A guarded operation: what its slot is told to hold. -/
theorem guarded_put (G : Good τ L w0 M β0 m0 n β F gs H E a w) {d t : Nat} {e b : Bool} {up : Gd} {y : PV} {v : Value} {k : Tr → Prop} (hd : d < n) (hk : keyOk (some d) gs = true) (htd : Nat.beq t d = false)
    (ht : ∃ e0 c, (F.get t).ask = some (e0, c) ∧ e = (e0 && eff b c))
    (hl : y.lim H.length) (hv : v = if e = true then y.den β else undef) (h : mkSV (.yes t b e up) y fun x => putDst (some d) x F k) : ∃ F', k F' ∧ Good τ L w0 M β0 m0 n β F' ((d, t) :: gs) H E (a.put (some d) v) w := by
  obtain ⟨F', hk', h1, h2⟩ := Tr.putK_spec _ _ _ _ h
  refine ⟨F', hk', G.fr.put hd (keyOk_spec hk) h1 h2 hv (fun y e => by cases e) ((d, t) :: gs) ⟨fun u j hu => keyOk_spec hk u j hu, G.fr.ord⟩ (fun p hp => List.mem_cons_of_mem _ hp) fun j b' e' y' he => ?_, G.ok, G.fix, G.mle, G.anc, G.kp⟩
  injection he with e1 e2 e3 e4
  subst e1; subst e2; subst e3; subst e4
  exact ⟨hl, (fun e => by rw [e, Nat.beq_refl] at htd; cases htd), ht, List.mem_cons_self⟩
theorem wanted_eff {o : Oper} {all : Array Oper} {tmps : Array Value} {j : Nat} {b e0 c : Bool} (hg : o.guard = some (j, b)) (hy : yielded all tmps j = if e0 = true then some c else none) :
    Region.wanted o (yielded all tmps) = (e0 && eff b c) := by
  cases e0 <;> cases b <;> cases c <;> simp [Region.wanted, hg, hy, eff]
/-- What is known of a guard's slot. -/
theorem gdOk_of {t : Nat} {c b : Bool} (hc : F.get t = .n (.v (.bool c))) : GdOk F (.yes t b (eff b c) .no) ∧ (F.get t).ask = some (true, c) :=
  ⟨⟨⟨true, c, by rw [hc]; rfl, by simp⟩, trivial⟩, by rw [hc]; rfl⟩

theorem wanted_no {o : Oper} {f : Nat → Option Bool} (h : o.guard = none) : Region.wanted o f = true := by simp [Region.wanted, h]
theorem eff_same {b c : Bool} (h : eff b c = true) : c = b := by cases b <;> cases c <;> first | rfl | cases h
theorem eff_other {b c : Bool} (h : eff b c = false) : c = !b := by cases b <;> cases c <;> first | rfl | cases h
theorem wanted_at (G : Good τ L w0 M β0 m0 n β F gs H E a w) {all : Array Oper} {o : Oper} {j t : Nat} {b c : Bool} (hg : o.guard = some (j, b)) (ht : (all[j]?).bind (·.dst) = some t) (hs : F.get t = .n (.v (.bool c))) :
    Region.wanted o (yielded all a.tmps) = eff b c := by
  have := wanted_eff hg (guard_val G ht (e0 := true) (c := c) (by rw [hs]; rfl))
  simpa using this
theorem wpOps_spec (hτ : TabOk P τ) {all : Array Oper} {k : Tr → List Ck → List Fact → Prop} {Q : Exit → Act → World → Prop} (hQ : ∀ a w, After τ L w0 M β0 m0 n [] k a w → Q .normal a w) :
    ∀ {l : List Oper} {gs : List (Nat × Nat)} {kn : List Nat} {β : Nat → Nat} {F : Tr} {H : List Ck} {E : List Fact} {a : Act} {w : World}, opsOk n l = true → Good τ L w0 M β0 m0 n β F gs H E a w → wpOps P τ L false all l gs kn F H E k → wpList P all Q l a w
  | [], gs, kn, β, F, H, E, a, w, _, G, h => by
    obtain ⟨F', hk, G'⟩ := wipe_spec G h
    exact hQ a w ⟨β, F', H, E, hk, G'⟩
  | o :: r, gs, kn, β, F, H, E, a, w, ho, G, h => by
    obtain ⟨hd, ho'⟩ := opsOk_cons ho
    unfold wpOps at h
    split at h
    · exact h.elim
    · rename_i hkey
      have done : ∀ {gs' : List (Nat × Nat)} {kn' : List Nat} {F1 : Tr}, Good τ L w0 M β0 m0 n β F1 gs' H E a w → keyOk o.dst gs' = true →
          (wpOp P τ L false o .no F1 H E fun F' H' E' => wpOps P τ L false all r gs' kn' F' H' E' k) → o.wp P a w (wpList P all Q r) Q := fun G h1 h => by
        simp only [wpOp] at h
        obtain ⟨H', h, G'⟩ := pins_spec G h
        exact Oper.wp_mono (fun a' w' ⟨β', F', H'', E', hk, G''⟩ => wpOps_spec hτ hQ ho' G'' hk) (opEff_spec hτ G' hd h1 h)
      have left : ∀ {gs' : List (Nat × Nat)} {kn' : List Nat} {F1 : Tr}, Good τ L w0 M β0 m0 n β F1 gs' H E a w → keyOk o.dst gs' = true →
          (putDst o.dst (.n (.v undef)) F1 fun F' => wpOps P τ L false all r gs' kn' F' H E k) → wpList P all Q r (a.put o.dst undef) w := fun G h1 h => by
        obtain ⟨F', hk, G'⟩ := G.put hd h1 h (v := undef) rfl (fun z e => by injection e with e; subst e; trivial) (fun _ _ _ _ e => by cases e)
        exact wpOps_spec hτ hQ ho' G' hk
      unfold wpList
      split at h
      · rename_i hg
        rw [if_pos (wanted_no hg)]
        exact .inl (done G hkey h)
      · rename_i j b hg
        split at h
        · exact h.elim
        · rename_i t ht
          split at h
          · rw [Tr.getK_iff] at h
            split at h
            · rename_i c hc
              have hw := wanted_at G hg ht hc
              split at h
              · rename_i he
                rw [if_pos (hw.trans he)]
                exact .inl (done G hkey h)
              · rename_i he
                rw [if_neg (by rw [hw, he]; simp)]
                exact left G hkey h
            · exact h.elim
          · split at h
            · rw [Tr.getK_iff] at h
              split at h
              · rename_i c hc
                have hw := wanted_at G hg ht hc
                cases he : eff b c with
                | true =>
                  rw [if_pos (hw.trans he)]
                  obtain ⟨F1, h1, G1⟩ := free_spec G (by rw [hc, eff_same he]) (h.yes he)
                  exact .inl (done G1 (by cases o.dst <;> rfl) h1)
                | false =>
                  rw [if_neg (by rw [hw, he]; simp)]
                  obtain ⟨F1, h1, G1⟩ := free_spec G (by rw [hc, eff_other he]) (h.no he)
                  exact left G1 (by cases o.dst <;> rfl) h1
              · exact h.elim
            · split at h
              · exact h.elim
              · rename_i d hdst
                split at h
                · exact h.elim
                · rename_i htd
                  rw [Tr.getK_iff] at h
                  have main : ∀ {e0 c : Bool} {up : Gd}, (F.get t).ask = some (e0, c) → GdOk F (.yes t b (e0 && eff b c) up) → (wpOp P τ L false o (.yes t b (e0 && eff b c) up) F H E fun F' H' E' => wpOps P τ L false all r ((d, t) :: gs) kn F' H' E' k) →
                      (if Region.wanted o (yielded all a.tmps) = true then o.wp P a w (wpList P all Q r) Q ∨ o.asks P a w ∧ LetsOut Q else wpList P all Q r (a.put o.dst undef) w) := by
                    intro e0 c up hask hgd h
                    simp only [wpOp] at h
                    rw [hdst] at h hkey
                    obtain ⟨y, h, hl, hq⟩ := opVal_spec hτ G.fr (gd := .yes t b (e0 && eff b c) up) hgd G.ok h
                    have hw := wanted_eff hg (guard_val G ht hask)
                    by_cases hcb : (e0 && eff b c) = true
                    · rw [if_pos (hw.trans hcb)]
                      refine .inl ?_
                      refine wp_of_quiet G.ok (fun _ => hq hcb) fun w' hw' => ?_
                      obtain ⟨F', hk, G'⟩ := guarded_put (G.world hw') (v := y.den β) (hd d hdst) hkey htd ⟨e0, c, hask, rfl⟩ hl (by rw [if_pos hcb]) h
                      rw [hdst]
                      exact wpOps_spec hτ hQ ho' G' hk
                    · rw [if_neg (by rw [hw]; exact hcb)]
                      obtain ⟨F', hk, G'⟩ := guarded_put G (v := undef) (hd d hdst) hkey htd ⟨e0, c, hask, rfl⟩ hl (by rw [if_neg hcb]) h
                      rw [hdst]
                      exact wpOps_spec hτ hQ ho' G' hk
                  split at h
                  · rename_i c hc
                    have hg1 := gdOk_of (b := b) hc
                    exact main (e0 := true) hg1.2 hg1.1 h
                  · rename_i j' b' e0 c hc
                    obtain ⟨up, h, hup⟩ := upK_spec 4 h
                    have hask : (F.get t).ask = some (e0, c) := by rw [hc]; rfl
                    exact main hask ⟨⟨e0, c, hask, rfl⟩, hup⟩ h
                  · exact h.elim

theorem wpOps_quiet (hτ : TabOk P τ) {all : Array Oper} {k : Tr → List Ck → List Fact → Prop} {w1 : World} (h1 : Kp (fun _ => False) w w1) :
    ∀ {l : List Oper} {gs : List (Nat × Nat)} {kn : List Nat} {F : Tr} {a : Act}, kn = [] → opsOk n l = true → Good τ L w0 M β0 m0 n β F gs H E a w1 → wpOps P τ L true all l gs kn F H E k →
      wpQuiet P all (fun w' => Kp (fun _ => False) w1 w') (fun a' => ∃ F', k F' H E ∧ Good τ L w0 M β0 m0 n β F' [] H E a' w1) l a
  | [], gs, kn, F, a, hkn, _, G, h => by
    obtain ⟨F', hk, G'⟩ := wipe_spec G h
    exact ⟨F', hk, G'⟩
  | o :: r, gs, kn, F, a, hkn, ho, G, h => by
    subst hkn
    obtain ⟨hd, ho'⟩ := opsOk_cons ho
    unfold wpOps at h
    split at h
    · exact h.elim
    · rename_i hkey
      unfold wpQuiet
      split at h
      · rename_i hg
        rw [if_pos (wanted_no hg)]
        simp only [wpOp, mkSV] at h
        obtain ⟨y, h, hl, hq⟩ := opVal_spec hτ G.fr (gd := .no) trivial G.ok h
        refine ⟨y.den β, fun w' hw' => hq trivial _ (fun _ _ a b => a.trans b) w' hw' (G.ok.kp hw'), ?_⟩
        obtain ⟨F', hk, G'⟩ := G.put hd hkey h (v := y.den β) rfl (fun z e => by injection e with e; subst e; exact hl) (fun _ _ _ _ e => by cases e)
        exact wpOps_quiet hτ h1 rfl ho' G' hk
      · rename_i j b hg
        split at h
        · exact h.elim
        · rename_i t ht
          simp only [inN] at h
          split at h
          · exact h.elim
          · rename_i d hdst
            split at h
            · exact h.elim
            · rename_i htd
              rw [Tr.getK_iff] at h
              have main : ∀ {e0 c : Bool} {up : Gd}, (F.get t).ask = some (e0, c) → GdOk F (.yes t b (e0 && eff b c) up) → (wpOp P τ L true o (.yes t b (e0 && eff b c) up) F H E fun F' H' E' => wpOps P τ L true all r ((d, t) :: gs) [] F' H' E' k) →
                  (if Region.wanted o (yielded all a.tmps) = true then o.quiet P a (fun w' => Kp (fun _ => False) w1 w') (wpQuiet P all (fun w' => Kp (fun _ => False) w1 w') (fun a' => ∃ F', k F' H E ∧ Good τ L w0 M β0 m0 n β F' [] H E a' w1) r)
                    else wpQuiet P all (fun w' => Kp (fun _ => False) w1 w') (fun a' => ∃ F', k F' H E ∧ Good τ L w0 M β0 m0 n β F' [] H E a' w1) r (a.put o.dst undef)) := by
                intro e0 c up hask hgd h
                simp only [wpOp] at h
                rw [hdst] at h hkey
                obtain ⟨y, h, hl, hq⟩ := opVal_spec hτ G.fr (gd := .yes t b (e0 && eff b c) up) hgd G.ok h
                have hw := wanted_eff hg (guard_val G ht hask)
                by_cases hcb : (e0 && eff b c) = true
                · rw [if_pos (hw.trans hcb)]
                  refine ⟨y.den β, fun w' hw' => hq hcb _ (fun _ _ a b => a.trans b) w' hw' (G.ok.kp hw'), ?_⟩
                  obtain ⟨F', hk, G'⟩ := guarded_put G (v := y.den β) (hd d hdst) hkey htd ⟨e0, c, hask, rfl⟩ hl (by rw [if_pos hcb]) h
                  rw [hdst]
                  exact wpOps_quiet hτ h1 rfl ho' G' hk
                · rw [if_neg (by rw [hw]; exact hcb)]
                  obtain ⟨F', hk, G'⟩ := guarded_put G (v := undef) (hd d hdst) hkey htd ⟨e0, c, hask, rfl⟩ hl (by rw [if_neg hcb]) h
                  rw [hdst]
                  exact wpOps_quiet hτ h1 rfl ho' G' hk
              split at h
              · rename_i c hc
                have hg1 := gdOk_of (b := b) hc
                exact main (e0 := true) hg1.2 hg1.1 h
              · rename_i j' b' e0 c hc
                obtain ⟨up, h, hup⟩ := upK_spec 4 h
                have hask : (F.get t).ask = some (e0, c) := by rw [hc]; rfl
                exact main hask ⟨⟨e0, c, hask, rfl⟩, hup⟩ h
              · exact h.elim
end
end Go.Q
