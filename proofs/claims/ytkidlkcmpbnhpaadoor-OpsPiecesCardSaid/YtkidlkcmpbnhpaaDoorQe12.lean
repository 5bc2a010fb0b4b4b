/-
  The engine is sound: code, functions. Conditions: as stated at each.
-/
import Derived.Test.YtkidlkcmpbnhpaaDoorQe11
import Derived.Deep.LoopGhost
namespace Go.Q
open Go
variable {P : Program} {τ : Tab} {L : Nat → Prop}
section
variable {w0 : World} {M : Nat → Prop} {β0 : Nat → Nat} {m0 n : Nat} {β : Nat → Nat} {F : Tr} {gs : List (Nat × Nat)} {H : List Ck} {E : List Fact} {a : Act} {w : World}

theorem Tr.full_get : ∀ (d t : Nat), (Tr.full d).get t = .u
  | 0, _ => rfl
  | d + 1, 0 => rfl
  | d + 1, t + 1 => by
    simp only [Tr.full, Tr.get]
    split <;> exact Tr.full_get d _
theorem putsK_spec {k : Tr → Prop} : ∀ {l : List (Nat × SV)} {T : Tr}, Tr.putsK l T k → ∃ T', k T' ∧ ∀ t, T'.get t = T.get t ∨ (t, T'.get t) ∈ l
  | [], T, h => ⟨T, h, fun _ => .inl rfl⟩
  | (u, x) :: r, T, h => by
    obtain ⟨T1, h, h1, h2⟩ := Tr.putK_spec _ _ _ _ h
    obtain ⟨T', hk, h3⟩ := putsK_spec h
    refine ⟨T', hk, fun t => ?_⟩
    rcases h3 t with e | e
    · by_cases ht : t = u
      · subst ht; rw [h1] at e; rw [e]; exact .inr List.mem_cons_self
      · rw [h2 t ht] at e; exact .inl e
    · exact .inr (List.mem_cons_of_mem _ e)
theorem live_spec {m : Nat} : ∀ {l : List (Nat × SV)}, live m F l → ∀ t x, (t, x) ∈ l → F.get t = x ∧ svLim m x
  | [], _, _, _, h => by cases h
  | (u, y) :: r, ⟨h1, h2⟩, t, x, h => by
    cases h with
    | head => exact h1
    | tail _ h => exact live_spec h2 t x h
theorem pre_spec : ∀ {h H : List Ck}, pre h H → ∀ (i : Nat) (c : Ck), h[i]? = some c → c.live = true → H[i]? = some c
  | [], _, _ => fun i c e _ => by simp at e
  | c :: r, [], h => fun i c' e hl => by
    cases i with
    | zero => simp at e; subst e; rw [h.1] at hl; cases hl
    | succ i => have := pre_spec h.2 i c' (by simpa using e) hl; simp at this
  | c :: r, d :: s, ⟨h1, h2⟩ => fun i c' e hl => by
    cases i with
    | zero =>
      simp at e; subst e
      rcases h1 with h1 | h1
      · simp [h1]
      · rw [h1] at hl; cases hl
    | succ i => simpa using pre_spec h2 i c' (by simpa using e) hl
theorem Good.down1 (G : Good τ L w0 M β0 m0 n β F [] H E a w) {l : List (Nat × SV)} {h : List Ck} {E' : List Fact} (hl : live h.length F l) (hpre : pre h H) (hE : ∀ L w, Holds E L w → Holds E' L w) (hm : m0 ≤ h.length) {d : Nat} {k : Tr → Prop} (hp : Tr.putsK l (Tr.full d) k) :
    ∃ F', k F' ∧ Good τ L w0 M β0 m0 n β F' [] h E' a w := by
  obtain ⟨F', hk, hF'⟩ := putsK_spec hp
  have hget := pre_spec hpre
  have cases_ : ∀ t, F'.get t = .u ∨ (F'.get t = F.get t ∧ svLim h.length (F'.get t)) := fun t => by
    rcases hF' t with e | e
    · rw [Tr.full_get] at e; exact .inl e
    · obtain ⟨e1, e2⟩ := live_spec hl _ _ e; exact .inr ⟨e1.symm, e2⟩
  refine ⟨F', hk, ⟨G.fr.defers, G.fr.size, fun t => ?_, fun t y e => ?_, fun t j c b y e => ?_, fun t j c b y e => ?_, trivial⟩, ?_, G.fix, hm, fun i c h1 h2 => G.anc i c (hget i c h1 h2) h2, G.kp⟩
  · rcases cases_ t with e | ⟨e, _⟩ <;> rw [e]
    · trivial
    · exact G.fr.slot t
  · rcases cases_ t with e' | ⟨_, e'⟩
    · rw [e'] at e; cases e
    · rw [e] at e'
      cases y with
      | v x => trivial
      | p i o => exact e'
  · rcases cases_ t with e' | ⟨_, e'⟩
    · rw [e'] at e; cases e
    · rw [e] at e'; exact e'.elim
  · rcases cases_ t with e' | ⟨_, e'⟩
    · rw [e'] at e; cases e
    · rw [e] at e'; exact e'.elim
  · have hno : ∀ (b : Nat) (c : Ck), c.no = some b → c.live = true := fun b c e => by cases c <;> first | rfl | cases e
    exact ⟨fun i j ci cj hi hj li lj e => G.ok.inj i j ci cj (hget i ci hi li) (hget j cj hj lj) li lj e, fun i c hc hv => G.ok.own i c (hget i c hc hv) hv, fun i b c hc hb => G.ok.no i b c (hget i c hc (hno b c hb)) hb, fun i ty cs x hc => G.ok.len i ty cs x (hget i _ hc rfl), G.ok.lt,
      fun i c hi hv => G.ok.sep i c (hget i c hi hv) hv, hE _ _ (G.ok.hold.loc fun b hb => by
        rcases hb with hb | ⟨i, c, hi, hv, hb⟩
        · exact .inl (.inl hb)
        · exact .inl (.inr ⟨i, c, hget i c hi hv, hv, hb⟩))⟩

theorem picked_spec : ∀ {is : List Nat} {cs : List Ck}, picked H is cs → is.length = cs.length ∧ ∀ (j : Nat) (c : Ck), cs[j]? = some c → c.live = true → ∃ i, is[j]? = some i ∧ H[i]? = some c
  | [], [], _ => ⟨rfl, fun j c e => by simp at e⟩
  | i :: is, c :: cs, ⟨h1, h2⟩ => by
    obtain ⟨a1, a2⟩ := picked_spec h2
    refine ⟨by simpa using a1, fun j c' e hl => ?_⟩
    cases j with
    | zero =>
      simp at e; subst e
      rcases h1 with h1 | h1
      · exact ⟨i, rfl, h1⟩
      · rw [h1] at hl; cases hl
    | succ j => simpa using a2 j c' (by simpa using e) hl
  | [], _ :: _, h => h.elim
  | _ :: _, [], h => h.elim
def moved (β : Nat → Nat) (p : Nat) (is : List Nat) (i : Nat) : Nat := if i < p then β i else β (is.getD (i - p) 0)
theorem killAll_length : ∀ {ks : List Nat} {l : List Ck}, (killAll l ks).length = l.length
  | [], _ => rfl
  | k :: ks, l => by rw [killAll, killAll_length]; simp
theorem killAll_get : ∀ {ks : List Nat} {l : List Ck} {i : Nat} {c : Ck}, (killAll l ks)[i]? = some c → c.live = true → i ∉ ks ∧ l[i]? = some c
  | [], _, _, _, h, _ => ⟨by simp, h⟩
  | k :: ks, l, i, c, h, hv => by
    obtain ⟨h1, h2⟩ := killAll_get (ks := ks) h hv
    by_cases e : k = i
    · subst e
      rw [List.getElem?_set, if_pos rfl] at h2
      split at h2
      · injection h2 with h2; subst h2; cases hv
      · cases h2
    · rw [List.getElem?_set_ne e] at h2
      refine ⟨?_, h2⟩
      intro hm
      rcases List.mem_cons.1 hm with h3 | h3
      · exact e h3.symm
      · exact h1 h3
theorem Good.down2 (G : Good τ L w0 M β0 m0 n β F [] H E a w) {l : List (Nat × SV)} {E' : List Fact} {ks : List Nat} {p : Nat} {is : List Nat} {cs : List Ck} (hmp : m0 ≤ p) (hp0 : p ≤ H.length) (hpk : picked H is cs) (hge : ∀ i, i ∈ is → p ≤ i ∨ i ∈ ks) (hnd : is.Nodup) (hl : live p F l)
    (hE : ∀ L w, Holds E L w → Holds E' L w) {d : Nat} {k : Tr → Prop} (hp : Tr.putsK l (Tr.full d) k) :
    ∃ F', k F' ∧ Good τ L w0 M β0 m0 n (moved β p is) F' [] (killAll (H.take p) ks ++ cs) E' a w := by
  obtain ⟨F', hk, hF'⟩ := putsK_spec hp
  obtain ⟨hlen, hget⟩ := picked_spec hpk
  have hlt : ∀ i, i < p → moved β p is i = β i := fun i hi => by unfold moved; rw [if_pos hi]
  have hK : (killAll (H.take p) ks).length = p := by rw [killAll_length]; simp [Nat.min_eq_left hp0]
  have hL : (killAll (H.take p) ks ++ cs).length = p + cs.length := by rw [List.length_append, hK]
  -- each new number is an old one
  have old : ∀ (i : Nat) (c : Ck), (killAll (H.take p) ks ++ cs)[i]? = some c → c.live = true → ∃ i', moved β p is i = β i' ∧ H[i']? = some c ∧ (i < p ∧ i' = i ∧ i ∉ ks ∨ p ≤ i ∧ is[i - p]? = some i' ∧ (p ≤ i' ∨ i' ∈ ks)) := fun i c hi hv => by
    rcases Nat.lt_or_ge i p with h | h
    · rw [List.getElem?_append_left (by rw [hK]; exact h)] at hi
      obtain ⟨h1, h2⟩ := killAll_get hi hv
      rw [List.getElem?_take_of_lt h] at h2
      exact ⟨i, hlt i h, h2, .inl ⟨h, rfl, h1⟩⟩
    · rw [List.getElem?_append_right (by rw [hK]; exact h), hK] at hi
      obtain ⟨i', h1, h2⟩ := hget (i - p) c hi hv
      refine ⟨i', ?_, h2, .inr ⟨h, h1, hge i' (List.mem_of_getElem? h1)⟩⟩
      unfold moved; rw [if_neg (by omega), List.getD_eq_getElem?_getD, h1]; rfl
  have cases_ : ∀ t, F'.get t = .u ∨ (F'.get t = F.get t ∧ svLim p (F'.get t)) := fun t => by
    rcases hF' t with e | e
    · rw [Tr.full_get] at e; exact .inl e
    · obtain ⟨e1, e2⟩ := live_spec hl _ _ e; exact .inr ⟨e1.symm, e2⟩
  refine ⟨F', hk, ⟨G.fr.defers, G.fr.size, fun t => ?_, fun t y e => ?_, fun t j c b y e => ?_, fun t j c b y e => ?_, trivial⟩, ?_, fun i hi => (hlt i (by omega)).trans (G.fix i hi), by omega, fun i c h1 h2 => ?_, G.kp⟩
  · rcases cases_ t with e | ⟨e, hs⟩
    · rw [e]; trivial
    · have := G.fr.slot t
      rw [e] at hs ⊢
      generalize F.get t = s at this hs
      cases s with
      | u => trivial
      | g j b e y => exact hs.elim
      | n y =>
        cases y with
        | v x => exact this
        | p i o =>
          have this : a.tmps.getD t undef = .pointer (some ⟨β i, o, none⟩) := this
          show a.tmps.getD t undef = .pointer (some ⟨moved β p is i, o, none⟩)
          rw [hlt i hs]; exact this
  · rcases cases_ t with e' | ⟨_, e'⟩
    · rw [e'] at e; cases e
    · rw [e] at e'
      cases y with
      | v x => trivial
      | p i o => exact Nat.lt_of_lt_of_le (show i < p from e') (by omega)
  · rcases cases_ t with e' | ⟨_, e'⟩
    · rw [e'] at e; cases e
    · rw [e] at e'; exact e'.elim
  · rcases cases_ t with e' | ⟨_, e'⟩
    · rw [e'] at e; cases e
    · rw [e] at e'; exact e'.elim
  · have hno : ∀ (b : Nat) (c : Ck), c.no = some b → c.live = true := fun b c e => by cases c <;> first | rfl | cases e
    refine ⟨fun i j ci cj hi hj li lj e => ?_, fun i c hc hv => ?_, fun i b c hc hb => ?_, fun i ty cs' x hc => ?_, G.ok.lt, fun i c hc hv => ?_, hE _ _ (G.ok.hold.loc fun b hb => ?_)⟩
    · obtain ⟨i', h2, h2', h3⟩ := old i ci hi li
      obtain ⟨j', k2, k2', k3⟩ := old j cj hj lj
      rw [h2, k2] at e
      have := G.ok.inj i' j' ci cj h2' k2' li lj e
      subst this
      rcases h3 with ⟨a1, a2, a3⟩ | ⟨a1, a2, a3⟩ <;> rcases k3 with ⟨b1, b2, b3⟩ | ⟨b1, b2, b3⟩
      · omega
      · subst a2
        rcases b3 with b3 | b3
        · omega
        · exact absurd b3 a3
      · subst b2
        rcases a3 with a3 | a3
        · omega
        · exact absurd a3 b3
      · have := (List.getElem?_inj (i := i - p) (by have := (List.getElem?_eq_some_iff.1 a2).1; exact this) hnd).1 (a2.trans b2.symm)
        omega
    · obtain ⟨i', h2, h3, _⟩ := old i c hc hv
      rw [h2]; exact G.ok.own i' c h3 hv
    · obtain ⟨i', h2, h3, _⟩ := old i c hc (hno b c hb)
      rw [h2]; exact G.ok.no i' b c h3 hb
    · obtain ⟨i', h2, h3, _⟩ := old i _ hc rfl
      exact G.ok.len i' ty cs' x h3
    · obtain ⟨i', h2, h3, _⟩ := old i c hc hv
      rw [h2]; exact G.ok.sep i' c h3 hv
    · rcases hb with hb | ⟨i, c, hi, hv, hb⟩
      · exact .inl (.inl hb)
      · obtain ⟨i', h2, h3, _⟩ := old i c hi hv
        exact .inl (.inr ⟨i', c, h3, hv, by rw [← h2]; exact hb⟩)
  · obtain ⟨i', k2, k3, _⟩ := old i c h1 h2
    rw [k2]
    exact G.anc i' c k3 h2
theorem Good.down (G : Good τ L w0 M β0 m0 n β F [] H E a w) {l : List (Nat × SV)} {h : List Ck} {E' : List Fact} (hd : Down m0 F H E l h E') (hm : m0 ≤ h.length) {d : Nat} {k : Tr → Prop} (hp : Tr.putsK l (Tr.full d) k) :
    ∃ β' F', k F' ∧ Good τ L w0 M β0 m0 n β' F' [] h E' a w := by
  rcases hd with ⟨hl, hpre, hE⟩ | ⟨ks, p, is, cs, h1, h2, rfl, h4, h5, h6, h7, h8⟩
  · obtain ⟨F', hk, G'⟩ := G.down1 hl hpre hE hm hp
    exact ⟨β, F', hk, G'⟩
  · obtain ⟨F', hk, G'⟩ := G.down2 h1 h2 h4 h5 h6 h7 h8 hp
    exact ⟨_, F', hk, G'⟩

theorem wpQuiet_mono {P : Program} {ops : Array Oper} {C : World → Prop} {Q Q' : Act → Prop} (h : ∀ a, Q a → Q' a) : ∀ {l : List Oper} {a : Act}, wpQuiet P ops C Q l a → wpQuiet P ops C Q' l a
  | [], _, hq => h _ hq
  | o :: r, a, hq => by
    unfold wpQuiet at hq ⊢
    split
    · rename_i hw; rw [if_pos hw] at hq; exact Oper.quiet_mono (fun _ => wpQuiet_mono h) hq
    · rename_i hw; rw [if_neg hw] at hq; exact wpQuiet_mono h hq
abbrev Fin (τ : Tab) (L : Nat → Prop) (w0 : World) (M : Nat → Prop) (β0 : Nat → Nat) (m0 n : Nat) (Q : Exit → Tr → List Ck → List Fact → Prop) (e : Exit) (a : Act) (w : World) : Prop :=
  ∃ β F H E, Q e F H E ∧ Good τ L w0 M β0 m0 n β F [] H E a w

theorem wp_sound (hτ : TabOk P τ) (hm : P.follows .mixedOrders = true) (d : Nat) : ∀ (c : Code) {β : Nat → Nat} {F : Tr} {H : List Ck} {E : List Fact} {Q : Exit → Tr → List Ck → List Fact → Prop} {a : Act} {w : World},
    codeOk n c = true → Good τ L w0 M β0 m0 n β F [] H E a w → wp P τ L d m0 c F H E Q → c.wp P (Fin τ L w0 M β0 m0 n Q) a w := by
  intro c
  induction c with
  | skip => intro β F H E Q a w _ G h; exact wp_skip ⟨β, F, H, E, h, G⟩
  | label l => intro β F H E Q a w _ G h; exact wp_label ⟨β, F, H, E, h, G⟩
  | exit id => intro β F H E Q a w _ G h; exact wp_exit ⟨β, F, H, E, h, G⟩
  | goto l => intro β F H E Q a w _ G h; exact wp_goto ⟨β, F, H, E, h, G⟩
  | ret => intro β F H E Q a w _ G h; exact wp_ret ⟨β, F, H, E, h, G⟩
  | refuse _ => intro β F H E Q a w _ G h; exact h.elim
  | rangeFunc _ _ _ _ _ _ => intro β F H E Q a w _ G h; exact h.elim
  | region id ops draw =>
    intro β F H E Q a w hc G h
    cases draw with
    | false =>
      refine wp_region_list (wpOps_spec hτ (k := fun F' H' E' => Q .normal F' H' E') ?_ hc G h)
      rintro a w ⟨β, F, H, E, hk, G⟩
      exact ⟨β, F, H, E, hk, G⟩
    | true =>
      have h : DrawNode P τ L ops F H E fun F' H' E' => Q .normal F' H' E' := h
      cases h with
      | mixed N p M hB h hM =>
        refine wp_mono (mixed_sound hτ hm hc hB G h) ?_
        intro e a' w' hh
        cases e with
        | normal => obtain ⟨β, F, H, E, hk, G⟩ := hh; exact ⟨β, F, H, E, hM _ _ _ hk, G⟩
        | _ => exact hh.elim
      | quiet hB h =>
      have hkp : Kp (fun _ => False) w { w with drawn := w.drawn + 1 } := ⟨rfl, rfl, rfl, Nat.le_refl _, fun _ _ _ => rfl⟩
      refine wp_region_quiet (C := fun w' => Kp (fun _ => False) { w with drawn := w.drawn + 1 } w') hm hB (Kp.refl _ _) ?_
      have := wpOps_quiet (P := P) hτ hkp rfl hc (G.world hkp) h
      refine wpQuiet_mono (fun a' ⟨F', hk, G'⟩ w' hw' => ⟨β, F', H, E, hk, G'.world hw'⟩) this
  | seq x y ihx ihy =>
    intro β F H E Q a w hc G h
    simp only [codeOk, Bool.and_eq_true] at hc
    refine wp_seq (wp_mono (ihx hc.1 G h) ?_)
    rintro e a' w' ⟨β', F', H', E', hq, G'⟩
    cases e with
    | normal => exact ihy hc.2 G' hq
    | _ => exact ⟨β', F', H', E', hq, G'⟩
  | cond x p q ihp ihq =>
    intro β F H E Q a w hc G h
    simp only [codeOk, Bool.and_eq_true] at hc
    obtain ⟨y, h, _, he⟩ := useK_spec G.fr (gd := .no) trivial h
    split at h
    · replace h := h.out
      exact wp_cond_split (he trivial) (fun ht => ihp hc.1 G (h.1 ht)) (fun ht => ihq hc.2 G (h.2 ht))
    · exact h.elim
  | block id x ih =>
    intro β F H E Q a w hc G h
    refine wp_block (wp_mono (ih hc G h) ?_)
    rintro e a' w' ⟨β', F', H', E', hq, G'⟩
    cases e with
    | exit i =>
      simp only [Exit.inBlock]
      simp only at hq
      split at hq
      · rename_i hb
        rw [if_pos (Nat.eq_of_beq_eq_true hb)]
        exact ⟨β', F', H', E', hq, G'⟩
      · rename_i hb
        rw [if_neg (fun e => by subst e; rw [Nat.beq_refl] at hb; cases hb)]
        exact ⟨β', F', H', E', hq, G'⟩
    | _ => exact ⟨β', F', H', E', hq, G'⟩
  | scope x ih =>
    intro β F H E Q a w hc G h
    refine wp_scope_straight (wp_mono (ih hc G h) ?_)
    rintro e a' w' ⟨β', F', H', E', hq, G'⟩
    cases e with
    | goto l => exact hq.elim
    | _ => exact ⟨β', F', H', E', hq, G'⟩
  | loop x ih =>
    intro β F H E Q a w hc G h
    have h : LoopNode d m0 (wp P τ L d m0 x) F H E Q := h
    replace h := h.out
    obtain ⟨α, l, hh, E', I, μ, x0, hI, hd, hlen, hround⟩ := h
    have hm0 : ∀ x, m0 ≤ (hh x).length := hlen
    refine wp_loop_ghost (fun k a w => ∃ x, μ x = k ∧ I x ∧ ∃ β F H E, Good τ L w0 M β0 m0 n β F [] H E a w ∧ Down m0 F H E (l x) (hh x) (E' x)) (μ x0) ⟨x0, rfl, hI, β, F, H, E, G, hd⟩ ?_
    rintro k a' w' ⟨x, rfl, hI, β', F', H', E'', G', hd'⟩
    obtain ⟨β3, F3, h3, G3⟩ := G'.down hd' (hm0 x) (hround x hI)
    refine wp_mono (ih hc G3 h3) ?_
    rintro e a2 w2 ⟨β2, F2, H2, E2, hq, G2⟩
    cases e with
    | normal =>
      obtain ⟨x', hlt, hI', hd2⟩ := hq
      exact ⟨μ x', hlt, x', rfl, hI', β2, F2, H2, E2, G2, hd2⟩
    | _ => exact ⟨β2, F2, H2, E2, hq, G2⟩

def resF (tmps : Array Value) : ResultVar → Sem Value
  | .tmp t => pure (tmps.getD t undef)
  | .cell b t => do loadVar t (← asAddr (tmps.getD b undef))
theorem results_eq (fn : Func) (tmps : Array Value) : results fn tmps = (do let vs ← fn.results.mapM (resF tmps); pure (if h : vs.size = 1 then vs[0] else .tuple vs)) := by
  unfold results
  congr 1
theorem resK_spec (hτ : TabOk P τ) (G : Good τ L w0 M β0 m0 n β F [] H E a w) : ∀ {rs : List ResultVar} {k : List PV → Prop}, resK τ F H rs k →
    ∃ ys, k ys ∧ ys.length = rs.length ∧ (rs.mapM (resF a.tmps)).run P w = .ok (ys.map (PV.den β)) w
  | [], k, h => ⟨[], h, rfl, rfl⟩
  | .tmp t :: r, k, h => by
    unfold resK at h
    rw [Tr.getK_iff] at h
    have hs := G.fr.slot t
    generalize F.get t = s at h hs
    cases s with
    | n y =>
      obtain ⟨ys, hk, hl, hr⟩ := resK_spec hτ G h
      have hs : a.tmps.getD t undef = y.den β := hs
      exact ⟨y :: ys, hk, by simp [hl], by simp only [List.mapM_cons, resF, Sem.run_bind, Sem.run_pure, Result.andThen_ok, hr, hs, List.map_cons]⟩
    | g j c b y => exact h.elim
    | u => exact h.elim
  | .cell t T :: r, k, h => by
    unfold resK at h
    rw [Tr.getK_iff] at h
    have hs := G.fr.slot t
    generalize F.get t = s at h hs
    cases s with
    | n y =>
      have hs : a.tmps.getD t undef = y.den β := hs
      simp only [sel] at h
      split at h
      · exact h.elim
      · rename_i hT
        have hT : (τ.ti T).kind ≠ .other := fun e => hT e
        obtain ⟨c, hc, h2⟩ := getH_spec h
        clear h
        split at h2
        · obtain ⟨v, h3, hv⟩ := load_box (P := P) hτ G.ok hT hc h2
          obtain ⟨ys, hk, hl, hr⟩ := resK_spec hτ G h3
          refine ⟨.v v :: ys, hk, by simp [hl], ?_⟩
          obtain ⟨ad, ha, hv'⟩ : ∃ ad, (asAddr (a.tmps.getD t undef)).run P w = .ok ad w ∧ (loadVar T ad).run P w = .ok v w := ⟨_, by rw [hs]; rfl, hv w G.ok⟩
          simp only [List.mapM_cons, resF, Sem.run_bind, Sem.run_pure, Result.andThen_ok, ha, hv', hr, List.map_cons, PV.den]
        · exact h2.elim
      · exact h.elim
    | g j c b y => exact h.elim
    | u => exact h.elim
end

def slots : List PV → Nat → List (Nat × SV)
  | [], _ => []
  | y :: r, i => (i, .n y) :: slots r (i + 1)
theorem slots_mem {t : Nat} {x : SV} : ∀ {l : List PV} {i : Nat}, (t, x) ∈ slots l i → ∃ y, x = .n y ∧ i ≤ t ∧ l[t - i]? = some y
  | [], _, h => by cases h
  | y :: r, i, h => by
    cases h with
    | head => exact ⟨y, rfl, Nat.le_refl _, by simp⟩
    | tail _ h =>
      obtain ⟨z, e, h1, h2⟩ := slots_mem h
      exact ⟨z, e, by omega, by rw [show t - i = (t - (i + 1)) + 1 by omega]; simpa using h2⟩
def Start (P : Program) (τ : Tab) (L : Nat → Prop) (d : Nat) (fn : Func) (args : List PV) (H : List Ck) (E : List Fact) (R : List PV → List Ck → List Fact → Prop) : Prop :=
  match fn.body with
  | some c => Tr.putsK (slots args 0) (Tr.full d) fun F => wp P τ L d H.length c F H E (Out τ fn.results R)
  | none => False
def funcOk (fn : Func) (m : Nat) : Bool := match fn.body with | some c => codeOk fn.ntmps c && decide (m ≤ fn.ntmps) | none => false
theorem retOf_eq {β : Nat → Nat} (ys : List PV) : (if h : (ys.map (PV.den β)).toArray.size = 1 then (ys.map (PV.den β)).toArray[0] else .tuple (ys.map (PV.den β)).toArray) = retOf β ys := by
  match ys with
  | [] => simp [retOf]
  | [y] => simp [retOf]
  | y :: z :: r => simp [retOf]
/-- **A function that the engine walks does what the walk says.** -/
theorem fn_sound (hτ : TabOk P τ) (hm : P.follows .mixedOrders = true) {d : Nat} {f : FuncId} {fn : Func} (hf : P.funcs[f]? = some fn) {args : List PV} {H : List Ck} {E : List Fact} {R : List PV → List Ck → List Fact → Prop}
    (hc : funcOk fn args.length = true) (hlim : ∀ y, y ∈ args → y.lim H.length) (h : Start P τ L d fn args H E R) {β : Nat → Nat} {w : World} (hok : Ok τ L β H E w) :
    Calls P f (args.map (PV.den β)).toArray w fun e w' => ∃ ys H' E' β', R ys H' E' ∧ e = .returned (retOf β' ys) ∧ (∀ i, i < H.length → β' i = β i) ∧ H.length ≤ H'.length ∧ Ok τ L β' H' E' w' ∧ Kp (loc β H) w w' ∧
      (∀ (i : Nat) (c : Ck), H'[i]? = some c → c.live = true → w.heap.size ≤ β' i ∨ loc β H (β' i)) := by
  unfold Start at h
  unfold funcOk at hc
  cases hb : fn.body with
  | none => rw [hb] at h; exact h.elim
  | some c =>
    rw [hb] at h hc
    simp only [Bool.and_eq_true, decide_eq_true_eq] at hc
    obtain ⟨F, h, hF⟩ := putsK_spec h
    have hFt : ∀ t, F.get t = .u ∨ ∃ y, F.get t = .n y ∧ args[t]? = some y := fun t => by
      rcases hF t with e | e
      · rw [Tr.full_get] at e; exact .inl e
      · obtain ⟨y, e1, _, e2⟩ := slots_mem e
        exact .inr ⟨y, e1, by simpa using e2⟩
    have G : Good τ L w (loc β H) β H.length fn.ntmps β F [] H E { tmps := (args.map (PV.den β)).toArray ++ Array.replicate (fn.ntmps - (args.map (PV.den β)).toArray.size) undef, defers := [] } w := by
      refine ⟨⟨rfl, by simp; omega, fun t => ?_, fun t y e => ?_, fun t j c b y e => ?_, fun t j c b y e => ?_, trivial⟩, hok, fun _ _ => rfl, Nat.le_refl _, fun i c h1 h2 => .inr ⟨i, c, h1, h2, rfl⟩, Kp.refl _ _⟩
      · rcases hFt t with e | ⟨y, e, hy⟩
        · rw [e]; trivial
        · rw [e]
          have hlt : t < args.length := by
            rcases Nat.lt_or_ge t args.length with h1 | h1
            · exact h1
            · rw [List.getElem?_eq_none h1] at hy; cases hy
          simp only [slotOK]
          rw [Array.getD_eq_getD_getElem?, Array.getElem?_append_left (by simpa using hlt)]
          simp [hy]
      · rcases hFt t with e' | ⟨y', e', hy⟩
        · rw [e'] at e; cases e
        · rw [e'] at e; injection e with e; subst e; exact hlim _ (List.mem_of_getElem? hy)
      · rcases hFt t with e' | ⟨y', e', _⟩ <;> rw [e'] at e <;> cases e
      · rcases hFt t with e' | ⟨y', e', _⟩ <;> rw [e'] at e <;> cases e
    refine calls_of_wp hf hb (wp_mono (wp_sound hτ hm d c hc.1 G h) ?_)
    rintro e a' w' ⟨β', F', H', E', hq, G'⟩
    have fin : resK τ F' H' fn.results.toList (fun ys => R ys H' E') → a'.defers = [] ∧ ∃ v, (results fn a'.tmps).run P w' = .ok v w' ∧ ∃ ys H' E' β', R ys H' E' ∧ (Ending.returned v) = .returned (retOf β' ys) ∧ (∀ i, i < H.length → β' i = β i) ∧ H.length ≤ H'.length ∧ Ok τ L β' H' E' w' ∧ Kp (loc β H) w w' ∧
      (∀ (i : Nat) (c : Ck), H'[i]? = some c → c.live = true → w.heap.size ≤ β' i ∨ loc β H (β' i)) := by
      intro hres
      obtain ⟨ys, hR, _, hrun⟩ := resK_spec hτ G' hres
      refine ⟨G'.fr.defers, retOf β' ys, ?_, ys, H', E', β', hR, rfl, G'.fix, G'.mle, G'.ok, G'.kp, G'.anc⟩
      rw [results_eq, Array.mapM_eq_mapM_toList]
      simp only [Sem.run_bind, Sem.run_map]
      rw [hrun]
      simp only [Result.andThen_ok, Sem.run_pure]
      rw [retOf_eq]
    cases e with
    | ret => exact fin hq
    | normal => exact fin hq
    | _ => exact hq.elim
end Go.Q
