/-
  The engine is sound: regions that draw their order, in part quiet. Conditions: as stated at each.
-/
import Derived.Test.YtkidlkcmpbnhpaaDoorQe10
namespace Go.Q
open Go
variable {P : Program} {τ : Tab} {L : Nat → Prop}
section
variable {w0 : World} {M : Nat → Prop} {β0 : Nat → Nat} {m0 n : Nat} {β : Nat → Nat} {F : Tr} {gs : List (Nat × Nat)} {H : List Ck} {E : List Fact} {a : Act} {w : World}

theorem opPure_spec (hτ : TabOk P τ) (hF : FrOk β n H.length F gs a) (hno : ∀ (i b : Nat) (c : Ck), H[i]? = some c → c.no = some b → β i = b) {o : Oper} {k : PV → Prop} (h : opPure τ o F H k) :
    ∃ y, k y ∧ y.lim H.length ∧ ∀ w, (execOp a.eval o).run P w = .ok (.value (y.den β)) w := by
  obtain ⟨dst, op, ty, pos, aft, grd⟩ := o
  have hg : GdOk F .no := trivial
  cases op with
  | move x =>
    obtain ⟨y, hk, hl, he⟩ := useK_spec hF hg h
    exact ⟨y, hk, hl, fun w => by simp [execOp, he trivial]⟩
  | assign x =>
    obtain ⟨y, hk, hl, he⟩ := useK_spec hF hg h
    exact ⟨y, hk, hl, fun w => by simp [execOp, he trivial]⟩
  | fieldAddr T x f =>
    simp only [opPure] at h
    obtain ⟨y, h, hl, he⟩ := useK_spec hF hg h
    have he := he trivial
    split at h
    · rename_i hT
      obtain ⟨off, m, g, hf, h⟩ := offK_spec h
      split at h
      · exact ⟨_, h, hl, fun w => by simp [execOp, he, PV.den, fieldAt_run hτ hT hf, add_off]⟩
      · exact ⟨_, h, trivial, fun w => by simp [execOp, he, PV.den, fieldAt_run hτ hT hf]⟩
      · exact h.elim
    · exact h.elim
  | binOp op T x y T2 =>
    simp only [opPure] at h
    obtain ⟨u, h, hu⟩ := useV_spec hF hg hno h
    obtain ⟨v, h, hv⟩ := useV_spec hF hg hno h
    have hu := hu trivial
    have hv := hv trivial
    unfold binV at h
    split at h
    · split at h
      · rename_i hkb
        have hkk := kb_eq hkb
        subst hkk
        rcases binI_spec (P := P) h with h | ⟨r, hk, hr⟩
        · exact h.elim
        · exact ⟨_, hk, trivial, fun w => by simp [execOp, hu, hv, PV.den, eqGuard_int, hr]⟩
      · exact h.elim
    · rcases binS_spec (P := P) h with h | ⟨r, hk, hr⟩
      · exact h.elim
      · exact ⟨_, hk, trivial, fun w => by simp [execOp, hu, hv, PV.den, eqGuard_string, hr]⟩
    · exact h.elim
  | indexAddr T x i =>
    simp only [opPure] at h
    obtain ⟨u, h, hu⟩ := useV_spec hF hg hno h
    obtain ⟨v, h, hv⟩ := useV_spec hF hg hno h
    have hu := hu trivial
    have hv := hv trivial
    split at h
    · have hT : (τ.ti T).kind = .slice := by assumption
      split at h
      · exact h.elim
      · rename_i hE
        have hE : (τ.ti (τ.ti T).elem).kind ≠ .other := fun e => hE e
        replace h := h.out
        obtain ⟨ad, had, h⟩ := h
        refine ⟨_, h, trivial, fun w => ?_⟩
        obtain ⟨rfl, h1, h2⟩ := had trivial
        have hu' := kind_under hτ hT
        simp [execOp, hu, hv, PV.den, Instr.indexAt, asIntOf, run_underlying hu', h1, h2, run_sizeOf hτ hE]
    · exact h.elim
  | _ => exact h.elim

/-- What stands behind a region: nothing but the normal way. -/
def OnlyN (K : Act → World → Prop) (e : Exit) (a : Act) (w : World) : Prop := match e with | .normal => K a w | _ => False

theorem opsOk_at {ops : Array Oper} (h : opsOk n ops.toList = true) {i : Nat} {o : Oper} (hi : ops[i]? = some o) : ∀ t, o.dst = some t → t < n := by
  unfold opsOk at h
  rw [List.all_eq_true] at h
  intro t ht
  have := h o (by rw [← Array.getElem?_toList] at hi; exact List.mem_of_getElem? hi)
  rw [ht] at this
  simpa using this

theorem wpAny_more {md : Region.Mode} {ops : Array Oper} {Q : Exit → Act → World → Prop} : ∀ {f : Nat} {ls : Array Bool} {a : Act} {w : World}, wpAny P md ops Q f ls a w → ∀ g, wpAny P md ops Q (f + g) ls a w
  | 0, ls, a, w, h, 0 => h
  | 0, ls, a, w, h, g + 1 => by
    rw [Nat.zero_add]
    exact ⟨fun _ => h.2, fun i hi => by rw [h.1] at hi; cases hi⟩
  | f + 1, ls, a, w, h, g => by
    rw [Nat.add_right_comm]
    exact ⟨h.1, fun i hi => wpOp_mono (fun _ _ h => wpAny_more h g) (h.2 i hi)⟩

theorem plan_sound (hτ : TabOk P τ) {ops : Array Oper} (hs : Region.noSelect ops = true) (hops : opsOk n ops.toList = true) {k : Tr → List Ck → List Fact → Prop} :
    ∀ (p : Plan) {ls : Array Bool} {rs : List Nat} {f : Nat} {β : Nat → Nat} {F : Tr} {H : List Ck} {E : List Fact} {a : Act} {w : World}, p.ok ops ls rs = true → p.fuel ≤ f → Good τ L w0 M β0 m0 n β F [] H E a w → wpPlan P τ L ops p F H E k →
      (rs = [] → wpAny P .any ops (OnlyN (After τ L w0 M β0 m0 n [] k)) f ls a w) ∧
        ∀ i, i ∈ rs → Go.wpOp P ops (OnlyN (After τ L w0 M β0 m0 n [] k)) i (wpAny P .any ops (OnlyN (After τ L w0 M β0 m0 n [] k)) (f - 1) (ls.setIfInBounds i true)) a w
  | .done, ls, rs, f, β, F, H, E, a, w, hp, hf, G, h => by
    simp only [Plan.ok, Bool.and_eq_true, List.isEmpty_iff] at hp
    refine ⟨fun _ => ?_, fun i (hi : i ∈ rs) => by rw [hp.1] at hi; cases hi⟩
    have := wpAny_more (f := 0) (P := P) (md := .any) (ops := ops) (Q := OnlyN (After τ L w0 M β0 m0 n [] k)) (ls := ls) (a := a) (w := w) ⟨hp.2, ⟨β, F, H, E, h, G⟩⟩ f
    rwa [Nat.zero_add] at this
  | .no, ls, rs, f, β, F, H, E, a, w, hp, hf, G, h => by
    simp [Plan.ok] at hp
  | .take i p, ls, rs, f, β, F, H, E, a, w, hp, hfu, G, h => by
    simp only [Plan.ok, Bool.and_eq_true, List.isEmpty_iff] at hp
    obtain ⟨⟨⟨hrs, hr⟩, hf⟩, hp⟩ := hp
    simp only [wpPlan] at h
    simp only [Plan.fuel] at hfu
    split at h
    · rename_i o hi
      split at h
      · rename_i hgd
        obtain ⟨y, h, hl, hrun⟩ := opPure_spec hτ G.fr G.ok.no h
        obtain ⟨F', h, G'⟩ := G.put (opsOk_at hops hi) (by cases o.dst <;> rfl) h (v := y.den β) rfl (fun z e => by injection e with e; subst e; exact hl) (fun _ _ _ _ e => by cases e)
        have h1 := (plan_sound hτ hs hops p (f := f - 1) hp (by omega) G' h).1 rfl
        obtain ⟨g, rfl⟩ : ∃ g, f = g + 1 := ⟨f - 1, by omega⟩
        exact ⟨fun _ => wpAny_take hi hs hf hr (fun c a w h => h.elim) (.inl ⟨wanted_no hgd, fun w => hrun w⟩) h1, fun j (hj : j ∈ rs) => by rw [hrs] at hj; cases hj⟩
      · exact h.elim
    · exact h.elim
  | .br i p q, ls, rs, f, β, F, H, E, a, w, hp, hfu, G, h => by
    simp only [wpPlan] at h
    obtain ⟨h, hq⟩ := h
    simp only [Plan.fuel] at hfu
    have one : p.ok ops (ls.setIfInBounds i true) [] = true → Go.wpOp P ops (OnlyN (After τ L w0 M β0 m0 n [] k)) i (wpAny P .any ops (OnlyN (After τ L w0 M β0 m0 n [] k)) (f - 1) (ls.setIfInBounds i true)) a w := by
      intro hp
      split at h
      · rename_i o hi
        split at h
        · rename_i hgd
          obtain ⟨H', h, G'⟩ := pins_spec G h
          unfold Go.wpOp
          rw [hi]
          simp only [wanted_no hgd, if_true]
          refine .inl (Oper.wp_mono ?_ (opEff_spec hτ G' (opsOk_at hops hi) (by cases o.dst <;> rfl) (Q := OnlyN (After τ L w0 M β0 m0 n [] k)) h))
          rintro a' w' ⟨β', F', H', E', hk, G''⟩
          exact (plan_sound hτ hs hops p (f := f - 1) hp (by omega) G'' hk).1 rfl
        · exact h.elim
      · exact h.elim
    have more : ∀ (j : Nat) (r : List Nat), (i == j && p.ok ops (ls.setIfInBounds i true) [] && (match r with | [] => q.isNo | _ => q.ok ops ls r)) = true →
        ∀ x, x ∈ j :: r → Go.wpOp P ops (OnlyN (After τ L w0 M β0 m0 n [] k)) x (wpAny P .any ops (OnlyN (After τ L w0 M β0 m0 n [] k)) (f - 1) (ls.setIfInBounds x true)) a w := by
      intro j r hh x hx
      simp only [Bool.and_eq_true] at hh
      obtain ⟨⟨hij, hpo⟩, hr⟩ := hh
      have hij : i = j := by simpa using hij
      subst hij
      cases hx with
      | head => exact one hpo
      | tail _ hx =>
        cases r with
        | nil => cases hx
        | cons y r => exact (plan_sound hτ hs hops q (f := f) hr (by omega) G hq).2 x hx
    cases rs with
    | nil =>
      refine ⟨fun _ => ?_, fun j hj => by cases hj⟩
      obtain ⟨g, rfl⟩ : ∃ g, f = g + 1 := ⟨f - 1, by omega⟩
      simp only [Plan.ok] at hp
      split at hp
      · rename_i j r hjr
        exact ⟨(fun e => by rw [hjr] at e; cases e), fun x hx => more j r hp x (by rw [← hjr]; exact hx)⟩
      · cases hp
    | cons j r =>
      refine ⟨(fun e => by cases e), fun x hx => ?_⟩
      simp only [Plan.ok] at hp
      exact more j r hp x hx

/-- The first operations, in any order: all quiet. -/
def wpAnyN (P : Program) (ops : Array Oper) (C : World → Prop) (n : Nat) (R : Array Bool → Act → Prop) : Nat → Array Bool → Act → Prop
  | 0, ls, a => (∀ j, j ∈ Region.ready .any ops ls → n ≤ j) ∧ R ls a
  | m + 1, ls, a => (∃ j, j ∈ Region.ready .any ops ls) ∧ ∀ j, j ∈ Region.ready .any ops ls → j < n ∧ qOp P ops C j (wpAnyN P ops C n R m (ls.setIfInBounds j true)) a
theorem wpAny_of_N {ops : Array Oper} {C : World → Prop} {n : Nat} {R : Array Bool → Act → Prop} {Q : Exit → Act → World → Prop} {g : Nat} (hR : ∀ ls a w, C w → R ls a → wpAny P .any ops Q g ls a w) :
    ∀ (m : Nat) {ls : Array Bool} {a : Act} {w : World}, C w → wpAnyN P ops C n R m ls a → wpAny P .any ops Q (m + g) ls a w
  | 0, ls, a, w, hC, h => by rw [Nat.zero_add]; exact hR ls a w hC h.2
  | m + 1, ls, a, w, hC, h => by
    rw [Nat.add_right_comm]
    obtain ⟨⟨j, hj⟩, h⟩ := h
    exact ⟨(fun e => by rw [e] at hj; cases hj), fun i hi => wpOp_of_qOp hC (fun a' w' hw' => wpAny_of_N hR m hw') (h i hi).2⟩
/-- What is listed has all listed that it waits for. -/
def shut (ops : Array Oper) (ls : Array Bool) : Prop := ∀ i, ls.getD i false = true → ∀ k, k ∈ ons ops i → ls.getD k false = true
theorem addAll_mem : ∀ {xs S : List Nat} {k : Nat}, k ∈ addAll xs S → k ∈ xs ∨ k ∈ S
  | [], _, _, h => .inr h
  | x :: r, S, k, h => by
    unfold addAll at h
    split at h
    · rcases addAll_mem h with h | h
      · exact .inl (List.mem_cons_of_mem _ h)
      · exact .inr h
    · rcases addAll_mem h with h | h
      · exact .inl (List.mem_cons_of_mem _ h)
      · cases h with
        | head => exact .inl List.mem_cons_self
        | tail _ h => exact .inr h
theorem clo_shut {ops : Array Oper} {ls : Array Bool} (hs : shut ops ls) : ∀ (f : Nat) {S : List Nat}, (∀ k, k ∈ S → ls.getD k false = true) → ∀ k, k ∈ clo ops f S → ls.getD k false = true
  | 0, _, h => h
  | f + 1, S, h => by
    refine clo_shut hs f ?_
    have : ∀ (T A : List Nat), (∀ k, k ∈ T → ls.getD k false = true) → (∀ k, k ∈ A → ls.getD k false = true) → ∀ k, k ∈ T.foldl (fun S i => addAll (ons ops i) S) A → ls.getD k false = true := by
      intro T
      induction T with
      | nil => exact fun A _ hA => hA
      | cons x r ih =>
        intro A hT hA
        refine ih _ (fun k hk => hT k (List.mem_cons_of_mem _ hk)) fun k hk => ?_
        rcases addAll_mem hk with h1 | h1
        · exact hs x (hT x List.mem_cons_self) k h1
        · exact hA k h1
    exact this S S h h
theorem ons_ready {ops : Array Oper} {ls : Array Bool} {j : Nat} (hj : j ∈ Region.ready .any ops ls) : ∀ k, k ∈ ons ops j → ls.getD k false = true := by
  obtain ⟨_, o, ho, ha⟩ := mem_ready.1 hj
  intro k hk
  unfold ons at hk
  rw [ho] at hk
  simp only [List.mem_map, List.mem_filter] at hk
  obtain ⟨e, ⟨h1, h2⟩, rfl⟩ := hk
  exact ha e (by simpa using h1) h2
theorem shut_set {ops : Array Oper} {ls : Array Bool} (hs : shut ops ls) {j : Nat} (hj : j ∈ Region.ready .any ops ls) : shut ops (ls.setIfInBounds j true) := by
  intro i hi k hk
  by_cases e : i = j
  · subst e; exact getD_set_true (ons_ready hj k hk)
  · rw [getD_set_ne false (Ne.symm e)] at hi
    exact getD_set_true (hs i hi k hk)
theorem waits_spec {ops : Array Oper} {n : Nat} (h : waits ops n = true) {ls : Array Bool} (hs : shut ops ls) {j : Nat} (hj : j ∈ Region.ready .any ops ls) (hn : n ≤ j) : ∀ i, i < n → ls.getD i false = true := by
  intro i hi
  obtain ⟨_, o, ho, ha⟩ := mem_ready.1 hj
  unfold waits at h
  rw [List.all_eq_true] at h
  have hlt : j < ops.size := (Array.getElem?_eq_some_iff.1 ho).1
  have := h j (List.mem_range.2 hlt)
  simp only [Bool.or_eq_true, decide_eq_true_eq, List.all_eq_true, List.mem_range] at this
  rcases this with h1 | h1
  · omega
  · exact clo_shut hs _ (ons_ready hj) i (by simpa using h1 i hi)
theorem wpAnyN_first {ops : Array Oper} {C : World → Prop} {n : Nat} {R : Array Bool → Act → Prop} (hw : waits ops n = true) {i : Nat} {oi : Oper} {v : Value} (hin : i < n) (hi : ops[i]? = some oi) (hsel : ∀ (j : Nat) (o : Oper) cs b, ops[j]? = some o → o.op ≠ .select cs b) :
    ∀ (m : Nat) (ls : Array Bool) (a : Act), shut ops ls →
      (∀ j oj, ops[j]? = some oj → j ≠ i → ls.getD j true = false → (∀ e ∈ oj.after, Region.binds .any e = true → e.on ≠ i) → oi.apart ops oj = true) →
      i ∈ Region.ready .any ops ls → YieldsIn P ops C oi v a →
      wpAnyN P ops C n R m (ls.setIfInBounds i true) (a.put oi.dst v) → wpAnyN P ops C n R (m + 1) ls a := by
  intro m
  induction m with
  | zero =>
    intro ls a hsh _ hr hy hN
    refine ⟨⟨i, hr⟩, fun j hj => ?_⟩
    have hul : ls.getD i false = false := by
      have := (mem_ready.1 hr).1
      rw [Array.getD_eq_getD_getElem?] at this ⊢
      cases h : ls[i]? with
      | none => rfl
      | some b => rw [h] at this; simpa using this
    have hjn : j < n := by
      rcases Nat.lt_or_ge j n with h | h
      · exact h
      · rw [waits_spec hw hsh hj h i hin] at hul; cases hul
    refine ⟨hjn, ?_⟩
    by_cases hji : j = i
    · subst hji; exact hy.qOp hi hN
    · have := hN.1 j (ready_mono hj hji)
      omega
  | succ m ih =>
    intro ls a hsh hap hr hy hN
    refine ⟨⟨i, hr⟩, fun j hj => ?_⟩
    by_cases hji : j = i
    · subst hji; exact ⟨hin, hy.qOp hi hN⟩
    · obtain ⟨hjn, hq⟩ := hN.2 j (ready_mono hj hji)
      refine ⟨hjn, ?_⟩
      obtain ⟨hj0, oj, hoj, hja⟩ := mem_ready.1 hj
      have hapj : oi.apart ops oj = true := hap j oj hoj hji hj0 fun e he hb e1 => by
        have := hja e he hb
        have hul := (mem_ready.1 hr).1
        rw [e1] at this
        rw [Array.getD_eq_getD_getElem?] at this hul
        cases h : ls[i]? with
        | none => rw [h] at this; cases this
        | some b => rw [h] at this hul; simp at this hul; rw [this] at hul; cases hul
      have := qOp_put hoj hapj (fun cs b => hsel i oi cs b hi) (fun cs b => hsel j oj cs b hoj) hy hq
      refine qOp_mono (fun a' ⟨hy', hK⟩ => ?_) this
      refine ih (ls.setIfInBounds j true) a' (shut_set hsh hj) (fun x ox hx hxi hx0 hxa => hap x ox hx hxi ?_ hxa) (ready_mono hr (Ne.symm hji)) hy' ?_
      · by_cases hxj : x = j
        · rw [hxj]; exact hj0
        · rwa [getD_set_ne true (Ne.symm hxj)] at hx0
      · rwa [Array.setIfInBounds_comm _ _ (Ne.symm hji)] at hK
theorem wpAnyN_lex {ops : Array Oper} {C : World → Prop} {n : Nat} {Q : Act → Prop} (hw : waits ops n = true) (hs : Region.noSelect ops = true) : ∀ (m k : Nat) (ls : Array Bool) (a : Act), shut ops ls → k + m = n → n ≤ ops.size →
    lexN ops m k ls = true → (∀ j, j ∈ Region.ready .any ops (firsts m k ls) → n ≤ j) → wpQuiet P ops C Q ((ops.toList.drop k).take m) a → wpAnyN P ops C n (fun ls' a' => ls' = firsts m k ls ∧ Q a') m ls a
  | 0, k, ls, a, _, _, _, hB, hr, h => by
    rw [List.take_zero] at h
    exact ⟨hr, rfl, h⟩
  | m + 1, k, ls, a, hsh, hk, hn, hB, hr, h => by
    simp only [lexN, Bool.and_eq_true] at hB
    obtain ⟨⟨h1, h2⟩, h3⟩ := hB
    have hlt : k < ops.toList.length := by simp; omega
    rw [List.drop_eq_getElem_cons hlt, List.take_succ_cons] at h
    have h0 : ops[k]? = some ops.toList[k] := by rw [← Array.getElem?_toList]; exact List.getElem?_eq_getElem hlt
    have hst : qOp P ops C k (wpQuiet P ops C Q ((ops.toList.drop (k + 1)).take m)) a := by unfold qOp; simp only [h0]; exact h
    obtain ⟨v, hy, hK⟩ := yieldsIn_of_qOp h0 hst
    exact wpAnyN_first hw (by omega) h0 (Region.noSelect_spec hs) m ls a hsh (Region.free_spec h0 h2) (by simpa using h1) hy (wpAnyN_lex hw hs m (k + 1) _ _ (shut_set hsh (by simpa using h1)) (by omega) hn h3 hr hK)
/-- A region of which a part may turn memory. -/
theorem mixed_sound (hτ : TabOk P τ) (hm : P.follows .mixedOrders = true) {id : Nat} {ops : Array Oper} (hops : opsOk n ops.toList = true) {k : Tr → List Ck → List Fact → Prop} {N : Nat} {p : Plan} (hB : mixB ops N p = true)
    (G : Good τ L w0 M β0 m0 n β F [] H E a w) (h : wpOps P τ L true ops (ops.toList.take N) [] [] F H E fun F' H' E' => wpPlan P τ L ops p F' H' E' k) :
    (Code.region id ops true).wp P (OnlyN (After τ L w0 M β0 m0 n [] k)) a w := by
  simp only [mixB, Bool.and_eq_true, decide_eq_true_eq] at hB
  obtain ⟨⟨⟨⟨hs, hN⟩, hw⟩, hl⟩, hp⟩ := hB
  have hkp : Kp (fun _ => False) w { w with drawn := w.drawn + 1 } := ⟨rfl, rfl, rfl, Nat.le_refl _, fun _ _ _ => rfl⟩
  have hopsN : opsOk n (ops.toList.take N) = true := by
    unfold opsOk at hops ⊢
    rw [List.all_eq_true] at hops ⊢
    exact fun o ho => hops o (List.mem_of_mem_take ho)
  have hq := wpOps_quiet (P := P) hτ hkp rfl hopsN (G.world hkp) h
  refine wp_region_any hm ?_
  have hcov : ∀ (m k : Nat) (ls : Array Bool), k + m = N → (∀ i, i < k → ls.getD i false = true) → ls.size = ops.size → ∀ i, i < N → (firsts m k ls).getD i false = true := by
    intro m
    induction m with
    | zero => intro k ls hk h _ i hi; exact h i (by omega)
    | succ m ih =>
      intro k ls hk h hsz i hi
      refine ih (k + 1) _ (by omega) (fun j hj => ?_) (by simpa using hsz) i hi
      by_cases e : j = k
      · subst e
        have : j < ls.size := by omega
        rw [Array.getD_eq_getD_getElem?, Array.getElem?_setIfInBounds_self_of_lt this]
        rfl
      · rw [getD_set_ne false (Ne.symm e)]; exact h j (by omega)
  have hrd : ∀ j, j ∈ Region.ready .any ops (firsts N 0 (Array.replicate ops.size false)) → N ≤ j := fun j hj => by
    rcases Nat.lt_or_ge j N with h | h
    · have h1 := hcov N 0 (Array.replicate ops.size false) (by omega) (fun i hi => by omega) Array.size_replicate j h
      have h2 := (mem_ready.1 hj).1
      simp only [Array.getD_eq_getD_getElem?] at h1 h2
      cases hx : (firsts N 0 (Array.replicate ops.size false))[j]? with
      | none => rw [hx] at h1; cases h1
      | some b => rw [hx] at h1 h2; simp at h1 h2; rw [h1] at h2; cases h2
    · exact h
  have := wpAnyN_lex (P := P) (C := fun w' => Kp (fun _ => False) { w with drawn := w.drawn + 1 } w') hw hs N 0 (Array.replicate ops.size false) a (fun i hi => by
    simp [Array.getD_eq_getD_getElem?, Array.getElem?_replicate] at hi
    split at hi <;> cases hi) (by omega) (by omega) hl hrd (by simpa using hq)
  have hall := wpAny_of_N (g := p.fuel) (Q := OnlyN (After τ L w0 M β0 m0 n [] k)) (fun ls a' w' hC hR => by
    obtain ⟨rfl, F', hk, G'⟩ := hR
    exact (plan_sound hτ hs hops p hp (Nat.le_refl _) (G'.world hC) hk).1 rfl) N (Kp.refl _ _) this
  have := wpAny_more hall (ops.size - (N + p.fuel))
  rwa [show N + p.fuel + (ops.size - (N + p.fuel)) = ops.size by omega] at this
end
end Go.Q
