/-
  The engine is sound: every operation that turns nothing. Conditions: as stated at each.
-/
import Derived.Test.YtkidlkcmpbnhpaaDoorQe5
namespace Go.Q
open Go
variable {P : Program} {τ : Tab} {L : Nat → Prop}

theorem run_places' (w : World) : ∀ (fs : List Field) (offs : List (Nat × Nat × Bool)), fieldsOk P fs offs = true →
    (fs.mapM fun f => Prod.mk f.offset <$> Go.sizeOf f.type).run P w = .ok (offs.map fun x => (x.1, x.2.1)) w
  | [], [], _ => rfl
  | [], _ :: _, h => by simp [fieldsOk] at h
  | _ :: _, [], h => by simp [fieldsOk] at h
  | f :: fs, x :: xs, h => by
    simp only [fieldsOk, Bool.and_eq_true] at h
    have hf : fieldOk P f (x.1, x.2.1, x.2.2) = true := h.1
    unfold fieldOk at hf
    simp only [Bool.and_eq_true, beq_iff_eq] at hf
    cases hi : P.info? f.type with
    | none => simp [hi] at hf
    | some i =>
      simp [hi] at hf
      have hs : (Go.sizeOf f.type).run P w = .ok x.2.1 w := by simp [Go.sizeOf, typeInfo, hi, hf]
      simp [List.mapM_cons, hs, run_places' w fs xs h.2, hf]

theorem run_build (hτ : TabOk P τ) {T : TypeId} (h : (τ.ti T).kind = .struct) (hz : (τ.ti T).zero ≠ []) {is : List Nat} {vs : List Value} (hl : vs.length = is.length)
    {k : List Value → Prop} (hk : fillK (τ.ti T).offs is vs (τ.ti T).zero k) : ∃ cs, k cs ∧ ∀ w, (Instr.build T (is.zip vs).toArray).run P w = .ok (.agg cs.toArray) w := by
  obtain ⟨i, d, hi, hd, _, _, _, ht⟩ := tab_of hτ (T := T) (by rw [h]; simp)
  obtain ⟨i', z, hi', hz', hzc⟩ := (hτ.zero T).resolve_left hz
  rw [hi] at hi'; injection hi' with e; subst e
  unfold tiOk at ht
  rw [hi, hd, h] at ht
  cases d with
  | struct fs =>
    simp only [Bool.and_eq_true] at ht
    have hp := fun w => run_places' w _ _ ht.2
    obtain ⟨cs', hk', hf⟩ := fill_spec (fun x => Option.map (fun (x : Nat × Nat × Bool) => (x.fst, x.snd.fst)) (τ.ti T).offs[x]?) (fun i o m g ho => by simp [ho]) is vs _ k hk
    refine ⟨cs', hk', fun w => ?_⟩
    have hzz : z.cells = (τ.ti T).zero.toArray := by rw [← hzc]
    have hf' : Instr.fill (fun x => Option.map (fun (x : Nat × Nat × Bool) => (x.fst, x.snd.fst)) (τ.ti T).offs[x]?) (τ.ti T).zero.toArray (is.zip vs) = some cs'.toArray := by simpa using hf
    simp [Instr.build, run_underlying hd, typeInfo, zeroValue, hi, hz', Array.mapM_eq_mapM_toList, hp w, hzz, hf']
  | _ => simp at ht

theorem rowOffs_get (size : Nat) : ∀ (n o i : Nat) (x : Nat × Nat × Bool), (rowOffs size n o)[i]? = some x → x = (o + i * size, size, false)
  | 0, o, i, x, h => by simp [rowOffs] at h
  | n + 1, o, 0, x, h => by simp [rowOffs] at h; rw [← h]; simp
  | n + 1, o, i + 1, x, h => by
    simp only [rowOffs, List.getElem?_cons_succ] at h
    rw [rowOffs_get size n (o + size) i x h, Nat.add_mul]
    congr 1
    omega
theorem zerosN_len (z : List Value) : ∀ n, (zerosN z n).length = n * z.length
  | 0 => by simp [zerosN]
  | n + 1 => by simp [zerosN, zerosN_len z n, Nat.add_mul]; omega
theorem zerosN_get (z : List Value) (hz : z ≠ []) : ∀ n j, j < n * z.length → (zerosN z n)[j]? = z[j % z.length]?
  | 0, j, h => by simp at h
  | n + 1, j, h => by
    simp only [zerosN]
    rcases Nat.lt_or_ge j z.length with h1 | h1
    · rw [List.getElem?_append_left h1, Nat.mod_eq_of_lt h1]
    · rw [List.getElem?_append_right h1, zerosN_get z hz n _ (by rw [Nat.add_mul] at h; omega), ← Nat.mod_eq_sub_mod h1]
theorem run_buildSlice (hτ : TabOk P τ) {T : TypeId} (h : (τ.ti T).kind = .slice) (hE : (τ.ti (τ.ti T).elem).kind ≠ .other) (hz : (τ.ti (τ.ti T).elem).zero ≠ []) (hzl : (τ.ti (τ.ti T).elem).zero.length = (τ.ti (τ.ti T).elem).size)
    {n : Nat} (hn : n * (τ.ti (τ.ti T).elem).size ≤ 2 ^ 24) {is : List Nat} {vs : List Value} (hl : vs.length = is.length)
    {k : List Value → Prop} (hk : fillK (rowOffs (τ.ti (τ.ti T).elem).size n 0) is vs (zerosN (τ.ti (τ.ti T).elem).zero n) k) :
    ∃ cs, k cs ∧ ∀ w, (Instr.buildSlice T n (is.zip vs).toArray).run P w = .ok (.slice (some ⟨w.heap.size, 0, none⟩) n n) { w with heap := w.heap.push (.cells cs.toArray (τ.ti T).elem (0, 0)) } := by
  obtain ⟨i, d, hi, hd, _, _, _, ht⟩ := tab_of hτ (T := T) (by rw [h]; simp)
  obtain ⟨j, z, hj, hz', hzc⟩ := (hτ.zero (τ.ti T).elem).resolve_left hz
  unfold tiOk at ht
  rw [hi, hd, h] at ht
  cases d with
  | slice e =>
    have he : e = (τ.ti T).elem := by simp only [Bool.and_eq_true, beq_iff_eq] at ht; exact ht.2
    subst he
    obtain ⟨cs', hk', hf⟩ := fill_spec (fun i => some (i * (τ.ti (τ.ti T).elem).size, (τ.ti (τ.ti T).elem).size)) (fun i o m g ho => by
      have := rowOffs_get _ _ _ _ _ ho
      injection this with h1 h2; injection h2 with h2 h3
      rw [h1, h2]; simp) is vs _ k hk
    refine ⟨cs', hk', fun w => ?_⟩
    have hzz : z.cells = (τ.ti (τ.ti T).elem).zero.toArray := by rw [← hzc]
    have hpos : 0 < (τ.ti (τ.ti T).elem).zero.length := List.length_pos_iff.2 hz
    have hsz := run_sizeOf hτ hE
    have hfill : ((Array.range (n * (τ.ti (τ.ti T).elem).size)).map ((if n * (τ.ti (τ.ti T).elem).size = 0 then (#[] : Array Value) else z.cells)[· % (if n * (τ.ti (τ.ti T).elem).size = 0 then (#[] : Array Value) else z.cells).size]!)) = (zerosN (τ.ti (τ.ti T).elem).zero n).toArray := by
      apply Array.ext'
      apply List.ext_getElem?
      intro x
      by_cases h0 : n * (τ.ti (τ.ti T).elem).size = 0
      · have hn0 : n = 0 := by
          rcases Nat.mul_eq_zero.1 h0 with h0 | h0
          · exact h0
          · omega
        subst hn0
        simp [zerosN]
      · rcases Nat.lt_or_ge x (n * (τ.ti (τ.ti T).elem).size) with hx | hx
        · have hm : x % (τ.ti (τ.ti T).elem).zero.length < (τ.ti (τ.ti T).elem).zero.length := Nat.mod_lt _ hpos
          simp only [if_neg h0, hzz]
          rw [zerosN_get _ hz n x (by rw [hzl]; exact hx)]
          simp [hx, hm]
        · rw [List.getElem?_eq_none (by simpa using hx), List.getElem?_eq_none (by rw [zerosN_len, hzl]; exact hx)]
    by_cases h0 : n * (τ.ti (τ.ti T).elem).size = 0
    · simp only [if_pos h0] at hfill
      simp only [Instr.buildSlice, Sem.run_bind, run_underlying hd, Result.andThen_ok, hsz, if_neg (Nat.not_lt.2 hn), if_pos h0, Sem.run_pure]
      rw [hfill]
      simp only [hf]
      simp [newRow, newObj, Sem.run]
    · simp only [if_neg h0] at hfill
      simp only [Instr.buildSlice, Sem.run_bind, run_underlying hd, Result.andThen_ok, hsz, if_neg (Nat.not_lt.2 hn), if_neg h0, Sem.run_pure, zeroValue, typeInfo, run_program, hj, hz']
      rw [hfill]
      simp only [hf]
      simp [newRow, newObj, Sem.run]
  | _ => simp at ht

section
variable {β : Nat → Nat} {n : Nat} {F : Tr} {gs : List (Nat × Nat)} {a : Act} {H : List Ck} {E : List Fact} {gd : Gd}

theorem ldK_spec (hF : FrOk β n H.length F gs a) {x : Operand} {k : SV → Prop} (h : ldK F x k) :
    ∃ s, k s ∧ (∀ t, x = .tmp t → s = F.get t) ∧ slotOK β s (a.eval x) ∧ (∀ y, s = .n y → y.lim H.length) ∧ (∀ j b e y, s = .g j b e y → y.lim H.length ∧ ∃ e0 c, (F.get j).ask = some (e0, c) ∧ e = (e0 && eff b c)) := by
  unfold ldK at h
  cases x with
  | const v => exact ⟨_, h, fun _ e => (by cases e), rfl, fun y e => (by injection e with e; subst e; trivial), fun _ _ _ _ e => (by cases e)⟩
  | global v => exact ⟨_, h, fun _ e => (by cases e), rfl, fun y e => (by injection e with e; subst e; trivial), fun _ _ _ _ e => (by cases e)⟩
  | func v => exact ⟨_, h, fun _ e => (by cases e), rfl, fun y e => (by injection e with e; subst e; trivial), fun _ _ _ _ e => (by cases e)⟩
  | tmp t =>
    simp only at h
    rw [Tr.getK_iff] at h
    exact ⟨_, h, fun u e => (by injection e with e; rw [e]), hF.slot t, fun y e => hF.limn t y e, fun j b e y he => ⟨hF.limg t j b e y he, (hF.star t j b e y he).1⟩⟩
/-- A slot's value, under the guard. -/
theorem sel_spec (hF : FrOk β n H.length F gs a) (hg : GdOk F gd) {s : SV} {v : Value} {k : PV → Prop} (hs : slotOK β s v) (hl : ∀ y, s = .n y → y.lim H.length)
    (hgl : ∀ j b e y, s = .g j b e y → y.lim H.length ∧ ∃ e0 c, (F.get j).ask = some (e0, c) ∧ e = (e0 && eff b c)) (h : sel gd s k) : ∃ y, k y ∧ y.lim H.length ∧ (gd.holds → v = y.den β) := by
  cases s with
  | n y => exact ⟨y, h, hl y rfl, fun _ => hs⟩
  | u => exact h.elim
  | g j b e y =>
    obtain ⟨hlim, he⟩ := hgl j b e y rfl
    obtain ⟨hk, hh⟩ := selG_spec hF hg h e he
    refine ⟨y, hk, hlim, fun hx => ?_⟩
    have hs : v = if e = true then y.den β else undef := hs
    rw [if_pos (hh hx)] at hs
    exact hs
/-- What is known of a test whose value can be used here. -/
theorem ask_sel (hF : FrOk β n H.length F gs a) (hg : GdOk F gd) {t : Nat} {c0 : Bool} {k : PV → Prop} (h : sel gd (F.get t) k) (hk : ∀ y, k y → y = .v (.bool c0)) :
    ∃ e0, (F.get t).ask = some (e0, c0) ∧ (gd.holds → e0 = true) := by
  generalize hs : F.get t = s at h
  cases s with
  | n y => rw [hk y h]; exact ⟨true, rfl, fun _ => rfl⟩
  | u => exact h.elim
  | g j b e y =>
    obtain ⟨h1, h2⟩ := selG_spec hF hg h e (hF.star t j b e y hs).1
    rw [hk y h1]
    exact ⟨e, rfl, h2⟩
theorem pick_spec (hF : FrOk β n H.length F gs a) (hg : GdOk F gd) {c x y : Operand} {c0 : Bool} (hc : ∀ t, c = .tmp t → ∃ e0, (F.get t).ask = some (e0, c0) ∧ (gd.holds → e0 = true))
    {k : PV → Prop} (h : ldK F x fun sx => ldK F y fun sy => pickK gd c c0 sx sy k) : ∃ z, k z ∧ z.lim H.length ∧ (gd.holds → (if c0 then a.eval x else a.eval y) = z.den β) := by
  obtain ⟨sx, h1, _, hx, lx, gx⟩ := ldK_spec hF h
  obtain ⟨sy, h2, _, hy, ly, gy⟩ := ldK_spec hF h1
  clear h h1
  have both : pickU gd c0 sx sy k → ∃ z, k z ∧ z.lim H.length ∧ (gd.holds → (if c0 then a.eval x else a.eval y) = z.den β) := by
    intro h
    unfold pickU at h
    obtain ⟨vx, h, _, ex⟩ := sel_spec hF hg hx lx gx h
    obtain ⟨vy, h, _, ey⟩ := sel_spec hF hg hy ly gy h
    split at h
    · refine ⟨_, h, trivial, fun hh => ?_⟩
      rw [ex hh, ey hh]
      cases c0 <;> rfl
    · exact h.elim
  unfold pickK at h2
  split at h2
  · split at h2
    · rename_i hj
      have hj := Nat.eq_of_beq_eq_true hj
      subst hj
      obtain ⟨vy, h2, _, ey⟩ := sel_spec hF hg hy ly gy h2
      split at h2
      · obtain ⟨e0, ha, hh⟩ := hc _ rfl
        obtain ⟨_, e1, c1, ha', he⟩ := gx _ _ _ _ rfl
        rw [ha] at ha'
        injection ha' with ha'; injection ha' with e1' e2'
        subst e1'; subst e2'
        refine ⟨_, h2, trivial, fun hx' => ?_⟩
        simp only [slotOK] at hx
        rw [hx, ey hx', he, hh hx']
        cases c0 <;> rfl
      · exact h2.elim
    · exact both h2
  · split at h2
    · rename_i hj
      have hj := Nat.eq_of_beq_eq_true hj
      subst hj
      obtain ⟨vx, h2, _, ex⟩ := sel_spec hF hg hx lx gx h2
      split at h2
      · obtain ⟨e0, ha, hh⟩ := hc _ rfl
        obtain ⟨_, e1, c1, ha', he⟩ := gy _ _ _ _ rfl
        rw [ha] at ha'
        injection ha' with ha'; injection ha' with e1' e2'
        subst e1'; subst e2'
        refine ⟨_, h2, trivial, fun hx' => ?_⟩
        simp only [slotOK] at hy
        rw [hy, ex hx', he, hh hx']
        cases c0 <;> rfl
      · exact h2.elim
    · exact both h2
  · exact both h2
end
end Go.Q
