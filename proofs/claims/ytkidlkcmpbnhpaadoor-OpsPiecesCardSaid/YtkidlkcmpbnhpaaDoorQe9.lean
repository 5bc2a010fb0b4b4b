/-
  The engine is sound: operations that make or turn memory; regions. Conditions: as stated at each.
-/
import Derived.Test.YtkidlkcmpbnhpaaDoorQe8
namespace Go.Q
open Go
variable {P : Program} {τ : Tab} {L : Nat → Prop}
section
variable {w0 : World} {M : Nat → Prop} {β0 : Nat → Nat} {m0 n : Nat} {β : Nat → Nat} {F : Tr} {gs : List (Nat × Nat)} {H : List Ck} {E : List Fact} {a : Act} {w : World}

abbrev After (τ : Tab) (L : Nat → Prop) (w0 : World) (M : Nat → Prop) (β0 : Nat → Nat) (m0 n : Nat) (gs : List (Nat × Nat)) (k : Tr → List Ck → List Fact → Prop) (a : Act) (w : World) : Prop :=
  ∃ β F H E, k F H E ∧ Good τ L w0 M β0 m0 n β F gs H E a w

theorem wp_of_run {o : Oper} {v : Value} {w' : World} {K : Act → World → Prop} {Q : Exit → Act → World → Prop} (hr : (execOp a.eval o).run P w = .ok (.value v) w') (h : K (a.put o.dst v) w') : o.wp P a w K Q := by
  unfold Oper.wp; rw [hr]; exact h
theorem wp_of_skip {o : Oper} {w' : World} {K : Act → World → Prop} {Q : Exit → Act → World → Prop} (hr : (execOp a.eval o).run P w = .ok .skip w') (h : K (a.put o.dst undef) w') : o.wp P a w K Q := by
  unfold Oper.wp; rw [hr]; exact h
theorem wp_of_enter {o : Oper} {f : FuncId} {args : Array Value} {K : Act → World → Prop} {Q : Exit → Act → World → Prop} (hr : (execOp a.eval o).run P w = .ok (.enter f args) w)
    (h : Calls P f args w fun e w' => ∃ v, e = .returned v ∧ K (a.put o.dst v) w') : o.wp P a w K Q := by
  unfold Oper.wp; rw [hr]
  exact h.mono fun e w' ⟨v, he, hk⟩ => by subst he; exact hk
theorem wp_of_quiet {o : Oper} {y : PV} {K : Act → World → Prop} {Q : Exit → Act → World → Prop} (hok : Ok τ L β H E w) (hq : Quiet P τ L β H E .no o a y)
    (h : ∀ w', Kp (fun _ => False) w w' → K (a.put o.dst (y.den β)) w') : o.wp P a w K Q := by
  have hq' := hq trivial (fun w' => Kp (fun _ => False) w w') (fun _ _ h1 h2 => h1.trans h2) w (Kp.refl _ _) hok
  unfold Oper.quietAt at hq'
  unfold Oper.wp
  generalize (execOp a.eval o).run P w = r at hq'
  cases r with
  | ok nx w' =>
    cases nx <;> simp only [Oper.quietUpon] at hq' <;> simp only [Oper.upon]
    case value u => obtain ⟨e1, e2⟩ := hq'; rw [e1, e2]; exact h _ (Kp.refl _ _)
    case skip => obtain ⟨e1, e2⟩ := hq'; rw [e1, ← e2]; exact h _ (Kp.refl _ _)
    case enter f args =>
      obtain ⟨e1, hc⟩ := hq'
      rw [e1]
      exact hc.mono fun e w'' ⟨he, hw⟩ => by subst he; exact h _ hw
  | halt x w' => simp only [Oper.quietUpon] at hq'

theorem node_spec {o : Oper} {k : Tr → List Ck → List Fact → Prop} (G : Good τ L w0 M β0 m0 n β F gs H E a w) (hd : ∀ t, o.dst = some t → t < n) (hk : keyOk o.dst gs = true)
    {r : PV} {H' : List Ck} {E' : List Fact} {β' : Nat → Nat} {w' : World} (hβ : ∀ i, i < H.length → β' i = β i) (hl : H.length ≤ H'.length) (hn : ∀ (i : Nat) (c : Ck), H'[i]? = some c → c.live = true → w.heap.size ≤ β' i ∨ loc β H (β' i))
    (hr : r.lim H'.length) (hok : Ok τ L β' H' E' w') (hkp : Kp (loc β H) w w') (h : putDst o.dst (.n r) F fun F' => k F' H' E') : After τ L w0 M β0 m0 n gs k (a.put o.dst (r.den β')) w' := by
  have G' : Good τ L w0 M β0 m0 n β' F gs H' E' a w' := ⟨G.fr.den hβ hl, hok, fun i hi => by rw [hβ i (Nat.lt_of_lt_of_le hi G.mle)]; exact G.fix i hi, Nat.le_trans G.mle hl, fun i c h1 h2 => by
    rcases hn i c h1 h2 with a1 | ⟨j, d, a1, a2, a3⟩
    · exact .inl (Nat.le_trans G.kp.size a1)
    · rw [← a3]; exact G.anc j d a1 a2, G.kp_trans hkp⟩
  obtain ⟨F', hk', G''⟩ := G'.put hd hk h (v := r.den β') rfl (fun y e => by injection e with e; subst e; exact hr) (fun _ _ _ _ e => by cases e)
  exact ⟨β', F', H', E', hk', G''⟩
theorem raw_spec {o : Oper} {k : Tr → List Ck → List Fact → Prop} (G : Good τ L w0 M β0 m0 n β F gs H E a w) (hd : ∀ t, o.dst = some t → t < n) (hk : keyOk o.dst gs = true) {Q : Exit → Act → World → Prop}
    (h : RawNode P τ L o F H E fun r H' E' => putDst o.dst (.n r) F fun F' => k F' H' E') : o.wp P a w (After τ L w0 M β0 m0 n gs k) Q := by
  replace h := h.out
  obtain ⟨r, H', E', β', w', hr, h1, h2, h3, h4, h5, h6, h7⟩ := h β w a G.ok (fun x y hu => by
    obtain ⟨s, rfl, _, hs, _⟩ := ldK_spec G.fr hu
    exact hs)
  rcases hr with hr | ⟨hr, rfl⟩
  · exact wp_of_run hr (node_spec G hd hk h1 h2 h3 h4 h5 h6 h7)
  · exact wp_of_skip hr (node_spec G hd hk h1 h2 h3 h4 h5 h6 h7)
theorem calln_spec {o : Oper} {k : Tr → List Ck → List Fact → Prop} (G : Good τ L w0 M β0 m0 n β F gs H E a w) (hd : ∀ t, o.dst = some t → t < n) (hk : keyOk o.dst gs = true) {Q : Exit → Act → World → Prop} {f : FuncId} {args : List Value}
    (hr : (execOp a.eval o).run P w = .ok (.enter f args.toArray) w)
    (h : CallNode P τ L f args H E fun r H' E' => putDst o.dst (.n r) F fun F' => k F' H' E') : o.wp P a w (After τ L w0 M β0 m0 n gs k) Q := by
  replace h := h.out
  exact wp_of_enter hr ((h β w G.ok).mono fun e w' ⟨r, H', E', β', he, h1, h2, h3, h4, h5, h6, h7⟩ => ⟨_, he, node_spec G hd hk h1 h2 h3 h4 h5 h6 h7⟩)
theorem cells_of (v : Value) : v.cells = (cellsOf v).toArray := by cases v <;> rfl
theorem deflt_spec (hτ : TabOk P τ) {o : Oper} {k : Tr → List Ck → List Fact → Prop} (G : Good τ L w0 M β0 m0 n β F gs H E a w) (hd : ∀ t, o.dst = some t → t < n) (hk : keyOk o.dst gs = true) {Q : Exit → Act → World → Prop}
    (h : opVal P τ L o .no F H E fun y => putDst o.dst (.n y) F fun F' => k F' H E) : o.wp P a w (After τ L w0 M β0 m0 n gs k) Q := by
  obtain ⟨y, h, hl, hq⟩ := opVal_spec hτ G.fr (gd := .no) trivial G.ok h
  refine wp_of_quiet G.ok hq fun w' hw => ?_
  obtain ⟨F', hk', G'⟩ := (G.world hw).put hd hk h (v := y.den β) rfl (fun z e => by injection e with e; subst e; exact hl) (fun _ _ _ _ e => by cases e)
  exact ⟨β, F', H, E, hk', G'⟩

set_option maxHeartbeats 1000000 in
theorem opEff_spec (hτ : TabOk P τ) {o : Oper} {k : Tr → List Ck → List Fact → Prop} (G : Good τ L w0 M β0 m0 n β F gs H E a w) (hd : ∀ t, o.dst = some t → t < n) (hk : keyOk o.dst gs = true) {Q : Exit → Act → World → Prop}
    (h : opEff P τ L o F H E k) : o.wp P a w (After τ L w0 M β0 m0 n gs k) Q := by
  obtain ⟨dst, op, ty, pos, aft, grd⟩ := o
  have hno := G.ok.no
  cases op with
  | alloc T =>
    simp only [opEff] at h
    split at h
    · exact h.elim
    · exact h.elim
    · rename_i _ hz
      split at h
      · rename_i hb
        obtain ⟨i, z, hi, hz1, hz2⟩ := (hτ.zero T).resolve_left (fun e => hz e)
        have := addH_spec h
        have hw : (execOp a.eval ⟨dst, .alloc T, ty, pos, aft, grd⟩).run P w = .ok (.value (.pointer (some ⟨w.heap.size, 0, none⟩))) { w with heap := w.heap.push (Ck.ob (.box T (τ.ti T).zero none)) } := by
          have : z.cells = (τ.ti T).zero.toArray := by rw [← hz2]
          simp [execOp, Instr.alloc, zeroValue, typeInfo, hi, hz1, newVar, newRow, newObj, Sem.run, this, Ck.ob]
        refine wp_of_run hw ?_
        have G' := G.add (.box T (τ.ti T).zero none) (Nat.le_refl 0) (fun b e => by cases e) (fun ty cs x e => by injection e with e1 e2 e3; subst e1; subst e2; exact Nat.eq_of_beq_eq_true hb)
        simp only [Nat.zero_add] at this
        obtain ⟨F', hk', G''⟩ := G'.put hd hk this (v := .pointer (some ⟨w.heap.size, 0, none⟩)) (by simp [slotOK, PV.den, ext_eq]) (fun y e => by injection e with e; subst e; simp [PV.lim]) (fun _ _ _ _ e => by cases e)
        exact ⟨_, F', _, E, hk', G''⟩
      · exact h.elim
  | box T x =>
    simp only [opEff] at h
    obtain ⟨y, h, hy⟩ := useV_spec G.fr (gd := .no) trivial hno h
    split at h
    · rename_i hb
      have := addH_spec h
      have hw : (execOp a.eval ⟨dst, .box T x, ty, pos, aft, grd⟩).run P w = .ok (.value (.pointer (some ⟨w.heap.size, 0, none⟩))) { w with heap := w.heap.push (Ck.ob (.box T (cellsOf y) none)) } := by
        simp [execOp, Instr.box, hy trivial, newVar, newRow, newObj, Sem.run, cells_of, Ck.ob]
      refine wp_of_run hw ?_
      have G' := G.add (.box T (cellsOf y) none) (Nat.le_refl 0) (fun b e => by cases e) (fun ty cs x e => by injection e with e1 e2 e3; subst e1; subst e2; exact Nat.eq_of_beq_eq_true hb)
      simp only [Nat.zero_add] at this
      obtain ⟨F', hk', G''⟩ := G'.put hd hk this (v := .pointer (some ⟨w.heap.size, 0, none⟩)) (by simp [slotOK, PV.den, ext_eq]) (fun y e => by injection e with e; subst e; simp [PV.lim]) (fun _ _ _ _ e => by cases e)
      exact ⟨_, F', _, E, hk', G''⟩
    · exact h.elim
  | store T x y =>
    simp only [opEff] at h
    obtain ⟨pa, h, hpl, hpa⟩ := useK_spec G.fr (gd := .no) trivial h
    obtain ⟨z, h, hz⟩ := useV_spec G.fr (gd := .no) trivial hno h
    split at h
    · exact h.elim
    · exact h.elim
    · exact h.elim
    · rename_i hb hones hT
      have hT : (τ.ti T).kind ≠ .other := fun e => hT e
      have hb' : (cellsOf z).length = (τ.ti T).size := Nat.eq_of_beq_eq_true hb
      have hsv : ∀ (b off : Nat) (cs : List Value) (ty' : TypeId), w.heap[b]? = some (.cells cs.toArray ty' (0, 0)) → off + (cellsOf z).length ≤ cs.length →
          (storeVar T ⟨b, off, none⟩ z).run P w = .ok () { w with heap := w.heap.setIfInBounds b (.cells (splice cs off (cellsOf z)).toArray ty' (0, 0)) } := fun b off cs ty' h1 h2 => by
        have := run_storeCells (P := P) (cellsOf z) b off 0 cs ty' w hones h1 (by simpa using h2)
        simpa [storeVar, run_sizeOf hτ hT, cells_of, hb'] using this
      split at h
      · rename_i i off _
        obtain ⟨c, hc, hh⟩ := getH_spec h
        clear h
        split at hh
        · rename_i ty' cs no
          have hlen := G.ok.len i ty' cs no hc
          have fin : ∀ cs' : List Value, cs' = splice cs off (cellsOf z) → off + (cellsOf z).length ≤ cs.length → cs'.length = cs.length →
              (setH H i (.box ty' cs' no) fun H' => putDst dst (.n (.v undef)) F fun F' => k F' H' E) → (Oper.mk dst (.store T x y) ty pos aft grd).wp P a w (After τ L w0 M β0 m0 n gs k) Q := by
            intro cs' hcs' hle hl' h
            obtain ⟨hi, h⟩ := setH_spec h
            have hrun := hsv (β i) off cs ty' (G.ok.own i _ hc rfl) hle
            have hw : (execOp a.eval ⟨dst, .store T x y, ty, pos, aft, grd⟩).run P w = .ok .skip { w with heap := w.heap.setIfInBounds (β i) (Ck.ob (.box ty' cs' no)) } := by
              simp [execOp, hpa trivial, hz trivial, PV.den, Instr.storeAt, Instr.sureAddr, hrun, Ck.ob, hcs']
            refine wp_of_skip hw ?_
            have G' := G.set (c' := .box ty' cs' no) hc rfl (Nat.le_refl 0) rfl (fun ty cs x e => by injection e with e1 e2 e3; subst e1; subst e2; rw [hl']; exact hlen)
            obtain ⟨F', hk', G''⟩ := G'.put hd hk h (v := undef) rfl (fun y e => by injection e with e; subst e; trivial) (fun _ _ _ _ e => by cases e)
            exact ⟨_, F', _, E, hk', G''⟩
          unfold storeK at hh
          split at hh
          · rename_i h0 hty
            have e0 : off = 0 := Nat.eq_of_beq_eq_true h0
            have ety : ty' = T := Nat.eq_of_beq_eq_true hty
            subst e0; subst ety
            refine fin _ ?_ (by omega) (by omega) hh
            simp [splice]; omega
          · obtain ⟨hle, h⟩ := spliceK_spec hh
            exact fin _ rfl hle (by simp [splice]; omega) h
        · exact hh.elim
      · rename_i ao
        replace h := h.out
        obtain ⟨i, b, o, ty', cs, hc, rfl, hle, h⟩ := h
        have hbi := G.ok.no i b _ hc rfl
        have hrun := hsv b o cs ty' (by rw [← hbi]; exact G.ok.own i _ hc rfl) hle
        have hw : (execOp a.eval ⟨dst, .store T x y, ty, pos, aft, grd⟩).run P w = .ok .skip { w with heap := w.heap.setIfInBounds (β i) (Ck.ob (.row ty' (splice cs o (cellsOf z)) (some b))) } := by
          simp [execOp, hpa trivial, hz trivial, PV.den, Instr.storeAt, Instr.sureAddr, hrun, Ck.ob, hbi]
        refine wp_of_skip hw ?_
        have G' := G.set (c' := .row ty' (splice cs o (cellsOf z)) (some b)) hc rfl (Nat.le_refl 0) rfl (fun ty cs x e => by cases e)
        obtain ⟨F', hk', G''⟩ := G'.put hd hk h (v := undef) rfl (fun y e => by injection e with e; subst e; trivial) (fun _ _ _ _ e => by cases e)
        exact ⟨_, F', _, E, hk', G''⟩
      · exact h.elim
  | call c =>
    obtain ⟨callee, args, ats⟩ := c
    have hargs : ∀ {ys : List Value}, args.toList.map a.eval = ys → args.map a.eval = ys.toArray := fun h => by apply Array.ext'; simpa using h
    cases callee with
    | invoke r m => exact raw_spec G hd hk (by simpa only [opEff] using h)
    | builtin b =>
      cases b with
      | len => exact deflt_spec hτ G hd hk (by simpa only [opEff] using h)
      | _ => exact raw_spec G hd hk (by simpa only [opEff] using h)
    | value x =>
      cases x with
      | func f =>
        simp only [opEff] at h
        split at h
        · rename_i hent
          obtain ⟨ys, h, _, hys⟩ := usesV_spec G.fr (gd := .no) trivial hno h
          refine calln_spec G hd hk (f := f) (args := ys) ?_ h
          simp [execOp, resolve, Act.eval, Deferred.ofValue, invoke, hargs (hys trivial), hτ.enters f hent]
        · exact raw_spec G hd hk h
      | _ =>
        simp only [opEff] at h
        obtain ⟨fv, h, hfv⟩ := useV_spec G.fr (gd := .no) trivial hno h
        obtain ⟨ys, h, _, hys⟩ := usesV_spec G.fr (gd := .no) trivial hno h
        split at h
        · obtain ⟨hent, h⟩ := h
          refine calln_spec G hd hk ?_ h
          simp [execOp, resolve, hfv trivial, Deferred.ofValue, invoke, hargs (hys trivial), hent]
        · exact h.elim
  | buildSlice T n parts =>
    simp only [opEff] at h
    obtain ⟨ys, h, hl, hys⟩ := usesV_spec G.fr (gd := .no) trivial hno h
    split at h
    · exact h.elim
    · exact h.elim
    · rename_i _ hT hE0 hz
      have hE' : (τ.ti (τ.ti T).elem).kind ≠ .other := fun e => hE0 e
      split at h
      · rename_i h1 h2
        obtain ⟨cs, hk1, hr⟩ := run_buildSlice (P := P) hτ hT hE' (fun e => hz e) (Nat.eq_of_beq_eq_true h1) (n := n) (by simpa using Nat.le_of_ble_eq_true h2) (by simpa using hl) h
        have e : (parts.map fun (x : Nat × Operand) => (x.1, a.eval x.2)) = ((parts.toList.map (·.1)).zip ys).toArray := by
          rw [← hys trivial]
          apply Array.ext'
          simp [List.zip_map', Function.comp_def]
        have hw : (execOp a.eval ⟨dst, .buildSlice T n parts, ty, pos, aft, grd⟩).run P w = .ok (.value (.slice (some ⟨w.heap.size, 0, none⟩) n n)) { w with heap := w.heap.push (Ck.ob (.row (τ.ti T).elem cs (some w.heap.size))) } := by
          simp only [execOp]
          rw [e]
          simp [hr w, Ck.ob]
        have := addH_spec (hk1 w.heap.size)
        refine wp_of_run hw ?_
        have G' := G.add (.row (τ.ti T).elem cs (some w.heap.size)) (Nat.le_refl 0) (fun b e => by injection e with e; exact e.symm) (fun ty cs x e => by cases e)
        obtain ⟨F', hk', G''⟩ := G'.put hd hk this (v := .slice (some ⟨w.heap.size, 0, none⟩) n n) (by simp [slotOK, PV.den]) (fun y e => by injection e with e; subst e; trivial) (fun _ _ _ _ e => by cases e)
        exact ⟨_, F', _, E, hk', G''⟩
      · exact h.elim
    · exact h.elim
  | convert _ T _ =>
    simp only [opEff] at h
    split at h
    · exact raw_spec G hd hk h
    · exact deflt_spec hτ G hd hk h
  | makeSlice _ _ _ => exact raw_spec G hd hk (by simpa only [opEff] using h)
  | makeMap _ _ => exact raw_spec G hd hk (by simpa only [opEff] using h)
  | mapUpdate _ _ _ _ => exact raw_spec G hd hk (by simpa only [opEff] using h)
  | insert _ _ _ _ => exact raw_spec G hd hk (by simpa only [opEff] using h)
  | range _ _ => exact raw_spec G hd hk (by simpa only [opEff] using h)
  | next _ _ => exact raw_spec G hd hk (by simpa only [opEff] using h)
  | entryStore _ _ _ _ => exact raw_spec G hd hk (by simpa only [opEff] using h)
  | defer _ => simp only [opEff] at h
  | go _ => simp only [opEff] at h
  | select _ _ => simp only [opEff] at h
  | recv _ _ _ => simp only [opEff] at h
  | send _ _ => simp only [opEff] at h
  | _ => exact deflt_spec hτ G hd hk (by simpa only [opEff] using h)
end
end Go.Q
