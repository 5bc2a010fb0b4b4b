/-
  The engine is sound: what an operation that turns nothing yields. Conditions: as stated at each.
-/
import Derived.Test.YtkidlkcmpbnhpaaDoorQe6
namespace Go.Q
open Go
variable {P : Program} {τ : Tab} {L : Nat → Prop}
section
variable {β : Nat → Nat} {n : Nat} {F : Tr} {gs : List (Nat × Nat)} {a : Act} {H : List Ck} {E : List Fact} {gd : Gd}

theorem isBool {y : PV} {k : Bool → Prop} (h : match y with | .v (.bool c0) => k c0 | _ => False) : ∃ c0, y = .v (.bool c0) ∧ k c0 := by
  split at h
  · exact ⟨_, rfl, h⟩
  · exact h.elim
theorem useB_spec (hF : FrOk β n H.length F gs a) (hg : GdOk F gd) {x : Operand} {k : Bool → Prop} (h : useK gd F x fun y => match y with | .v (.bool c0) => k c0 | _ => False) :
    ∃ c0, (∀ t, x = .tmp t → ∃ e0, (F.get t).ask = some (e0, c0) ∧ (gd.holds → e0 = true)) ∧ (gd.holds → a.eval x = .bool c0) ∧ k c0 := by
  unfold useK ldK at h
  cases x with
  | tmp t =>
    simp only [Tr.getK_iff] at h
    have hs := hF.slot t
    generalize hv : F.get t = s at h hs
    cases s with
    | n y =>
      obtain ⟨c0, rfl, h⟩ := isBool h
      exact ⟨c0, fun u e => (by injection e with e; subst e; rw [hv]; exact ⟨true, rfl, fun _ => rfl⟩), fun _ => hs, h⟩
    | u => exact h.elim
    | g j b e y =>
      obtain ⟨hk, he⟩ := selG_spec hF hg h e (hF.star t j b e y hv).1
      obtain ⟨c0, rfl, h2⟩ := isBool hk
      refine ⟨c0, fun u e' => (by injection e' with e'; subst e'; rw [hv]; exact ⟨e, rfl, he⟩), fun hh => ?_, h2⟩
      have hs : a.tmps.getD t undef = if e = true then PV.den β (.v (.bool c0)) else undef := hs
      rw [if_pos (he hh)] at hs
      exact hs
  | const v => obtain ⟨c0, e, h⟩ := isBool h; exact ⟨c0, fun _ e => (by cases e), fun _ => (by injection e), h⟩
  | global v => exact h.elim
  | func v => exact h.elim
theorem fieldAt_run (hτ : TabOk P τ) {T f off m : Nat} {g : Bool} (hT : (τ.ti T).kind = .struct) (hf : (τ.ti T).offs[f]? = some (off, m, g)) (ad : Addr) (w : World) :
    (Instr.fieldAt T (.pointer (some ad)) f).run P w = .ok (.pointer (some (ad.add off))) w := by
  obtain ⟨fs, fd, hu, hfd, hok⟩ := field_of hτ hT hf
  obtain ⟨hs, hn, ho, _⟩ := run_fieldSize hτ hok w
  simp [Instr.fieldAt, run_underlying hu, hfd, Instr.sureAddr, fieldPlace, hs, hn, ho]
theorem field_run (hτ : TabOk P τ) {T f off m : Nat} {g : Bool} (hT : (τ.ti T).kind = .struct) (hf : (τ.ti T).offs[f]? = some (off, m, g)) (cs : List Value) {k : Value → Prop} (h : mkVal g m off cs k) :
    ∃ v, k v ∧ ∀ w : World, (Instr.field T (.agg cs.toArray) f).run P w = .ok v w := by
  obtain ⟨fs, fd, hu, hfd, hok⟩ := field_of hτ hT hf
  obtain ⟨v, hk, h⟩ := mkVal_spec h
  refine ⟨v, hk, fun w => ?_⟩
  obtain ⟨hs, hn, ho, hg⟩ := run_fieldSize hτ hok w
  rcases h with ⟨e, y, hy, rfl⟩ | ⟨e, hl, rfl⟩
  · subst e
    simp [Instr.field, run_underlying hu, hfd, asAgg, part, hg, ho, hy]
  · subst e
    simp [Instr.field, run_underlying hu, hfd, asAgg, part, hg, hs, ho, List.take_drop]
theorem kind_under (hτ : TabOk P τ) {T : Nat} (h : (τ.ti T).kind = .slice) : P.underlying T = some (.slice (τ.ti T).elem) := by
  obtain ⟨i, d, hi, hd, _, _, _, ht⟩ := tab_of hτ (T := T) (by rw [h]; simp)
  unfold tiOk at ht
  rw [hi, hd, h] at ht
  cases d <;> simp at ht
  rw [hd]; simp [ht]
theorem kind_int (hτ : TabOk P τ) {T : Nat} {k : IntKind} (h : (τ.ti T).kind = .int k) : P.underlying T = some (.int k) := by
  obtain ⟨i, d, hi, hd, _, _, _, ht⟩ := tab_of hτ (T := T) (by rw [h]; simp)
  unfold tiOk at ht
  rw [hi, hd, h] at ht
  cases d <;> simp at ht
  rw [hd]; simp [ht]
theorem kind_string (hτ : TabOk P τ) {T : Nat} (h : (τ.ti T).kind = .string) : P.underlying T = some .string := by
  obtain ⟨i, d, hi, hd, _, _, _, ht⟩ := tab_of hτ (T := T) (by rw [h]; simp)
  unfold tiOk at ht
  rw [hi, hd, h] at ht
  cases d <;> simp at ht
  rw [hd]
theorem toArray_toList_agg (cs : Array Value) : Value.agg cs = .agg cs.toList.toArray := by simp

set_option maxHeartbeats 1000000 in
theorem opVal_spec (hτ : TabOk P τ) (hF : FrOk β n H.length F gs a) (hg : GdOk F gd) {w0 : World} (hok0 : Ok τ L β H E w0) {o : Oper} {k : PV → Prop} (h : opVal P τ L o gd F H E k) :
    ∃ y, k y ∧ y.lim H.length ∧ Quiet P τ L β H E gd o a y := by
  obtain ⟨dst, op, ty, pos, aft, grd⟩ := o
  have hno := hok0.no
  cases op with
  | move x =>
    obtain ⟨y, hk, hl, he⟩ := useK_spec hF hg h
    exact ⟨y, hk, hl, Quiet.run fun hh w _ => by simp [execOp, he hh]⟩
  | assign x =>
    obtain ⟨y, hk, hl, he⟩ := useK_spec hF hg h
    exact ⟨y, hk, hl, Quiet.run fun hh w _ => by simp [execOp, he hh]⟩
  | pick c x y =>
    simp only [opVal] at h
    obtain ⟨c0, e0, he, h⟩ := useB_spec hF hg h
    obtain ⟨r, hk, hl, hr⟩ := pick_spec hF hg e0 h
    refine ⟨r, hk, hl, Quiet.run fun hh w _ => ?_⟩
    rw [← hr hh]
    simp [execOp, he hh, asBool]
  | fieldAddr T x f =>
    simp only [opVal] at h
    obtain ⟨y, h, hl, he⟩ := useK_spec hF hg h
    split at h
    · rename_i hT
      obtain ⟨off, m, g, hf, h⟩ := offK_spec h
      split at h
      · refine ⟨_, h, hl, Quiet.run fun hh w _ => ?_⟩
        simp [execOp, he hh, PV.den, fieldAt_run hτ hT hf, add_off]
      · refine ⟨_, h, trivial, Quiet.run fun hh w _ => ?_⟩
        simp [execOp, he hh, PV.den, fieldAt_run hτ hT hf]
      · exact h.elim
    · exact h.elim
  | field T x f =>
    simp only [opVal] at h
    obtain ⟨y, h, hl, he⟩ := useK_spec hF hg h
    split at h
    · rename_i hT
      obtain ⟨off, m, g, hf, h⟩ := offK_spec h
      obtain ⟨v, hk, hr⟩ := field_run (P := P) hτ hT hf _ h
      refine ⟨_, hk, trivial, Quiet.run fun hh w _ => ?_⟩
      have := hr w
      rw [← toArray_toList_agg] at this
      simp [execOp, he hh, PV.den, this]
    · exact h.elim
  | load T x =>
    simp only [opVal] at h
    obtain ⟨y, h, hl, he⟩ := useK_spec hF hg h
    split at h
    · exact h.elim
    · rename_i hT
      have hT : (τ.ti T).kind ≠ .other := fun e => hT e
      split at h
      · obtain ⟨c, hc, h⟩ := getH_spec h
        split at h
        · obtain ⟨v, hk, hr⟩ := load_box (P := P) (k := fun z => k (.v z)) hτ hok0 hT hc h
          refine ⟨_, hk, trivial, Quiet.run fun hh w hok => ?_⟩
          simp [execOp, he hh, PV.den, Instr.loadAt, Instr.sureAddr, hr w hok]
        · exact h.elim
      · rename_i ao
        replace h := h.out
        obtain ⟨cs, hcl, hcs, h⟩ := h
        cases hga : (τ.ti T).agg with
        | true =>
          rw [hga] at h
          refine ⟨_, h, trivial, Quiet.run fun hh w hok => ?_⟩
          obtain ⟨ad, rfl, hc⟩ := hcs hh β w hok
          simp [execOp, he hh, PV.den, Instr.loadAt, Instr.sureAddr, run_loadVar_agg hτ hT hga hcl hc]
        | false =>
          rw [hga] at h
          obtain ⟨y, rfl, h⟩ := h
          refine ⟨_, h, trivial, Quiet.run fun hh w hok => ?_⟩
          obtain ⟨ad, rfl, hc⟩ := hcs hh β w hok
          have hc' : w.cell? ad = some y := by simpa [Addr.add] using hc 0 y rfl
          simp [execOp, he hh, PV.den, Instr.loadAt, Instr.sureAddr, run_loadVar_one hτ hT hga hc']
      · exact h.elim
  | binOp op T x y T2 =>
    simp only [opVal] at h
    obtain ⟨u, h, hu⟩ := useV_spec hF hg hno h
    obtain ⟨v, h, hv⟩ := useV_spec hF hg hno h
    unfold binV at h
    split at h
    · split at h
      · rename_i hkb
        have hkk := kb_eq hkb
        subst hkk
        rcases binI_spec (P := P) h with h | ⟨r, hk, hr⟩
        · exact vraw_spec hF hg h
        · refine ⟨_, hk, trivial, Quiet.run fun hh w hok => ?_⟩
          simp [execOp, hu hh, hv hh, PV.den, eqGuard_int, hr]
      · exact vraw_spec hF hg h
    · rcases binS_spec (P := P) h with h | ⟨r, hk, hr⟩
      · exact vraw_spec hF hg h
      · refine ⟨_, hk, trivial, Quiet.run fun hh w hok => ?_⟩
        simp [execOp, hu hh, hv hh, PV.den, eqGuard_string, hr]
    · exact vraw_spec hF hg h
  | unOp op T x =>
    cases op with
    | not =>
      simp only [opVal] at h
      obtain ⟨u, h, hu⟩ := useV_spec hF hg hno h
      split at h
      · refine ⟨_, h, trivial, Quiet.run fun hh w hok => ?_⟩
        simp [execOp, hu hh, PV.den, Op.unary]
      · exact h.elim
    | _ => exact vraw_spec hF hg (by simpa only [opVal] using h)
  | convert src T x =>
    simp only [opVal] at h
    obtain ⟨u, h, hu⟩ := useV_spec hF hg hno h
    split at h
    · rename_i hd hs
      refine ⟨_, h, trivial, Quiet.run fun hh w hok => ?_⟩
      simp [execOp, hu hh, PV.den, convert, run_underlying (kind_int hτ hd), run_underlying (kind_int hτ hs), Conv.intToInt]
    · exact vraw_spec hF hg h
  | indexAddr T x i =>
    simp only [opVal] at h
    obtain ⟨u, h, hu⟩ := useV_spec hF hg hno h
    obtain ⟨v, h, hv⟩ := useV_spec hF hg hno h
    split at h
    · have hT : (τ.ti T).kind = .slice := by assumption
      split at h
      · exact h.elim
      · rename_i hE
        have hE : (τ.ti (τ.ti T).elem).kind ≠ .other := fun e => hE e
        replace h := h.out
        obtain ⟨ad, had, h⟩ := h
        refine ⟨_, h, trivial, Quiet.run fun hh w hok => ?_⟩
        obtain ⟨rfl, h1, h2⟩ := had hh
        have hu' := kind_under hτ hT
        simp [execOp, hu hh, hv hh, PV.den, Instr.indexAt, asIntOf, run_underlying hu', h1, h2, run_sizeOf hτ hE]
    · exact h.elim
  | extract x i =>
    simp only [opVal] at h
    obtain ⟨u, h, hu⟩ := useV_spec hF hg hno h
    split at h
    · obtain ⟨v, hv, h⟩ := tupK_spec h
      refine ⟨_, h, trivial, Quiet.run fun hh w hok => ?_⟩
      simp [execOp, hu hh, PV.den, Instr.extract] at *
      simp [hv]
    · exact h.elim
  | build T parts =>
    simp only [opVal] at h
    obtain ⟨ys, h, hl, hys⟩ := usesV_spec hF hg hno h
    split at h
    · exact h.elim
    · rename_i hT hz
      obtain ⟨cs, hk, hr⟩ := run_build (P := P) (k := fun cs => k (.v (.agg cs.toArray))) hτ hT hz (by simpa using hl) h
      refine ⟨_, hk, trivial, Quiet.run fun hh w hok => ?_⟩
      have e : (parts.map fun (x : Nat × Operand) => (x.1, a.eval x.2)) = ((parts.toList.map (·.1)).zip ys).toArray := by
        rw [← hys hh]
        apply Array.ext'
        simp [List.zip_map', Function.comp_def]
      simp only [execOp]
      rw [e]
      simp [hr w, PV.den]
    · exact h.elim
  | makeFunc fn first captured =>
    simp only [opVal] at h
    obtain ⟨fs, h, _, hfs⟩ := usesV_spec hF hg hno h
    obtain ⟨cs, h, _, hcs⟩ := usesV_spec hF hg hno h
    refine ⟨_, h, trivial, Quiet.run fun hh w hok => ?_⟩
    have e1 : first.map a.eval = fs.toArray := by apply Array.ext'; simpa using hfs hh
    have e2 : captured.map a.eval = cs.toArray := by apply Array.ext'; simpa using hcs hh
    simp [execOp, Instr.makeFunc, PV.den, e1, e2]
  | call c =>
    obtain ⟨callee, args, ats⟩ := c
    have hargs : ∀ {ys : List Value}, args.toList.map a.eval = ys → args.map a.eval = ys.toArray := fun h => by apply Array.ext'; simpa using h
    cases callee with
    | invoke r m => exact vraw_spec hF hg (by simpa only [opVal] using h)
    | builtin b =>
      cases b with
      | len =>
        simp only [opVal] at h
        obtain ⟨ys, h, _, hys⟩ := usesV_spec hF hg hno h
        split at h
        · rename_i T1 hats _
          split at h
          · rename_i hT
            refine ⟨_, h, trivial, Quiet.run fun hh w hok => ?_⟩
            obtain ⟨T, e, hT'⟩ : ∃ T, ats = #[T] ∧ (τ.ti T).kind = .string := ⟨_, by apply Array.ext'; simpa using hats, hT⟩
            simp [execOp, resolve, invoke, builtin, hargs (hys hh), e, Builtin.len_, run_underlying (kind_string hτ hT'), PV.den, goInt]
          · exact h.elim
        · rename_i T1 hats _
          split at h
          · rename_i hT
            refine ⟨_, h, trivial, Quiet.run fun hh w hok => ?_⟩
            obtain ⟨T, e, hT'⟩ : ∃ T, ats = #[T] ∧ (τ.ti T).kind = .slice := ⟨_, by apply Array.ext'; simpa using hats, hT⟩
            simp [execOp, resolve, invoke, builtin, hargs (hys hh), e, Builtin.len_, run_underlying (kind_under hτ hT'), PV.den, goInt]
          · exact h.elim
        · exact vraw_spec hF hg h
      | _ => exact vraw_spec hF hg (by simpa only [opVal] using h)
    | value x =>
      cases x with
      | func f =>
        simp only [opVal] at h
        split at h
        · rename_i hent
          obtain ⟨ys, h, _, hys⟩ := usesV_spec hF hg hno h
          replace h := h.out
          obtain ⟨r, hc, hk⟩ := h
          refine ⟨_, hk, trivial, call_quiet (f := f) (args := ys) (fun hh w => ?_) hc⟩
          simp [execOp, resolve, Act.eval, Deferred.ofValue, invoke, hargs (hys hh), hτ.enters f hent]
        · exact vraw_spec hF hg h
      | _ =>
        simp only [opVal] at h
        obtain ⟨fv, h, hfv⟩ := useV_spec hF hg hno h
        obtain ⟨ys, h, _, hys⟩ := usesV_spec hF hg hno h
        split at h
        · obtain ⟨hent, h⟩ := h
          replace h := h.out
          obtain ⟨r, hc, hk⟩ := h
          refine ⟨_, hk, trivial, call_quiet (fun hh w => ?_) hc⟩
          simp [execOp, resolve, hfv hh, Deferred.ofValue, invoke, hargs (hys hh), hent hh]
        · exact h.elim
  | _ => exact vraw_spec hF hg (by simpa only [opVal] using h)
end
end Go.Q
