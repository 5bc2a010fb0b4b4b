/-
  The engine is sound: frames, operands. Conditions: as stated at each.
-/
import Derived.Test.YtkidlkcmpbnhpaaDoorQe2
import Derived.WalkKit
namespace Go.Q
open Go
variable {P : Program} {τ : Tab} {L : Nat → Prop}

theorem Tr.getK_iff (k : SV → Prop) : ∀ (T : Tr) (t : Nat), T.getK t k ↔ k (T.get t)
  | .e, _ => Iff.rfl
  | .n _ x _, 0 => Iff.rfl
  | .n l x r, t + 1 => by
    unfold Tr.getK Tr.get
    split
    · exact Tr.getK_iff k l _
    · exact Tr.getK_iff k r _
theorem half_inj {t u : Nat} (hm : Nat.mod t 2 = Nat.mod u 2) (hd : Nat.div t 2 = Nat.div u 2) : t = u := by
  have h1 : t % 2 = u % 2 := hm
  have h2 : t / 2 = u / 2 := hd
  omega
theorem Tr.putK_spec (y : SV) : ∀ (T : Tr) (t : Nat) (k : Tr → Prop), T.putK t y k → ∃ T', k T' ∧ T'.get t = y ∧ ∀ u, u ≠ t → T'.get u = T.get u
  | .e, _, _, h => h.elim
  | .n l x r, 0, k, h => ⟨_, h, rfl, fun u hu => by cases u with | zero => exact absurd rfl hu | succ u => rfl⟩
  | .n l x r, t + 1, k, h => by
    unfold Tr.putK at h
    split at h
    · rename_i hm
      obtain ⟨T', hk, h1, h2⟩ := Tr.putK_spec y l _ _ h
      refine ⟨_, hk, by unfold Tr.get; rw [hm]; exact h1, fun u hu => ?_⟩
      cases u with
      | zero => rfl
      | succ u =>
        unfold Tr.get
        split
        · rename_i hu0
          exact h2 _ fun hd => hu (by rw [half_inj (hu0.trans hm.symm) hd])
        · rfl
    · rename_i hm
      obtain ⟨T', hk, h1, h2⟩ := Tr.putK_spec y r _ _ h
      refine ⟨_, hk, ?_, fun u hu => ?_⟩
      · unfold Tr.get
        split
        · rename_i h0; exact absurd h0 hm
        · exact h1
      · cases u with
        | zero => rfl
        | succ u =>
          unfold Tr.get
          split
          · rfl
          · rename_i hu0
            refine h2 _ fun hd => hu ?_
            have a1 : t % 2 ≠ 0 := hm
            have a2 : u % 2 ≠ 0 := hu0
            have a3 : u / 2 = t / 2 := hd
            omega

def slotOK (β : Nat → Nat) : SV → Value → Prop
  | .u, _ => True
  | .n y, v => v = y.den β
  | .g _ _ e y, v => v = if e = true then y.den β else undef
def SV.ask : SV → Option (Bool × Bool)
  | .n (.v (.bool c)) => some (true, c)
  | .g _ _ e (.v (.bool c)) => some (e, c)
  | _ => none
/-- No slot is written that a guard looks at. -/
def gsOk : List (Nat × Nat) → Prop
  | [] => True
  | (t, _) :: r => (∀ u j, (u, j) ∈ r → j ≠ t) ∧ gsOk r
/-- The frame is told rightly. -/
structure FrOk (β : Nat → Nat) (n m : Nat) (F : Tr) (gs : List (Nat × Nat)) (a : Act) : Prop where
  defers : a.defers = []
  size : a.tmps.size = n
  slot : ∀ t, slotOK β (F.get t) (a.tmps.getD t undef)
  limn : ∀ t y, F.get t = .n y → y.lim m
  limg : ∀ t j b e y, F.get t = .g j b e y → y.lim m
  star : ∀ t j b e y, F.get t = .g j b e y → (∃ e0 c, (F.get j).ask = some (e0, c) ∧ e = (e0 && eff b c)) ∧ (t, j) ∈ gs
  ord : gsOk gs
def Up (F : Tr) : Nat → Gd → Prop
  | _, .no => True
  | j, .yes j' b' e' u => (∃ y, F.get j = .g j' b' e' y) ∧ Up F j' u
def GdOk (F : Tr) : Gd → Prop
  | .no => True
  | .yes j b e u => (∃ e0 c, (F.get j).ask = some (e0, c) ∧ e = (e0 && eff b c)) ∧ Up F j u

theorem PV.den_ext {β β' : Nat → Nat} {m : Nat} (h : ∀ i, i < m → β' i = β i) : ∀ {y : PV}, y.lim m → y.den β' = y.den β
  | .v _, _ => rfl
  | .p i o, hl => by simp only [PV.den]; rw [h i hl]
theorem PV.lim_mono {m m' : Nat} (h : m ≤ m') : ∀ {y : PV}, y.lim m → y.lim m'
  | .v _, _ => trivial
  | .p _ _, hl => Nat.lt_of_lt_of_le hl h

section
variable {β : Nat → Nat} {n : Nat} {F : Tr} {gs : List (Nat × Nat)} {a : Act} {H : List Ck} {E : List Fact} {gd : Gd}

theorem getD_put_same {a : Act} {d : Nat} {v : Value} (h : d < a.tmps.size) : (a.put (some d) v).tmps.getD d undef = v := by
  simp [Act.put, Array.getD, h]
theorem getD_put_other {a : Act} {d t : Nat} {v : Value} (h : t ≠ d) : (a.put (some d) v).tmps.getD t undef = a.tmps.getD t undef := by
  simp only [Act.put, Array.getD_eq_getD_getElem?]
  rw [Array.getElem?_setIfInBounds_ne (Ne.symm h)]

theorem ask_g {j : Nat} {b e : Bool} {y : PV} {r : Bool × Bool} (h : (SV.g j b e y).ask = some r) : r.1 = e := by
  cases y with
  | p i o => cases h
  | v x =>
    cases x <;> first | (cases h; done) | (injection h with h; rw [← h])
theorem selG_spec {m : Nat} (hF : FrOk β n m F gs a) : ∀ {gd : Gd}, GdOk F gd → ∀ {j : Nat} {b : Bool} {K : Prop}, selG gd j b K → ∀ e, (∃ e0 c, (F.get j).ask = some (e0, c) ∧ e = (e0 && eff b c)) → K ∧ (gd.holds → e = true)
  | .no, _, _, _, _, h, _, _ => h.elim
  | .yes j' b' e' u, hg, j, b, K, h, e, he => by
    obtain ⟨⟨e0', c', hask', he'⟩, hup⟩ := hg
    have up : selG u j b K → K ∧ (e' = true → e = true) := fun hu => by
      cases u with
      | no => exact hu.elim
      | yes j2 b2 e2 u2 =>
        obtain ⟨⟨y, hy⟩, hup2⟩ := hup
        obtain ⟨hK, hh⟩ := selG_spec hF (gd := .yes j2 b2 e2 u2) ⟨(hF.star _ _ _ _ _ hy).1, hup2⟩ hu e he
        refine ⟨hK, fun h1 => hh ?_⟩
        rw [hy] at hask'
        have := ask_g hask'
        simp only at this
        rw [he', Bool.and_eq_true, this] at h1
        exact h1.1
    have here : Nat.beq j j' = true → b = b' → K → K ∧ (e' = true → e = true) := fun hj hb hK => by
      have := Nat.eq_of_beq_eq_true hj
      subst this; subst hb
      obtain ⟨e0, c, hask, he⟩ := he
      rw [hask'] at hask
      injection hask with hask
      injection hask with h1 h2
      subst h1; subst h2
      exact ⟨hK, fun h => by rw [he, ← he']; exact h⟩
    unfold selG at h
    split at h
    · rename_i hj; exact here hj rfl h
    · rename_i hj; exact here hj rfl h
    · exact up h
/-- What an operand holds. -/
theorem useK_spec (hF : FrOk β n H.length F gs a) (hg : GdOk F gd) {x : Operand} {k : PV → Prop} (h : useK gd F x k) :
    ∃ y, k y ∧ y.lim H.length ∧ (gd.holds → a.eval x = y.den β) := by
  unfold useK ldK at h
  cases x with
  | const v => exact ⟨_, h, trivial, fun _ => rfl⟩
  | global g => exact ⟨_, h, trivial, fun _ => rfl⟩
  | func f => exact ⟨_, h, trivial, fun _ => rfl⟩
  | tmp t =>
    simp only at h
    rw [Tr.getK_iff] at h
    have hs := hF.slot t
    generalize hsv : F.get t = sv at h hs
    cases sv with
    | n y => exact ⟨y, h, hF.limn t y hsv, fun _ => hs⟩
    | u => exact h.elim
    | g j b e y =>
      obtain ⟨hk, he⟩ := selG_spec hF hg h e (hF.star t j b e y hsv).1
      refine ⟨y, hk, hF.limg _ _ _ _ _ hsv, fun hh => ?_⟩
      have hs' : a.tmps.getD t undef = if e = true then y.den β else undef := hs
      rw [if_pos (he hh)] at hs'
      exact hs'

theorem getH_spec {k : Ck → Prop} : ∀ {H : List Ck} {i : Nat}, getH H i k → ∃ c, H[i]? = some c ∧ k c
  | [], _, h => h.elim
  | c :: _, 0, h => ⟨c, rfl, h⟩
  | _ :: r, i + 1, h => by
    obtain ⟨c, h1, h2⟩ := getH_spec (H := r) (i := i) h
    exact ⟨c, by simpa using h1, h2⟩
theorem setH_spec {d : Ck} : ∀ {H : List Ck} {i : Nat} {k : List Ck → Prop}, setH H i d k → i < H.length ∧ k (H.set i d)
  | [], _, _, h => h.elim
  | _ :: _, 0, _, h => ⟨by simp, h⟩
  | c :: r, i + 1, k, h => by
    obtain ⟨h1, h2⟩ := setH_spec (H := r) (i := i) h
    exact ⟨by simpa using h1, h2⟩
theorem addH_spec {d : Ck} : ∀ {H : List Ck} {n : Nat} {k : Nat → List Ck → Prop}, addH H d n k → k (n + H.length) (H ++ [d])
  | [], _, _, h => h
  | c :: r, n, k, h => by
    have := addH_spec (H := r) (n := n + 1) h
    simpa [Nat.add_assoc, Nat.add_comm 1 r.length] using this

theorem valK_spec (hno : ∀ (i b : Nat) (c : Ck), H[i]? = some c → c.no = some b → β i = b) {y : PV} {k : Value → Prop} (h : valK H y k) : ∃ v, k v ∧ y.den β = v := by
  cases y with
  | v x => exact ⟨x, h, rfl⟩
  | p i o =>
    obtain ⟨c, hc, h⟩ := getH_spec h
    cases hn : c.no with
    | none => rw [hn] at h; exact h.elim
    | some b =>
      rw [hn] at h
      exact ⟨_, h, by simp only [PV.den]; rw [hno i b c hc hn]⟩
theorem useV_spec (hF : FrOk β n H.length F gs a) (hg : GdOk F gd) (hno : ∀ (i b : Nat) (c : Ck), H[i]? = some c → c.no = some b → β i = b) {x : Operand} {k : Value → Prop} (h : useV gd F H x k) :
    ∃ v, k v ∧ (gd.holds → a.eval x = v) := by
  obtain ⟨y, h, _, he⟩ := useK_spec hF hg h
  obtain ⟨v, h, hv⟩ := valK_spec hno h
  exact ⟨v, h, fun hh => (he hh).trans hv⟩
theorem usesV_spec (hF : FrOk β n H.length F gs a) (hg : GdOk F gd) (hno : ∀ (i b : Nat) (c : Ck), H[i]? = some c → c.no = some b → β i = b) :
    ∀ {xs : List Operand} {k : List Value → Prop}, usesV gd F H xs k → ∃ vs, k vs ∧ vs.length = xs.length ∧ (gd.holds → xs.map a.eval = vs)
  | [], k, h => ⟨[], h, rfl, fun _ => rfl⟩
  | x :: r, k, h => by
    obtain ⟨v, h, hv⟩ := useV_spec hF hg hno h
    obtain ⟨vs, h, hl, hvs⟩ := usesV_spec hF hg hno h
    exact ⟨v :: vs, h, by simp [hl], fun hh => by simp [hv hh, hvs hh]⟩
theorem takeK_spec : ∀ {n : Nat} {l : List Value} {k : List Value → Prop}, takeK n l k → n ≤ l.length ∧ k (l.take n)
  | 0, _, _, h => ⟨Nat.zero_le _, h⟩
  | n + 1, [], k, h => h.elim
  | n + 1, x :: r, k, h => by
    obtain ⟨h1, h2⟩ := takeK_spec (n := n) (l := r) h
    exact ⟨by simpa using h1, by simpa using h2⟩
theorem dropK_spec : ∀ {n : Nat} {l : List Value} {k : List Value → Prop}, dropK n l k → n ≤ l.length ∧ k (l.drop n)
  | 0, _, _, h => ⟨Nat.zero_le _, h⟩
  | n + 1, [], k, h => h.elim
  | n + 1, x :: r, k, h => by
    obtain ⟨h1, h2⟩ := dropK_spec (n := n) (l := r) h
    exact ⟨by simpa using h1, by simpa using h2⟩
theorem overK_spec : ∀ {new cs : List Value} {k : List Value → Prop}, overK new cs k → new.length ≤ cs.length ∧ k (new ++ cs.drop new.length)
  | [], _, _, h => ⟨Nat.zero_le _, h⟩
  | v :: vs, [], k, h => h.elim
  | v :: vs, c :: r, k, h => by
    obtain ⟨h1, h2⟩ := overK_spec (new := vs) (cs := r) h
    exact ⟨by simpa using h1, by simpa using h2⟩
def splice (cs : List Value) (o : Nat) (new : List Value) : List Value := cs.take o ++ new ++ cs.drop (o + new.length)
theorem spliceK_spec : ∀ {o : Nat} {new cs : List Value} {k : List Value → Prop}, spliceK o new cs k → o + new.length ≤ cs.length ∧ k (splice cs o new)
  | 0, new, cs, k, h => by
    obtain ⟨h1, h2⟩ := overK_spec h
    exact ⟨by simpa using h1, by simpa [splice] using h2⟩
  | o + 1, new, [], k, h => h.elim
  | o + 1, new, x :: r, k, h => by
    obtain ⟨h1, h2⟩ := spliceK_spec (o := o) (new := new) (cs := r) h
    exact ⟨by simp; omega, by simpa [splice, Nat.add_right_comm o 1 new.length] using h2⟩
theorem mkVal_spec {g : Bool} {m o : Nat} {cs : List Value} {k : Value → Prop} (h : mkVal g m o cs k) :
    ∃ v, k v ∧ ((g = false ∧ ∃ y, cs[o]? = some y ∧ v = y) ∨ (g = true ∧ o + m ≤ cs.length ∧ v = .agg ((cs.drop o).take m).toArray)) := by
  unfold mkVal at h
  cases g with
  | false =>
    obtain ⟨h1, h⟩ := dropK_spec h
    cases hd : cs.drop o with
    | nil => rw [hd] at h; exact h.elim
    | cons y r =>
      rw [hd] at h
      exact ⟨y, h, .inl ⟨rfl, y, by have := congrArg (·[0]?) hd; simpa [List.getElem?_drop] using this, rfl⟩⟩
  | true =>
    obtain ⟨h1, h⟩ := dropK_spec h
    obtain ⟨h2, h⟩ := takeK_spec h
    exact ⟨_, h, .inr ⟨rfl, by simp at h2; omega, rfl⟩⟩
end
end Go.Q
