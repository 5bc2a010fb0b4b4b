/-
  The engine's words: a walk over the code of one function as a plain Lean function 'wp', which Lean unfolds by itself up to the next call, test, loop or reading of memory. Conditions: none (definitions and what follows from them by unfolding).
-/
import Derived.Calls
import Derived.Orders
import Derived.Scope
import Derived.Deep.Quiet
namespace Go.Q
open Go

/-- A value, or a pointer into an owned chunk. -/
inductive PV where
  | v (x : Value)
  | p (i o : Nat)
/-- What is known of a slot: plain; under a guard (slot j, wanted b; e: the operation is carried out); nothing. -/
inductive SV where
  | n (y : PV)
  | g (j : Nat) (b e : Bool) (y : PV)
  | u
/-- The guard of an operation, and the guards above it. -/
inductive Gd where
  | no
  | yes (j : Nat) (b e : Bool) (up : Gd)
def Gd.holds : Gd → Prop
  | .no => True
  | .yes _ _ e _ => e = true
def eff (b c : Bool) : Bool := match b with
  | true => c
  | false => !c
/-- An owned chunk of memory: a variable's cells; a row of cells; another object; its block's number, if it has been named; one that is owned no more. -/
inductive Ck where
  | box (ty : TypeId) (cs : List Value) (no : Option Nat)
  | row (ty : TypeId) (cs : List Value) (no : Option Nat)
  | obj (o : Obj) (no : Option Nat)
  | dead
def Ck.live : Ck → Bool
  | .dead => false
  | _ => true
def Ck.ob : Ck → Obj
  | .dead => .cells #[] 0 (0, 0)
  | .box ty cs _ => .cells cs.toArray ty (0, 0)
  | .row ty cs _ => .cells cs.toArray ty (0, 0)
  | .obj o _ => o
def Ck.no : Ck → Option Nat
  | .box _ _ n => n
  | .row _ _ n => n
  | .obj _ n => n
  | .dead => none
def Ck.pin (b : Nat) : Ck → Ck
  | .box ty cs _ => .box ty cs (some b)
  | .row ty cs _ => .row ty cs (some b)
  | .obj o _ => .obj o (some b)
  | .dead => .dead
/-- The world w' is as w was, but for the blocks in L and for new ones. -/
structure Kp (L : Nat → Prop) (w w' : World) : Prop where
  os : w'.os = w.os
  tape : w'.tape = w.tape
  output : w'.output = w.output
  size : w.heap.size ≤ w'.heap.size
  block : ∀ b, b < w.heap.size → ¬ L b → w'.heap[b]? = w.heap[b]?
/-- A fact on memory that does not lie in the blocks L. -/
structure Fact where
  hold : (Nat → Prop) → World → Prop
  keep : ∀ L w w', Kp L w w' → hold L w → hold L w'
  loc : ∀ L L' w, (∀ b, L' b → L b ∨ w.heap.size ≤ b) → hold L w → hold L' w
def Holds : List Fact → (Nat → Prop) → World → Prop
  | [], _, _ => True
  | f :: r, L, w => f.hold L w ∧ Holds r L w

def PV.den (β : Nat → Nat) : PV → Value
  | .v x => x
  | .p i o => .pointer (some ⟨β i, o, none⟩)
def PV.lim (m : Nat) : PV → Prop
  | .v _ => True
  | .p i _ => i < m
def loc (β : Nat → Nat) (H : List Ck) (b : Nat) : Prop := ∃ (i : Nat) (c : Ck), H[i]? = some c ∧ c.live = true ∧ β i = b
def both (L : Nat → Prop) (β : Nat → Nat) (H : List Ck) (b : Nat) : Prop := L b ∨ loc β H b

/-! The table of types -/
inductive TK where
  | int (k : IntKind) | float (k : FloatKind) | bool | string | ptr | slice | struct | array (n : Nat) | map | func | iface | other
structure TI where
  kind : TK
  size : Nat
  bytes : Nat
  agg : Bool
  zero : List Value
  /-- of a struct: each field's offset, cells, and whether it is a struct or an array -/
  offs : List (Nat × Nat × Bool)
  elem : Nat
structure Tab where
  ti : Nat → TI
  /-- how many functions there are -/
  nf : Nat
  /-- those without a body -/
  ext : List Nat
def inL (f : Nat) : List Nat → Bool
  | [] => false
  | g :: r => match Nat.beq f g with
    | true => true
    | false => inL f r
def Tab.enters (τ : Tab) (f : Nat) : Bool := match Nat.blt f τ.nf with
  | true => (match inL f τ.ext with | true => false | false => true)
  | false => false
def fieldOk (P : Program) (f : Field) (x : Nat × Nat × Bool) : Bool :=
  f.offset == x.1 && x.2.1 != 0 && ((P.info? f.type).map (·.size) == some x.2.1) &&
  (match P.underlying f.type with | some (.struct _) | some (.array _ _) => x.2.2 | some _ => !x.2.2 | none => false)
def fieldsOk (P : Program) : List Field → List (Nat × Nat × Bool) → Bool
  | [], [] => true
  | f :: fs, x :: xs => fieldOk P f x && fieldsOk P fs xs
  | _, _ => false
/-- Of each kind: what the program's own table says. -/
def tiOk (P : Program) (T : TypeId) (t : TI) : Bool :=
  match P.info? T, P.underlying T with
  | some i, some d =>
    (i.size == t.size) && (i.bytes == t.bytes) &&
    (match d with | .struct _ | .array _ _ => t.agg | _ => !t.agg) &&
    (match t.kind, d with
      | .int k, .int k' => k == k'
      | .float k, .float k' => k == k'
      | .bool, .bool => true
      | .string, .string => true
      | .ptr, .pointer e => e == t.elem
      | .slice, .slice e => e == t.elem
      | .struct, .struct fs => fieldsOk P fs.toList t.offs
      | .array n, .array n' e => n == n' && e == t.elem
      | .map, .map _ _ => true
      | .func, .func _ _ _ => true
      | .iface, .interface _ => true
      | .other, _ => true
      | _, _ => false)
  | _, _ => false
def zOk (P : Program) (T : TypeId) (t : TI) : Prop := ∃ i z, P.info? T = some i ∧ i.zero = some z ∧ z.cells.toList = t.zero
structure TabOk (P : Program) (τ : Tab) : Prop where
  enters : ∀ f, τ.enters f = true → ∀ args w, (callFunc f args).run P w = .ok (.enter f args) w
  info : ∀ T, (τ.ti T).kind = .other ∨ tiOk P T (τ.ti T) = true
  zero : ∀ T, (τ.ti T).zero = [] ∨ zOk P T (τ.ti T)

structure Ok (τ : Tab) (L : Nat → Prop) (β : Nat → Nat) (H : List Ck) (E : List Fact) (w : World) : Prop where
  inj : ∀ (i j : Nat) (c d : Ck), H[i]? = some c → H[j]? = some d → c.live = true → d.live = true → β i = β j → i = j
  own : ∀ (i : Nat) (c : Ck), H[i]? = some c → c.live = true → w.heap[β i]? = some c.ob
  no : ∀ (i b : Nat) (c : Ck), H[i]? = some c → c.no = some b → β i = b
  len : ∀ (i ty : Nat) (cs : List Value) (n : Option Nat), H[i]? = some (.box ty cs n) → cs.length = (τ.ti ty).size
  lt : ∀ b, L b → b < w.heap.size
  sep : ∀ (i : Nat) (c : Ck), H[i]? = some c → c.live = true → ¬ L (β i)
  hold : Holds E (both L β H) w

/-! Frames -/
inductive Tr where
  | e
  | n (l : Tr) (x : SV) (r : Tr)
def Tr.get : Tr → Nat → SV
  | .e, _ => .u
  | .n _ x _, 0 => x
  | .n l _ r, t + 1 => match Nat.mod t 2 with
    | 0 => l.get (Nat.div t 2)
    | _ => r.get (Nat.div t 2)
def Tr.getK : Tr → Nat → (SV → Prop) → Prop
  | .e, _, k => k .u
  | .n _ x _, 0, k => k x
  | .n l _ r, t + 1, k => match Nat.mod t 2 with
    | 0 => l.getK (Nat.div t 2) k
    | _ => r.getK (Nat.div t 2) k
def Tr.putK : Tr → Nat → SV → (Tr → Prop) → Prop
  | .e, _, _, _ => False
  | .n l _ r, 0, y, k => k (.n l y r)
  | .n l x r, t + 1, y, k => match Nat.mod t 2 with
    | 0 => l.putK (Nat.div t 2) y fun l' => k (.n l' x r)
    | _ => r.putK (Nat.div t 2) y fun r' => k (.n l x r')
def Tr.full : Nat → Tr
  | 0 => .e
  | d + 1 => .n (full d) .u (full d)
def Tr.putsK : List (Nat × SV) → Tr → (Tr → Prop) → Prop
  | [], T, k => k T
  | (t, x) :: r, T, k => T.putK t x fun T' => putsK r T' k
def putDst (d : Option Tmp) (x : SV) (F : Tr) (k : Tr → Prop) : Prop :=
  match d with
  | some t => F.putK t x k
  | none => k F
def ldK (F : Tr) (x : Operand) (k : SV → Prop) : Prop :=
  match x with
  | .tmp t => F.getK t k
  | .const v => k (.n (.v v))
  | .global g => k (.n (.v (.pointer (some ⟨g, 0, none⟩))))
  | .func f => k (.n (.v (.func (.func f) #[] #[])))
def selG : Gd → Nat → Bool → Prop → Prop
  | .no, _, _, _ => False
  | .yes j' b' _ u, j, b, K => match Nat.beq j j', b, b' with
    | true, true, true => K
    | true, false, false => K
    | _, _, _ => selG u j b K
/-- What an operand holds, for an operation under the guard gd. -/
def sel (gd : Gd) (s : SV) (k : PV → Prop) : Prop :=
  match s with
  | .n y => k y
  | .g j b _ y => selG gd j b (k y)
  | .u => False
/-- The guards above a slot. -/
def upK (F : Tr) : Nat → Nat → (Gd → Prop) → Prop
  | 0, _, k => k .no
  | f + 1, j, k => F.getK j fun s => match s with
    | .g j' b' e' _ => upK F f j' fun u => k (.yes j' b' e' u)
    | _ => k .no
def useK (gd : Gd) (F : Tr) (x : Operand) (k : PV → Prop) : Prop := ldK F x fun s => sel gd s k
def getH : List Ck → Nat → (Ck → Prop) → Prop
  | [], _, _ => False
  | c :: _, 0, k => k c
  | _ :: r, i + 1, k => getH r i k
def setH : List Ck → Nat → Ck → (List Ck → Prop) → Prop
  | [], _, _, _ => False
  | _ :: r, 0, d, k => k (d :: r)
  | c :: r, i + 1, d, k => setH r i d fun r' => k (c :: r')
/-- one more chunk, at the end: its number -/
def addH : List Ck → Ck → Nat → (Nat → List Ck → Prop) → Prop
  | [], d, n, k => k n [d]
  | c :: r, d, n, k => addH r d (n + 1) fun i r' => k i (c :: r')
/-- .. as a value -/
def valK (H : List Ck) (y : PV) (k : Value → Prop) : Prop :=
  match y with
  | .v x => k x
  | .p i o => getH H i fun c => match c.no with
    | some b => k (.pointer (some ⟨b, o, none⟩))
    | none => False
def useV (gd : Gd) (F : Tr) (H : List Ck) (x : Operand) (k : Value → Prop) : Prop := useK gd F x fun y => valK H y k
def usesV (gd : Gd) (F : Tr) (H : List Ck) : List Operand → (List Value → Prop) → Prop
  | [], k => k []
  | x :: r, k => useV gd F H x fun y => usesV gd F H r fun ys => k (y :: ys)
def mkSV (gd : Gd) (y : PV) (k : SV → Prop) : Prop := match gd with | .no => k (.n y) | .yes j b e _ => k (.g j b e y)
def cellsOf : Value → List Value
  | .agg cs => cs.toList
  | v => [v]
def takeK : Nat → List Value → (List Value → Prop) → Prop
  | 0, _, k => k []
  | n + 1, x :: r, k => takeK n r fun l => k (x :: l)
  | _ + 1, [], _ => False
def dropK : Nat → List Value → (List Value → Prop) → Prop
  | 0, l, k => k l
  | n + 1, _ :: r, k => dropK n r k
  | _ + 1, [], _ => False
def overK : List Value → List Value → (List Value → Prop) → Prop
  | [], r, k => k r
  | v :: vs, _ :: r, k => overK vs r fun l => k (v :: l)
  | _ :: _, [], _ => False
def spliceK : Nat → List Value → List Value → (List Value → Prop) → Prop
  | 0, new, cs, k => overK new cs k
  | o + 1, new, x :: r, k => spliceK o new r fun l => k (x :: l)
  | _ + 1, _, [], _ => False
/-- Some cells as a value. -/
def mkVal (agg : Bool) (n o : Nat) (cs : List Value) (k : Value → Prop) : Prop :=
  match agg with
  | false => dropK o cs fun l => match l with
    | y :: _ => k y
    | [] => False
  | true => dropK o cs fun l => takeK n l fun l => k (.agg l.toArray)

/-! The places at which the walk stops -/
/-- A call that makes something, or whose answer hangs on memory. -/
structure CallNode (P : Program) (τ : Tab) (L : Nat → Prop) (f : FuncId) (args : List Value) (H : List Ck) (E : List Fact) (k : PV → List Ck → List Fact → Prop) : Prop where of ::
  out :
    ∀ β w, Ok τ L β H E w → Calls P f args.toArray w fun e w' => ∃ (r : PV) (H' : List Ck) (E' : List Fact) (β' : Nat → Nat),
      e = .returned (r.den β') ∧ (∀ i, i < H.length → β' i = β i) ∧ H.length ≤ H'.length ∧ (∀ (i : Nat) (c : Ck), H'[i]? = some c → c.live = true → w.heap.size ≤ β' i ∨ loc β H (β' i)) ∧ r.lim H'.length ∧
      Ok τ L β' H' E' w' ∧ Kp (loc β H) w w' ∧ k r H' E'
/-- A call whose answer is known, and that turns nothing. -/
structure VCallNode (P : Program) (τ : Tab) (L : Nat → Prop) (gd : Gd) (f : FuncId) (args : List Value) (H : List Ck) (E : List Fact) (k : Value → Prop) : Prop where of ::
  out :
    ∃ r, (gd.holds → ∀ β w, Ok τ L β H E w → Calls P f args.toArray w fun e w' => e = .returned r ∧ Kp (fun _ => False) w w') ∧ k r
/-- An index: where the element lies. -/
structure IdxNode (gd : Gd) (ao : Option Addr) (n : Nat) (i : Int) (size : Nat) (k : Value → Prop) : Prop where of ::
  out :
    ∃ ad, (gd.holds → ao = some ad ∧ 0 ≤ i ∧ i < n) ∧ k (.pointer (some (ad.add (i.toNat * size))))
def cellsAt (w : World) (ad : Addr) (cs : List Value) : Prop := ∀ (j : Nat) (v : Value), cs[j]? = some v → w.cell? (ad.add j) = some v
/-- A reading of memory that is not the call's own. -/
structure LoadNode (τ : Tab) (L : Nat → Prop) (gd : Gd) (H : List Ck) (E : List Fact) (ao : Option Addr) (size : Nat) (agg : Bool) (k : Value → Prop) : Prop where of ::
  out :
    ∃ cs : List Value, cs.length = size ∧ (gd.holds → ∀ β w, Ok τ L β H E w → ∃ ad, ao = some ad ∧ cellsAt w ad cs) ∧
      (match agg with | false => ∃ y, cs = [y] ∧ k y | true => k (.agg cs.toArray))
/-- A store into an owned row whose number is known. -/
structure StoreNode (ao : Option Addr) (new : List Value) (H : List Ck) (k : List Ck → Prop) : Prop where of ::
  out :
    ∃ i b o ty cs, H[i]? = some (.row ty cs (some b)) ∧ ao = some ⟨b, o, none⟩ ∧ o + new.length ≤ cs.length ∧ k (H.set i (.row ty (cs.take o ++ new ++ cs.drop (o + new.length)) (some b)))
/-- Whatever else: what the model does. -/
structure RawNode (P : Program) (τ : Tab) (L : Nat → Prop) (o : Oper) (F : Tr) (H : List Ck) (E : List Fact) (k : PV → List Ck → List Fact → Prop) : Prop where of ::
  out :
    ∀ β w (a : Act), Ok τ L β H E w → (∀ x y, ldK F x (fun s => s = .n y) → a.eval x = y.den β) →
      ∃ (r : PV) (H' : List Ck) (E' : List Fact) (β' : Nat → Nat) (w' : World),
        ((execOp a.eval o).run P w = .ok (.value (r.den β')) w' ∨ ((execOp a.eval o).run P w = .ok .skip w' ∧ r = .v undef)) ∧
        (∀ i, i < H.length → β' i = β i) ∧ H.length ≤ H'.length ∧ (∀ (i : Nat) (c : Ck), H'[i]? = some c → c.live = true → w.heap.size ≤ β' i ∨ loc β H (β' i)) ∧ r.lim H'.length ∧
        Ok τ L β' H' E' w' ∧ Kp (loc β H) w w' ∧ k r H' E'
/-- .. that turns nothing. -/
structure VRawNode (P : Program) (τ : Tab) (L : Nat → Prop) (gd : Gd) (o : Oper) (F : Tr) (H : List Ck) (E : List Fact) (k : Value → Prop) : Prop where of ::
  out :
    ∃ r, (gd.holds → ∀ β w (a : Act), Ok τ L β H E w → (∀ x y, useK gd F x (fun z => z = y) → a.eval x = y.den β) →
      (execOp a.eval o).run P w = .ok (.value r) w) ∧ k r

/-! Operators -/
def kb : IntKind → IntKind → Bool
  | .i8, .i8 => true | .i16, .i16 => true | .i32, .i32 => true | .i64, .i64 => true
  | .u8, .u8 => true | .u16, .u16 => true | .u32, .u32 => true | .u64, .u64 => true
  | _, _ => false
def binI (op : BinOp) (k : IntKind) (a b : Int) (c : Value → Prop) (d : Prop) : Prop :=
  match op with
  | .add => c (.int k (k.wrap (a + b)))
  | .sub => c (.int k (k.wrap (a - b)))
  | .mul => c (.int k (k.wrap (a * b)))
  | .lss => c (.bool (decide (a < b)))
  | .leq => c (.bool (decide (a ≤ b)))
  | .gtr => c (.bool (decide (a > b)))
  | .geq => c (.bool (decide (a ≥ b)))
  | .eql => c (.bool (a == b))
  | .neq => c (.bool (a != b))
  | _ => d
def binS (op : BinOp) (a b : ByteArray) (c : Value → Prop) (d : Prop) : Prop :=
  match op with
  | .eql => c (.bool (a.toList == b.toList))
  | .neq => c (.bool (!(a.toList == b.toList)))
  | .lss => c (.bool (Op.bytesLess a.toList b.toList))
  | .leq => c (.bool (Op.bytesLess a.toList b.toList || a.toList == b.toList))
  | .gtr => c (.bool (!(Op.bytesLess a.toList b.toList || a.toList == b.toList)))
  | .geq => c (.bool (!Op.bytesLess a.toList b.toList))
  | _ => d
def binV (op : BinOp) (a b : Value) (c : Value → Prop) (d : Prop) : Prop :=
  match a, b with
  | .int k a, .int k' b => match kb k k' with | true => binI op k a b c d | false => d
  | .string a, .string b => binS op a b c d
  | _, _ => d
def pickU (gd : Gd) (c0 : Bool) (a b : SV) (k : PV → Prop) : Prop :=
  sel gd a fun va => sel gd b fun vb => match va, vb with
    | .v x, .v y => k (.v (bif c0 then x else y))
    | _, _ => False
def pickK (gd : Gd) (t0 : Operand) (c0 : Bool) (a b : SV) (k : PV → Prop) : Prop :=
  match t0, a, b with
  | .tmp t, .g j true _ (.v (.bool x)), b => match Nat.beq j t with
    | true => sel gd b fun vb => match vb with
      | .v (.bool false) => k (.v (.bool (c0 && x)))
      | _ => False
    | false => pickU gd c0 a b k
  | .tmp t, a, .g j false _ (.v (.bool y)) => match Nat.beq j t with
    | true => sel gd a fun va => match va with
      | .v (.bool true) => k (.v (.bool (c0 || y)))
      | _ => False
    | false => pickU gd c0 a b k
  | _, a, b => pickU gd c0 a b k
def offK : List (Nat × Nat × Bool) → Nat → (Nat → Nat → Bool → Prop) → Prop
  | [], _, _ => False
  | (o, n, g) :: _, 0, k => k o n g
  | _ :: r, i + 1, k => offK r i k
def fillK (offs : List (Nat × Nat × Bool)) : List Nat → List Value → List Value → (List Value → Prop) → Prop
  | [], [], cs, k => k cs
  | i :: is, v :: vs, cs, k => offK offs i fun o n _ => match Nat.beq (cellsOf v).length n with
    | true => spliceK o (cellsOf v) cs fun cs' => fillK offs is vs cs' k
    | false => False
  | _, _, _, _ => False
/-- A row's elements: where they lie; its cells, all zero. -/
def rowOffs (size : Nat) : Nat → Nat → List (Nat × Nat × Bool)
  | 0, _ => []
  | n + 1, o => (o, size, false) :: rowOffs size n (o + size)
def zerosN (z : List Value) : Nat → List Value
  | 0 => []
  | n + 1 => z ++ zerosN z n
def tupK : List Value → Nat → (Value → Prop) → Prop
  | [], _, _ => False
  | v :: _, 0, k => k v
  | _ :: r, i + 1, k => tupK r i k

/-- Part of a variable, or all of it, as a value. -/
def loadK (τ : Tab) (T ty o : Nat) (cs : List Value) (k : Value → Prop) : Prop :=
  match Nat.beq o 0, Nat.beq ty T, (τ.ti T).agg with
  | true, true, true => k (.agg cs.toArray)
  | _, _, _ => mkVal (τ.ti T).agg (τ.ti T).size o cs k
def storeK (off ty T : Nat) (new cs : List Value) (k : List Value → Prop) : Prop :=
  match Nat.beq off 0, Nat.beq ty T with
  | true, true => k new
  | _, _ => spliceK off new cs k
/-- An operation that turns no memory: its value. -/
def opVal (P : Program) (τ : Tab) (L : Nat → Prop) (o : Oper) (gd : Gd) (F : Tr) (H : List Ck) (E : List Fact) (k : PV → Prop) : Prop :=
  match o.op with
  | .move x => useK gd F x k
  | .assign x => useK gd F x k
  | .pick c a b => useK gd F c fun y => match y with
    | .v (.bool c0) => ldK F a fun a => ldK F b fun b => pickK gd c c0 a b k
    | _ => False
  | .fieldAddr T x f => useK gd F x fun y => match (τ.ti T).kind with
    | .struct => offK (τ.ti T).offs f fun off _ _ => match y with
      | .p i o => k (.p i (o + off))
      | .v (.pointer (some ad)) => k (.v (.pointer (some (ad.add off))))
      | _ => False
    | _ => False
  | .field T x f => useK gd F x fun y => match (τ.ti T).kind, y with
    | .struct, .v (.agg cs) => offK (τ.ti T).offs f fun off n g => mkVal g n off cs.toList fun z => k (.v z)
    | _, _ => False
  | .load T x => useK gd F x fun y => match (τ.ti T).kind with
    | .other => False
    | _ => match y with
      | .p i o => getH H i fun c => match c with
        | .box ty cs _ => loadK τ T ty o cs fun z => k (.v z)
        | _ => False
      | .v (.pointer ao) => LoadNode τ L gd H E ao (τ.ti T).size (τ.ti T).agg fun z => k (.v z)
      | _ => False
  | .binOp op _ x y _ => useV gd F H x fun a => useV gd F H y fun b => binV op a b (fun r => k (.v r)) (VRawNode P τ L gd o F H E fun z => k (.v z))
  | .unOp .not _ x => useV gd F H x fun a => match a with
    | .bool c => k (.v (.bool (!c)))
    | _ => False
  | .convert src dst x => useV gd F H x fun a => match a, (τ.ti dst).kind, (τ.ti src).kind with
    | .int _ n, .int kd, .int _ => k (.v (.int kd (kd.wrap n)))
    | _, _, _ => VRawNode P τ L gd o F H E fun z => k (.v z)
  | .indexAddr T x i => useV gd F H x fun a => useV gd F H i fun ix => match (τ.ti T).kind, a, ix with
    | .slice, .slice ao n _, .int _ i => match (τ.ti (τ.ti T).elem).kind with
      | .other => False
      | _ => IdxNode gd ao n i (τ.ti (τ.ti T).elem).size fun z => k (.v z)
    | _, _, _ => False
  | .extract x i => useV gd F H x fun a => match a with
    | .tuple vs => tupK vs.toList i fun v => k (.v v)
    | _ => False
  | .build T parts => usesV gd F H (parts.toList.map (·.2)) fun ys => match (τ.ti T).kind, (τ.ti T).zero with
    | _, [] => False
    | .struct, z => fillK (τ.ti T).offs (parts.toList.map (·.1)) ys z fun cs => k (.v (.agg cs.toArray))
    | _, _ => False
  | .makeFunc fn first captured => usesV gd F H first.toList fun fs => usesV gd F H captured.toList fun cs => k (.v (.func fn fs.toArray cs.toArray))
  | .call c => match c.callee with
    | .value (.func f) => match τ.enters f with
      | true => usesV gd F H c.args.toList fun ys => VCallNode P τ L gd f ys H E fun r => k (.v r)
      | false => VRawNode P τ L gd o F H E fun z => k (.v z)
    | .builtin .len => usesV gd F H c.args.toList fun ys => match ys, c.argTypes.toList with
      | [.string b], [T] => (match (τ.ti T).kind with | .string => k (.v (.int .i64 b.size)) | _ => False)
      | [.slice _ n _], [T] => (match (τ.ti T).kind with | .slice => k (.v (.int .i64 n)) | _ => False)
      | _, _ => VRawNode P τ L gd o F H E fun z => k (.v z)
    | .value x => useV gd F H x fun fv => usesV gd F H c.args.toList fun ys => match fv with
      | .func (.func g) first cap => (gd.holds → ∀ args w, (callFunc g args).run P w = .ok (.enter g args) w) ∧ VCallNode P τ L gd g (first.toList ++ ys ++ cap.toList) H E fun r => k (.v r)
      | _ => False
    | _ => VRawNode P τ L gd o F H E fun z => k (.v z)
  | _ => VRawNode P τ L gd o F H E fun z => k (.v z)

/-- Operands that must be values: a chunk that one of them points to gets its number named. -/
def pins (F : Tr) : List Operand → List Ck → (List Ck → Prop) → Prop
  | [], H, k => k H
  | x :: r, H, k => ldK F x fun s => match s with
    | .n (.p i _) => getH H i fun c => match c.no with
      | some _ => pins F r H k
      | none => ∀ b, setH H i (c.pin b) fun H' => pins F r H' k
    | _ => pins F r H k
def toPin : Op → List Operand
  | .call c => c.args.toList
  | .makeFunc _ f c => f.toList ++ c.toList
  | .store _ _ y => [y]
  | .box _ y => [y]
  | .build _ ps => ps.toList.map (·.2)
  | .buildSlice _ _ ps => ps.toList.map (·.2)
  | .slice _ x _ _ _ => [x]
  | .makeInterface _ x => [x]
  | .mapUpdate _ _ k v => [k, v]
  | .binOp _ _ x y _ => [x, y]
  | _ => []
/-- none of them is a struct or an array -/
def ones : List Value → Bool
  | [] => true
  | .agg _ :: _ => false
  | .tuple _ :: _ => false
  | _ :: r => ones r
/-- An operation that makes or turns memory (no guard ahead of it). -/
def opEff (P : Program) (τ : Tab) (L : Nat → Prop) (o : Oper) (F : Tr) (H : List Ck) (E : List Fact) (k : Tr → List Ck → List Fact → Prop) : Prop :=
  match o.op with
  | .alloc T => match (τ.ti T).kind, (τ.ti T).zero with
    | .other, _ => False
    | _, [] => False
    | _, z => match Nat.beq z.length (τ.ti T).size with
      | true => addH H (.box T z none) 0 fun i H' => putDst o.dst (.n (.p i 0)) F fun F' => k F' H' E
      | false => False
  | .box T x => useV .no F H x fun y => match Nat.beq (cellsOf y).length (τ.ti T).size with
      | true => addH H (.box T (cellsOf y) none) 0 fun i H' => putDst o.dst (.n (.p i 0)) F fun F' => k F' H' E
      | false => False
  | .store T x y => useK .no F x fun a => useV .no F H y fun z => match (τ.ti T).kind, Nat.beq (cellsOf z).length (τ.ti T).size, ones (cellsOf z) with
    | .other, _, _ => False
    | _, false, _ => False
    | _, _, false => False
    | _, true, true => match a with
      | .p i off => getH H i fun c => match c with
        | .box ty cs no => storeK off ty T (cellsOf z) cs fun cs' => setH H i (.box ty cs' no) fun H' => putDst o.dst (.n (.v undef)) F fun F' => k F' H' E
        | _ => False
      | .v (.pointer ao) => StoreNode ao (cellsOf z) H fun H' => putDst o.dst (.n (.v undef)) F fun F' => k F' H' E
      | _ => False
  | .call c => match c.callee with
    | .value (.func f) => match τ.enters f with
      | true => usesV .no F H c.args.toList fun ys => CallNode P τ L f ys H E fun r H' E' => putDst o.dst (.n r) F fun F' => k F' H' E'
      | false => RawNode P τ L o F H E fun r H' E' => putDst o.dst (.n r) F fun F' => k F' H' E'
    | .builtin .len => opVal P τ L o .no F H E fun y => putDst o.dst (.n y) F fun F' => k F' H E
    | .value x => useV .no F H x fun fv => usesV .no F H c.args.toList fun ys => match fv with
      | .func (.func g) first cap => (∀ args w, (callFunc g args).run P w = .ok (.enter g args) w) ∧ CallNode P τ L g (first.toList ++ ys ++ cap.toList) H E fun r H' E' => putDst o.dst (.n r) F fun F' => k F' H' E'
      | _ => False
    | _ => RawNode P τ L o F H E fun r H' E' => putDst o.dst (.n r) F fun F' => k F' H' E'
  | .buildSlice T n parts => usesV .no F H (parts.toList.map (·.2)) fun ys => match (τ.ti T).kind, (τ.ti (τ.ti T).elem).kind, (τ.ti (τ.ti T).elem).zero with
    | .slice, .other, _ => False
    | .slice, _, [] => False
    | .slice, _, z => (match Nat.beq z.length (τ.ti (τ.ti T).elem).size, Nat.ble (n * (τ.ti (τ.ti T).elem).size) 16777216 with
      | true, true => fillK (rowOffs (τ.ti (τ.ti T).elem).size n 0) (parts.toList.map (·.1)) ys (zerosN z n) fun cs =>
          ∀ b, addH H (.row (τ.ti T).elem cs (some b)) 0 fun _ H' => putDst o.dst (.n (.v (.slice (some ⟨b, 0, none⟩) n n))) F fun F' => k F' H' E
      | _, _ => False)
    | _, _, _ => False
  | .convert _ dst _ => match (τ.ti dst).kind with
    | .slice => RawNode P τ L o F H E fun r H' E' => putDst o.dst (.n r) F fun F' => k F' H' E'
    | _ => opVal P τ L o .no F H E fun y => putDst o.dst (.n y) F fun F' => k F' H E
  | .makeSlice _ _ _ | .makeMap _ _ | .mapUpdate _ _ _ _ | .insert _ _ _ _ | .range _ _ | .next _ _ | .entryStore _ _ _ _ => RawNode P τ L o F H E fun r H' E' => putDst o.dst (.n r) F fun F' => k F' H' E'
  | .defer _ | .go _ | .select _ _ | .recv _ _ _ | .send _ _ => False
  | _ => opVal P τ L o .no F H E fun y => putDst o.dst (.n y) F fun F' => k F' H E
/-- q: nothing may be made or turned (a region that draws its order). -/
def wpOp (P : Program) (τ : Tab) (L : Nat → Prop) (q : Bool) (o : Oper) (gd : Gd) (F : Tr) (H : List Ck) (E : List Fact) (k : Tr → List Ck → List Fact → Prop) : Prop :=
  match q, gd with
  | false, .no => pins F (toPin o.op) H fun H' => opEff P τ L o F H' E k
  | _, gd => opVal P τ L o gd F H E fun y => mkSV gd y fun x => putDst o.dst x F fun F' => k F' H E
def keyOk (d : Option Tmp) : List (Nat × Nat) → Bool
  | [] => true
  | (_, j) :: r => match d with
    | none => true
    | some d => match Nat.beq j d with
      | true => false
      | false => keyOk (some d) r
/-- behind a region: what stood under a guard is forgotten -/
def wipe : List (Nat × Nat) → Tr → (Tr → Prop) → Prop
  | [], F, k => k F
  | (t, _) :: r, F, k => F.getK t fun s => match s with
    | .g _ _ _ _ => F.putK t .u fun F' => wipe r F' k
    | _ => wipe r F k
/-- A guarded operation that makes or turns memory: carried out, or not. -/
structure SplitNode (e : Bool) (A B : Prop) : Prop where of ::
  yes : e = true → A
  no : e = false → B
def effB : Op → Bool
  | .alloc _ | .box _ _ | .store _ _ _ | .buildSlice _ _ _ | .makeSlice _ _ _ | .makeMap _ _ | .mapUpdate _ _ _ _ | .insert _ _ _ _ | .range _ _ | .next _ _ | .entryStore _ _ _ _ => true
  | .makeFunc _ _ c => match c.toList with | [] => false | _ => true
  | .call c => match c.callee with
    | .builtin .append => true
    | .builtin .copy => true
    | _ => false
  | _ => false
/-- The slot t is known now to hold c: what stood under it is free; what stood under another guard is forgotten. -/
def free (t : Nat) (c : Bool) : List (Nat × Nat) → Tr → (Tr → Prop) → Prop
  | [], F, k => F.putK t (.n (.v (.bool c))) k
  | (d, _) :: r, F, k => F.getK d fun s => match s with
    | .g j b _ y => match Nat.beq j t, b, c with
      | true, true, true => F.putK d (.n y) fun F' => free t c r F' k
      | true, false, false => F.putK d (.n y) fun F' => free t c r F' k
      | true, _, _ => F.putK d (.n (.v undef)) fun F' => free t c r F' k
      | false, _, _ => F.putK d .u fun F' => free t c r F' k
    | _ => free t c r F k
def inN (t : Nat) : List Nat → Bool
  | [] => false
  | u :: r => match Nat.beq t u with
    | true => true
    | false => inN t r
/-- gs: the slots that stand under a guard, each with the guard's slot; kn: the guards' slots that are known. -/
def wpOps (P : Program) (τ : Tab) (L : Nat → Prop) (q : Bool) (all : Array Oper) : List Oper → List (Nat × Nat) → List Nat → Tr → List Ck → List Fact → (Tr → List Ck → List Fact → Prop) → Prop
  | [], gs, _, F, H, E, k => wipe gs F fun F' => k F' H E
  | o :: r, gs, kn, F, H, E, k => match keyOk o.dst gs with
    | false => False
    | true => match o.guard with
      | none => wpOp P τ L q o .no F H E fun F' H' E' => wpOps P τ L q all r gs kn F' H' E' k
      | some (j, b) => match (all[j]?).bind (·.dst) with
        | none => False
        | some t => match inN t kn with
          | true => F.getK t fun s => (match s with
            | .n (.v (.bool c)) => (match eff b c with
              | true => wpOp P τ L q o .no F H E fun F' H' E' => wpOps P τ L q all r gs kn F' H' E' k
              | false => putDst o.dst (.n (.v undef)) F fun F' => wpOps P τ L q all r gs kn F' H E k)
            | _ => False)
          | false => match q, effB o.op with
            | false, true => F.getK t fun s => (match s with
              | .n (.v (.bool c)) => SplitNode (eff b c)
                  (free t b gs F fun F1 => wpOp P τ L q o .no F1 H E fun F' H' E' => wpOps P τ L q all r [] (t :: kn) F' H' E' k)
                  (free t (!b) gs F fun F1 => putDst o.dst (.n (.v undef)) F1 fun F' => wpOps P τ L q all r [] (t :: kn) F' H E k)
              | _ => False)
            | _, _ => match o.dst with
              | none => False
              | some d => match Nat.beq t d with
                | true => False
                | false => F.getK t fun s => match s with
                  | .n (.v (.bool c)) => wpOp P τ L q o (.yes t b (eff b c) .no) F H E fun F' H' E' => wpOps P τ L q all r ((d, t) :: gs) kn F' H' E' k
                  | .g _ _ e0 (.v (.bool c)) => upK F 4 t fun up => wpOp P τ L q o (.yes t b (e0 && eff b c) up) F H E fun F' H' E' => wpOps P τ L q all r ((d, t) :: gs) kn F' H' E' k
                  | _ => False

def svLim (m : Nat) : SV → Prop
  | .n (.p i _) => i < m
  | .g _ _ _ _ => False
  | _ => True
def live (m : Nat) (F : Tr) : List (Nat × SV) → Prop
  | [] => True
  | (t, x) :: r => (F.get t = x ∧ svLim m x) ∧ live m F r
def pre : List Ck → List Ck → Prop
  | [], _ => True
  | c :: r, d :: s => (c = d ∨ c = .dead) ∧ pre r s
  | c :: r, [] => c = .dead ∧ pre r []
/-- The chunks of these numbers (or dead ones). -/
def picked (H : List Ck) : List Nat → List Ck → Prop
  | [], [] => True
  | i :: is, c :: cs => (H[i]? = some c ∨ c = .dead) ∧ picked H is cs
  | _, _ => False
def killAll : List Ck → List Nat → List Ck
  | l, [] => l
  | l, k :: ks => killAll (l.set k .dead) ks
/-- The state may be forgotten down to these live slots, chunks, facts: the chunks are the first ones; or the first p (but for those of the numbers ks), and others to which no slot points (of the first m each stays, or is dead). -/
def Down (m : Nat) (F : Tr) (H : List Ck) (E : List Fact) (l : List (Nat × SV)) (h : List Ck) (E' : List Fact) : Prop :=
  (live h.length F l ∧ pre h H ∧ ∀ L w, Holds E L w → Holds E' L w) ∨
  ∃ (ks : List Nat) (p : Nat) (is : List Nat) (cs : List Ck), m ≤ p ∧ p ≤ H.length ∧ h = killAll (H.take p) ks ++ cs ∧ picked H is cs ∧ (∀ i, i ∈ is → p ≤ i ∨ i ∈ ks) ∧ is.Nodup ∧ live p F l ∧ ∀ L w, Holds E L w → Holds E' L w

/-- A test whose two ways meet again: I tells in what state. -/
structure JoinNode (t : Bool) (A B : (Exit → Tr → List Ck → List Fact → Prop) → Prop) (Q : Exit → Tr → List Ck → List Fact → Prop) : Prop where of ::
  out : (t = true → A Q) ∧ (t = false → B Q)
/-- A loop. d: the frame's depth. -/
structure LoopNode (d m : Nat) (body : Tr → List Ck → List Fact → (Exit → Tr → List Ck → List Fact → Prop) → Prop) (F : Tr) (H : List Ck) (E : List Fact) (Q : Exit → Tr → List Ck → List Fact → Prop) : Prop where of ::
  out :
    ∃ (α : Type) (l : α → List (Nat × SV)) (h : α → List Ck) (E' : α → List Fact) (I : α → Prop) (μ : α → Nat) (x : α),
      I x ∧ Down m F H E (l x) (h x) (E' x) ∧ (∀ x, m ≤ (h x).length) ∧
      ∀ x, I x → Tr.putsK (l x) (Tr.full d) fun F' => body F' (h x) (E' x) fun e F'' H'' E'' => match e with
        | .normal => ∃ x', μ x' < μ x ∧ I x' ∧ Down m F'' H'' E'' (l x') (h x') (E' x')
        | e => Q e F'' H'' E''
/-- In which orders a region's operations are tried: 'take': one that may stand ahead of all others; 'br': this one first, or another one. -/
inductive Plan where
  | done
  | no
  | take (i : Nat) (p : Plan)
  | br (i : Nat) (p q : Plan)
def Plan.isNo : Plan → Bool
  | .no => true
  | _ => false
def Plan.ok (ops : Array Oper) : Plan → Array Bool → List Nat → Bool
  | .done, ls, rs => rs.isEmpty && (Region.ready .any ops ls).isEmpty
  | .no, _, _ => false
  | .take i p, ls, rs => rs.isEmpty && (Region.ready .any ops ls).contains i && Region.free .any ops ls i && p.ok ops (ls.setIfInBounds i true) []
  | .br i p q, ls, rs => match rs with
    | [] => match Region.ready .any ops ls with
      | j :: r => i == j && p.ok ops (ls.setIfInBounds i true) [] && (match r with | [] => q.isNo | _ => q.ok ops ls r)
      | [] => false
    | j :: r => i == j && p.ok ops (ls.setIfInBounds i true) [] && (match r with | [] => q.isNo | _ => q.ok ops ls r)
def Plan.fuel : Plan → Nat
  | .done => 0
  | .no => 0
  | .take _ p => p.fuel + 1
  | .br _ p q => max (p.fuel + 1) q.fuel
/-- What an operation waits for. -/
def ons (ops : Array Oper) (i : Nat) : List Nat := match ops[i]? with
  | some o => (o.after.toList.filter (Region.binds .any ·)).map (·.on)
  | none => []
def addAll : List Nat → List Nat → List Nat
  | [], S => S
  | x :: r, S => if S.contains x then addAll r S else addAll r (x :: S)
/-- .. and what these wait for, and so on. -/
def clo (ops : Array Oper) : Nat → List Nat → List Nat
  | 0, S => S
  | f + 1, S => clo ops f (S.foldl (fun S i => addAll (ons ops i) S) S)
/-- Nothing behind the first n comes up ahead of any of these. -/
def waits (ops : Array Oper) (n : Nat) : Bool := (List.range ops.size).all fun j => decide (j < n) || (List.range n).all fun i => (clo ops ops.size (ons ops j)).contains i
def lexN (ops : Array Oper) : Nat → Nat → Array Bool → Bool
  | 0, _, _ => true
  | m + 1, k, ls => (Region.ready .any ops ls).contains k && Region.free .any ops ls k && lexN ops m (k + 1) (ls.setIfInBounds k true)
def firsts : Nat → Nat → Array Bool → Array Bool
  | 0, _, ls => ls
  | m + 1, k, ls => firsts m (k + 1) (ls.setIfInBounds k true)
def mixB (ops : Array Oper) (n : Nat) (p : Plan) : Bool :=
  Region.noSelect ops && decide (n + p.fuel ≤ ops.size) && waits ops n && lexN ops n 0 (Array.replicate ops.size false) && p.ok ops (firsts n 0 (Array.replicate ops.size false)) []
/-- An operation that hangs on no memory at all. -/
def opPure (τ : Tab) (o : Oper) (F : Tr) (H : List Ck) (k : PV → Prop) : Prop :=
  match o.op with
  | .move x => useK .no F x k
  | .assign x => useK .no F x k
  | .fieldAddr T x f => useK .no F x fun y => match (τ.ti T).kind with
    | .struct => offK (τ.ti T).offs f fun off _ _ => match y with
      | .p i o => k (.p i (o + off))
      | .v (.pointer (some ad)) => k (.v (.pointer (some (ad.add off))))
      | _ => False
    | _ => False
  | .binOp op _ x y _ => useV .no F H x fun a => useV .no F H y fun b => binV op a b (fun r => k (.v r)) False
  | .indexAddr T x i => useV .no F H x fun a => useV .no F H i fun ix => match (τ.ti T).kind, a, ix with
    | .slice, .slice ao n _, .int _ i => match (τ.ti (τ.ti T).elem).kind with
      | .other => False
      | _ => IdxNode .no ao n i (τ.ti (τ.ti T).elem).size fun z => k (.v z)
    | _, _, _ => False
  | _ => False
def wpPlan (P : Program) (τ : Tab) (L : Nat → Prop) (ops : Array Oper) : Plan → Tr → List Ck → List Fact → (Tr → List Ck → List Fact → Prop) → Prop
  | .done, F, H, E, k => k F H E
  | .no, _, _, _, _ => True
  | .take i p, F, H, E, k => match ops[i]? with
    | some o => (match o.guard with
      | none => opPure τ o F H fun y => putDst o.dst (.n y) F fun F' => wpPlan P τ L ops p F' H E k
      | some _ => False)
    | none => False
  | .br i p q, F, H, E, k => (match ops[i]? with
    | some o => (match o.guard with
      | none => pins F (toPin o.op) H fun H' => opEff P τ L o F H' E fun F' H' E' => wpPlan P τ L ops p F' H' E' k
      | some _ => False)
    | none => False) ∧ wpPlan P τ L ops q F H E k
/-- A region that draws its order. -/
inductive DrawNode (P : Program) (τ : Tab) (L : Nat → Prop) (ops : Array Oper) (F : Tr) (H : List Ck) (E : List Fact) (k : Tr → List Ck → List Fact → Prop) : Prop
  | quiet (hB : Region.lexB .any ops = true) (h : wpOps P τ L true ops ops.toList [] [] F H E k)
  | mixed (n : Nat) (p : Plan) (M : Tr → List Ck → List Fact → Prop) (hB : mixB ops n p = true)
      (h : wpOps P τ L true ops (ops.toList.take n) [] [] F H E fun F' H' E' => wpPlan P τ L ops p F' H' E' M) (hM : ∀ F H E, M F H E → k F H E)

def wp (P : Program) (τ : Tab) (L : Nat → Prop) (d m : Nat) : Code → Tr → List Ck → List Fact → (Exit → Tr → List Ck → List Fact → Prop) → Prop
  | .skip, F, H, E, Q => Q .normal F H E
  | .label _, F, H, E, Q => Q .normal F H E
  | .region _ ops false, F, H, E, Q => wpOps P τ L false ops ops.toList [] [] F H E fun F' H' E' => Q .normal F' H' E'
  | .region _ ops true, F, H, E, Q => DrawNode P τ L ops F H E fun F' H' E' => Q .normal F' H' E'
  | .seq a b, F, H, E, Q => wp P τ L d m a F H E fun e F' H' E' => match e with | .normal => wp P τ L d m b F' H' E' Q | e => Q e F' H' E'
  | .cond c a b, F, H, E, Q => useK .no F c fun y => match y with
      | .v (.bool t) => JoinNode t (wp P τ L d m a F H E) (wp P τ L d m b F H E) Q
      | _ => False
  | .block id c, F, H, E, Q => wp P τ L d m c F H E fun e F' H' E' => match e with | .exit i => (match Nat.beq i id with | true => Q .normal F' H' E' | false => Q (.exit i) F' H' E') | e => Q e F' H' E'
  | .scope c, F, H, E, Q => wp P τ L d m c F H E fun e F' H' E' => match e with | .goto _ => False | e => Q e F' H' E'
  | .loop c, F, H, E, Q => LoopNode d m (wp P τ L d m c) F H E Q
  | .exit id, F, H, E, Q => Q (.exit id) F H E
  | .goto l, F, H, E, Q => Q (.goto l) F H E
  | .ret, F, H, E, Q => Q .ret F H E
  | .rangeFunc _ _ _ _, _, _, _, _ => False
  | .refuse _, _, _, _, _ => False
def resK (τ : Tab) (F : Tr) (H : List Ck) : List ResultVar → (List PV → Prop) → Prop
  | [], k => k []
  | .tmp t :: r, k => F.getK t fun s => sel .no s fun y => resK τ F H r fun ys => k (y :: ys)
  | .cell t T :: r, k => F.getK t fun s => sel .no s fun y => match y, (τ.ti T).kind with
    | _, .other => False
    | .p i o, _ => getH H i fun c => match c with
      | .box ty cs _ => loadK τ T ty o cs fun z => resK τ F H r fun ys => k (.v z :: ys)
      | _ => False
    | _, _ => False
def retOf (β : Nat → Nat) : List PV → Value
  | [y] => y.den β
  | ys => .tuple (ys.map (PV.den β)).toArray
/-- Every slot that is written is one of the frame's n. -/
def opsOk (n : Nat) (ops : List Oper) : Bool := ops.all fun o => match o.dst with | some d => decide (d < n) | none => true
def codeOk (n : Nat) : Code → Bool
  | .region _ ops _ => opsOk n ops.toList
  | .seq a b => codeOk n a && codeOk n b
  | .cond _ a b => codeOk n a && codeOk n b
  | .block _ c => codeOk n c
  | .loop c => codeOk n c
  | .scope c => codeOk n c
  | _ => true
/-- A function's post at its way out. -/
def Out (τ : Tab) (res : Array ResultVar) (R : List PV → List Ck → List Fact → Prop) (e : Exit) (F : Tr) (H : List Ck) (E : List Fact) : Prop :=
  match e with
  | .ret => resK τ F H res.toList fun ys => R ys H E
  | .normal => resK τ F H res.toList fun ys => R ys H E
  | _ => False
end Go.Q
