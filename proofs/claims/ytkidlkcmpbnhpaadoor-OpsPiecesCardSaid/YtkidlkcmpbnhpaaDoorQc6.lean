/-
  ops.Same, ops.bare, ops.Check, at operations whose value is zero. Conditions: as stated at each.
-/
import Derived.Test.YtkidlkcmpbnhpaaDoorQc5
namespace Go.Q
open Go Go.Proofs.Tryd
set_option maxRecDepth 100000
variable {L : Nat → Prop} {H : List Ck} {E : List Fact}
/-- Two truths, compared. -/
theorem VRawNode.neqB {gd : Gd} {F : Tr} {o : Oper} {T2 : TypeId} {x y : Operand} {a b : Bool} {k : Value → Prop} (ho : o.op = .binOp .neq 4 x y T2) (hx : useK gd F x fun z => z = .v (.bool a)) (hy : useK gd F y fun z => z = .v (.bool b))
    (hk : k (.bool (!(a == b)))) : VRawNode P τ L gd o F H E k := by
  refine VRawNode.mk (.bool (!(a == b))) (fun hg β w c hok hev => ?_) hk
  obtain ⟨dst, op', ty, pos, aft, grd⟩ := o
  simp only at ho
  subst ho
  have h1 : c.eval x = .bool a := hev x _ hx
  have h2 : c.eval y = .bool b := hev y _ hy
  have hg : (eqGuard .neq 4 x y (.bool a) (.bool b)).run P w = .ok () w := by unfold eqGuard; rfl
  have he : (Op.equalIn (9999 + 1) 4 (.bool a) (.bool b)).run P w = .ok (a == b) w := run_equalIn_bool' w 9999 4 a b underlying4
  have hb : (binOp .neq 4 (.bool a) (.bool b)).run P w = .ok (.bool (!(a == b))) w := by
    simp only [binOp, Op.equal, Op.maxDepth, Sem.run_bind]
    rw [he]; rfl
  simp [execOp, h1, h2, hg, hb]
theorem tNaN (f : Nat) : Tells 49 [.float .f64 f] [.bool (FloatKind.f64.format.order f f != some .eq)] :=
  Tells.of 3 func49 (by kernel_rfl) fun L => VRawNode.float rfl rfl rfl rfl rfl
theorem tClean (k n : Int) (s : ByteArray) : Tells 25 [vVal k n 0 s] [vVal k n 0 s] :=
  Tells.of 4 func25 (by kernel_rfl) fun L => CallNode.tells (tNaN 0) (JoinNode.no (by decide) rfl)
theorem tSign0 : Tells 97 [.float .f64 0] [.bool false] :=
  Tells.of 3 func97 (by kernel_rfl) fun L => RawNode.ext1 rfl rfl (bits64 0) rfl
theorem tRank0 : Tells 95 [.float .f64 0] [.int .i64 0, .float .f64 0] :=
  Tells.of 4 func95 (by kernel_rfl) fun L => CallNode.tells (tNaN 0) (JoinNode.no (by decide)
    (VRawNode.float rfl rfl rfl rfl (VCallNode.tells (fun _ => tSign0) (JoinNode.no (by decide) rfl))))
theorem tFloats0 : Tells 88 [.float .f64 0, .float .f64 0] [.int .i64 0] :=
  Tells.of 6 func88 (by kernel_rfl) fun L => by
    refine CallNode.tells tRank0 ?_
    refine CallNode.tells tRank0 ?_
    refine JoinNode.no (by decide) ?_
    refine VRawNode.float rfl rfl rfl rfl ?_
    refine VRawNode.float rfl rfl rfl rfl ?_
    refine JoinNode.no (by decide) ?_
    refine VRawNode.float rfl rfl rfl rfl ?_
    refine VRawNode.float rfl rfl rfl rfl ?_
    refine VCallNode.tells (fun _ => tSign0) ?_
    refine VCallNode.tells (fun _ => tSign0) ?_
    refine VRawNode.neqB rfl rfl rfl ?_
    exact JoinNode.no (by decide) rfl
/-- Which of two is less. -/
def cmpI (a b : Int) : Int := if a < b then -1 else if b < a then 1 else 0
theorem tNaNI (a : Int) : Tells 93 [.int .i64 a] [.bool (a != a)] :=
  Tells.of 3 func93 (by kernel_rfl) fun L => rfl
theorem tCmpI (a b : Int) : Tells 86 [.int .i64 a, .int .i64 b] [.int .i64 (cmpI a b)] :=
  Tells.of 5 func86 (by kernel_rfl) fun L => by
    refine CallNode.tells (tNaNI a) ?_
    refine CallNode.tells (tNaNI b) ?_
    refine JoinNode.no (by simp) ?_
    refine JoinNode.no (by simp) ?_
    refine JoinNode.both (fun h => ?_) (fun h => ?_)
    · exact show _ = _ by unfold cmpI; rw [if_pos (by simpa using h)]; rfl
    · refine JoinNode.both (fun h2 => ?_) (fun h2 => ?_)
      · exact show _ = _ by unfold cmpI; rw [if_neg (by simpa using h), if_pos (by simpa using h2)]; rfl
      · exact show _ = _ by unfold cmpI; rw [if_neg (by simpa using h), if_neg (by simpa using h2)]; rfl
theorem tNaNL (a : Int) : Tells 94 [.int .i64 a] [.bool (a != a)] :=
  Tells.of 3 func94 (by kernel_rfl) fun L => rfl
theorem tCmpL (a b : Int) : Tells 87 [.int .i64 a, .int .i64 b] [.int .i64 (cmpI a b)] :=
  Tells.of 5 func87 (by kernel_rfl) fun L => by
    refine CallNode.tells (tNaNL a) ?_
    refine CallNode.tells (tNaNL b) ?_
    refine JoinNode.no (by simp) ?_
    refine JoinNode.no (by simp) ?_
    refine JoinNode.both (fun h => ?_) (fun h => ?_)
    · exact show _ = _ by unfold cmpI; rw [if_pos (by simpa using h)]; rfl
    · refine JoinNode.both (fun h2 => ?_) (fun h2 => ?_)
      · exact show _ = _ by unfold cmpI; rw [if_neg (by simpa using h), if_pos (by simpa using h2)]; rfl
      · exact show _ = _ by unfold cmpI; rw [if_neg (by simpa using h), if_neg (by simpa using h2)]; rfl
theorem RawNode.ext2 {o : Oper} {F : Tr} {k : PV → List Ck → List Fact → Prop} {f : FuncId} {x y : Operand} {ts : Array TypeId} {v u r : Value} (ho : o.op = .call ⟨.value (.func f), #[x, y], ts⟩) (hx : ldK F x fun s => s = .n (.v v)) (hy : ldK F y fun s => s = .n (.v u))
    (h : ∀ w, (callFunc f #[v, u]).run P w = .ok (.value r) w) (hk : k (.v r) H E) : RawNode P τ L o F H E k := by
  refine RawNode.val r (fun β w a hok hev => ?_) hk
  obtain ⟨dst, op, ty, pos, aft, grd⟩ := o
  simp only at ho
  subst ho
  have h1 : a.eval x = v := hev x _ hx
  have h2 : a.eval y = u := hev y _ hy
  simp [execOp, resolve, eval_func, Deferred.ofValue, invoke, h1, h2, h w]
theorem cmpS0 (w : World) : (callFunc 100 #[.string ⟨#[]⟩, .string ⟨#[]⟩]).run P w = .ok (.value (.int .i64 0)) w := by kernel_rfl
theorem tCmpS0 : Tells 98 [.string ⟨#[]⟩, .string ⟨#[]⟩] [.int .i64 0] :=
  Tells.of 4 func98 (by kernel_rfl) fun L => RawNode.ext2 rfl rfl rfl cmpS0 rfl
theorem tStrCmp0 : Tells 89 [.string ⟨#[]⟩, .string ⟨#[]⟩] [.int .i64 0] :=
  Tells.of 4 func89 (by kernel_rfl) fun L => CallNode.tells tCmpS0 rfl
def encI (x : Int) : List Value := [.int .i64 x]
/-- The first that is not zero; here: where all are. -/
theorem tOr0 (l : List Int) (hz : ∀ x ∈ l, x = 0) (b o cap : Nat) (hn : l.length < 2 ^ 62) :
    TellsIn [rowF b o (flat encI l)] 85 [.slice (some ⟨b, o, none⟩) l.length cap] [.int .i64 0] :=
  TellsIn.of 5 func85 (by kernel_rfl) fun L => by
    refine LoopNode.mk (α := Nat) (fun i => [(0, .n (.v (.slice (some ⟨b, o, none⟩) l.length cap))), (2, .n (.v (.int .i64 0))), (3, .n (.v (.int .i64 0))), (6, .n (.v (.slice (some ⟨b, o, none⟩) l.length cap))), (7, .n (.v (.int .i64 l.length))), (8, .n (.v (.int .i64 i)))]) (fun _ => []) (fun _ => [rowF b o (flat encI l)])
      (fun i => i ≤ l.length) (fun i => l.length - i) 0 (Nat.zero_le _)
      (.inl ⟨⟨⟨rfl, trivial⟩, ⟨rfl, trivial⟩, ⟨rfl, trivial⟩, ⟨rfl, trivial⟩, ⟨rfl, trivial⟩, ⟨rfl, trivial⟩, trivial⟩, trivial, fun _ _ h => h⟩) (fun _ => Nat.zero_le _) ?_
    intro i hi
    refine JoinNode.both (fun ht => ?_) (fun ht => ?_)
    · have hlt : i < l.length := by simpa using ht
      refine IdxNode.at i rfl rfl (fun _ => hlt) ?_
      refine LoadNode.cell (b := b) (o := o) (i * 1) (.int .i64 l[i]) (.head _) (fun _ => by
        have := flat_get (enc := encI) (s := 1) (fun _ => rfl) (List.getElem?_eq_getElem hlt) 0 _ rfl
        simpa using this) rfl ?_
      refine JoinNode.no (by rw [hz l[i] (List.getElem_mem hlt)]; rfl) ?_
      refine ⟨i + 1, by omega, by omega, .inl ⟨⟨⟨rfl, trivial⟩, ⟨rfl, trivial⟩, ⟨rfl, trivial⟩, ⟨rfl, trivial⟩, ⟨rfl, trivial⟩, ⟨?_, trivial⟩, trivial⟩, trivial, fun _ _ h => h⟩⟩
      show SV.n (.v (.int .i64 (IntKind.i64.wrap ((i : Int) + 1)))) = _
      rw [wrap_i64 (by omega) (by omega)]; rfl
    · exact rfl
abbrev vZero : Value := vVal 0 0 0 ⟨#[]⟩
theorem tCmp0 : Tells 78 [vZero, vZero] [.int .i64 0] :=
  Tells.of 5 func78 (by kernel_rfl) fun L => by
    refine DrawNode.mixed 20 (.br 20 (.br 21 (.br 22 .done .no) .no) .no) _ (by kernel_rfl) ?_ (fun F H E h => h)
    refine VCallNode.tells (fun _ => tCmpI 0 0) ?_
    refine VCallNode.tells (fun _ => tCmpL 0 0) ?_
    refine VCallNode.tells (fun _ => tFloats0) ?_
    refine VCallNode.tells (fun _ => tStrCmp0) ?_
    refine ⟨fun b => ⟨?_, trivial⟩, trivial⟩
    refine CallNode.tellsIn (tOr0 [0, 0, 0, 0] (by simp) b 0 4 (by decide)) (fun β w ho => ⟨ho.rowF 0 (i := 2) (.inl ⟨_, rfl⟩), trivial⟩) ⟨?_, trivial⟩
    exact rfl
theorem tSame0 : Tells 60 [vZero, vZero] [.bool true] :=
  Tells.of 4 func60 (by kernel_rfl) fun L => CallNode.tells tCmp0 rfl
end Go.Q
