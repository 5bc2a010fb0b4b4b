/-
  MADE BY PROGRAM (lays.py): utf8.ValidString, utf8.RuneCountInString, strings.Join lie in this seat as they lie on the shelf. Conditions: none.
-/
import Derived.Test.YtkidlkcmpbnhpaaDoorQg
import Derived.Shelf.Unicode.ValidAny
import Derived.Shelf.Utf8.RuneCount
import Derived.Shelf.Strings.OnBuilder
namespace Go.Q
open Go Go.Proofs Go.Proofs.Tryd Go.Shelf
set_option maxRecDepth 100000
def laysValidF : Nat → Nat
  | 196 => 76
  | 259 => 83
  | _ => 0
def laysValidT : Nat → Nat
  | 0 => 0
  | 3 => 3
  | 4 => 4
  | 5 => 5
  | 9 => 9
  | 12 => 12
  | 46 => 106
  | 53 => 22
  | 119 => 109
  | 138 => 111
  | 139 => 112
  | _ => 0
def laysValidG : Nat → Nat
  | 3 => 1
  | 4 => 2
  | _ => 0
def laysValidRen : Ren := ⟨laysValidF, laysValidT, laysValidG⟩
theorem laysValid : Lays.n196 P laysValidRen :=
  {
    mixed := by kernel_rfl,
    f196 := by kernel_rfl,
    f259 := by kernel_rfl,
    t0 := by kernel_rfl,
    a0 := isAgg0,
    z0 := sizeOf0,
    v0 := zeroValue0,
    t3 := by kernel_rfl,
    a3 := isAgg3,
    z3 := sizeOf3,
    v3 := zeroValue3,
    t4 := by kernel_rfl,
    a4 := isAgg4,
    z4 := sizeOf4,
    v4 := zeroValue4,
    t5 := by kernel_rfl,
    a5 := isAgg5,
    z5 := sizeOf5,
    v5 := zeroValue5,
    t9 := by kernel_rfl,
    a9 := isAgg9,
    z9 := sizeOf9,
    v9 := zeroValue9,
    t12 := by kernel_rfl,
    a12 := isAgg12,
    z12 := sizeOf12,
    v12 := zeroValue12,
    t46 := by kernel_rfl,
    a46 := isAgg106,
    z46 := sizeOf106,
    v46 := zeroValue106,
    t53 := by kernel_rfl,
    a53 := isAgg22,
    z53 := sizeOf22,
    v53 := zeroValue22,
    t119 := by kernel_rfl,
    a119 := isAgg109,
    z119 := sizeOf109,
    t138 := by kernel_rfl,
    a138 := isAgg111,
    z138 := sizeOf111,
    v138 := zeroValue111,
    t139 := by kernel_rfl,
    a139 := isAgg112,
    z139 := sizeOf112,
    v139 := zeroValue112,
    g3 := by kernel_rfl,
    g4 := by kernel_rfl }

def laysCountF : Nat → Nat
  | 195 => 66
  | _ => 0
def laysCountT : Nat → Nat
  | 0 => 0
  | 3 => 3
  | 4 => 4
  | 9 => 9
  | _ => 0
def laysCountG : Nat → Nat
  | _ => 0
def laysCountRen : Ren := ⟨laysCountF, laysCountT, laysCountG⟩
theorem laysCount : Lays.n195 P laysCountRen :=
  {
    mixed := by kernel_rfl,
    f195 := by kernel_rfl,
    t0 := by kernel_rfl,
    a0 := isAgg0,
    z0 := sizeOf0,
    v0 := zeroValue0,
    t3 := by kernel_rfl,
    a3 := isAgg3,
    z3 := sizeOf3,
    v3 := zeroValue3,
    t4 := by kernel_rfl,
    a4 := isAgg4,
    z4 := sizeOf4,
    v4 := zeroValue4,
    t9 := by kernel_rfl,
    a9 := isAgg9,
    z9 := sizeOf9,
    v9 := zeroValue9 }

def laysJoinF : Nat → Nat
  | 156 => 55
  | 165 => 73
  | 166 => 74
  | 169 => 75
  | 240 => 81
  | 241 => 82
  | 276 => 91
  | 277 => 92
  | _ => 0
def laysJoinT : Nat → Nat
  | 0 => 0
  | 3 => 3
  | 4 => 4
  | 5 => 5
  | 9 => 9
  | 20 => 20
  | 31 => 63
  | 37 => 32
  | 70 => 95
  | 72 => 97
  | 75 => 100
  | 76 => 101
  | 80 => 103
  | 127 => 107
  | 164 => 116
  | _ => 0
def laysJoinG : Nat → Nat
  | _ => 0
def laysJoinRen : Ren := ⟨laysJoinF, laysJoinT, laysJoinG⟩
theorem laysJoin : Lays.n156 P laysJoinRen :=
  {
    mixed := by kernel_rfl,
    f156 := by kernel_rfl,
    f165 := by kernel_rfl,
    f166 := by kernel_rfl,
    f169 := by kernel_rfl,
    f240 := by kernel_rfl,
    f241 := by kernel_rfl,
    f276 := by kernel_rfl,
    f277 := by kernel_rfl,
    t0 := by kernel_rfl,
    a0 := isAgg0,
    z0 := sizeOf0,
    v0 := zeroValue0,
    t3 := by kernel_rfl,
    a3 := isAgg3,
    z3 := sizeOf3,
    v3 := zeroValue3,
    t4 := by kernel_rfl,
    a4 := isAgg4,
    z4 := sizeOf4,
    v4 := zeroValue4,
    t9 := by kernel_rfl,
    a9 := isAgg9,
    z9 := sizeOf9,
    v9 := zeroValue9,
    t20 := by kernel_rfl,
    a20 := isAgg20,
    z20 := sizeOf20,
    v20 := zeroValue20,
    t31 := by kernel_rfl,
    a31 := isAgg63,
    z31 := sizeOf63,
    v31 := zeroValue63,
    t37 := by kernel_rfl,
    a37 := isAgg32,
    z37 := sizeOf32,
    v37 := zeroValue32,
    t70 := by kernel_rfl,
    a70 := isAgg95,
    z70 := sizeOf95,
    v70 := zeroValue95,
    t72 := by kernel_rfl,
    a72 := isAgg97,
    z72 := sizeOf97,
    v72 := zeroValue97,
    t75 := by kernel_rfl,
    a75 := isAgg100,
    z75 := sizeOf100,
    v75 := zeroValue100,
    t76 := by kernel_rfl,
    a76 := isAgg101,
    z76 := sizeOf101,
    v76 := zeroValue101,
    t127 := by kernel_rfl,
    a127 := isAgg107,
    z127 := sizeOf107,
    v127 := zeroValue107,
    t164 := by kernel_rfl,
    a164 := isAgg116,
    z164 := sizeOf116,
    v164 := zeroValue116 }

end Go.Q
