/-
  MADE BY PROGRAM (gentab.py): the table of this seat's types. Conditions: none.
-/
import Derived.Test.YtkidlkcmpbnhpaaDoorQe13
import Derived.Test.YtkidlkcmpbnhpaaDoorRows
import Derived.KernelRfl
namespace Go.Q
open Go Go.Proofs.Tryd
def ti1 : TI := ⟨.func, 1, 8, false, [Go.Value.nilFunc], [], 0⟩
def ti2 : TI := ⟨.int .i64, 1, 8, false, [Go.Value.int Go.IntKind.i64 0], [], 0⟩
def ti3 : TI := ⟨.int .i64, 1, 8, false, [Go.Value.int Go.IntKind.i64 0], [], 0⟩
def ti4 : TI := ⟨.bool, 1, 1, false, [Go.Value.bool false], [], 0⟩
def ti5 : TI := ⟨.int .u8, 1, 1, false, [Go.Value.int Go.IntKind.u8 0], [], 0⟩
def ti6 : TI := ⟨.int .u8, 1, 1, false, [Go.Value.int Go.IntKind.u8 0], [], 0⟩
def ti7 : TI := ⟨.struct, 4, 24, true, [Go.Value.int Go.IntKind.i64 0, Go.Value.int Go.IntKind.i64 0, Go.Value.bool false, Go.Value.int Go.IntKind.u8 0], [(0, 1, false), (1, 1, false), (2, 1, false), (3, 1, false)], 0⟩
def ti8 : TI := ⟨.struct, 4, 24, true, [Go.Value.int Go.IntKind.i64 0, Go.Value.int Go.IntKind.i64 0, Go.Value.bool false, Go.Value.int Go.IntKind.u8 0], [(0, 1, false), (1, 1, false), (2, 1, false), (3, 1, false)], 0⟩
def ti9 : TI := ⟨.string, 1, 16, false, [Go.Value.string { data := #[] }], [], 0⟩
def ti10 : TI := ⟨.string, 1, 16, false, [Go.Value.string { data := #[] }], [], 0⟩
def ti11 : TI := ⟨.string, 1, 16, false, [Go.Value.string { data := #[] }], [], 0⟩
def ti12 : TI := ⟨.int .u64, 1, 8, false, [Go.Value.int Go.IntKind.u64 0], [], 0⟩
def ti13 : TI := ⟨.struct, 2, 24, true, [Go.Value.string { data := #[] }, Go.Value.int Go.IntKind.u64 0], [(0, 1, false), (1, 1, false)], 0⟩
def ti14 : TI := ⟨.struct, 2, 24, true, [Go.Value.string { data := #[] }, Go.Value.int Go.IntKind.u64 0], [(0, 1, false), (1, 1, false)], 0⟩
def ti15 : TI := ⟨.ptr, 1, 8, false, [Go.Value.pointer none], [], 125⟩
def ti16 : TI := ⟨.ptr, 1, 8, false, [Go.Value.pointer none], [], 128⟩
def ti17 : TI := ⟨.ptr, 1, 8, false, [Go.Value.pointer none], [], 137⟩
def ti18 : TI := ⟨.struct, 1, 8, true, [Go.Value.pointer none], [(0, 1, false)], 0⟩
def ti19 : TI := ⟨.struct, 1, 8, true, [Go.Value.pointer none], [(0, 1, false)], 0⟩
def ti20 : TI := ⟨.iface, 1, 16, false, [Go.Value.nilIface], [], 0⟩
def ti21 : TI := ⟨.int .i32, 1, 4, false, [Go.Value.int Go.IntKind.i32 0], [], 0⟩
def ti22 : TI := ⟨.int .u64, 1, 8, false, [Go.Value.int Go.IntKind.u64 0], [], 0⟩
def ti23 : TI := ⟨.struct, 2, 16, true, [Go.Value.int Go.IntKind.u64 0, Go.Value.int Go.IntKind.u64 0], [(0, 1, false), (1, 1, false)], 0⟩
def ti24 : TI := ⟨.struct, 2, 16, true, [Go.Value.int Go.IntKind.u64 0, Go.Value.int Go.IntKind.u64 0], [(0, 1, false), (1, 1, false)], 0⟩
def ti25 : TI := ⟨.float .f64, 1, 8, false, [Go.Value.float Go.FloatKind.f64 0], [], 0⟩
def ti26 : TI := ⟨.struct, 4, 40, true, [Go.Value.int Go.IntKind.i64 0, Go.Value.int Go.IntKind.i64 0, Go.Value.float Go.FloatKind.f64 0, Go.Value.string { data := #[] }], [(0, 1, false), (1, 1, false), (2, 1, false), (3, 1, false)], 0⟩
def ti27 : TI := ⟨.struct, 4, 40, true, [Go.Value.int Go.IntKind.i64 0, Go.Value.int Go.IntKind.i64 0, Go.Value.float Go.FloatKind.f64 0, Go.Value.string { data := #[] }], [(0, 1, false), (1, 1, false), (2, 1, false), (3, 1, false)], 0⟩
def ti28 : TI := ⟨.struct, 3, 24, true, [Go.Value.int Go.IntKind.u64 0, Go.Value.int Go.IntKind.u64 0, Go.Value.bool false], [(0, 2, true), (2, 1, false)], 0⟩
def ti29 : TI := ⟨.struct, 3, 24, true, [Go.Value.int Go.IntKind.u64 0, Go.Value.int Go.IntKind.u64 0, Go.Value.bool false], [(0, 2, true), (2, 1, false)], 0⟩
def ti30 : TI := ⟨.struct, 22, 200, true, [Go.Value.int Go.IntKind.u64 0, Go.Value.int Go.IntKind.u64 0, Go.Value.int Go.IntKind.i64 0, Go.Value.int Go.IntKind.u64 0, Go.Value.int Go.IntKind.u64 0, Go.Value.int Go.IntKind.u64 0, Go.Value.int Go.IntKind.u64 0, Go.Value.int Go.IntKind.u64 0, Go.Value.string { data := #[] }, Go.Value.int Go.IntKind.i64 0, Go.Value.int Go.IntKind.i64 0, Go.Value.float Go.FloatKind.f64 0, Go.Value.string { data := #[] }, Go.Value.string { data := #[] }, Go.Value.int Go.IntKind.u64 0, Go.Value.int Go.IntKind.u64 0, Go.Value.int Go.IntKind.u64 0, Go.Value.int Go.IntKind.u64 0, Go.Value.bool false, Go.Value.int Go.IntKind.u64 0, Go.Value.int Go.IntKind.u64 0, Go.Value.bool false], [(0, 2, true), (2, 1, false), (3, 1, false), (4, 2, true), (6, 2, true), (8, 1, false), (9, 4, true), (13, 1, false), (14, 2, true), (16, 3, true), (19, 3, true)], 0⟩
def ti31 : TI := ⟨.struct, 22, 200, true, [Go.Value.int Go.IntKind.u64 0, Go.Value.int Go.IntKind.u64 0, Go.Value.int Go.IntKind.i64 0, Go.Value.int Go.IntKind.u64 0, Go.Value.int Go.IntKind.u64 0, Go.Value.int Go.IntKind.u64 0, Go.Value.int Go.IntKind.u64 0, Go.Value.int Go.IntKind.u64 0, Go.Value.string { data := #[] }, Go.Value.int Go.IntKind.i64 0, Go.Value.int Go.IntKind.i64 0, Go.Value.float Go.FloatKind.f64 0, Go.Value.string { data := #[] }, Go.Value.string { data := #[] }, Go.Value.int Go.IntKind.u64 0, Go.Value.int Go.IntKind.u64 0, Go.Value.int Go.IntKind.u64 0, Go.Value.int Go.IntKind.u64 0, Go.Value.bool false, Go.Value.int Go.IntKind.u64 0, Go.Value.int Go.IntKind.u64 0, Go.Value.bool false], [(0, 2, true), (2, 1, false), (3, 1, false), (4, 2, true), (6, 2, true), (8, 1, false), (9, 4, true), (13, 1, false), (14, 2, true), (16, 3, true), (19, 3, true)], 0⟩
def ti32 : TI := ⟨.slice, 1, 24, false, [Go.Value.slice none 0 0], [], 5⟩
def ti33 : TI := ⟨.func, 1, 8, false, [Go.Value.nilFunc], [], 0⟩
def ti34 : TI := ⟨.func, 1, 8, false, [Go.Value.nilFunc], [], 0⟩
def ti35 : TI := ⟨.func, 1, 8, false, [Go.Value.nilFunc], [], 0⟩
def ti36 : TI := ⟨.slice, 1, 24, false, [Go.Value.slice none 0 0], [], 31⟩
def ti38 : TI := ⟨.func, 1, 8, false, [Go.Value.nilFunc], [], 0⟩
def ti39 : TI := ⟨.func, 1, 8, false, [Go.Value.nilFunc], [], 0⟩
def ti40 : TI := ⟨.func, 1, 8, false, [Go.Value.nilFunc], [], 0⟩
def ti41 : TI := ⟨.func, 1, 8, false, [Go.Value.nilFunc], [], 0⟩
def ti42 : TI := ⟨.func, 1, 8, false, [Go.Value.nilFunc], [], 0⟩
def ti43 : TI := ⟨.int .i64, 1, 8, false, [Go.Value.int Go.IntKind.i64 0], [], 0⟩
def ti44 : TI := ⟨.func, 1, 8, false, [Go.Value.nilFunc], [], 0⟩
def ti45 : TI := ⟨.func, 1, 8, false, [Go.Value.nilFunc], [], 0⟩
def ti46 : TI := ⟨.struct, 3, 24, true, [Go.Value.int Go.IntKind.u64 0, Go.Value.int Go.IntKind.u64 0, Go.Value.int Go.IntKind.u64 0], [(0, 1, false), (1, 1, false), (2, 1, false)], 0⟩
def ti47 : TI := ⟨.struct, 3, 24, true, [Go.Value.int Go.IntKind.u64 0, Go.Value.int Go.IntKind.u64 0, Go.Value.int Go.IntKind.u64 0], [(0, 1, false), (1, 1, false), (2, 1, false)], 0⟩
def ti48 : TI := ⟨.func, 1, 8, false, [Go.Value.nilFunc], [], 0⟩
def ti49 : TI := ⟨.func, 1, 8, false, [Go.Value.nilFunc], [], 0⟩
def ti50 : TI := ⟨.func, 1, 8, false, [Go.Value.nilFunc], [], 0⟩
def ti51 : TI := ⟨.func, 1, 8, false, [Go.Value.nilFunc], [], 0⟩
def ti52 : TI := ⟨.func, 1, 8, false, [Go.Value.nilFunc], [], 0⟩
def ti53 : TI := ⟨.func, 1, 8, false, [Go.Value.nilFunc], [], 0⟩
def ti54 : TI := ⟨.slice, 1, 24, false, [Go.Value.slice none 0 0], [], 24⟩
def ti55 : TI := ⟨.func, 1, 8, false, [Go.Value.nilFunc], [], 0⟩
def ti56 : TI := ⟨.func, 1, 8, false, [Go.Value.nilFunc], [], 0⟩
def ti57 : TI := ⟨.func, 1, 8, false, [Go.Value.nilFunc], [], 0⟩
def ti58 : TI := ⟨.func, 1, 8, false, [Go.Value.nilFunc], [], 0⟩
def ti59 : TI := ⟨.func, 1, 8, false, [Go.Value.nilFunc], [], 0⟩
def ti60 : TI := ⟨.func, 1, 8, false, [Go.Value.nilFunc], [], 0⟩
def ti61 : TI := ⟨.func, 1, 8, false, [Go.Value.nilFunc], [], 0⟩
def ti62 : TI := ⟨.func, 1, 8, false, [Go.Value.nilFunc], [], 0⟩
def ti63 : TI := ⟨.slice, 1, 24, false, [Go.Value.slice none 0 0], [], 9⟩
def ti64 : TI := ⟨.func, 1, 8, false, [Go.Value.nilFunc], [], 0⟩
def ti65 : TI := ⟨.func, 1, 8, false, [Go.Value.nilFunc], [], 0⟩
def ti66 : TI := ⟨.func, 1, 8, false, [Go.Value.nilFunc], [], 0⟩
def ti67 : TI := ⟨.slice, 1, 24, false, [Go.Value.slice none 0 0], [], 47⟩
def ti68 : TI := ⟨.func, 1, 8, false, [Go.Value.nilFunc], [], 0⟩
def ti69 : TI := ⟨.func, 1, 8, false, [Go.Value.nilFunc], [], 0⟩
def ti70 : TI := ⟨.slice, 1, 24, false, [Go.Value.slice none 0 0], [], 21⟩
def ti72 : TI := ⟨.func, 1, 8, false, [Go.Value.nilFunc], [], 0⟩
def ti73 : TI := ⟨.func, 1, 8, false, [Go.Value.nilFunc], [], 0⟩
def ti74 : TI := ⟨.func, 1, 8, false, [Go.Value.nilFunc], [], 0⟩
def ti75 : TI := ⟨.func, 1, 8, false, [Go.Value.nilFunc], [], 0⟩
def ti76 : TI := ⟨.func, 1, 8, false, [Go.Value.nilFunc], [], 0⟩
def ti77 : TI := ⟨.func, 1, 8, false, [Go.Value.nilFunc], [], 0⟩
def ti78 : TI := ⟨.func, 1, 8, false, [Go.Value.nilFunc], [], 0⟩
def ti79 : TI := ⟨.func, 1, 8, false, [Go.Value.nilFunc], [], 0⟩
def ti80 : TI := ⟨.func, 1, 8, false, [Go.Value.nilFunc], [], 0⟩
def ti81 : TI := ⟨.func, 1, 8, false, [Go.Value.nilFunc], [], 0⟩
def ti82 : TI := ⟨.func, 1, 8, false, [Go.Value.nilFunc], [], 0⟩
def ti83 : TI := ⟨.func, 1, 8, false, [Go.Value.nilFunc], [], 0⟩
def ti84 : TI := ⟨.func, 1, 8, false, [Go.Value.nilFunc], [], 0⟩
def ti85 : TI := ⟨.func, 1, 8, false, [Go.Value.nilFunc], [], 0⟩
def ti86 : TI := ⟨.func, 1, 8, false, [Go.Value.nilFunc], [], 0⟩
def ti87 : TI := ⟨.func, 1, 8, false, [Go.Value.nilFunc], [], 0⟩
def ti89 : TI := ⟨.func, 1, 8, false, [Go.Value.nilFunc], [], 0⟩
def ti90 : TI := ⟨.func, 1, 8, false, [Go.Value.nilFunc], [], 0⟩
def ti91 : TI := ⟨.func, 1, 8, false, [Go.Value.nilFunc], [], 0⟩
def ti92 : TI := ⟨.func, 1, 8, false, [Go.Value.nilFunc], [], 0⟩
def ti93 : TI := ⟨.func, 1, 8, false, [Go.Value.nilFunc], [], 0⟩
def ti94 : TI := ⟨.func, 1, 8, false, [Go.Value.nilFunc], [], 0⟩
def ti95 : TI := ⟨.ptr, 1, 8, false, [Go.Value.pointer none], [], 97⟩
def ti96 : TI := ⟨.struct, 2, 32, true, [Go.Value.pointer none, Go.Value.slice none 0 0], [(0, 1, false), (1, 1, false)], 0⟩
def ti97 : TI := ⟨.struct, 2, 32, true, [Go.Value.pointer none, Go.Value.slice none 0 0], [(0, 1, false), (1, 1, false)], 0⟩
def ti98 : TI := ⟨.func, 1, 8, false, [Go.Value.nilFunc], [], 0⟩
def ti99 : TI := ⟨.iface, 1, 16, false, [Go.Value.nilIface], [], 0⟩
def ti100 : TI := ⟨.iface, 1, 16, false, [Go.Value.nilIface], [], 0⟩
def ti102 : TI := ⟨.func, 1, 8, false, [Go.Value.nilFunc], [], 0⟩
def ti103 : TI := ⟨.func, 1, 8, false, [Go.Value.nilFunc], [], 0⟩
def ti104 : TI := ⟨.func, 1, 8, false, [Go.Value.nilFunc], [], 0⟩
def ti105 : TI := ⟨.func, 1, 8, false, [Go.Value.nilFunc], [], 0⟩
def ti106 : TI := ⟨.int .u64, 1, 8, false, [Go.Value.int Go.IntKind.u64 0], [], 0⟩
def ti107 : TI := ⟨.ptr, 1, 8, false, [Go.Value.pointer none], [], 5⟩
def ti108 : TI := ⟨.func, 1, 8, false, [Go.Value.nilFunc], [], 0⟩
def ti109 : TI := ⟨.array 256, 256, 256, true, [], [], 5⟩
def ti110 : TI := ⟨.struct, 2, 2, true, [Go.Value.int Go.IntKind.u8 0, Go.Value.int Go.IntKind.u8 0], [(0, 1, false), (1, 1, false)], 0⟩
def ti111 : TI := ⟨.struct, 2, 2, true, [Go.Value.int Go.IntKind.u8 0, Go.Value.int Go.IntKind.u8 0], [(0, 1, false), (1, 1, false)], 0⟩
def ti112 : TI := ⟨.array 16, 32, 32, true, [Go.Value.int Go.IntKind.u8 0, Go.Value.int Go.IntKind.u8 0, Go.Value.int Go.IntKind.u8 0, Go.Value.int Go.IntKind.u8 0, Go.Value.int Go.IntKind.u8 0, Go.Value.int Go.IntKind.u8 0, Go.Value.int Go.IntKind.u8 0, Go.Value.int Go.IntKind.u8 0, Go.Value.int Go.IntKind.u8 0, Go.Value.int Go.IntKind.u8 0, Go.Value.int Go.IntKind.u8 0, Go.Value.int Go.IntKind.u8 0, Go.Value.int Go.IntKind.u8 0, Go.Value.int Go.IntKind.u8 0, Go.Value.int Go.IntKind.u8 0, Go.Value.int Go.IntKind.u8 0, Go.Value.int Go.IntKind.u8 0, Go.Value.int Go.IntKind.u8 0, Go.Value.int Go.IntKind.u8 0, Go.Value.int Go.IntKind.u8 0, Go.Value.int Go.IntKind.u8 0, Go.Value.int Go.IntKind.u8 0, Go.Value.int Go.IntKind.u8 0, Go.Value.int Go.IntKind.u8 0, Go.Value.int Go.IntKind.u8 0, Go.Value.int Go.IntKind.u8 0, Go.Value.int Go.IntKind.u8 0, Go.Value.int Go.IntKind.u8 0, Go.Value.int Go.IntKind.u8 0, Go.Value.int Go.IntKind.u8 0, Go.Value.int Go.IntKind.u8 0, Go.Value.int Go.IntKind.u8 0], [], 111⟩
def ti113 : TI := ⟨.func, 1, 8, false, [Go.Value.nilFunc], [], 0⟩
def ti114 : TI := ⟨.func, 1, 8, false, [Go.Value.nilFunc], [], 0⟩
def ti115 : TI := ⟨.func, 1, 8, false, [Go.Value.nilFunc], [], 0⟩
def ti117 : TI := ⟨.func, 1, 8, false, [Go.Value.nilFunc], [], 0⟩
def ti118 : TI := ⟨.func, 1, 8, false, [Go.Value.nilFunc], [], 0⟩
def ti119 : TI := ⟨.slice, 1, 24, false, [Go.Value.slice none 0 0], [], 3⟩
def ti120 : TI := ⟨.func, 1, 8, false, [Go.Value.nilFunc], [], 0⟩
def ti121 : TI := ⟨.func, 1, 8, false, [Go.Value.nilFunc], [], 0⟩
def ti123 : TI := ⟨.func, 1, 8, false, [Go.Value.nilFunc], [], 0⟩
def ti124 : TI := ⟨.struct, 4, 40, true, [Go.Value.pointer none, Go.Value.pointer none, Go.Value.pointer none, Go.Value.string { data := #[] }], [(0, 1, false), (1, 1, false), (2, 1, false), (3, 1, false)], 0⟩
def ti125 : TI := ⟨.struct, 4, 40, true, [Go.Value.pointer none, Go.Value.pointer none, Go.Value.pointer none, Go.Value.string { data := #[] }], [(0, 1, false), (1, 1, false), (2, 1, false), (3, 1, false)], 0⟩
def ti126 : TI := ⟨.array 0, 0, 0, true, [], [], 16⟩
def ti129 : TI := ⟨.func, 1, 8, false, [Go.Value.nilFunc], [], 0⟩
def ti130 : TI := ⟨.int .u32, 1, 4, false, [Go.Value.int Go.IntKind.u32 0], [], 0⟩
def ti131 : TI := ⟨.int .u8, 1, 1, false, [Go.Value.int Go.IntKind.u8 0], [], 0⟩
def ti132 : TI := ⟨.int .u8, 1, 1, false, [Go.Value.int Go.IntKind.u8 0], [], 0⟩
def ti133 : TI := ⟨.func, 1, 8, false, [Go.Value.nilFunc], [], 0⟩
def ti134 : TI := ⟨.int .i32, 1, 4, false, [Go.Value.int Go.IntKind.i32 0], [], 0⟩
def ti135 : TI := ⟨.int .i32, 1, 4, false, [Go.Value.int Go.IntKind.i32 0], [], 0⟩
def ti136 : TI := ⟨.struct, 11, 48, true, [Go.Value.int Go.IntKind.u64 0, Go.Value.int Go.IntKind.u64 0, Go.Value.int Go.IntKind.u32 0, Go.Value.int Go.IntKind.u8 0, Go.Value.int Go.IntKind.u8 0, Go.Value.int Go.IntKind.u8 0, Go.Value.int Go.IntKind.u8 0, Go.Value.nilFunc, Go.Value.pointer none, Go.Value.int Go.IntKind.i32 0, Go.Value.int Go.IntKind.i32 0], [(0, 1, false), (1, 1, false), (2, 1, false), (3, 1, false), (4, 1, false), (5, 1, false), (6, 1, false), (7, 1, false), (8, 1, false), (9, 1, false), (10, 1, false)], 0⟩
def ti137 : TI := ⟨.struct, 11, 48, true, [Go.Value.int Go.IntKind.u64 0, Go.Value.int Go.IntKind.u64 0, Go.Value.int Go.IntKind.u32 0, Go.Value.int Go.IntKind.u8 0, Go.Value.int Go.IntKind.u8 0, Go.Value.int Go.IntKind.u8 0, Go.Value.int Go.IntKind.u8 0, Go.Value.nilFunc, Go.Value.pointer none, Go.Value.int Go.IntKind.i32 0, Go.Value.int Go.IntKind.i32 0], [(0, 1, false), (1, 1, false), (2, 1, false), (3, 1, false), (4, 1, false), (5, 1, false), (6, 1, false), (7, 1, false), (8, 1, false), (9, 1, false), (10, 1, false)], 0⟩
def tis : TT := (.n (.n (.n (.n (.n (.n (.n (.n .e 1 ti1 .e) 2 ti2 .e) 3 ti3 (.n .e 4 ti4 .e)) 5 ti5 (.n (.n .e 6 ti6 .e) 7 ti7 (.n .e 8 ti8 .e))) 9 ti9 (.n (.n (.n .e 10 ti10 .e) 11 ti11 (.n .e 12 ti12 .e)) 13 ti13 (.n (.n .e 14 ti14 .e) 15 ti15 (.n .e 16 ti16 .e)))) 17 ti17 (.n (.n (.n (.n .e 18 ti18 .e) 19 ti19 (.n .e 20 ti20 .e)) 21 ti21 (.n (.n .e 22 ti22 .e) 23 ti23 (.n .e 24 ti24 .e))) 25 ti25 (.n (.n (.n .e 26 ti26 .e) 27 ti27 (.n .e 28 ti28 .e)) 29 ti29 (.n (.n .e 30 ti30 .e) 31 ti31 (.n .e 32 ti32 .e))))) 33 ti33 (.n (.n (.n (.n (.n .e 34 ti34 .e) 35 ti35 (.n .e 36 ti36 .e)) 38 ti38 (.n (.n .e 39 ti39 .e) 40 ti40 (.n .e 41 ti41 .e))) 42 ti42 (.n (.n (.n .e 43 ti43 .e) 44 ti44 (.n .e 45 ti45 .e)) 46 ti46 (.n (.n .e 47 ti47 .e) 48 ti48 (.n .e 49 ti49 .e)))) 50 ti50 (.n (.n (.n (.n .e 51 ti51 .e) 52 ti52 (.n .e 53 ti53 .e)) 54 ti54 (.n (.n .e 55 ti55 .e) 56 ti56 (.n .e 57 ti57 .e))) 58 ti58 (.n (.n (.n .e 59 ti59 .e) 60 ti60 (.n .e 61 ti61 .e)) 62 ti62 (.n (.n .e 63 ti63 .e) 64 ti64 (.n .e 65 ti65 .e)))))) 66 ti66 (.n (.n (.n (.n (.n (.n (.n .e 67 ti67 .e) 68 ti68 .e) 69 ti69 (.n .e 70 ti70 .e)) 72 ti72 (.n (.n .e 73 ti73 .e) 74 ti74 (.n .e 75 ti75 .e))) 76 ti76 (.n (.n (.n .e 77 ti77 .e) 78 ti78 (.n .e 79 ti79 .e)) 80 ti80 (.n (.n .e 81 ti81 .e) 82 ti82 (.n .e 83 ti83 .e)))) 84 ti84 (.n (.n (.n (.n .e 85 ti85 .e) 86 ti86 (.n .e 87 ti87 .e)) 89 ti89 (.n (.n .e 90 ti90 .e) 91 ti91 (.n .e 92 ti92 .e))) 93 ti93 (.n (.n (.n .e 94 ti94 .e) 95 ti95 (.n .e 96 ti96 .e)) 97 ti97 (.n (.n .e 98 ti98 .e) 99 ti99 (.n .e 100 ti100 .e))))) 102 ti102 (.n (.n (.n (.n (.n .e 103 ti103 .e) 104 ti104 (.n .e 105 ti105 .e)) 106 ti106 (.n (.n .e 107 ti107 .e) 108 ti108 (.n .e 109 ti109 .e))) 110 ti110 (.n (.n (.n .e 111 ti111 .e) 112 ti112 (.n .e 113 ti113 .e)) 114 ti114 (.n (.n .e 115 ti115 .e) 117 ti117 (.n .e 118 ti118 .e)))) 119 ti119 (.n (.n (.n (.n .e 120 ti120 .e) 121 ti121 (.n .e 123 ti123 .e)) 124 ti124 (.n (.n .e 125 ti125 .e) 126 ti126 (.n .e 129 ti129 .e))) 130 ti130 (.n (.n (.n .e 131 ti131 .e) 132 ti132 (.n .e 133 ti133 .e)) 134 ti134 (.n (.n .e 135 ti135 .e) 136 ti136 (.n .e 137 ti137 .e)))))))
def τ : Tab := ⟨tis.get, 124, [0, 1, 47, 50, 91, 92, 100, 101, 102, 103, 104, 105, 106, 107, 108, 109, 110, 111, 112, 113, 114, 115, 116, 117, 118, 119, 120, 121, 122]⟩
noncomputable abbrev P : Program := Go.Proofs.Tryd.prog
theorem tis_ok : tis.ok P = true := by kernel_rfl
theorem tz1 : zOk P 1 ti1 := ⟨t1, Go.Value.nilFunc, by kernel_rfl, rfl, rfl⟩
theorem tz2 : zOk P 2 ti2 := ⟨t2, (Go.Value.int Go.IntKind.i64 0), by kernel_rfl, rfl, rfl⟩
theorem tz3 : zOk P 3 ti3 := ⟨t3, (Go.Value.int Go.IntKind.i64 0), by kernel_rfl, rfl, rfl⟩
theorem tz4 : zOk P 4 ti4 := ⟨t4, (Go.Value.bool false), by kernel_rfl, rfl, rfl⟩
theorem tz5 : zOk P 5 ti5 := ⟨t5, (Go.Value.int Go.IntKind.u8 0), by kernel_rfl, rfl, rfl⟩
theorem tz6 : zOk P 6 ti6 := ⟨t6, (Go.Value.int Go.IntKind.u8 0), by kernel_rfl, rfl, rfl⟩
theorem tz7 : zOk P 7 ti7 := ⟨t7, (Go.Value.agg #[Go.Value.int Go.IntKind.i64 0, Go.Value.int Go.IntKind.i64 0, Go.Value.bool false, Go.Value.int Go.IntKind.u8 0]), by kernel_rfl, rfl, rfl⟩
theorem tz8 : zOk P 8 ti8 := ⟨t8, (Go.Value.agg #[Go.Value.int Go.IntKind.i64 0, Go.Value.int Go.IntKind.i64 0, Go.Value.bool false, Go.Value.int Go.IntKind.u8 0]), by kernel_rfl, rfl, rfl⟩
theorem tz9 : zOk P 9 ti9 := ⟨t9, (Go.Value.string { data := #[] }), by kernel_rfl, rfl, rfl⟩
theorem tz10 : zOk P 10 ti10 := ⟨t10, (Go.Value.string { data := #[] }), by kernel_rfl, rfl, rfl⟩
theorem tz11 : zOk P 11 ti11 := ⟨t11, (Go.Value.string { data := #[] }), by kernel_rfl, rfl, rfl⟩
theorem tz12 : zOk P 12 ti12 := ⟨t12, (Go.Value.int Go.IntKind.u64 0), by kernel_rfl, rfl, rfl⟩
theorem tz13 : zOk P 13 ti13 := ⟨t13, (Go.Value.agg #[Go.Value.string { data := #[] }, Go.Value.int Go.IntKind.u64 0]), by kernel_rfl, rfl, rfl⟩
theorem tz14 : zOk P 14 ti14 := ⟨t14, (Go.Value.agg #[Go.Value.string { data := #[] }, Go.Value.int Go.IntKind.u64 0]), by kernel_rfl, rfl, rfl⟩
theorem tz15 : zOk P 15 ti15 := ⟨t15, (Go.Value.pointer none), by kernel_rfl, rfl, rfl⟩
theorem tz16 : zOk P 16 ti16 := ⟨t16, (Go.Value.pointer none), by kernel_rfl, rfl, rfl⟩
theorem tz17 : zOk P 17 ti17 := ⟨t17, (Go.Value.pointer none), by kernel_rfl, rfl, rfl⟩
theorem tz18 : zOk P 18 ti18 := ⟨t18, (Go.Value.agg #[Go.Value.pointer none]), by kernel_rfl, rfl, rfl⟩
theorem tz19 : zOk P 19 ti19 := ⟨t19, (Go.Value.agg #[Go.Value.pointer none]), by kernel_rfl, rfl, rfl⟩
theorem tz20 : zOk P 20 ti20 := ⟨t20, Go.Value.nilIface, by kernel_rfl, rfl, rfl⟩
theorem tz21 : zOk P 21 ti21 := ⟨t21, (Go.Value.int Go.IntKind.i32 0), by kernel_rfl, rfl, rfl⟩
theorem tz22 : zOk P 22 ti22 := ⟨t22, (Go.Value.int Go.IntKind.u64 0), by kernel_rfl, rfl, rfl⟩
theorem tz23 : zOk P 23 ti23 := ⟨t23, (Go.Value.agg #[Go.Value.int Go.IntKind.u64 0, Go.Value.int Go.IntKind.u64 0]), by kernel_rfl, rfl, rfl⟩
theorem tz24 : zOk P 24 ti24 := ⟨t24, (Go.Value.agg #[Go.Value.int Go.IntKind.u64 0, Go.Value.int Go.IntKind.u64 0]), by kernel_rfl, rfl, rfl⟩
theorem tz25 : zOk P 25 ti25 := ⟨t25, (Go.Value.float Go.FloatKind.f64 0), by kernel_rfl, rfl, rfl⟩
theorem tz26 : zOk P 26 ti26 := ⟨t26, (Go.Value.agg #[Go.Value.int Go.IntKind.i64 0, Go.Value.int Go.IntKind.i64 0, Go.Value.float Go.FloatKind.f64 0, Go.Value.string { data := #[] }]), by kernel_rfl, rfl, rfl⟩
theorem tz27 : zOk P 27 ti27 := ⟨t27, (Go.Value.agg #[Go.Value.int Go.IntKind.i64 0, Go.Value.int Go.IntKind.i64 0, Go.Value.float Go.FloatKind.f64 0, Go.Value.string { data := #[] }]), by kernel_rfl, rfl, rfl⟩
theorem tz28 : zOk P 28 ti28 := ⟨t28, (Go.Value.agg #[Go.Value.int Go.IntKind.u64 0, Go.Value.int Go.IntKind.u64 0, Go.Value.bool false]), by kernel_rfl, rfl, rfl⟩
theorem tz29 : zOk P 29 ti29 := ⟨t29, (Go.Value.agg #[Go.Value.int Go.IntKind.u64 0, Go.Value.int Go.IntKind.u64 0, Go.Value.bool false]), by kernel_rfl, rfl, rfl⟩
theorem tz30 : zOk P 30 ti30 := ⟨t30, (Go.Value.agg #[Go.Value.int Go.IntKind.u64 0, Go.Value.int Go.IntKind.u64 0, Go.Value.int Go.IntKind.i64 0, Go.Value.int Go.IntKind.u64 0, Go.Value.int Go.IntKind.u64 0, Go.Value.int Go.IntKind.u64 0, Go.Value.int Go.IntKind.u64 0, Go.Value.int Go.IntKind.u64 0, Go.Value.string { data := #[] }, Go.Value.int Go.IntKind.i64 0, Go.Value.int Go.IntKind.i64 0, Go.Value.float Go.FloatKind.f64 0, Go.Value.string { data := #[] }, Go.Value.string { data := #[] }, Go.Value.int Go.IntKind.u64 0, Go.Value.int Go.IntKind.u64 0, Go.Value.int Go.IntKind.u64 0, Go.Value.int Go.IntKind.u64 0, Go.Value.bool false, Go.Value.int Go.IntKind.u64 0, Go.Value.int Go.IntKind.u64 0, Go.Value.bool false]), by kernel_rfl, rfl, rfl⟩
theorem tz31 : zOk P 31 ti31 := ⟨t31, (Go.Value.agg #[Go.Value.int Go.IntKind.u64 0, Go.Value.int Go.IntKind.u64 0, Go.Value.int Go.IntKind.i64 0, Go.Value.int Go.IntKind.u64 0, Go.Value.int Go.IntKind.u64 0, Go.Value.int Go.IntKind.u64 0, Go.Value.int Go.IntKind.u64 0, Go.Value.int Go.IntKind.u64 0, Go.Value.string { data := #[] }, Go.Value.int Go.IntKind.i64 0, Go.Value.int Go.IntKind.i64 0, Go.Value.float Go.FloatKind.f64 0, Go.Value.string { data := #[] }, Go.Value.string { data := #[] }, Go.Value.int Go.IntKind.u64 0, Go.Value.int Go.IntKind.u64 0, Go.Value.int Go.IntKind.u64 0, Go.Value.int Go.IntKind.u64 0, Go.Value.bool false, Go.Value.int Go.IntKind.u64 0, Go.Value.int Go.IntKind.u64 0, Go.Value.bool false]), by kernel_rfl, rfl, rfl⟩
theorem tz32 : zOk P 32 ti32 := ⟨t32, (Go.Value.slice none 0 0), by kernel_rfl, rfl, rfl⟩
theorem tz33 : zOk P 33 ti33 := ⟨t33, Go.Value.nilFunc, by kernel_rfl, rfl, rfl⟩
theorem tz34 : zOk P 34 ti34 := ⟨t34, Go.Value.nilFunc, by kernel_rfl, rfl, rfl⟩
theorem tz35 : zOk P 35 ti35 := ⟨t35, Go.Value.nilFunc, by kernel_rfl, rfl, rfl⟩
theorem tz36 : zOk P 36 ti36 := ⟨t36, (Go.Value.slice none 0 0), by kernel_rfl, rfl, rfl⟩
theorem tz38 : zOk P 38 ti38 := ⟨t38, Go.Value.nilFunc, by kernel_rfl, rfl, rfl⟩
theorem tz39 : zOk P 39 ti39 := ⟨t39, Go.Value.nilFunc, by kernel_rfl, rfl, rfl⟩
theorem tz40 : zOk P 40 ti40 := ⟨t40, Go.Value.nilFunc, by kernel_rfl, rfl, rfl⟩
theorem tz41 : zOk P 41 ti41 := ⟨t41, Go.Value.nilFunc, by kernel_rfl, rfl, rfl⟩
theorem tz42 : zOk P 42 ti42 := ⟨t42, Go.Value.nilFunc, by kernel_rfl, rfl, rfl⟩
theorem tz43 : zOk P 43 ti43 := ⟨t43, (Go.Value.int Go.IntKind.i64 0), by kernel_rfl, rfl, rfl⟩
theorem tz44 : zOk P 44 ti44 := ⟨t44, Go.Value.nilFunc, by kernel_rfl, rfl, rfl⟩
theorem tz45 : zOk P 45 ti45 := ⟨t45, Go.Value.nilFunc, by kernel_rfl, rfl, rfl⟩
theorem tz46 : zOk P 46 ti46 := ⟨t46, (Go.Value.agg #[Go.Value.int Go.IntKind.u64 0, Go.Value.int Go.IntKind.u64 0, Go.Value.int Go.IntKind.u64 0]), by kernel_rfl, rfl, rfl⟩
theorem tz47 : zOk P 47 ti47 := ⟨t47, (Go.Value.agg #[Go.Value.int Go.IntKind.u64 0, Go.Value.int Go.IntKind.u64 0, Go.Value.int Go.IntKind.u64 0]), by kernel_rfl, rfl, rfl⟩
theorem tz48 : zOk P 48 ti48 := ⟨t48, Go.Value.nilFunc, by kernel_rfl, rfl, rfl⟩
theorem tz49 : zOk P 49 ti49 := ⟨t49, Go.Value.nilFunc, by kernel_rfl, rfl, rfl⟩
theorem tz50 : zOk P 50 ti50 := ⟨t50, Go.Value.nilFunc, by kernel_rfl, rfl, rfl⟩
theorem tz51 : zOk P 51 ti51 := ⟨t51, Go.Value.nilFunc, by kernel_rfl, rfl, rfl⟩
theorem tz52 : zOk P 52 ti52 := ⟨t52, Go.Value.nilFunc, by kernel_rfl, rfl, rfl⟩
theorem tz53 : zOk P 53 ti53 := ⟨t53, Go.Value.nilFunc, by kernel_rfl, rfl, rfl⟩
theorem tz54 : zOk P 54 ti54 := ⟨t54, (Go.Value.slice none 0 0), by kernel_rfl, rfl, rfl⟩
theorem tz55 : zOk P 55 ti55 := ⟨t55, Go.Value.nilFunc, by kernel_rfl, rfl, rfl⟩
theorem tz56 : zOk P 56 ti56 := ⟨t56, Go.Value.nilFunc, by kernel_rfl, rfl, rfl⟩
theorem tz57 : zOk P 57 ti57 := ⟨t57, Go.Value.nilFunc, by kernel_rfl, rfl, rfl⟩
theorem tz58 : zOk P 58 ti58 := ⟨t58, Go.Value.nilFunc, by kernel_rfl, rfl, rfl⟩
theorem tz59 : zOk P 59 ti59 := ⟨t59, Go.Value.nilFunc, by kernel_rfl, rfl, rfl⟩
theorem tz60 : zOk P 60 ti60 := ⟨t60, Go.Value.nilFunc, by kernel_rfl, rfl, rfl⟩
theorem tz61 : zOk P 61 ti61 := ⟨t61, Go.Value.nilFunc, by kernel_rfl, rfl, rfl⟩
theorem tz62 : zOk P 62 ti62 := ⟨t62, Go.Value.nilFunc, by kernel_rfl, rfl, rfl⟩
theorem tz63 : zOk P 63 ti63 := ⟨t63, (Go.Value.slice none 0 0), by kernel_rfl, rfl, rfl⟩
theorem tz64 : zOk P 64 ti64 := ⟨t64, Go.Value.nilFunc, by kernel_rfl, rfl, rfl⟩
theorem tz65 : zOk P 65 ti65 := ⟨t65, Go.Value.nilFunc, by kernel_rfl, rfl, rfl⟩
theorem tz66 : zOk P 66 ti66 := ⟨t66, Go.Value.nilFunc, by kernel_rfl, rfl, rfl⟩
theorem tz67 : zOk P 67 ti67 := ⟨t67, (Go.Value.slice none 0 0), by kernel_rfl, rfl, rfl⟩
theorem tz68 : zOk P 68 ti68 := ⟨t68, Go.Value.nilFunc, by kernel_rfl, rfl, rfl⟩
theorem tz69 : zOk P 69 ti69 := ⟨t69, Go.Value.nilFunc, by kernel_rfl, rfl, rfl⟩
theorem tz70 : zOk P 70 ti70 := ⟨t70, (Go.Value.slice none 0 0), by kernel_rfl, rfl, rfl⟩
theorem tz72 : zOk P 72 ti72 := ⟨t72, Go.Value.nilFunc, by kernel_rfl, rfl, rfl⟩
theorem tz73 : zOk P 73 ti73 := ⟨t73, Go.Value.nilFunc, by kernel_rfl, rfl, rfl⟩
theorem tz74 : zOk P 74 ti74 := ⟨t74, Go.Value.nilFunc, by kernel_rfl, rfl, rfl⟩
theorem tz75 : zOk P 75 ti75 := ⟨t75, Go.Value.nilFunc, by kernel_rfl, rfl, rfl⟩
theorem tz76 : zOk P 76 ti76 := ⟨t76, Go.Value.nilFunc, by kernel_rfl, rfl, rfl⟩
theorem tz77 : zOk P 77 ti77 := ⟨t77, Go.Value.nilFunc, by kernel_rfl, rfl, rfl⟩
theorem tz78 : zOk P 78 ti78 := ⟨t78, Go.Value.nilFunc, by kernel_rfl, rfl, rfl⟩
theorem tz79 : zOk P 79 ti79 := ⟨t79, Go.Value.nilFunc, by kernel_rfl, rfl, rfl⟩
theorem tz80 : zOk P 80 ti80 := ⟨t80, Go.Value.nilFunc, by kernel_rfl, rfl, rfl⟩
theorem tz81 : zOk P 81 ti81 := ⟨t81, Go.Value.nilFunc, by kernel_rfl, rfl, rfl⟩
theorem tz82 : zOk P 82 ti82 := ⟨t82, Go.Value.nilFunc, by kernel_rfl, rfl, rfl⟩
theorem tz83 : zOk P 83 ti83 := ⟨t83, Go.Value.nilFunc, by kernel_rfl, rfl, rfl⟩
theorem tz84 : zOk P 84 ti84 := ⟨t84, Go.Value.nilFunc, by kernel_rfl, rfl, rfl⟩
theorem tz85 : zOk P 85 ti85 := ⟨t85, Go.Value.nilFunc, by kernel_rfl, rfl, rfl⟩
theorem tz86 : zOk P 86 ti86 := ⟨t86, Go.Value.nilFunc, by kernel_rfl, rfl, rfl⟩
theorem tz87 : zOk P 87 ti87 := ⟨t87, Go.Value.nilFunc, by kernel_rfl, rfl, rfl⟩
theorem tz89 : zOk P 89 ti89 := ⟨t89, Go.Value.nilFunc, by kernel_rfl, rfl, rfl⟩
theorem tz90 : zOk P 90 ti90 := ⟨t90, Go.Value.nilFunc, by kernel_rfl, rfl, rfl⟩
theorem tz91 : zOk P 91 ti91 := ⟨t91, Go.Value.nilFunc, by kernel_rfl, rfl, rfl⟩
theorem tz92 : zOk P 92 ti92 := ⟨t92, Go.Value.nilFunc, by kernel_rfl, rfl, rfl⟩
theorem tz93 : zOk P 93 ti93 := ⟨t93, Go.Value.nilFunc, by kernel_rfl, rfl, rfl⟩
theorem tz94 : zOk P 94 ti94 := ⟨t94, Go.Value.nilFunc, by kernel_rfl, rfl, rfl⟩
theorem tz95 : zOk P 95 ti95 := ⟨t95, (Go.Value.pointer none), by kernel_rfl, rfl, rfl⟩
theorem tz96 : zOk P 96 ti96 := ⟨t96, (Go.Value.agg #[Go.Value.pointer none, Go.Value.slice none 0 0]), by kernel_rfl, rfl, rfl⟩
theorem tz97 : zOk P 97 ti97 := ⟨t97, (Go.Value.agg #[Go.Value.pointer none, Go.Value.slice none 0 0]), by kernel_rfl, rfl, rfl⟩
theorem tz98 : zOk P 98 ti98 := ⟨t98, Go.Value.nilFunc, by kernel_rfl, rfl, rfl⟩
theorem tz99 : zOk P 99 ti99 := ⟨t99, Go.Value.nilIface, by kernel_rfl, rfl, rfl⟩
theorem tz100 : zOk P 100 ti100 := ⟨t100, Go.Value.nilIface, by kernel_rfl, rfl, rfl⟩
theorem tz102 : zOk P 102 ti102 := ⟨t102, Go.Value.nilFunc, by kernel_rfl, rfl, rfl⟩
theorem tz103 : zOk P 103 ti103 := ⟨t103, Go.Value.nilFunc, by kernel_rfl, rfl, rfl⟩
theorem tz104 : zOk P 104 ti104 := ⟨t104, Go.Value.nilFunc, by kernel_rfl, rfl, rfl⟩
theorem tz105 : zOk P 105 ti105 := ⟨t105, Go.Value.nilFunc, by kernel_rfl, rfl, rfl⟩
theorem tz106 : zOk P 106 ti106 := ⟨t106, (Go.Value.int Go.IntKind.u64 0), by kernel_rfl, rfl, rfl⟩
theorem tz107 : zOk P 107 ti107 := ⟨t107, (Go.Value.pointer none), by kernel_rfl, rfl, rfl⟩
theorem tz108 : zOk P 108 ti108 := ⟨t108, Go.Value.nilFunc, by kernel_rfl, rfl, rfl⟩
theorem tz110 : zOk P 110 ti110 := ⟨t110, (Go.Value.agg #[Go.Value.int Go.IntKind.u8 0, Go.Value.int Go.IntKind.u8 0]), by kernel_rfl, rfl, rfl⟩
theorem tz111 : zOk P 111 ti111 := ⟨t111, (Go.Value.agg #[Go.Value.int Go.IntKind.u8 0, Go.Value.int Go.IntKind.u8 0]), by kernel_rfl, rfl, rfl⟩
theorem tz112 : zOk P 112 ti112 := ⟨t112, (Go.Value.agg #[Go.Value.int Go.IntKind.u8 0, Go.Value.int Go.IntKind.u8 0, Go.Value.int Go.IntKind.u8 0, Go.Value.int Go.IntKind.u8 0, Go.Value.int Go.IntKind.u8 0, Go.Value.int Go.IntKind.u8 0, Go.Value.int Go.IntKind.u8 0, Go.Value.int Go.IntKind.u8 0, Go.Value.int Go.IntKind.u8 0, Go.Value.int Go.IntKind.u8 0, Go.Value.int Go.IntKind.u8 0, Go.Value.int Go.IntKind.u8 0, Go.Value.int Go.IntKind.u8 0, Go.Value.int Go.IntKind.u8 0, Go.Value.int Go.IntKind.u8 0, Go.Value.int Go.IntKind.u8 0, Go.Value.int Go.IntKind.u8 0, Go.Value.int Go.IntKind.u8 0, Go.Value.int Go.IntKind.u8 0, Go.Value.int Go.IntKind.u8 0, Go.Value.int Go.IntKind.u8 0, Go.Value.int Go.IntKind.u8 0, Go.Value.int Go.IntKind.u8 0, Go.Value.int Go.IntKind.u8 0, Go.Value.int Go.IntKind.u8 0, Go.Value.int Go.IntKind.u8 0, Go.Value.int Go.IntKind.u8 0, Go.Value.int Go.IntKind.u8 0, Go.Value.int Go.IntKind.u8 0, Go.Value.int Go.IntKind.u8 0, Go.Value.int Go.IntKind.u8 0, Go.Value.int Go.IntKind.u8 0]), by kernel_rfl, rfl, rfl⟩
theorem tz113 : zOk P 113 ti113 := ⟨t113, Go.Value.nilFunc, by kernel_rfl, rfl, rfl⟩
theorem tz114 : zOk P 114 ti114 := ⟨t114, Go.Value.nilFunc, by kernel_rfl, rfl, rfl⟩
theorem tz115 : zOk P 115 ti115 := ⟨t115, Go.Value.nilFunc, by kernel_rfl, rfl, rfl⟩
theorem tz117 : zOk P 117 ti117 := ⟨t117, Go.Value.nilFunc, by kernel_rfl, rfl, rfl⟩
theorem tz118 : zOk P 118 ti118 := ⟨t118, Go.Value.nilFunc, by kernel_rfl, rfl, rfl⟩
theorem tz119 : zOk P 119 ti119 := ⟨t119, (Go.Value.slice none 0 0), by kernel_rfl, rfl, rfl⟩
theorem tz120 : zOk P 120 ti120 := ⟨t120, Go.Value.nilFunc, by kernel_rfl, rfl, rfl⟩
theorem tz121 : zOk P 121 ti121 := ⟨t121, Go.Value.nilFunc, by kernel_rfl, rfl, rfl⟩
theorem tz123 : zOk P 123 ti123 := ⟨t123, Go.Value.nilFunc, by kernel_rfl, rfl, rfl⟩
theorem tz124 : zOk P 124 ti124 := ⟨t124, (Go.Value.agg #[Go.Value.pointer none, Go.Value.pointer none, Go.Value.pointer none, Go.Value.string { data := #[] }]), by kernel_rfl, rfl, rfl⟩
theorem tz125 : zOk P 125 ti125 := ⟨t125, (Go.Value.agg #[Go.Value.pointer none, Go.Value.pointer none, Go.Value.pointer none, Go.Value.string { data := #[] }]), by kernel_rfl, rfl, rfl⟩
theorem tz129 : zOk P 129 ti129 := ⟨t129, Go.Value.nilFunc, by kernel_rfl, rfl, rfl⟩
theorem tz130 : zOk P 130 ti130 := ⟨t130, (Go.Value.int Go.IntKind.u32 0), by kernel_rfl, rfl, rfl⟩
theorem tz131 : zOk P 131 ti131 := ⟨t131, (Go.Value.int Go.IntKind.u8 0), by kernel_rfl, rfl, rfl⟩
theorem tz132 : zOk P 132 ti132 := ⟨t132, (Go.Value.int Go.IntKind.u8 0), by kernel_rfl, rfl, rfl⟩
theorem tz133 : zOk P 133 ti133 := ⟨t133, Go.Value.nilFunc, by kernel_rfl, rfl, rfl⟩
theorem tz134 : zOk P 134 ti134 := ⟨t134, (Go.Value.int Go.IntKind.i32 0), by kernel_rfl, rfl, rfl⟩
theorem tz135 : zOk P 135 ti135 := ⟨t135, (Go.Value.int Go.IntKind.i32 0), by kernel_rfl, rfl, rfl⟩
theorem tz136 : zOk P 136 ti136 := ⟨t136, (Go.Value.agg #[Go.Value.int Go.IntKind.u64 0, Go.Value.int Go.IntKind.u64 0, Go.Value.int Go.IntKind.u32 0, Go.Value.int Go.IntKind.u8 0, Go.Value.int Go.IntKind.u8 0, Go.Value.int Go.IntKind.u8 0, Go.Value.int Go.IntKind.u8 0, Go.Value.nilFunc, Go.Value.pointer none, Go.Value.int Go.IntKind.i32 0, Go.Value.int Go.IntKind.i32 0]), by kernel_rfl, rfl, rfl⟩
theorem tz137 : zOk P 137 ti137 := ⟨t137, (Go.Value.agg #[Go.Value.int Go.IntKind.u64 0, Go.Value.int Go.IntKind.u64 0, Go.Value.int Go.IntKind.u32 0, Go.Value.int Go.IntKind.u8 0, Go.Value.int Go.IntKind.u8 0, Go.Value.int Go.IntKind.u8 0, Go.Value.int Go.IntKind.u8 0, Go.Value.nilFunc, Go.Value.pointer none, Go.Value.int Go.IntKind.i32 0, Go.Value.int Go.IntKind.i32 0]), by kernel_rfl, rfl, rfl⟩
theorem tis_zero : tis.zok P := ⟨⟨⟨⟨⟨⟨⟨⟨trivial, .inr tz1, trivial⟩, .inr tz2, trivial⟩, .inr tz3, ⟨trivial, .inr tz4, trivial⟩⟩, .inr tz5, ⟨⟨trivial, .inr tz6, trivial⟩, .inr tz7, ⟨trivial, .inr tz8, trivial⟩⟩⟩, .inr tz9, ⟨⟨⟨trivial, .inr tz10, trivial⟩, .inr tz11, ⟨trivial, .inr tz12, trivial⟩⟩, .inr tz13, ⟨⟨trivial, .inr tz14, trivial⟩, .inr tz15, ⟨trivial, .inr tz16, trivial⟩⟩⟩⟩, .inr tz17, ⟨⟨⟨⟨trivial, .inr tz18, trivial⟩, .inr tz19, ⟨trivial, .inr tz20, trivial⟩⟩, .inr tz21, ⟨⟨trivial, .inr tz22, trivial⟩, .inr tz23, ⟨trivial, .inr tz24, trivial⟩⟩⟩, .inr tz25, ⟨⟨⟨trivial, .inr tz26, trivial⟩, .inr tz27, ⟨trivial, .inr tz28, trivial⟩⟩, .inr tz29, ⟨⟨trivial, .inr tz30, trivial⟩, .inr tz31, ⟨trivial, .inr tz32, trivial⟩⟩⟩⟩⟩, .inr tz33, ⟨⟨⟨⟨⟨trivial, .inr tz34, trivial⟩, .inr tz35, ⟨trivial, .inr tz36, trivial⟩⟩, .inr tz38, ⟨⟨trivial, .inr tz39, trivial⟩, .inr tz40, ⟨trivial, .inr tz41, trivial⟩⟩⟩, .inr tz42, ⟨⟨⟨trivial, .inr tz43, trivial⟩, .inr tz44, ⟨trivial, .inr tz45, trivial⟩⟩, .inr tz46, ⟨⟨trivial, .inr tz47, trivial⟩, .inr tz48, ⟨trivial, .inr tz49, trivial⟩⟩⟩⟩, .inr tz50, ⟨⟨⟨⟨trivial, .inr tz51, trivial⟩, .inr tz52, ⟨trivial, .inr tz53, trivial⟩⟩, .inr tz54, ⟨⟨trivial, .inr tz55, trivial⟩, .inr tz56, ⟨trivial, .inr tz57, trivial⟩⟩⟩, .inr tz58, ⟨⟨⟨trivial, .inr tz59, trivial⟩, .inr tz60, ⟨trivial, .inr tz61, trivial⟩⟩, .inr tz62, ⟨⟨trivial, .inr tz63, trivial⟩, .inr tz64, ⟨trivial, .inr tz65, trivial⟩⟩⟩⟩⟩⟩, .inr tz66, ⟨⟨⟨⟨⟨⟨⟨trivial, .inr tz67, trivial⟩, .inr tz68, trivial⟩, .inr tz69, ⟨trivial, .inr tz70, trivial⟩⟩, .inr tz72, ⟨⟨trivial, .inr tz73, trivial⟩, .inr tz74, ⟨trivial, .inr tz75, trivial⟩⟩⟩, .inr tz76, ⟨⟨⟨trivial, .inr tz77, trivial⟩, .inr tz78, ⟨trivial, .inr tz79, trivial⟩⟩, .inr tz80, ⟨⟨trivial, .inr tz81, trivial⟩, .inr tz82, ⟨trivial, .inr tz83, trivial⟩⟩⟩⟩, .inr tz84, ⟨⟨⟨⟨trivial, .inr tz85, trivial⟩, .inr tz86, ⟨trivial, .inr tz87, trivial⟩⟩, .inr tz89, ⟨⟨trivial, .inr tz90, trivial⟩, .inr tz91, ⟨trivial, .inr tz92, trivial⟩⟩⟩, .inr tz93, ⟨⟨⟨trivial, .inr tz94, trivial⟩, .inr tz95, ⟨trivial, .inr tz96, trivial⟩⟩, .inr tz97, ⟨⟨trivial, .inr tz98, trivial⟩, .inr tz99, ⟨trivial, .inr tz100, trivial⟩⟩⟩⟩⟩, .inr tz102, ⟨⟨⟨⟨⟨trivial, .inr tz103, trivial⟩, .inr tz104, ⟨trivial, .inr tz105, trivial⟩⟩, .inr tz106, ⟨⟨trivial, .inr tz107, trivial⟩, .inr tz108, ⟨trivial, .inl rfl, trivial⟩⟩⟩, .inr tz110, ⟨⟨⟨trivial, .inr tz111, trivial⟩, .inr tz112, ⟨trivial, .inr tz113, trivial⟩⟩, .inr tz114, ⟨⟨trivial, .inr tz115, trivial⟩, .inr tz117, ⟨trivial, .inr tz118, trivial⟩⟩⟩⟩, .inr tz119, ⟨⟨⟨⟨trivial, .inr tz120, trivial⟩, .inr tz121, ⟨trivial, .inr tz123, trivial⟩⟩, .inr tz124, ⟨⟨trivial, .inr tz125, trivial⟩, .inl rfl, ⟨trivial, .inr tz129, trivial⟩⟩⟩, .inr tz130, ⟨⟨⟨trivial, .inr tz131, trivial⟩, .inr tz132, ⟨trivial, .inr tz133, trivial⟩⟩, .inr tz134, ⟨⟨trivial, .inr tz135, trivial⟩, .inr tz136, ⟨trivial, .inr tz137, trivial⟩⟩⟩⟩⟩⟩⟩
theorem enters_ok : entersB P τ = true := by kernel_rfl
theorem hτ : TabOk P τ := tabOk_of tis_ok tis_zero enters_ok
theorem hm : P.follows .mixedOrders = true := by kernel_rfl
end Go.Q
