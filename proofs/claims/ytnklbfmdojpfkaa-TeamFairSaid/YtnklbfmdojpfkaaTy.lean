/- What the walks ask of the types, by the kernel. Printed by gen_ty.py. -/
import Derived.Test.YtnklbfmdojpfkaaProg
import Derived.Test.YtnklbfmdojpfkaaOq
import Derived.KernelRfl
namespace Go.Proofs.Ytnklbfmdojpfkaa
open Go Go.Oc
theorem ty1 : tyq Try.prog 1 = some ⟨.func, 1, false, [.nf]⟩ := by kernel_rfl
theorem ty2 : tyq Try.prog 2 = some ⟨.int .i64, 1, false, [.it .i64 0]⟩ := by kernel_rfl
theorem ty3 : tyq Try.prog 3 = some ⟨.int .i64, 1, false, [.it .i64 0]⟩ := by kernel_rfl
theorem ty4 : tyq Try.prog 4 = some ⟨.bool, 1, false, [.bo false]⟩ := by kernel_rfl
theorem ty5 : tyq Try.prog 5 = some ⟨.int .u8, 1, false, [.it .u8 0]⟩ := by kernel_rfl
theorem ty6 : tyq Try.prog 6 = some ⟨.int .u8, 1, false, [.it .u8 0]⟩ := by kernel_rfl
theorem ty7 : tyq Try.prog 7 = some ⟨.struct [(0, 1, false), (1, 1, false), (2, 1, false), (3, 1, false)], 4, true, [.it .i64 0, .it .i64 0, .bo false, .it .u8 0]⟩ := by kernel_rfl
theorem ty8 : tyq Try.prog 8 = some ⟨.struct [(0, 1, false), (1, 1, false), (2, 1, false), (3, 1, false)], 4, true, [.it .i64 0, .it .i64 0, .bo false, .it .u8 0]⟩ := by kernel_rfl
theorem ty9 : tyq Try.prog 9 = some ⟨.str, 1, false, [.st ⟨#[]⟩]⟩ := by kernel_rfl
theorem ty10 : tyq Try.prog 10 = some ⟨.str, 1, false, [.st ⟨#[]⟩]⟩ := by kernel_rfl
theorem ty11 : tyq Try.prog 11 = some ⟨.str, 1, false, [.st ⟨#[]⟩]⟩ := by kernel_rfl
theorem ty12 : tyq Try.prog 12 = some ⟨.int .u64, 1, false, [.it .u64 0]⟩ := by kernel_rfl
theorem ty13 : tyq Try.prog 13 = some ⟨.struct [(0, 1, false), (1, 1, false)], 2, true, [.st ⟨#[]⟩, .it .u64 0]⟩ := by kernel_rfl
theorem ty14 : tyq Try.prog 14 = some ⟨.struct [(0, 1, false), (1, 1, false)], 2, true, [.st ⟨#[]⟩, .it .u64 0]⟩ := by kernel_rfl
theorem ty15 : tyq Try.prog 15 = some ⟨.ptr 146, 1, false, [.np]⟩ := by kernel_rfl
theorem ty16 : tyq Try.prog 16 = some ⟨.ptr 149, 1, false, [.np]⟩ := by kernel_rfl
theorem ty17 : tyq Try.prog 17 = some ⟨.ptr 157, 1, false, [.np]⟩ := by kernel_rfl
theorem ty18 : tyq Try.prog 18 = some ⟨.struct [(0, 1, false)], 1, true, [.np]⟩ := by kernel_rfl
theorem ty19 : tyq Try.prog 19 = some ⟨.struct [(0, 1, false)], 1, true, [.np]⟩ := by kernel_rfl
theorem ty21 : tyq Try.prog 21 = some ⟨.int .i32, 1, false, [.it .i32 0]⟩ := by kernel_rfl
theorem ty22 : tyq Try.prog 22 = some ⟨.slice 70 3 24 [.it .i64 0, .it .i64 0, .it .i64 0], 1, false, [.ns]⟩ := by kernel_rfl
theorem ty23 : tyq Try.prog 23 = some ⟨.struct [(0, 1, false), (1, 1, false), (2, 1, false), (3, 1, false)], 4, true, [.it .i64 0, .ns, .it .i64 0, .it .i64 0]⟩ := by kernel_rfl
theorem ty24 : tyq Try.prog 24 = some ⟨.struct [(0, 1, false), (1, 1, false), (2, 1, false), (3, 1, false)], 4, true, [.it .i64 0, .ns, .it .i64 0, .it .i64 0]⟩ := by kernel_rfl
theorem ty25 : tyq Try.prog 25 = some ⟨.slice 34 1 24 [.ns], 1, false, [.ns]⟩ := by kernel_rfl
theorem ty26 : tyq Try.prog 26 = some ⟨.struct [(0, 1, false), (1, 1, false)], 2, true, [.ns, .it .i64 0]⟩ := by kernel_rfl
theorem ty27 : tyq Try.prog 27 = some ⟨.struct [(0, 1, false), (1, 1, false)], 2, true, [.ns, .it .i64 0]⟩ := by kernel_rfl
theorem ty28 : tyq Try.prog 28 = some ⟨.func, 1, false, [.nf]⟩ := by kernel_rfl
theorem ty29 : tyq Try.prog 29 = some ⟨.func, 1, false, [.nf]⟩ := by kernel_rfl
theorem ty30 : tyq Try.prog 30 = some ⟨.func, 1, false, [.nf]⟩ := by kernel_rfl
theorem ty31 : tyq Try.prog 31 = some ⟨.int .i64, 1, false, [.it .i64 0]⟩ := by kernel_rfl
theorem ty32 : tyq Try.prog 32 = some ⟨.func, 1, false, [.nf]⟩ := by kernel_rfl
theorem ty33 : tyq Try.prog 33 = some ⟨.func, 1, false, [.nf]⟩ := by kernel_rfl
theorem ty34 : tyq Try.prog 34 = some ⟨.slice 3 1 8 [.it .i64 0], 1, false, [.ns]⟩ := by kernel_rfl
theorem ty35 : tyq Try.prog 35 = some ⟨.struct [(0, 1, false), (1, 1, false)], 2, true, [.it .i64 0, .ns]⟩ := by kernel_rfl
theorem ty36 : tyq Try.prog 36 = some ⟨.struct [(0, 1, false), (1, 1, false)], 2, true, [.it .i64 0, .ns]⟩ := by kernel_rfl
theorem ty38 : tyq Try.prog 38 = some ⟨.func, 1, false, [.nf]⟩ := by kernel_rfl
theorem ty39 : tyq Try.prog 39 = some ⟨.func, 1, false, [.nf]⟩ := by kernel_rfl
theorem ty40 : tyq Try.prog 40 = some ⟨.func, 1, false, [.nf]⟩ := by kernel_rfl
theorem ty41 : tyq Try.prog 41 = some ⟨.func, 1, false, [.nf]⟩ := by kernel_rfl
theorem ty42 : tyq Try.prog 42 = some ⟨.func, 1, false, [.nf]⟩ := by kernel_rfl
theorem ty43 : tyq Try.prog 43 = some ⟨.func, 1, false, [.nf]⟩ := by kernel_rfl
theorem ty44 : tyq Try.prog 44 = some ⟨.func, 1, false, [.nf]⟩ := by kernel_rfl
theorem ty45 : tyq Try.prog 45 = some ⟨.func, 1, false, [.nf]⟩ := by kernel_rfl
theorem ty47 : tyq Try.prog 47 = some ⟨.func, 1, false, [.nf]⟩ := by kernel_rfl
theorem ty49 : tyq Try.prog 49 = some ⟨.func, 1, false, [.nf]⟩ := by kernel_rfl
theorem ty50 : tyq Try.prog 50 = some ⟨.func, 1, false, [.nf]⟩ := by kernel_rfl
theorem ty52 : tyq Try.prog 52 = some ⟨.func, 1, false, [.nf]⟩ := by kernel_rfl
theorem ty53 : tyq Try.prog 53 = some ⟨.slice 56 2 16 [.it .i64 0, .it .i64 0], 1, false, [.ns]⟩ := by kernel_rfl
theorem ty55 : tyq Try.prog 55 = some ⟨.func, 1, false, [.nf]⟩ := by kernel_rfl
theorem ty56 : tyq Try.prog 56 = some ⟨.arr 2 1 false, 2, true, [.it .i64 0, .it .i64 0]⟩ := by kernel_rfl
theorem ty57 : tyq Try.prog 57 = some ⟨.struct [(0, 1, false), (1, 1, false), (2, 1, false)], 3, true, [.it .i64 0, .it .i64 0, .it .i64 0]⟩ := by kernel_rfl
theorem ty58 : tyq Try.prog 58 = some ⟨.struct [(0, 1, false), (1, 1, false), (2, 1, false)], 3, true, [.it .i64 0, .it .i64 0, .it .i64 0]⟩ := by kernel_rfl
theorem ty60 : tyq Try.prog 60 = some ⟨.func, 1, false, [.nf]⟩ := by kernel_rfl
theorem ty61 : tyq Try.prog 61 = some ⟨.func, 1, false, [.nf]⟩ := by kernel_rfl
theorem ty62 : tyq Try.prog 62 = some ⟨.slice 68 4 32 [.it .i64 0, .it .i64 0, .it .i64 0, .it .i64 0], 1, false, [.ns]⟩ := by kernel_rfl
theorem ty63 : tyq Try.prog 63 = some ⟨.struct [(0, 2, true), (2, 2, true), (4, 2, true), (6, 1, false), (7, 1, false)], 8, true, [.it .i64 0, .it .i64 0, .it .i64 0, .it .i64 0, .it .i64 0, .it .i64 0, .ns, .it .i64 0]⟩ := by kernel_rfl
theorem ty64 : tyq Try.prog 64 = some ⟨.struct [(0, 2, true), (2, 2, true), (4, 2, true), (6, 1, false), (7, 1, false)], 8, true, [.it .i64 0, .it .i64 0, .it .i64 0, .it .i64 0, .it .i64 0, .it .i64 0, .ns, .it .i64 0]⟩ := by kernel_rfl
theorem ty66 : tyq Try.prog 66 = some ⟨.func, 1, false, [.nf]⟩ := by kernel_rfl
theorem ty67 : tyq Try.prog 67 = some ⟨.struct [(0, 1, false), (1, 1, false), (2, 1, false), (3, 1, false)], 4, true, [.it .i64 0, .it .i64 0, .it .i64 0, .it .i64 0]⟩ := by kernel_rfl
theorem ty68 : tyq Try.prog 68 = some ⟨.struct [(0, 1, false), (1, 1, false), (2, 1, false), (3, 1, false)], 4, true, [.it .i64 0, .it .i64 0, .it .i64 0, .it .i64 0]⟩ := by kernel_rfl
theorem ty69 : tyq Try.prog 69 = some ⟨.struct [(0, 1, false), (1, 1, false), (2, 1, false)], 3, true, [.it .i64 0, .it .i64 0, .it .i64 0]⟩ := by kernel_rfl
theorem ty70 : tyq Try.prog 70 = some ⟨.struct [(0, 1, false), (1, 1, false), (2, 1, false)], 3, true, [.it .i64 0, .it .i64 0, .it .i64 0]⟩ := by kernel_rfl
theorem ty71 : tyq Try.prog 71 = some ⟨.func, 1, false, [.nf]⟩ := by kernel_rfl
theorem ty72 : tyq Try.prog 72 = some ⟨.func, 1, false, [.nf]⟩ := by kernel_rfl
theorem ty73 : tyq Try.prog 73 = some ⟨.slice 131 3 3 [.it .u8 0, .it .u8 0, .it .u8 0], 1, false, [.ns]⟩ := by kernel_rfl
theorem ty74 : tyq Try.prog 74 = some ⟨.slice 5 1 1 [.it .u8 0], 1, false, [.ns]⟩ := by kernel_rfl
theorem ty75 : tyq Try.prog 75 = some ⟨.int .u32, 1, false, [.it .u32 0]⟩ := by kernel_rfl
theorem ty76 : tyq Try.prog 76 = some ⟨.arr 2 1 false, 2, true, [.it .u32 0, .it .u32 0]⟩ := by kernel_rfl
theorem ty77 : tyq Try.prog 77 = some ⟨.struct [(0, 1, false), (1, 1, false), (2, 1, false), (3, 1, false), (4, 2, true)], 6, true, [.it .u8 0, .it .u8 0, .ns, .ns, .it .u32 0, .it .u32 0]⟩ := by kernel_rfl
theorem ty78 : tyq Try.prog 78 = some ⟨.struct [(0, 1, false), (1, 1, false), (2, 1, false), (3, 1, false), (4, 2, true)], 6, true, [.it .u8 0, .it .u8 0, .ns, .ns, .it .u32 0, .it .u32 0]⟩ := by kernel_rfl
theorem ty79 : tyq Try.prog 79 = some ⟨.func, 1, false, [.nf]⟩ := by kernel_rfl
theorem ty81 : tyq Try.prog 81 = some ⟨.func, 1, false, [.nf]⟩ := by kernel_rfl
theorem ty82 : tyq Try.prog 82 = some ⟨.func, 1, false, [.nf]⟩ := by kernel_rfl
theorem ty83 : tyq Try.prog 83 = some ⟨.func, 1, false, [.nf]⟩ := by kernel_rfl
theorem ty84 : tyq Try.prog 84 = some ⟨.func, 1, false, [.nf]⟩ := by kernel_rfl
theorem ty85 : tyq Try.prog 85 = some ⟨.arr 3 2 true, 6, true, [.it .i64 0, .it .i64 0, .it .i64 0, .it .i64 0, .it .i64 0, .it .i64 0]⟩ := by kernel_rfl
theorem ty86 : tyq Try.prog 86 = some ⟨.func, 1, false, [.nf]⟩ := by kernel_rfl
theorem ty87 : tyq Try.prog 87 = some ⟨.int .u16, 1, false, [.it .u16 0]⟩ := by kernel_rfl
theorem ty88 : tyq Try.prog 88 = some ⟨.arr 2 1 false, 2, true, [.ns, .ns]⟩ := by kernel_rfl
theorem ty89 : tyq Try.prog 89 = some ⟨.int .u64, 1, false, [.it .u64 0]⟩ := by kernel_rfl
theorem ty90 : tyq Try.prog 90 = some ⟨.func, 1, false, [.nf]⟩ := by kernel_rfl
theorem ty91 : tyq Try.prog 91 = some ⟨.map 92 4, 1, false, [.un]⟩ := by kernel_rfl
theorem ty92 : tyq Try.prog 92 = some ⟨.arr 5 1 false, 5, true, [.it .i64 0, .it .i64 0, .it .i64 0, .it .i64 0, .it .i64 0]⟩ := by kernel_rfl
theorem ty93 : tyq Try.prog 93 = some ⟨.arr 5 1 false, 5, true, [.bo false, .bo false, .bo false, .bo false, .bo false]⟩ := by kernel_rfl
theorem ty94 : tyq Try.prog 94 = some ⟨.func, 1, false, [.nf]⟩ := by kernel_rfl
theorem ty95 : tyq Try.prog 95 = some ⟨.arr 3 1 false, 3, true, [.it .u16 0, .it .u16 0, .it .u16 0]⟩ := by kernel_rfl
theorem ty96 : tyq Try.prog 96 = some ⟨.arr 2 1 false, 2, true, [.it .u8 0, .it .u8 0]⟩ := by kernel_rfl
theorem ty97 : tyq Try.prog 97 = some ⟨.arr 2 2 true, 4, true, [.it .u8 0, .it .u8 0, .it .u8 0, .it .u8 0]⟩ := by kernel_rfl
theorem ty98 : tyq Try.prog 98 = some ⟨.slice 4 1 1 [.bo false], 1, false, [.ns]⟩ := by kernel_rfl
theorem ty99 : tyq Try.prog 99 = some ⟨.func, 1, false, [.nf]⟩ := by kernel_rfl
theorem ty100 : tyq Try.prog 100 = some ⟨.struct [(0, 4, true)], 4, true, [.it .i64 0, .ns, .it .i64 0, .it .i64 0]⟩ := by kernel_rfl
theorem ty101 : tyq Try.prog 101 = some ⟨.struct [(0, 4, true)], 4, true, [.it .i64 0, .ns, .it .i64 0, .it .i64 0]⟩ := by kernel_rfl
theorem ty102 : tyq Try.prog 102 = some ⟨.func, 1, false, [.nf]⟩ := by kernel_rfl
theorem ty103 : tyq Try.prog 103 = some ⟨.func, 1, false, [.nf]⟩ := by kernel_rfl
theorem ty104 : tyq Try.prog 104 = some ⟨.func, 1, false, [.nf]⟩ := by kernel_rfl
theorem ty105 : tyq Try.prog 105 = some ⟨.func, 1, false, [.nf]⟩ := by kernel_rfl
theorem ty106 : tyq Try.prog 106 = some ⟨.int .i64, 1, false, [.it .i64 0]⟩ := by kernel_rfl
theorem ty107 : tyq Try.prog 107 = some ⟨.int .i64, 1, false, [.it .i64 0]⟩ := by kernel_rfl
theorem ty108 : tyq Try.prog 108 = some ⟨.func, 1, false, [.nf]⟩ := by kernel_rfl
theorem ty109 : tyq Try.prog 109 = some ⟨.func, 1, false, [.nf]⟩ := by kernel_rfl
theorem ty110 : tyq Try.prog 110 = some ⟨.func, 1, false, [.nf]⟩ := by kernel_rfl
theorem ty111 : tyq Try.prog 111 = some ⟨.func, 1, false, [.nf]⟩ := by kernel_rfl
theorem ty112 : tyq Try.prog 112 = some ⟨.func, 1, false, [.nf]⟩ := by kernel_rfl
theorem ty113 : tyq Try.prog 113 = some ⟨.func, 1, false, [.nf]⟩ := by kernel_rfl
theorem ty114 : tyq Try.prog 114 = some ⟨.func, 1, false, [.nf]⟩ := by kernel_rfl
theorem ty115 : tyq Try.prog 115 = some ⟨.func, 1, false, [.nf]⟩ := by kernel_rfl
theorem ty116 : tyq Try.prog 116 = some ⟨.func, 1, false, [.nf]⟩ := by kernel_rfl
theorem ty117 : tyq Try.prog 117 = some ⟨.func, 1, false, [.nf]⟩ := by kernel_rfl
theorem ty118 : tyq Try.prog 118 = some ⟨.func, 1, false, [.nf]⟩ := by kernel_rfl
theorem ty119 : tyq Try.prog 119 = some ⟨.struct [(0, 3, true)], 3, true, [.it .i64 0, .it .i64 0, .it .i64 0]⟩ := by kernel_rfl
theorem ty120 : tyq Try.prog 120 = some ⟨.struct [(0, 3, true)], 3, true, [.it .i64 0, .it .i64 0, .it .i64 0]⟩ := by kernel_rfl
theorem ty121 : tyq Try.prog 121 = some ⟨.func, 1, false, [.nf]⟩ := by kernel_rfl
theorem ty122 : tyq Try.prog 122 = some ⟨.ptr 125, 1, false, [.np]⟩ := by kernel_rfl
theorem ty123 : tyq Try.prog 123 = some ⟨.map 3 68, 1, false, [.un]⟩ := by kernel_rfl
theorem ty124 : tyq Try.prog 124 = some ⟨.struct [(0, 4, true), (4, 8, true), (12, 1, false)], 13, true, [.it .i64 0, .ns, .it .i64 0, .it .i64 0, .it .i64 0, .it .i64 0, .it .i64 0, .it .i64 0, .it .i64 0, .it .i64 0, .ns, .it .i64 0, .un]⟩ := by kernel_rfl
theorem ty125 : tyq Try.prog 125 = some ⟨.struct [(0, 4, true), (4, 8, true), (12, 1, false)], 13, true, [.it .i64 0, .ns, .it .i64 0, .it .i64 0, .it .i64 0, .it .i64 0, .it .i64 0, .it .i64 0, .it .i64 0, .it .i64 0, .ns, .it .i64 0, .un]⟩ := by kernel_rfl
theorem ty126 : tyq Try.prog 126 = some ⟨.func, 1, false, [.nf]⟩ := by kernel_rfl
theorem ty128 : tyq Try.prog 128 = some ⟨.func, 1, false, [.nf]⟩ := by kernel_rfl
theorem ty129 : tyq Try.prog 129 = some ⟨.func, 1, false, [.nf]⟩ := by kernel_rfl
theorem ty130 : tyq Try.prog 130 = some ⟨.func, 1, false, [.nf]⟩ := by kernel_rfl
theorem ty131 : tyq Try.prog 131 = some ⟨.arr 3 1 false, 3, true, [.it .u8 0, .it .u8 0, .it .u8 0]⟩ := by kernel_rfl
theorem ty132 : tyq Try.prog 132 = some ⟨.func, 1, false, [.nf]⟩ := by kernel_rfl
theorem ty133 : tyq Try.prog 133 = some ⟨.map 3 3, 1, false, [.un]⟩ := by kernel_rfl
theorem ty134 : tyq Try.prog 134 = some ⟨.func, 1, false, [.nf]⟩ := by kernel_rfl
theorem ty135 : tyq Try.prog 135 = some ⟨.func, 1, false, [.nf]⟩ := by kernel_rfl
theorem ty136 : tyq Try.prog 136 = some ⟨.func, 1, false, [.nf]⟩ := by kernel_rfl
theorem ty137 : tyq Try.prog 137 = some ⟨.struct [(0, 1, false), (1, 1, false)], 2, true, [.it .i64 0, .it .i64 0]⟩ := by kernel_rfl
theorem ty138 : tyq Try.prog 138 = some ⟨.struct [(0, 1, false), (1, 1, false)], 2, true, [.it .i64 0, .it .i64 0]⟩ := by kernel_rfl
theorem ty140 : tyq Try.prog 140 = some ⟨.func, 1, false, [.nf]⟩ := by kernel_rfl
theorem ty141 : tyq Try.prog 141 = some ⟨.func, 1, false, [.nf]⟩ := by kernel_rfl
theorem ty142 : tyq Try.prog 142 = some ⟨.func, 1, false, [.nf]⟩ := by kernel_rfl
theorem ty143 : tyq Try.prog 143 = some ⟨.func, 1, false, [.nf]⟩ := by kernel_rfl
theorem ty144 : tyq Try.prog 144 = some ⟨.func, 1, false, [.nf]⟩ := by kernel_rfl
theorem ty145 : tyq Try.prog 145 = some ⟨.struct [(0, 1, false), (1, 1, false), (2, 1, false), (3, 1, false)], 4, true, [.np, .np, .np, .st ⟨#[]⟩]⟩ := by kernel_rfl
theorem ty146 : tyq Try.prog 146 = some ⟨.struct [(0, 1, false), (1, 1, false), (2, 1, false), (3, 1, false)], 4, true, [.np, .np, .np, .st ⟨#[]⟩]⟩ := by kernel_rfl
theorem ty147 : tyq Try.prog 147 = some ⟨.arr 0 1 false, 0, true, []⟩ := by kernel_rfl
theorem ty150 : tyq Try.prog 150 = some ⟨.int .u8, 1, false, [.it .u8 0]⟩ := by kernel_rfl
theorem ty151 : tyq Try.prog 151 = some ⟨.int .u8, 1, false, [.it .u8 0]⟩ := by kernel_rfl
theorem ty152 : tyq Try.prog 152 = some ⟨.func, 1, false, [.nf]⟩ := by kernel_rfl
theorem ty153 : tyq Try.prog 153 = some ⟨.ptr 5, 1, false, [.np]⟩ := by kernel_rfl
theorem ty154 : tyq Try.prog 154 = some ⟨.int .i32, 1, false, [.it .i32 0]⟩ := by kernel_rfl
theorem ty155 : tyq Try.prog 155 = some ⟨.int .i32, 1, false, [.it .i32 0]⟩ := by kernel_rfl
theorem ty156 : tyq Try.prog 156 = some ⟨.struct [(0, 1, false), (1, 1, false), (2, 1, false), (3, 1, false), (4, 1, false), (5, 1, false), (6, 1, false), (7, 1, false), (8, 1, false), (9, 1, false), (10, 1, false)], 11, true, [.it .u64 0, .it .u64 0, .it .u32 0, .it .u8 0, .it .u8 0, .it .u8 0, .it .u8 0, .nf, .np, .it .i32 0, .it .i32 0]⟩ := by kernel_rfl
theorem ty157 : tyq Try.prog 157 = some ⟨.struct [(0, 1, false), (1, 1, false), (2, 1, false), (3, 1, false), (4, 1, false), (5, 1, false), (6, 1, false), (7, 1, false), (8, 1, false), (9, 1, false), (10, 1, false)], 11, true, [.it .u64 0, .it .u64 0, .it .u32 0, .it .u8 0, .it .u8 0, .it .u8 0, .it .u8 0, .nf, .np, .it .i32 0, .it .i32 0]⟩ := by kernel_rfl
theorem follows : Try.prog.follows .mixedOrders = true := by kernel_rfl
theorem eqT56 : eqT Try.prog 56 = some 2 := by kernel_rfl
theorem eqT57 : eqT Try.prog 57 = some 3 := by kernel_rfl
theorem eqT58 : eqT Try.prog 58 = some 3 := by kernel_rfl
theorem eqT67 : eqT Try.prog 67 = some 4 := by kernel_rfl
theorem eqT68 : eqT Try.prog 68 = some 4 := by kernel_rfl
theorem eqT69 : eqT Try.prog 69 = some 3 := by kernel_rfl
theorem eqT70 : eqT Try.prog 70 = some 3 := by kernel_rfl
theorem eqT76 : eqT Try.prog 76 = some 2 := by kernel_rfl
theorem mapT91 : mapT Try.prog 91 = some (92, 4, some 5) := by kernel_rfl
theorem zv4 : zv Try.prog 4 = some (.bo false) := by kernel_rfl
theorem eqT92 : eqT Try.prog 92 = some 5 := by kernel_rfl
theorem eqT95 : eqT Try.prog 95 = some 3 := by kernel_rfl
theorem eqT96 : eqT Try.prog 96 = some 2 := by kernel_rfl
theorem mapT123 : mapT Try.prog 123 = some (3, 68, none) := by kernel_rfl
theorem zv68 : zv Try.prog 68 = some (.ag [.it .i64 0, .it .i64 0, .it .i64 0, .it .i64 0]) := by kernel_rfl
theorem eqT131 : eqT Try.prog 131 = some 3 := by kernel_rfl
theorem mapT133 : mapT Try.prog 133 = some (3, 3, none) := by kernel_rfl
theorem zv3 : zv Try.prog 3 = some (.it .i64 0) := by kernel_rfl
theorem eqT137 : eqT Try.prog 137 = some 2 := by kernel_rfl
theorem eqT138 : eqT Try.prog 138 = some 2 := by kernel_rfl
attribute [go_sem] ty1 ty2 ty3 ty4 ty5 ty6 ty7 ty8 ty9 ty10 ty11 ty12 ty13 ty14 ty15 ty16 ty17 ty18 ty19 ty21 ty22 ty23 ty24 ty25 ty26 ty27 ty28 ty29 ty30 ty31 ty32 ty33 ty34 ty35 ty36 ty38 ty39 ty40 ty41 ty42 ty43 ty44 ty45 ty47 ty49 ty50 ty52 ty53 ty55 ty56 ty57 ty58 ty60 ty61 ty62 ty63 ty64 ty66 ty67 ty68 ty69 ty70 ty71 ty72 ty73 ty74 ty75 ty76 ty77 ty78 ty79 ty81 ty82 ty83 ty84 ty85 ty86 ty87 ty88 ty89 ty90 ty91 ty92 ty93 ty94 ty95 ty96 ty97 ty98 ty99 ty100 ty101 ty102 ty103 ty104 ty105 ty106 ty107 ty108 ty109 ty110 ty111 ty112 ty113 ty114 ty115 ty116 ty117 ty118 ty119 ty120 ty121 ty122 ty123 ty124 ty125 ty126 ty128 ty129 ty130 ty131 ty132 ty133 ty134 ty135 ty136 ty137 ty138 ty140 ty141 ty142 ty143 ty144 ty145 ty146 ty147 ty150 ty151 ty152 ty153 ty154 ty155 ty156 ty157 eqT56 eqT57 eqT58 eqT67 eqT68 eqT69 eqT70 eqT76 mapT91 zv4 eqT92 eqT95 eqT96 mapT123 zv68 eqT131 mapT133 zv3 eqT137 eqT138
end Go.Proofs.Ytnklbfmdojpfkaa
