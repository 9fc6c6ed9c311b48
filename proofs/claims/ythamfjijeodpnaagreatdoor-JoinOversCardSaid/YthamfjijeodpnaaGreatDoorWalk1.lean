import Derived.Test.YthamfjijeodpnaaGreatDoorAm5
import Derived.Test.YthamfjijeodpnaaGreatDoorChecked
import Derived.KernelRfl
set_option linter.unusedSectionVars false
set_option linter.unusedVariables false
set_option linter.unusedSimpArgs false
namespace Go.Proofs.Am
def tab : Tab := (.node 106 ⟨.func, 1, 8, [.nilfn], none, false⟩ (.node 50 ⟨.slice 54, 1, 24, [.nil], some (.list (.st (.cons .str .str))), false⟩ (.node 24 ⟨.struct [(0, 9), (1, 9), (2, 22), (3, 22), (4, 4), (5, 4)], 6, 88, [.d .str [], .d .str [], .nil, .nil, .ff, .ff], some (.st (.cons .str (.cons .str (.cons (.list .str) (.cons (.list .str) (.cons .bool .bool)))))), false⟩ (.node 12 ⟨.int .u64, 1, 8, [.d (.int .u64) 0], some (.int .u64), false⟩ (.node 6 ⟨.int .u8, 1, 1, [.d (.int .u8) 0], some (.int .u8), false⟩ (.node 3 ⟨.int .i64, 1, 8, [.d (.int .i64) 0], some (.int .i64), false⟩ (.node 2 ⟨.int .i64, 1, 8, [.d (.int .i64) 0], some (.int .i64), false⟩ (.node 1 ⟨.func, 1, 8, [.nilfn], none, false⟩ .leaf .leaf) .leaf) (.node 5 ⟨.int .u8, 1, 1, [.d (.int .u8) 0], some (.int .u8), false⟩ (.node 4 ⟨.bool, 1, 1, [.ff], some .bool, false⟩ .leaf .leaf) .leaf)) (.node 9 ⟨.str, 1, 16, [.d .str []], some .str, false⟩ (.node 8 ⟨.struct [(0, 2), (1, 3), (2, 4), (3, 6)], 4, 24, [.d (.int .i64) 0, .d (.int .i64) 0, .ff, .d (.int .u8) 0], some (.st (.cons (.int .i64) (.cons (.int .i64) (.cons .bool (.int .u8))))), false⟩ (.node 7 ⟨.struct [(0, 2), (1, 3), (2, 4), (3, 6)], 4, 24, [.d (.int .i64) 0, .d (.int .i64) 0, .ff, .d (.int .u8) 0], some (.st (.cons (.int .i64) (.cons (.int .i64) (.cons .bool (.int .u8))))), false⟩ .leaf .leaf) .leaf) (.node 11 ⟨.str, 1, 16, [.d .str []], some .str, false⟩ (.node 10 ⟨.str, 1, 16, [.d .str []], some .str, false⟩ .leaf .leaf) .leaf))) (.node 18 ⟨.struct [(0, 17)], 1, 8, [.nilp], none, false⟩ (.node 15 ⟨.ptr 209, 1, 8, [.nilp], none, false⟩ (.node 14 ⟨.struct [(0, 9), (1, 12)], 2, 24, [.d .str [], .d (.int .u64) 0], some (.st (.cons .str (.int .u64))), false⟩ (.node 13 ⟨.struct [(0, 9), (1, 12)], 2, 24, [.d .str [], .d (.int .u64) 0], some (.st (.cons .str (.int .u64))), false⟩ .leaf .leaf) .leaf) (.node 17 ⟨.ptr 219, 1, 8, [.nilp], none, false⟩ (.node 16 ⟨.ptr 212, 1, 8, [.nilp], none, false⟩ .leaf .leaf) .leaf)) (.node 22 ⟨.slice 9, 1, 24, [.nil], some (.list .str), false⟩ (.node 21 ⟨.int .i32, 1, 4, [.d (.int .i32) 0], some (.int .i32), false⟩ (.node 19 ⟨.struct [(0, 17)], 1, 8, [.nilp], none, false⟩ .leaf .leaf) .leaf) (.node 23 ⟨.struct [(0, 9), (1, 9), (2, 22), (3, 22), (4, 4), (5, 4)], 6, 88, [.d .str [], .d .str [], .nil, .nil, .ff, .ff], some (.st (.cons .str (.cons .str (.cons (.list .str) (.cons (.list .str) (.cons .bool .bool)))))), false⟩ .leaf .leaf)))) (.node 39 ⟨.func, 1, 8, [.nilfn], none, false⟩ (.node 31 ⟨.func, 1, 8, [.nilfn], none, false⟩ (.node 27 ⟨.func, 1, 8, [.nilfn], none, false⟩ (.node 26 ⟨.func, 1, 8, [.nilfn], none, false⟩ (.node 25 ⟨.slice 47, 1, 24, [.nil], some (.list (.st (.cons .str (.st (.cons (.int .i64) (.cons .str (.int .u64))))))), false⟩ .leaf .leaf) .leaf) (.node 29 ⟨.int .i64, 1, 8, [.d (.int .i64) 0], some (.int .i64), false⟩ (.node 28 ⟨.ptr 65, 1, 8, [.nilp], none, false⟩ .leaf .leaf) .leaf)) (.node 36 ⟨.func, 1, 8, [.nilfn], none, false⟩ (.node 34 ⟨.func, 1, 8, [.nilfn], none, false⟩ (.node 32 ⟨.slice 22, 1, 24, [.nil], some (.list (.list .str)), false⟩ .leaf .leaf) .leaf) (.node 38 ⟨.func, 1, 8, [.nilfn], none, false⟩ (.node 37 ⟨.func, 1, 8, [.nilfn], none, false⟩ .leaf .leaf) .leaf))) (.node 45 ⟨.struct [(0, 3), (1, 9), (2, 43)], 3, 32, [.d (.int .i64) 0, .d .str [], .d (.int .u64) 0], some (.st (.cons (.int .i64) (.cons .str (.int .u64)))), true⟩ (.node 42 ⟨.func, 1, 8, [.nilfn], none, false⟩ (.node 41 ⟨.func, 1, 8, [.nilfn], none, false⟩ (.node 40 ⟨.func, 1, 8, [.nilfn], none, false⟩ .leaf .leaf) .leaf) (.node 44 ⟨.struct [(0, 3), (1, 9), (2, 43)], 3, 32, [.d (.int .i64) 0, .d .str [], .d (.int .u64) 0], some (.st (.cons (.int .i64) (.cons .str (.int .u64)))), false⟩ (.node 43 ⟨.int .u64, 1, 8, [.d (.int .u64) 0], some (.int .u64), false⟩ .leaf .leaf) .leaf)) (.node 48 ⟨.func, 1, 8, [.nilfn], none, false⟩ (.node 47 ⟨.struct [(0, 9), (1, 45)], 4, 48, [.d .str [], .d (.int .i64) 0, .d .str [], .d (.int .u64) 0], some (.st (.cons .str (.st (.cons (.int .i64) (.cons .str (.int .u64)))))), true⟩ (.node 46 ⟨.struct [(0, 9), (1, 45)], 4, 48, [.d .str [], .d (.int .i64) 0, .d .str [], .d (.int .u64) 0], some (.st (.cons .str (.st (.cons (.int .i64) (.cons .str (.int .u64)))))), false⟩ .leaf .leaf) .leaf) (.node 49 ⟨.func, 1, 8, [.nilfn], none, false⟩ .leaf .leaf))))) (.node 78 ⟨.func, 1, 8, [.nilfn], none, false⟩ (.node 64 ⟨.struct [(0, 24), (6, 22), (7, 32), (8, 62), (9, 63)], 10, 168, [.d .str [], .d .str [], .nil, .nil, .ff, .ff, .nil, .nil, .nilm, .nil], none, false⟩ (.node 57 ⟨.func, 1, 8, [.nilfn], none, false⟩ (.node 53 ⟨.func, 1, 8, [.nilfn], none, false⟩ (.node 52 ⟨.func, 1, 8, [.nilfn], none, false⟩ (.node 51 ⟨.func, 1, 8, [.nilfn], none, false⟩ .leaf .leaf) .leaf) (.node 55 ⟨.func, 1, 8, [.nilfn], none, false⟩ (.node 54 ⟨.array 2 9, 2, 32, [.d .str [], .d .str []], some (.st (.cons .str .str)), true⟩ .leaf .leaf) .leaf)) (.node 61 ⟨.func, 1, 8, [.nilfn], none, false⟩ (.node 60 ⟨.func, 1, 8, [.nilfn], none, false⟩ (.node 59 ⟨.func, 1, 8, [.nilfn], none, false⟩ .leaf .leaf) .leaf) (.node 63 ⟨.slice 3, 1, 24, [.nil], some (.list (.int .i64)), false⟩ (.node 62 ⟨.map 9 3, 1, 8, [.nilm], none, false⟩ .leaf .leaf) .leaf))) (.node 71 ⟨.func, 1, 8, [.nilfn], none, false⟩ (.node 68 ⟨.func, 1, 8, [.nilfn], none, false⟩ (.node 66 ⟨.func, 1, 8, [.nilfn], none, false⟩ (.node 65 ⟨.struct [(0, 24), (6, 22), (7, 32), (8, 62), (9, 63)], 10, 168, [.d .str [], .d .str [], .nil, .nil, .ff, .ff, .nil, .nil, .nilm, .nil], none, false⟩ .leaf .leaf) .leaf) (.node 70 ⟨.func, 1, 8, [.nilfn], none, false⟩ (.node 69 ⟨.func, 1, 8, [.nilfn], none, false⟩ .leaf .leaf) .leaf)) (.node 75 ⟨.func, 1, 8, [.nilfn], none, false⟩ (.node 74 ⟨.func, 1, 8, [.nilfn], none, false⟩ (.node 72 ⟨.func, 1, 8, [.nilfn], none, false⟩ .leaf .leaf) .leaf) (.node 77 ⟨.func, 1, 8, [.nilfn], none, false⟩ .leaf .leaf)))) (.node 91 ⟨.func, 1, 8, [.nilfn], none, false⟩ (.node 84 ⟨.func, 1, 8, [.nilfn], none, false⟩ (.node 81 ⟨.struct [(0, 9), (1, 3), (2, 29)], 3, 32, [.d .str [], .d (.int .i64) 0, .d (.int .i64) 0], some (.st (.cons .str (.cons (.int .i64) (.int .i64)))), false⟩ (.node 80 ⟨.ptr 82, 1, 8, [.nilp], none, false⟩ (.node 79 ⟨.func, 1, 8, [.nilfn], none, false⟩ .leaf .leaf) .leaf) (.node 83 ⟨.func, 1, 8, [.nilfn], none, false⟩ (.node 82 ⟨.struct [(0, 9), (1, 3), (2, 29)], 3, 32, [.d .str [], .d (.int .i64) 0, .d (.int .i64) 0], some (.st (.cons .str (.cons (.int .i64) (.int .i64)))), true⟩ .leaf .leaf) .leaf)) (.node 88 ⟨.func, 1, 8, [.nilfn], none, false⟩ (.node 87 ⟨.func, 1, 8, [.nilfn], none, false⟩ (.node 85 ⟨.map 9 4, 1, 8, [.nilm], none, false⟩ .leaf .leaf) .leaf) (.node 90 ⟨.func, 1, 8, [.nilfn], none, false⟩ (.node 89 ⟨.func, 1, 8, [.nilfn], none, false⟩ .leaf .leaf) .leaf))) (.node 98 ⟨.struct [(0, 4), (1, 9), (2, 3)], 3, 32, [.ff, .d .str [], .d (.int .i64) 0], some (.st (.cons .bool (.cons .str (.int .i64)))), true⟩ (.node 95 ⟨.func, 1, 8, [.nilfn], none, false⟩ (.node 94 ⟨.func, 1, 8, [.nilfn], none, false⟩ (.node 93 ⟨.func, 1, 8, [.nilfn], none, false⟩ .leaf .leaf) .leaf) (.node 97 ⟨.struct [(0, 4), (1, 9), (2, 3)], 3, 32, [.ff, .d .str [], .d (.int .i64) 0], some (.st (.cons .bool (.cons .str (.int .i64)))), false⟩ (.node 96 ⟨.func, 1, 8, [.nilfn], none, false⟩ .leaf .leaf) .leaf)) (.node 102 ⟨.func, 1, 8, [.nilfn], none, false⟩ (.node 101 ⟨.func, 1, 8, [.nilfn], none, false⟩ (.node 100 ⟨.func, 1, 8, [.nilfn], none, false⟩ .leaf .leaf) .leaf) (.node 104 ⟨.func, 1, 8, [.nilfn], none, false⟩ .leaf .leaf)))))) (.node 161 ⟨.func, 1, 8, [.nilfn], none, false⟩ (.node 131 ⟨.slice 174, 1, 24, [.nil], some (.list (.int .u32)), false⟩ (.node 118 ⟨.func, 1, 8, [.nilfn], none, false⟩ (.node 112 ⟨.func, 1, 8, [.nilfn], none, false⟩ (.node 109 ⟨.func, 1, 8, [.nilfn], none, false⟩ (.node 108 ⟨.func, 1, 8, [.nilfn], none, false⟩ (.node 107 ⟨.func, 1, 8, [.nilfn], none, false⟩ .leaf .leaf) .leaf) (.node 111 ⟨.func, 1, 8, [.nilfn], none, false⟩ (.node 110 ⟨.func, 1, 8, [.nilfn], none, false⟩ .leaf .leaf) .leaf)) (.node 115 ⟨.func, 1, 8, [.nilfn], none, false⟩ (.node 114 ⟨.func, 1, 8, [.nilfn], none, false⟩ (.node 113 ⟨.func, 1, 8, [.nilfn], none, false⟩ .leaf .leaf) .leaf) (.node 117 ⟨.func, 1, 8, [.nilfn], none, false⟩ (.node 116 ⟨.slice 5, 1, 24, [.nil], some (.list (.int .u8)), false⟩ .leaf .leaf) .leaf))) (.node 126 ⟨.func, 1, 8, [.nilfn], none, false⟩ (.node 122 ⟨.func, 1, 8, [.nilfn], none, false⟩ (.node 120 ⟨.func, 1, 8, [.nilfn], none, false⟩ (.node 119 ⟨.int .u64, 1, 8, [.d (.int .u64) 0], some (.int .u64), false⟩ .leaf .leaf) .leaf) (.node 124 ⟨.func, 1, 8, [.nilfn], none, false⟩ (.node 123 ⟨.func, 1, 8, [.nilfn], none, false⟩ .leaf .leaf) .leaf)) (.node 129 ⟨.func, 1, 8, [.nilfn], none, false⟩ (.node 128 ⟨.func, 1, 8, [.nilfn], none, false⟩ (.node 127 ⟨.func, 1, 8, [.nilfn], none, false⟩ .leaf .leaf) .leaf) (.node 130 ⟨.slice 174, 1, 24, [.nil], some (.list (.int .u32)), false⟩ .leaf .leaf)))) (.node 146 ⟨.func, 1, 8, [.nilfn], none, false⟩ (.node 139 ⟨.slice 43, 1, 24, [.nil], some (.list (.int .u64)), false⟩ (.node 135 ⟨.func, 1, 8, [.nilfn], none, false⟩ (.node 134 ⟨.func, 1, 8, [.nilfn], none, false⟩ (.node 133 ⟨.func, 1, 8, [.nilfn], none, false⟩ .leaf .leaf) .leaf) (.node 138 ⟨.func, 1, 8, [.nilfn], none, false⟩ (.node 137 ⟨.func, 1, 8, [.nilfn], none, false⟩ .leaf .leaf) .leaf)) (.node 143 ⟨.func, 1, 8, [.nilfn], none, false⟩ (.node 142 ⟨.func, 1, 8, [.nilfn], none, false⟩ (.node 141 ⟨.func, 1, 8, [.nilfn], none, false⟩ .leaf .leaf) .leaf) (.node 145 ⟨.func, 1, 8, [.nilfn], none, false⟩ (.node 144 ⟨.func, 1, 8, [.nilfn], none, false⟩ .leaf .leaf) .leaf))) (.node 155 ⟨.func, 1, 8, [.nilfn], none, false⟩ (.node 150 ⟨.array 16 149, 32, 32, [.d (.int .u8) 0, .d (.int .u8) 0, .d (.int .u8) 0, .d (.int .u8) 0, .d (.int .u8) 0, .d (.int .u8) 0, .d (.int .u8) 0, .d (.int .u8) 0, .d (.int .u8) 0, .d (.int .u8) 0, .d (.int .u8) 0, .d (.int .u8) 0, .d (.int .u8) 0, .d (.int .u8) 0, .d (.int .u8) 0, .d (.int .u8) 0, .d (.int .u8) 0, .d (.int .u8) 0, .d (.int .u8) 0, .d (.int .u8) 0, .d (.int .u8) 0, .d (.int .u8) 0, .d (.int .u8) 0, .d (.int .u8) 0, .d (.int .u8) 0, .d (.int .u8) 0, .d (.int .u8) 0, .d (.int .u8) 0, .d (.int .u8) 0, .d (.int .u8) 0, .d (.int .u8) 0, .d (.int .u8) 0], some (.st (.cons (.st (.cons (.int .u8) (.int .u8))) (.cons (.st (.cons (.int .u8) (.int .u8))) (.cons (.st (.cons (.int .u8) (.int .u8))) (.cons (.st (.cons (.int .u8) (.int .u8))) (.cons (.st (.cons (.int .u8) (.int .u8))) (.cons (.st (.cons (.int .u8) (.int .u8))) (.cons (.st (.cons (.int .u8) (.int .u8))) (.cons (.st (.cons (.int .u8) (.int .u8))) (.cons (.st (.cons (.int .u8) (.int .u8))) (.cons (.st (.cons (.int .u8) (.int .u8))) (.cons (.st (.cons (.int .u8) (.int .u8))) (.cons (.st (.cons (.int .u8) (.int .u8))) (.cons (.st (.cons (.int .u8) (.int .u8))) (.cons (.st (.cons (.int .u8) (.int .u8))) (.cons (.st (.cons (.int .u8) (.int .u8))) (.st (.cons (.int .u8) (.int .u8))))))))))))))))))), true⟩ (.node 149 ⟨.struct [(0, 5), (1, 5)], 2, 2, [.d (.int .u8) 0, .d (.int .u8) 0], some (.st (.cons (.int .u8) (.int .u8))), false⟩ (.node 148 ⟨.struct [(0, 5), (1, 5)], 2, 2, [.d (.int .u8) 0, .d (.int .u8) 0], some (.st (.cons (.int .u8) (.int .u8))), false⟩ .leaf .leaf) .leaf) (.node 154 ⟨.func, 1, 8, [.nilfn], none, false⟩ (.node 152 ⟨.func, 1, 8, [.nilfn], none, false⟩ .leaf .leaf) .leaf)) (.node 159 ⟨.struct [(0, 158), (1, 116)], 2, 32, [.nilp, .nil], none, false⟩ (.node 158 ⟨.ptr 160, 1, 8, [.nilp], none, false⟩ (.node 157 ⟨.func, 1, 8, [.nilfn], none, false⟩ .leaf .leaf) .leaf) (.node 160 ⟨.struct [(0, 158), (1, 116)], 2, 32, [.nilp, .nil], none, false⟩ .leaf .leaf))))) (.node 194 ⟨.ptr 5, 1, 8, [.nilp], none, false⟩ (.node 179 ⟨.func, 1, 8, [.nilfn], none, false⟩ (.node 173 ⟨.func, 1, 8, [.nilfn], none, false⟩ (.node 167 ⟨.func, 1, 8, [.nilfn], none, false⟩ (.node 166 ⟨.func, 1, 8, [.nilfn], none, false⟩ (.node 165 ⟨.func, 1, 8, [.nilfn], none, false⟩ .leaf .leaf) .leaf) (.node 172 ⟨.func, 1, 8, [.nilfn], none, false⟩ (.node 171 ⟨.func, 1, 8, [.nilfn], none, false⟩ .leaf .leaf) .leaf)) (.node 176 ⟨.func, 1, 8, [.nilfn], none, false⟩ (.node 175 ⟨.func, 1, 8, [.nilfn], none, false⟩ (.node 174 ⟨.int .u32, 1, 4, [.d (.int .u32) 0], some (.int .u32), false⟩ .leaf .leaf) .leaf) (.node 178 ⟨.func, 1, 8, [.nilfn], none, false⟩ (.node 177 ⟨.func, 1, 8, [.nilfn], none, false⟩ .leaf .leaf) .leaf))) (.node 187 ⟨.func, 1, 8, [.nilfn], none, false⟩ (.node 182 ⟨.func, 1, 8, [.nilfn], none, false⟩ (.node 181 ⟨.func, 1, 8, [.nilfn], none, false⟩ (.node 180 ⟨.func, 1, 8, [.nilfn], none, false⟩ .leaf .leaf) .leaf) (.node 186 ⟨.func, 1, 8, [.nilfn], none, false⟩ (.node 183 ⟨.func, 1, 8, [.nilfn], none, false⟩ .leaf .leaf) .leaf)) (.node 191 ⟨.func, 1, 8, [.nilfn], none, false⟩ (.node 189 ⟨.ptr 169, 1, 8, [.nilp], none, false⟩ (.node 188 ⟨.func, 1, 8, [.nilfn], none, false⟩ .leaf .leaf) .leaf) (.node 193 ⟨.func, 1, 8, [.nilfn], none, false⟩ .leaf .leaf)))) (.node 209 ⟨.struct [(0, 17), (1, 17), (2, 17), (3, 9)], 4, 40, [.nilp, .nilp, .nilp, .d .str []], none, false⟩ (.node 201 ⟨.func, 1, 8, [.nilfn], none, false⟩ (.node 197 ⟨.func, 1, 8, [.nilfn], none, false⟩ (.node 196 ⟨.func, 1, 8, [.nilfn], none, false⟩ (.node 195 ⟨.func, 1, 8, [.nilfn], none, false⟩ .leaf .leaf) .leaf) (.node 199 ⟨.func, 1, 8, [.nilfn], none, false⟩ (.node 198 ⟨.func, 1, 8, [.nilfn], none, false⟩ .leaf .leaf) .leaf)) (.node 205 ⟨.func, 1, 8, [.nilfn], none, false⟩ (.node 204 ⟨.func, 1, 8, [.nilfn], none, false⟩ (.node 202 ⟨.func, 1, 8, [.nilfn], none, false⟩ .leaf .leaf) .leaf) (.node 208 ⟨.struct [(0, 17), (1, 17), (2, 17), (3, 9)], 4, 40, [.nilp, .nilp, .nilp, .d .str []], none, false⟩ .leaf .leaf))) (.node 215 ⟨.func, 1, 8, [.nilfn], none, false⟩ (.node 212 ⟨.struct [(0, 210)], 0, 0, [], none, false⟩ (.node 211 ⟨.struct [(0, 210)], 0, 0, [], none, false⟩ (.node 210 ⟨.array 0 16, 0, 0, [], none, false⟩ .leaf .leaf) .leaf) (.node 214 ⟨.int .u8, 1, 1, [.d (.int .u8) 0], some (.int .u8), false⟩ (.node 213 ⟨.int .u8, 1, 1, [.d (.int .u8) 0], some (.int .u8), false⟩ .leaf .leaf) .leaf)) (.node 218 ⟨.struct [(0, 12), (1, 12), (2, 174), (3, 213), (4, 5), (5, 5), (6, 214), (7, 215), (8, 194), (9, 216), (10, 217)], 11, 48, [.d (.int .u64) 0, .d (.int .u64) 0, .d (.int .u32) 0, .d (.int .u8) 0, .d (.int .u8) 0, .d (.int .u8) 0, .d (.int .u8) 0, .nilfn, .nilp, .d (.int .i32) 0, .d (.int .i32) 0], none, false⟩ (.node 217 ⟨.int .i32, 1, 4, [.d (.int .i32) 0], some (.int .i32), false⟩ (.node 216 ⟨.int .i32, 1, 4, [.d (.int .i32) 0], some (.int .i32), false⟩ .leaf .leaf) .leaf) (.node 219 ⟨.struct [(0, 12), (1, 12), (2, 174), (3, 213), (4, 5), (5, 5), (6, 214), (7, 215), (8, 194), (9, 216), (10, 217)], 11, 48, [.d (.int .u64) 0, .d (.int .u64) 0, .d (.int .u32) 0, .d (.int .u8) 0, .d (.int .u8) 0, .d (.int .u8) 0, .d (.int .u8) 0, .nilfn, .nilp, .d (.int .i32) 0, .d (.int .i32) 0], none, false⟩ .leaf .leaf)))))))
theorem tabOk : TabOk Tryz.prog tab := tabOk_of (by kernel_rfl)
def bodyOf (fn : Func) : Code := match fn.body with | some c => c | none => .skip
end Go.Proofs.Am

namespace Go.Proofs.Am
set_option maxRecDepth 100000
/-- internal/bytealg.IndexByteString -/
def s146 : FnSpec := ⟨[], pureSpec indexByteSpec, none⟩
theorem ok146 : FSound Tryz.prog 146 s146 := indexByte_sound Tryz.func146 (by kernel_rfl) (by kernel_rfl) (by kernel_rfl) (by kernel_rfl)
/-- internal/stringslite.HasPrefix -/
def m140 : Meta := { tab := tab, nargs := 2, res := (.d .bool), cuts := [], fuel := 40 }
/-- strings.HasPrefix -/
def m112 : Meta := { tab := tab, nargs := 2, res := (.d .bool), cuts := [], fuel := 40 }
/-- (*portolan/csv.reader).lineEnd -/
def m76 : Meta := { tab := tab, nargs := 1, res := (.d (.int .i64)), cuts := [], fuel := 40 }
/-- (*portolan/csv.reader).ends -/
def m110 : Meta := { tab := tab, nargs := 1, res := (.d .bool), cuts := [], fuel := 40 }
/-- (*portolan/csv.reader).fail -/
def m111 : Meta := { tab := tab, nargs := 2, res := (.tup []), cuts := [], fuel := 40 }
/-- (*portolan/csv.reader).quoted -/
def m109 : Meta := { tab := tab, nargs := 1, res := (.d .str), cuts := [], fuel := 40 }
/-- (*portolan/csv.reader).field -/
def m75 : Meta := { tab := tab, nargs := 1, res := (.d .str), cuts := [], fuel := 40 }
/-- (*portolan/csv.reader).row -/
def m43 : Meta := { tab := tab, nargs := 1, res := (.alt (.own .str) (.d (.list .str))), cuts := [], fuel := 40 }
/-- portolan/csv.Parse -/
def m22 : Meta := { tab := tab, nargs := 1, res := (.tup [(.alt (.own (.list .str)) (.d (.list (.list .str)))), (.d (.int .i64)), (.d (.int .i64))]), cuts := [], fuel := 40 }
/-- slices.Index[[]string,string] -/
def m44 : Meta := { tab := tab, nargs := 2, res := (.d (.int .i64)), cuts := [], fuel := 40 }
/-- portolan/csv.Column -/
def m23 : Meta := { tab := tab, nargs := 2, res := (.tup [(.d (.int .i64)), (.d .bool)]), cuts := [], fuel := 40 }
/-- slices.IndexFunc[[]string,string] -/
def m77 : Meta := { tab := tab, nargs := 2, res := (.d (.int .i64)), cuts := [], fuel := 40 }
/-- slices.ContainsFunc[[]string,string] -/
def m45 : Meta := { tab := tab, nargs := 2, res := (.d .bool), cuts := [], fuel := 40 }
/-- slices.Contains[[]string,string] -/
def m26 : Meta := { tab := tab, nargs := 2, res := (.d .bool), cuts := [], fuel := 40 }
/-- portolan/join.all$1 -/
def m46 : Meta := { tab := tab, nargs := 2, res := (.d .bool), cuts := [], fuel := 40 }
/-- portolan/join.all -/
def m24 : Meta := { tab := tab, nargs := 2, res := (.d .bool), cuts := [], fuel := 40 }
/-- unicode/utf8.word[string] -/
def m113 : Meta := { tab := tab, nargs := 1, res := (.d (.int .u64)), cuts := [], fuel := 40 }
/-- unicode/utf8.ValidString -/
def m78 : Meta := { tab := tab, nargs := 1, res := (.d .bool), cuts := [], fuel := 40 }
/-- portolan/utf.Valid -/
def m47 : Meta := { tab := tab, nargs := 1, res := (.d .bool), cuts := [], fuel := 40 }
/-- portolan/join.rightNames -/
def m25 : Meta := { tab := tab, nargs := 1, res := (.d .bool), cuts := [], fuel := 40 }
/-- portolan/join.New -/
def m8 : Meta := { tab := tab, nargs := 2, res := (.tup [(.alt (.lit .nilp) (.box [(.d .str), (.d .str), (.alt (.own .str) (.d (.list .str))), (.alt (.own .str) (.d (.list .str))), (.d .bool), (.d .bool), (.alt (.own .str) (.d (.list .str))), (.alt (.own (.list .str)) (.d (.list (.list .str)))), (.alt .mp (.lit .nilm)), (.alt (.own (.int .i64)) (.d (.list (.int .i64))))])), (.d (.int .i64))]), cuts := [], fuel := 40 }
/-- internal/stringslite.IndexByte -/
def m119 : Meta := { tab := tab, nargs := 2, res := (.d (.int .i64)), cuts := [], fuel := 40 }
/-- strings.IndexByte -/
def m89 : Meta := { tab := tab, nargs := 2, res := (.d (.int .i64)), cuts := [], fuel := 40 }
/-- portolan/dec.Parse$1 -/
def m88 : Meta := { tab := tab, nargs := 3, res := (.d .bool), cuts := [], fuel := 40 }
/-- portolan/dec.Parse$2 -/
def m90 : Meta := { tab := tab, nargs := 3, res := (.d .str), cuts := [], fuel := 40 }
/-- portolan/dec.power -/
def m91 : Meta := { tab := tab, nargs := 1, res := (.d (.int .i64)), cuts := [], fuel := 40 }
/-- strings.makeASCIISet -/
def m129 : Meta := { tab := tab, nargs := 1, res := (.tup [(.st [(.d .bool), (.d .bool), (.d .bool), (.d .bool), (.d .bool), (.d .bool), (.d .bool), (.d .bool), (.d .bool), (.d .bool), (.d .bool), (.d .bool), (.d .bool), (.d .bool), (.d .bool), (.d .bool), (.d .bool), (.d .bool), (.d .bool), (.d .bool), (.d .bool), (.d .bool), (.d .bool), (.d .bool), (.d .bool), (.d .bool), (.d .bool), (.d .bool), (.d .bool), (.d .bool), (.d .bool), (.d .bool), (.d .bool), (.d .bool), (.d .bool), (.d .bool), (.d .bool), (.d .bool), (.d .bool), (.d .bool), (.d .bool), (.d .bool), (.d .bool), (.d .bool), (.d .bool), (.d .bool), (.d .bool), (.d .bool), (.d .bool), (.d .bool), (.d .bool), (.d .bool), (.d .bool), (.d .bool), (.d .bool), (.d .bool), (.d .bool), (.d .bool), (.d .bool), (.d .bool), (.d .bool), (.d .bool), (.d .bool), (.d .bool), (.d .bool), (.d .bool), (.d .bool), (.d .bool), (.d .bool), (.d .bool), (.d .bool), (.d .bool), (.d .bool), (.d .bool), (.d .bool), (.d .bool), (.d .bool), (.d .bool), (.d .bool), (.d .bool), (.d .bool), (.d .bool), (.d .bool), (.d .bool), (.d .bool), (.d .bool), (.d .bool), (.d .bool), (.d .bool), (.d .bool), (.d .bool), (.d .bool), (.d .bool), (.d .bool), (.d .bool), (.d .bool), (.d .bool), (.d .bool), (.d .bool), (.d .bool), (.d .bool), (.d .bool), (.d .bool), (.d .bool), (.d .bool), (.d .bool), (.d .bool), (.d .bool), (.d .bool), (.d .bool), (.d .bool), (.d .bool), (.d .bool), (.d .bool), (.d .bool), (.d .bool), (.d .bool), (.d .bool), (.d .bool), (.d .bool), (.d .bool), (.d .bool), (.d .bool), (.d .bool), (.d .bool), (.d .bool), (.d .bool), (.d .bool), (.d .bool), (.d .bool), (.d .bool), (.d .bool), (.d .bool), (.d .bool), (.d .bool), (.d .bool), (.d .bool), (.d .bool), (.d .bool), (.d .bool), (.d .bool), (.d .bool), (.d .bool), (.d .bool), (.d .bool), (.d .bool), (.d .bool), (.d .bool), (.d .bool), (.d .bool), (.d .bool), (.d .bool), (.d .bool), (.d .bool), (.d .bool), (.d .bool), (.d .bool), (.d .bool), (.d .bool), (.d .bool), (.d .bool), (.d .bool), (.d .bool), (.d .bool), (.d .bool), (.d .bool), (.d .bool), (.d .bool), (.d .bool), (.d .bool), (.d .bool), (.d .bool), (.d .bool), (.d .bool), (.d .bool), (.d .bool), (.d .bool), (.d .bool), (.d .bool), (.d .bool), (.d .bool), (.d .bool), (.d .bool), (.d .bool), (.d .bool), (.d .bool), (.d .bool), (.d .bool), (.d .bool), (.d .bool), (.d .bool), (.d .bool), (.d .bool), (.d .bool), (.d .bool), (.d .bool), (.d .bool), (.d .bool), (.d .bool), (.d .bool), (.d .bool), (.d .bool), (.d .bool), (.d .bool), (.d .bool), (.d .bool), (.d .bool), (.d .bool), (.d .bool), (.d .bool), (.d .bool), (.d .bool), (.d .bool), (.d .bool), (.d .bool), (.d .bool), (.d .bool), (.d .bool), (.d .bool), (.d .bool), (.d .bool), (.d .bool), (.d .bool), (.d .bool), (.d .bool), (.d .bool), (.d .bool), (.d .bool), (.d .bool), (.d .bool), (.d .bool), (.d .bool), (.d .bool), (.d .bool), (.d .bool), (.d .bool), (.d .bool), (.d .bool), (.d .bool), (.d .bool), (.d .bool), (.d .bool), (.d .bool), (.d .bool), (.d .bool), (.d .bool), (.d .bool), (.d .bool), (.d .bool), (.d .bool), (.d .bool), (.d .bool), (.d .bool), (.d .bool), (.d .bool), (.d .bool)]), (.d .bool)]), cuts := [], fuel := 40 }
/-- strings.trimRightByte -/
def m147 : Meta := { tab := tab, nargs := 2, res := (.d .str), cuts := [], fuel := 40 }
/-- (*strings.asciiSet).contains -/
def m130 : Meta := { tab := tab, nargs := 2, res := (.d .bool), cuts := [], fuel := 40 }
/-- strings.trimRightASCII -/
def m148 : Meta := { tab := tab, nargs := 2, res := (.d .str), cuts := [], fuel := 40 }
/-- unicode/utf8.decodeRuneInStringSlow -/
def m171 : Meta := { tab := tab, nargs := 1, res := (.tup [(.d (.int .i32)), (.d (.int .i64))]), cuts := [], fuel := 40 }
/-- unicode/utf8.DecodeRuneInString -/
def m167 : Meta := { tab := tab, nargs := 1, res := (.tup [(.d (.int .i32)), (.d (.int .i64))]), cuts := [], fuel := 40 }
/-- unicode/utf8.RuneStart -/
def m170 : Meta := { tab := tab, nargs := 1, res := (.d .bool), cuts := [], fuel := 40 }
/-- unicode/utf8.DecodeLastRuneInString -/
def m165 : Meta := { tab := tab, nargs := 1, res := (.tup [(.d (.int .i32)), (.d (.int .i64))]), cuts := [], fuel := 40 }
/-- unicode/utf8.ValidRune -/
def m157 : Meta := { tab := tab, nargs := 1, res := (.d .bool), cuts := [], fuel := 40 }
/-- internal/bytealg.Cutover -/
def m158 : Meta := { tab := tab, nargs := 1, res := (.d (.int .i64)), cuts := [], fuel := 40 }
/-- strings.IndexRune -/
def m127 : Meta := { tab := tab, nargs := 2, res := (.d (.int .i64)), cuts := [], fuel := 40 }
/-- strings.ContainsRune -/
def m166 : Meta := { tab := tab, nargs := 2, res := (.d .bool), cuts := [], fuel := 40 }
/-- strings.trimRightUnicode -/
def m149 : Meta := { tab := tab, nargs := 2, res := (.d .str), cuts := [], fuel := 40 }
/-- strings.TrimRight -/
def m120 : Meta := { tab := tab, nargs := 2, res := (.d .str), cuts := [], fuel := 40 }
/-- strings.trimLeftByte -/
def m150 : Meta := { tab := tab, nargs := 2, res := (.d .str), cuts := [], fuel := 40 }
/-- strings.trimLeftASCII -/
def m151 : Meta := { tab := tab, nargs := 2, res := (.d .str), cuts := [], fuel := 40 }
/-- strings.trimLeftUnicode -/
def m152 : Meta := { tab := tab, nargs := 2, res := (.d .str), cuts := [], fuel := 40 }
/-- strings.TrimLeft -/
def m121 : Meta := { tab := tab, nargs := 2, res := (.d .str), cuts := [], fuel := 40 }
/-- portolan/dec.norm -/
def m92 : Meta := { tab := tab, nargs := 3, res := (.tup [(.d (.st (.cons .bool (.cons .str (.int .i64))))), (.d (.int .i64))]), cuts := [], fuel := 40 }
/-- portolan/dec.Parse -/
def m59 : Meta := { tab := tab, nargs := 1, res := (.tup [(.d (.st (.cons .bool (.cons .str (.int .i64))))), (.d (.int .i64)), (.d (.int .i64))]), cuts := [], fuel := 40 }
/-- portolan/typed.IsNumber -/
def m58 : Meta := { tab := tab, nargs := 1, res := (.d .bool), cuts := [], fuel := 40 }
/-- portolan/dec.Right -/
def m93 : Meta := { tab := tab, nargs := 1, res := (.d .bool), cuts := [], fuel := 40 }
/-- math/bits.Mul32 -/
def m153 : Meta := { tab := tab, nargs := 2, res := (.tup [(.d (.int .u32)), (.d (.int .u32))]), cuts := [], fuel := 40 }
/-- math/bits.Mul64 -/
def m154 : Meta := { tab := tab, nargs := 2, res := (.tup [(.d (.int .u64)), (.d (.int .u64))]), cuts := [], fuel := 40 }
/-- math/bits.Mul -/
def m122 : Meta := { tab := tab, nargs := 2, res := (.tup [(.d (.int .u64)), (.d (.int .u64))]), cuts := [], fuel := 40 }
/-- (*strings.Builder).copyCheck -/
def m155 : Meta := { tab := tab, nargs := 1, res := (.tup []), cuts := [], fuel := 40 }
/-- (*strings.Builder).grow -/
def m156 : Meta := { tab := tab, nargs := 2, res := (.tup []), cuts := [], fuel := 40 }
/-- (*strings.Builder).Grow -/
def m123 : Meta := { tab := tab, nargs := 2, res := (.tup []), cuts := [], fuel := 40 }
/-- (*strings.Builder).WriteString -/
def m124 : Meta := { tab := tab, nargs := 2, res := (.tup [(.d (.int .i64)), (.lit .nilfn)]), cuts := [], fuel := 40 }
/-- (*strings.Builder).Len -/
def m125 : Meta := { tab := tab, nargs := 1, res := (.d (.int .i64)), cuts := [], fuel := 40 }
/-- (*strings.Builder).String -/
def m126 : Meta := { tab := tab, nargs := 1, res := (.d .str), cuts := [], fuel := 40 }
/-- strings.Repeat -/
def m94 : Meta := { tab := tab, nargs := 2, res := (.d .str), cuts := [], fuel := 40 }
/-- portolan/dec.Int -/
def m60 : Meta := { tab := tab, nargs := 1, res := (.tup [(.d (.int .i64)), (.d .bool)]), cuts := [], fuel := 40 }
/-- strings.shouldUseASCIISet -/
def m128 : Meta := { tab := tab, nargs := 1, res := (.d .bool), cuts := [], fuel := 40 }
/-- strings.IndexAny -/
def m95 : Meta := { tab := tab, nargs := 2, res := (.d (.int .i64)), cuts := [], fuel := 40 }
/-- strings.ContainsAny -/
def m61 : Meta := { tab := tab, nargs := 2, res := (.d .bool), cuts := [], fuel := 40 }
/-- portolan/typed.Of -/
def m35 : Meta := { tab := tab, nargs := 2, res := (.tup [(.d (.st (.cons (.int .i64) (.cons .str (.int .u64))))), (.d .bool)]), cuts := [], fuel := 40 }
/-- (*portolan/join.Table).Row -/
def m12 : Meta := { tab := tab, nargs := 2, res := (.tup [(.alt (.own (.st (.cons .str (.st (.cons (.int .i64) (.cons .str (.int .u64))))))) (.d (.list (.st (.cons .str (.st (.cons (.int .i64) (.cons .str (.int .u64))))))))), (.d .bool)]), cuts := [], fuel := 40 }
/-- slices.Clone[[]portolan/api.Attr,portolan/api.Attr] -/
def m30 : Meta := { tab := tab, nargs := 1, res := (.alt (.own (.st (.cons .str (.st (.cons (.int .i64) (.cons .str (.int .u64))))))) (.d (.list (.st (.cons .str (.st (.cons (.int .i64) (.cons .str (.int .u64))))))))), cuts := [], fuel := 40 }
/-- portolan/join.Over -/
def m15 : Meta := { tab := tab, nargs := 2, res := (.alt (.own (.st (.cons .str (.st (.cons (.int .i64) (.cons .str (.int .u64))))))) (.d (.list (.st (.cons .str (.st (.cons (.int .i64) (.cons .str (.int .u64))))))))), cuts := [], fuel := 40 }
/-- slices.IndexFunc[[]portolan/api.Attr,portolan/api.Attr] -/
def m31 : Meta := { tab := tab, nargs := 2, res := (.d (.int .i64)), cuts := [], fuel := 40 }
/-- (*portolan/join.Table).Attrs$1 -/
def m32 : Meta := { tab := tab, nargs := 2, res := (.d .bool), cuts := [], fuel := 40 }
/-- portolan/value.Right -/
def m51 : Meta := { tab := tab, nargs := 1, res := (.d .bool), cuts := [], fuel := 40 }
/-- internal/strconv.small -/
def m114 : Meta := { tab := tab, nargs := 1, res := (.d .str), cuts := [], fuel := 40 }
/-- math/bits.Len64 -/
def m83 : Meta := { tab := tab, nargs := 1, res := (.d (.int .i64)), cuts := [], fuel := 40 }
/-- internal/strconv.log10Pow2 -/
def m141 : Meta := { tab := tab, nargs := 1, res := (.d (.int .i64)), cuts := [], fuel := 40 }
/-- internal/strconv.bool2[int] -/
def m142 : Meta := { tab := tab, nargs := 1, res := (.d (.int .i64)), cuts := [], fuel := 40 }
/-- internal/strconv.numDigits -/
def m115 : Meta := { tab := tab, nargs := 1, res := (.d (.int .i64)), cuts := [], fuel := 40 }
/-- internal/strconv.formatBase10 -/
def m116 : Meta := { tab := tab, nargs := 2, res := (.tup []), cuts := [], fuel := 40 }
/-- internal/strconv.isPowerOfTwo -/
def m143 : Meta := { tab := tab, nargs := 1, res := (.d .bool), cuts := [], fuel := 40 }
/-- math/bits.TrailingZeros32 -/
def m163 : Meta := { tab := tab, nargs := 1, res := (.d (.int .i64)), cuts := [], fuel := 40 }
/-- math/bits.TrailingZeros64 -/
def m164 : Meta := { tab := tab, nargs := 1, res := (.d (.int .i64)), cuts := [], fuel := 40 }
/-- math/bits.TrailingZeros -/
def m144 : Meta := { tab := tab, nargs := 1, res := (.d (.int .i64)), cuts := [], fuel := 40 }
/-- internal/strconv.formatBits -/
def m117 : Meta := { tab := tab, nargs := 5, res := (.tup [(.alt (.own (.int .u8)) (.d (.list (.int .u8)))), (.d .str)]), cuts := [], fuel := 40 }
/-- internal/strconv.FormatInt -/
def m87 : Meta := { tab := tab, nargs := 2, res := (.d .str), cuts := [], fuel := 40 }
/-- strconv.FormatInt -/
def m56 : Meta := { tab := tab, nargs := 2, res := (.d .str), cuts := [], fuel := 40 }
/-- portolan/typed.Key -/
def m33 : Meta := { tab := tab, nargs := 1, res := (.tup [(.d .str), (.d .bool)]), cuts := [], fuel := 40 }
/-- (*portolan/join.Table).Attrs -/
def m10 : Meta := { tab := tab, nargs := 2, res := (.tup [(.alt (.own (.st (.cons .str (.st (.cons (.int .i64) (.cons .str (.int .u64))))))) (.d (.list (.st (.cons .str (.st (.cons (.int .i64) (.cons .str (.int .u64))))))))), (.d .bool)]), cuts := [], fuel := 40 }
/-- portolan/portolanlaw21.code -/
def m17 : Meta := { tab := tab, nargs := 1, res := (.d (.int .i64)), cuts := [], fuel := 40 }
/-- portolan/portolanlaw21.live -/
def m7 : Meta := { tab := tab, nargs := 0, res := (.d .bool), cuts := [], fuel := 40 }
noncomputable def envN : Nat → Env
  | 0 => []
  | n + 1 =>
    (146, s146) ::
    (140, ⟨[], autoSpec m140 (envN n) Tryz.f140 (bodyOf Tryz.f140), none⟩) ::
    (112, ⟨[], autoSpec m112 (envN n) Tryz.f112 (bodyOf Tryz.f112), none⟩) ::
    (76, ⟨[], autoSpec m76 (envN n) Tryz.f76 (bodyOf Tryz.f76), (some [(0, (.st (.cons .str (.cons (.int .i64) (.int .i64)))))])⟩) ::
    (110, ⟨[], autoSpec m110 (envN n) Tryz.f110 (bodyOf Tryz.f110), (some [(0, (.st (.cons .str (.cons (.int .i64) (.int .i64)))))])⟩) ::
    (111, ⟨[], autoSpec m111 (envN n) Tryz.f111 (bodyOf Tryz.f111), none⟩) ::
    (109, ⟨[], autoSpec m109 (envN n) Tryz.f109 (bodyOf Tryz.f109), none⟩) ::
    (75, ⟨[], autoSpec m75 (envN n) Tryz.f75 (bodyOf Tryz.f75), none⟩) ::
    (43, ⟨[], autoSpec m43 (envN n) Tryz.f43 (bodyOf Tryz.f43), none⟩) ::
    (22, ⟨[], autoSpec m22 (envN n) Tryz.f22 (bodyOf Tryz.f22), none⟩) ::
    (44, ⟨[], autoSpec m44 (envN n) Tryz.f44 (bodyOf Tryz.f44), none⟩) ::
    (23, ⟨[], autoSpec m23 (envN n) Tryz.f23 (bodyOf Tryz.f23), none⟩) ::
    (77, ⟨[], autoSpec m77 (envN n) Tryz.f77 (bodyOf Tryz.f77), none⟩) ::
    (45, ⟨[], autoSpec m45 (envN n) Tryz.f45 (bodyOf Tryz.f45), none⟩) ::
    (26, ⟨[], autoSpec m26 (envN n) Tryz.f26 (bodyOf Tryz.f26), none⟩) ::
    (46, ⟨[], autoSpec m46 (envN n) Tryz.f46 (bodyOf Tryz.f46), none⟩) ::
    (24, ⟨[], autoSpec m24 (envN n) Tryz.f24 (bodyOf Tryz.f24), none⟩) ::
    (113, ⟨[], autoSpec m113 (envN n) Tryz.f113 (bodyOf Tryz.f113), none⟩) ::
    (78, ⟨[], autoSpec m78 (envN n) Tryz.f78 (bodyOf Tryz.f78), none⟩) ::
    (47, ⟨[], autoSpec m47 (envN n) Tryz.f47 (bodyOf Tryz.f47), none⟩) ::
    (25, ⟨[], autoSpec m25 (envN n) Tryz.f25 (bodyOf Tryz.f25), none⟩) ::
    (8, ⟨[], autoSpec m8 (envN n) Tryz.f8 (bodyOf Tryz.f8), none⟩) ::
    (119, ⟨[], autoSpec m119 (envN n) Tryz.f119 (bodyOf Tryz.f119), none⟩) ::
    (89, ⟨[], autoSpec m89 (envN n) Tryz.f89 (bodyOf Tryz.f89), none⟩) ::
    (88, ⟨[], autoSpec m88 (envN n) Tryz.f88 (bodyOf Tryz.f88), none⟩) ::
    (90, ⟨[], autoSpec m90 (envN n) Tryz.f90 (bodyOf Tryz.f90), none⟩) ::
    (91, ⟨[], autoSpec m91 (envN n) Tryz.f91 (bodyOf Tryz.f91), none⟩) ::
    (129, ⟨[], autoSpec m129 (envN n) Tryz.f129 (bodyOf Tryz.f129), none⟩) ::
    (147, ⟨[], autoSpec m147 (envN n) Tryz.f147 (bodyOf Tryz.f147), none⟩) ::
    (130, ⟨[], autoSpec m130 (envN n) Tryz.f130 (bodyOf Tryz.f130), none⟩) ::
    (148, ⟨[], autoSpec m148 (envN n) Tryz.f148 (bodyOf Tryz.f148), none⟩) ::
    (171, ⟨[], autoSpec m171 (envN n) Tryz.f171 (bodyOf Tryz.f171), none⟩) ::
    (167, ⟨[], autoSpec m167 (envN n) Tryz.f167 (bodyOf Tryz.f167), none⟩) ::
    (170, ⟨[], autoSpec m170 (envN n) Tryz.f170 (bodyOf Tryz.f170), none⟩) ::
    (165, ⟨[], autoSpec m165 (envN n) Tryz.f165 (bodyOf Tryz.f165), none⟩) ::
    (157, ⟨[], autoSpec m157 (envN n) Tryz.f157 (bodyOf Tryz.f157), none⟩) ::
    (158, ⟨[], autoSpec m158 (envN n) Tryz.f158 (bodyOf Tryz.f158), none⟩) ::
    (127, ⟨[], autoSpec m127 (envN n) Tryz.f127 (bodyOf Tryz.f127), none⟩) ::
    (166, ⟨[], autoSpec m166 (envN n) Tryz.f166 (bodyOf Tryz.f166), none⟩) ::
    (149, ⟨[], autoSpec m149 (envN n) Tryz.f149 (bodyOf Tryz.f149), none⟩) ::
    (120, ⟨[], autoSpec m120 (envN n) Tryz.f120 (bodyOf Tryz.f120), none⟩) ::
    (150, ⟨[], autoSpec m150 (envN n) Tryz.f150 (bodyOf Tryz.f150), none⟩) ::
    (151, ⟨[], autoSpec m151 (envN n) Tryz.f151 (bodyOf Tryz.f151), none⟩) ::
    (152, ⟨[], autoSpec m152 (envN n) Tryz.f152 (bodyOf Tryz.f152), none⟩) ::
    (121, ⟨[], autoSpec m121 (envN n) Tryz.f121 (bodyOf Tryz.f121), none⟩) ::
    (92, ⟨[], autoSpec m92 (envN n) Tryz.f92 (bodyOf Tryz.f92), none⟩) ::
    (59, ⟨[], autoSpec m59 (envN n) Tryz.f59 (bodyOf Tryz.f59), none⟩) ::
    (58, ⟨[], autoSpec m58 (envN n) Tryz.f58 (bodyOf Tryz.f58), none⟩) ::
    (93, ⟨[], autoSpec m93 (envN n) Tryz.f93 (bodyOf Tryz.f93), none⟩) ::
    (153, ⟨[], autoSpec m153 (envN n) Tryz.f153 (bodyOf Tryz.f153), none⟩) ::
    (154, ⟨[], autoSpec m154 (envN n) Tryz.f154 (bodyOf Tryz.f154), none⟩) ::
    (122, ⟨[], autoSpec m122 (envN n) Tryz.f122 (bodyOf Tryz.f122), none⟩) ::
    (155, ⟨[], autoSpec m155 (envN n) Tryz.f155 (bodyOf Tryz.f155), none⟩) ::
    (156, ⟨[], autoSpec m156 (envN n) Tryz.f156 (bodyOf Tryz.f156), none⟩) ::
    (123, ⟨[], autoSpec m123 (envN n) Tryz.f123 (bodyOf Tryz.f123), none⟩) ::
    (124, ⟨[], autoSpec m124 (envN n) Tryz.f124 (bodyOf Tryz.f124), none⟩) ::
    (125, ⟨[], autoSpec m125 (envN n) Tryz.f125 (bodyOf Tryz.f125), none⟩) ::
    (126, ⟨[], autoSpec m126 (envN n) Tryz.f126 (bodyOf Tryz.f126), none⟩) ::
    (94, ⟨[], autoSpec m94 (envN n) Tryz.f94 (bodyOf Tryz.f94), none⟩) ::
    (60, ⟨[], autoSpec m60 (envN n) Tryz.f60 (bodyOf Tryz.f60), none⟩) ::
    (128, ⟨[], autoSpec m128 (envN n) Tryz.f128 (bodyOf Tryz.f128), none⟩) ::
    (95, ⟨[], autoSpec m95 (envN n) Tryz.f95 (bodyOf Tryz.f95), none⟩) ::
    (61, ⟨[], autoSpec m61 (envN n) Tryz.f61 (bodyOf Tryz.f61), none⟩) ::
    (35, ⟨[], autoSpec m35 (envN n) Tryz.f35 (bodyOf Tryz.f35), none⟩) ::
    (12, ⟨[], autoSpec m12 (envN n) Tryz.f12 (bodyOf Tryz.f12), none⟩) ::
    (30, ⟨[0], autoSpec m30 (envN n) Tryz.f30 (bodyOf Tryz.f30), none⟩) ::
    (15, ⟨[0, 1], autoSpec m15 (envN n) Tryz.f15 (bodyOf Tryz.f15), none⟩) ::
    (31, ⟨[], autoSpec m31 (envN n) Tryz.f31 (bodyOf Tryz.f31), none⟩) ::
    (32, ⟨[], autoSpec m32 (envN n) Tryz.f32 (bodyOf Tryz.f32), none⟩) ::
    (51, ⟨[], autoSpec m51 (envN n) Tryz.f51 (bodyOf Tryz.f51), none⟩) ::
    (114, ⟨[], autoSpec m114 (envN n) Tryz.f114 (bodyOf Tryz.f114), none⟩) ::
    (83, ⟨[], autoSpec m83 (envN n) Tryz.f83 (bodyOf Tryz.f83), none⟩) ::
    (141, ⟨[], autoSpec m141 (envN n) Tryz.f141 (bodyOf Tryz.f141), none⟩) ::
    (142, ⟨[], autoSpec m142 (envN n) Tryz.f142 (bodyOf Tryz.f142), none⟩) ::
    (115, ⟨[], autoSpec m115 (envN n) Tryz.f115 (bodyOf Tryz.f115), none⟩) ::
    (116, ⟨[], autoSpec m116 (envN n) Tryz.f116 (bodyOf Tryz.f116), none⟩) ::
    (143, ⟨[], autoSpec m143 (envN n) Tryz.f143 (bodyOf Tryz.f143), none⟩) ::
    (163, ⟨[], autoSpec m163 (envN n) Tryz.f163 (bodyOf Tryz.f163), none⟩) ::
    (164, ⟨[], autoSpec m164 (envN n) Tryz.f164 (bodyOf Tryz.f164), none⟩) ::
    (144, ⟨[], autoSpec m144 (envN n) Tryz.f144 (bodyOf Tryz.f144), none⟩) ::
    (117, ⟨[0], autoSpec m117 (envN n) Tryz.f117 (bodyOf Tryz.f117), none⟩) ::
    (87, ⟨[], autoSpec m87 (envN n) Tryz.f87 (bodyOf Tryz.f87), none⟩) ::
    (56, ⟨[], autoSpec m56 (envN n) Tryz.f56 (bodyOf Tryz.f56), none⟩) ::
    (33, ⟨[], autoSpec m33 (envN n) Tryz.f33 (bodyOf Tryz.f33), none⟩) ::
    (10, ⟨[1], autoSpec m10 (envN n) Tryz.f10 (bodyOf Tryz.f10), none⟩) ::
    (17, ⟨[], autoSpec m17 (envN n) Tryz.f17 (bodyOf Tryz.f17), none⟩) ::
    (7, ⟨[], autoSpec m7 (envN n) Tryz.f7 (bodyOf Tryz.f7), none⟩) :: []
theorem au140 {env : Env} (h : EnvOk Tryz.prog env) : FSound Tryz.prog 140 ⟨[], autoSpec m140 env Tryz.f140 (bodyOf Tryz.f140), none⟩ := fsound_auto [] none Tryz.func140 (by kernel_rfl) (by kernel_rfl) tabOk h (by kernel_rfl)
theorem au112 {env : Env} (h : EnvOk Tryz.prog env) : FSound Tryz.prog 112 ⟨[], autoSpec m112 env Tryz.f112 (bodyOf Tryz.f112), none⟩ := fsound_auto [] none Tryz.func112 (by kernel_rfl) (by kernel_rfl) tabOk h (by kernel_rfl)
theorem au76 {env : Env} (h : EnvOk Tryz.prog env) : FSound Tryz.prog 76 ⟨[], autoSpec m76 env Tryz.f76 (bodyOf Tryz.f76), (some [(0, (.st (.cons .str (.cons (.int .i64) (.int .i64)))))])⟩ := fsound_auto [] (some [(0, (.st (.cons .str (.cons (.int .i64) (.int .i64)))))]) Tryz.func76 (by kernel_rfl) (by kernel_rfl) tabOk h (by kernel_rfl)
theorem au110 {env : Env} (h : EnvOk Tryz.prog env) : FSound Tryz.prog 110 ⟨[], autoSpec m110 env Tryz.f110 (bodyOf Tryz.f110), (some [(0, (.st (.cons .str (.cons (.int .i64) (.int .i64)))))])⟩ := fsound_auto [] (some [(0, (.st (.cons .str (.cons (.int .i64) (.int .i64)))))]) Tryz.func110 (by kernel_rfl) (by kernel_rfl) tabOk h (by kernel_rfl)
theorem au111 {env : Env} (h : EnvOk Tryz.prog env) : FSound Tryz.prog 111 ⟨[], autoSpec m111 env Tryz.f111 (bodyOf Tryz.f111), none⟩ := fsound_auto [] none Tryz.func111 (by kernel_rfl) (by kernel_rfl) tabOk h (by kernel_rfl)
theorem au109 {env : Env} (h : EnvOk Tryz.prog env) : FSound Tryz.prog 109 ⟨[], autoSpec m109 env Tryz.f109 (bodyOf Tryz.f109), none⟩ := fsound_auto [] none Tryz.func109 (by kernel_rfl) (by kernel_rfl) tabOk h (by kernel_rfl)
theorem au75 {env : Env} (h : EnvOk Tryz.prog env) : FSound Tryz.prog 75 ⟨[], autoSpec m75 env Tryz.f75 (bodyOf Tryz.f75), none⟩ := fsound_auto [] none Tryz.func75 (by kernel_rfl) (by kernel_rfl) tabOk h (by kernel_rfl)
theorem au43 {env : Env} (h : EnvOk Tryz.prog env) : FSound Tryz.prog 43 ⟨[], autoSpec m43 env Tryz.f43 (bodyOf Tryz.f43), none⟩ := fsound_auto [] none Tryz.func43 (by kernel_rfl) (by kernel_rfl) tabOk h (by kernel_rfl)
theorem au22 {env : Env} (h : EnvOk Tryz.prog env) : FSound Tryz.prog 22 ⟨[], autoSpec m22 env Tryz.f22 (bodyOf Tryz.f22), none⟩ := fsound_auto [] none Tryz.func22 (by kernel_rfl) (by kernel_rfl) tabOk h (by kernel_rfl)
theorem au44 {env : Env} (h : EnvOk Tryz.prog env) : FSound Tryz.prog 44 ⟨[], autoSpec m44 env Tryz.f44 (bodyOf Tryz.f44), none⟩ := fsound_auto [] none Tryz.func44 (by kernel_rfl) (by kernel_rfl) tabOk h (by kernel_rfl)
theorem au23 {env : Env} (h : EnvOk Tryz.prog env) : FSound Tryz.prog 23 ⟨[], autoSpec m23 env Tryz.f23 (bodyOf Tryz.f23), none⟩ := fsound_auto [] none Tryz.func23 (by kernel_rfl) (by kernel_rfl) tabOk h (by kernel_rfl)
theorem au77 {env : Env} (h : EnvOk Tryz.prog env) : FSound Tryz.prog 77 ⟨[], autoSpec m77 env Tryz.f77 (bodyOf Tryz.f77), none⟩ := fsound_auto [] none Tryz.func77 (by kernel_rfl) (by kernel_rfl) tabOk h (by kernel_rfl)
theorem au45 {env : Env} (h : EnvOk Tryz.prog env) : FSound Tryz.prog 45 ⟨[], autoSpec m45 env Tryz.f45 (bodyOf Tryz.f45), none⟩ := fsound_auto [] none Tryz.func45 (by kernel_rfl) (by kernel_rfl) tabOk h (by kernel_rfl)
theorem au26 {env : Env} (h : EnvOk Tryz.prog env) : FSound Tryz.prog 26 ⟨[], autoSpec m26 env Tryz.f26 (bodyOf Tryz.f26), none⟩ := fsound_auto [] none Tryz.func26 (by kernel_rfl) (by kernel_rfl) tabOk h (by kernel_rfl)
theorem au46 {env : Env} (h : EnvOk Tryz.prog env) : FSound Tryz.prog 46 ⟨[], autoSpec m46 env Tryz.f46 (bodyOf Tryz.f46), none⟩ := fsound_auto [] none Tryz.func46 (by kernel_rfl) (by kernel_rfl) tabOk h (by kernel_rfl)
theorem au24 {env : Env} (h : EnvOk Tryz.prog env) : FSound Tryz.prog 24 ⟨[], autoSpec m24 env Tryz.f24 (bodyOf Tryz.f24), none⟩ := fsound_auto [] none Tryz.func24 (by kernel_rfl) (by kernel_rfl) tabOk h (by kernel_rfl)
theorem au113 {env : Env} (h : EnvOk Tryz.prog env) : FSound Tryz.prog 113 ⟨[], autoSpec m113 env Tryz.f113 (bodyOf Tryz.f113), none⟩ := fsound_auto [] none Tryz.func113 (by kernel_rfl) (by kernel_rfl) tabOk h (by kernel_rfl)
theorem au78 {env : Env} (h : EnvOk Tryz.prog env) : FSound Tryz.prog 78 ⟨[], autoSpec m78 env Tryz.f78 (bodyOf Tryz.f78), none⟩ := fsound_auto [] none Tryz.func78 (by kernel_rfl) (by kernel_rfl) tabOk h (by kernel_rfl)
theorem au47 {env : Env} (h : EnvOk Tryz.prog env) : FSound Tryz.prog 47 ⟨[], autoSpec m47 env Tryz.f47 (bodyOf Tryz.f47), none⟩ := fsound_auto [] none Tryz.func47 (by kernel_rfl) (by kernel_rfl) tabOk h (by kernel_rfl)
theorem au25 {env : Env} (h : EnvOk Tryz.prog env) : FSound Tryz.prog 25 ⟨[], autoSpec m25 env Tryz.f25 (bodyOf Tryz.f25), none⟩ := fsound_auto [] none Tryz.func25 (by kernel_rfl) (by kernel_rfl) tabOk h (by kernel_rfl)
theorem au8 {env : Env} (h : EnvOk Tryz.prog env) : FSound Tryz.prog 8 ⟨[], autoSpec m8 env Tryz.f8 (bodyOf Tryz.f8), none⟩ := fsound_auto [] none Tryz.func8 (by kernel_rfl) (by kernel_rfl) tabOk h (by kernel_rfl)
theorem au119 {env : Env} (h : EnvOk Tryz.prog env) : FSound Tryz.prog 119 ⟨[], autoSpec m119 env Tryz.f119 (bodyOf Tryz.f119), none⟩ := fsound_auto [] none Tryz.func119 (by kernel_rfl) (by kernel_rfl) tabOk h (by kernel_rfl)
theorem au89 {env : Env} (h : EnvOk Tryz.prog env) : FSound Tryz.prog 89 ⟨[], autoSpec m89 env Tryz.f89 (bodyOf Tryz.f89), none⟩ := fsound_auto [] none Tryz.func89 (by kernel_rfl) (by kernel_rfl) tabOk h (by kernel_rfl)
theorem au88 {env : Env} (h : EnvOk Tryz.prog env) : FSound Tryz.prog 88 ⟨[], autoSpec m88 env Tryz.f88 (bodyOf Tryz.f88), none⟩ := fsound_auto [] none Tryz.func88 (by kernel_rfl) (by kernel_rfl) tabOk h (by kernel_rfl)
theorem au90 {env : Env} (h : EnvOk Tryz.prog env) : FSound Tryz.prog 90 ⟨[], autoSpec m90 env Tryz.f90 (bodyOf Tryz.f90), none⟩ := fsound_auto [] none Tryz.func90 (by kernel_rfl) (by kernel_rfl) tabOk h (by kernel_rfl)
theorem au91 {env : Env} (h : EnvOk Tryz.prog env) : FSound Tryz.prog 91 ⟨[], autoSpec m91 env Tryz.f91 (bodyOf Tryz.f91), none⟩ := fsound_auto [] none Tryz.func91 (by kernel_rfl) (by kernel_rfl) tabOk h (by kernel_rfl)
theorem au129 {env : Env} (h : EnvOk Tryz.prog env) : FSound Tryz.prog 129 ⟨[], autoSpec m129 env Tryz.f129 (bodyOf Tryz.f129), none⟩ := fsound_auto [] none Tryz.func129 (by kernel_rfl) (by kernel_rfl) tabOk h (by kernel_rfl)
theorem au147 {env : Env} (h : EnvOk Tryz.prog env) : FSound Tryz.prog 147 ⟨[], autoSpec m147 env Tryz.f147 (bodyOf Tryz.f147), none⟩ := fsound_auto [] none Tryz.func147 (by kernel_rfl) (by kernel_rfl) tabOk h (by kernel_rfl)
theorem au130 {env : Env} (h : EnvOk Tryz.prog env) : FSound Tryz.prog 130 ⟨[], autoSpec m130 env Tryz.f130 (bodyOf Tryz.f130), none⟩ := fsound_auto [] none Tryz.func130 (by kernel_rfl) (by kernel_rfl) tabOk h (by kernel_rfl)
theorem au148 {env : Env} (h : EnvOk Tryz.prog env) : FSound Tryz.prog 148 ⟨[], autoSpec m148 env Tryz.f148 (bodyOf Tryz.f148), none⟩ := fsound_auto [] none Tryz.func148 (by kernel_rfl) (by kernel_rfl) tabOk h (by kernel_rfl)
theorem au171 {env : Env} (h : EnvOk Tryz.prog env) : FSound Tryz.prog 171 ⟨[], autoSpec m171 env Tryz.f171 (bodyOf Tryz.f171), none⟩ := fsound_auto [] none Tryz.func171 (by kernel_rfl) (by kernel_rfl) tabOk h (by kernel_rfl)
theorem au167 {env : Env} (h : EnvOk Tryz.prog env) : FSound Tryz.prog 167 ⟨[], autoSpec m167 env Tryz.f167 (bodyOf Tryz.f167), none⟩ := fsound_auto [] none Tryz.func167 (by kernel_rfl) (by kernel_rfl) tabOk h (by kernel_rfl)
theorem au170 {env : Env} (h : EnvOk Tryz.prog env) : FSound Tryz.prog 170 ⟨[], autoSpec m170 env Tryz.f170 (bodyOf Tryz.f170), none⟩ := fsound_auto [] none Tryz.func170 (by kernel_rfl) (by kernel_rfl) tabOk h (by kernel_rfl)
theorem au165 {env : Env} (h : EnvOk Tryz.prog env) : FSound Tryz.prog 165 ⟨[], autoSpec m165 env Tryz.f165 (bodyOf Tryz.f165), none⟩ := fsound_auto [] none Tryz.func165 (by kernel_rfl) (by kernel_rfl) tabOk h (by kernel_rfl)
theorem au157 {env : Env} (h : EnvOk Tryz.prog env) : FSound Tryz.prog 157 ⟨[], autoSpec m157 env Tryz.f157 (bodyOf Tryz.f157), none⟩ := fsound_auto [] none Tryz.func157 (by kernel_rfl) (by kernel_rfl) tabOk h (by kernel_rfl)
theorem au158 {env : Env} (h : EnvOk Tryz.prog env) : FSound Tryz.prog 158 ⟨[], autoSpec m158 env Tryz.f158 (bodyOf Tryz.f158), none⟩ := fsound_auto [] none Tryz.func158 (by kernel_rfl) (by kernel_rfl) tabOk h (by kernel_rfl)
theorem au127 {env : Env} (h : EnvOk Tryz.prog env) : FSound Tryz.prog 127 ⟨[], autoSpec m127 env Tryz.f127 (bodyOf Tryz.f127), none⟩ := fsound_auto [] none Tryz.func127 (by kernel_rfl) (by kernel_rfl) tabOk h (by kernel_rfl)
theorem au166 {env : Env} (h : EnvOk Tryz.prog env) : FSound Tryz.prog 166 ⟨[], autoSpec m166 env Tryz.f166 (bodyOf Tryz.f166), none⟩ := fsound_auto [] none Tryz.func166 (by kernel_rfl) (by kernel_rfl) tabOk h (by kernel_rfl)
theorem au149 {env : Env} (h : EnvOk Tryz.prog env) : FSound Tryz.prog 149 ⟨[], autoSpec m149 env Tryz.f149 (bodyOf Tryz.f149), none⟩ := fsound_auto [] none Tryz.func149 (by kernel_rfl) (by kernel_rfl) tabOk h (by kernel_rfl)
theorem au120 {env : Env} (h : EnvOk Tryz.prog env) : FSound Tryz.prog 120 ⟨[], autoSpec m120 env Tryz.f120 (bodyOf Tryz.f120), none⟩ := fsound_auto [] none Tryz.func120 (by kernel_rfl) (by kernel_rfl) tabOk h (by kernel_rfl)
theorem au150 {env : Env} (h : EnvOk Tryz.prog env) : FSound Tryz.prog 150 ⟨[], autoSpec m150 env Tryz.f150 (bodyOf Tryz.f150), none⟩ := fsound_auto [] none Tryz.func150 (by kernel_rfl) (by kernel_rfl) tabOk h (by kernel_rfl)
theorem au151 {env : Env} (h : EnvOk Tryz.prog env) : FSound Tryz.prog 151 ⟨[], autoSpec m151 env Tryz.f151 (bodyOf Tryz.f151), none⟩ := fsound_auto [] none Tryz.func151 (by kernel_rfl) (by kernel_rfl) tabOk h (by kernel_rfl)
theorem au152 {env : Env} (h : EnvOk Tryz.prog env) : FSound Tryz.prog 152 ⟨[], autoSpec m152 env Tryz.f152 (bodyOf Tryz.f152), none⟩ := fsound_auto [] none Tryz.func152 (by kernel_rfl) (by kernel_rfl) tabOk h (by kernel_rfl)
theorem au121 {env : Env} (h : EnvOk Tryz.prog env) : FSound Tryz.prog 121 ⟨[], autoSpec m121 env Tryz.f121 (bodyOf Tryz.f121), none⟩ := fsound_auto [] none Tryz.func121 (by kernel_rfl) (by kernel_rfl) tabOk h (by kernel_rfl)
theorem au92 {env : Env} (h : EnvOk Tryz.prog env) : FSound Tryz.prog 92 ⟨[], autoSpec m92 env Tryz.f92 (bodyOf Tryz.f92), none⟩ := fsound_auto [] none Tryz.func92 (by kernel_rfl) (by kernel_rfl) tabOk h (by kernel_rfl)
theorem au59 {env : Env} (h : EnvOk Tryz.prog env) : FSound Tryz.prog 59 ⟨[], autoSpec m59 env Tryz.f59 (bodyOf Tryz.f59), none⟩ := fsound_auto [] none Tryz.func59 (by kernel_rfl) (by kernel_rfl) tabOk h (by kernel_rfl)
theorem au58 {env : Env} (h : EnvOk Tryz.prog env) : FSound Tryz.prog 58 ⟨[], autoSpec m58 env Tryz.f58 (bodyOf Tryz.f58), none⟩ := fsound_auto [] none Tryz.func58 (by kernel_rfl) (by kernel_rfl) tabOk h (by kernel_rfl)
theorem au93 {env : Env} (h : EnvOk Tryz.prog env) : FSound Tryz.prog 93 ⟨[], autoSpec m93 env Tryz.f93 (bodyOf Tryz.f93), none⟩ := fsound_auto [] none Tryz.func93 (by kernel_rfl) (by kernel_rfl) tabOk h (by kernel_rfl)
theorem au153 {env : Env} (h : EnvOk Tryz.prog env) : FSound Tryz.prog 153 ⟨[], autoSpec m153 env Tryz.f153 (bodyOf Tryz.f153), none⟩ := fsound_auto [] none Tryz.func153 (by kernel_rfl) (by kernel_rfl) tabOk h (by kernel_rfl)
theorem au154 {env : Env} (h : EnvOk Tryz.prog env) : FSound Tryz.prog 154 ⟨[], autoSpec m154 env Tryz.f154 (bodyOf Tryz.f154), none⟩ := fsound_auto [] none Tryz.func154 (by kernel_rfl) (by kernel_rfl) tabOk h (by kernel_rfl)
theorem au122 {env : Env} (h : EnvOk Tryz.prog env) : FSound Tryz.prog 122 ⟨[], autoSpec m122 env Tryz.f122 (bodyOf Tryz.f122), none⟩ := fsound_auto [] none Tryz.func122 (by kernel_rfl) (by kernel_rfl) tabOk h (by kernel_rfl)
theorem au155 {env : Env} (h : EnvOk Tryz.prog env) : FSound Tryz.prog 155 ⟨[], autoSpec m155 env Tryz.f155 (bodyOf Tryz.f155), none⟩ := fsound_auto [] none Tryz.func155 (by kernel_rfl) (by kernel_rfl) tabOk h (by kernel_rfl)
theorem au156 {env : Env} (h : EnvOk Tryz.prog env) : FSound Tryz.prog 156 ⟨[], autoSpec m156 env Tryz.f156 (bodyOf Tryz.f156), none⟩ := fsound_auto [] none Tryz.func156 (by kernel_rfl) (by kernel_rfl) tabOk h (by kernel_rfl)
theorem au123 {env : Env} (h : EnvOk Tryz.prog env) : FSound Tryz.prog 123 ⟨[], autoSpec m123 env Tryz.f123 (bodyOf Tryz.f123), none⟩ := fsound_auto [] none Tryz.func123 (by kernel_rfl) (by kernel_rfl) tabOk h (by kernel_rfl)
theorem au124 {env : Env} (h : EnvOk Tryz.prog env) : FSound Tryz.prog 124 ⟨[], autoSpec m124 env Tryz.f124 (bodyOf Tryz.f124), none⟩ := fsound_auto [] none Tryz.func124 (by kernel_rfl) (by kernel_rfl) tabOk h (by kernel_rfl)
theorem au125 {env : Env} (h : EnvOk Tryz.prog env) : FSound Tryz.prog 125 ⟨[], autoSpec m125 env Tryz.f125 (bodyOf Tryz.f125), none⟩ := fsound_auto [] none Tryz.func125 (by kernel_rfl) (by kernel_rfl) tabOk h (by kernel_rfl)
theorem au126 {env : Env} (h : EnvOk Tryz.prog env) : FSound Tryz.prog 126 ⟨[], autoSpec m126 env Tryz.f126 (bodyOf Tryz.f126), none⟩ := fsound_auto [] none Tryz.func126 (by kernel_rfl) (by kernel_rfl) tabOk h (by kernel_rfl)
theorem au94 {env : Env} (h : EnvOk Tryz.prog env) : FSound Tryz.prog 94 ⟨[], autoSpec m94 env Tryz.f94 (bodyOf Tryz.f94), none⟩ := fsound_auto [] none Tryz.func94 (by kernel_rfl) (by kernel_rfl) tabOk h (by kernel_rfl)
theorem au60 {env : Env} (h : EnvOk Tryz.prog env) : FSound Tryz.prog 60 ⟨[], autoSpec m60 env Tryz.f60 (bodyOf Tryz.f60), none⟩ := fsound_auto [] none Tryz.func60 (by kernel_rfl) (by kernel_rfl) tabOk h (by kernel_rfl)
theorem au128 {env : Env} (h : EnvOk Tryz.prog env) : FSound Tryz.prog 128 ⟨[], autoSpec m128 env Tryz.f128 (bodyOf Tryz.f128), none⟩ := fsound_auto [] none Tryz.func128 (by kernel_rfl) (by kernel_rfl) tabOk h (by kernel_rfl)
theorem au95 {env : Env} (h : EnvOk Tryz.prog env) : FSound Tryz.prog 95 ⟨[], autoSpec m95 env Tryz.f95 (bodyOf Tryz.f95), none⟩ := fsound_auto [] none Tryz.func95 (by kernel_rfl) (by kernel_rfl) tabOk h (by kernel_rfl)
theorem au61 {env : Env} (h : EnvOk Tryz.prog env) : FSound Tryz.prog 61 ⟨[], autoSpec m61 env Tryz.f61 (bodyOf Tryz.f61), none⟩ := fsound_auto [] none Tryz.func61 (by kernel_rfl) (by kernel_rfl) tabOk h (by kernel_rfl)
theorem au35 {env : Env} (h : EnvOk Tryz.prog env) : FSound Tryz.prog 35 ⟨[], autoSpec m35 env Tryz.f35 (bodyOf Tryz.f35), none⟩ := fsound_auto [] none Tryz.func35 (by kernel_rfl) (by kernel_rfl) tabOk h (by kernel_rfl)
theorem au12 {env : Env} (h : EnvOk Tryz.prog env) : FSound Tryz.prog 12 ⟨[], autoSpec m12 env Tryz.f12 (bodyOf Tryz.f12), none⟩ := fsound_auto [] none Tryz.func12 (by kernel_rfl) (by kernel_rfl) tabOk h (by kernel_rfl)
theorem au30 {env : Env} (h : EnvOk Tryz.prog env) : FSound Tryz.prog 30 ⟨[0], autoSpec m30 env Tryz.f30 (bodyOf Tryz.f30), none⟩ := fsound_auto [0] none Tryz.func30 (by kernel_rfl) (by kernel_rfl) tabOk h (by kernel_rfl)
theorem au15 {env : Env} (h : EnvOk Tryz.prog env) : FSound Tryz.prog 15 ⟨[0, 1], autoSpec m15 env Tryz.f15 (bodyOf Tryz.f15), none⟩ := fsound_auto [0, 1] none Tryz.func15 (by kernel_rfl) (by kernel_rfl) tabOk h (by kernel_rfl)
theorem au31 {env : Env} (h : EnvOk Tryz.prog env) : FSound Tryz.prog 31 ⟨[], autoSpec m31 env Tryz.f31 (bodyOf Tryz.f31), none⟩ := fsound_auto [] none Tryz.func31 (by kernel_rfl) (by kernel_rfl) tabOk h (by kernel_rfl)
theorem au32 {env : Env} (h : EnvOk Tryz.prog env) : FSound Tryz.prog 32 ⟨[], autoSpec m32 env Tryz.f32 (bodyOf Tryz.f32), none⟩ := fsound_auto [] none Tryz.func32 (by kernel_rfl) (by kernel_rfl) tabOk h (by kernel_rfl)
theorem au51 {env : Env} (h : EnvOk Tryz.prog env) : FSound Tryz.prog 51 ⟨[], autoSpec m51 env Tryz.f51 (bodyOf Tryz.f51), none⟩ := fsound_auto [] none Tryz.func51 (by kernel_rfl) (by kernel_rfl) tabOk h (by kernel_rfl)
theorem au114 {env : Env} (h : EnvOk Tryz.prog env) : FSound Tryz.prog 114 ⟨[], autoSpec m114 env Tryz.f114 (bodyOf Tryz.f114), none⟩ := fsound_auto [] none Tryz.func114 (by kernel_rfl) (by kernel_rfl) tabOk h (by kernel_rfl)
theorem au83 {env : Env} (h : EnvOk Tryz.prog env) : FSound Tryz.prog 83 ⟨[], autoSpec m83 env Tryz.f83 (bodyOf Tryz.f83), none⟩ := fsound_auto [] none Tryz.func83 (by kernel_rfl) (by kernel_rfl) tabOk h (by kernel_rfl)
theorem au141 {env : Env} (h : EnvOk Tryz.prog env) : FSound Tryz.prog 141 ⟨[], autoSpec m141 env Tryz.f141 (bodyOf Tryz.f141), none⟩ := fsound_auto [] none Tryz.func141 (by kernel_rfl) (by kernel_rfl) tabOk h (by kernel_rfl)
theorem au142 {env : Env} (h : EnvOk Tryz.prog env) : FSound Tryz.prog 142 ⟨[], autoSpec m142 env Tryz.f142 (bodyOf Tryz.f142), none⟩ := fsound_auto [] none Tryz.func142 (by kernel_rfl) (by kernel_rfl) tabOk h (by kernel_rfl)
theorem au115 {env : Env} (h : EnvOk Tryz.prog env) : FSound Tryz.prog 115 ⟨[], autoSpec m115 env Tryz.f115 (bodyOf Tryz.f115), none⟩ := fsound_auto [] none Tryz.func115 (by kernel_rfl) (by kernel_rfl) tabOk h (by kernel_rfl)
theorem au116 {env : Env} (h : EnvOk Tryz.prog env) : FSound Tryz.prog 116 ⟨[], autoSpec m116 env Tryz.f116 (bodyOf Tryz.f116), none⟩ := fsound_auto [] none Tryz.func116 (by kernel_rfl) (by kernel_rfl) tabOk h (by kernel_rfl)
theorem au143 {env : Env} (h : EnvOk Tryz.prog env) : FSound Tryz.prog 143 ⟨[], autoSpec m143 env Tryz.f143 (bodyOf Tryz.f143), none⟩ := fsound_auto [] none Tryz.func143 (by kernel_rfl) (by kernel_rfl) tabOk h (by kernel_rfl)
theorem au163 {env : Env} (h : EnvOk Tryz.prog env) : FSound Tryz.prog 163 ⟨[], autoSpec m163 env Tryz.f163 (bodyOf Tryz.f163), none⟩ := fsound_auto [] none Tryz.func163 (by kernel_rfl) (by kernel_rfl) tabOk h (by kernel_rfl)
theorem au164 {env : Env} (h : EnvOk Tryz.prog env) : FSound Tryz.prog 164 ⟨[], autoSpec m164 env Tryz.f164 (bodyOf Tryz.f164), none⟩ := fsound_auto [] none Tryz.func164 (by kernel_rfl) (by kernel_rfl) tabOk h (by kernel_rfl)
theorem au144 {env : Env} (h : EnvOk Tryz.prog env) : FSound Tryz.prog 144 ⟨[], autoSpec m144 env Tryz.f144 (bodyOf Tryz.f144), none⟩ := fsound_auto [] none Tryz.func144 (by kernel_rfl) (by kernel_rfl) tabOk h (by kernel_rfl)
theorem au117 {env : Env} (h : EnvOk Tryz.prog env) : FSound Tryz.prog 117 ⟨[0], autoSpec m117 env Tryz.f117 (bodyOf Tryz.f117), none⟩ := fsound_auto [0] none Tryz.func117 (by kernel_rfl) (by kernel_rfl) tabOk h (by kernel_rfl)
theorem au87 {env : Env} (h : EnvOk Tryz.prog env) : FSound Tryz.prog 87 ⟨[], autoSpec m87 env Tryz.f87 (bodyOf Tryz.f87), none⟩ := fsound_auto [] none Tryz.func87 (by kernel_rfl) (by kernel_rfl) tabOk h (by kernel_rfl)
theorem au56 {env : Env} (h : EnvOk Tryz.prog env) : FSound Tryz.prog 56 ⟨[], autoSpec m56 env Tryz.f56 (bodyOf Tryz.f56), none⟩ := fsound_auto [] none Tryz.func56 (by kernel_rfl) (by kernel_rfl) tabOk h (by kernel_rfl)
theorem au33 {env : Env} (h : EnvOk Tryz.prog env) : FSound Tryz.prog 33 ⟨[], autoSpec m33 env Tryz.f33 (bodyOf Tryz.f33), none⟩ := fsound_auto [] none Tryz.func33 (by kernel_rfl) (by kernel_rfl) tabOk h (by kernel_rfl)
theorem au10 {env : Env} (h : EnvOk Tryz.prog env) : FSound Tryz.prog 10 ⟨[1], autoSpec m10 env Tryz.f10 (bodyOf Tryz.f10), none⟩ := fsound_auto [1] none Tryz.func10 (by kernel_rfl) (by kernel_rfl) tabOk h (by kernel_rfl)
theorem au17 {env : Env} (h : EnvOk Tryz.prog env) : FSound Tryz.prog 17 ⟨[], autoSpec m17 env Tryz.f17 (bodyOf Tryz.f17), none⟩ := fsound_auto [] none Tryz.func17 (by kernel_rfl) (by kernel_rfl) tabOk h (by kernel_rfl)
theorem au7 {env : Env} (h : EnvOk Tryz.prog env) : FSound Tryz.prog 7 ⟨[], autoSpec m7 env Tryz.f7 (bodyOf Tryz.f7), none⟩ := fsound_auto [] none Tryz.func7 (by kernel_rfl) (by kernel_rfl) tabOk h (by kernel_rfl)
theorem envN_ok : ∀ n, EnvOk Tryz.prog (envN n)
  | 0 => envOk_nil _
  | n + 1 => by
    have h := envN_ok n
    unfold envN
    refine envOk_cons ok146 ?_
    refine envOk_cons (au140 h) ?_
    refine envOk_cons (au112 h) ?_
    refine envOk_cons (au76 h) ?_
    refine envOk_cons (au110 h) ?_
    refine envOk_cons (au111 h) ?_
    refine envOk_cons (au109 h) ?_
    refine envOk_cons (au75 h) ?_
    refine envOk_cons (au43 h) ?_
    refine envOk_cons (au22 h) ?_
    refine envOk_cons (au44 h) ?_
    refine envOk_cons (au23 h) ?_
    refine envOk_cons (au77 h) ?_
    refine envOk_cons (au45 h) ?_
    refine envOk_cons (au26 h) ?_
    refine envOk_cons (au46 h) ?_
    refine envOk_cons (au24 h) ?_
    refine envOk_cons (au113 h) ?_
    refine envOk_cons (au78 h) ?_
    refine envOk_cons (au47 h) ?_
    refine envOk_cons (au25 h) ?_
    refine envOk_cons (au8 h) ?_
    refine envOk_cons (au119 h) ?_
    refine envOk_cons (au89 h) ?_
    refine envOk_cons (au88 h) ?_
    refine envOk_cons (au90 h) ?_
    refine envOk_cons (au91 h) ?_
    refine envOk_cons (au129 h) ?_
    refine envOk_cons (au147 h) ?_
    refine envOk_cons (au130 h) ?_
    refine envOk_cons (au148 h) ?_
    refine envOk_cons (au171 h) ?_
    refine envOk_cons (au167 h) ?_
    refine envOk_cons (au170 h) ?_
    refine envOk_cons (au165 h) ?_
    refine envOk_cons (au157 h) ?_
    refine envOk_cons (au158 h) ?_
    refine envOk_cons (au127 h) ?_
    refine envOk_cons (au166 h) ?_
    refine envOk_cons (au149 h) ?_
    refine envOk_cons (au120 h) ?_
    refine envOk_cons (au150 h) ?_
    refine envOk_cons (au151 h) ?_
    refine envOk_cons (au152 h) ?_
    refine envOk_cons (au121 h) ?_
    refine envOk_cons (au92 h) ?_
    refine envOk_cons (au59 h) ?_
    refine envOk_cons (au58 h) ?_
    refine envOk_cons (au93 h) ?_
    refine envOk_cons (au153 h) ?_
    refine envOk_cons (au154 h) ?_
    refine envOk_cons (au122 h) ?_
    refine envOk_cons (au155 h) ?_
    refine envOk_cons (au156 h) ?_
    refine envOk_cons (au123 h) ?_
    refine envOk_cons (au124 h) ?_
    refine envOk_cons (au125 h) ?_
    refine envOk_cons (au126 h) ?_
    refine envOk_cons (au94 h) ?_
    refine envOk_cons (au60 h) ?_
    refine envOk_cons (au128 h) ?_
    refine envOk_cons (au95 h) ?_
    refine envOk_cons (au61 h) ?_
    refine envOk_cons (au35 h) ?_
    refine envOk_cons (au12 h) ?_
    refine envOk_cons (au30 h) ?_
    refine envOk_cons (au15 h) ?_
    refine envOk_cons (au31 h) ?_
    refine envOk_cons (au32 h) ?_
    refine envOk_cons (au51 h) ?_
    refine envOk_cons (au114 h) ?_
    refine envOk_cons (au83 h) ?_
    refine envOk_cons (au141 h) ?_
    refine envOk_cons (au142 h) ?_
    refine envOk_cons (au115 h) ?_
    refine envOk_cons (au116 h) ?_
    refine envOk_cons (au143 h) ?_
    refine envOk_cons (au163 h) ?_
    refine envOk_cons (au164 h) ?_
    refine envOk_cons (au144 h) ?_
    refine envOk_cons (au117 h) ?_
    refine envOk_cons (au87 h) ?_
    refine envOk_cons (au56 h) ?_
    refine envOk_cons (au33 h) ?_
    refine envOk_cons (au10 h) ?_
    refine envOk_cons (au17 h) ?_
    refine envOk_cons (au7 h) ?_
    exact envOk_nil _
end Go.Proofs.Am

namespace Go.Proofs.Am
set_option maxRecDepth 100000
theorem live_run : (autoSpec m7 (envN 20) Tryz.f7 (bodyOf Tryz.f7) [] []).run = some ⟨.d .bool true, [], []⟩ := by kernel_rfl
def constSpec (b : Bool) : Spec := fun args fams => match args, fams with | [], [] => .leaf ⟨.d .bool b, [], []⟩ | _, _ => .fail
theorem live_ok : FSound Tryz.prog 7 ⟨[], constSpec true, none⟩ := by
  have h := au7 (envN_ok 20)
  intro m L w args fams vs out hag hargs hres hspec
  refine h m L w args fams vs out hag hargs hres ?_
  simp only [constSpec] at hspec
  split at hspec
  · rw [live_run]; exact hspec
  · simp at hspec
end Go.Proofs.Am

namespace Go.Proofs.Am
set_option maxRecDepth 100000
set_option linter.unusedVariables false
set_option linter.unusedSimpArgs false
abbrev ValT : Ty := .st (.cons (.int .i64) (.cons .str (.int .u64)))
abbrev AttrT : Ty := .st (.cons .str ValT)
abbrev AttrsT : Ty := .list AttrT
abbrev JoinT : Ty := .st (.cons .str (.cons .str (.cons (.list .str) (.cons (.list .str) (.cons .bool .bool)))))
abbrev Val := Int × List UInt8 × Int
abbrev Attr := List UInt8 × Val
-- last
def lastF : List Attr → List UInt8 → Option Val
  | [], _ => none
  | p :: l, k => match lastF l k with
    | some v => some v
    | none => bif p.1 == k then some p.2 else none
def lastS (l : List Attr) (k : List UInt8) : Tree AV := .leaf (.tup [.d ValT ((lastF l k).getD (0, [], 0)), .d .bool (lastF l k).isSome])
def lastM : Meta := { tab := tab, nargs := 2, res := .tup [.d ValT, .d .bool], cuts := [
  (entry, ⟨[(0, .d AttrsT), (1, .d .str)], []⟩),
  (2, ⟨[(0, .d AttrsT), (1, .d .str), (4, .lit (.ptr 4 0 0)), (6, .d (.int .i64))], [(4, [.cells [.any, .any, .any]])]⟩)] }
noncomputable def last_seg := seg lastM [] Tryz.f40 (bodyOf Tryz.f40)
-- Plain, Same
def plainF (v : Val) : Val := bif v.1 == 1 then (1, v.2.1, 0) else (v.1, [], v.2.2)
def plainM : Meta := { tab := tab, nargs := 1, res := .d ValT, cuts := [(entry, ⟨[(0, .d ValT)], []⟩)] }
noncomputable def plain_seg := seg plainM [] Tryz.f57 (bodyOf Tryz.f57)
def plainS : FnSpec := ⟨[], sp1 ValT fun v => .leaf (.d ValT (plainF v)), some []⟩
def sameF (v w : Val) : Bool := plainF v == plainF w
def sameM : Meta := { tab := tab, nargs := 2, res := .d .bool, cuts := [(entry, ⟨[(0, .d ValT), (1, .d ValT)], []⟩)] }
noncomputable def same_seg := seg sameM [(57, plainS)] Tryz.f34 (bodyOf Tryz.f34)
def sameS : FnSpec := ⟨[], sp2 ValT ValT fun v w => .leaf (.d .bool (sameF v w)), some []⟩
-- SameAttrs
def sameAttrsM : Meta := { tab := tab, nargs := 2, res := .d .bool, cuts := [
  (entry, ⟨[(0, .d AttrsT), (1, .d AttrsT)], []⟩),
  (4, ⟨[(0, .d AttrsT), (1, .d AttrsT), (5, .d (.int .i64))], []⟩)] }
noncomputable def sameAttrs_seg := seg sameAttrsM [(34, sameS)] Tryz.f11 (bodyOf Tryz.f11)
-- much
def muchM : Meta := { tab := tab, nargs := 3, res := .d .bool, cuts := [
  (entry, ⟨[(0, .d .str), (1, .d JoinT), (2, .d AttrsT)], []⟩),
  (4, ⟨[(2, .d AttrsT), (7, .d (.int .i64))], []⟩)] }
noncomputable def much_seg := seg muchM [] Tryz.f6 (bodyOf Tryz.f6)
-- ref Over
def refOverM : Meta := { tab := tab, nargs := 2, res := .d AttrsT, cuts := [
  (entry, ⟨[(0, .d AttrsT), (1, .d AttrsT)], []⟩),
  (3, ⟨[(0, .d AttrsT), (1, .d AttrsT), (5, .own AttrT 5 0), (6, .d (.int .i64))], [(5, [.tok])]⟩),
  (10, ⟨[(1, .d AttrsT), (5, .own AttrT 5 0), (9, .d (.int .i64))], [(5, [.tok])]⟩)] }
def lastSp : FnSpec := ⟨[], sp2 AttrsT .str lastS, some []⟩
noncomputable def refOver_seg := seg refOverM [(40, lastSp)] Tryz.f16 (bodyOf Tryz.f16)
-- join.Over
def overM : Meta := { tab := tab, nargs := 2, res := .d AttrsT, cuts := [
  (entry, ⟨[(0, .d AttrsT), (1, .d AttrsT)], []⟩),
  (4, ⟨[(5, .ms 12 0), (6, .d (.int .i64)), (15, .d AttrsT), (16, .d (.int .i64)), (17, .d (.int .i64))], [(12, [.arr AttrT])]⟩),
  (8, ⟨[(5, .ms 12 0), (6, .d (.int .i64)), (8, .lit (.ptr 8 0 0)), (9, .d .bool), (15, .d AttrsT), (16, .d (.int .i64)), (17, .d (.int .i64)), (22, .d (.int .i64)), (23, .d (.int .i64))], [(12, [.arr AttrT]), (8, [.cells [.d .str, .d (.int .i64), .d .str, .d (.int .u64)]])]⟩)] }
noncomputable def over_seg := seg overM [(30, ⟨[], cloneSpec 48 AttrT, none⟩)] Tryz.f15 (bodyOf Tryz.f15)

/-! ## last -/
theorem last_e (l : List Attr) (k : List UInt8) : last_seg entry [.d AttrsT l, .d .str k] = .leaf (.jump 2 [.d AttrsT l, .d .str k, .d (.int .i64) (IntKind.i64.wrap ((l.length : Int) - 1))]) := by kernel_rfl
theorem last_2 (l : List Attr) (k : List UInt8) (i : Int) : last_seg 2 [.d AttrsT l, .d .str k, .d (.int .i64) i] =
    .br (decide (i ≥ 0)) (.opt AttrT (idx l i) fun c => .br (c.1 == k) (.opt AttrT (idx l i) fun c => .leaf (.done ⟨.tup [.d ValT c.2, .d .bool true], [[], []], []⟩)) (.leaf (.jump 2 [.d AttrsT l, .d .str k, .d (.int .i64) (IntKind.i64.wrap (i - 1))])))
      (.leaf (.done ⟨.tup [.d ValT (0, [], 0), .d .bool false], [[], []], []⟩)) := by kernel_rfl

theorem lastF_append (l : List Attr) (p : Attr) (k : List UInt8) : lastF (l ++ [p]) k = bif p.1 == k then some p.2 else lastF l k := by
  induction l with
  | nil => simp [lastF]
  | cons q l ih =>
    simp only [List.cons_append, lastF, ih]
    cases p.1 == k <;> rfl

theorem last_loop (l : List Attr) (hl : l.length ≤ maxStr) (k : List UInt8) : ∀ j : Nat, j ≤ l.length → Ends last_seg 2 [.d AttrsT l, .d .str k, .d (.int .i64) ((j : Int) - 1)] ⟨.tup [.d ValT ((lastF (l.take j) k).getD (0, [], 0)), .d .bool (lastF (l.take j) k).isSome], [[], []], []⟩
  | 0, _ => by
    refine .done ?_
    rw [last_2]
    simp [lastF]
  | j + 1, hj => by
    have hjl : j < l.length := hj
    have e : ((j + 1 : Nat) : Int) - 1 = (j : Int) := by omega
    have ht : l.take (j + 1) = l.take j ++ [l[j]] := by rw [List.take_add_one, List.getElem?_eq_getElem hjl]; rfl
    rw [ht, lastF_append, e]
    cases hk : l[j].1 == k with
    | true =>
      refine .done ?_
      rw [last_2]
      simp [hk, List.getElem?_eq_getElem hjl]
    | false =>
      refine .jump (j' := 2) (ps' := [.d AttrsT l, .d .str k, .d (.int .i64) ((j : Int) - 1)]) ?_ (last_loop l hl k j (by omega))
      rw [last_2]
      have hw : IntKind.i64.wrap ((j : Int) - 1) = (j : Int) - 1 := wrap_i64 (by omega) (by unfold maxStr at hl; omega)
      simp [hk, List.getElem?_eq_getElem hjl, hw]

theorem last_ok : FSound Tryz.prog 40 lastSp := by
  refine fsound2 (mt := lastM) (env := []) (body := bodyOf Tryz.f40) Tryz.func40 (by kernel_rfl) (by kernel_rfl) tabOk (envOk_nil _) (by kernel_rfl) (by kernel_rfl) fun l k v hl hk hv => ?_
  simp only [lastS, Tree.run_leaf, Option.some.injEq] at hv
  subst hv
  have hn := wfl_list hl
  refine Ends.jump (sg := last_seg) (j' := 2) (ps' := [.d AttrsT l, .d .str k, .d (.int .i64) ((l.length : Int) - 1)]) ?_ ?_
  · rw [last_e]
    have hw : IntKind.i64.wrap ((l.length : Int) - 1) = (l.length : Int) - 1 := wrap_i64 (by omega) (by unfold maxStr at hn; omega)
    simp only [Tree.run_leaf, hw]
  · have := last_loop l hn k l.length (Nat.le_refl _)
    rwa [List.take_length] at this

/-! ## Plain, Same, SameAttrs -/
theorem plain_e (v : Val) : plain_seg entry [.d ValT v] = .br (v.1 == 1) (.leaf (.done ⟨.d ValT (1, v.2.1, 0), [[]], []⟩)) (.leaf (.done ⟨.d ValT (v.1, [], v.2.2), [[]], []⟩)) := by kernel_rfl
theorem plain_ok : FSound Tryz.prog 57 plainS := by
  refine fsound1 (mt := plainM) (env := []) (body := bodyOf Tryz.f57) Tryz.func57 (by kernel_rfl) (by kernel_rfl) tabOk (envOk_nil _) (by kernel_rfl) (by kernel_rfl) fun a v _ hv => ?_
  simp only [Tree.run_leaf, Option.some.injEq] at hv
  subst hv
  refine Ends.done (sg := plain_seg) ?_
  rw [plain_e]
  cases h : a.1 == 1 <;> simp [plainF, h]
theorem same_e (a b : Val) : same_seg entry [.d ValT a, .d ValT b] = .leaf (.done ⟨.d .bool (eqD ValT (plainF a) (plainF b)), [[], []], []⟩) := by kernel_rfl
theorem eqD_val (a b : Val) : eqD ValT a b = (a == b) := by
  obtain ⟨a1, a2, a3⟩ := a
  obtain ⟨b1, b2, b3⟩ := b
  simp only [eqD]
  rfl
theorem same_ok : FSound Tryz.prog 34 sameS := by
  refine fsound2 (mt := sameM) (env := [(57, plainS)]) (body := bodyOf Tryz.f34) Tryz.func34 (by kernel_rfl) (by kernel_rfl) tabOk (envOk_cons plain_ok (envOk_nil _)) (by kernel_rfl) (by kernel_rfl) fun a b v _ _ hv => ?_
  simp only [Tree.run_leaf, Option.some.injEq] at hv
  subst hv
  refine Ends.done (sg := same_seg) ?_
  rw [same_e, eqD_val]
  rfl
def sameAttrsF : List Attr → List Attr → Bool
  | [], [] => true
  | a :: l, b :: r => a.1 == b.1 && sameF a.2 b.2 && sameAttrsF l r
  | _, _ => false
def sameAttrsS : FnSpec := ⟨[], sp2 AttrsT AttrsT fun l r => .leaf (.d .bool (sameAttrsF l r)), some []⟩
theorem sameAttrs_e (l r : List Attr) : sameAttrs_seg entry [.d AttrsT l, .d AttrsT r] = .br ((l.length : Int) != (r.length : Int)) (.leaf (.done ⟨.d .bool false, [[], []], []⟩)) (.leaf (.jump 4 [.d AttrsT l, .d AttrsT r, .d (.int .i64) 0])) := by kernel_rfl
theorem sameAttrs_4 (l r : List Attr) (i : Int) : sameAttrs_seg 4 [.d AttrsT l, .d AttrsT r, .d (.int .i64) i] =
    .br (decide (i < (l.length : Int))) (.opt AttrT (idx l i) fun a => .opt AttrT (idx r i) fun b => .br (!(a.1 == b.1)) (.br (!(a.1 == b.1)) (.leaf (.done ⟨.d .bool false, [[], []], []⟩)) .fail)
      (.opt AttrT (idx l i) fun a2 => .opt AttrT (idx r i) fun b2 => .br (!(a.1 == b.1)) (.leaf (.done ⟨.d .bool false, [[], []], []⟩))
        (.br (!(sameF a2.2 b2.2)) (.leaf (.done ⟨.d .bool false, [[], []], []⟩)) (.leaf (.jump 4 [.d AttrsT l, .d AttrsT r, .d (.int .i64) (IntKind.i64.wrap (i + 1))])))))
      (.leaf (.done ⟨.d .bool true, [[], []], []⟩)) := by kernel_rfl
theorem sameAttrs_loop (l r : List Attr) (hl : l.length ≤ maxStr) (hlr : l.length = r.length) : ∀ (n i : Nat), i + n = l.length → Ends sameAttrs_seg 4 [.d AttrsT l, .d AttrsT r, .d (.int .i64) (i : Int)] ⟨.d .bool (sameAttrsF (l.drop i) (r.drop i)), [[], []], []⟩
  | 0, i, hi => by
    refine .done ?_
    rw [sameAttrs_4, List.drop_eq_nil_of_le (by omega), List.drop_eq_nil_of_le (by omega)]
    have : ¬ ((i : Int) < (l.length : Int)) := by omega
    simp [this, sameAttrsF]
  | n + 1, i, hi => by
    have h1 : i < l.length := by omega
    have h2 : i < r.length := by omega
    have h3 : ((i : Int) < (l.length : Int)) := by omega
    rw [List.drop_eq_getElem_cons h1, List.drop_eq_getElem_cons h2]
    simp only [sameAttrsF]
    cases hk : l[i].1 == r[i].1 with
    | false =>
      refine .done ?_
      rw [sameAttrs_4]
      simp [h3, hk, List.getElem?_eq_getElem h1, List.getElem?_eq_getElem h2]
    | true =>
      cases hv : sameF l[i].2 r[i].2 with
      | false =>
        refine .done ?_
        rw [sameAttrs_4]
        simp [h3, hk, hv, List.getElem?_eq_getElem h1, List.getElem?_eq_getElem h2]
      | true =>
        refine .jump (j' := 4) (ps' := [.d AttrsT l, .d AttrsT r, .d (.int .i64) ((i + 1 : Nat) : Int)]) ?_ ?_
        · rw [sameAttrs_4]
          have hw : IntKind.i64.wrap ((i : Int) + 1) = ((i + 1 : Nat) : Int) := by
            rw [wrap_i64 (by omega) (by unfold maxStr at hl; omega)]; rfl
          simp [h3, hk, hv, List.getElem?_eq_getElem h1, List.getElem?_eq_getElem h2, hw]
        · simpa using sameAttrs_loop l r hl hlr n (i + 1) (by omega)
theorem sameAttrsF_len : ∀ {l r : List Attr}, sameAttrsF l r = true → l.length = r.length
  | [], [], _ => rfl
  | a :: l, b :: r, h => by
    simp only [sameAttrsF, Bool.and_eq_true] at h
    simp [sameAttrsF_len h.2]
theorem sameAttrs_ok : FSound Tryz.prog 11 sameAttrsS := by
  refine fsound2 (mt := sameAttrsM) (env := [(34, sameS)]) (body := bodyOf Tryz.f11) Tryz.func11 (by kernel_rfl) (by kernel_rfl) tabOk (envOk_cons same_ok (envOk_nil _)) (by kernel_rfl) (by kernel_rfl) fun l r v hl _ hv => ?_
  simp only [Tree.run_leaf, Option.some.injEq] at hv
  subst hv
  have hn := wfl_list hl
  by_cases hlr : l.length = r.length
  · refine Ends.jump (sg := sameAttrs_seg) (j' := 4) (ps' := [.d AttrsT l, .d AttrsT r, .d (.int .i64) ((0 : Nat) : Int)]) ?_ ?_
    · rw [sameAttrs_e]
      simp [hlr]
    · have := sameAttrs_loop l r hn hlr l.length 0 (by omega)
      simpa using this
  · refine Ends.done (sg := sameAttrs_seg) ?_
    rw [sameAttrs_e]
    have h1 : ((l.length : Int) != (r.length : Int)) = true := by simpa using fun h => hlr (by omega)
    have h2 : sameAttrsF l r = false := by
      cases h : sameAttrsF l r with
      | false => rfl
      | true => exact absurd (sameAttrsF_len h) hlr
    simp [h1, h2]
end Go.Proofs.Am

namespace Go.Proofs.Am
set_option maxRecDepth 100000
set_option linter.unusedVariables false
set_option linter.unusedSimpArgs false

/-! ## much -/
abbrev Joins := List UInt8 × List UInt8 × List (List UInt8) × List (List UInt8) × Bool × Bool
def big1 (a : Attr) : Bool := decide (IntKind.i64.wrap ((a.1.length : Int) + (a.2.2.1.length : Int)) > 100)
def muchF (s : List UInt8) (j : Joins) (l : List Attr) : Bool :=
  decide ((s.length : Int) > 600) || decide ((j.2.2.1.length : Int) > 20) || decide ((j.2.2.2.1.length : Int) > 20) || decide ((l.length : Int) > 40) || l.any big1
def muchS : FnSpec := ⟨[], sp3 .str JoinT AttrsT fun s j l => .leaf (.d .bool (muchF s j l)), some []⟩
theorem much_e (s : List UInt8) (j : Joins) (l : List Attr) : much_seg entry [.d .str s, .d JoinT j, .d AttrsT l] =
    .br (decide ((s.length : Int) > 600)) (.leaf (.done ⟨.d .bool true, [[], [], []], []⟩)) (.br (decide ((j.2.2.1.length : Int) > 20)) (.leaf (.done ⟨.d .bool true, [[], [], []], []⟩))
      (.br (decide ((j.2.2.2.1.length : Int) > 20)) (.leaf (.done ⟨.d .bool true, [[], [], []], []⟩)) (.br (decide ((l.length : Int) > 40)) (.leaf (.done ⟨.d .bool true, [[], [], []], []⟩)) (.leaf (.jump 4 [.d AttrsT l, .d (.int .i64) 0]))))) := by kernel_rfl
theorem much_4 (l : List Attr) (i : Int) : much_seg 4 [.d AttrsT l, .d (.int .i64) i] =
    .br (decide (i < (l.length : Int))) (.opt AttrT (idx l i) fun a => .opt AttrT (idx l i) fun b => .br (decide (IntKind.i64.wrap ((a.1.length : Int) + (b.2.2.1.length : Int)) > 100)) (.leaf (.done ⟨.d .bool true, [[], [], []], []⟩))
      (.leaf (.jump 4 [.d AttrsT l, .d (.int .i64) (IntKind.i64.wrap (i + 1))])))
      (.leaf (.done ⟨.d .bool false, [[], [], []], []⟩)) := by kernel_rfl
theorem much_loop (l : List Attr) (hl : l.length ≤ maxStr) : ∀ (n i : Nat), i + n = l.length → Ends much_seg 4 [.d AttrsT l, .d (.int .i64) (i : Int)] ⟨.d .bool ((l.drop i).any big1), [[], [], []], []⟩
  | 0, i, hi => by
    refine .done ?_
    rw [much_4, List.drop_eq_nil_of_le (by omega)]
    have : ¬ ((i : Int) < (l.length : Int)) := by omega
    simp [this]
  | n + 1, i, hi => by
    have h1 : i < l.length := by omega
    have h3 : ((i : Int) < (l.length : Int)) := by omega
    rw [List.drop_eq_getElem_cons h1, List.any_cons]
    cases hb : big1 l[i] with
    | true =>
      refine .done ?_
      rw [much_4]
      unfold big1 at hb
      simp only [Tree.run_br, Tree.run_opt, idx_nat, List.getElem?_eq_getElem h1, Option.bind_some, decide_eq_true h3, cond_true, hb, Tree.run_leaf, Bool.true_or]
    | false =>
      refine .jump (j' := 4) (ps' := [.d AttrsT l, .d (.int .i64) ((i + 1 : Nat) : Int)]) ?_ ?_
      · rw [much_4]
        have hw : IntKind.i64.wrap ((i : Int) + 1) = ((i + 1 : Nat) : Int) := by
          rw [wrap_i64 (by omega) (by unfold maxStr at hl; omega)]; rfl
        unfold big1 at hb
        simp only [Tree.run_br, Tree.run_opt, idx_nat, List.getElem?_eq_getElem h1, Option.bind_some, decide_eq_true h3, cond_true, cond_false, hb, Tree.run_leaf, hw]
      · rw [Bool.false_or]
        exact much_loop l hl n (i + 1) (by omega)
theorem much_ok : FSound Tryz.prog 6 muchS := by
  refine fsound3 (mt := muchM) (env := []) (body := bodyOf Tryz.f6) Tryz.func6 (by kernel_rfl) (by kernel_rfl) tabOk (envOk_nil _) (by kernel_rfl) (by kernel_rfl) fun s j l v _ _ hl hv => ?_
  simp only [Tree.run_leaf, Option.some.injEq] at hv
  subst hv
  have hn := wfl_list hl
  cases h1 : decide ((s.length : Int) > 600) with
  | true => exact Ends.done (sg := much_seg) (by rw [much_e]; simp only [Tree.run_br, h1, cond_true, Tree.run_leaf, muchF, Bool.true_or])
  | false =>
  cases h2 : decide ((j.2.2.1.length : Int) > 20) with
  | true => exact Ends.done (sg := much_seg) (by rw [much_e]; simp only [Tree.run_br, h1, h2, cond_true, cond_false, Tree.run_leaf, muchF, Bool.true_or, Bool.false_or])
  | false =>
  cases h3 : decide ((j.2.2.2.1.length : Int) > 20) with
  | true => exact Ends.done (sg := much_seg) (by rw [much_e]; simp only [Tree.run_br, h1, h2, h3, cond_true, cond_false, Tree.run_leaf, muchF, Bool.true_or, Bool.false_or])
  | false =>
  cases h4 : decide ((l.length : Int) > 40) with
  | true => exact Ends.done (sg := much_seg) (by rw [much_e]; simp only [Tree.run_br, h1, h2, h3, h4, cond_true, cond_false, Tree.run_leaf, muchF, Bool.true_or, Bool.false_or])
  | false =>
    refine Ends.jump (sg := much_seg) (j' := 4) (ps' := [.d AttrsT l, .d (.int .i64) ((0 : Nat) : Int)]) ?_ ?_
    · rw [much_e]
      simp only [Tree.run_br, h1, h2, h3, h4, cond_false, Tree.run_leaf]
      rfl
    · have := much_loop l hn l.length 0 (by omega)
      simpa only [muchF, h1, h2, h3, h4, Bool.false_or, List.drop_zero] using this

/-! ## The document's Over -/
def refFirst (l r : List Attr) : List Attr := l.map fun p => (p.1, (lastF r p.1).getD p.2)
def refStep (r out : List Attr) (p : Attr) : List Attr := bif (lastF out p.1).isSome then out else out ++ [(p.1, (lastF r p.1).getD (0, [], 0))]
def refOverF (l r : List Attr) : List Attr := r.foldl (refStep r) (refFirst l r)
def refOverS : FnSpec := ⟨[], sp2 AttrsT AttrsT fun l r => guardT (decide (l.length + r.length ≤ lim 48)) (.leaf (.d AttrsT (refOverF l r))), none⟩
theorem refOver_e (l r : List Attr) : refOver_seg entry [.d AttrsT l, .d AttrsT r] = .leaf (.jump 3 [.d AttrsT l, .d AttrsT r, .own AttrT [] 5 0, .d (.int .i64) 0]) := by kernel_rfl
theorem refOver_3 (l r o : List Attr) (i : Int) : refOver_seg 3 [.d AttrsT l, .d AttrsT r, .own AttrT o 5 0, .d (.int .i64) i] =
    .br (decide (i < (l.length : Int))) (.opt AttrT (idx l i) fun a => .br (!(lastF r a.1).isSome)
        (.opt AttrT (idx l i) fun b => .opt AttrT (idx l i) fun c => .br (decide (o.length + 1 ≤ lim 48)) (.leaf (.jump 3 [.d AttrsT l, .d AttrsT r, .own AttrT (o ++ [(c.1, b.2)]) 5 0, .d (.int .i64) (IntKind.i64.wrap (i + 1))])) .fail)
        (.opt AttrT (idx l i) fun b => .br (decide (o.length + 1 ≤ lim 48)) (.leaf (.jump 3 [.d AttrsT l, .d AttrsT r, .own AttrT (o ++ [(b.1, (lastF r a.1).getD (0, [], 0))]) 5 0, .d (.int .i64) (IntKind.i64.wrap (i + 1))])) .fail))
      (.leaf (.jump 10 [.d AttrsT r, .own AttrT o 5 0, .d (.int .i64) 0])) := by kernel_rfl
theorem refOver_10 (r o : List Attr) (i : Int) : refOver_seg 10 [.d AttrsT r, .own AttrT o 5 0, .d (.int .i64) i] =
    .br (decide (i < (r.length : Int))) (.opt AttrT (idx r i) fun a => .opt AttrT (idx r i) fun b => .br (!(lastF o a.1).isSome)
        (.opt AttrT (idx r i) fun c => .br (decide (o.length + 1 ≤ lim 48)) (.leaf (.jump 10 [.d AttrsT r, .own AttrT (o ++ [(c.1, (lastF r b.1).getD (0, [], 0))]) 5 0, .d (.int .i64) (IntKind.i64.wrap (i + 1))])) .fail)
        (.leaf (.jump 10 [.d AttrsT r, .own AttrT o 5 0, .d (.int .i64) (IntKind.i64.wrap (i + 1))])))
      (.leaf (.done ⟨.d AttrsT o, [[], []], []⟩)) := by kernel_rfl
theorem refStep_len (r out : List Attr) (p : Attr) : (refStep r out p).length ≤ out.length + 1 := by
  unfold refStep
  cases (lastF out p.1).isSome <;> simp
theorem refOver_second (r : List Attr) (hr : r.length ≤ maxStr) : ∀ (n i : Nat) (o : List Attr), i + n = r.length → o.length + n ≤ lim 48 →
    Ends refOver_seg 10 [.d AttrsT r, .own AttrT o 5 0, .d (.int .i64) (i : Int)] ⟨.d AttrsT ((r.drop i).foldl (refStep r) o), [[], []], []⟩
  | 0, i, o, hi, _ => by
    refine .done ?_
    rw [refOver_10, List.drop_eq_nil_of_le (by omega)]
    have : ¬ ((i : Int) < (r.length : Int)) := by omega
    simp [this]
  | n + 1, i, o, hi, hlim => by
    have h1 : i < r.length := by omega
    have h3 : ((i : Int) < (r.length : Int)) := by omega
    have hw : IntKind.i64.wrap ((i : Int) + 1) = ((i + 1 : Nat) : Int) := by
      rw [wrap_i64 (by omega) (by unfold maxStr at hr; omega)]; rfl
    have h4 : o.length + 1 ≤ lim 48 := by omega
    rw [List.drop_eq_getElem_cons h1, List.foldl_cons]
    refine .jump (j' := 10) (ps' := [.d AttrsT r, .own AttrT (refStep r o r[i]) 5 0, .d (.int .i64) ((i + 1 : Nat) : Int)]) ?_ (refOver_second r hr n (i + 1) _ (by omega) (by have := refStep_len r o r[i]; omega))
    rw [refOver_10]
    cases hk : (lastF o r[i].1).isSome <;>
      simp only [Tree.run_br, Tree.run_opt, idx_nat, List.getElem?_eq_getElem h1, Option.bind_some, decide_eq_true h3, decide_eq_true h4, cond_true, cond_false, hk, Bool.not_false, Bool.not_true, Tree.run_leaf, hw, refStep]
theorem refOver_first (l r : List Attr) (hl : l.length ≤ maxStr) (hr : r.length ≤ maxStr) (hlr : l.length + r.length ≤ lim 48) : ∀ (n i : Nat), i + n = l.length →
    Ends refOver_seg 3 [.d AttrsT l, .d AttrsT r, .own AttrT (refFirst (l.take i) r) 5 0, .d (.int .i64) (i : Int)] ⟨.d AttrsT (refOverF l r), [[], []], []⟩
  | 0, i, hi => by
    have e : l.take i = l := List.take_of_length_le (by omega)
    rw [e]
    refine .jump (j' := 10) (ps' := [.d AttrsT r, .own AttrT (refFirst l r) 5 0, .d (.int .i64) ((0 : Nat) : Int)]) ?_ ?_
    · rw [refOver_3]
      have : ¬ ((i : Int) < (l.length : Int)) := by omega
      simp [this]
    · have := refOver_second r hr r.length 0 (refFirst l r) (by omega) (by simpa [refFirst] using hlr)
      simpa [refOverF] using this
  | n + 1, i, hi => by
    have h1 : i < l.length := by omega
    have h3 : ((i : Int) < (l.length : Int)) := by omega
    have hw : IntKind.i64.wrap ((i : Int) + 1) = ((i + 1 : Nat) : Int) := by
      rw [wrap_i64 (by omega) (by unfold maxStr at hl; omega)]; rfl
    have h4 : (refFirst (l.take i) r).length + 1 ≤ lim 48 := by simp [refFirst]; omega
    have ht : refFirst (l.take (i + 1)) r = refFirst (l.take i) r ++ [(l[i].1, (lastF r l[i].1).getD l[i].2)] := by
      have e : l.take (i + 1) = l.take i ++ [l[i]] := by rw [List.take_add_one, List.getElem?_eq_getElem h1]; rfl
      rw [e]
      unfold refFirst
      rw [List.map_append]
      rfl
    refine .jump (j' := 3) (ps' := [.d AttrsT l, .d AttrsT r, .own AttrT (refFirst (l.take (i + 1)) r) 5 0, .d (.int .i64) ((i + 1 : Nat) : Int)]) ?_ (refOver_first l r hl hr hlr n (i + 1) (by omega))
    rw [refOver_3, ht]
    cases hk : lastF r l[i].1 <;>
      simp only [Tree.run_br, Tree.run_opt, idx_nat, List.getElem?_eq_getElem h1, Option.bind_some, decide_eq_true h3, decide_eq_true h4, cond_true, cond_false, hk, Bool.not_false, Bool.not_true, Tree.run_leaf, hw, Option.isSome_some, Option.isSome_none, Option.getD_some, Option.getD_none]
theorem refOver_ok : FSound Tryz.prog 16 refOverS := by
  refine fsound2 (mt := refOverM) (env := [(40, lastSp)]) (body := bodyOf Tryz.f16) Tryz.func16 (by kernel_rfl) (by kernel_rfl) tabOk (envOk_cons last_ok (envOk_nil _)) (by kernel_rfl) (by kernel_rfl) fun l r v hl hr hv => ?_
  simp only [Tree.run_guard, Tree.run_leaf] at hv
  cases hg : decide (l.length + r.length ≤ lim 48) with
  | false => simp [hg] at hv
  | true =>
    simp only [hg, cond_true, Option.some.injEq] at hv
    subst hv
    refine Ends.jump (sg := refOver_seg) (j' := 3) (ps' := [.d AttrsT l, .d AttrsT r, .own AttrT (refFirst (l.take 0) r) 5 0, .d (.int .i64) ((0 : Nat) : Int)]) ?_ (refOver_first l r (wfl_list hl) (wfl_list hr) (of_decide_eq_true hg) l.length 0 (by omega))
    rw [refOver_e]
    rfl

/-! ## Over -/
def upd (a : Attr) : Nat → List Attr → List Attr × Bool
  | _, [] => ([], false)
  | has, p :: ps => bif p.1 == a.1 then (match has with
      | 0 => ((p.1, a.2) :: ps, true)
      | has + 1 => ((p.1, a.2) :: (upd a has ps).1, true))
    else (p :: (upd a (has - 1) ps).1, (upd a (has - 1) ps).2)
def overStep (has : Nat) (out : List Attr) (a : Attr) : List Attr := bif (upd a has out).2 then (upd a has out).1 else (upd a has out).1 ++ [a]
def overF (l r : List Attr) : List Attr := r.foldl (overStep l.length) l
def overS : FnSpec := ⟨[], sp2 AttrsT AttrsT fun l r => guardT (decide (l.length + r.length ≤ lim 48)) (.leaf (.d AttrsT (overF l r))), none⟩
theorem upd_len (a : Attr) : ∀ (has : Nat) (o : List Attr), (upd a has o).1.length = o.length
  | has, [] => rfl
  | has, p :: ps => by
    simp only [upd]
    cases p.1 == a.1 with
    | true => cases has <;> simp [upd_len a]
    | false => simp [upd_len a]
theorem over_e (l r : List Attr) : over_seg entry [.d AttrsT l, .d AttrsT r] =
    .br (decide (l.length ≤ lim 48)) (.leaf (.jump 4 [.d (.int .i64) (l.length : Int), .d AttrsT r, .d (.int .i64) (r.length : Int), .d (.int .i64) 0, .d AttrsT l])) .fail := by kernel_rfl
theorem over_4 (o r : List Attr) (has n i : Int) : over_seg 4 [.d (.int .i64) has, .d AttrsT r, .d (.int .i64) n, .d (.int .i64) i, .d AttrsT o] =
    .br (decide (i < n)) (.opt AttrT (idx r i) fun a => .leaf (.jump 8 [.d (.int .i64) has, .d .bool false, .d AttrsT r, .d (.int .i64) n, .d (.int .i64) i, .d (.int .i64) (o.length : Int), .d (.int .i64) 0, .d AttrsT o, .d .str a.1, .d (.int .i64) a.2.1, .d .str a.2.2.1, .d (.int .u64) a.2.2.2]))
      (.leaf (.done ⟨.d AttrsT o, [[], []], []⟩)) := by kernel_rfl
theorem over_8 (o r : List Attr) (has n i m j : Int) (fd : Bool) (a : Attr) :
    over_seg 8 [.d (.int .i64) has, .d .bool fd, .d AttrsT r, .d (.int .i64) n, .d (.int .i64) i, .d (.int .i64) m, .d (.int .i64) j, .d AttrsT o, .d .str a.1, .d (.int .i64) a.2.1, .d .str a.2.2.1, .d (.int .u64) a.2.2.2] =
    .br (decide (j < m))
      (.br (decide (0 ≤ j) && decide (j < (o.length : Int))) (.opt AttrT o[j.toNat]? fun x => .br (x.1 == a.1)
          (.br (decide (0 ≤ j) && decide (j < (o.length : Int))) (.opt AttrT o[j.toNat]? fun y => .br (decide (j ≥ has))
              (.leaf (.jump 4 [.d (.int .i64) has, .d AttrsT r, .d (.int .i64) n, .d (.int .i64) (IntKind.i64.wrap (i + 1)), .d AttrsT (o.set j.toNat (y.1, a.2))]))
              (.leaf (.jump 8 [.d (.int .i64) has, .d .bool true, .d AttrsT r, .d (.int .i64) n, .d (.int .i64) i, .d (.int .i64) m, .d (.int .i64) (IntKind.i64.wrap (j + 1)), .d AttrsT (o.set j.toNat (y.1, a.2)), .d .str a.1, .d (.int .i64) a.2.1, .d .str a.2.2.1, .d (.int .u64) a.2.2.2]))) .fail)
          (.leaf (.jump 8 [.d (.int .i64) has, .d .bool fd, .d AttrsT r, .d (.int .i64) n, .d (.int .i64) i, .d (.int .i64) m, .d (.int .i64) (IntKind.i64.wrap (j + 1)), .d AttrsT o, .d .str a.1, .d (.int .i64) a.2.1, .d .str a.2.2.1, .d (.int .u64) a.2.2.2]))) .fail)
      (.br (!fd) (.br (decide (o.length + 1 ≤ lim 48)) (.leaf (.jump 4 [.d (.int .i64) has, .d AttrsT r, .d (.int .i64) n, .d (.int .i64) (IntKind.i64.wrap (i + 1)), .d AttrsT (o ++ [a])])) .fail)
        (.leaf (.jump 4 [.d (.int .i64) has, .d AttrsT r, .d (.int .i64) n, .d (.int .i64) (IntKind.i64.wrap (i + 1)), .d AttrsT o]))) := by kernel_rfl

theorem over_inner (r : List Attr) (has : Nat) (n i : Int) (a : Attr) (out : Out) : ∀ (rest pre : List Attr) (fd : Bool), (pre ++ rest).length ≤ maxStr → (pre ++ rest).length + 1 ≤ lim 48 →
    Ends over_seg 4 [.d (.int .i64) (has : Int), .d AttrsT r, .d (.int .i64) n, .d (.int .i64) (IntKind.i64.wrap (i + 1)), .d AttrsT (bif fd || (upd a (has - pre.length) rest).2 then pre ++ (upd a (has - pre.length) rest).1 else pre ++ (upd a (has - pre.length) rest).1 ++ [a])] out →
    Ends over_seg 8 [.d (.int .i64) (has : Int), .d .bool fd, .d AttrsT r, .d (.int .i64) n, .d (.int .i64) i, .d (.int .i64) ((pre ++ rest).length : Int), .d (.int .i64) (pre.length : Int), .d AttrsT (pre ++ rest), .d .str a.1, .d (.int .i64) a.2.1, .d .str a.2.2.1, .d (.int .u64) a.2.2.2] out
  | [], pre, fd, hmax, hlim, h => by
    refine .jump ?_ h
    rw [over_8]
    have h1 : ¬ ((pre.length : Int) < (pre.length : Int)) := by omega
    have h2 : pre.length + 1 ≤ lim 48 := by rw [List.append_nil] at hlim; exact hlim
    cases fd <;> simp only [Tree.run_br, decide_eq_false h1, cond_false, cond_true, Bool.not_false, Bool.not_true, decide_eq_true h2, Tree.run_leaf, upd, Bool.or_false, Bool.true_or, Bool.false_or, List.append_nil]
  | p :: ps, pre, fd, hmax, hlim, h => by
    have hlen : (pre ++ p :: ps).length = pre.length + (ps.length + 1) := by simp
    have h1 : ((pre.length : Int) < ((pre ++ p :: ps).length : Int)) := by omega
    have h2 : (decide (0 ≤ (pre.length : Int)) && decide ((pre.length : Int) < ((pre ++ p :: ps).length : Int))) = true := by simp; omega
    have h3 : (pre ++ p :: ps)[((pre.length : Int)).toNat]? = some p := by simp
    have hw : IntKind.i64.wrap ((pre.length : Int) + 1) = ((pre.length + 1 : Nat) : Int) := by
      rw [wrap_i64 (by omega) (by unfold maxStr at hmax; omega)]; rfl
    have hset : ∀ q : Attr, (pre ++ p :: ps).set ((pre.length : Int)).toNat q = (pre ++ [q]) ++ ps := by intro q; simp
    have hpp : pre ++ p :: ps = (pre ++ [p]) ++ ps := by simp
    have hsub : has - (pre.length + 1) = has - pre.length - 1 := by omega
    cases hk : p.1 == a.1 with
    | true =>
      have hka : p.1 = a.1 := by simpa using hk
      by_cases hh : (pre.length : Int) ≥ (has : Int)
      · have h0 : has - pre.length = 0 := by omega
        rw [h0] at h
        simp only [upd, hk, cond_true, Bool.or_true] at h
        refine .jump ?_ h
        rw [over_8]
        simp only [Tree.run_br, Tree.run_opt, decide_eq_true h1, h2, h3, hk, decide_eq_true hh, cond_true, Option.bind_some, Tree.run_leaf, hset]
        simp
      · obtain ⟨k, hk0⟩ : ∃ k, has - pre.length = k + 1 := ⟨has - pre.length - 1, by omega⟩
        have hk1 : has - (pre ++ [(p.1, a.2)]).length = k := by simp; omega
        rw [hk0] at h
        simp only [upd, hk, cond_true, Bool.or_true] at h
        have ih := over_inner r has n i a out ps (pre ++ [(p.1, a.2)]) true (by simp at hmax ⊢; omega) (by simp at hlim ⊢; omega) (by
          rw [hk1]
          simpa using h)
        refine .jump (j' := 8) ?_ ih
        rw [over_8]
        simp only [Tree.run_br, Tree.run_opt, decide_eq_true h1, h2, h3, hk, decide_eq_false hh, cond_true, cond_false, Option.bind_some, Tree.run_leaf, hset, hw]
        simp
    | false =>
      have hk1 : has - (pre ++ [p]).length = has - pre.length - 1 := by simp; omega
      have ih := over_inner r has n i a out ps (pre ++ [p]) fd (by rw [← hpp]; exact hmax) (by rw [← hpp]; exact hlim) (by
        rw [hk1]
        simp only [upd, hk, cond_false] at h
        simpa using h)
      refine .jump (j' := 8) ?_ ih
      rw [over_8]
      simp only [Tree.run_br, Tree.run_opt, decide_eq_true h1, h2, h3, hk, cond_true, cond_false, Option.bind_some, Tree.run_leaf, hw]
      simp
theorem overStep_len (has : Nat) (o : List Attr) (a : Attr) : (overStep has o a).length ≤ o.length + 1 := by
  unfold overStep
  cases (upd a has o).2 <;> simp [upd_len]
theorem over_loop (r : List Attr) (hr : r.length ≤ maxStr) (has : Nat) : ∀ (n i : Nat) (o : List Attr), i + n = r.length → o.length + n ≤ lim 48 →
    Ends over_seg 4 [.d (.int .i64) (has : Int), .d AttrsT r, .d (.int .i64) (r.length : Int), .d (.int .i64) (i : Int), .d AttrsT o] ⟨.d AttrsT ((r.drop i).foldl (overStep has) o), [[], []], []⟩
  | 0, i, o, hi, _ => by
    refine .done ?_
    rw [over_4, List.drop_eq_nil_of_le (by omega)]
    have : ¬ ((i : Int) < (r.length : Int)) := by omega
    simp [this]
  | n + 1, i, o, hi, hlim => by
    have h1 : i < r.length := by omega
    have h3 : ((i : Int) < (r.length : Int)) := by omega
    have hw : IntKind.i64.wrap ((i : Int) + 1) = ((i + 1 : Nat) : Int) := by
      rw [wrap_i64 (by omega) (by unfold maxStr at hr; omega)]; rfl
    rw [List.drop_eq_getElem_cons h1, List.foldl_cons]
    have ih := over_loop r hr has n (i + 1) (overStep has o r[i]) (by omega) (by have := overStep_len has o r[i]; omega)
    have hin := over_inner r has (r.length : Int) (i : Int) r[i] _ o [] false (by have : lim 48 ≤ maxStr := (by decide); simp; omega) (by simp; omega) (by
      rw [hw]
      simpa [overStep] using ih)
    refine .jump ?_ hin
    rw [over_4]
    simp only [Tree.run_br, Tree.run_opt, idx_nat, List.getElem?_eq_getElem h1, Option.bind_some, decide_eq_true h3, cond_true, Tree.run_leaf]
    rfl
theorem clone_ok : FSound Tryz.prog 30 ⟨[], cloneSpec 48 AttrT, none⟩ :=
  clone_sound tabOk (T := 25) (E := 47) (g := #[{ on := 2, ground := .data }, { on := 2, ground := .chain }, { on := 0, ground := .phase }, { on := 1, ground := .phase }, { on := 2, ground := .phase }]) (t := AttrT) (i := ⟨.struct [(0, 9), (1, 45)], 4, 48, [.d .str [], .d (.int .i64) 0, .d .str [], .d (.int .u64) 0], some AttrT, true⟩) Tryz.func30 (by kernel_rfl) (by kernel_rfl) (by kernel_rfl) (by kernel_rfl) (iT := ⟨.slice 47, 1, 24, [.nil], some AttrsT, false⟩) (by kernel_rfl) (by kernel_rfl) (by kernel_rfl) (by kernel_rfl) (by decide) (by decide) (by decide)
theorem over_ok : FSound Tryz.prog 15 overS := by
  refine fsound2 (mt := overM) (env := [(30, ⟨[], cloneSpec 48 AttrT, none⟩)]) (body := bodyOf Tryz.f15) Tryz.func15 (by kernel_rfl) (by kernel_rfl) tabOk (envOk_cons clone_ok (envOk_nil _)) (by kernel_rfl) (by kernel_rfl) fun l r v hl hr hv => ?_
  simp only [Tree.run_guard, Tree.run_leaf] at hv
  cases hg : decide (l.length + r.length ≤ lim 48) with
  | false => simp [hg] at hv
  | true =>
    simp only [hg, cond_true, Option.some.injEq] at hv
    subst hv
    have hlim := of_decide_eq_true hg
    have h0 : l.length ≤ lim 48 := by omega
    refine Ends.jump (sg := over_seg) ?_ (over_loop r (wfl_list hr) l.length r.length 0 l (by omega) hlim)
    rw [over_e]
    simp only [Tree.run_br, decide_eq_true h0, cond_true, Tree.run_leaf]
    rfl
end Go.Proofs.Am

namespace Go.Proofs.Am
set_option maxRecDepth 100000
set_option linter.unusedVariables false
set_option linter.unusedSimpArgs false
def constS (b : Bool) : FnSpec := ⟨[], fun args fams => match args, fams with | [], [] => .leaf ⟨.d .bool b, [], []⟩ | _, _ => .fail, none⟩
def oversM : Meta := { tab := tab, nargs := 2, res := .d .bool, cuts := [
  (entry, ⟨[(0, .d AttrsT), (1, .d AttrsT)], []⟩),
  (7, ⟨[(0, .d AttrsT), (5, .d AttrsT), (6, .d (.int .i64))], []⟩),
  (12, ⟨[(0, .d AttrsT), (5, .d AttrsT), (6, .d (.int .i64)), (7, .d (.int .i64))], []⟩)] }
def oversE : Env := [(6, muchS), (7, constS true), (15, overS), (16, refOverS), (11, sameAttrsS)]
noncomputable def overs_seg := seg oversM oversE Tryz.f4 (bodyOf Tryz.f4)

/-! ## The plain law -/
def nk (ks : List (List UInt8)) (s : List Attr) : List (List UInt8) := s.foldl (fun acc p => if p.1 ∈ ks ++ acc then acc else acc ++ [p.1]) []
theorem nk_append (ks : List (List UInt8)) (s : List Attr) (a : Attr) : nk ks (s ++ [a]) = if a.1 ∈ ks ++ nk ks s then nk ks s else nk ks s ++ [a.1] := by
  unfold nk
  rw [List.foldl_append]
  rfl
def valF (r : List Attr) (k : List UInt8) : Attr := (k, (lastF r k).getD (0, [], 0))
def outF (l r : List Attr) : List Attr := refFirst l r ++ (nk (l.map (·.1)) r).map (valF r)

theorem lastF_some (k : List UInt8) : ∀ l : List Attr, (lastF l k).isSome = true ↔ k ∈ l.map (·.1)
  | [] => by simp [lastF]
  | p :: l => by
    simp only [lastF, List.map_cons, List.mem_cons]
    cases h : lastF l k with
    | some v =>
      have := (lastF_some k l).1 (by rw [h]; rfl)
      simp [this]
    | none =>
      have h2 : ¬ k ∈ l.map (·.1) := fun hk => by
        have := (lastF_some k l).2 hk
        rw [h] at this
        cases this
      cases hk : p.1 == k with
      | true =>
        have : p.1 = k := by simpa using hk
        simp [this]
      | false =>
        have hne : ¬ p.1 = k := by simpa using hk
        simp only [cond_false, Option.isSome_none, Bool.false_eq_true, false_iff, not_or]
        exact ⟨fun e => hne e.symm, h2⟩

theorem keys_refFirst (l r : List Attr) : (refFirst l r).map (·.1) = l.map (·.1) := by
  simp [refFirst, List.map_map, Function.comp_def]
theorem keys_val (r : List Attr) (ks : List (List UInt8)) : (ks.map (valF r)).map (·.1) = ks := by
  simp [valF, List.map_map, Function.comp_def]

theorem refOver_is (l r : List Attr) : refOverF l r = outF l r := by
  have key : ∀ s t : List Attr, t = s.reverse → t.foldl (refStep r) (refFirst l r) = refFirst l r ++ (nk (l.map (·.1)) t).map (valF r) := by
    intro s
    induction s with
    | nil => intro t ht; subst ht; simp [nk]
    | cons a s ih =>
      intro t ht
      subst ht
      rw [List.reverse_cons, List.foldl_append, ih _ rfl, nk_append]
      simp only [List.foldl_cons, List.foldl_nil, refStep]
      have hiff := lastF_some a.1 (refFirst l r ++ (nk (l.map (·.1)) s.reverse).map (valF r))
      rw [List.map_append, keys_refFirst, keys_val] at hiff
      by_cases h : a.1 ∈ l.map (·.1) ++ nk (l.map (·.1)) s.reverse
      · rw [hiff.2 h, if_pos h]
        rfl
      · have : (lastF (refFirst l r ++ (nk (l.map (·.1)) s.reverse).map (valF r)) a.1).isSome = false := by
          cases hb : (lastF (refFirst l r ++ (nk (l.map (·.1)) s.reverse).map (valF r)) a.1).isSome with
          | false => rfl
          | true => exact absurd (hiff.1 hb) h
        rw [this, if_neg h]
        simp [valF]
  have := key r.reverse r (by simp)
  exact this

def put (a p : Attr) : Attr := bif p.1 == a.1 then (p.1, a.2) else p
theorem upd_zero (a : Attr) : ∀ B : List Attr, (B.map (·.1)).Nodup → upd a 0 B = (B.map (put a), decide (a.1 ∈ B.map (·.1)))
  | [], _ => rfl
  | p :: ps, h => by
    simp only [List.map_cons, List.nodup_cons] at h
    simp only [upd, List.map_cons]
    cases hk : p.1 == a.1 with
    | true =>
      have hka : p.1 = a.1 := by simpa using hk
      simp only [cond_true, put, hk, hka, List.mem_cons, true_or, decide_true, Prod.mk.injEq, List.cons.injEq, and_true, true_and]
      rw [List.map_congr_left (g := id) fun q hq => ?_]
      · simp
      · have : q.1 ≠ a.1 := fun e => h.1 (by rw [hka, ← e]; exact List.mem_map_of_mem hq)
        have : (q.1 == a.1) = false := by simpa using this
        simp [put, this]
    | false =>
      have hka : ¬ a.1 = p.1 := fun e => by rw [e] at hk; simp at hk
      have ih := upd_zero a ps h.2
      simp only [cond_false, Nat.zero_sub, ih, put, hk, List.mem_cons, hka, false_or]
theorem upd_split (a : Attr) (B : List Attr) : ∀ A : List Attr, upd a A.length (A ++ B) = (A.map (put a) ++ (upd a 0 B).1, decide (a.1 ∈ A.map (·.1)) || (upd a 0 B).2)
  | [] => by simp
  | p :: A => by
    have ih := upd_split a B A
    simp only [List.length_cons, List.cons_append, upd, Nat.add_sub_cancel, ih, List.map_cons]
    cases hk : p.1 == a.1 with
    | true =>
      have hka : a.1 = p.1 := by have : p.1 = a.1 := by simpa using hk
                                 exact this.symm
      simp [put, hk, hka]
    | false =>
      have hka : ¬ a.1 = p.1 := fun e => by rw [e] at hk; simp at hk
      simp only [cond_false, put, hk, List.mem_cons, hka, false_or, Nat.succ_sub_one, ih]

theorem nk_nodup (ks : List (List UInt8)) : ∀ s : List Attr, (nk ks s.reverse).Nodup
  | [] => by simp [nk]
  | a :: s => by
    rw [List.reverse_cons, nk_append]
    have ih := nk_nodup ks s
    split
    · exact ih
    · rename_i h
      rw [List.nodup_append]
      refine ⟨ih, by simp, fun x hx y hy e => ?_⟩
      simp only [List.mem_singleton] at hy
      subst hy; subst e
      exact h (List.mem_append_right _ hx)
theorem nk_nodup' (ks : List (List UInt8)) (s : List Attr) : (nk ks s).Nodup := by
  have := nk_nodup ks s.reverse
  rwa [List.reverse_reverse] at this

theorem put_first (l s : List Attr) (a : Attr) : (refFirst l s).map (put a) = refFirst l (s ++ [a]) := by
  unfold refFirst
  rw [List.map_map]
  refine List.map_congr_left fun p hp => ?_
  simp only [Function.comp_apply, put, lastF_append]
  cases hk : p.1 == a.1 with
  | true =>
    have : p.1 = a.1 := by simpa using hk
    simp [this]
  | false =>
    have : (a.1 == p.1) = false := by
      have : ¬ p.1 = a.1 := by simpa using hk
      simpa using fun e => this e.symm
    simp [this]
theorem put_val (s : List Attr) (a : Attr) (ks : List (List UInt8)) : (ks.map (valF s)).map (put a) = ks.map (valF (s ++ [a])) := by
  rw [List.map_map]
  refine List.map_congr_left fun k hp => ?_
  simp only [Function.comp_apply, put, valF, lastF_append]
  cases hk : k == a.1 with
  | true =>
    have : k = a.1 := by simpa using hk
    simp [this]
  | false =>
    have : (a.1 == k) = false := by
      have : ¬ k = a.1 := by simpa using hk
      simpa using fun e => this e.symm
    simp [this]

theorem overStep_is (l s : List Attr) (a : Attr) : overStep l.length (outF l s) a = outF l (s ++ [a]) := by
  have hlen : l.length = (refFirst l s).length := by simp [refFirst]
  have hB : ((nk (l.map (·.1)) s).map (valF s)).map (·.1) = nk (l.map (·.1)) s := keys_val _ _
  have hupd : upd a l.length (outF l s) = (refFirst l (s ++ [a]) ++ (nk (l.map (·.1)) s).map (valF (s ++ [a])), decide (a.1 ∈ l.map (·.1) ++ nk (l.map (·.1)) s)) := by
    unfold outF
    rw [hlen, upd_split, upd_zero _ _ (by rw [hB]; exact nk_nodup' _ _), put_first, put_val, keys_refFirst, hB]
    simp only [List.mem_append, Prod.mk.injEq, true_and]
    rw [← Bool.decide_or]
  unfold overStep
  rw [hupd]
  unfold outF
  rw [nk_append]
  by_cases h : a.1 ∈ l.map (·.1) ++ nk (l.map (·.1)) s
  · rw [if_pos h, decide_eq_true h]
    rfl
  · rw [if_neg h, decide_eq_false h]
    simp [valF, lastF_append]

theorem over_is (l r : List Attr) : overF l r = outF l r := by
  have key : ∀ s t : List Attr, t = s.reverse → t.foldl (overStep l.length) l = outF l t := by
    intro s
    induction s with
    | nil =>
      intro t ht
      subst ht
      simp [outF, refFirst, nk, lastF]
    | cons a s ih =>
      intro t ht
      subst ht
      rw [List.reverse_cons, List.foldl_append, ih _ rfl]
      exact overStep_is l _ a
  exact key r.reverse r (by simp)

theorem same_self_val (v : Val) : sameF v v = true := by simp [sameF]
theorem sameAttrs_self : ∀ l : List Attr, sameAttrsF l l = true
  | [] => rfl
  | a :: l => by simp [sameAttrsF, same_self_val, sameAttrs_self l]

theorem outF_len (l r : List Attr) : (outF l r).length = l.length + (nk (l.map (·.1)) r).length := by simp [outF, refFirst]
theorem outF_le (l r : List Attr) : l.length ≤ (outF l r).length ∧ (outF l r).length ≤ l.length + r.length := by
  have hnk : (nk (l.map (·.1)) r).length ≤ r.length := by
    have : ∀ (s : List Attr), (nk (l.map (·.1)) s.reverse).length ≤ s.length := by
      intro s
      induction s with
      | nil => simp [nk]
      | cons a s ih =>
        rw [List.reverse_cons, nk_append]
        split
        · simp; omega
        · simp; omega
    have := this r.reverse
    simpa using this
  have hlen := outF_len l r
  omega
theorem outF_first (l r : List Attr) (i : Nat) (h : i < l.length) (h' : i < (outF l r).length) : (outF l r)[i].1 = l[i].1 := by
  simp only [outF]
  rw [List.getElem_append_left (by simpa [refFirst] using h)]
  simp [refFirst]
theorem outF_more (l r : List Attr) (i : Nat) (h : l.length ≤ i) (h' : i < (outF l r).length) : (outF l r)[i].1 = (nk (l.map (·.1)) r)[i - l.length]'(by rw [outF_len] at h'; omega) := by
  have hl : (refFirst l r).length = l.length := by simp [refFirst]
  simp only [outF]
  rw [List.getElem_append_right (by rw [hl]; exact h)]
  simp [hl, valF]
theorem outF_apart (l r : List Attr) (k i : Nat) (h : l.length ≤ k) (hki : k < i) (h' : i < (outF l r).length) : (outF l r)[k].1 ≠ (outF l r)[i].1 := by
  rw [outF_more l r k h (by omega), outF_more l r i (by omega) h']
  intro e
  have := (List.getElem_inj (nk_nodup' _ _)).1 e
  omega

/-! ## The statement's function -/
theorem overs_e (l r : List Attr) : overs_seg entry [.d AttrsT l, .d AttrsT r] =
    .br (muchF [] ([], [], [], [], false, false) l) (.leaf (.done ⟨.d .bool true, [[], []], []⟩)) (.br (muchF [] ([], [], [], [], false, false) r) (.leaf (.done ⟨.d .bool true, [[], []], []⟩))
      (.br (decide (l.length + r.length ≤ lim 48)) (.br (decide (l.length + r.length ≤ lim 48)) (.br (!sameAttrsF (overF l r) (refOverF l r)) (.leaf (.done ⟨.d .bool false, [[], []], []⟩))
        (.br (decide (((overF l r).length : Int) < (l.length : Int))) (.leaf (.done ⟨.d .bool false, [[], []], []⟩)) (.leaf (.jump 7 [.d AttrsT l, .d AttrsT (overF l r), .d (.int .i64) 0])))) .fail) .fail)) := by kernel_rfl
theorem overs_7 (l a : List Attr) (i : Int) : overs_seg 7 [.d AttrsT l, .d AttrsT a, .d (.int .i64) i] =
    .br (decide (i < (a.length : Int))) (.br (decide (i < (l.length : Int)))
        (.opt AttrT (idx a i) fun x => .opt AttrT (idx l i) fun y => .br (decide (i < (l.length : Int))) (.br (!(x.1 == y.1)) (.leaf (.done ⟨.d .bool false, [[], []], []⟩)) (.leaf (.jump 12 [.d AttrsT l, .d AttrsT a, .d (.int .i64) i, .d (.int .i64) (l.length : Int)])))
          (.leaf (.jump 12 [.d AttrsT l, .d AttrsT a, .d (.int .i64) i, .d (.int .i64) (l.length : Int)])))
        (.br (decide (i < (l.length : Int))) .fail (.leaf (.jump 12 [.d AttrsT l, .d AttrsT a, .d (.int .i64) i, .d (.int .i64) (l.length : Int)]))))
      (.leaf (.done ⟨.d .bool true, [[], []], []⟩)) := by kernel_rfl
theorem overs_12 (l a : List Attr) (i k : Int) : overs_seg 12 [.d AttrsT l, .d AttrsT a, .d (.int .i64) i, .d (.int .i64) k] =
    .br (decide (k < i)) (.opt AttrT (idx a k) fun x => .opt AttrT (idx a i) fun y => .br (x.1 == y.1) (.leaf (.done ⟨.d .bool false, [[], []], []⟩)) (.leaf (.jump 12 [.d AttrsT l, .d AttrsT a, .d (.int .i64) i, .d (.int .i64) (IntKind.i64.wrap (k + 1))])))
      (.leaf (.jump 7 [.d AttrsT l, .d AttrsT a, .d (.int .i64) (IntKind.i64.wrap (i + 1))])) := by kernel_rfl

theorem overs_inner (l a : List Attr) (i : Nat) (ha : a.length ≤ maxStr) (hi : i < a.length) (hap : ∀ (k : Nat) (h : k < i), l.length ≤ k → a[k].1 ≠ a[i].1) (out : Out) (h7 : Ends overs_seg 7 [.d AttrsT l, .d AttrsT a, .d (.int .i64) ((i + 1 : Nat) : Int)] out) :
    ∀ (n k : Nat), l.length ≤ k → (k + n = i ∨ (n = 0 ∧ i ≤ k)) → Ends overs_seg 12 [.d AttrsT l, .d AttrsT a, .d (.int .i64) (i : Int), .d (.int .i64) (k : Int)] out
  | 0, k, hlk, hk => by
    refine .jump ?_ h7
    rw [overs_12]
    have h1 : ¬ ((k : Int) < (i : Int)) := by omega
    have hw : IntKind.i64.wrap ((i : Int) + 1) = ((i + 1 : Nat) : Int) := by
      rw [wrap_i64 (by omega) (by unfold maxStr at ha; omega)]; rfl
    simp only [Tree.run_br, decide_eq_false h1, cond_false, Tree.run_leaf, hw]
  | n + 1, k, hlk, hk => by
    have hki : k < i := by omega
    have h1 : ((k : Int) < (i : Int)) := by omega
    have hw : IntKind.i64.wrap ((k : Int) + 1) = ((k + 1 : Nat) : Int) := by
      rw [wrap_i64 (by omega) (by unfold maxStr at ha; omega)]; rfl
    have hne : (a[k].1 == a[i].1) = false := by simpa using hap k hki hlk
    refine .jump (j' := 12) ?_ (overs_inner l a i ha hi hap out h7 n (k + 1) (by omega) (by omega))
    rw [overs_12]
    simp only [Tree.run_br, Tree.run_opt, idx_nat, List.getElem?_eq_getElem hi, List.getElem?_eq_getElem (show k < a.length by omega), Option.bind_some, decide_eq_true h1, hne, cond_true, cond_false, Tree.run_leaf, hw]

theorem overs_loop (l a : List Attr) (ha : a.length ≤ maxStr) (hla : l.length ≤ a.length) (hfst : ∀ (i : Nat) (h : i < l.length), (a[i]'(by omega)).1 = l[i].1) (hap : ∀ (k i : Nat) (h : k < i) (hi : i < a.length), l.length ≤ k → (a[k]'(by omega)).1 ≠ a[i].1) :
    ∀ (n i : Nat), i + n = a.length → Ends overs_seg 7 [.d AttrsT l, .d AttrsT a, .d (.int .i64) (i : Int)] ⟨.d .bool true, [[], []], []⟩
  | 0, i, hi => by
    refine .done ?_
    rw [overs_7]
    have h1 : ¬ ((i : Int) < (a.length : Int)) := by omega
    simp only [Tree.run_br, decide_eq_false h1, cond_false, Tree.run_leaf]
  | n + 1, i, hi => by
    have h0 : i < a.length := by omega
    have h1 : ((i : Int) < (a.length : Int)) := by omega
    have ih := overs_loop l a ha hla hfst hap n (i + 1) (by omega)
    have h12 : Ends overs_seg 12 [.d AttrsT l, .d AttrsT a, .d (.int .i64) (i : Int), .d (.int .i64) (l.length : Int)] ⟨.d .bool true, [[], []], []⟩ :=
      overs_inner l a i ha h0 (fun k h hk => hap k i h h0 hk) _ ih (i - l.length) l.length (Nat.le_refl _) (by omega)
    refine .jump (j' := 12) ?_ h12
    rw [overs_7]
    by_cases hil : i < l.length
    · have h2 : ((i : Int) < (l.length : Int)) := by omega
      have h3 : ((a[i]'h0).1 == l[i].1) = true := by simpa using hfst i hil
      simp only [Tree.run_br, Tree.run_opt, idx_nat, List.getElem?_eq_getElem h0, List.getElem?_eq_getElem hil, Option.bind_some, decide_eq_true h1, decide_eq_true h2, h3, Bool.not_true, cond_true, cond_false, Tree.run_leaf]
    · have h2 : ¬ ((i : Int) < (l.length : Int)) := by omega
      simp only [Tree.run_br, decide_eq_true h1, decide_eq_false h2, cond_true, cond_false, Tree.run_leaf]

def oversS : FnSpec := ⟨[], sp2 AttrsT AttrsT fun _ _ => .leaf (.d .bool true), none⟩
theorem much_short {l : List Attr} (h : muchF [] ([], [], [], [], false, false) l = false) : l.length ≤ 40 := by
  simp only [muchF, Bool.or_eq_false_iff, decide_eq_false_iff_not] at h
  omega
theorem overs_ok (hlive : FSound Tryz.prog 7 (constS true)) : FSound Tryz.prog 4 oversS := by
  refine fsound2 (mt := oversM) (env := oversE) (body := bodyOf Tryz.f4) Tryz.func4 (by kernel_rfl) (by kernel_rfl) tabOk (envOk_cons much_ok (envOk_cons hlive (envOk_cons over_ok (envOk_cons refOver_ok (envOk_cons sameAttrs_ok (envOk_nil _)))))) (by kernel_rfl) (by kernel_rfl) fun l r v _ _ hv => ?_
  simp only [Tree.run_leaf, Option.some.injEq] at hv
  subst hv
  cases h1 : muchF [] ([], [], [], [], false, false) l with
  | true => exact Ends.done (sg := overs_seg) (by rw [overs_e]; simp only [Tree.run_br, h1, cond_true, Tree.run_leaf])
  | false =>
  cases h2 : muchF [] ([], [], [], [], false, false) r with
  | true => exact Ends.done (sg := overs_seg) (by rw [overs_e]; simp only [Tree.run_br, h1, h2, cond_true, cond_false, Tree.run_leaf])
  | false =>
    have hl := much_short h1
    have hr := much_short h2
    have hlim : l.length + r.length ≤ lim 48 := by have : 80 ≤ lim 48 := by decide
                                                   omega
    have hlen := outF_le l r
    refine Ends.jump (sg := overs_seg) (j' := 7) (ps' := [.d AttrsT l, .d AttrsT (outF l r), .d (.int .i64) ((0 : Nat) : Int)]) ?_
      (overs_loop l (outF l r) (by unfold maxStr; omega) hlen.1 (fun i h => outF_first l r i h (by omega)) (fun k i h hi hk => outF_apart l r k i hk h hi) (outF l r).length 0 (by omega))
    rw [overs_e]
    have h3 : ¬ (((outF l r).length : Int) < (l.length : Int)) := by omega
    simp only [Tree.run_br, h1, h2, cond_false, decide_eq_true hlim, cond_true, over_is, refOver_is, sameAttrs_self, Bool.not_true, decide_eq_false h3, Tree.run_leaf]
    rfl
end Go.Proofs.Am

namespace Go.Proofs.Am
open Go.RowKit
set_option maxRecDepth 100000
theorem live_is : FSound Tryz.prog 7 (constS true) := live_ok
theorem overs_call (W : World) (a b : List Attr) (v0 v1 : Value) (h0 : ARep (wmem W) (fun _ _ => .no) (.d AttrsT a) v0) (h1 : ARep (wmem W) (fun _ _ => .no) (.d AttrsT b) v1) :
    Calls Tryz.prog 4 #[v0, v1] W fun e W' => e = .returned (.bool true) ∧ Below W.heap.size W W' := by
  have hs : (sp2 AttrsT AttrsT (fun _ _ => .leaf (.d .bool true)) [.d AttrsT a, .d AttrsT b] [[], []]).run = some ⟨.d .bool true, [[], []], []⟩ := by kernel_rfl
  have hb : Tryz.f4.body = some (bodyOf Tryz.f4) := by kernel_rfl
  have hfam : ∀ s : Nat, famRes [[], []] s = [] := fun s => by unfold famRes; match s with | 0 => rfl | 1 => rfl | s + 2 => rfl
  exact calls_bool (vs := [v0, v1]) Tryz.func4 (by kernel_rfl) hb (overs_ok live_is) (.cons h0 (.cons h1 .nil)) hfam hs
end Go.Proofs.Am
