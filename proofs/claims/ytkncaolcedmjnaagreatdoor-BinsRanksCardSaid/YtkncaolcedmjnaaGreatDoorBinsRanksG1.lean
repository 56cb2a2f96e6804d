/- What the functions that the law comes to compute, as plain functions with fuel, and that calls of them return it: part 1. -/
import Derived.Test.YtkncaolcedmjnaaGreatDoorTk15
import Derived.Test.YtkncaolcedmjnaaGreatDoorProg
open Go Go.RowKit TK
open Go.Proofs
set_option maxRecDepth 100000
namespace TK

theorem u22 : Tryz.prog.underlying 22 = some (.slice 9) := by kernel_rfl
theorem u23 : Tryz.prog.underlying 23 = some (.slice 2) := by kernel_rfl
theorem u50 : Tryz.prog.underlying 50 = some (.slice 58) := by kernel_rfl
theorem u24 : Tryz.prog.underlying 24 = some (.slice 52) := by kernel_rfl
theorem z26 : zinfo Tryz.prog 26 = some (.agg #[.string ⟨#[]⟩, .slice none 0 0, .int .i64 0, .slice none 0 0, .slice none 0 0], 5, 96) := by kernel_rfl
theorem g26 : aggSz Tryz.prog 26 = some (true, 5) := by kernel_rfl
theorem z147 : zinfo Tryz.prog 147 = some (.agg #[.slice none 0 0, .slice none 0 0, .int .i64 0, .slice none 0 0, .slice none 0 0], 5, 104) := by kernel_rfl
theorem z70 : zinfo Tryz.prog 70 = some (.agg #[.slice none 0 0, .slice none 0 0], 2, 48) := by kernel_rfl
theorem z138 : zinfo Tryz.prog 138 = some (.agg #[.int .i64 0, .int .i64 0, .int .i64 0], 3, 24) := by kernel_rfl
theorem g138 : aggSz Tryz.prog 138 = some (true, 3) := by kernel_rfl
theorem u198 : Tryz.prog.underlying 198 = some (.slice 197) := by kernel_rfl
theorem e115 : Go.Proofs.Enters Tryz.prog 115 := Go.Proofs.enters_of Tryz.func115 (by kernel_rfl) rfl
theorem z197 : zinfo Tryz.prog 197 = some (.agg #[.int .i64 0, .nilFunc], 2, 16) := by kernel_rfl
theorem g197 : aggSz Tryz.prog 197 = some (true, 2) := by kernel_rfl
theorem o197_1 : fieldOff Tryz.prog 197 1 = some 1 := by kernel_rfl
theorem g27 : aggSz Tryz.prog 27 = some (false, 1) := by kernel_rfl
theorem e116 : Go.Proofs.Enters Tryz.prog 116 := Go.Proofs.enters_of Tryz.func116 (by kernel_rfl) rfl
theorem o26_0 : fieldOff Tryz.prog 26 0 = some 0 := by kernel_rfl
theorem g9 : aggSz Tryz.prog 9 = some (false, 1) := by kernel_rfl
theorem u9 : Tryz.prog.underlying 9 = some (.string) := by kernel_rfl
theorem e172 : Go.Proofs.Enters Tryz.prog 172 := Go.Proofs.enters_of Tryz.func172 (by kernel_rfl) rfl
theorem e117 : Go.Proofs.Enters Tryz.prog 117 := Go.Proofs.enters_of Tryz.func117 (by kernel_rfl) rfl
theorem o197_0 : fieldOff Tryz.prog 197 0 = some 0 := by kernel_rfl
theorem g136 : aggSz Tryz.prog 136 = some (false, 1) := by kernel_rfl
theorem e118 : Go.Proofs.Enters Tryz.prog 118 := Go.Proofs.enters_of Tryz.func118 (by kernel_rfl) rfl
theorem o26_1 : fieldOff Tryz.prog 26 1 = some 1 := by kernel_rfl
theorem g22 : aggSz Tryz.prog 22 = some (false, 1) := by kernel_rfl
theorem o138_0 : fieldOff Tryz.prog 138 0 = some 0 := by kernel_rfl
theorem u98 : Tryz.prog.underlying 98 = some (.map 9 3) := by kernel_rfl
theorem z98 : zinfo Tryz.prog 98 = some (.map none, 1, 8) := by kernel_rfl
theorem g98 : aggSz Tryz.prog 98 = some (false, 1) := by kernel_rfl
theorem z9 : zinfo Tryz.prog 9 = some (.string ⟨#[]⟩, 1, 16) := by kernel_rfl
theorem kt9 : KeyT Tryz.prog 9 (fun a : ByteArray => .string a) := KeyT.str u9
theorem z3 : zinfo Tryz.prog 3 = some (.int .i64 0, 1, 8) := by kernel_rfl
theorem e119 : Go.Proofs.Enters Tryz.prog 119 := Go.Proofs.enters_of Tryz.func119 (by kernel_rfl) rfl
theorem e120 : Go.Proofs.Enters Tryz.prog 120 := Go.Proofs.enters_of Tryz.func120 (by kernel_rfl) rfl
theorem e121 : Go.Proofs.Enters Tryz.prog 121 := Go.Proofs.enters_of Tryz.func121 (by kernel_rfl) rfl
theorem o26_2 : fieldOff Tryz.prog 26 2 = some 2 := by kernel_rfl
theorem g3 : aggSz Tryz.prog 3 = some (false, 1) := by kernel_rfl
theorem e122 : Go.Proofs.Enters Tryz.prog 122 := Go.Proofs.enters_of Tryz.func122 (by kernel_rfl) rfl
theorem o26_3 : fieldOff Tryz.prog 26 3 = some 3 := by kernel_rfl
theorem g23 : aggSz Tryz.prog 23 = some (false, 1) := by kernel_rfl
theorem e123 : Go.Proofs.Enters Tryz.prog 123 := Go.Proofs.enters_of Tryz.func123 (by kernel_rfl) rfl
theorem o26_4 : fieldOff Tryz.prog 26 4 = some 4 := by kernel_rfl
theorem g24 : aggSz Tryz.prog 24 = some (false, 1) := by kernel_rfl
theorem z52 : zinfo Tryz.prog 52 = some (.agg #[.int .i64 0, .slice none 0 0], 2, 32) := by kernel_rfl
theorem g52 : aggSz Tryz.prog 52 = some (true, 2) := by kernel_rfl
theorem e173 : Go.Proofs.Enters Tryz.prog 173 := Go.Proofs.enters_of Tryz.func173 (by kernel_rfl) rfl
theorem o52_0 : fieldOff Tryz.prog 52 0 = some 0 := by kernel_rfl
theorem e174 : Go.Proofs.Enters Tryz.prog 174 := Go.Proofs.enters_of Tryz.func174 (by kernel_rfl) rfl
theorem o52_1 : fieldOff Tryz.prog 52 1 = some 1 := by kernel_rfl
theorem g50 : aggSz Tryz.prog 50 = some (false, 1) := by kernel_rfl
theorem z58 : zinfo Tryz.prog 58 = some (.agg #[.int .u8 0, .int .i64 0, .int .i64 0, .float .f64 0, .slice none 0 0, .int .u8 0, .int .i64 0, .int .i64 0], 8, 80) := by kernel_rfl
theorem g58 : aggSz Tryz.prog 58 = some (true, 8) := by kernel_rfl
theorem o58_0 : fieldOff Tryz.prog 58 0 = some 0 := by kernel_rfl
theorem g53 : aggSz Tryz.prog 53 = some (false, 1) := by kernel_rfl
theorem z4 : zinfo Tryz.prog 4 = some (.bool false, 1, 1) := by kernel_rfl
theorem g4 : aggSz Tryz.prog 4 = some (false, 1) := by kernel_rfl
theorem e212 : Go.Proofs.Enters Tryz.prog 212 := Go.Proofs.enters_of Tryz.func212 (by kernel_rfl) rfl
theorem e213 : Go.Proofs.Enters Tryz.prog 213 := Go.Proofs.enters_of Tryz.func213 (by kernel_rfl) rfl
theorem o58_3 : fieldOff Tryz.prog 58 3 = some 3 := by kernel_rfl
theorem g54 : aggSz Tryz.prog 54 = some (false, 1) := by kernel_rfl
theorem xb104 : isF64bits Tryz.prog 104 := f64bits_of Tryz.func104 (by kernel_rfl) (by kernel_rfl) (by kernel_rfl) (by kernel_rfl)
theorem o58_2 : fieldOff Tryz.prog 58 2 = some 2 := by kernel_rfl
theorem o58_4 : fieldOff Tryz.prog 58 4 = some 4 := by kernel_rfl
theorem g55 : aggSz Tryz.prog 55 = some (false, 1) := by kernel_rfl
theorem u55 : Tryz.prog.underlying 55 = some (.slice 3) := by kernel_rfl
theorem o58_5 : fieldOff Tryz.prog 58 5 = some 5 := by kernel_rfl
theorem g56 : aggSz Tryz.prog 56 = some (false, 1) := by kernel_rfl
theorem o58_6 : fieldOff Tryz.prog 58 6 = some 6 := by kernel_rfl
theorem o58_7 : fieldOff Tryz.prog 58 7 = some 7 := by kernel_rfl
theorem o58_1 : fieldOff Tryz.prog 58 1 = some 1 := by kernel_rfl
theorem g2 : aggSz Tryz.prog 2 = some (false, 1) := by kernel_rfl
theorem e214 : Go.Proofs.Enters Tryz.prog 214 := Go.Proofs.enters_of Tryz.func214 (by kernel_rfl) rfl
theorem e215 : Go.Proofs.Enters Tryz.prog 215 := Go.Proofs.enters_of Tryz.func215 (by kernel_rfl) rfl
theorem e216 : Go.Proofs.Enters Tryz.prog 216 := Go.Proofs.enters_of Tryz.func216 (by kernel_rfl) rfl
theorem e217 : Go.Proofs.Enters Tryz.prog 217 := Go.Proofs.enters_of Tryz.func217 (by kernel_rfl) rfl
theorem e218 : Go.Proofs.Enters Tryz.prog 218 := Go.Proofs.enters_of Tryz.func218 (by kernel_rfl) rfl
theorem e219 : Go.Proofs.Enters Tryz.prog 219 := Go.Proofs.enters_of Tryz.func219 (by kernel_rfl) rfl
theorem e220 : Go.Proofs.Enters Tryz.prog 220 := Go.Proofs.enters_of Tryz.func220 (by kernel_rfl) rfl
theorem e175 : Go.Proofs.Enters Tryz.prog 175 := Go.Proofs.enters_of Tryz.func175 (by kernel_rfl) rfl
theorem e129 : Go.Proofs.Enters Tryz.prog 129 := Go.Proofs.enters_of Tryz.func129 (by kernel_rfl) rfl
theorem e128 : Go.Proofs.Enters Tryz.prog 128 := Go.Proofs.enters_of Tryz.func128 (by kernel_rfl) rfl
theorem u88 : Tryz.prog.underlying 88 = some (.slice 4) := by kernel_rfl
theorem e77 : Go.Proofs.Enters Tryz.prog 77 := Go.Proofs.enters_of Tryz.func77 (by kernel_rfl) rfl
theorem e124 : Go.Proofs.Enters Tryz.prog 124 := Go.Proofs.enters_of Tryz.func124 (by kernel_rfl) rfl
theorem u182 : Tryz.prog.underlying 182 = some (.int .u64) := by kernel_rfl
theorem u277 : Tryz.prog.underlying 277 = some (.int .u32) := by kernel_rfl
theorem e177 : Go.Proofs.Enters Tryz.prog 177 := Go.Proofs.enters_of Tryz.func177 (by kernel_rfl) rfl
theorem e178 : Go.Proofs.Enters Tryz.prog 178 := Go.Proofs.enters_of Tryz.func178 (by kernel_rfl) rfl
theorem u155 : Tryz.prog.underlying 155 = some (.slice 277) := by kernel_rfl
theorem z277 : zinfo Tryz.prog 277 = some (.int .u32 0, 1, 4) := by kernel_rfl
theorem g277 : aggSz Tryz.prog 277 = some (false, 1) := by kernel_rfl
theorem e176 : Go.Proofs.Enters Tryz.prog 176 := Go.Proofs.enters_of Tryz.func176 (by kernel_rfl) rfl
theorem e125 : Go.Proofs.Enters Tryz.prog 125 := Go.Proofs.enters_of Tryz.func125 (by kernel_rfl) rfl
theorem z2 : zinfo Tryz.prog 2 = some (.int .i64 0, 1, 8) := by kernel_rfl
theorem u2 : Tryz.prog.underlying 2 = some (.int .i64) := by kernel_rfl
theorem e179 : Go.Proofs.Enters Tryz.prog 179 := Go.Proofs.enters_of Tryz.func179 (by kernel_rfl) rfl
theorem u202 : Tryz.prog.underlying 202 = some (.slice 155) := by kernel_rfl
theorem z155 : zinfo Tryz.prog 155 = some (.slice none 0 0, 1, 24) := by kernel_rfl
theorem fol : Tryz.prog.follows .mixedOrders = true := by kernel_rfl
theorem g155 : aggSz Tryz.prog 155 = some (false, 1) := by kernel_rfl
theorem e181 : Go.Proofs.Enters Tryz.prog 181 := Go.Proofs.enters_of Tryz.func181 (by kernel_rfl) rfl
theorem e180 : Go.Proofs.Enters Tryz.prog 180 := Go.Proofs.enters_of Tryz.func180 (by kernel_rfl) rfl
theorem e126 : Go.Proofs.Enters Tryz.prog 126 := Go.Proofs.enters_of Tryz.func126 (by kernel_rfl) rfl
theorem e127 : Go.Proofs.Enters Tryz.prog 127 := Go.Proofs.enters_of Tryz.func127 (by kernel_rfl) rfl
theorem e75 : Go.Proofs.Enters Tryz.prog 75 := Go.Proofs.enters_of Tryz.func75 (by kernel_rfl) rfl
theorem qe138 : ∀ (a0 : Int) (a1 : Int) (a2 : Int) (b0 : Int) (b1 : Int) (b2 : Int), AggEq Tryz.prog 138 #[.int .i64 a0, .int .i64 a1, .int .i64 a2] #[.int .i64 b0, .int .i64 b1, .int .i64 b2] (decide (a0 = b0) && (decide (a1 = b1) && (decide (a2 = b2) && (true)))) := by intros; exact aggEq_of (ks := [some .i64, some .i64, some .i64]) (by kernel_rfl) rfl
theorem e26 : Go.Proofs.Enters Tryz.prog 26 := Go.Proofs.enters_of Tryz.func26 (by kernel_rfl) rfl
theorem g70 : aggSz Tryz.prog 70 = some (true, 2) := by kernel_rfl
theorem o70_0 : fieldOff Tryz.prog 70 0 = some 0 := by kernel_rfl
theorem g62 : aggSz Tryz.prog 62 = some (false, 1) := by kernel_rfl
theorem u65 : Tryz.prog.underlying 65 = some (.slice 54) := by kernel_rfl
theorem z54 : zinfo Tryz.prog 54 = some (.float .f64 0, 1, 8) := by kernel_rfl
theorem u298 : Tryz.prog.underlying 298 = some (.map 182 3) := by kernel_rfl
theorem e133 : Go.Proofs.Enters Tryz.prog 133 := Go.Proofs.enters_of Tryz.func133 (by kernel_rfl) rfl
theorem kt182 : KeyT Tryz.prog 182 (fun a : Int => .int .u64 a) := KeyT.int u182
theorem u299 : Tryz.prog.underlying 299 = some (.slice 182) := by kernel_rfl
theorem z182 : zinfo Tryz.prog 182 = some (.int .u64 0, 1, 8) := by kernel_rfl
theorem u3 : Tryz.prog.underlying 3 = some (.int .i64) := by kernel_rfl
theorem u287 : Tryz.prog.underlying 287 = some (.int .u64) := by kernel_rfl
theorem u5 : Tryz.prog.underlying 5 = some (.int .u8) := by kernel_rfl
theorem e254 : Go.Proofs.Enters Tryz.prog 254 := Go.Proofs.enters_of Tryz.func254 (by kernel_rfl) rfl
theorem e225 : Go.Proofs.Enters Tryz.prog 225 := Go.Proofs.enters_of Tryz.func225 (by kernel_rfl) rfl
theorem g182 : aggSz Tryz.prog 182 = some (false, 1) := by kernel_rfl
theorem e189 : Go.Proofs.Enters Tryz.prog 189 := Go.Proofs.enters_of Tryz.func189 (by kernel_rfl) rfl
theorem e250 : Go.Proofs.Enters Tryz.prog 250 := Go.Proofs.enters_of Tryz.func250 (by kernel_rfl) rfl
theorem e244 : Go.Proofs.Enters Tryz.prog 244 := Go.Proofs.enters_of Tryz.func244 (by kernel_rfl) rfl
theorem e224 : Go.Proofs.Enters Tryz.prog 224 := Go.Proofs.enters_of Tryz.func224 (by kernel_rfl) rfl
theorem e193 : Go.Proofs.Enters Tryz.prog 193 := Go.Proofs.enters_of Tryz.func193 (by kernel_rfl) rfl
theorem xf191 : isF64from Tryz.prog 191 := f64from_of Tryz.func191 (by kernel_rfl) (by kernel_rfl) (by kernel_rfl) (by kernel_rfl)
theorem e146 : Go.Proofs.Enters Tryz.prog 146 := Go.Proofs.enters_of Tryz.func146 (by kernel_rfl) rfl
theorem e194 : Go.Proofs.Enters Tryz.prog 194 := Go.Proofs.enters_of Tryz.func194 (by kernel_rfl) rfl
theorem e145 : Go.Proofs.Enters Tryz.prog 145 := Go.Proofs.enters_of Tryz.func145 (by kernel_rfl) rfl
theorem e183 : Go.Proofs.Enters Tryz.prog 183 := Go.Proofs.enters_of Tryz.func183 (by kernel_rfl) rfl
theorem u62 : Tryz.prog.underlying 62 = some (.slice 65) := by kernel_rfl
theorem z65 : zinfo Tryz.prog 65 = some (.slice none 0 0, 1, 24) := by kernel_rfl
theorem o70_1 : fieldOff Tryz.prog 70 1 = some 1 := by kernel_rfl
theorem g68 : aggSz Tryz.prog 68 = some (false, 1) := by kernel_rfl
theorem u321 : Tryz.prog.underlying 321 = some (.map 3 3) := by kernel_rfl
theorem kt3 : KeyT Tryz.prog 3 (fun a : Int => .int .i64 a) := KeyT.int u3
theorem e289 : Go.Proofs.Enters Tryz.prog 289 := Go.Proofs.enters_of Tryz.func289 (by kernel_rfl) rfl
theorem e274 : Go.Proofs.Enters Tryz.prog 274 := Go.Proofs.enters_of Tryz.func274 (by kernel_rfl) rfl
theorem e268 : Go.Proofs.Enters Tryz.prog 268 := Go.Proofs.enters_of Tryz.func268 (by kernel_rfl) rfl
theorem e243 : Go.Proofs.Enters Tryz.prog 243 := Go.Proofs.enters_of Tryz.func243 (by kernel_rfl) rfl
theorem e221 : Go.Proofs.Enters Tryz.prog 221 := Go.Proofs.enters_of Tryz.func221 (by kernel_rfl) rfl
theorem e184 : Go.Proofs.Enters Tryz.prog 184 := Go.Proofs.enters_of Tryz.func184 (by kernel_rfl) rfl
theorem u68 : Tryz.prog.underlying 68 = some (.slice 55) := by kernel_rfl
theorem z55 : zinfo Tryz.prog 55 = some (.slice none 0 0, 1, 24) := by kernel_rfl
theorem e131 : Go.Proofs.Enters Tryz.prog 131 := Go.Proofs.enters_of Tryz.func131 (by kernel_rfl) rfl
theorem g147 : aggSz Tryz.prog 147 = some (true, 5) := by kernel_rfl
theorem z212 : zinfo Tryz.prog 212 = some (.agg #[.int .i64 0, .slice none 0 0], 2, 32) := by kernel_rfl
theorem g212 : aggSz Tryz.prog 212 = some (true, 2) := by kernel_rfl
theorem z214 : zinfo Tryz.prog 214 = some (.agg #[.int .u8 0, .int .i64 0, .int .i64 0, .int .i64 0, .slice none 0 0, .int .u8 0, .int .i64 0, .int .i64 0], 8, 80) := by kernel_rfl
theorem g214 : aggSz Tryz.prog 214 = some (true, 8) := by kernel_rfl
theorem g65 : aggSz Tryz.prog 65 = some (false, 1) := by kernel_rfl
theorem e132 : Go.Proofs.Enters Tryz.prog 132 := Go.Proofs.enters_of Tryz.func132 (by kernel_rfl) rfl
theorem o214_3 : fieldOff Tryz.prog 214 3 = some 3 := by kernel_rfl
theorem o214_4 : fieldOff Tryz.prog 214 4 = some 4 := by kernel_rfl
theorem e135 : Go.Proofs.Enters Tryz.prog 135 := Go.Proofs.enters_of Tryz.func135 (by kernel_rfl) rfl
theorem e134 : Go.Proofs.Enters Tryz.prog 134 := Go.Proofs.enters_of Tryz.func134 (by kernel_rfl) rfl
theorem o212_1 : fieldOff Tryz.prog 212 1 = some 1 := by kernel_rfl
theorem g210 : aggSz Tryz.prog 210 = some (false, 1) := by kernel_rfl
theorem u210 : Tryz.prog.underlying 210 = some (.slice 214) := by kernel_rfl
theorem o147_3 : fieldOff Tryz.prog 147 3 = some 4 := by kernel_rfl
theorem g145 : aggSz Tryz.prog 145 = some (false, 1) := by kernel_rfl
theorem u145 : Tryz.prog.underlying 145 = some (.slice 212) := by kernel_rfl
theorem e79 : Go.Proofs.Enters Tryz.prog 79 := Go.Proofs.enters_of Tryz.func79 (by kernel_rfl) rfl
theorem o147_0 : fieldOff Tryz.prog 147 0 = some 0 := by kernel_rfl
theorem e81 : Go.Proofs.Enters Tryz.prog 81 := Go.Proofs.enters_of Tryz.func81 (by kernel_rfl) rfl
theorem e138 : Go.Proofs.Enters Tryz.prog 138 := Go.Proofs.enters_of Tryz.func138 (by kernel_rfl) rfl
theorem e82 : Go.Proofs.Enters Tryz.prog 82 := Go.Proofs.enters_of Tryz.func82 (by kernel_rfl) rfl
theorem e30 : Go.Proofs.Enters Tryz.prog 30 := Go.Proofs.enters_of Tryz.func30 (by kernel_rfl) rfl
theorem o147_1 : fieldOff Tryz.prog 147 1 = some 2 := by kernel_rfl
theorem o147_2 : fieldOff Tryz.prog 147 2 = some 3 := by kernel_rfl
theorem e229 : Go.Proofs.Enters Tryz.prog 229 := Go.Proofs.enters_of Tryz.func229 (by kernel_rfl) rfl
theorem e199 : Go.Proofs.Enters Tryz.prog 199 := Go.Proofs.enters_of Tryz.func199 (by kernel_rfl) rfl
theorem e222 : Go.Proofs.Enters Tryz.prog 222 := Go.Proofs.enters_of Tryz.func222 (by kernel_rfl) rfl
theorem e185 : Go.Proofs.Enters Tryz.prog 185 := Go.Proofs.enters_of Tryz.func185 (by kernel_rfl) rfl
theorem o212_0 : fieldOff Tryz.prog 212 0 = some 0 := by kernel_rfl
theorem o214_0 : fieldOff Tryz.prog 214 0 = some 0 := by kernel_rfl
theorem o214_2 : fieldOff Tryz.prog 214 2 = some 2 := by kernel_rfl
theorem e186 : Go.Proofs.Enters Tryz.prog 186 := Go.Proofs.enters_of Tryz.func186 (by kernel_rfl) rfl
theorem o214_1 : fieldOff Tryz.prog 214 1 = some 1 := by kernel_rfl
theorem o214_5 : fieldOff Tryz.prog 214 5 = some 5 := by kernel_rfl
theorem o214_6 : fieldOff Tryz.prog 214 6 = some 6 := by kernel_rfl
theorem o214_7 : fieldOff Tryz.prog 214 7 = some 7 := by kernel_rfl
theorem e136 : Go.Proofs.Enters Tryz.prog 136 := Go.Proofs.enters_of Tryz.func136 (by kernel_rfl) rfl
theorem z76 : zinfo Tryz.prog 76 = some (.agg #[.int .i64 0, .int .i64 0, .bool false], 3, 24) := by kernel_rfl
theorem g76 : aggSz Tryz.prog 76 = some (true, 3) := by kernel_rfl
theorem u54 : Tryz.prog.underlying 54 = some (.float .f64) := by kernel_rfl
theorem e140 : Go.Proofs.Enters Tryz.prog 140 := Go.Proofs.enters_of Tryz.func140 (by kernel_rfl) rfl
theorem e139 : Go.Proofs.Enters Tryz.prog 139 := Go.Proofs.enters_of Tryz.func139 (by kernel_rfl) rfl
theorem o76_1 : fieldOff Tryz.prog 76 1 = some 1 := by kernel_rfl
theorem e83 : Go.Proofs.Enters Tryz.prog 83 := Go.Proofs.enters_of Tryz.func83 (by kernel_rfl) rfl
theorem u72 : Tryz.prog.underlying 72 = some (.slice 76) := by kernel_rfl
theorem e31 : Go.Proofs.Enters Tryz.prog 31 := Go.Proofs.enters_of Tryz.func31 (by kernel_rfl) rfl
theorem o76_2 : fieldOff Tryz.prog 76 2 = some 2 := by kernel_rfl
theorem qe76 : ∀ (a0 : Int) (a1 : Int) (a2 : Bool) (b0 : Int) (b1 : Int) (b2 : Bool), AggEq Tryz.prog 76 #[.int .i64 a0, .int .i64 a1, .bool a2] #[.int .i64 b0, .int .i64 b1, .bool b2] (decide (a0 = b0) && (decide (a1 = b1) && (decide (a2 = b2) && (true)))) := by intros; exact aggEq_of (ks := [some .i64, some .i64, none]) (by kernel_rfl) rfl
theorem o76_0 : fieldOff Tryz.prog 76 0 = some 0 := by kernel_rfl
theorem e187 : Go.Proofs.Enters Tryz.prog 187 := Go.Proofs.enters_of Tryz.func187 (by kernel_rfl) rfl
theorem o292_0 : fieldOff Tryz.prog 292 0 = some 0 := by kernel_rfl
theorem e223 : Go.Proofs.Enters Tryz.prog 223 := Go.Proofs.enters_of Tryz.func223 (by kernel_rfl) rfl
theorem e188 : Go.Proofs.Enters Tryz.prog 188 := Go.Proofs.enters_of Tryz.func188 (by kernel_rfl) rfl
theorem e137 : Go.Proofs.Enters Tryz.prog 137 := Go.Proofs.enters_of Tryz.func137 (by kernel_rfl) rfl
theorem e80 : Go.Proofs.Enters Tryz.prog 80 := Go.Proofs.enters_of Tryz.func80 (by kernel_rfl) rfl
theorem e29 : Go.Proofs.Enters Tryz.prog 29 := Go.Proofs.enters_of Tryz.func29 (by kernel_rfl) rfl
theorem u4 : Tryz.prog.underlying 4 = some (.bool) := by kernel_rfl
structure Node where
  kind : Int
  value : Int
  feature : Int
  threshold : Nat
  cats : List Int
  missing : Int
  left : Int
  right : Int
def RNode : Rep Node where
  sz := 8
  pos := by decide
  K M w x cs := ∃ A4 c4, cs = [.int .u8 x.kind, .int .i64 x.value, .int .i64 x.feature, .float .f64 x.threshold, .slice A4 x.cats.length c4, .int .u8 x.missing, .int .i64 x.left, .int .i64 x.right] ∧ (x.cats.length ≤ c4 ∧ Sl (RI .i64) M w A4 x.cats)
  len h := by obtain ⟨A4, c4, rfl, h4⟩ := h; rfl
  one h := by obtain ⟨A4, c4, rfl, h4⟩ := h; intro c hc; simp only [List.mem_cons, List.not_mem_nil, or_false] at hc; rcases hc with rfl | rfl | rfl | rfl | rfl | rfl | rfl | rfl <;> rfl
  step hs h := by obtain ⟨A4, c4, rfl, h4⟩ := h; exact ⟨A4, c4, rfl, ⟨h4.1, h4.2.step hs⟩⟩

structure Tree where
  output : Int
  nodes : List Node
def RTree : Rep Tree where
  sz := 2
  pos := by decide
  K M w x cs := ∃ A1 c1, cs = [.int .i64 x.output, .slice A1 x.nodes.length c1] ∧ (x.nodes.length ≤ c1 ∧ Sl RNode M w A1 x.nodes)
  len h := by obtain ⟨A1, c1, rfl, h1⟩ := h; rfl
  one h := by obtain ⟨A1, c1, rfl, h1⟩ := h; intro c hc; simp only [List.mem_cons, List.not_mem_nil, or_false] at hc; rcases hc with rfl | rfl <;> rfl
  step hs h := by obtain ⟨A1, c1, rfl, h1⟩ := h; exact ⟨A1, c1, rfl, ⟨h1.1, h1.2.step hs⟩⟩

structure Ensemble where
  name : ByteArray
  features : List ByteArray
  outputs : Int
  base : List Int
  trees : List Tree
def REnsemble : Rep Ensemble where
  sz := 5
  pos := by decide
  K M w x cs := ∃ A1 c1 A3 c3 A4 c4, cs = [.string x.name, .slice A1 x.features.length c1, .int .i64 x.outputs, .slice A3 x.base.length c3, .slice A4 x.trees.length c4] ∧ (x.features.length ≤ c1 ∧ Sl RStr M w A1 x.features) ∧ (x.base.length ≤ c3 ∧ Sl (RI .i64) M w A3 x.base) ∧ (x.trees.length ≤ c4 ∧ Sl RTree M w A4 x.trees)
  len h := by obtain ⟨A1, c1, A3, c3, A4, c4, rfl, h1, h3, h4⟩ := h; rfl
  one h := by obtain ⟨A1, c1, A3, c3, A4, c4, rfl, h1, h3, h4⟩ := h; intro c hc; simp only [List.mem_cons, List.not_mem_nil, or_false] at hc; rcases hc with rfl | rfl | rfl | rfl | rfl <;> rfl
  step hs h := by obtain ⟨A1, c1, A3, c3, A4, c4, rfl, h1, h3, h4⟩ := h; exact ⟨A1, c1, A3, c3, A4, c4, rfl, ⟨h1.1, h1.2.step hs⟩, ⟨h3.1, h3.2.step hs⟩, ⟨h4.1, h4.2.step hs⟩⟩

structure Bins where
  cuts : List (List Nat)
  cats : List (List Int)
def RBins : Rep Bins where
  sz := 2
  pos := by decide
  K M w x cs := ∃ A0 c0 A1 c1, cs = [.slice A0 x.cuts.length c0, .slice A1 x.cats.length c1] ∧ (x.cuts.length ≤ c0 ∧ Sl (RSl RF) M w A0 x.cuts) ∧ (x.cats.length ≤ c1 ∧ Sl (RSl (RI .i64)) M w A1 x.cats)
  len h := by obtain ⟨A0, c0, A1, c1, rfl, h0, h1⟩ := h; rfl
  one h := by obtain ⟨A0, c0, A1, c1, rfl, h0, h1⟩ := h; intro c hc; simp only [List.mem_cons, List.not_mem_nil, or_false] at hc; rcases hc with rfl | rfl <;> rfl
  step hs h := by obtain ⟨A0, c0, A1, c1, rfl, h0, h1⟩ := h; exact ⟨A0, c0, A1, c1, rfl, ⟨h0.1, h0.2.step hs⟩, ⟨h1.1, h1.2.step hs⟩⟩

structure BinNode where
  kind : Int
  value : Int
  feature : Int
  rank : Int
  cats : List Int
  missing : Int
  left : Int
  right : Int
def RBinNode : Rep BinNode where
  sz := 8
  pos := by decide
  K M w x cs := ∃ A4 c4, cs = [.int .u8 x.kind, .int .i64 x.value, .int .i64 x.feature, .int .i64 x.rank, .slice A4 x.cats.length c4, .int .u8 x.missing, .int .i64 x.left, .int .i64 x.right] ∧ (x.cats.length ≤ c4 ∧ Sl (RI .i64) M w A4 x.cats)
  len h := by obtain ⟨A4, c4, rfl, h4⟩ := h; rfl
  one h := by obtain ⟨A4, c4, rfl, h4⟩ := h; intro c hc; simp only [List.mem_cons, List.not_mem_nil, or_false] at hc; rcases hc with rfl | rfl | rfl | rfl | rfl | rfl | rfl | rfl <;> rfl
  step hs h := by obtain ⟨A4, c4, rfl, h4⟩ := h; exact ⟨A4, c4, rfl, ⟨h4.1, h4.2.step hs⟩⟩

structure BinTree where
  output : Int
  nodes : List BinNode
def RBinTree : Rep BinTree where
  sz := 2
  pos := by decide
  K M w x cs := ∃ A1 c1, cs = [.int .i64 x.output, .slice A1 x.nodes.length c1] ∧ (x.nodes.length ≤ c1 ∧ Sl RBinNode M w A1 x.nodes)
  len h := by obtain ⟨A1, c1, rfl, h1⟩ := h; rfl
  one h := by obtain ⟨A1, c1, rfl, h1⟩ := h; intro c hc; simp only [List.mem_cons, List.not_mem_nil, or_false] at hc; rcases hc with rfl | rfl <;> rfl
  step hs h := by obtain ⟨A1, c1, rfl, h1⟩ := h; exact ⟨A1, c1, rfl, ⟨h1.1, h1.2.step hs⟩⟩

structure Binned where
  bins : Bins
  outputs : Int
  base : List Int
  trees : List BinTree
def RBinned : Rep Binned where
  sz := 5
  pos := by decide
  K M w x cs := ∃ A0 c0 A1 c1 A3 c3 A4 c4, cs = [.slice A0 x.bins.cuts.length c0, .slice A1 x.bins.cats.length c1, .int .i64 x.outputs, .slice A3 x.base.length c3, .slice A4 x.trees.length c4] ∧ (x.bins.cuts.length ≤ c0 ∧ Sl (RSl RF) M w A0 x.bins.cuts) ∧ (x.bins.cats.length ≤ c1 ∧ Sl (RSl (RI .i64)) M w A1 x.bins.cats) ∧ (x.base.length ≤ c3 ∧ Sl (RI .i64) M w A3 x.base) ∧ (x.trees.length ≤ c4 ∧ Sl RBinTree M w A4 x.trees)
  len h := by obtain ⟨A0, c0, A1, c1, A3, c3, A4, c4, rfl, h0, h1, h3, h4⟩ := h; rfl
  one h := by obtain ⟨A0, c0, A1, c1, A3, c3, A4, c4, rfl, h0, h1, h3, h4⟩ := h; intro c hc; simp only [List.mem_cons, List.not_mem_nil, or_false] at hc; rcases hc with rfl | rfl | rfl | rfl | rfl <;> rfl
  step hs h := by obtain ⟨A0, c0, A1, c1, A3, c3, A4, c4, rfl, h0, h1, h3, h4⟩ := h; exact ⟨A0, c0, A1, c1, A3, c3, A4, c4, rfl, ⟨h0.1, h0.2.step hs⟩, ⟨h1.1, h1.2.step hs⟩, ⟨h3.1, h3.2.step hs⟩, ⟨h4.1, h4.2.step hs⟩⟩

structure Broken where
  rule : Int
  tree : Int
  node_ : Int
def RBroken : Rep Broken where
  sz := 3
  pos := by decide
  K M w x cs := cs = [.int .i64 x.rule, .int .i64 x.tree, .int .i64 x.node_]
  len h := by obtain rfl := h; rfl
  one h := by obtain rfl := h; intro c hc; simp only [List.mem_cons, List.not_mem_nil, or_false] at hc; rcases hc with rfl | rfl | rfl <;> rfl
  step _ h := h

structure Code where
  bin : Int
  cat : Int
  lost : Bool
def RCode : Rep Code where
  sz := 3
  pos := by decide
  K M w x cs := cs = [.int .i64 x.bin, .int .i64 x.cat, .bool x.lost]
  len h := by obtain rfl := h; rfl
  one h := by obtain rfl := h; intro c hc; simp only [List.mem_cons, List.not_mem_nil, or_false] at hc; rcases hc with rfl | rfl | rfl <;> rfl
  step _ h := h

structure bins_node where
  binNode : BinNode
def Rbins_node : Rep bins_node where
  sz := 8
  pos := by decide
  K M w x cs := ∃ A4 c4, cs = [.int .u8 x.binNode.kind, .int .i64 x.binNode.value, .int .i64 x.binNode.feature, .int .i64 x.binNode.rank, .slice A4 x.binNode.cats.length c4, .int .u8 x.binNode.missing, .int .i64 x.binNode.left, .int .i64 x.binNode.right] ∧ (x.binNode.cats.length ≤ c4 ∧ Sl (RI .i64) M w A4 x.binNode.cats)
  len h := by obtain ⟨A4, c4, rfl, h4⟩ := h; rfl
  one h := by obtain ⟨A4, c4, rfl, h4⟩ := h; intro c hc; simp only [List.mem_cons, List.not_mem_nil, or_false] at hc; rcases hc with rfl | rfl | rfl | rfl | rfl | rfl | rfl | rfl <;> rfl
  step hs h := by obtain ⟨A4, c4, rfl, h4⟩ := h; exact ⟨A4, c4, rfl, ⟨h4.1, h4.2.step hs⟩⟩

def scan_of (p78 : Int) : Option Int :=
    (if decide ((97 : Int) ≤ p78) = true then (if decide (p78 ≤ (122 : Int)) = true then (some true) else (if decide ((65 : Int) ≤ p78) = true then (some (decide (p78 ≤ (90 : Int)))) else (some false))) else (if decide ((65 : Int) ≤ p78) = true then (some (decide (p78 ≤ (90 : Int)))) else (some false)) : Option Bool).bind fun y104 =>
    if y104 = true then (some (1 : Int)) else ((if decide ((48 : Int) ≤ p78) = true then (some (decide (p78 ≤ (57 : Int)))) else (some false) : Option Bool).bind fun y114 =>
    if y114 = true then (some (2 : Int)) else (if decide ((127 : Int) < p78) = true then (some (0 : Int)) else (none)))

theorem scan_of_ok {w0 : World} {M : MSet} (hM : ∀ k, M k → k < w0.heap.size) (p78 : Int) (r : Int) (h : scan_of p78 = some r) :
    Calls Tryz.prog 172 #[.int .u8 p78] w0 (Gives w0 fun v w' => v = .int .u8 r) := by
  have hS := Sta.init hM
  unfold scan_of at h
  refine calls_enter (n := 0) Tryz.func172 rfl [(0, .int .u8 p78)] rfl rfl ⟨rfl, trivial⟩ ?_
  refine WC.seq ?_
  refine WC.reg ?_
  refine WL.val (R_assign rfl) rfl rfl ?_
  refine WL.nil ?_
  refine WQ.thenC ?_
  refine WC.seq ?_
  refine WC.block ?_
  obtain ⟨o105, h106, h107⟩ := bindS h
  refine WC.seqM (fun env w => ∃ (y104 : Bool), y104 = o105 ∧ env = [(0, .int .u8 p78), (3, .bool y104)] ∧ Sta w0 M [] [] w) ?_ ?_
  · have h := h106
    refine WC.reg ?_
    refine WL.val (R_move rfl) rfl rfl ?_
    refine WL.val (R_cmp rfl rfl rfl) rfl rfl ?_
    refine WL.val (R_move rfl) rfl rfl ?_
    rcases boolS h with ⟨hb108, h⟩ | ⟨hb108, h⟩
    · refine WL.gvalb rfl rfl rfl hb108 (R_move rfl) rfl rfl ?_
      refine WL.gvalb rfl rfl rfl hb108 (R_cmp rfl rfl rfl) rfl rfl ?_
      refine WL.val (R_pickTb rfl hb108 rfl) rfl rfl ?_
      refine WL.val (R_move rfl) rfl rfl ?_
      rcases boolS h with ⟨hb109, h⟩ | ⟨hb109, h⟩
      · refine WL.gskip rfl rfl rfl hb109 rfl ?_
        refine WL.gskip rfl rfl rfl hb109 rfl ?_
        refine WL.gskip rfl rfl rfl hb109 rfl ?_
        refine WL.gskipU rfl rfl rfl rfl ?_
        refine WL.gskipU rfl rfl rfl rfl ?_
        refine WL.gskip rfl rfl rfl hb109 rfl ?_
        refine WL.val (R_pickTb rfl hb109 rfl) rfl rfl ?_
        refine WL.val (R_assign rfl) rfl rfl ?_
        refine WL.nil ?_
        have hS := hS.pick [] [] rfl
        exact WQ.toJ ⟨true, Option.some.inj h, rfl, hS⟩ ⟨rfl, rfl, trivial⟩
      · refine WL.gvalb rfl rfl rfl hb109 (R_move rfl) rfl rfl ?_
        refine WL.gvalb rfl rfl rfl hb109 (R_cmp rfl rfl rfl) rfl rfl ?_
        refine WL.gvalb rfl rfl rfl hb109 (R_move rfl) rfl rfl ?_
        rcases boolS h with ⟨hb110, h⟩ | ⟨hb110, h⟩
        · refine WL.gvalb rfl rfl rfl hb110 (R_move rfl) rfl rfl ?_
          refine WL.gvalb rfl rfl rfl hb110 (R_cmp rfl rfl rfl) rfl rfl ?_
          refine WL.gvalb rfl rfl rfl hb109 (R_pickTb rfl hb110 rfl) rfl rfl ?_
          refine WL.val (R_pickFb rfl hb109 rfl) rfl rfl ?_
          refine WL.val (R_assign rfl) rfl rfl ?_
          refine WL.nil ?_
          have hS := hS.pick [] [] rfl
          exact WQ.toJ ⟨decide (p78 ≤ (90 : Int)), Option.some.inj h, rfl, hS⟩ ⟨rfl, rfl, trivial⟩
        · refine WL.gskip rfl rfl rfl hb110 rfl ?_
          refine WL.gskip rfl rfl rfl hb110 rfl ?_
          refine WL.gvalb rfl rfl rfl hb109 (R_pickFb rfl hb110 rfl) rfl rfl ?_
          refine WL.val (R_pickFb rfl hb109 rfl) rfl rfl ?_
          refine WL.val (R_assign rfl) rfl rfl ?_
          refine WL.nil ?_
          have hS := hS.pick [] [] rfl
          exact WQ.toJ ⟨false, Option.some.inj h, rfl, hS⟩ ⟨rfl, rfl, trivial⟩
    · refine WL.gskip rfl rfl rfl hb108 rfl ?_
      refine WL.gskip rfl rfl rfl hb108 rfl ?_
      refine WL.val (R_pickFb rfl hb108 rfl) rfl rfl ?_
      refine WL.val (R_move rfl) rfl rfl ?_
      refine WL.gvalb rfl rfl rfl rfl (R_move rfl) rfl rfl ?_
      refine WL.gvalb rfl rfl rfl rfl (R_cmp rfl rfl rfl) rfl rfl ?_
      refine WL.gvalb rfl rfl rfl rfl (R_move rfl) rfl rfl ?_
      rcases boolS h with ⟨hb111, h⟩ | ⟨hb111, h⟩
      · refine WL.gvalb rfl rfl rfl hb111 (R_move rfl) rfl rfl ?_
        refine WL.gvalb rfl rfl rfl hb111 (R_cmp rfl rfl rfl) rfl rfl ?_
        refine WL.gvalb rfl rfl rfl rfl (R_pickTb rfl hb111 rfl) rfl rfl ?_
        refine WL.val (R_pickFb rfl rfl rfl) rfl rfl ?_
        refine WL.val (R_assign rfl) rfl rfl ?_
        refine WL.nil ?_
        have hS := hS.pick [] [] rfl
        exact WQ.toJ ⟨decide (p78 ≤ (90 : Int)), Option.some.inj h, rfl, hS⟩ ⟨rfl, rfl, trivial⟩
      · refine WL.gskip rfl rfl rfl hb111 rfl ?_
        refine WL.gskip rfl rfl rfl hb111 rfl ?_
        refine WL.gvalb rfl rfl rfl rfl (R_pickFb rfl hb111 rfl) rfl rfl ?_
        refine WL.val (R_pickFb rfl rfl rfl) rfl rfl ?_
        refine WL.val (R_assign rfl) rfl rfl ?_
        refine WL.nil ?_
        have hS := hS.pick [] [] rfl
        exact WQ.toJ ⟨false, Option.some.inj h, rfl, hS⟩ ⟨rfl, rfl, trivial⟩
  · rintro _ w ⟨y104, rfl, rfl, hS⟩
    have h := h107
    try dsimp only at h
    refine WC.cond rfl (fun hb112 => ?_) (fun hb112 => ?_)
    · have h := ifT hb112 h
      refine WC.seq ?_
      refine WC.reg ?_
      refine WL.val (R_assign rfl) rfl rfl ?_
      refine WL.nil ?_
      refine WQ.thenC ?_
      refine WC.ret ?_
      refine WQ.blockR ?_
      refine WQ.thenR ?_
      have hS0 := hS
      obtain rfl := Option.some.inj h
      exact ret_1 rfl rfl ⟨_, rfl, hS.bel, rfl⟩
    · have h := ifF hb112 h
      obtain ⟨o115, h116, h117⟩ := bindS h
      refine WC.seqM (fun env w => ∃ (y114 : Bool), y114 = o115 ∧ env = [(0, .int .u8 p78), (18, .bool y114)] ∧ Sta w0 M [] [] w) ?_ ?_
      · have h := h116
        refine WC.reg ?_
        refine WL.val (R_move rfl) rfl rfl ?_
        refine WL.val (R_cmp rfl rfl rfl) rfl rfl ?_
        refine WL.val (R_move rfl) rfl rfl ?_
        rcases boolS h with ⟨hb118, h⟩ | ⟨hb118, h⟩
        · refine WL.gvalb rfl rfl rfl hb118 (R_move rfl) rfl rfl ?_
          refine WL.gvalb rfl rfl rfl hb118 (R_cmp rfl rfl rfl) rfl rfl ?_
          refine WL.val (R_pickTb rfl hb118 rfl) rfl rfl ?_
          refine WL.val (R_assign rfl) rfl rfl ?_
          refine WL.nil ?_
          have hS := hS.pick [] [] rfl
          exact WQ.toJ ⟨decide (p78 ≤ (57 : Int)), Option.some.inj h, rfl, hS⟩ ⟨rfl, rfl, trivial⟩
        · refine WL.gskip rfl rfl rfl hb118 rfl ?_
          refine WL.gskip rfl rfl rfl hb118 rfl ?_
          refine WL.val (R_pickFb rfl hb118 rfl) rfl rfl ?_
          refine WL.val (R_assign rfl) rfl rfl ?_
          refine WL.nil ?_
          have hS := hS.pick [] [] rfl
          exact WQ.toJ ⟨false, Option.some.inj h, rfl, hS⟩ ⟨rfl, rfl, trivial⟩
      · rintro _ w ⟨y114, rfl, rfl, hS⟩
        have h := h117
        try dsimp only at h
        refine WC.cond rfl (fun hb119 => ?_) (fun hb119 => ?_)
        · have h := ifT hb119 h
          refine WC.seq ?_
          refine WC.reg ?_
          refine WL.val (R_assign rfl) rfl rfl ?_
          refine WL.nil ?_
          refine WQ.thenC ?_
          refine WC.ret ?_
          refine WQ.blockR ?_
          refine WQ.thenR ?_
          have hS0 := hS
          obtain rfl := Option.some.inj h
          exact ret_1 rfl rfl ⟨_, rfl, hS.bel, rfl⟩
        · have h := ifF hb119 h
          refine WC.seq ?_
          refine WC.reg ?_
          refine WL.val (R_move rfl) rfl rfl ?_
          refine WL.val (R_cmp rfl rfl rfl) rfl rfl ?_
          refine WL.val (R_assign rfl) rfl rfl ?_
          refine WL.nil ?_
          refine WQ.thenC ?_
          refine WC.cond rfl (fun hb120 => ?_) (fun hb120 => ?_)
          · have h := ifT hb120 h
            refine WC.seq ?_
            refine WC.reg ?_
            refine WL.val (R_assign rfl) rfl rfl ?_
            refine WL.nil ?_
            refine WQ.thenC ?_
            refine WC.ret ?_
            refine WQ.blockR ?_
            refine WQ.thenR ?_
            have hS0 := hS
            obtain rfl := Option.some.inj h
            exact ret_1 rfl rfl ⟨_, rfl, hS.bel, rfl⟩
          · have h := ifF hb120 h
            cases h

def scan_Name_l0 (k : Nat) (p67 : ByteArray) : Nat → Int → Option (Fl Bool Unit)
  | 0, _ => none
  | m + 1, y183 =>
    if decide (y183 < (p67.size : Int)) = true then ((sIx p67 y183).bind fun x192 =>
    (scan_of x192).bind fun r194 =>
    if decide ((btI .and .u8 r194 (11 : Int)) = (0 : Int)) = true then (if decide (x192 ≠ (45 : Int)) = true then ((some false).map Fl.ret) else (scan_Name_l0 k p67 m (IntKind.i64.wrap (y183 + (1 : Int))))) else (scan_Name_l0 k p67 m (IntKind.i64.wrap (y183 + (1 : Int))))) else (some (.go ()))

def scan_Name (k : Nat) (p67 : ByteArray) : Option Bool :=
    (if decide ((p67.size : Int) < (1 : Int)) = true then ((some false).map Fl.ret) else (if decide ((64 : Int) < (p67.size : Int)) = true then ((some false).map Fl.ret) else (some (.go ()))) : Option (Fl Bool Unit)).bind fun o => match o with
    | .ret r => some r
    | .go _ =>
    ((scan_Name_l0 k p67 k (0 : Int) : Option (Fl Bool Unit)).bind fun o => match o with
    | .ret r => some r
    | .go _ =>
    (some true))

theorem scan_Name_ok {w0 : World} {M : MSet} (hM : ∀ k, M k → k < w0.heap.size) (k : Nat) (p67 : ByteArray) (r : Bool) (h : scan_Name k p67 = some r) :
    Calls Tryz.prog 117 #[.string p67] w0 (Gives w0 fun v w' => v = .bool r) := by
  have hS := Sta.init hM
  unfold scan_Name at h
  refine calls_enter (n := 0) Tryz.func117 rfl [(0, .string p67)] rfl rfl ⟨rfl, trivial⟩ ?_
  refine WC.seq ?_
  refine WC.reg ?_
  refine WL.val (R_assign rfl) rfl rfl ?_
  refine WL.nil ?_
  refine WQ.thenC ?_
  obtain ⟨o153, h154, h155⟩ := bindS h
  refine WC.seqM (fun env w => Fl.go () = o153 ∧ env = [(0, .string p67)] ∧ Sta w0 M [] [] w) ?_ ?_
  · have h := h154
    refine WC.seq ?_
    refine WC.reg ?_
    refine WL.val (R_move rfl) rfl rfl ?_
    refine WL.val (R_lenStr u9 rfl) rfl rfl ?_
    refine WL.val (R_cmp rfl rfl rfl) rfl rfl ?_
    refine WL.val (R_move rfl) rfl rfl ?_
    rcases boolS h with ⟨hb156, h⟩ | ⟨hb156, h⟩
    · refine WL.gskip rfl rfl rfl hb156 rfl ?_
      refine WL.gskip rfl rfl rfl hb156 rfl ?_
      refine WL.gskip rfl rfl rfl hb156 rfl ?_
      refine WL.val (R_pickTb rfl hb156 rfl) rfl rfl ?_
      refine WL.nil ?_
      refine WQ.thenC ?_
      refine WC.condT rfl ?_
      refine WC.seq ?_
      refine WC.reg ?_
      refine WL.val (R_assign rfl) rfl rfl ?_
      refine WL.nil ?_
      refine WQ.thenC ?_
      refine WC.ret ?_
      refine WQ.thenR ?_
      obtain ⟨_, hr, rfl⟩ := mapS h
      have h := hr.trans h155
      have hS0 := hS
      obtain rfl := Option.some.inj h
      exact ret_1 rfl rfl ⟨_, rfl, hS.bel, rfl⟩
    · refine WL.gvalb rfl rfl rfl hb156 (R_move rfl) rfl rfl ?_
      refine WL.gvalb rfl rfl rfl hb156 (R_lenStr u9 rfl) rfl rfl ?_
      refine WL.gvalb rfl rfl rfl hb156 (R_cmp rfl rfl rfl) rfl rfl ?_
      refine WL.val (R_pickFb rfl hb156 rfl) rfl rfl ?_
      refine WL.nil ?_
      refine WQ.thenC ?_
      refine WC.cond rfl (fun hb157 => ?_) (fun hb157 => ?_)
      · have h := ifT hb157 h
        refine WC.seq ?_
        refine WC.reg ?_
        refine WL.val (R_assign rfl) rfl rfl ?_
        refine WL.nil ?_
        refine WQ.thenC ?_
        refine WC.ret ?_
        refine WQ.thenR ?_
        obtain ⟨_, hr, rfl⟩ := mapS h
        have h := hr.trans h155
        have hS0 := hS
        obtain rfl := Option.some.inj h
        exact ret_1 rfl rfl ⟨_, rfl, hS.bel, rfl⟩
      · have h := ifF hb157 h
        refine WC.skip ?_
        have hS := hS.pick [] [] rfl
        exact WQ.toJ ⟨Option.some.inj h, rfl, hS⟩ ⟨rfl, trivial⟩
  · rintro _ w ⟨rfl, rfl, hS⟩
    have h := h155
    try dsimp only at h
    obtain ⟨o173, h174, h175⟩ := bindS h
    refine WC.seqM (fun env w => Fl.go () = o173 ∧ env = [] ∧ Sta w0 M [] [] w) ?_ ?_
    · have h := h174
      refine WC.seq ?_
      refine WC.reg ?_
      refine WL.val (R_move rfl) rfl rfl ?_
      refine WL.val (R_lenStr u9 rfl) rfl rfl ?_
      refine WL.val (R_move rfl) rfl rfl ?_
      refine WL.nil ?_
      refine WQ.thenC ?_
      refine WC.block ?_
      have hS := hS.pick [] [] rfl
      refine WC.loopJ (fun m env w => ∃ (y183 : Int), env = [(0, .string p67), (13, .int .i64 (p67.size : Int)), (14, .int .i64 y183)] ∧ Sta w0 M [] [] w ∧ scan_Name_l0 k p67 m y183 = some o173) k ⟨(0 : Int), rfl, hS, h⟩ ⟨rfl, rfl, rfl, trivial⟩ (fun env w hI => ?_) (fun m env w hI => ?_)
      · obtain ⟨y183, rfl, hS, h⟩ := hI
        rw [scan_Name_l0] at h
        cases h
      · obtain ⟨y183, rfl, hS, h⟩ := hI
        rw [scan_Name_l0] at h
        refine WC.seq ?_
        refine WC.reg ?_
        refine WL.val (R_cmp rfl rfl rfl) rfl rfl ?_
        refine WL.nil ?_
        refine WQ.thenC ?_
        refine WC.seq ?_
        refine WC.cond rfl (fun hb191 => ?_) (fun hb191 => ?_)
        · have h := ifT hb191 h
          refine WC.skip ?_
          refine WQ.thenC ?_
          refine WC.seq ?_
          refine WC.block ?_
          refine WC.seq ?_
          refine WC.reg ?_
          refine WL.val (R_move rfl) rfl rfl ?_
          refine WL.val (R_assign rfl) rfl rfl ?_
          refine WL.nil ?_
          refine WQ.thenC ?_
          refine WC.seq ?_
          refine WC.reg ?_
          refine WL.val (R_move rfl) rfl rfl ?_
          refine WL.val (R_move rfl) rfl rfl ?_
          obtain ⟨x192, hx193, h⟩ := bindS h
          refine WL.val (R_strIx' u9 rfl rfl hx193) rfl rfl ?_
          obtain ⟨r194, hr195, h⟩ := bindS h
          refine WL.call e172 rfl rfl hS (scan_of_ok (hS).mx_lt x192  _ hr195) rfl ?_
          intro v w hB hS hP
          obtain ⟨rfl⟩ := hP
          refine WL.val (R_bt rfl rfl rfl) rfl rfl ?_
          refine WL.val (R_cmp rfl rfl rfl) rfl rfl ?_
          refine WL.val (R_move rfl) rfl rfl ?_
          rcases boolS h with ⟨hb196, h⟩ | ⟨hb196, h⟩
          · refine WL.gvalb rfl rfl rfl hb196 (R_move rfl) rfl rfl ?_
            refine WL.gvalb rfl rfl rfl hb196 (R_move rfl) rfl rfl ?_
            refine WL.gvalb rfl rfl rfl hb196 (R_strIx' u9 rfl rfl hx193) rfl rfl ?_
            refine WL.gvalb rfl rfl rfl hb196 (R_cmp rfl rfl rfl) rfl rfl ?_
            refine WL.val (R_pickTb rfl hb196 rfl) rfl rfl ?_
            refine WL.nil ?_
            refine WQ.thenC ?_
            refine WC.cond rfl (fun hb197 => ?_) (fun hb197 => ?_)
            · have h := ifT hb197 h
              refine WC.seq ?_
              refine WC.reg ?_
              refine WL.val (R_assign rfl) rfl rfl ?_
              refine WL.nil ?_
              refine WQ.thenC ?_
              refine WC.ret ?_
              refine WQ.blockR ?_
              refine WQ.thenR ?_
              refine WQ.thenR ?_
              refine WQ.blockR ?_
              refine WQ.thenR ?_
              obtain ⟨_, hr, rfl⟩ := mapS h
              have h := hr.trans h175
              have hS0 := hS
              obtain rfl := Option.some.inj h
              exact ret_1 rfl rfl ⟨_, rfl, hS.bel, rfl⟩
            · have h := ifF hb197 h
              refine WC.skip ?_
              refine WQ.blockN ?_
              refine WQ.thenC ?_
              refine WC.reg ?_
              refine WL.val (R_ar rfl rfl rfl) rfl rfl ?_
              refine WL.val (R_move rfl) rfl rfl ?_
              refine WL.nil ?_
              have hS := hS.pick [] [] rfl
              exact WQ.toJ ⟨(IntKind.i64.wrap (y183 + (1 : Int))), rfl, hS, h⟩ ⟨rfl, rfl, rfl, trivial⟩
          · refine WL.gskip rfl rfl rfl hb196 rfl ?_
            refine WL.gskip rfl rfl rfl hb196 rfl ?_
            refine WL.gskip rfl rfl rfl hb196 rfl ?_
            refine WL.gskip rfl rfl rfl hb196 rfl ?_
            refine WL.val (R_pickFb rfl hb196 rfl) rfl rfl ?_
            refine WL.nil ?_
            refine WQ.thenC ?_
            refine WC.condF rfl ?_
            refine WC.skip ?_
            refine WQ.blockN ?_
            refine WQ.thenC ?_
            refine WC.reg ?_
            refine WL.val (R_ar rfl rfl rfl) rfl rfl ?_
            refine WL.val (R_move rfl) rfl rfl ?_
            refine WL.nil ?_
            have hS := hS.pick [] [] rfl
            exact WQ.toJ ⟨(IntKind.i64.wrap (y183 + (1 : Int))), rfl, hS, h⟩ ⟨rfl, rfl, rfl, trivial⟩
        · have h := ifF hb191 h
          refine WC.exit ?_
          refine WQ.thenE ?_
          refine WQ.thenE ?_
          refine WQ.blockE ?_
          have hS := hS.pick [] [] rfl
          exact WQ.toJ ⟨Option.some.inj h, rfl, hS⟩ trivial
    · rintro _ w ⟨rfl, rfl, hS⟩
      have h := h175
      try dsimp only at h
      refine WC.seq ?_
      refine WC.reg ?_
      refine WL.val (R_assign rfl) rfl rfl ?_
      refine WL.nil ?_
      refine WQ.thenC ?_
      refine WC.ret ?_
      have hS0 := hS
      obtain rfl := Option.some.inj h
      exact ret_1 rfl rfl ⟨_, rfl, hS.bel, rfl⟩

def rules_spare (p422 : Node) : Option Bool :=
    if decide (p422.kind = (1 : Int)) = true then ((if decide ((p422.threshold : Int) = (0 : Int)) = true then (if decide (p422.feature = (0 : Int)) = true then (if decide ((p422.cats.length : Int) = (0 : Int)) = true then (if decide (p422.missing = (0 : Int)) = true then (if decide (p422.left = (0 : Int)) = true then (some (decide (p422.right = (0 : Int)))) else (some false)) else (some false)) else (some false)) else (some false)) else (some false) : Option Bool).bind fun y457 =>
    some y457) else (if decide (p422.kind = (2 : Int)) = true then ((if decide (p422.value = (0 : Int)) = true then (some (decide ((p422.cats.length : Int) = (0 : Int)))) else (some false) : Option Bool).bind fun y468 =>
    some y468) else (if decide (p422.value = (0 : Int)) = true then (some (decide ((p422.threshold : Int) = (0 : Int)))) else (some false)))

theorem rules_spare_ok {w0 : World} {M : MSet} (hM : ∀ k, M k → k < w0.heap.size) (p422 : Node) {A423 : Option Addr} {c424 : Nat} (hs425 : p422.cats.length ≤ c424 ∧ Sl (RI .i64) M w0 A423 p422.cats) (r : Bool) (h : rules_spare p422 = some r) :
    Calls Tryz.prog 214 #[.agg #[.int .u8 p422.kind, .int .i64 p422.value, .int .i64 p422.feature, .float .f64 p422.threshold, .slice A423 p422.cats.length c424, .int .u8 p422.missing, .int .i64 p422.left, .int .i64 p422.right]] w0 (Gives w0 fun v w' => v = .bool r) := by
  have hS := Sta.init hM
  have hS := hS.arg hs425
  unfold rules_spare at h
  refine calls_enter (n := 0) Tryz.func214 rfl [(0, .agg #[.int .u8 p422.kind, .int .i64 p422.value, .int .i64 p422.feature, .float .f64 p422.threshold, .slice A423 p422.cats.length c424, .int .u8 p422.missing, .int .i64 p422.left, .int .i64 p422.right])] rfl rfl ⟨rfl, trivial⟩ ?_
  refine WC.seq ?_
  refine WC.reg ?_
  refine WL.box [.int .u8 p422.kind, .int .i64 p422.value, .int .i64 p422.feature, .float .f64 p422.threshold, .slice A423 p422.cats.length c424, .int .u8 p422.missing, .int .i64 p422.left, .int .i64 p422.right] rfl rfl hS rfl ?_
  intro b450 w hS
  refine WL.val (R_assign rfl) rfl rfl ?_
  refine WL.nil ?_
  refine WQ.thenC ?_
  refine WC.seq ?_
  refine WC.reg ?_
  refine WL.val (R_fieldB o58_3 rfl) rfl rfl ?_
  refine WL.val (R_load1 g54 rfl (hS.cell 0 rfl rfl)) rfl rfl ?_
  refine WL.val (R_f64bits xb104 rfl) rfl rfl ?_
  refine WL.val (R_cmp rfl rfl rfl) rfl rfl ?_
  refine WL.val (R_assign rfl) rfl rfl ?_
  refine WL.nil ?_
  refine WQ.thenC ?_
  refine WC.seq ?_
  refine WC.seq ?_
  refine WC.reg ?_
  refine WL.val (R_fieldB o58_0 rfl) rfl rfl ?_
  refine WL.val (R_load1 g53 rfl (hS.cell 0 rfl rfl)) rfl rfl ?_
  refine WL.nil ?_
  refine WQ.thenC ?_
  refine WC.block ?_
  refine WC.seq ?_
  refine WC.reg ?_
  refine WL.val (R_cmp rfl rfl rfl) rfl rfl ?_
  refine WL.val (R_assign rfl) rfl rfl ?_
  refine WL.nil ?_
  refine WQ.thenC ?_
  refine WC.cond rfl (fun hb451 => ?_) (fun hb451 => ?_)
  · have h := ifT hb451 h
    obtain ⟨o458, h459, h460⟩ := bindS h
    refine WC.seqM (fun env w => ∃ (y457 : Bool), y457 = o458 ∧ env = [(2, .bool y457)] ∧ Sta w0 M [] [] w) ?_ ?_
    · have h := h459
      refine WC.reg ?_
      refine WL.val (R_move rfl) rfl rfl ?_
      refine WL.val (R_move rfl) rfl rfl ?_
      rcases boolS h with ⟨hb461, h⟩ | ⟨hb461, h⟩
      · refine WL.gvalb rfl rfl rfl hb461 (R_fieldB o58_2 rfl) rfl rfl ?_
        refine WL.gvalb rfl rfl rfl hb461 (R_load1 g3 rfl (hS.cell 0 rfl rfl)) rfl rfl ?_
        refine WL.gvalb rfl rfl rfl hb461 (R_cmp rfl rfl rfl) rfl rfl ?_
        refine WL.val (R_pickTb rfl hb461 rfl) rfl rfl ?_
        refine WL.val (R_move rfl) rfl rfl ?_
        rcases boolS h with ⟨hb462, h⟩ | ⟨hb462, h⟩
        · refine WL.gvalb rfl rfl rfl hb462 (R_fieldB o58_4 rfl) rfl rfl ?_
          refine WL.gvalb rfl rfl rfl hb462 (R_load1 g55 rfl (hS.cell 0 rfl rfl)) rfl rfl ?_
          refine WL.gvalb rfl rfl rfl hb462 (R_lenS u55 rfl) rfl rfl ?_
          refine WL.gvalb rfl rfl rfl hb462 (R_cmp rfl rfl rfl) rfl rfl ?_
          refine WL.val (R_pickTb rfl hb462 rfl) rfl rfl ?_
          refine WL.val (R_move rfl) rfl rfl ?_
          rcases boolS h with ⟨hb463, h⟩ | ⟨hb463, h⟩
          · refine WL.gvalb rfl rfl rfl hb463 (R_fieldB o58_5 rfl) rfl rfl ?_
            refine WL.gvalb rfl rfl rfl hb463 (R_load1 g56 rfl (hS.cell 0 rfl rfl)) rfl rfl ?_
            refine WL.gvalb rfl rfl rfl hb463 (R_cmp rfl rfl rfl) rfl rfl ?_
            refine WL.val (R_pickTb rfl hb463 rfl) rfl rfl ?_
            refine WL.val (R_move rfl) rfl rfl ?_
            rcases boolS h with ⟨hb464, h⟩ | ⟨hb464, h⟩
            · refine WL.gvalb rfl rfl rfl hb464 (R_fieldB o58_6 rfl) rfl rfl ?_
              refine WL.gvalb rfl rfl rfl hb464 (R_load1 g3 rfl (hS.cell 0 rfl rfl)) rfl rfl ?_
              refine WL.gvalb rfl rfl rfl hb464 (R_cmp rfl rfl rfl) rfl rfl ?_
              refine WL.val (R_pickTb rfl hb464 rfl) rfl rfl ?_
              refine WL.val (R_move rfl) rfl rfl ?_
              rcases boolS h with ⟨hb465, h⟩ | ⟨hb465, h⟩
              · refine WL.gvalb rfl rfl rfl hb465 (R_fieldB o58_7 rfl) rfl rfl ?_
                refine WL.gvalb rfl rfl rfl hb465 (R_load1 g3 rfl (hS.cell 0 rfl rfl)) rfl rfl ?_
                refine WL.gvalb rfl rfl rfl hb465 (R_cmp rfl rfl rfl) rfl rfl ?_
                refine WL.val (R_pickTb rfl hb465 rfl) rfl rfl ?_
                refine WL.val (R_assign rfl) rfl rfl ?_
                refine WL.nil ?_
                have hS := hS.pick [] [] rfl
                exact WQ.toJ ⟨decide (p422.right = (0 : Int)), Option.some.inj h, rfl, hS⟩ ⟨rfl, trivial⟩
              · refine WL.gskip rfl rfl rfl hb465 rfl ?_
                refine WL.gskip rfl rfl rfl hb465 rfl ?_
                refine WL.gskip rfl rfl rfl hb465 rfl ?_
                refine WL.val (R_pickFb rfl hb465 rfl) rfl rfl ?_
                refine WL.val (R_assign rfl) rfl rfl ?_
                refine WL.nil ?_
                have hS := hS.pick [] [] rfl
                exact WQ.toJ ⟨false, Option.some.inj h, rfl, hS⟩ ⟨rfl, trivial⟩
            · refine WL.gskip rfl rfl rfl hb464 rfl ?_
              refine WL.gskip rfl rfl rfl hb464 rfl ?_
              refine WL.gskip rfl rfl rfl hb464 rfl ?_
              refine WL.val (R_pickFb rfl hb464 rfl) rfl rfl ?_
              refine WL.val (R_move rfl) rfl rfl ?_
              refine WL.gskip rfl rfl rfl rfl rfl ?_
              refine WL.gskip rfl rfl rfl rfl rfl ?_
              refine WL.gskip rfl rfl rfl rfl rfl ?_
              refine WL.val (R_pickFb rfl rfl rfl) rfl rfl ?_
              refine WL.val (R_assign rfl) rfl rfl ?_
              refine WL.nil ?_
              have hS := hS.pick [] [] rfl
              exact WQ.toJ ⟨false, Option.some.inj h, rfl, hS⟩ ⟨rfl, trivial⟩
          · refine WL.gskip rfl rfl rfl hb463 rfl ?_
            refine WL.gskip rfl rfl rfl hb463 rfl ?_
            refine WL.gskip rfl rfl rfl hb463 rfl ?_
            refine WL.val (R_pickFb rfl hb463 rfl) rfl rfl ?_
            refine WL.val (R_move rfl) rfl rfl ?_
            refine WL.gskip rfl rfl rfl rfl rfl ?_
            refine WL.gskip rfl rfl rfl rfl rfl ?_
            refine WL.gskip rfl rfl rfl rfl rfl ?_
            refine WL.val (R_pickFb rfl rfl rfl) rfl rfl ?_
            refine WL.val (R_move rfl) rfl rfl ?_
            refine WL.gskip rfl rfl rfl rfl rfl ?_
            refine WL.gskip rfl rfl rfl rfl rfl ?_
            refine WL.gskip rfl rfl rfl rfl rfl ?_
            refine WL.val (R_pickFb rfl rfl rfl) rfl rfl ?_
            refine WL.val (R_assign rfl) rfl rfl ?_
            refine WL.nil ?_
            have hS := hS.pick [] [] rfl
            exact WQ.toJ ⟨false, Option.some.inj h, rfl, hS⟩ ⟨rfl, trivial⟩
        · refine WL.gskip rfl rfl rfl hb462 rfl ?_
          refine WL.gskip rfl rfl rfl hb462 rfl ?_
          refine WL.gskip rfl rfl rfl hb462 rfl ?_
          refine WL.gskip rfl rfl rfl hb462 rfl ?_
          refine WL.val (R_pickFb rfl hb462 rfl) rfl rfl ?_
          refine WL.val (R_move rfl) rfl rfl ?_
          refine WL.gskip rfl rfl rfl rfl rfl ?_
          refine WL.gskip rfl rfl rfl rfl rfl ?_
          refine WL.gskip rfl rfl rfl rfl rfl ?_
          refine WL.val (R_pickFb rfl rfl rfl) rfl rfl ?_
          refine WL.val (R_move rfl) rfl rfl ?_
          refine WL.gskip rfl rfl rfl rfl rfl ?_
          refine WL.gskip rfl rfl rfl rfl rfl ?_
          refine WL.gskip rfl rfl rfl rfl rfl ?_
          refine WL.val (R_pickFb rfl rfl rfl) rfl rfl ?_
          refine WL.val (R_move rfl) rfl rfl ?_
          refine WL.gskip rfl rfl rfl rfl rfl ?_
          refine WL.gskip rfl rfl rfl rfl rfl ?_
          refine WL.gskip rfl rfl rfl rfl rfl ?_
          refine WL.val (R_pickFb rfl rfl rfl) rfl rfl ?_
          refine WL.val (R_assign rfl) rfl rfl ?_
          refine WL.nil ?_
          have hS := hS.pick [] [] rfl
          exact WQ.toJ ⟨false, Option.some.inj h, rfl, hS⟩ ⟨rfl, trivial⟩
      · refine WL.gskip rfl rfl rfl hb461 rfl ?_
        refine WL.gskip rfl rfl rfl hb461 rfl ?_
        refine WL.gskip rfl rfl rfl hb461 rfl ?_
        refine WL.val (R_pickFb rfl hb461 rfl) rfl rfl ?_
        refine WL.val (R_move rfl) rfl rfl ?_
        refine WL.gskip rfl rfl rfl rfl rfl ?_
        refine WL.gskip rfl rfl rfl rfl rfl ?_
        refine WL.gskip rfl rfl rfl rfl rfl ?_
        refine WL.gskip rfl rfl rfl rfl rfl ?_
        refine WL.val (R_pickFb rfl rfl rfl) rfl rfl ?_
        refine WL.val (R_move rfl) rfl rfl ?_
        refine WL.gskip rfl rfl rfl rfl rfl ?_
        refine WL.gskip rfl rfl rfl rfl rfl ?_
        refine WL.gskip rfl rfl rfl rfl rfl ?_
        refine WL.val (R_pickFb rfl rfl rfl) rfl rfl ?_
        refine WL.val (R_move rfl) rfl rfl ?_
        refine WL.gskip rfl rfl rfl rfl rfl ?_
        refine WL.gskip rfl rfl rfl rfl rfl ?_
        refine WL.gskip rfl rfl rfl rfl rfl ?_
        refine WL.val (R_pickFb rfl rfl rfl) rfl rfl ?_
        refine WL.val (R_move rfl) rfl rfl ?_
        refine WL.gskip rfl rfl rfl rfl rfl ?_
        refine WL.gskip rfl rfl rfl rfl rfl ?_
        refine WL.gskip rfl rfl rfl rfl rfl ?_
        refine WL.val (R_pickFb rfl rfl rfl) rfl rfl ?_
        refine WL.val (R_assign rfl) rfl rfl ?_
        refine WL.nil ?_
        have hS := hS.pick [] [] rfl
        exact WQ.toJ ⟨false, Option.some.inj h, rfl, hS⟩ ⟨rfl, trivial⟩
    · rintro _ w ⟨y457, rfl, rfl, hS⟩
      have h := h460
      try dsimp only at h
      refine WC.ret ?_
      refine WQ.blockR ?_
      refine WQ.thenR ?_
      have hS0 := hS
      obtain rfl := Option.some.inj h
      exact ret_1 rfl rfl ⟨_, rfl, hS.bel, rfl⟩
  · have h := ifF hb451 h
    refine WC.seq ?_
    refine WC.reg ?_
    refine WL.val (R_cmp rfl rfl rfl) rfl rfl ?_
    refine WL.val (R_assign rfl) rfl rfl ?_
    refine WL.nil ?_
    refine WQ.thenC ?_
    refine WC.cond rfl (fun hb466 => ?_) (fun hb466 => ?_)
    · have h := ifT hb466 h
      obtain ⟨o469, h470, h471⟩ := bindS h
      refine WC.seqM (fun env w => ∃ (y468 : Bool), y468 = o469 ∧ env = [(2, .bool y468)] ∧ Sta w0 M [] [] w) ?_ ?_
      · have h := h470
        refine WC.reg ?_
        refine WL.val (R_fieldB o58_1 rfl) rfl rfl ?_
        refine WL.val (R_load1 g2 rfl (hS.cell 0 rfl rfl)) rfl rfl ?_
        refine WL.val (R_cmp rfl rfl rfl) rfl rfl ?_
        refine WL.val (R_move rfl) rfl rfl ?_
        rcases boolS h with ⟨hb472, h⟩ | ⟨hb472, h⟩
        · refine WL.gvalb rfl rfl rfl hb472 (R_fieldB o58_4 rfl) rfl rfl ?_
          refine WL.gvalb rfl rfl rfl hb472 (R_load1 g55 rfl (hS.cell 0 rfl rfl)) rfl rfl ?_
          refine WL.gvalb rfl rfl rfl hb472 (R_lenS u55 rfl) rfl rfl ?_
          refine WL.gvalb rfl rfl rfl hb472 (R_cmp rfl rfl rfl) rfl rfl ?_
          refine WL.val (R_pickTb rfl hb472 rfl) rfl rfl ?_
          refine WL.val (R_assign rfl) rfl rfl ?_
          refine WL.nil ?_
          have hS := hS.pick [] [] rfl
          exact WQ.toJ ⟨decide ((p422.cats.length : Int) = (0 : Int)), Option.some.inj h, rfl, hS⟩ ⟨rfl, trivial⟩
        · refine WL.gskip rfl rfl rfl hb472 rfl ?_
          refine WL.gskip rfl rfl rfl hb472 rfl ?_
          refine WL.gskip rfl rfl rfl hb472 rfl ?_
          refine WL.gskip rfl rfl rfl hb472 rfl ?_
          refine WL.val (R_pickFb rfl hb472 rfl) rfl rfl ?_
          refine WL.val (R_assign rfl) rfl rfl ?_
          refine WL.nil ?_
          have hS := hS.pick [] [] rfl
          exact WQ.toJ ⟨false, Option.some.inj h, rfl, hS⟩ ⟨rfl, trivial⟩
      · rintro _ w ⟨y468, rfl, rfl, hS⟩
        have h := h471
        try dsimp only at h
        refine WC.ret ?_
        refine WQ.blockR ?_
        refine WQ.thenR ?_
        have hS0 := hS
        obtain rfl := Option.some.inj h
        exact ret_1 rfl rfl ⟨_, rfl, hS.bel, rfl⟩
    · have h := ifF hb466 h
      refine WC.skip ?_
      refine WQ.blockN ?_
      refine WQ.thenC ?_
      refine WC.seq ?_
      refine WC.reg ?_
      refine WL.val (R_fieldB o58_1 rfl) rfl rfl ?_
      refine WL.val (R_load1 g2 rfl (hS.cell 0 rfl rfl)) rfl rfl ?_
      refine WL.val (R_cmp rfl rfl rfl) rfl rfl ?_
      refine WL.val (R_move rfl) rfl rfl ?_
      rcases boolS h with ⟨hb473, h⟩ | ⟨hb473, h⟩
      · refine WL.gvalb rfl rfl rfl hb473 (R_move rfl) rfl rfl ?_
        refine WL.val (R_pickTb rfl hb473 rfl) rfl rfl ?_
        refine WL.val (R_assign rfl) rfl rfl ?_
        refine WL.nil ?_
        refine WQ.thenC ?_
        refine WC.ret ?_
        have hS0 := hS
        obtain rfl := Option.some.inj h
        exact ret_1 rfl rfl ⟨_, rfl, hS.bel, rfl⟩
      · refine WL.gskip rfl rfl rfl hb473 rfl ?_
        refine WL.val (R_pickFb rfl hb473 rfl) rfl rfl ?_
        refine WL.val (R_assign rfl) rfl rfl ?_
        refine WL.nil ?_
        refine WQ.thenC ?_
        refine WC.ret ?_
        have hS0 := hS
        obtain rfl := Option.some.inj h
        exact ret_1 rfl rfl ⟨_, rfl, hS.bel, rfl⟩

def rules_cats_l0 (k : Nat) (p491 : List Int) : Nat → Int → Option (Fl Bool Unit)
  | 0, _ => none
  | m + 1, y611 =>
    if decide (y611 < (p491.length : Int)) = true then ((rd p491 y611).bind fun x634 =>
    if decide (x634 < (0 : Int)) = true then ((some false).map Fl.ret) else (if decide ((1024 : Int) ≤ x634) = true then ((some false).map Fl.ret) else (if decide ((0 : Int) < y611) = true then ((rd p491 (IntKind.i64.wrap (y611 - (1 : Int)))).bind fun x645 =>
    if decide (x634 ≤ x645) = true then ((some false).map Fl.ret) else (rules_cats_l0 k p491 m (IntKind.i64.wrap (y611 + (1 : Int))))) else (rules_cats_l0 k p491 m (IntKind.i64.wrap (y611 + (1 : Int))))))) else (some (.go ()))

def rules_cats (k : Nat) (p491 : List Int) : Option Bool :=
    (rules_cats_l0 k p491 k (0 : Int) : Option (Fl Bool Unit)).bind fun o => match o with
    | .ret r => some r
    | .go _ =>
    (some (decide ((0 : Int) < (p491.length : Int))))

theorem rules_cats_ok {w0 : World} {M : MSet} (hM : ∀ k, M k → k < w0.heap.size) (k : Nat) (p491 : List Int) {A492 : Option Addr} {c493 : Nat} (hs494 : p491.length ≤ c493 ∧ Sl (RI .i64) M w0 A492 p491) (r : Bool) (h : rules_cats k p491 = some r) :
    Calls Tryz.prog 218 #[.slice A492 p491.length c493] w0 (Gives w0 fun v w' => v = .bool r) := by
  have hS := Sta.init hM
  have hS := hS.arg hs494
  unfold rules_cats at h
  refine calls_enter (n := 0) Tryz.func218 rfl [(0, .slice A492 p491.length c493)] rfl rfl ⟨rfl, trivial⟩ ?_
  refine WC.seq ?_
  refine WC.reg ?_
  refine WL.val (R_assign rfl) rfl rfl ?_
  refine WL.nil ?_
  refine WQ.thenC ?_
  obtain ⟨o597, h598, h599⟩ := bindS h
  refine WC.seqM (fun env w => Fl.go () = o597 ∧ env = [(0, .slice A492 p491.length c493)] ∧ Sta w0 M [] [FSl (RI .i64) A492 c493 p491] w) ?_ ?_
  · have h := h598
    refine WC.seq ?_
    refine WC.reg ?_
    refine WL.val (R_move rfl) rfl rfl ?_
    refine WL.val (R_lenS u55 rfl) rfl rfl ?_
    refine WL.val (R_move rfl) rfl rfl ?_
    refine WL.nil ?_
    refine WQ.thenC ?_
    refine WC.block ?_
    have hS := hS.pick [] [0] rfl
    refine WC.loopJ (fun m env w => ∃ (y611 : Int), env = [(0, .slice A492 p491.length c493), (5, .slice A492 p491.length c493), (6, .int .i64 (p491.length : Int)), (7, .int .i64 y611)] ∧ Sta w0 M [] [FSl (RI .i64) A492 c493 p491] w ∧ rules_cats_l0 k p491 m y611 = some o597) k ⟨(0 : Int), rfl, hS, h⟩ ⟨rfl, rfl, rfl, rfl, trivial⟩ (fun env w hI => ?_) (fun m env w hI => ?_)
    · obtain ⟨y611, rfl, hS, h⟩ := hI
      rw [rules_cats_l0] at h
      cases h
    · obtain ⟨y611, rfl, hS, h⟩ := hI
      rw [rules_cats_l0] at h
      refine WC.seq ?_
      refine WC.reg ?_
      refine WL.val (R_cmp rfl rfl rfl) rfl rfl ?_
      refine WL.nil ?_
      refine WQ.thenC ?_
      refine WC.seq ?_
      refine WC.cond rfl (fun hb633 => ?_) (fun hb633 => ?_)
      · have h := ifT hb633 h
        refine WC.skip ?_
        refine WQ.thenC ?_
        refine WC.seq ?_
        refine WC.block ?_
        refine WC.seq ?_
        refine WC.reg ?_
        refine WL.val (R_move rfl) rfl rfl ?_
        obtain ⟨x634, hx635, h⟩ := bindS h
        obtain ⟨ad636, cs637, hA638, hq639, hK640, hc641⟩ := hS.sget 0 rfl (rdS hx635).2.2
        obtain rfl := hK640
        refine WL.val (R_indexAddr u55 z3 rfl rfl hA638 (rdS hx635).1 hq639) rfl rfl ?_
        refine WL.val (R_load1 g3 rfl (hc641 0 _ rfl)) rfl rfl ?_
        refine WL.val (R_assign rfl) rfl rfl ?_
        refine WL.val (R_assign rfl) rfl rfl ?_
        refine WL.nil ?_
        refine WQ.thenC ?_
        refine WC.seq ?_
        refine WC.reg ?_
        refine WL.val (R_move rfl) rfl rfl ?_
        refine WL.val (R_cmp rfl rfl rfl) rfl rfl ?_
        refine WL.val (R_move rfl) rfl rfl ?_
        rcases boolS h with ⟨hb642, h⟩ | ⟨hb642, h⟩
        · refine WL.gskip rfl rfl rfl hb642 rfl ?_
          refine WL.gskip rfl rfl rfl hb642 rfl ?_
          refine WL.val (R_pickTb rfl hb642 rfl) rfl rfl ?_
          refine WL.val (R_move rfl) rfl rfl ?_
          refine WL.gskip rfl rfl rfl rfl rfl ?_
          refine WL.gskip rfl rfl rfl rfl rfl ?_
          refine WL.gskip rfl rfl rfl rfl rfl ?_
          refine WL.gskipU rfl rfl rfl rfl ?_
          refine WL.gskipU rfl rfl rfl rfl ?_
          refine WL.gskipU rfl rfl rfl rfl ?_
          refine WL.gskipU rfl rfl rfl rfl ?_
          refine WL.gskipU rfl rfl rfl rfl ?_
          refine WL.gskipU rfl rfl rfl rfl ?_
          refine WL.gskipU rfl rfl rfl rfl ?_
          refine WL.gskip rfl rfl rfl rfl rfl ?_
          refine WL.val (R_pickTb rfl rfl rfl) rfl rfl ?_
          refine WL.nil ?_
          refine WQ.thenC ?_
          refine WC.condT rfl ?_
          refine WC.seq ?_
          refine WC.reg ?_
          refine WL.val (R_assign rfl) rfl rfl ?_
          refine WL.nil ?_
          refine WQ.thenC ?_
          refine WC.ret ?_
          refine WQ.blockR ?_
          refine WQ.thenR ?_
          refine WQ.thenR ?_
          refine WQ.blockR ?_
          refine WQ.thenR ?_
          obtain ⟨_, hr, rfl⟩ := mapS h
          have h := hr.trans h599
          have hS0 := hS
          obtain rfl := Option.some.inj h
          exact ret_1 rfl rfl ⟨_, rfl, hS.bel, rfl⟩
        · refine WL.gvalb rfl rfl rfl hb642 (R_move rfl) rfl rfl ?_
          refine WL.gvalb rfl rfl rfl hb642 (R_cmp rfl rfl rfl) rfl rfl ?_
          refine WL.val (R_pickFb rfl hb642 rfl) rfl rfl ?_
          refine WL.val (R_move rfl) rfl rfl ?_
          rcases boolS h with ⟨hb643, h⟩ | ⟨hb643, h⟩
          · refine WL.gskip rfl rfl rfl hb643 rfl ?_
            refine WL.gskip rfl rfl rfl hb643 rfl ?_
            refine WL.gskip rfl rfl rfl hb643 rfl ?_
            refine WL.gskipU rfl rfl rfl rfl ?_
            refine WL.gskipU rfl rfl rfl rfl ?_
            refine WL.gskipU rfl rfl rfl rfl ?_
            refine WL.gskipU rfl rfl rfl rfl ?_
            refine WL.gskipU rfl rfl rfl rfl ?_
            refine WL.gskipU rfl rfl rfl rfl ?_
            refine WL.gskipU rfl rfl rfl rfl ?_
            refine WL.gskip rfl rfl rfl hb643 rfl ?_
            refine WL.val (R_pickTb rfl hb643 rfl) rfl rfl ?_
            refine WL.nil ?_
            refine WQ.thenC ?_
            refine WC.condT rfl ?_
            refine WC.seq ?_
            refine WC.reg ?_
            refine WL.val (R_assign rfl) rfl rfl ?_
            refine WL.nil ?_
            refine WQ.thenC ?_
            refine WC.ret ?_
            refine WQ.blockR ?_
            refine WQ.thenR ?_
            refine WQ.thenR ?_
            refine WQ.blockR ?_
            refine WQ.thenR ?_
            obtain ⟨_, hr, rfl⟩ := mapS h
            have h := hr.trans h599
            have hS0 := hS
            obtain rfl := Option.some.inj h
            exact ret_1 rfl rfl ⟨_, rfl, hS.bel, rfl⟩
          · refine WL.gvalb rfl rfl rfl hb643 (R_move rfl) rfl rfl ?_
            refine WL.gvalb rfl rfl rfl hb643 (R_cmp rfl rfl rfl) rfl rfl ?_
            refine WL.gvalb rfl rfl rfl hb643 (R_move rfl) rfl rfl ?_
            rcases boolS h with ⟨hb644, h⟩ | ⟨hb644, h⟩
            · refine WL.gvalb rfl rfl rfl hb644 (R_move rfl) rfl rfl ?_
              refine WL.gvalb rfl rfl rfl hb644 (R_move rfl) rfl rfl ?_
              refine WL.gvalb rfl rfl rfl hb644 (R_move rfl) rfl rfl ?_
              refine WL.gvalb rfl rfl rfl hb644 (R_ar rfl rfl rfl) rfl rfl ?_
              obtain ⟨x645, hx646, h⟩ := bindS h
              obtain ⟨ad647, cs648, hA649, hq650, hK651, hc652⟩ := hS.sget 0 rfl (rdS hx646).2.2
              obtain rfl := hK651
              refine WL.gvalb rfl rfl rfl hb644 (R_indexAddr u55 z3 rfl rfl hA649 (rdS hx646).1 hq650) rfl rfl ?_
              refine WL.gvalb rfl rfl rfl hb644 (R_load1 g3 rfl (hc652 0 _ rfl)) rfl rfl ?_
              refine WL.gvalb rfl rfl rfl hb644 (R_cmp rfl rfl rfl) rfl rfl ?_
              refine WL.gvalb rfl rfl rfl hb643 (R_pickTb rfl hb644 rfl) rfl rfl ?_
              refine WL.val (R_pickFb rfl hb643 rfl) rfl rfl ?_
              refine WL.nil ?_
              refine WQ.thenC ?_
              refine WC.cond rfl (fun hb653 => ?_) (fun hb653 => ?_)
              · have h := ifT hb653 h
                refine WC.seq ?_
                refine WC.reg ?_
                refine WL.val (R_assign rfl) rfl rfl ?_
                refine WL.nil ?_
                refine WQ.thenC ?_
                refine WC.ret ?_
                refine WQ.blockR ?_
                refine WQ.thenR ?_
                refine WQ.thenR ?_
                refine WQ.blockR ?_
                refine WQ.thenR ?_
                obtain ⟨_, hr, rfl⟩ := mapS h
                have h := hr.trans h599
                have hS0 := hS
                obtain rfl := Option.some.inj h
                exact ret_1 rfl rfl ⟨_, rfl, hS.bel, rfl⟩
              · have h := ifF hb653 h
                refine WC.skip ?_
                refine WQ.blockN ?_
                refine WQ.thenC ?_
                refine WC.reg ?_
                refine WL.val (R_ar rfl rfl rfl) rfl rfl ?_
                refine WL.val (R_move rfl) rfl rfl ?_
                refine WL.nil ?_
                have hS := hS.pick [] [0] rfl
                exact WQ.toJ ⟨(IntKind.i64.wrap (y611 + (1 : Int))), rfl, hS, h⟩ ⟨rfl, rfl, rfl, rfl, trivial⟩
            · refine WL.gskip rfl rfl rfl hb644 rfl ?_
              refine WL.gskip rfl rfl rfl hb644 rfl ?_
              refine WL.gskip rfl rfl rfl hb644 rfl ?_
              refine WL.gskip rfl rfl rfl hb644 rfl ?_
              refine WL.gskip rfl rfl rfl hb644 rfl ?_
              refine WL.gskip rfl rfl rfl hb644 rfl ?_
              refine WL.gskip rfl rfl rfl hb644 rfl ?_
              refine WL.gvalb rfl rfl rfl hb643 (R_pickFb rfl hb644 rfl) rfl rfl ?_
              refine WL.val (R_pickFb rfl hb643 rfl) rfl rfl ?_
              refine WL.nil ?_
              refine WQ.thenC ?_
              refine WC.condF rfl ?_
              refine WC.skip ?_
              refine WQ.blockN ?_
              refine WQ.thenC ?_
              refine WC.reg ?_
              refine WL.val (R_ar rfl rfl rfl) rfl rfl ?_
              refine WL.val (R_move rfl) rfl rfl ?_
              refine WL.nil ?_
              have hS := hS.pick [] [0] rfl
              exact WQ.toJ ⟨(IntKind.i64.wrap (y611 + (1 : Int))), rfl, hS, h⟩ ⟨rfl, rfl, rfl, rfl, trivial⟩
      · have h := ifF hb633 h
        refine WC.exit ?_
        refine WQ.thenE ?_
        refine WQ.thenE ?_
        refine WQ.blockE ?_
        have hS := hS.pick [] [0] rfl
        exact WQ.toJ ⟨Option.some.inj h, rfl, hS⟩ ⟨rfl, trivial⟩
  · rintro _ w ⟨rfl, rfl, hS⟩
    have h := h599
    try dsimp only at h
    refine WC.seq ?_
    refine WC.reg ?_
    refine WL.val (R_move rfl) rfl rfl ?_
    refine WL.val (R_lenS u55 rfl) rfl rfl ?_
    refine WL.val (R_cmp rfl rfl rfl) rfl rfl ?_
    refine WL.val (R_assign rfl) rfl rfl ?_
    refine WL.nil ?_
    refine WQ.thenC ?_
    refine WC.ret ?_
    have hS0 := hS
    obtain rfl := Option.some.inj h
    exact ret_1 rfl rfl ⟨_, rfl, hS.bel, rfl⟩

def rules_node (k : Nat) (p391 : Ensemble) (p401 : Node) (p405 : Int) : Option Int :=
    ((if decide ((1 : Int) ≤ p401.kind) = true then (some (decide (p401.kind ≤ (3 : Int)))) else (some false) : Option Bool).bind fun r680 =>
    if (!r680) = true then (some ((13 : Int), true)) else (((rules_spare p401).bind fun r687 =>
    some r687 : Option Bool).bind fun r685 =>
    if (!r685) = true then (some ((14 : Int), true)) else ((if (!(decide (p401.kind ≠ (1 : Int)))) = true then (some true) else (if decide ((0 : Int) ≤ p401.feature) = true then (some (decide (p401.feature < (p391.features.length : Int)))) else (some false)) : Option Bool).bind fun r691 =>
    if (!r691) = true then (some ((15 : Int), true)) else ((some (cmpF .eql p401.threshold p401.threshold) : Option Bool).bind fun r697 =>
    if (!r697) = true then (some ((16 : Int), true)) else ((if decide (p401.kind ≠ (3 : Int)) = true then (some true) else ((rules_cats k p401.cats).bind fun r704 =>
    some r704) : Option Bool).bind fun r701 =>
    if (!r701) = true then (some ((17 : Int), true)) else ((if (!(decide (p401.kind ≠ (1 : Int)))) = true then (some true) else (if decide (p401.missing = (1 : Int)) = true then (some true) else (some (decide (p401.missing = (2 : Int))))) : Option Bool).bind fun r708 =>
    if (!r708) = true then (some ((18 : Int), true)) else ((if (!(decide (p401.kind ≠ (1 : Int)))) = true then (some true) else (if decide ((1 : Int) ≤ p401.left) = true then (if decide (p401.left < p405) = true then (if decide ((1 : Int) ≤ p401.right) = true then (some (decide (p401.right < p405))) else (some false)) else (some false)) else (some false)) : Option Bool).bind fun r714 =>
    if (!r714) = true then (some ((19 : Int), true)) else (some ((0 : Int), false)))))))) : Option (Int × Bool)).bind fun ⟨r676, r677⟩ =>
    some r676

theorem rules_node_ok {w0 : World} {M : MSet} (hM : ∀ k, M k → k < w0.heap.size) (k : Nat) (p391 : Ensemble) (p401 : Node) (p405 : Int) {A392 : Option Addr} {c393 : Nat} (hs394 : p391.features.length ≤ c393 ∧ Sl RStr M w0 A392 p391.features) {A395 : Option Addr} {c396 : Nat} (hs397 : p391.base.length ≤ c396 ∧ Sl (RI .i64) M w0 A395 p391.base) {A398 : Option Addr} {c399 : Nat} (hs400 : p391.trees.length ≤ c399 ∧ Sl RTree M w0 A398 p391.trees) {A402 : Option Addr} {c403 : Nat} (hs404 : p401.cats.length ≤ c403 ∧ Sl (RI .i64) M w0 A402 p401.cats) (r : Int) (h : rules_node k p391 p401 p405 = some r) :
    Calls Tryz.prog 175 #[.agg #[.string p391.name, .slice A392 p391.features.length c393, .int .i64 p391.outputs, .slice A395 p391.base.length c396, .slice A398 p391.trees.length c399], .agg #[.int .u8 p401.kind, .int .i64 p401.value, .int .i64 p401.feature, .float .f64 p401.threshold, .slice A402 p401.cats.length c403, .int .u8 p401.missing, .int .i64 p401.left, .int .i64 p401.right], .int .i64 p405] w0 (Gives w0 fun v w' => v = .int .i64 r) := by
  have hS := Sta.init hM
  have hS := hS.arg hs394
  have hS := hS.arg hs397
  have hS := hS.arg hs400
  have hS := hS.arg hs404
  unfold rules_node at h
  refine calls_enter (n := 0) Tryz.func175 rfl [(0, .agg #[.string p391.name, .slice A392 p391.features.length c393, .int .i64 p391.outputs, .slice A395 p391.base.length c396, .slice A398 p391.trees.length c399]), (1, .agg #[.int .u8 p401.kind, .int .i64 p401.value, .int .i64 p401.feature, .float .f64 p401.threshold, .slice A402 p401.cats.length c403, .int .u8 p401.missing, .int .i64 p401.left, .int .i64 p401.right]), (2, .int .i64 p405)] rfl rfl ⟨rfl, rfl, rfl, trivial⟩ ?_
  refine WC.seq ?_
  refine WC.reg ?_
  refine WL.box [.string p391.name, .slice A392 p391.features.length c393, .int .i64 p391.outputs, .slice A395 p391.base.length c396, .slice A398 p391.trees.length c399] rfl rfl hS rfl ?_
  intro b671 w hS
  refine WL.box [.int .u8 p401.kind, .int .i64 p401.value, .int .i64 p401.feature, .float .f64 p401.threshold, .slice A402 p401.cats.length c403, .int .u8 p401.missing, .int .i64 p401.left, .int .i64 p401.right] rfl rfl hS rfl ?_
  intro b672 w hS
  refine WL.box [.int .i64 p405] rfl rfl hS rfl ?_
  intro b673 w hS
  refine WL.val (R_assign rfl) rfl rfl ?_
  refine WL.nil ?_
  refine WQ.thenC ?_
  refine WC.seq ?_
  refine WC.reg ?_
  refine WL.val (R_fieldB o58_0 rfl) rfl rfl ?_
  refine WL.val (R_load1 g53 rfl (hS.cell 1 rfl rfl)) rfl rfl ?_
  refine WL.val (R_cmp rfl rfl rfl) rfl rfl ?_
  refine WL.alloc _ z4 rfl hS rfl ?_
  intro b674 w hS
  refine WL.storeB 0 [.bool (decide (p401.kind ≠ (1 : Int)))] g4 hS rfl rfl rfl rfl rfl rfl rfl [.bool (decide (p401.kind ≠ (1 : Int)))] rfl ?_
  intro w hS
  refine WL.nil ?_
  refine WQ.thenC ?_
  refine WC.seq ?_
  refine WC.reg ?_
  refine WL.val (R_func (fs := #[]) (cs := #[.pointer (some ⟨b672, 0, none⟩)]) rfl rfl) rfl rfl ?_
  refine WL.val (R_build (cells := #[.int .i64 (13 : Int), .func (.func 212) #[] #[.pointer (some ⟨b672, 0, none⟩)]]) rfl (by kernel_rfl)) rfl rfl ?_
  refine WL.val (R_func (fs := #[]) (cs := #[.pointer (some ⟨b672, 0, none⟩)]) rfl rfl) rfl rfl ?_
  refine WL.val (R_build (cells := #[.int .i64 (14 : Int), .func (.func 213) #[] #[.pointer (some ⟨b672, 0, none⟩)]]) rfl (by kernel_rfl)) rfl rfl ?_
  refine WL.val (R_func (fs := #[]) (cs := #[.pointer (some ⟨b674, 0, none⟩), .pointer (some ⟨b672, 0, none⟩), .pointer (some ⟨b671, 0, none⟩)]) rfl rfl) rfl rfl ?_
  refine WL.val (R_build (cells := #[.int .i64 (15 : Int), .func (.func 215) #[] #[.pointer (some ⟨b674, 0, none⟩), .pointer (some ⟨b672, 0, none⟩), .pointer (some ⟨b671, 0, none⟩)]]) rfl (by kernel_rfl)) rfl rfl ?_
  refine WL.val (R_func (fs := #[]) (cs := #[.pointer (some ⟨b672, 0, none⟩)]) rfl rfl) rfl rfl ?_
  refine WL.val (R_build (cells := #[.int .i64 (16 : Int), .func (.func 216) #[] #[.pointer (some ⟨b672, 0, none⟩)]]) rfl (by kernel_rfl)) rfl rfl ?_
  refine WL.val (R_func (fs := #[]) (cs := #[.pointer (some ⟨b672, 0, none⟩)]) rfl rfl) rfl rfl ?_
  refine WL.val (R_build (cells := #[.int .i64 (17 : Int), .func (.func 217) #[] #[.pointer (some ⟨b672, 0, none⟩)]]) rfl (by kernel_rfl)) rfl rfl ?_
  refine WL.val (R_func (fs := #[]) (cs := #[.pointer (some ⟨b674, 0, none⟩), .pointer (some ⟨b672, 0, none⟩)]) rfl rfl) rfl rfl ?_
  refine WL.val (R_build (cells := #[.int .i64 (18 : Int), .func (.func 219) #[] #[.pointer (some ⟨b674, 0, none⟩), .pointer (some ⟨b672, 0, none⟩)]]) rfl (by kernel_rfl)) rfl rfl ?_
  refine WL.val (R_func (fs := #[]) (cs := #[.pointer (some ⟨b674, 0, none⟩), .pointer (some ⟨b672, 0, none⟩), .pointer (some ⟨b673, 0, none⟩)]) rfl rfl) rfl rfl ?_
  refine WL.val (R_build (cells := #[.int .i64 (19 : Int), .func (.func 220) #[] #[.pointer (some ⟨b674, 0, none⟩), .pointer (some ⟨b672, 0, none⟩), .pointer (some ⟨b673, 0, none⟩)]]) rfl (by kernel_rfl)) rfl rfl ?_
  refine WL.lit [.int .i64 (13 : Int), .func (.func 212) #[] #[.pointer (some ⟨b672, 0, none⟩)], .int .i64 (14 : Int), .func (.func 213) #[] #[.pointer (some ⟨b672, 0, none⟩)], .int .i64 (15 : Int), .func (.func 215) #[] #[.pointer (some ⟨b674, 0, none⟩), .pointer (some ⟨b672, 0, none⟩), .pointer (some ⟨b671, 0, none⟩)], .int .i64 (16 : Int), .func (.func 216) #[] #[.pointer (some ⟨b672, 0, none⟩)], .int .i64 (17 : Int), .func (.func 217) #[] #[.pointer (some ⟨b672, 0, none⟩)], .int .i64 (18 : Int), .func (.func 219) #[] #[.pointer (some ⟨b674, 0, none⟩), .pointer (some ⟨b672, 0, none⟩)], .int .i64 (19 : Int), .func (.func 220) #[] #[.pointer (some ⟨b674, 0, none⟩), .pointer (some ⟨b672, 0, none⟩), .pointer (some ⟨b673, 0, none⟩)]] u198 rfl (by kernel_rfl) hS rfl ?_
  intro b675 w hS
  obtain ⟨⟨r676, r677⟩, hr678, h⟩ := bindS h
  try dsimp only at h
  refine WL.callR (Φ := fun v w => v = .tuple #[.int .i64 r676, .bool r677] ∧ Sta w0 M [Blk b675 [.int .i64 (13 : Int), .func (.func 212) #[] #[.pointer (some ⟨b672, 0, none⟩)], .int .i64 (14 : Int), .func (.func 213) #[] #[.pointer (some ⟨b672, 0, none⟩)], .int .i64 (15 : Int), .func (.func 215) #[] #[.pointer (some ⟨b674, 0, none⟩), .pointer (some ⟨b672, 0, none⟩), .pointer (some ⟨b671, 0, none⟩)], .int .i64 (16 : Int), .func (.func 216) #[] #[.pointer (some ⟨b672, 0, none⟩)], .int .i64 (17 : Int), .func (.func 217) #[] #[.pointer (some ⟨b672, 0, none⟩)], .int .i64 (18 : Int), .func (.func 219) #[] #[.pointer (some ⟨b674, 0, none⟩), .pointer (some ⟨b672, 0, none⟩)], .int .i64 (19 : Int), .func (.func 220) #[] #[.pointer (some ⟨b674, 0, none⟩), .pointer (some ⟨b672, 0, none⟩), .pointer (some ⟨b673, 0, none⟩)]] 197, Blk b674 [.bool (decide (p401.kind ≠ (1 : Int)))] 4, Blk b673 [.int .i64 p405] 3, Blk b672 [.int .u8 p401.kind, .int .i64 p401.value, .int .i64 p401.feature, .float .f64 p401.threshold, .slice A402 p401.cats.length c403, .int .u8 p401.missing, .int .i64 p401.left, .int .i64 p401.right] 58, Blk b671 [.string p391.name, .slice A392 p391.features.length c393, .int .i64 p391.outputs, .slice A395 p391.base.length c396, .slice A398 p391.trees.length c399] 26] [FSl (RI .i64) A402 c403 p401.cats, FSl RTree A398 c399 p391.trees, FSl (RI .i64) A395 c396 p391.base, FSl RStr A392 c393 p391.features] w) e115 rfl rfl ?_ rfl ?_
  · have h := hr678
    refine calls_enter (n := 0) Tryz.func115 rfl [(0, .slice (some ⟨b675, 0, none⟩) 7 7)] rfl rfl ⟨rfl, trivial⟩ ?_
    refine WC.seq ?_
    refine WC.reg ?_
    refine WL.val (R_assign rfl) rfl rfl ?_
    refine WL.val (R_assign rfl) rfl rfl ?_
    refine WL.nil ?_
    refine WQ.thenC ?_
    refine WC.seq ?_
    refine WC.seq ?_
    refine WC.reg ?_
    refine WL.val (R_move rfl) rfl rfl ?_
    refine WL.val (R_lenS u198 rfl) rfl rfl ?_
    refine WL.val (R_move rfl) rfl rfl ?_
    refine WL.nil ?_
    refine WQ.thenC ?_
    refine WC.block ?_
    refine WC.loopR 64 ?_
    refine WR.step ?_
    refine WC.seq ?_
    refine WC.reg ?_
    refine WL.val (R_cmp rfl rfl rfl) rfl rfl ?_
    refine WL.nil ?_
    refine WQ.thenC ?_
    refine WC.seq ?_
    refine WC.condT rfl ?_
    refine WC.skip ?_
    refine WQ.thenC ?_
    refine WC.seq ?_
    refine WC.block ?_
    refine WC.seq ?_
    refine WC.reg ?_
    refine WL.val (R_indexB u198 z197 rfl rfl (by decide) (by decide)) rfl rfl ?_
    refine WL.val (R_loadA g197 rfl rfl (hS.cells 0 (o := 0) (m := 2) rfl rfl)) rfl rfl ?_
    refine WL.alloc _ z197 rfl hS rfl ?_
    intro b679 w hS
    refine WL.storeB 0 [.int .i64 (13 : Int), .func (.func 212) #[] #[.pointer (some ⟨b672, 0, none⟩)]] g197 hS rfl rfl rfl rfl rfl rfl rfl [.int .i64 (13 : Int), .func (.func 212) #[] #[.pointer (some ⟨b672, 0, none⟩)]] rfl ?_
    intro w hS
    refine WL.nil ?_
    refine WQ.thenC ?_
    refine WC.seq ?_
    refine WC.reg ?_
    refine WL.val (R_fieldB o197_1 rfl) rfl rfl ?_
    refine WL.val (R_load1 g27 rfl (hS.cell 0 rfl rfl)) rfl rfl ?_
    obtain ⟨r680, hr681, h⟩ := bindS h
    refine WL.callR (Φ := fun v w => v = .bool r680 ∧ Sta w0 M [Blk b679 [.int .i64 (13 : Int), .func (.func 212) #[] #[.pointer (some ⟨b672, 0, none⟩)]] 197, Blk b675 [.int .i64 (13 : Int), .func (.func 212) #[] #[.pointer (some ⟨b672, 0, none⟩)], .int .i64 (14 : Int), .func (.func 213) #[] #[.pointer (some ⟨b672, 0, none⟩)], .int .i64 (15 : Int), .func (.func 215) #[] #[.pointer (some ⟨b674, 0, none⟩), .pointer (some ⟨b672, 0, none⟩), .pointer (some ⟨b671, 0, none⟩)], .int .i64 (16 : Int), .func (.func 216) #[] #[.pointer (some ⟨b672, 0, none⟩)], .int .i64 (17 : Int), .func (.func 217) #[] #[.pointer (some ⟨b672, 0, none⟩)], .int .i64 (18 : Int), .func (.func 219) #[] #[.pointer (some ⟨b674, 0, none⟩), .pointer (some ⟨b672, 0, none⟩)], .int .i64 (19 : Int), .func (.func 220) #[] #[.pointer (some ⟨b674, 0, none⟩), .pointer (some ⟨b672, 0, none⟩), .pointer (some ⟨b673, 0, none⟩)]] 197, Blk b674 [.bool (decide (p401.kind ≠ (1 : Int)))] 4, Blk b673 [.int .i64 p405] 3, Blk b672 [.int .u8 p401.kind, .int .i64 p401.value, .int .i64 p401.feature, .float .f64 p401.threshold, .slice A402 p401.cats.length c403, .int .u8 p401.missing, .int .i64 p401.left, .int .i64 p401.right] 58, Blk b671 [.string p391.name, .slice A392 p391.features.length c393, .int .i64 p391.outputs, .slice A395 p391.base.length c396, .slice A398 p391.trees.length c399] 26] [FSl (RI .i64) A402 c403 p401.cats, FSl RTree A398 c399 p391.trees, FSl (RI .i64) A395 c396 p391.base, FSl RStr A392 c393 p391.features] w) e212 rfl rfl ?_ rfl ?_
    · have h := hr681
      refine calls_enter (n := 0) Tryz.func212 rfl [(0, .pointer (some ⟨b672, 0, none⟩))] rfl rfl ⟨rfl, trivial⟩ ?_
      refine WC.seq ?_
      refine WC.reg ?_
      refine WL.val (R_assign rfl) rfl rfl ?_
      refine WL.nil ?_
      refine WQ.thenC ?_
      refine WC.seq ?_
      refine WC.reg ?_
      refine WL.val (R_fieldB o58_0 rfl) rfl rfl ?_
      refine WL.val (R_load1 g53 rfl (hS.cell 4 rfl rfl)) rfl rfl ?_
      refine WL.val (R_cmp rfl rfl rfl) rfl rfl ?_
      refine WL.val (R_move rfl) rfl rfl ?_
      rcases boolS h with ⟨hb682, h⟩ | ⟨hb682, h⟩
      · refine WL.gvalb rfl rfl rfl hb682 (R_fieldB o58_0 rfl) rfl rfl ?_
        refine WL.gvalb rfl rfl rfl hb682 (R_load1 g53 rfl (hS.cell 4 rfl rfl)) rfl rfl ?_
        refine WL.gvalb rfl rfl rfl hb682 (R_cmp rfl rfl rfl) rfl rfl ?_
        refine WL.val (R_pickTb rfl hb682 rfl) rfl rfl ?_
        refine WL.val (R_assign rfl) rfl rfl ?_
        refine WL.nil ?_
        refine WQ.thenC ?_
        refine WC.ret ?_
        have hS0 := hS
        have hS := hS.pick [0, 1, 2, 3, 4, 5] [0, 1, 2, 3] rfl
        obtain rfl := Option.some.inj h
        exact ret_1 rfl rfl ⟨_, rfl, rfl, hS⟩
      · refine WL.gskip rfl rfl rfl hb682 rfl ?_
        refine WL.gskip rfl rfl rfl hb682 rfl ?_
        refine WL.gskip rfl rfl rfl hb682 rfl ?_
        refine WL.val (R_pickFb rfl hb682 rfl) rfl rfl ?_
        refine WL.val (R_assign rfl) rfl rfl ?_
        refine WL.nil ?_
        refine WQ.thenC ?_
        refine WC.ret ?_
        have hS0 := hS
        have hS := hS.pick [0, 1, 2, 3, 4, 5] [0, 1, 2, 3] rfl
        obtain rfl := Option.some.inj h
        exact ret_1 rfl rfl ⟨_, rfl, rfl, hS⟩
    rintro _ w ⟨rfl, hS⟩
    refine WL.val (R_not rfl) rfl rfl ?_
    refine WL.nil ?_
    refine WQ.thenC ?_
    refine WC.cond rfl (fun hb683 => ?_) (fun hb683 => ?_)
    · have h := ifT hb683 h
      refine WC.seq ?_
      refine WC.reg ?_
      refine WL.val (R_fieldB o197_0 rfl) rfl rfl ?_
      refine WL.val (R_load1 g136 rfl (hS.cell 0 rfl rfl)) rfl rfl ?_
      refine WL.val (R_assign rfl) rfl rfl ?_
      refine WL.val (R_assign rfl) rfl rfl ?_
      refine WL.nil ?_
      refine WQ.thenC ?_
      refine WC.ret ?_
      refine WQ.blockR ?_
      refine WQ.thenR ?_
      refine WQ.thenR ?_
      refine WQ.blockR ?_
      refine WQ.thenR ?_
      have hS0 := hS
      have hS := hS.pick [1, 2, 3, 4, 5] [0, 1, 2, 3] rfl
      have h := Option.some.inj h
      obtain ⟨rfl, rfl⟩ := Prod.mk.inj h
      exact ret_2 rfl rfl rfl ⟨_, rfl, rfl, hS⟩
    · have h := ifF hb683 h
      refine WC.skip ?_
      refine WQ.blockN ?_
      refine WQ.thenC ?_
      refine WC.reg ?_
      refine WL.val (R_ar rfl rfl rfl) rfl rfl ?_
      refine WL.val (R_move rfl) rfl rfl ?_
      refine WL.nil ?_
      refine WQ.thenW ?_
      refine WR.step ?_
      refine WC.seq ?_
      refine WC.reg ?_
      refine WL.val (R_cmp rfl rfl rfl) rfl rfl ?_
      refine WL.nil ?_
      refine WQ.thenC ?_
      refine WC.seq ?_
      refine WC.condT rfl ?_
      refine WC.skip ?_
      refine WQ.thenC ?_
      refine WC.seq ?_
      refine WC.block ?_
      refine WC.seq ?_
      refine WC.reg ?_
      refine WL.val (R_indexB u198 z197 rfl rfl (by decide) (by decide)) rfl rfl ?_
      refine WL.val (R_loadA g197 rfl rfl (hS.cells 1 (o := 2) (m := 2) rfl rfl)) rfl rfl ?_
      refine WL.alloc _ z197 rfl hS rfl ?_
      intro b684 w hS
      refine WL.storeB 0 [.int .i64 (14 : Int), .func (.func 213) #[] #[.pointer (some ⟨b672, 0, none⟩)]] g197 hS rfl rfl rfl rfl rfl rfl rfl [.int .i64 (14 : Int), .func (.func 213) #[] #[.pointer (some ⟨b672, 0, none⟩)]] rfl ?_
      intro w hS
      refine WL.nil ?_
      refine WQ.thenC ?_
      refine WC.seq ?_
      refine WC.reg ?_
      refine WL.val (R_fieldB o197_1 rfl) rfl rfl ?_
      refine WL.val (R_load1 g27 rfl (hS.cell 0 rfl rfl)) rfl rfl ?_
      obtain ⟨r685, hr686, h⟩ := bindS h
      refine WL.callR (Φ := fun v w => v = .bool r685 ∧ Sta w0 M [Blk b684 [.int .i64 (14 : Int), .func (.func 213) #[] #[.pointer (some ⟨b672, 0, none⟩)]] 197, Blk b679 [.int .i64 (13 : Int), .func (.func 212) #[] #[.pointer (some ⟨b672, 0, none⟩)]] 197, Blk b675 [.int .i64 (13 : Int), .func (.func 212) #[] #[.pointer (some ⟨b672, 0, none⟩)], .int .i64 (14 : Int), .func (.func 213) #[] #[.pointer (some ⟨b672, 0, none⟩)], .int .i64 (15 : Int), .func (.func 215) #[] #[.pointer (some ⟨b674, 0, none⟩), .pointer (some ⟨b672, 0, none⟩), .pointer (some ⟨b671, 0, none⟩)], .int .i64 (16 : Int), .func (.func 216) #[] #[.pointer (some ⟨b672, 0, none⟩)], .int .i64 (17 : Int), .func (.func 217) #[] #[.pointer (some ⟨b672, 0, none⟩)], .int .i64 (18 : Int), .func (.func 219) #[] #[.pointer (some ⟨b674, 0, none⟩), .pointer (some ⟨b672, 0, none⟩)], .int .i64 (19 : Int), .func (.func 220) #[] #[.pointer (some ⟨b674, 0, none⟩), .pointer (some ⟨b672, 0, none⟩), .pointer (some ⟨b673, 0, none⟩)]] 197, Blk b674 [.bool (decide (p401.kind ≠ (1 : Int)))] 4, Blk b673 [.int .i64 p405] 3, Blk b672 [.int .u8 p401.kind, .int .i64 p401.value, .int .i64 p401.feature, .float .f64 p401.threshold, .slice A402 p401.cats.length c403, .int .u8 p401.missing, .int .i64 p401.left, .int .i64 p401.right] 58, Blk b671 [.string p391.name, .slice A392 p391.features.length c393, .int .i64 p391.outputs, .slice A395 p391.base.length c396, .slice A398 p391.trees.length c399] 26] [FSl (RI .i64) A402 c403 p401.cats, FSl RTree A398 c399 p391.trees, FSl (RI .i64) A395 c396 p391.base, FSl RStr A392 c393 p391.features] w) e213 rfl rfl ?_ rfl ?_
      · have h := hr686
        refine calls_enter (n := 0) Tryz.func213 rfl [(0, .pointer (some ⟨b672, 0, none⟩))] rfl rfl ⟨rfl, trivial⟩ ?_
        refine WC.seq ?_
        refine WC.reg ?_
        refine WL.val (R_assign rfl) rfl rfl ?_
        refine WL.nil ?_
        refine WQ.thenC ?_
        refine WC.seq ?_
        refine WC.reg ?_
        refine WL.val (R_loadA g58 rfl rfl (hS.cells 5 (o := 0) (m := 8) rfl rfl)) rfl rfl ?_
        obtain ⟨r687, hr688, h⟩ := bindS h
        refine WL.call e214 rfl rfl hS (rules_spare_ok (hS).mx_lt p401 (hS.sl 0 rfl) _ hr688) rfl ?_
        intro v w hB hS hP
        obtain ⟨rfl⟩ := hP
        refine WL.val (R_assign rfl) rfl rfl ?_
        refine WL.nil ?_
        refine WQ.thenC ?_
        refine WC.ret ?_
        have hS0 := hS
        have hS := hS.pick [0, 1, 2, 3, 4, 5, 6] [0, 1, 2, 3] rfl
        obtain rfl := Option.some.inj h
        exact ret_1 rfl rfl ⟨_, rfl, rfl, hS⟩
      rintro _ w ⟨rfl, hS⟩
      refine WL.val (R_not rfl) rfl rfl ?_
      refine WL.nil ?_
      refine WQ.thenC ?_
      refine WC.cond rfl (fun hb689 => ?_) (fun hb689 => ?_)
      · have h := ifT hb689 h
        refine WC.seq ?_
        refine WC.reg ?_
        refine WL.val (R_fieldB o197_0 rfl) rfl rfl ?_
        refine WL.val (R_load1 g136 rfl (hS.cell 0 rfl rfl)) rfl rfl ?_
        refine WL.val (R_assign rfl) rfl rfl ?_
        refine WL.val (R_assign rfl) rfl rfl ?_
        refine WL.nil ?_
        refine WQ.thenC ?_
        refine WC.ret ?_
        refine WQ.blockR ?_
        refine WQ.thenR ?_
        refine WQ.thenR ?_
        refine WQ.blockR ?_
        refine WQ.thenR ?_
        have hS0 := hS
        have hS := hS.pick [2, 3, 4, 5, 6] [0, 1, 2, 3] rfl
        have h := Option.some.inj h
        obtain ⟨rfl, rfl⟩ := Prod.mk.inj h
        exact ret_2 rfl rfl rfl ⟨_, rfl, rfl, hS⟩
      · have h := ifF hb689 h
        refine WC.skip ?_
        refine WQ.blockN ?_
        refine WQ.thenC ?_
        refine WC.reg ?_
        refine WL.val (R_ar rfl rfl rfl) rfl rfl ?_
        refine WL.val (R_move rfl) rfl rfl ?_
        refine WL.nil ?_
        refine WQ.thenW ?_
        refine WR.step ?_
        refine WC.seq ?_
        refine WC.reg ?_
        refine WL.val (R_cmp rfl rfl rfl) rfl rfl ?_
        refine WL.nil ?_
        refine WQ.thenC ?_
        refine WC.seq ?_
        refine WC.condT rfl ?_
        refine WC.skip ?_
        refine WQ.thenC ?_
        refine WC.seq ?_
        refine WC.block ?_
        refine WC.seq ?_
        refine WC.reg ?_
        refine WL.val (R_indexB u198 z197 rfl rfl (by decide) (by decide)) rfl rfl ?_
        refine WL.val (R_loadA g197 rfl rfl (hS.cells 2 (o := 4) (m := 2) rfl rfl)) rfl rfl ?_
        refine WL.alloc _ z197 rfl hS rfl ?_
        intro b690 w hS
        refine WL.storeB 0 [.int .i64 (15 : Int), .func (.func 215) #[] #[.pointer (some ⟨b674, 0, none⟩), .pointer (some ⟨b672, 0, none⟩), .pointer (some ⟨b671, 0, none⟩)]] g197 hS rfl rfl rfl rfl rfl rfl rfl [.int .i64 (15 : Int), .func (.func 215) #[] #[.pointer (some ⟨b674, 0, none⟩), .pointer (some ⟨b672, 0, none⟩), .pointer (some ⟨b671, 0, none⟩)]] rfl ?_
        intro w hS
        refine WL.nil ?_
        refine WQ.thenC ?_
        refine WC.seq ?_
        refine WC.reg ?_
        refine WL.val (R_fieldB o197_1 rfl) rfl rfl ?_
        refine WL.val (R_load1 g27 rfl (hS.cell 0 rfl rfl)) rfl rfl ?_
        obtain ⟨r691, hr692, h⟩ := bindS h
        refine WL.callR (Φ := fun v w => v = .bool r691 ∧ Sta w0 M [Blk b690 [.int .i64 (15 : Int), .func (.func 215) #[] #[.pointer (some ⟨b674, 0, none⟩), .pointer (some ⟨b672, 0, none⟩), .pointer (some ⟨b671, 0, none⟩)]] 197, Blk b684 [.int .i64 (14 : Int), .func (.func 213) #[] #[.pointer (some ⟨b672, 0, none⟩)]] 197, Blk b679 [.int .i64 (13 : Int), .func (.func 212) #[] #[.pointer (some ⟨b672, 0, none⟩)]] 197, Blk b675 [.int .i64 (13 : Int), .func (.func 212) #[] #[.pointer (some ⟨b672, 0, none⟩)], .int .i64 (14 : Int), .func (.func 213) #[] #[.pointer (some ⟨b672, 0, none⟩)], .int .i64 (15 : Int), .func (.func 215) #[] #[.pointer (some ⟨b674, 0, none⟩), .pointer (some ⟨b672, 0, none⟩), .pointer (some ⟨b671, 0, none⟩)], .int .i64 (16 : Int), .func (.func 216) #[] #[.pointer (some ⟨b672, 0, none⟩)], .int .i64 (17 : Int), .func (.func 217) #[] #[.pointer (some ⟨b672, 0, none⟩)], .int .i64 (18 : Int), .func (.func 219) #[] #[.pointer (some ⟨b674, 0, none⟩), .pointer (some ⟨b672, 0, none⟩)], .int .i64 (19 : Int), .func (.func 220) #[] #[.pointer (some ⟨b674, 0, none⟩), .pointer (some ⟨b672, 0, none⟩), .pointer (some ⟨b673, 0, none⟩)]] 197, Blk b674 [.bool (decide (p401.kind ≠ (1 : Int)))] 4, Blk b673 [.int .i64 p405] 3, Blk b672 [.int .u8 p401.kind, .int .i64 p401.value, .int .i64 p401.feature, .float .f64 p401.threshold, .slice A402 p401.cats.length c403, .int .u8 p401.missing, .int .i64 p401.left, .int .i64 p401.right] 58, Blk b671 [.string p391.name, .slice A392 p391.features.length c393, .int .i64 p391.outputs, .slice A395 p391.base.length c396, .slice A398 p391.trees.length c399] 26] [FSl (RI .i64) A402 c403 p401.cats, FSl RTree A398 c399 p391.trees, FSl (RI .i64) A395 c396 p391.base, FSl RStr A392 c393 p391.features] w) e215 rfl rfl ?_ rfl ?_
        · have h := hr692
          refine calls_enter (n := 0) Tryz.func215 rfl [(0, .pointer (some ⟨b674, 0, none⟩)), (1, .pointer (some ⟨b672, 0, none⟩)), (2, .pointer (some ⟨b671, 0, none⟩))] rfl rfl ⟨rfl, rfl, rfl, trivial⟩ ?_
          refine WC.seq ?_
          refine WC.reg ?_
          refine WL.val (R_assign rfl) rfl rfl ?_
          refine WL.nil ?_
          refine WQ.thenC ?_
          refine WC.seq ?_
          refine WC.reg ?_
          refine WL.val (R_load1 g4 rfl (hS.cell 4 rfl rfl)) rfl rfl ?_
          refine WL.val (R_not rfl) rfl rfl ?_
          refine WL.val (R_move rfl) rfl rfl ?_
          rcases boolS h with ⟨hb693, h⟩ | ⟨hb693, h⟩
          · refine WL.gskip rfl rfl rfl hb693 rfl ?_
            refine WL.gskip rfl rfl rfl hb693 rfl ?_
            refine WL.gskip rfl rfl rfl hb693 rfl ?_
            refine WL.gskip rfl rfl rfl hb693 rfl ?_
            refine WL.gskipU rfl rfl rfl rfl ?_
            refine WL.gskipU rfl rfl rfl rfl ?_
            refine WL.gskipU rfl rfl rfl rfl ?_
            refine WL.gskipU rfl rfl rfl rfl ?_
            refine WL.gskipU rfl rfl rfl rfl ?_
            refine WL.gskipU rfl rfl rfl rfl ?_
            refine WL.gskip rfl rfl rfl hb693 rfl ?_
            refine WL.val (R_pickTb rfl hb693 rfl) rfl rfl ?_
            refine WL.val (R_assign rfl) rfl rfl ?_
            refine WL.nil ?_
            refine WQ.thenC ?_
            refine WC.ret ?_
            have hS0 := hS
            have hS := hS.pick [0, 1, 2, 3, 4, 5, 6, 7] [0, 1, 2, 3] rfl
            obtain rfl := Option.some.inj h
            exact ret_1 rfl rfl ⟨_, rfl, rfl, hS⟩
          · refine WL.gvalb rfl rfl rfl hb693 (R_fieldB o58_2 rfl) rfl rfl ?_
            refine WL.gvalb rfl rfl rfl hb693 (R_load1 g3 rfl (hS.cell 6 rfl rfl)) rfl rfl ?_
            refine WL.gvalb rfl rfl rfl hb693 (R_cmp rfl rfl rfl) rfl rfl ?_
            refine WL.gvalb rfl rfl rfl hb693 (R_move rfl) rfl rfl ?_
            rcases boolS h with ⟨hb694, h⟩ | ⟨hb694, h⟩
            · refine WL.gvalb rfl rfl rfl hb694 (R_fieldB o58_2 rfl) rfl rfl ?_
              refine WL.gvalb rfl rfl rfl hb694 (R_load1 g3 rfl (hS.cell 6 rfl rfl)) rfl rfl ?_
              refine WL.gvalb rfl rfl rfl hb694 (R_fieldB o26_1 rfl) rfl rfl ?_
              refine WL.gvalb rfl rfl rfl hb694 (R_load1 g22 rfl (hS.cell 7 rfl rfl)) rfl rfl ?_
              refine WL.gvalb rfl rfl rfl hb694 (R_lenS u22 rfl) rfl rfl ?_
              refine WL.gvalb rfl rfl rfl hb694 (R_cmp rfl rfl rfl) rfl rfl ?_
              refine WL.gvalb rfl rfl rfl hb693 (R_pickTb rfl hb694 rfl) rfl rfl ?_
              refine WL.val (R_pickFb rfl hb693 rfl) rfl rfl ?_
              refine WL.val (R_assign rfl) rfl rfl ?_
              refine WL.nil ?_
              refine WQ.thenC ?_
              refine WC.ret ?_
              have hS0 := hS
              have hS := hS.pick [0, 1, 2, 3, 4, 5, 6, 7] [0, 1, 2, 3] rfl
              obtain rfl := Option.some.inj h
              exact ret_1 rfl rfl ⟨_, rfl, rfl, hS⟩
            · refine WL.gskip rfl rfl rfl hb694 rfl ?_
              refine WL.gskip rfl rfl rfl hb694 rfl ?_
              refine WL.gskip rfl rfl rfl hb694 rfl ?_
              refine WL.gskip rfl rfl rfl hb694 rfl ?_
              refine WL.gskip rfl rfl rfl hb694 rfl ?_
              refine WL.gskip rfl rfl rfl hb694 rfl ?_
              refine WL.gvalb rfl rfl rfl hb693 (R_pickFb rfl hb694 rfl) rfl rfl ?_
              refine WL.val (R_pickFb rfl hb693 rfl) rfl rfl ?_
              refine WL.val (R_assign rfl) rfl rfl ?_
              refine WL.nil ?_
              refine WQ.thenC ?_
              refine WC.ret ?_
              have hS0 := hS
              have hS := hS.pick [0, 1, 2, 3, 4, 5, 6, 7] [0, 1, 2, 3] rfl
              obtain rfl := Option.some.inj h
              exact ret_1 rfl rfl ⟨_, rfl, rfl, hS⟩
        rintro _ w ⟨rfl, hS⟩
        refine WL.val (R_not rfl) rfl rfl ?_
        refine WL.nil ?_
        refine WQ.thenC ?_
        refine WC.cond rfl (fun hb695 => ?_) (fun hb695 => ?_)
        · have h := ifT hb695 h
          refine WC.seq ?_
          refine WC.reg ?_
          refine WL.val (R_fieldB o197_0 rfl) rfl rfl ?_
          refine WL.val (R_load1 g136 rfl (hS.cell 0 rfl rfl)) rfl rfl ?_
          refine WL.val (R_assign rfl) rfl rfl ?_
          refine WL.val (R_assign rfl) rfl rfl ?_
          refine WL.nil ?_
          refine WQ.thenC ?_
          refine WC.ret ?_
          refine WQ.blockR ?_
          refine WQ.thenR ?_
          refine WQ.thenR ?_
          refine WQ.blockR ?_
          refine WQ.thenR ?_
          have hS0 := hS
          have hS := hS.pick [3, 4, 5, 6, 7] [0, 1, 2, 3] rfl
          have h := Option.some.inj h
          obtain ⟨rfl, rfl⟩ := Prod.mk.inj h
          exact ret_2 rfl rfl rfl ⟨_, rfl, rfl, hS⟩
        · have h := ifF hb695 h
          refine WC.skip ?_
          refine WQ.blockN ?_
          refine WQ.thenC ?_
          refine WC.reg ?_
          refine WL.val (R_ar rfl rfl rfl) rfl rfl ?_
          refine WL.val (R_move rfl) rfl rfl ?_
          refine WL.nil ?_
          refine WQ.thenW ?_
          refine WR.step ?_
          refine WC.seq ?_
          refine WC.reg ?_
          refine WL.val (R_cmp rfl rfl rfl) rfl rfl ?_
          refine WL.nil ?_
          refine WQ.thenC ?_
          refine WC.seq ?_
          refine WC.condT rfl ?_
          refine WC.skip ?_
          refine WQ.thenC ?_
          refine WC.seq ?_
          refine WC.block ?_
          refine WC.seq ?_
          refine WC.reg ?_
          refine WL.val (R_indexB u198 z197 rfl rfl (by decide) (by decide)) rfl rfl ?_
          refine WL.val (R_loadA g197 rfl rfl (hS.cells 3 (o := 6) (m := 2) rfl rfl)) rfl rfl ?_
          refine WL.alloc _ z197 rfl hS rfl ?_
          intro b696 w hS
          refine WL.storeB 0 [.int .i64 (16 : Int), .func (.func 216) #[] #[.pointer (some ⟨b672, 0, none⟩)]] g197 hS rfl rfl rfl rfl rfl rfl rfl [.int .i64 (16 : Int), .func (.func 216) #[] #[.pointer (some ⟨b672, 0, none⟩)]] rfl ?_
          intro w hS
          refine WL.nil ?_
          refine WQ.thenC ?_
          refine WC.seq ?_
          refine WC.reg ?_
          refine WL.val (R_fieldB o197_1 rfl) rfl rfl ?_
          refine WL.val (R_load1 g27 rfl (hS.cell 0 rfl rfl)) rfl rfl ?_
          obtain ⟨r697, hr698, h⟩ := bindS h
          refine WL.callR (Φ := fun v w => v = .bool r697 ∧ Sta w0 M [Blk b696 [.int .i64 (16 : Int), .func (.func 216) #[] #[.pointer (some ⟨b672, 0, none⟩)]] 197, Blk b690 [.int .i64 (15 : Int), .func (.func 215) #[] #[.pointer (some ⟨b674, 0, none⟩), .pointer (some ⟨b672, 0, none⟩), .pointer (some ⟨b671, 0, none⟩)]] 197, Blk b684 [.int .i64 (14 : Int), .func (.func 213) #[] #[.pointer (some ⟨b672, 0, none⟩)]] 197, Blk b679 [.int .i64 (13 : Int), .func (.func 212) #[] #[.pointer (some ⟨b672, 0, none⟩)]] 197, Blk b675 [.int .i64 (13 : Int), .func (.func 212) #[] #[.pointer (some ⟨b672, 0, none⟩)], .int .i64 (14 : Int), .func (.func 213) #[] #[.pointer (some ⟨b672, 0, none⟩)], .int .i64 (15 : Int), .func (.func 215) #[] #[.pointer (some ⟨b674, 0, none⟩), .pointer (some ⟨b672, 0, none⟩), .pointer (some ⟨b671, 0, none⟩)], .int .i64 (16 : Int), .func (.func 216) #[] #[.pointer (some ⟨b672, 0, none⟩)], .int .i64 (17 : Int), .func (.func 217) #[] #[.pointer (some ⟨b672, 0, none⟩)], .int .i64 (18 : Int), .func (.func 219) #[] #[.pointer (some ⟨b674, 0, none⟩), .pointer (some ⟨b672, 0, none⟩)], .int .i64 (19 : Int), .func (.func 220) #[] #[.pointer (some ⟨b674, 0, none⟩), .pointer (some ⟨b672, 0, none⟩), .pointer (some ⟨b673, 0, none⟩)]] 197, Blk b674 [.bool (decide (p401.kind ≠ (1 : Int)))] 4, Blk b673 [.int .i64 p405] 3, Blk b672 [.int .u8 p401.kind, .int .i64 p401.value, .int .i64 p401.feature, .float .f64 p401.threshold, .slice A402 p401.cats.length c403, .int .u8 p401.missing, .int .i64 p401.left, .int .i64 p401.right] 58, Blk b671 [.string p391.name, .slice A392 p391.features.length c393, .int .i64 p391.outputs, .slice A395 p391.base.length c396, .slice A398 p391.trees.length c399] 26] [FSl (RI .i64) A402 c403 p401.cats, FSl RTree A398 c399 p391.trees, FSl (RI .i64) A395 c396 p391.base, FSl RStr A392 c393 p391.features] w) e216 rfl rfl ?_ rfl ?_
          · have h := hr698
            refine calls_enter (n := 0) Tryz.func216 rfl [(0, .pointer (some ⟨b672, 0, none⟩))] rfl rfl ⟨rfl, trivial⟩ ?_
            refine WC.seq ?_
            refine WC.reg ?_
            refine WL.val (R_assign rfl) rfl rfl ?_
            refine WL.nil ?_
            refine WQ.thenC ?_
            refine WC.seq ?_
            refine WC.reg ?_
            refine WL.val (R_fieldB o58_3 rfl) rfl rfl ?_
            refine WL.val (R_load1 g54 rfl (hS.cell 7 rfl rfl)) rfl rfl ?_
            refine WL.val (R_fieldB o58_3 rfl) rfl rfl ?_
            refine WL.val (R_load1 g54 rfl (hS.cell 7 rfl rfl)) rfl rfl ?_
            refine WL.val (R_cmpF rfl rfl rfl) rfl rfl ?_
            refine WL.val (R_assign rfl) rfl rfl ?_
            refine WL.nil ?_
            refine WQ.thenC ?_
            refine WC.ret ?_
            have hS0 := hS
            have hS := hS.pick [0, 1, 2, 3, 4, 5, 6, 7, 8] [0, 1, 2, 3] rfl
            obtain rfl := Option.some.inj h
            exact ret_1 rfl rfl ⟨_, rfl, rfl, hS⟩
          rintro _ w ⟨rfl, hS⟩
          refine WL.val (R_not rfl) rfl rfl ?_
          refine WL.nil ?_
          refine WQ.thenC ?_
          refine WC.cond rfl (fun hb699 => ?_) (fun hb699 => ?_)
          · have h := ifT hb699 h
            refine WC.seq ?_
            refine WC.reg ?_
            refine WL.val (R_fieldB o197_0 rfl) rfl rfl ?_
            refine WL.val (R_load1 g136 rfl (hS.cell 0 rfl rfl)) rfl rfl ?_
            refine WL.val (R_assign rfl) rfl rfl ?_
            refine WL.val (R_assign rfl) rfl rfl ?_
            refine WL.nil ?_
            refine WQ.thenC ?_
            refine WC.ret ?_
            refine WQ.blockR ?_
            refine WQ.thenR ?_
            refine WQ.thenR ?_
            refine WQ.blockR ?_
            refine WQ.thenR ?_
            have hS0 := hS
            have hS := hS.pick [4, 5, 6, 7, 8] [0, 1, 2, 3] rfl
            have h := Option.some.inj h
            obtain ⟨rfl, rfl⟩ := Prod.mk.inj h
            exact ret_2 rfl rfl rfl ⟨_, rfl, rfl, hS⟩
          · have h := ifF hb699 h
            refine WC.skip ?_
            refine WQ.blockN ?_
            refine WQ.thenC ?_
            refine WC.reg ?_
            refine WL.val (R_ar rfl rfl rfl) rfl rfl ?_
            refine WL.val (R_move rfl) rfl rfl ?_
            refine WL.nil ?_
            refine WQ.thenW ?_
            refine WR.step ?_
            refine WC.seq ?_
            refine WC.reg ?_
            refine WL.val (R_cmp rfl rfl rfl) rfl rfl ?_
            refine WL.nil ?_
            refine WQ.thenC ?_
            refine WC.seq ?_
            refine WC.condT rfl ?_
            refine WC.skip ?_
            refine WQ.thenC ?_
            refine WC.seq ?_
            refine WC.block ?_
            refine WC.seq ?_
            refine WC.reg ?_
            refine WL.val (R_indexB u198 z197 rfl rfl (by decide) (by decide)) rfl rfl ?_
            refine WL.val (R_loadA g197 rfl rfl (hS.cells 4 (o := 8) (m := 2) rfl rfl)) rfl rfl ?_
            refine WL.alloc _ z197 rfl hS rfl ?_
            intro b700 w hS
            refine WL.storeB 0 [.int .i64 (17 : Int), .func (.func 217) #[] #[.pointer (some ⟨b672, 0, none⟩)]] g197 hS rfl rfl rfl rfl rfl rfl rfl [.int .i64 (17 : Int), .func (.func 217) #[] #[.pointer (some ⟨b672, 0, none⟩)]] rfl ?_
            intro w hS
            refine WL.nil ?_
            refine WQ.thenC ?_
            refine WC.seq ?_
            refine WC.reg ?_
            refine WL.val (R_fieldB o197_1 rfl) rfl rfl ?_
            refine WL.val (R_load1 g27 rfl (hS.cell 0 rfl rfl)) rfl rfl ?_
            obtain ⟨r701, hr702, h⟩ := bindS h
            refine WL.callR (Φ := fun v w => v = .bool r701 ∧ Sta w0 M [Blk b700 [.int .i64 (17 : Int), .func (.func 217) #[] #[.pointer (some ⟨b672, 0, none⟩)]] 197, Blk b696 [.int .i64 (16 : Int), .func (.func 216) #[] #[.pointer (some ⟨b672, 0, none⟩)]] 197, Blk b690 [.int .i64 (15 : Int), .func (.func 215) #[] #[.pointer (some ⟨b674, 0, none⟩), .pointer (some ⟨b672, 0, none⟩), .pointer (some ⟨b671, 0, none⟩)]] 197, Blk b684 [.int .i64 (14 : Int), .func (.func 213) #[] #[.pointer (some ⟨b672, 0, none⟩)]] 197, Blk b679 [.int .i64 (13 : Int), .func (.func 212) #[] #[.pointer (some ⟨b672, 0, none⟩)]] 197, Blk b675 [.int .i64 (13 : Int), .func (.func 212) #[] #[.pointer (some ⟨b672, 0, none⟩)], .int .i64 (14 : Int), .func (.func 213) #[] #[.pointer (some ⟨b672, 0, none⟩)], .int .i64 (15 : Int), .func (.func 215) #[] #[.pointer (some ⟨b674, 0, none⟩), .pointer (some ⟨b672, 0, none⟩), .pointer (some ⟨b671, 0, none⟩)], .int .i64 (16 : Int), .func (.func 216) #[] #[.pointer (some ⟨b672, 0, none⟩)], .int .i64 (17 : Int), .func (.func 217) #[] #[.pointer (some ⟨b672, 0, none⟩)], .int .i64 (18 : Int), .func (.func 219) #[] #[.pointer (some ⟨b674, 0, none⟩), .pointer (some ⟨b672, 0, none⟩)], .int .i64 (19 : Int), .func (.func 220) #[] #[.pointer (some ⟨b674, 0, none⟩), .pointer (some ⟨b672, 0, none⟩), .pointer (some ⟨b673, 0, none⟩)]] 197, Blk b674 [.bool (decide (p401.kind ≠ (1 : Int)))] 4, Blk b673 [.int .i64 p405] 3, Blk b672 [.int .u8 p401.kind, .int .i64 p401.value, .int .i64 p401.feature, .float .f64 p401.threshold, .slice A402 p401.cats.length c403, .int .u8 p401.missing, .int .i64 p401.left, .int .i64 p401.right] 58, Blk b671 [.string p391.name, .slice A392 p391.features.length c393, .int .i64 p391.outputs, .slice A395 p391.base.length c396, .slice A398 p391.trees.length c399] 26] [FSl (RI .i64) A402 c403 p401.cats, FSl RTree A398 c399 p391.trees, FSl (RI .i64) A395 c396 p391.base, FSl RStr A392 c393 p391.features] w) e217 rfl rfl ?_ rfl ?_
            · have h := hr702
              refine calls_enter (n := 0) Tryz.func217 rfl [(0, .pointer (some ⟨b672, 0, none⟩))] rfl rfl ⟨rfl, trivial⟩ ?_
              refine WC.seq ?_
              refine WC.reg ?_
              refine WL.val (R_assign rfl) rfl rfl ?_
              refine WL.nil ?_
              refine WQ.thenC ?_
              refine WC.seq ?_
              refine WC.reg ?_
              refine WL.val (R_fieldB o58_0 rfl) rfl rfl ?_
              refine WL.val (R_load1 g53 rfl (hS.cell 8 rfl rfl)) rfl rfl ?_
              refine WL.val (R_cmp rfl rfl rfl) rfl rfl ?_
              refine WL.val (R_move rfl) rfl rfl ?_
              rcases boolS h with ⟨hb703, h⟩ | ⟨hb703, h⟩
              · refine WL.gskip rfl rfl rfl hb703 rfl ?_
                refine WL.gskip rfl rfl rfl hb703 rfl ?_
                refine WL.gskip rfl rfl rfl hb703 rfl ?_
                refine WL.val (R_pickTb rfl hb703 rfl) rfl rfl ?_
                refine WL.val (R_assign rfl) rfl rfl ?_
                refine WL.nil ?_
                refine WQ.thenC ?_
                refine WC.ret ?_
                have hS0 := hS
                have hS := hS.pick [0, 1, 2, 3, 4, 5, 6, 7, 8, 9] [0, 1, 2, 3] rfl
                obtain rfl := Option.some.inj h
                exact ret_1 rfl rfl ⟨_, rfl, rfl, hS⟩
              · refine WL.gvalb rfl rfl rfl hb703 (R_fieldB o58_4 rfl) rfl rfl ?_
                refine WL.gvalb rfl rfl rfl hb703 (R_load1 g55 rfl (hS.cell 8 rfl rfl)) rfl rfl ?_
                obtain ⟨r704, hr705, h⟩ := bindS h
                refine WL.gcallb rfl rfl rfl hb703 e218 rfl rfl hS (rules_cats_ok (hS).mx_lt k p401.cats (hS.sl 0 rfl) _ hr705) rfl ?_
                intro v w hB hS hP
                obtain ⟨rfl⟩ := hP
                refine WL.val (R_pickFb rfl hb703 rfl) rfl rfl ?_
                refine WL.val (R_assign rfl) rfl rfl ?_
                refine WL.nil ?_
                refine WQ.thenC ?_
                refine WC.ret ?_
                have hS0 := hS
                have hS := hS.pick [0, 1, 2, 3, 4, 5, 6, 7, 8, 9] [0, 1, 2, 3] rfl
                obtain rfl := Option.some.inj h
                exact ret_1 rfl rfl ⟨_, rfl, rfl, hS⟩
            rintro _ w ⟨rfl, hS⟩
            refine WL.val (R_not rfl) rfl rfl ?_
            refine WL.nil ?_
            refine WQ.thenC ?_
            refine WC.cond rfl (fun hb706 => ?_) (fun hb706 => ?_)
            · have h := ifT hb706 h
              refine WC.seq ?_
              refine WC.reg ?_
              refine WL.val (R_fieldB o197_0 rfl) rfl rfl ?_
              refine WL.val (R_load1 g136 rfl (hS.cell 0 rfl rfl)) rfl rfl ?_
              refine WL.val (R_assign rfl) rfl rfl ?_
              refine WL.val (R_assign rfl) rfl rfl ?_
              refine WL.nil ?_
              refine WQ.thenC ?_
              refine WC.ret ?_
              refine WQ.blockR ?_
              refine WQ.thenR ?_
              refine WQ.thenR ?_
              refine WQ.blockR ?_
              refine WQ.thenR ?_
              have hS0 := hS
              have hS := hS.pick [5, 6, 7, 8, 9] [0, 1, 2, 3] rfl
              have h := Option.some.inj h
              obtain ⟨rfl, rfl⟩ := Prod.mk.inj h
              exact ret_2 rfl rfl rfl ⟨_, rfl, rfl, hS⟩
            · have h := ifF hb706 h
              refine WC.skip ?_
              refine WQ.blockN ?_
              refine WQ.thenC ?_
              refine WC.reg ?_
              refine WL.val (R_ar rfl rfl rfl) rfl rfl ?_
              refine WL.val (R_move rfl) rfl rfl ?_
              refine WL.nil ?_
              refine WQ.thenW ?_
              refine WR.step ?_
              refine WC.seq ?_
              refine WC.reg ?_
              refine WL.val (R_cmp rfl rfl rfl) rfl rfl ?_
              refine WL.nil ?_
              refine WQ.thenC ?_
              refine WC.seq ?_
              refine WC.condT rfl ?_
              refine WC.skip ?_
              refine WQ.thenC ?_
              refine WC.seq ?_
              refine WC.block ?_
              refine WC.seq ?_
              refine WC.reg ?_
              refine WL.val (R_indexB u198 z197 rfl rfl (by decide) (by decide)) rfl rfl ?_
              refine WL.val (R_loadA g197 rfl rfl (hS.cells 5 (o := 10) (m := 2) rfl rfl)) rfl rfl ?_
              refine WL.alloc _ z197 rfl hS rfl ?_
              intro b707 w hS
              refine WL.storeB 0 [.int .i64 (18 : Int), .func (.func 219) #[] #[.pointer (some ⟨b674, 0, none⟩), .pointer (some ⟨b672, 0, none⟩)]] g197 hS rfl rfl rfl rfl rfl rfl rfl [.int .i64 (18 : Int), .func (.func 219) #[] #[.pointer (some ⟨b674, 0, none⟩), .pointer (some ⟨b672, 0, none⟩)]] rfl ?_
              intro w hS
              refine WL.nil ?_
              refine WQ.thenC ?_
              refine WC.seq ?_
              refine WC.reg ?_
              refine WL.val (R_fieldB o197_1 rfl) rfl rfl ?_
              refine WL.val (R_load1 g27 rfl (hS.cell 0 rfl rfl)) rfl rfl ?_
              obtain ⟨r708, hr709, h⟩ := bindS h
              refine WL.callR (Φ := fun v w => v = .bool r708 ∧ Sta w0 M [Blk b707 [.int .i64 (18 : Int), .func (.func 219) #[] #[.pointer (some ⟨b674, 0, none⟩), .pointer (some ⟨b672, 0, none⟩)]] 197, Blk b700 [.int .i64 (17 : Int), .func (.func 217) #[] #[.pointer (some ⟨b672, 0, none⟩)]] 197, Blk b696 [.int .i64 (16 : Int), .func (.func 216) #[] #[.pointer (some ⟨b672, 0, none⟩)]] 197, Blk b690 [.int .i64 (15 : Int), .func (.func 215) #[] #[.pointer (some ⟨b674, 0, none⟩), .pointer (some ⟨b672, 0, none⟩), .pointer (some ⟨b671, 0, none⟩)]] 197, Blk b684 [.int .i64 (14 : Int), .func (.func 213) #[] #[.pointer (some ⟨b672, 0, none⟩)]] 197, Blk b679 [.int .i64 (13 : Int), .func (.func 212) #[] #[.pointer (some ⟨b672, 0, none⟩)]] 197, Blk b675 [.int .i64 (13 : Int), .func (.func 212) #[] #[.pointer (some ⟨b672, 0, none⟩)], .int .i64 (14 : Int), .func (.func 213) #[] #[.pointer (some ⟨b672, 0, none⟩)], .int .i64 (15 : Int), .func (.func 215) #[] #[.pointer (some ⟨b674, 0, none⟩), .pointer (some ⟨b672, 0, none⟩), .pointer (some ⟨b671, 0, none⟩)], .int .i64 (16 : Int), .func (.func 216) #[] #[.pointer (some ⟨b672, 0, none⟩)], .int .i64 (17 : Int), .func (.func 217) #[] #[.pointer (some ⟨b672, 0, none⟩)], .int .i64 (18 : Int), .func (.func 219) #[] #[.pointer (some ⟨b674, 0, none⟩), .pointer (some ⟨b672, 0, none⟩)], .int .i64 (19 : Int), .func (.func 220) #[] #[.pointer (some ⟨b674, 0, none⟩), .pointer (some ⟨b672, 0, none⟩), .pointer (some ⟨b673, 0, none⟩)]] 197, Blk b674 [.bool (decide (p401.kind ≠ (1 : Int)))] 4, Blk b673 [.int .i64 p405] 3, Blk b672 [.int .u8 p401.kind, .int .i64 p401.value, .int .i64 p401.feature, .float .f64 p401.threshold, .slice A402 p401.cats.length c403, .int .u8 p401.missing, .int .i64 p401.left, .int .i64 p401.right] 58, Blk b671 [.string p391.name, .slice A392 p391.features.length c393, .int .i64 p391.outputs, .slice A395 p391.base.length c396, .slice A398 p391.trees.length c399] 26] [FSl (RI .i64) A402 c403 p401.cats, FSl RTree A398 c399 p391.trees, FSl (RI .i64) A395 c396 p391.base, FSl RStr A392 c393 p391.features] w) e219 rfl rfl ?_ rfl ?_
              · have h := hr709
                refine calls_enter (n := 0) Tryz.func219 rfl [(0, .pointer (some ⟨b674, 0, none⟩)), (1, .pointer (some ⟨b672, 0, none⟩))] rfl rfl ⟨rfl, rfl, trivial⟩ ?_
                refine WC.seq ?_
                refine WC.reg ?_
                refine WL.val (R_assign rfl) rfl rfl ?_
                refine WL.nil ?_
                refine WQ.thenC ?_
                refine WC.seq ?_
                refine WC.reg ?_
                refine WL.val (R_load1 g4 rfl (hS.cell 7 rfl rfl)) rfl rfl ?_
                refine WL.val (R_not rfl) rfl rfl ?_
                refine WL.val (R_move rfl) rfl rfl ?_
                rcases boolS h with ⟨hb710, h⟩ | ⟨hb710, h⟩
                · refine WL.gskip rfl rfl rfl hb710 rfl ?_
                  refine WL.gskip rfl rfl rfl hb710 rfl ?_
                  refine WL.gskip rfl rfl rfl hb710 rfl ?_
                  refine WL.val (R_pickTb rfl hb710 rfl) rfl rfl ?_
                  refine WL.val (R_move rfl) rfl rfl ?_
                  refine WL.gskip rfl rfl rfl rfl rfl ?_
                  refine WL.gskip rfl rfl rfl rfl rfl ?_
                  refine WL.gskip rfl rfl rfl rfl rfl ?_
                  refine WL.val (R_pickTb rfl rfl rfl) rfl rfl ?_
                  refine WL.val (R_assign rfl) rfl rfl ?_
                  refine WL.nil ?_
                  refine WQ.thenC ?_
                  refine WC.ret ?_
                  have hS0 := hS
                  have hS := hS.pick [0, 1, 2, 3, 4, 5, 6, 7, 8, 9, 10] [0, 1, 2, 3] rfl
                  obtain rfl := Option.some.inj h
                  exact ret_1 rfl rfl ⟨_, rfl, rfl, hS⟩
                · refine WL.gvalb rfl rfl rfl hb710 (R_fieldB o58_5 rfl) rfl rfl ?_
                  refine WL.gvalb rfl rfl rfl hb710 (R_load1 g56 rfl (hS.cell 9 rfl rfl)) rfl rfl ?_
                  refine WL.gvalb rfl rfl rfl hb710 (R_cmp rfl rfl rfl) rfl rfl ?_
                  refine WL.val (R_pickFb rfl hb710 rfl) rfl rfl ?_
                  refine WL.val (R_move rfl) rfl rfl ?_
                  rcases boolS h with ⟨hb711, h⟩ | ⟨hb711, h⟩
                  · refine WL.gskip rfl rfl rfl hb711 rfl ?_
                    refine WL.gskip rfl rfl rfl hb711 rfl ?_
                    refine WL.gskip rfl rfl rfl hb711 rfl ?_
                    refine WL.val (R_pickTb rfl hb711 rfl) rfl rfl ?_
                    refine WL.val (R_assign rfl) rfl rfl ?_
                    refine WL.nil ?_
                    refine WQ.thenC ?_
                    refine WC.ret ?_
                    have hS0 := hS
                    have hS := hS.pick [0, 1, 2, 3, 4, 5, 6, 7, 8, 9, 10] [0, 1, 2, 3] rfl
                    obtain rfl := Option.some.inj h
                    exact ret_1 rfl rfl ⟨_, rfl, rfl, hS⟩
                  · refine WL.gvalb rfl rfl rfl hb711 (R_fieldB o58_5 rfl) rfl rfl ?_
                    refine WL.gvalb rfl rfl rfl hb711 (R_load1 g56 rfl (hS.cell 9 rfl rfl)) rfl rfl ?_
                    refine WL.gvalb rfl rfl rfl hb711 (R_cmp rfl rfl rfl) rfl rfl ?_
                    refine WL.val (R_pickFb rfl hb711 rfl) rfl rfl ?_
                    refine WL.val (R_assign rfl) rfl rfl ?_
                    refine WL.nil ?_
                    refine WQ.thenC ?_
                    refine WC.ret ?_
                    have hS0 := hS
                    have hS := hS.pick [0, 1, 2, 3, 4, 5, 6, 7, 8, 9, 10] [0, 1, 2, 3] rfl
                    obtain rfl := Option.some.inj h
                    exact ret_1 rfl rfl ⟨_, rfl, rfl, hS⟩
              rintro _ w ⟨rfl, hS⟩
              refine WL.val (R_not rfl) rfl rfl ?_
              refine WL.nil ?_
              refine WQ.thenC ?_
              refine WC.cond rfl (fun hb712 => ?_) (fun hb712 => ?_)
              · have h := ifT hb712 h
                refine WC.seq ?_
                refine WC.reg ?_
                refine WL.val (R_fieldB o197_0 rfl) rfl rfl ?_
                refine WL.val (R_load1 g136 rfl (hS.cell 0 rfl rfl)) rfl rfl ?_
                refine WL.val (R_assign rfl) rfl rfl ?_
                refine WL.val (R_assign rfl) rfl rfl ?_
                refine WL.nil ?_
                refine WQ.thenC ?_
                refine WC.ret ?_
                refine WQ.blockR ?_
                refine WQ.thenR ?_
                refine WQ.thenR ?_
                refine WQ.blockR ?_
                refine WQ.thenR ?_
                have hS0 := hS
                have hS := hS.pick [6, 7, 8, 9, 10] [0, 1, 2, 3] rfl
                have h := Option.some.inj h
                obtain ⟨rfl, rfl⟩ := Prod.mk.inj h
                exact ret_2 rfl rfl rfl ⟨_, rfl, rfl, hS⟩
              · have h := ifF hb712 h
                refine WC.skip ?_
                refine WQ.blockN ?_
                refine WQ.thenC ?_
                refine WC.reg ?_
                refine WL.val (R_ar rfl rfl rfl) rfl rfl ?_
                refine WL.val (R_move rfl) rfl rfl ?_
                refine WL.nil ?_
                refine WQ.thenW ?_
                refine WR.step ?_
                refine WC.seq ?_
                refine WC.reg ?_
                refine WL.val (R_cmp rfl rfl rfl) rfl rfl ?_
                refine WL.nil ?_
                refine WQ.thenC ?_
                refine WC.seq ?_
                refine WC.condT rfl ?_
                refine WC.skip ?_
                refine WQ.thenC ?_
                refine WC.seq ?_
                refine WC.block ?_
                refine WC.seq ?_
                refine WC.reg ?_
                refine WL.val (R_indexB u198 z197 rfl rfl (by decide) (by decide)) rfl rfl ?_
                refine WL.val (R_loadA g197 rfl rfl (hS.cells 6 (o := 12) (m := 2) rfl rfl)) rfl rfl ?_
                refine WL.alloc _ z197 rfl hS rfl ?_
                intro b713 w hS
                refine WL.storeB 0 [.int .i64 (19 : Int), .func (.func 220) #[] #[.pointer (some ⟨b674, 0, none⟩), .pointer (some ⟨b672, 0, none⟩), .pointer (some ⟨b673, 0, none⟩)]] g197 hS rfl rfl rfl rfl rfl rfl rfl [.int .i64 (19 : Int), .func (.func 220) #[] #[.pointer (some ⟨b674, 0, none⟩), .pointer (some ⟨b672, 0, none⟩), .pointer (some ⟨b673, 0, none⟩)]] rfl ?_
                intro w hS
                refine WL.nil ?_
                refine WQ.thenC ?_
                refine WC.seq ?_
                refine WC.reg ?_
                refine WL.val (R_fieldB o197_1 rfl) rfl rfl ?_
                refine WL.val (R_load1 g27 rfl (hS.cell 0 rfl rfl)) rfl rfl ?_
                obtain ⟨r714, hr715, h⟩ := bindS h
                refine WL.callR (Φ := fun v w => v = .bool r714 ∧ Sta w0 M [Blk b713 [.int .i64 (19 : Int), .func (.func 220) #[] #[.pointer (some ⟨b674, 0, none⟩), .pointer (some ⟨b672, 0, none⟩), .pointer (some ⟨b673, 0, none⟩)]] 197, Blk b707 [.int .i64 (18 : Int), .func (.func 219) #[] #[.pointer (some ⟨b674, 0, none⟩), .pointer (some ⟨b672, 0, none⟩)]] 197, Blk b700 [.int .i64 (17 : Int), .func (.func 217) #[] #[.pointer (some ⟨b672, 0, none⟩)]] 197, Blk b696 [.int .i64 (16 : Int), .func (.func 216) #[] #[.pointer (some ⟨b672, 0, none⟩)]] 197, Blk b690 [.int .i64 (15 : Int), .func (.func 215) #[] #[.pointer (some ⟨b674, 0, none⟩), .pointer (some ⟨b672, 0, none⟩), .pointer (some ⟨b671, 0, none⟩)]] 197, Blk b684 [.int .i64 (14 : Int), .func (.func 213) #[] #[.pointer (some ⟨b672, 0, none⟩)]] 197, Blk b679 [.int .i64 (13 : Int), .func (.func 212) #[] #[.pointer (some ⟨b672, 0, none⟩)]] 197, Blk b675 [.int .i64 (13 : Int), .func (.func 212) #[] #[.pointer (some ⟨b672, 0, none⟩)], .int .i64 (14 : Int), .func (.func 213) #[] #[.pointer (some ⟨b672, 0, none⟩)], .int .i64 (15 : Int), .func (.func 215) #[] #[.pointer (some ⟨b674, 0, none⟩), .pointer (some ⟨b672, 0, none⟩), .pointer (some ⟨b671, 0, none⟩)], .int .i64 (16 : Int), .func (.func 216) #[] #[.pointer (some ⟨b672, 0, none⟩)], .int .i64 (17 : Int), .func (.func 217) #[] #[.pointer (some ⟨b672, 0, none⟩)], .int .i64 (18 : Int), .func (.func 219) #[] #[.pointer (some ⟨b674, 0, none⟩), .pointer (some ⟨b672, 0, none⟩)], .int .i64 (19 : Int), .func (.func 220) #[] #[.pointer (some ⟨b674, 0, none⟩), .pointer (some ⟨b672, 0, none⟩), .pointer (some ⟨b673, 0, none⟩)]] 197, Blk b674 [.bool (decide (p401.kind ≠ (1 : Int)))] 4, Blk b673 [.int .i64 p405] 3, Blk b672 [.int .u8 p401.kind, .int .i64 p401.value, .int .i64 p401.feature, .float .f64 p401.threshold, .slice A402 p401.cats.length c403, .int .u8 p401.missing, .int .i64 p401.left, .int .i64 p401.right] 58, Blk b671 [.string p391.name, .slice A392 p391.features.length c393, .int .i64 p391.outputs, .slice A395 p391.base.length c396, .slice A398 p391.trees.length c399] 26] [FSl (RI .i64) A402 c403 p401.cats, FSl RTree A398 c399 p391.trees, FSl (RI .i64) A395 c396 p391.base, FSl RStr A392 c393 p391.features] w) e220 rfl rfl ?_ rfl ?_
                · have h := hr715
                  refine calls_enter (n := 0) Tryz.func220 rfl [(0, .pointer (some ⟨b674, 0, none⟩)), (1, .pointer (some ⟨b672, 0, none⟩)), (2, .pointer (some ⟨b673, 0, none⟩))] rfl rfl ⟨rfl, rfl, rfl, trivial⟩ ?_
                  refine WC.seq ?_
                  refine WC.reg ?_
                  refine WL.val (R_assign rfl) rfl rfl ?_
                  refine WL.nil ?_
                  refine WQ.thenC ?_
                  refine WC.seq ?_
                  refine WC.reg ?_
                  refine WL.val (R_load1 g4 rfl (hS.cell 8 rfl rfl)) rfl rfl ?_
                  refine WL.val (R_not rfl) rfl rfl ?_
                  refine WL.val (R_move rfl) rfl rfl ?_
                  rcases boolS h with ⟨hb716, h⟩ | ⟨hb716, h⟩
                  · refine WL.gskip rfl rfl rfl hb716 rfl ?_
                    refine WL.gskip rfl rfl rfl hb716 rfl ?_
                    refine WL.gskip rfl rfl rfl hb716 rfl ?_
                    refine WL.gskip rfl rfl rfl hb716 rfl ?_
                    refine WL.gskipU rfl rfl rfl rfl ?_
                    refine WL.gskipU rfl rfl rfl rfl ?_
                    refine WL.gskipU rfl rfl rfl rfl ?_
                    refine WL.gskipU rfl rfl rfl rfl ?_
                    refine WL.gskip rfl rfl rfl hb716 rfl ?_
                    refine WL.gskip rfl rfl rfl hb716 rfl ?_
                    refine WL.gskipU rfl rfl rfl rfl ?_
                    refine WL.gskipU rfl rfl rfl rfl ?_
                    refine WL.gskipU rfl rfl rfl rfl ?_
                    refine WL.gskip rfl rfl rfl hb716 rfl ?_
                    refine WL.gskip rfl rfl rfl hb716 rfl ?_
                    refine WL.gskipU rfl rfl rfl rfl ?_
                    refine WL.gskipU rfl rfl rfl rfl ?_
                    refine WL.gskipU rfl rfl rfl rfl ?_
                    refine WL.gskipU rfl rfl rfl rfl ?_
                    refine WL.gskip rfl rfl rfl hb716 rfl ?_
                    refine WL.val (R_pickTb rfl hb716 rfl) rfl rfl ?_
                    refine WL.val (R_assign rfl) rfl rfl ?_
                    refine WL.nil ?_
                    refine WQ.thenC ?_
                    refine WC.ret ?_
                    have hS0 := hS
                    have hS := hS.pick [0, 1, 2, 3, 4, 5, 6, 7, 8, 9, 10, 11] [0, 1, 2, 3] rfl
                    obtain rfl := Option.some.inj h
                    exact ret_1 rfl rfl ⟨_, rfl, rfl, hS⟩
                  · refine WL.gvalb rfl rfl rfl hb716 (R_fieldB o58_6 rfl) rfl rfl ?_
                    refine WL.gvalb rfl rfl rfl hb716 (R_load1 g3 rfl (hS.cell 10 rfl rfl)) rfl rfl ?_
                    refine WL.gvalb rfl rfl rfl hb716 (R_cmp rfl rfl rfl) rfl rfl ?_
                    refine WL.gvalb rfl rfl rfl hb716 (R_move rfl) rfl rfl ?_
                    rcases boolS h with ⟨hb717, h⟩ | ⟨hb717, h⟩
                    · refine WL.gvalb rfl rfl rfl hb717 (R_fieldB o58_6 rfl) rfl rfl ?_
                      refine WL.gvalb rfl rfl rfl hb717 (R_load1 g3 rfl (hS.cell 10 rfl rfl)) rfl rfl ?_
                      refine WL.gvalb rfl rfl rfl hb717 (R_load1 g3 rfl (hS.cell 9 rfl rfl)) rfl rfl ?_
                      refine WL.gvalb rfl rfl rfl hb717 (R_cmp rfl rfl rfl) rfl rfl ?_
                      refine WL.gvalb rfl rfl rfl hb716 (R_pickTb rfl hb717 rfl) rfl rfl ?_
                      refine WL.gvalb rfl rfl rfl hb716 (R_move rfl) rfl rfl ?_
                      rcases boolS h with ⟨hb718, h⟩ | ⟨hb718, h⟩
                      · refine WL.gvalb rfl rfl rfl hb718 (R_fieldB o58_7 rfl) rfl rfl ?_
                        refine WL.gvalb rfl rfl rfl hb718 (R_load1 g3 rfl (hS.cell 10 rfl rfl)) rfl rfl ?_
                        refine WL.gvalb rfl rfl rfl hb718 (R_cmp rfl rfl rfl) rfl rfl ?_
                        refine WL.gvalb rfl rfl rfl hb716 (R_pickTb rfl hb718 rfl) rfl rfl ?_
                        refine WL.gvalb rfl rfl rfl hb716 (R_move rfl) rfl rfl ?_
                        rcases boolS h with ⟨hb719, h⟩ | ⟨hb719, h⟩
                        · refine WL.gvalb rfl rfl rfl hb719 (R_fieldB o58_7 rfl) rfl rfl ?_
                          refine WL.gvalb rfl rfl rfl hb719 (R_load1 g3 rfl (hS.cell 10 rfl rfl)) rfl rfl ?_
                          refine WL.gvalb rfl rfl rfl hb719 (R_load1 g3 rfl (hS.cell 9 rfl rfl)) rfl rfl ?_
                          refine WL.gvalb rfl rfl rfl hb719 (R_cmp rfl rfl rfl) rfl rfl ?_
                          refine WL.gvalb rfl rfl rfl hb716 (R_pickTb rfl hb719 rfl) rfl rfl ?_
                          refine WL.val (R_pickFb rfl hb716 rfl) rfl rfl ?_
                          refine WL.val (R_assign rfl) rfl rfl ?_
                          refine WL.nil ?_
                          refine WQ.thenC ?_
                          refine WC.ret ?_
                          have hS0 := hS
                          have hS := hS.pick [0, 1, 2, 3, 4, 5, 6, 7, 8, 9, 10, 11] [0, 1, 2, 3] rfl
                          obtain rfl := Option.some.inj h
                          exact ret_1 rfl rfl ⟨_, rfl, rfl, hS⟩
                        · refine WL.gskip rfl rfl rfl hb719 rfl ?_
                          refine WL.gskip rfl rfl rfl hb719 rfl ?_
                          refine WL.gskip rfl rfl rfl hb719 rfl ?_
                          refine WL.gskip rfl rfl rfl hb719 rfl ?_
                          refine WL.gvalb rfl rfl rfl hb716 (R_pickFb rfl hb719 rfl) rfl rfl ?_
                          refine WL.val (R_pickFb rfl hb716 rfl) rfl rfl ?_
                          refine WL.val (R_assign rfl) rfl rfl ?_
                          refine WL.nil ?_
                          refine WQ.thenC ?_
                          refine WC.ret ?_
                          have hS0 := hS
                          have hS := hS.pick [0, 1, 2, 3, 4, 5, 6, 7, 8, 9, 10, 11] [0, 1, 2, 3] rfl
                          obtain rfl := Option.some.inj h
                          exact ret_1 rfl rfl ⟨_, rfl, rfl, hS⟩
                      · refine WL.gskip rfl rfl rfl hb718 rfl ?_
                        refine WL.gskip rfl rfl rfl hb718 rfl ?_
                        refine WL.gskip rfl rfl rfl hb718 rfl ?_
                        refine WL.gvalb rfl rfl rfl hb716 (R_pickFb rfl hb718 rfl) rfl rfl ?_
                        refine WL.gvalb rfl rfl rfl hb716 (R_move rfl) rfl rfl ?_
                        refine WL.gskip rfl rfl rfl rfl rfl ?_
                        refine WL.gskip rfl rfl rfl rfl rfl ?_
                        refine WL.gskip rfl rfl rfl rfl rfl ?_
                        refine WL.gskip rfl rfl rfl rfl rfl ?_
                        refine WL.gvalb rfl rfl rfl hb716 (R_pickFb rfl rfl rfl) rfl rfl ?_
                        refine WL.val (R_pickFb rfl hb716 rfl) rfl rfl ?_
                        refine WL.val (R_assign rfl) rfl rfl ?_
                        refine WL.nil ?_
                        refine WQ.thenC ?_
                        refine WC.ret ?_
                        have hS0 := hS
                        have hS := hS.pick [0, 1, 2, 3, 4, 5, 6, 7, 8, 9, 10, 11] [0, 1, 2, 3] rfl
                        obtain rfl := Option.some.inj h
                        exact ret_1 rfl rfl ⟨_, rfl, rfl, hS⟩
                    · refine WL.gskip rfl rfl rfl hb717 rfl ?_
                      refine WL.gskip rfl rfl rfl hb717 rfl ?_
                      refine WL.gskip rfl rfl rfl hb717 rfl ?_
                      refine WL.gskip rfl rfl rfl hb717 rfl ?_
                      refine WL.gvalb rfl rfl rfl hb716 (R_pickFb rfl hb717 rfl) rfl rfl ?_
                      refine WL.gvalb rfl rfl rfl hb716 (R_move rfl) rfl rfl ?_
                      refine WL.gskip rfl rfl rfl rfl rfl ?_
                      refine WL.gskip rfl rfl rfl rfl rfl ?_
                      refine WL.gskip rfl rfl rfl rfl rfl ?_
                      refine WL.gvalb rfl rfl rfl hb716 (R_pickFb rfl rfl rfl) rfl rfl ?_
                      refine WL.gvalb rfl rfl rfl hb716 (R_move rfl) rfl rfl ?_
                      refine WL.gskip rfl rfl rfl rfl rfl ?_
                      refine WL.gskip rfl rfl rfl rfl rfl ?_
                      refine WL.gskip rfl rfl rfl rfl rfl ?_
                      refine WL.gskip rfl rfl rfl rfl rfl ?_
                      refine WL.gvalb rfl rfl rfl hb716 (R_pickFb rfl rfl rfl) rfl rfl ?_
                      refine WL.val (R_pickFb rfl hb716 rfl) rfl rfl ?_
                      refine WL.val (R_assign rfl) rfl rfl ?_
                      refine WL.nil ?_
                      refine WQ.thenC ?_
                      refine WC.ret ?_
                      have hS0 := hS
                      have hS := hS.pick [0, 1, 2, 3, 4, 5, 6, 7, 8, 9, 10, 11] [0, 1, 2, 3] rfl
                      obtain rfl := Option.some.inj h
                      exact ret_1 rfl rfl ⟨_, rfl, rfl, hS⟩
                rintro _ w ⟨rfl, hS⟩
                refine WL.val (R_not rfl) rfl rfl ?_
                refine WL.nil ?_
                refine WQ.thenC ?_
                refine WC.cond rfl (fun hb720 => ?_) (fun hb720 => ?_)
                · have h := ifT hb720 h
                  refine WC.seq ?_
                  refine WC.reg ?_
                  refine WL.val (R_fieldB o197_0 rfl) rfl rfl ?_
                  refine WL.val (R_load1 g136 rfl (hS.cell 0 rfl rfl)) rfl rfl ?_
                  refine WL.val (R_assign rfl) rfl rfl ?_
                  refine WL.val (R_assign rfl) rfl rfl ?_
                  refine WL.nil ?_
                  refine WQ.thenC ?_
                  refine WC.ret ?_
                  refine WQ.blockR ?_
                  refine WQ.thenR ?_
                  refine WQ.thenR ?_
                  refine WQ.blockR ?_
                  refine WQ.thenR ?_
                  have hS0 := hS
                  have hS := hS.pick [7, 8, 9, 10, 11] [0, 1, 2, 3] rfl
                  have h := Option.some.inj h
                  obtain ⟨rfl, rfl⟩ := Prod.mk.inj h
                  exact ret_2 rfl rfl rfl ⟨_, rfl, rfl, hS⟩
                · have h := ifF hb720 h
                  refine WC.skip ?_
                  refine WQ.blockN ?_
                  refine WQ.thenC ?_
                  refine WC.reg ?_
                  refine WL.val (R_ar rfl rfl rfl) rfl rfl ?_
                  refine WL.val (R_move rfl) rfl rfl ?_
                  refine WL.nil ?_
                  refine WQ.thenW ?_
                  refine WR.step ?_
                  refine WC.seq ?_
                  refine WC.reg ?_
                  refine WL.val (R_cmp rfl rfl rfl) rfl rfl ?_
                  refine WL.nil ?_
                  refine WQ.thenC ?_
                  refine WC.seq ?_
                  refine WC.condF rfl ?_
                  refine WC.exit ?_
                  refine WQ.thenE ?_
                  refine WQ.thenE ?_
                  refine WQ.blockE ?_
                  refine WQ.thenC ?_
                  refine WC.seq ?_
                  refine WC.reg ?_
                  refine WL.val (R_assign rfl) rfl rfl ?_
                  refine WL.val (R_assign rfl) rfl rfl ?_
                  refine WL.nil ?_
                  refine WQ.thenC ?_
                  refine WC.ret ?_
                  have hS0 := hS
                  have hS := hS.pick [7, 8, 9, 10, 11] [0, 1, 2, 3] rfl
                  have h := Option.some.inj h
                  obtain ⟨rfl, rfl⟩ := Prod.mk.inj h
                  exact ret_2 rfl rfl rfl ⟨_, rfl, rfl, hS⟩
  rintro _ w ⟨rfl, hS⟩
  refine WL.val (R_move rfl) rfl rfl ?_
  refine WL.val (R_extract rfl rfl) rfl rfl ?_
  refine WL.val (R_extract rfl rfl) rfl rfl ?_
  refine WL.val (R_assign rfl) rfl rfl ?_
  refine WL.val (R_assign rfl) rfl rfl ?_
  refine WL.nil ?_
  refine WQ.thenC ?_
  refine WC.seq ?_
  refine WC.reg ?_
  refine WL.val (R_move rfl) rfl rfl ?_
  refine WL.val (R_assign rfl) rfl rfl ?_
  refine WL.nil ?_
  refine WQ.thenC ?_
  refine WC.ret ?_
  have hS0 := hS
  obtain rfl := Option.some.inj h
  exact ret_1 rfl rfl ⟨_, rfl, hS.bel, rfl⟩

def trees_inner (p819 : Node) : Option Bool :=
    if decide (p819.kind = (2 : Int)) = true then (some true) else (some (decide (p819.kind = (3 : Int))))

theorem trees_inner_ok {w0 : World} {M : MSet} (hM : ∀ k, M k → k < w0.heap.size) (p819 : Node) {A820 : Option Addr} {c821 : Nat} (hs822 : p819.cats.length ≤ c821 ∧ Sl (RI .i64) M w0 A820 p819.cats) (r : Bool) (h : trees_inner p819 = some r) :
    Calls Tryz.prog 129 #[.agg #[.int .u8 p819.kind, .int .i64 p819.value, .int .i64 p819.feature, .float .f64 p819.threshold, .slice A820 p819.cats.length c821, .int .u8 p819.missing, .int .i64 p819.left, .int .i64 p819.right]] w0 (Gives w0 fun v w' => v = .bool r) := by
  have hS := Sta.init hM
  have hS := hS.arg hs822
  unfold trees_inner at h
  refine calls_enter (n := 0) Tryz.func129 rfl [(0, .agg #[.int .u8 p819.kind, .int .i64 p819.value, .int .i64 p819.feature, .float .f64 p819.threshold, .slice A820 p819.cats.length c821, .int .u8 p819.missing, .int .i64 p819.left, .int .i64 p819.right])] rfl rfl ⟨rfl, trivial⟩ ?_
  refine WC.seq ?_
  refine WC.reg ?_
  refine WL.box [.int .u8 p819.kind, .int .i64 p819.value, .int .i64 p819.feature, .float .f64 p819.threshold, .slice A820 p819.cats.length c821, .int .u8 p819.missing, .int .i64 p819.left, .int .i64 p819.right] rfl rfl hS rfl ?_
  intro b825 w hS
  refine WL.val (R_assign rfl) rfl rfl ?_
  refine WL.nil ?_
  refine WQ.thenC ?_
  refine WC.seq ?_
  refine WC.reg ?_
  refine WL.val (R_fieldB o58_0 rfl) rfl rfl ?_
  refine WL.val (R_load1 g53 rfl (hS.cell 0 rfl rfl)) rfl rfl ?_
  refine WL.val (R_cmp rfl rfl rfl) rfl rfl ?_
  refine WL.val (R_move rfl) rfl rfl ?_
  rcases boolS h with ⟨hb826, h⟩ | ⟨hb826, h⟩
  · refine WL.gskip rfl rfl rfl hb826 rfl ?_
    refine WL.gskip rfl rfl rfl hb826 rfl ?_
    refine WL.gskip rfl rfl rfl hb826 rfl ?_
    refine WL.val (R_pickTb rfl hb826 rfl) rfl rfl ?_
    refine WL.val (R_assign rfl) rfl rfl ?_
    refine WL.nil ?_
    refine WQ.thenC ?_
    refine WC.ret ?_
    have hS0 := hS
    obtain rfl := Option.some.inj h
    exact ret_1 rfl rfl ⟨_, rfl, hS.bel, rfl⟩
  · refine WL.gvalb rfl rfl rfl hb826 (R_fieldB o58_0 rfl) rfl rfl ?_
    refine WL.gvalb rfl rfl rfl hb826 (R_load1 g53 rfl (hS.cell 0 rfl rfl)) rfl rfl ?_
    refine WL.gvalb rfl rfl rfl hb826 (R_cmp rfl rfl rfl) rfl rfl ?_
    refine WL.val (R_pickFb rfl hb826 rfl) rfl rfl ?_
    refine WL.val (R_assign rfl) rfl rfl ?_
    refine WL.nil ?_
    refine WQ.thenC ?_
    refine WC.ret ?_
    have hS0 := hS
    obtain rfl := Option.some.inj h
    exact ret_1 rfl rfl ⟨_, rfl, hS.bel, rfl⟩

def trees_right_l0 (k : Nat) (p798 : Node) : Nat → Int → Int → Option (Fl Bool Int)
  | 0, _, _ => none
  | m + 1, y1019, y1020 =>
    if decide (y1020 < (p798.cats.length : Int)) = true then ((rd p798.cats y1020).bind fun x1033 =>
    if decide (x1033 ≤ y1019) = true then ((some false).map Fl.ret) else (if decide ((1024 : Int) ≤ x1033) = true then ((some false).map Fl.ret) else (trees_right_l0 k p798 m x1033 (IntKind.i64.wrap (y1020 + (1 : Int)))))) else (some (.go y1019))

def trees_right (k : Nat) (p798 : Node) (p802 : Int) : Option Bool :=
    if decide (p798.kind = (1 : Int)) = true then ((if decide (p798.feature = (0 : Int)) = true then (if decide ((p798.threshold : Int) = (0 : Int)) = true then (if decide ((p798.cats.length : Int) = (0 : Int)) = true then (if decide (p798.missing = (0 : Int)) = true then (if decide (p798.left = (0 : Int)) = true then (some (decide (p798.right = (0 : Int)))) else (some false)) else (some false)) else (some false)) else (some false)) else (some false) : Option Bool).bind fun y929 =>
    some y929) else (((trees_inner p798).bind fun r957 =>
    if (!r957) = true then ((some false).map Fl.ret) else (if decide (p798.value ≠ (0 : Int)) = true then ((some false).map Fl.ret) else (if decide (p798.feature < (0 : Int)) = true then ((some false).map Fl.ret) else (if decide ((65536 : Int) ≤ p798.feature) = true then ((some false).map Fl.ret) else (if decide (p798.missing ≠ (1 : Int)) = true then (if decide (p798.missing ≠ (2 : Int)) = true then ((some false).map Fl.ret) else (if decide (p798.left < (1 : Int)) = true then ((some false).map Fl.ret) else (if decide (p802 ≤ p798.left) = true then ((some false).map Fl.ret) else (if decide (p798.right < (1 : Int)) = true then ((some false).map Fl.ret) else (if decide (p802 ≤ p798.right) = true then ((some false).map Fl.ret) else (some (.go ()))))))) else (if decide (p798.left < (1 : Int)) = true then ((some false).map Fl.ret) else (if decide (p802 ≤ p798.left) = true then ((some false).map Fl.ret) else (if decide (p798.right < (1 : Int)) = true then ((some false).map Fl.ret) else (if decide (p802 ≤ p798.right) = true then ((some false).map Fl.ret) else (some (.go ())))))))))) : Option (Fl Bool Unit)).bind fun o => match o with
    | .ret r => some r
    | .go _ =>
    (if decide (p798.kind = (2 : Int)) = true then ((if (cmpF .eql p798.threshold p798.threshold) = true then (some (decide ((p798.cats.length : Int) = (0 : Int)))) else (some false) : Option Bool).bind fun y975 =>
    some y975) else ((trees_right_l0 k p798 k (-1 : Int) (0 : Int) : Option (Fl Bool Int)).bind fun o => match o with
    | .ret r => some r
    | .go y1004 =>
    (if decide ((p798.threshold : Int) = (0 : Int)) = true then (some (decide ((0 : Int) ≤ y1004))) else (some false)))))

theorem trees_right_ok {w0 : World} {M : MSet} (hM : ∀ k, M k → k < w0.heap.size) (k : Nat) (p798 : Node) (p802 : Int) {A799 : Option Addr} {c800 : Nat} (hs801 : p798.cats.length ≤ c800 ∧ Sl (RI .i64) M w0 A799 p798.cats) (r : Bool) (h : trees_right k p798 p802 = some r) :
    Calls Tryz.prog 128 #[.agg #[.int .u8 p798.kind, .int .i64 p798.value, .int .i64 p798.feature, .float .f64 p798.threshold, .slice A799 p798.cats.length c800, .int .u8 p798.missing, .int .i64 p798.left, .int .i64 p798.right], .int .i64 p802] w0 (Gives w0 fun v w' => v = .bool r) := by
  have hS := Sta.init hM
  have hS := hS.arg hs801
  unfold trees_right at h
  refine calls_enter (n := 0) Tryz.func128 rfl [(0, .agg #[.int .u8 p798.kind, .int .i64 p798.value, .int .i64 p798.feature, .float .f64 p798.threshold, .slice A799 p798.cats.length c800, .int .u8 p798.missing, .int .i64 p798.left, .int .i64 p798.right]), (1, .int .i64 p802)] rfl rfl ⟨rfl, rfl, trivial⟩ ?_
  refine WC.seq ?_
  refine WC.reg ?_
  refine WL.box [.int .u8 p798.kind, .int .i64 p798.value, .int .i64 p798.feature, .float .f64 p798.threshold, .slice A799 p798.cats.length c800, .int .u8 p798.missing, .int .i64 p798.left, .int .i64 p798.right] rfl rfl hS rfl ?_
  intro b922 w hS
  refine WL.val (R_assign rfl) rfl rfl ?_
  refine WL.nil ?_
  refine WQ.thenC ?_
  refine WC.seq ?_
  refine WC.reg ?_
  refine WL.val (R_fieldB o58_3 rfl) rfl rfl ?_
  refine WL.val (R_load1 g54 rfl (hS.cell 0 rfl rfl)) rfl rfl ?_
  refine WL.val (R_f64bits xb104 rfl) rfl rfl ?_
  refine WL.val (R_cmp rfl rfl rfl) rfl rfl ?_
  refine WL.val (R_assign rfl) rfl rfl ?_
  refine WL.nil ?_
  refine WQ.thenC ?_
  refine WC.seq ?_
  refine WC.seq ?_
  refine WC.reg ?_
  refine WL.val (R_fieldB o58_0 rfl) rfl rfl ?_
  refine WL.val (R_load1 g53 rfl (hS.cell 0 rfl rfl)) rfl rfl ?_
  refine WL.val (R_cmp rfl rfl rfl) rfl rfl ?_
  refine WL.nil ?_
  refine WQ.thenC ?_
  refine WC.cond rfl (fun hb923 => ?_) (fun hb923 => ?_)
  · have h := ifT hb923 h
    obtain ⟨o930, h931, h932⟩ := bindS h
    refine WC.seqM (fun env w => ∃ (y929 : Bool), y929 = o930 ∧ env = [(4, .bool y929)] ∧ Sta w0 M [] [] w) ?_ ?_
    · have h := h931
      refine WC.reg ?_
      refine WL.val (R_fieldB o58_2 rfl) rfl rfl ?_
      refine WL.val (R_load1 g3 rfl (hS.cell 0 rfl rfl)) rfl rfl ?_
      refine WL.val (R_cmp rfl rfl rfl) rfl rfl ?_
      refine WL.val (R_move rfl) rfl rfl ?_
      rcases boolS h with ⟨hb933, h⟩ | ⟨hb933, h⟩
      · refine WL.gvalb rfl rfl rfl hb933 (R_move rfl) rfl rfl ?_
        refine WL.val (R_pickTb rfl hb933 rfl) rfl rfl ?_
        refine WL.val (R_move rfl) rfl rfl ?_
        rcases boolS h with ⟨hb934, h⟩ | ⟨hb934, h⟩
        · refine WL.gvalb rfl rfl rfl hb934 (R_fieldB o58_4 rfl) rfl rfl ?_
          refine WL.gvalb rfl rfl rfl hb934 (R_load1 g55 rfl (hS.cell 0 rfl rfl)) rfl rfl ?_
          refine WL.gvalb rfl rfl rfl hb934 (R_lenS u55 rfl) rfl rfl ?_
          refine WL.gvalb rfl rfl rfl hb934 (R_cmp rfl rfl rfl) rfl rfl ?_
          refine WL.val (R_pickTb rfl hb934 rfl) rfl rfl ?_
          refine WL.val (R_move rfl) rfl rfl ?_
          rcases boolS h with ⟨hb935, h⟩ | ⟨hb935, h⟩
          · refine WL.gvalb rfl rfl rfl hb935 (R_fieldB o58_5 rfl) rfl rfl ?_
            refine WL.gvalb rfl rfl rfl hb935 (R_load1 g56 rfl (hS.cell 0 rfl rfl)) rfl rfl ?_
            refine WL.gvalb rfl rfl rfl hb935 (R_cmp rfl rfl rfl) rfl rfl ?_
            refine WL.val (R_pickTb rfl hb935 rfl) rfl rfl ?_
            refine WL.val (R_move rfl) rfl rfl ?_
            rcases boolS h with ⟨hb936, h⟩ | ⟨hb936, h⟩
            · refine WL.gvalb rfl rfl rfl hb936 (R_fieldB o58_6 rfl) rfl rfl ?_
              refine WL.gvalb rfl rfl rfl hb936 (R_load1 g3 rfl (hS.cell 0 rfl rfl)) rfl rfl ?_
              refine WL.gvalb rfl rfl rfl hb936 (R_cmp rfl rfl rfl) rfl rfl ?_
              refine WL.val (R_pickTb rfl hb936 rfl) rfl rfl ?_
              refine WL.val (R_move rfl) rfl rfl ?_
              rcases boolS h with ⟨hb937, h⟩ | ⟨hb937, h⟩
              · refine WL.gvalb rfl rfl rfl hb937 (R_fieldB o58_7 rfl) rfl rfl ?_
                refine WL.gvalb rfl rfl rfl hb937 (R_load1 g3 rfl (hS.cell 0 rfl rfl)) rfl rfl ?_
                refine WL.gvalb rfl rfl rfl hb937 (R_cmp rfl rfl rfl) rfl rfl ?_
                refine WL.val (R_pickTb rfl hb937 rfl) rfl rfl ?_
                refine WL.val (R_assign rfl) rfl rfl ?_
                refine WL.nil ?_
                have hS := hS.pick [] [] rfl
                exact WQ.toJ ⟨decide (p798.right = (0 : Int)), Option.some.inj h, rfl, hS⟩ ⟨rfl, trivial⟩
              · refine WL.gskip rfl rfl rfl hb937 rfl ?_
                refine WL.gskip rfl rfl rfl hb937 rfl ?_
                refine WL.gskip rfl rfl rfl hb937 rfl ?_
                refine WL.val (R_pickFb rfl hb937 rfl) rfl rfl ?_
                refine WL.val (R_assign rfl) rfl rfl ?_
                refine WL.nil ?_
                have hS := hS.pick [] [] rfl
                exact WQ.toJ ⟨false, Option.some.inj h, rfl, hS⟩ ⟨rfl, trivial⟩
            · refine WL.gskip rfl rfl rfl hb936 rfl ?_
              refine WL.gskip rfl rfl rfl hb936 rfl ?_
              refine WL.gskip rfl rfl rfl hb936 rfl ?_
              refine WL.val (R_pickFb rfl hb936 rfl) rfl rfl ?_
              refine WL.val (R_move rfl) rfl rfl ?_
              refine WL.gskip rfl rfl rfl rfl rfl ?_
              refine WL.gskip rfl rfl rfl rfl rfl ?_
              refine WL.gskip rfl rfl rfl rfl rfl ?_
              refine WL.val (R_pickFb rfl rfl rfl) rfl rfl ?_
              refine WL.val (R_assign rfl) rfl rfl ?_
              refine WL.nil ?_
              have hS := hS.pick [] [] rfl
              exact WQ.toJ ⟨false, Option.some.inj h, rfl, hS⟩ ⟨rfl, trivial⟩
          · refine WL.gskip rfl rfl rfl hb935 rfl ?_
            refine WL.gskip rfl rfl rfl hb935 rfl ?_
            refine WL.gskip rfl rfl rfl hb935 rfl ?_
            refine WL.val (R_pickFb rfl hb935 rfl) rfl rfl ?_
            refine WL.val (R_move rfl) rfl rfl ?_
            refine WL.gskip rfl rfl rfl rfl rfl ?_
            refine WL.gskip rfl rfl rfl rfl rfl ?_
            refine WL.gskip rfl rfl rfl rfl rfl ?_
            refine WL.val (R_pickFb rfl rfl rfl) rfl rfl ?_
            refine WL.val (R_move rfl) rfl rfl ?_
            refine WL.gskip rfl rfl rfl rfl rfl ?_
            refine WL.gskip rfl rfl rfl rfl rfl ?_
            refine WL.gskip rfl rfl rfl rfl rfl ?_
            refine WL.val (R_pickFb rfl rfl rfl) rfl rfl ?_
            refine WL.val (R_assign rfl) rfl rfl ?_
            refine WL.nil ?_
            have hS := hS.pick [] [] rfl
            exact WQ.toJ ⟨false, Option.some.inj h, rfl, hS⟩ ⟨rfl, trivial⟩
        · refine WL.gskip rfl rfl rfl hb934 rfl ?_
          refine WL.gskip rfl rfl rfl hb934 rfl ?_
          refine WL.gskip rfl rfl rfl hb934 rfl ?_
          refine WL.gskip rfl rfl rfl hb934 rfl ?_
          refine WL.val (R_pickFb rfl hb934 rfl) rfl rfl ?_
          refine WL.val (R_move rfl) rfl rfl ?_
          refine WL.gskip rfl rfl rfl rfl rfl ?_
          refine WL.gskip rfl rfl rfl rfl rfl ?_
          refine WL.gskip rfl rfl rfl rfl rfl ?_
          refine WL.val (R_pickFb rfl rfl rfl) rfl rfl ?_
          refine WL.val (R_move rfl) rfl rfl ?_
          refine WL.gskip rfl rfl rfl rfl rfl ?_
          refine WL.gskip rfl rfl rfl rfl rfl ?_
          refine WL.gskip rfl rfl rfl rfl rfl ?_
          refine WL.val (R_pickFb rfl rfl rfl) rfl rfl ?_
          refine WL.val (R_move rfl) rfl rfl ?_
          refine WL.gskip rfl rfl rfl rfl rfl ?_
          refine WL.gskip rfl rfl rfl rfl rfl ?_
          refine WL.gskip rfl rfl rfl rfl rfl ?_
          refine WL.val (R_pickFb rfl rfl rfl) rfl rfl ?_
          refine WL.val (R_assign rfl) rfl rfl ?_
          refine WL.nil ?_
          have hS := hS.pick [] [] rfl
          exact WQ.toJ ⟨false, Option.some.inj h, rfl, hS⟩ ⟨rfl, trivial⟩
      · refine WL.gskip rfl rfl rfl hb933 rfl ?_
        refine WL.val (R_pickFb rfl hb933 rfl) rfl rfl ?_
        refine WL.val (R_move rfl) rfl rfl ?_
        refine WL.gskip rfl rfl rfl rfl rfl ?_
        refine WL.gskip rfl rfl rfl rfl rfl ?_
        refine WL.gskip rfl rfl rfl rfl rfl ?_
        refine WL.gskip rfl rfl rfl rfl rfl ?_
        refine WL.val (R_pickFb rfl rfl rfl) rfl rfl ?_
        refine WL.val (R_move rfl) rfl rfl ?_
        refine WL.gskip rfl rfl rfl rfl rfl ?_
        refine WL.gskip rfl rfl rfl rfl rfl ?_
        refine WL.gskip rfl rfl rfl rfl rfl ?_
        refine WL.val (R_pickFb rfl rfl rfl) rfl rfl ?_
        refine WL.val (R_move rfl) rfl rfl ?_
        refine WL.gskip rfl rfl rfl rfl rfl ?_
        refine WL.gskip rfl rfl rfl rfl rfl ?_
        refine WL.gskip rfl rfl rfl rfl rfl ?_
        refine WL.val (R_pickFb rfl rfl rfl) rfl rfl ?_
        refine WL.val (R_move rfl) rfl rfl ?_
        refine WL.gskip rfl rfl rfl rfl rfl ?_
        refine WL.gskip rfl rfl rfl rfl rfl ?_
        refine WL.gskip rfl rfl rfl rfl rfl ?_
        refine WL.val (R_pickFb rfl rfl rfl) rfl rfl ?_
        refine WL.val (R_assign rfl) rfl rfl ?_
        refine WL.nil ?_
        have hS := hS.pick [] [] rfl
        exact WQ.toJ ⟨false, Option.some.inj h, rfl, hS⟩ ⟨rfl, trivial⟩
    · rintro _ w ⟨y929, rfl, rfl, hS⟩
      have h := h932
      try dsimp only at h
      refine WC.ret ?_
      refine WQ.thenR ?_
      have hS0 := hS
      obtain rfl := Option.some.inj h
      exact ret_1 rfl rfl ⟨_, rfl, hS.bel, rfl⟩
  · have h := ifF hb923 h
    refine WC.skip ?_
    refine WQ.thenC ?_
    obtain ⟨o954, h955, h956⟩ := bindS h
    refine WC.seqM (fun env w => Fl.go () = o954 ∧ env = [(2, .pointer (some ⟨b922, 0, none⟩)), (5, .bool (decide ((p798.threshold : Int) = (0 : Int))))] ∧ Sta w0 M [Blk b922 [.int .u8 p798.kind, .int .i64 p798.value, .int .i64 p798.feature, .float .f64 p798.threshold, .slice A799 p798.cats.length c800, .int .u8 p798.missing, .int .i64 p798.left, .int .i64 p798.right] 58] [FSl (RI .i64) A799 c800 p798.cats] w) ?_ ?_
    · have h := h955
      refine WC.seq ?_
      refine WC.reg ?_
      refine WL.val (R_loadA g58 rfl rfl (hS.cells 0 (o := 0) (m := 8) rfl rfl)) rfl rfl ?_
      obtain ⟨r957, hr958, h⟩ := bindS h
      refine WL.call e129 rfl rfl hS (trees_inner_ok (hS).mx_lt p798 (hS.sl 0 rfl) _ hr958) rfl ?_
      intro v w hB hS hP
      obtain ⟨rfl⟩ := hP
      refine WL.val (R_not rfl) rfl rfl ?_
      refine WL.val (R_move rfl) rfl rfl ?_
      rcases boolS h with ⟨hb959, h⟩ | ⟨hb959, h⟩
      · refine WL.gskip rfl rfl rfl hb959 rfl ?_
        refine WL.gskip rfl rfl rfl hb959 rfl ?_
        refine WL.gskip rfl rfl rfl hb959 rfl ?_
        refine WL.val (R_pickTb rfl hb959 rfl) rfl rfl ?_
        refine WL.val (R_move rfl) rfl rfl ?_
        refine WL.gskip rfl rfl rfl rfl rfl ?_
        refine WL.gskip rfl rfl rfl rfl rfl ?_
        refine WL.gskip rfl rfl rfl rfl rfl ?_
        refine WL.val (R_pickTb rfl rfl rfl) rfl rfl ?_
        refine WL.val (R_move rfl) rfl rfl ?_
        refine WL.gskip rfl rfl rfl rfl rfl ?_
        refine WL.gskip rfl rfl rfl rfl rfl ?_
        refine WL.gskip rfl rfl rfl rfl rfl ?_
        refine WL.val (R_pickTb rfl rfl rfl) rfl rfl ?_
        refine WL.val (R_move rfl) rfl rfl ?_
        refine WL.gskip rfl rfl rfl rfl rfl ?_
        refine WL.gskip rfl rfl rfl rfl rfl ?_
        refine WL.gskip rfl rfl rfl rfl rfl ?_
        refine WL.gskip rfl rfl rfl rfl rfl ?_
        refine WL.gskipU rfl rfl rfl rfl ?_
        refine WL.gskipU rfl rfl rfl rfl ?_
        refine WL.gskipU rfl rfl rfl rfl ?_
        refine WL.gskip rfl rfl rfl rfl rfl ?_
        refine WL.val (R_pickTb rfl rfl rfl) rfl rfl ?_
        refine WL.val (R_move rfl) rfl rfl ?_
        refine WL.gskip rfl rfl rfl rfl rfl ?_
        refine WL.gskip rfl rfl rfl rfl rfl ?_
        refine WL.gskip rfl rfl rfl rfl rfl ?_
        refine WL.val (R_pickTb rfl rfl rfl) rfl rfl ?_
        refine WL.val (R_move rfl) rfl rfl ?_
        refine WL.gskip rfl rfl rfl rfl rfl ?_
        refine WL.gskip rfl rfl rfl rfl rfl ?_
        refine WL.gskip rfl rfl rfl rfl rfl ?_
        refine WL.gskip rfl rfl rfl rfl rfl ?_
        refine WL.val (R_pickTb rfl rfl rfl) rfl rfl ?_
        refine WL.val (R_move rfl) rfl rfl ?_
        refine WL.gskip rfl rfl rfl rfl rfl ?_
        refine WL.gskip rfl rfl rfl rfl rfl ?_
        refine WL.gskip rfl rfl rfl rfl rfl ?_
        refine WL.val (R_pickTb rfl rfl rfl) rfl rfl ?_
        refine WL.val (R_move rfl) rfl rfl ?_
        refine WL.gskip rfl rfl rfl rfl rfl ?_
        refine WL.gskip rfl rfl rfl rfl rfl ?_
        refine WL.gskip rfl rfl rfl rfl rfl ?_
        refine WL.gskip rfl rfl rfl rfl rfl ?_
        refine WL.val (R_pickTb rfl rfl rfl) rfl rfl ?_
        refine WL.nil ?_
        refine WQ.thenC ?_
        refine WC.condT rfl ?_
        refine WC.seq ?_
        refine WC.reg ?_
        refine WL.val (R_assign rfl) rfl rfl ?_
        refine WL.nil ?_
        refine WQ.thenC ?_
        refine WC.ret ?_
        refine WQ.thenR ?_
        obtain ⟨_, hr, rfl⟩ := mapS h
        have h := hr.trans h956
        have hS0 := hS
        obtain rfl := Option.some.inj h
        exact ret_1 rfl rfl ⟨_, rfl, hS.bel, rfl⟩
      · refine WL.gvalb rfl rfl rfl hb959 (R_fieldB o58_1 rfl) rfl rfl ?_
        refine WL.gvalb rfl rfl rfl hb959 (R_load1 g2 rfl (hS.cell 0 rfl rfl)) rfl rfl ?_
        refine WL.gvalb rfl rfl rfl hb959 (R_cmp rfl rfl rfl) rfl rfl ?_
        refine WL.val (R_pickFb rfl hb959 rfl) rfl rfl ?_
        refine WL.val (R_move rfl) rfl rfl ?_
        rcases boolS h with ⟨hb960, h⟩ | ⟨hb960, h⟩
        · refine WL.gskip rfl rfl rfl hb960 rfl ?_
          refine WL.gskip rfl rfl rfl hb960 rfl ?_
          refine WL.gskip rfl rfl rfl hb960 rfl ?_
          refine WL.val (R_pickTb rfl hb960 rfl) rfl rfl ?_
          refine WL.val (R_move rfl) rfl rfl ?_
          refine WL.gskip rfl rfl rfl rfl rfl ?_
          refine WL.gskip rfl rfl rfl rfl rfl ?_
          refine WL.gskip rfl rfl rfl rfl rfl ?_
          refine WL.val (R_pickTb rfl rfl rfl) rfl rfl ?_
          refine WL.val (R_move rfl) rfl rfl ?_
          refine WL.gskip rfl rfl rfl rfl rfl ?_
          refine WL.gskip rfl rfl rfl rfl rfl ?_
          refine WL.gskip rfl rfl rfl rfl rfl ?_
          refine WL.gskip rfl rfl rfl rfl rfl ?_
          refine WL.gskipU rfl rfl rfl rfl ?_
          refine WL.gskipU rfl rfl rfl rfl ?_
          refine WL.gskipU rfl rfl rfl rfl ?_
          refine WL.gskip rfl rfl rfl rfl rfl ?_
          refine WL.val (R_pickTb rfl rfl rfl) rfl rfl ?_
          refine WL.val (R_move rfl) rfl rfl ?_
          refine WL.gskip rfl rfl rfl rfl rfl ?_
          refine WL.gskip rfl rfl rfl rfl rfl ?_
          refine WL.gskip rfl rfl rfl rfl rfl ?_
          refine WL.val (R_pickTb rfl rfl rfl) rfl rfl ?_
          refine WL.val (R_move rfl) rfl rfl ?_
          refine WL.gskip rfl rfl rfl rfl rfl ?_
          refine WL.gskip rfl rfl rfl rfl rfl ?_
          refine WL.gskip rfl rfl rfl rfl rfl ?_
          refine WL.gskip rfl rfl rfl rfl rfl ?_
          refine WL.val (R_pickTb rfl rfl rfl) rfl rfl ?_
          refine WL.val (R_move rfl) rfl rfl ?_
          refine WL.gskip rfl rfl rfl rfl rfl ?_
          refine WL.gskip rfl rfl rfl rfl rfl ?_
          refine WL.gskip rfl rfl rfl rfl rfl ?_
          refine WL.val (R_pickTb rfl rfl rfl) rfl rfl ?_
          refine WL.val (R_move rfl) rfl rfl ?_
          refine WL.gskip rfl rfl rfl rfl rfl ?_
          refine WL.gskip rfl rfl rfl rfl rfl ?_
          refine WL.gskip rfl rfl rfl rfl rfl ?_
          refine WL.gskip rfl rfl rfl rfl rfl ?_
          refine WL.val (R_pickTb rfl rfl rfl) rfl rfl ?_
          refine WL.nil ?_
          refine WQ.thenC ?_
          refine WC.condT rfl ?_
          refine WC.seq ?_
          refine WC.reg ?_
          refine WL.val (R_assign rfl) rfl rfl ?_
          refine WL.nil ?_
          refine WQ.thenC ?_
          refine WC.ret ?_
          refine WQ.thenR ?_
          obtain ⟨_, hr, rfl⟩ := mapS h
          have h := hr.trans h956
          have hS0 := hS
          obtain rfl := Option.some.inj h
          exact ret_1 rfl rfl ⟨_, rfl, hS.bel, rfl⟩
        · refine WL.gvalb rfl rfl rfl hb960 (R_fieldB o58_2 rfl) rfl rfl ?_
          refine WL.gvalb rfl rfl rfl hb960 (R_load1 g3 rfl (hS.cell 0 rfl rfl)) rfl rfl ?_
          refine WL.gvalb rfl rfl rfl hb960 (R_cmp rfl rfl rfl) rfl rfl ?_
          refine WL.val (R_pickFb rfl hb960 rfl) rfl rfl ?_
          refine WL.val (R_move rfl) rfl rfl ?_
          rcases boolS h with ⟨hb961, h⟩ | ⟨hb961, h⟩
          · refine WL.gskip rfl rfl rfl hb961 rfl ?_
            refine WL.gskip rfl rfl rfl hb961 rfl ?_
            refine WL.gskip rfl rfl rfl hb961 rfl ?_
            refine WL.val (R_pickTb rfl hb961 rfl) rfl rfl ?_
            refine WL.val (R_move rfl) rfl rfl ?_
            refine WL.gskip rfl rfl rfl rfl rfl ?_
            refine WL.gskip rfl rfl rfl rfl rfl ?_
            refine WL.gskip rfl rfl rfl rfl rfl ?_
            refine WL.gskip rfl rfl rfl rfl rfl ?_
            refine WL.gskipU rfl rfl rfl rfl ?_
            refine WL.gskipU rfl rfl rfl rfl ?_
            refine WL.gskipU rfl rfl rfl rfl ?_
            refine WL.gskip rfl rfl rfl rfl rfl ?_
            refine WL.val (R_pickTb rfl rfl rfl) rfl rfl ?_
            refine WL.val (R_move rfl) rfl rfl ?_
            refine WL.gskip rfl rfl rfl rfl rfl ?_
            refine WL.gskip rfl rfl rfl rfl rfl ?_
            refine WL.gskip rfl rfl rfl rfl rfl ?_
            refine WL.val (R_pickTb rfl rfl rfl) rfl rfl ?_
            refine WL.val (R_move rfl) rfl rfl ?_
            refine WL.gskip rfl rfl rfl rfl rfl ?_
            refine WL.gskip rfl rfl rfl rfl rfl ?_
            refine WL.gskip rfl rfl rfl rfl rfl ?_
            refine WL.gskip rfl rfl rfl rfl rfl ?_
            refine WL.val (R_pickTb rfl rfl rfl) rfl rfl ?_
            refine WL.val (R_move rfl) rfl rfl ?_
            refine WL.gskip rfl rfl rfl rfl rfl ?_
            refine WL.gskip rfl rfl rfl rfl rfl ?_
            refine WL.gskip rfl rfl rfl rfl rfl ?_
            refine WL.val (R_pickTb rfl rfl rfl) rfl rfl ?_
            refine WL.val (R_move rfl) rfl rfl ?_
            refine WL.gskip rfl rfl rfl rfl rfl ?_
            refine WL.gskip rfl rfl rfl rfl rfl ?_
            refine WL.gskip rfl rfl rfl rfl rfl ?_
            refine WL.gskip rfl rfl rfl rfl rfl ?_
            refine WL.val (R_pickTb rfl rfl rfl) rfl rfl ?_
            refine WL.nil ?_
            refine WQ.thenC ?_
            refine WC.condT rfl ?_
            refine WC.seq ?_
            refine WC.reg ?_
            refine WL.val (R_assign rfl) rfl rfl ?_
            refine WL.nil ?_
            refine WQ.thenC ?_
            refine WC.ret ?_
            refine WQ.thenR ?_
            obtain ⟨_, hr, rfl⟩ := mapS h
            have h := hr.trans h956
            have hS0 := hS
            obtain rfl := Option.some.inj h
            exact ret_1 rfl rfl ⟨_, rfl, hS.bel, rfl⟩
          · refine WL.gvalb rfl rfl rfl hb961 (R_fieldB o58_2 rfl) rfl rfl ?_
            refine WL.gvalb rfl rfl rfl hb961 (R_load1 g3 rfl (hS.cell 0 rfl rfl)) rfl rfl ?_
            refine WL.gvalb rfl rfl rfl hb961 (R_cmp rfl rfl rfl) rfl rfl ?_
            refine WL.val (R_pickFb rfl hb961 rfl) rfl rfl ?_
            refine WL.val (R_move rfl) rfl rfl ?_
            rcases boolS h with ⟨hb962, h⟩ | ⟨hb962, h⟩
            · refine WL.gskip rfl rfl rfl hb962 rfl ?_
              refine WL.gskip rfl rfl rfl hb962 rfl ?_
              refine WL.gskip rfl rfl rfl hb962 rfl ?_
              refine WL.gskip rfl rfl rfl hb962 rfl ?_
              refine WL.gskipU rfl rfl rfl rfl ?_
              refine WL.gskipU rfl rfl rfl rfl ?_
              refine WL.gskipU rfl rfl rfl rfl ?_
              refine WL.gskip rfl rfl rfl hb962 rfl ?_
              refine WL.val (R_pickTb rfl hb962 rfl) rfl rfl ?_
              refine WL.val (R_move rfl) rfl rfl ?_
              refine WL.gskip rfl rfl rfl rfl rfl ?_
              refine WL.gskip rfl rfl rfl rfl rfl ?_
              refine WL.gskip rfl rfl rfl rfl rfl ?_
              refine WL.val (R_pickTb rfl rfl rfl) rfl rfl ?_
              refine WL.val (R_move rfl) rfl rfl ?_
              refine WL.gskip rfl rfl rfl rfl rfl ?_
              refine WL.gskip rfl rfl rfl rfl rfl ?_
              refine WL.gskip rfl rfl rfl rfl rfl ?_
              refine WL.gskip rfl rfl rfl rfl rfl ?_
              refine WL.val (R_pickTb rfl rfl rfl) rfl rfl ?_
              refine WL.val (R_move rfl) rfl rfl ?_
              refine WL.gskip rfl rfl rfl rfl rfl ?_
              refine WL.gskip rfl rfl rfl rfl rfl ?_
              refine WL.gskip rfl rfl rfl rfl rfl ?_
              refine WL.val (R_pickTb rfl rfl rfl) rfl rfl ?_
              refine WL.val (R_move rfl) rfl rfl ?_
              refine WL.gskip rfl rfl rfl rfl rfl ?_
              refine WL.gskip rfl rfl rfl rfl rfl ?_
              refine WL.gskip rfl rfl rfl rfl rfl ?_
              refine WL.gskip rfl rfl rfl rfl rfl ?_
              refine WL.val (R_pickTb rfl rfl rfl) rfl rfl ?_
              refine WL.nil ?_
              refine WQ.thenC ?_
              refine WC.condT rfl ?_
              refine WC.seq ?_
              refine WC.reg ?_
              refine WL.val (R_assign rfl) rfl rfl ?_
              refine WL.nil ?_
              refine WQ.thenC ?_
              refine WC.ret ?_
              refine WQ.thenR ?_
              obtain ⟨_, hr, rfl⟩ := mapS h
              have h := hr.trans h956
              have hS0 := hS
              obtain rfl := Option.some.inj h
              exact ret_1 rfl rfl ⟨_, rfl, hS.bel, rfl⟩
            · refine WL.gvalb rfl rfl rfl hb962 (R_fieldB o58_5 rfl) rfl rfl ?_
              refine WL.gvalb rfl rfl rfl hb962 (R_load1 g56 rfl (hS.cell 0 rfl rfl)) rfl rfl ?_
              refine WL.gvalb rfl rfl rfl hb962 (R_cmp rfl rfl rfl) rfl rfl ?_
              refine WL.gvalb rfl rfl rfl hb962 (R_move rfl) rfl rfl ?_
              rcases boolS h with ⟨hb963, h⟩ | ⟨hb963, h⟩
              · refine WL.gvalb rfl rfl rfl hb963 (R_fieldB o58_5 rfl) rfl rfl ?_
                refine WL.gvalb rfl rfl rfl hb963 (R_load1 g56 rfl (hS.cell 0 rfl rfl)) rfl rfl ?_
                refine WL.gvalb rfl rfl rfl hb963 (R_cmp rfl rfl rfl) rfl rfl ?_
                refine WL.gvalb rfl rfl rfl hb962 (R_pickTb rfl hb963 rfl) rfl rfl ?_
                refine WL.val (R_pickFb rfl hb962 rfl) rfl rfl ?_
                refine WL.val (R_move rfl) rfl rfl ?_
                rcases boolS h with ⟨hb964, h⟩ | ⟨hb964, h⟩
                · refine WL.gskip rfl rfl rfl hb964 rfl ?_
                  refine WL.gskip rfl rfl rfl hb964 rfl ?_
                  refine WL.gskip rfl rfl rfl hb964 rfl ?_
                  refine WL.val (R_pickTb rfl hb964 rfl) rfl rfl ?_
                  refine WL.val (R_move rfl) rfl rfl ?_
                  refine WL.gskip rfl rfl rfl rfl rfl ?_
                  refine WL.gskip rfl rfl rfl rfl rfl ?_
                  refine WL.gskip rfl rfl rfl rfl rfl ?_
                  refine WL.gskip rfl rfl rfl rfl rfl ?_
                  refine WL.val (R_pickTb rfl rfl rfl) rfl rfl ?_
                  refine WL.val (R_move rfl) rfl rfl ?_
                  refine WL.gskip rfl rfl rfl rfl rfl ?_
                  refine WL.gskip rfl rfl rfl rfl rfl ?_
                  refine WL.gskip rfl rfl rfl rfl rfl ?_
                  refine WL.val (R_pickTb rfl rfl rfl) rfl rfl ?_
                  refine WL.val (R_move rfl) rfl rfl ?_
                  refine WL.gskip rfl rfl rfl rfl rfl ?_
                  refine WL.gskip rfl rfl rfl rfl rfl ?_
                  refine WL.gskip rfl rfl rfl rfl rfl ?_
                  refine WL.gskip rfl rfl rfl rfl rfl ?_
                  refine WL.val (R_pickTb rfl rfl rfl) rfl rfl ?_
                  refine WL.nil ?_
                  refine WQ.thenC ?_
                  refine WC.condT rfl ?_
                  refine WC.seq ?_
                  refine WC.reg ?_
                  refine WL.val (R_assign rfl) rfl rfl ?_
                  refine WL.nil ?_
                  refine WQ.thenC ?_
                  refine WC.ret ?_
                  refine WQ.thenR ?_
                  obtain ⟨_, hr, rfl⟩ := mapS h
                  have h := hr.trans h956
                  have hS0 := hS
                  obtain rfl := Option.some.inj h
                  exact ret_1 rfl rfl ⟨_, rfl, hS.bel, rfl⟩
                · refine WL.gvalb rfl rfl rfl hb964 (R_fieldB o58_6 rfl) rfl rfl ?_
                  refine WL.gvalb rfl rfl rfl hb964 (R_load1 g3 rfl (hS.cell 0 rfl rfl)) rfl rfl ?_
                  refine WL.gvalb rfl rfl rfl hb964 (R_cmp rfl rfl rfl) rfl rfl ?_
                  refine WL.val (R_pickFb rfl hb964 rfl) rfl rfl ?_
                  refine WL.val (R_move rfl) rfl rfl ?_
                  rcases boolS h with ⟨hb965, h⟩ | ⟨hb965, h⟩
                  · refine WL.gskip rfl rfl rfl hb965 rfl ?_
                    refine WL.gskip rfl rfl rfl hb965 rfl ?_
                    refine WL.gskip rfl rfl rfl hb965 rfl ?_
                    refine WL.gskip rfl rfl rfl hb965 rfl ?_
                    refine WL.val (R_pickTb rfl hb965 rfl) rfl rfl ?_
                    refine WL.val (R_move rfl) rfl rfl ?_
                    refine WL.gskip rfl rfl rfl rfl rfl ?_
                    refine WL.gskip rfl rfl rfl rfl rfl ?_
                    refine WL.gskip rfl rfl rfl rfl rfl ?_
                    refine WL.val (R_pickTb rfl rfl rfl) rfl rfl ?_
                    refine WL.val (R_move rfl) rfl rfl ?_
                    refine WL.gskip rfl rfl rfl rfl rfl ?_
                    refine WL.gskip rfl rfl rfl rfl rfl ?_
                    refine WL.gskip rfl rfl rfl rfl rfl ?_
                    refine WL.gskip rfl rfl rfl rfl rfl ?_
                    refine WL.val (R_pickTb rfl rfl rfl) rfl rfl ?_
                    refine WL.nil ?_
                    refine WQ.thenC ?_
                    refine WC.condT rfl ?_
                    refine WC.seq ?_
                    refine WC.reg ?_
                    refine WL.val (R_assign rfl) rfl rfl ?_
                    refine WL.nil ?_
                    refine WQ.thenC ?_
                    refine WC.ret ?_
                    refine WQ.thenR ?_
                    obtain ⟨_, hr, rfl⟩ := mapS h
                    have h := hr.trans h956
                    have hS0 := hS
                    obtain rfl := Option.some.inj h
                    exact ret_1 rfl rfl ⟨_, rfl, hS.bel, rfl⟩
                  · refine WL.gvalb rfl rfl rfl hb965 (R_fieldB o58_6 rfl) rfl rfl ?_
                    refine WL.gvalb rfl rfl rfl hb965 (R_load1 g3 rfl (hS.cell 0 rfl rfl)) rfl rfl ?_
                    refine WL.gvalb rfl rfl rfl hb965 (R_move rfl) rfl rfl ?_
                    refine WL.gvalb rfl rfl rfl hb965 (R_cmp rfl rfl rfl) rfl rfl ?_
                    refine WL.val (R_pickFb rfl hb965 rfl) rfl rfl ?_
                    refine WL.val (R_move rfl) rfl rfl ?_
                    rcases boolS h with ⟨hb966, h⟩ | ⟨hb966, h⟩
                    · refine WL.gskip rfl rfl rfl hb966 rfl ?_
                      refine WL.gskip rfl rfl rfl hb966 rfl ?_
                      refine WL.gskip rfl rfl rfl hb966 rfl ?_
                      refine WL.val (R_pickTb rfl hb966 rfl) rfl rfl ?_
                      refine WL.val (R_move rfl) rfl rfl ?_
                      refine WL.gskip rfl rfl rfl rfl rfl ?_
                      refine WL.gskip rfl rfl rfl rfl rfl ?_
                      refine WL.gskip rfl rfl rfl rfl rfl ?_
                      refine WL.gskip rfl rfl rfl rfl rfl ?_
                      refine WL.val (R_pickTb rfl rfl rfl) rfl rfl ?_
                      refine WL.nil ?_
                      refine WQ.thenC ?_
                      refine WC.condT rfl ?_
                      refine WC.seq ?_
                      refine WC.reg ?_
                      refine WL.val (R_assign rfl) rfl rfl ?_
                      refine WL.nil ?_
                      refine WQ.thenC ?_
                      refine WC.ret ?_
                      refine WQ.thenR ?_
                      obtain ⟨_, hr, rfl⟩ := mapS h
                      have h := hr.trans h956
                      have hS0 := hS
                      obtain rfl := Option.some.inj h
                      exact ret_1 rfl rfl ⟨_, rfl, hS.bel, rfl⟩
                    · refine WL.gvalb rfl rfl rfl hb966 (R_fieldB o58_7 rfl) rfl rfl ?_
                      refine WL.gvalb rfl rfl rfl hb966 (R_load1 g3 rfl (hS.cell 0 rfl rfl)) rfl rfl ?_
                      refine WL.gvalb rfl rfl rfl hb966 (R_cmp rfl rfl rfl) rfl rfl ?_
                      refine WL.val (R_pickFb rfl hb966 rfl) rfl rfl ?_
                      refine WL.val (R_move rfl) rfl rfl ?_
                      rcases boolS h with ⟨hb967, h⟩ | ⟨hb967, h⟩
                      · refine WL.gskip rfl rfl rfl hb967 rfl ?_
                        refine WL.gskip rfl rfl rfl hb967 rfl ?_
                        refine WL.gskip rfl rfl rfl hb967 rfl ?_
                        refine WL.gskip rfl rfl rfl hb967 rfl ?_
                        refine WL.val (R_pickTb rfl hb967 rfl) rfl rfl ?_
                        refine WL.nil ?_
                        refine WQ.thenC ?_
                        refine WC.condT rfl ?_
                        refine WC.seq ?_
                        refine WC.reg ?_
                        refine WL.val (R_assign rfl) rfl rfl ?_
                        refine WL.nil ?_
                        refine WQ.thenC ?_
                        refine WC.ret ?_
                        refine WQ.thenR ?_
                        obtain ⟨_, hr, rfl⟩ := mapS h
                        have h := hr.trans h956
                        have hS0 := hS
                        obtain rfl := Option.some.inj h
                        exact ret_1 rfl rfl ⟨_, rfl, hS.bel, rfl⟩
                      · refine WL.gvalb rfl rfl rfl hb967 (R_fieldB o58_7 rfl) rfl rfl ?_
                        refine WL.gvalb rfl rfl rfl hb967 (R_load1 g3 rfl (hS.cell 0 rfl rfl)) rfl rfl ?_
                        refine WL.gvalb rfl rfl rfl hb967 (R_move rfl) rfl rfl ?_
                        refine WL.gvalb rfl rfl rfl hb967 (R_cmp rfl rfl rfl) rfl rfl ?_
                        refine WL.val (R_pickFb rfl hb967 rfl) rfl rfl ?_
                        refine WL.nil ?_
                        refine WQ.thenC ?_
                        refine WC.cond rfl (fun hb968 => ?_) (fun hb968 => ?_)
                        · have h := ifT hb968 h
                          refine WC.seq ?_
                          refine WC.reg ?_
                          refine WL.val (R_assign rfl) rfl rfl ?_
                          refine WL.nil ?_
                          refine WQ.thenC ?_
                          refine WC.ret ?_
                          refine WQ.thenR ?_
                          obtain ⟨_, hr, rfl⟩ := mapS h
                          have h := hr.trans h956
                          have hS0 := hS
                          obtain rfl := Option.some.inj h
                          exact ret_1 rfl rfl ⟨_, rfl, hS.bel, rfl⟩
                        · have h := ifF hb968 h
                          refine WC.skip ?_
                          have hS := hS.pick [0] [0] rfl
                          exact WQ.toJ ⟨Option.some.inj h, rfl, hS⟩ ⟨rfl, rfl, trivial⟩
              · refine WL.gskip rfl rfl rfl hb963 rfl ?_
                refine WL.gskip rfl rfl rfl hb963 rfl ?_
                refine WL.gskip rfl rfl rfl hb963 rfl ?_
                refine WL.gvalb rfl rfl rfl hb962 (R_pickFb rfl hb963 rfl) rfl rfl ?_
                refine WL.val (R_pickFb rfl hb962 rfl) rfl rfl ?_
                refine WL.val (R_move rfl) rfl rfl ?_
                refine WL.gvalb rfl rfl rfl rfl (R_fieldB o58_6 rfl) rfl rfl ?_
                refine WL.gvalb rfl rfl rfl rfl (R_load1 g3 rfl (hS.cell 0 rfl rfl)) rfl rfl ?_
                refine WL.gvalb rfl rfl rfl rfl (R_cmp rfl rfl rfl) rfl rfl ?_
                refine WL.val (R_pickFb rfl rfl rfl) rfl rfl ?_
                refine WL.val (R_move rfl) rfl rfl ?_
                rcases boolS h with ⟨hb969, h⟩ | ⟨hb969, h⟩
                · refine WL.gskip rfl rfl rfl hb969 rfl ?_
                  refine WL.gskip rfl rfl rfl hb969 rfl ?_
                  refine WL.gskip rfl rfl rfl hb969 rfl ?_
                  refine WL.gskip rfl rfl rfl hb969 rfl ?_
                  refine WL.val (R_pickTb rfl hb969 rfl) rfl rfl ?_
                  refine WL.val (R_move rfl) rfl rfl ?_
                  refine WL.gskip rfl rfl rfl rfl rfl ?_
                  refine WL.gskip rfl rfl rfl rfl rfl ?_
                  refine WL.gskip rfl rfl rfl rfl rfl ?_
                  refine WL.val (R_pickTb rfl rfl rfl) rfl rfl ?_
                  refine WL.val (R_move rfl) rfl rfl ?_
                  refine WL.gskip rfl rfl rfl rfl rfl ?_
                  refine WL.gskip rfl rfl rfl rfl rfl ?_
                  refine WL.gskip rfl rfl rfl rfl rfl ?_
                  refine WL.gskip rfl rfl rfl rfl rfl ?_
                  refine WL.val (R_pickTb rfl rfl rfl) rfl rfl ?_
                  refine WL.nil ?_
                  refine WQ.thenC ?_
                  refine WC.condT rfl ?_
                  refine WC.seq ?_
                  refine WC.reg ?_
                  refine WL.val (R_assign rfl) rfl rfl ?_
                  refine WL.nil ?_
                  refine WQ.thenC ?_
                  refine WC.ret ?_
                  refine WQ.thenR ?_
                  obtain ⟨_, hr, rfl⟩ := mapS h
                  have h := hr.trans h956
                  have hS0 := hS
                  obtain rfl := Option.some.inj h
                  exact ret_1 rfl rfl ⟨_, rfl, hS.bel, rfl⟩
                · refine WL.gvalb rfl rfl rfl hb969 (R_fieldB o58_6 rfl) rfl rfl ?_
                  refine WL.gvalb rfl rfl rfl hb969 (R_load1 g3 rfl (hS.cell 0 rfl rfl)) rfl rfl ?_
                  refine WL.gvalb rfl rfl rfl hb969 (R_move rfl) rfl rfl ?_
                  refine WL.gvalb rfl rfl rfl hb969 (R_cmp rfl rfl rfl) rfl rfl ?_
                  refine WL.val (R_pickFb rfl hb969 rfl) rfl rfl ?_
                  refine WL.val (R_move rfl) rfl rfl ?_
                  rcases boolS h with ⟨hb970, h⟩ | ⟨hb970, h⟩
                  · refine WL.gskip rfl rfl rfl hb970 rfl ?_
                    refine WL.gskip rfl rfl rfl hb970 rfl ?_
                    refine WL.gskip rfl rfl rfl hb970 rfl ?_
                    refine WL.val (R_pickTb rfl hb970 rfl) rfl rfl ?_
                    refine WL.val (R_move rfl) rfl rfl ?_
                    refine WL.gskip rfl rfl rfl rfl rfl ?_
                    refine WL.gskip rfl rfl rfl rfl rfl ?_
                    refine WL.gskip rfl rfl rfl rfl rfl ?_
                    refine WL.gskip rfl rfl rfl rfl rfl ?_
                    refine WL.val (R_pickTb rfl rfl rfl) rfl rfl ?_
                    refine WL.nil ?_
                    refine WQ.thenC ?_
                    refine WC.condT rfl ?_
                    refine WC.seq ?_
                    refine WC.reg ?_
                    refine WL.val (R_assign rfl) rfl rfl ?_
                    refine WL.nil ?_
                    refine WQ.thenC ?_
                    refine WC.ret ?_
                    refine WQ.thenR ?_
                    obtain ⟨_, hr, rfl⟩ := mapS h
                    have h := hr.trans h956
                    have hS0 := hS
                    obtain rfl := Option.some.inj h
                    exact ret_1 rfl rfl ⟨_, rfl, hS.bel, rfl⟩
                  · refine WL.gvalb rfl rfl rfl hb970 (R_fieldB o58_7 rfl) rfl rfl ?_
                    refine WL.gvalb rfl rfl rfl hb970 (R_load1 g3 rfl (hS.cell 0 rfl rfl)) rfl rfl ?_
                    refine WL.gvalb rfl rfl rfl hb970 (R_cmp rfl rfl rfl) rfl rfl ?_
                    refine WL.val (R_pickFb rfl hb970 rfl) rfl rfl ?_
                    refine WL.val (R_move rfl) rfl rfl ?_
                    rcases boolS h with ⟨hb971, h⟩ | ⟨hb971, h⟩
                    · refine WL.gskip rfl rfl rfl hb971 rfl ?_
                      refine WL.gskip rfl rfl rfl hb971 rfl ?_
                      refine WL.gskip rfl rfl rfl hb971 rfl ?_
                      refine WL.gskip rfl rfl rfl hb971 rfl ?_
                      refine WL.val (R_pickTb rfl hb971 rfl) rfl rfl ?_
                      refine WL.nil ?_
                      refine WQ.thenC ?_
                      refine WC.condT rfl ?_
                      refine WC.seq ?_
                      refine WC.reg ?_
                      refine WL.val (R_assign rfl) rfl rfl ?_
                      refine WL.nil ?_
                      refine WQ.thenC ?_
                      refine WC.ret ?_
                      refine WQ.thenR ?_
                      obtain ⟨_, hr, rfl⟩ := mapS h
                      have h := hr.trans h956
                      have hS0 := hS
                      obtain rfl := Option.some.inj h
                      exact ret_1 rfl rfl ⟨_, rfl, hS.bel, rfl⟩
                    · refine WL.gvalb rfl rfl rfl hb971 (R_fieldB o58_7 rfl) rfl rfl ?_
                      refine WL.gvalb rfl rfl rfl hb971 (R_load1 g3 rfl (hS.cell 0 rfl rfl)) rfl rfl ?_
                      refine WL.gvalb rfl rfl rfl hb971 (R_move rfl) rfl rfl ?_
                      refine WL.gvalb rfl rfl rfl hb971 (R_cmp rfl rfl rfl) rfl rfl ?_
                      refine WL.val (R_pickFb rfl hb971 rfl) rfl rfl ?_
                      refine WL.nil ?_
                      refine WQ.thenC ?_
                      refine WC.cond rfl (fun hb972 => ?_) (fun hb972 => ?_)
                      · have h := ifT hb972 h
                        refine WC.seq ?_
                        refine WC.reg ?_
                        refine WL.val (R_assign rfl) rfl rfl ?_
                        refine WL.nil ?_
                        refine WQ.thenC ?_
                        refine WC.ret ?_
                        refine WQ.thenR ?_
                        obtain ⟨_, hr, rfl⟩ := mapS h
                        have h := hr.trans h956
                        have hS0 := hS
                        obtain rfl := Option.some.inj h
                        exact ret_1 rfl rfl ⟨_, rfl, hS.bel, rfl⟩
                      · have h := ifF hb972 h
                        refine WC.skip ?_
                        have hS := hS.pick [0] [0] rfl
                        exact WQ.toJ ⟨Option.some.inj h, rfl, hS⟩ ⟨rfl, rfl, trivial⟩
    · rintro _ w ⟨rfl, rfl, hS⟩
      have h := h956
      try dsimp only at h
      refine WC.seq ?_
      refine WC.seq ?_
      refine WC.reg ?_
      refine WL.val (R_fieldB o58_0 rfl) rfl rfl ?_
      refine WL.val (R_load1 g53 rfl (hS.cell 0 rfl rfl)) rfl rfl ?_
      refine WL.val (R_cmp rfl rfl rfl) rfl rfl ?_
      refine WL.nil ?_
      refine WQ.thenC ?_
      refine WC.cond rfl (fun hb973 => ?_) (fun hb973 => ?_)
      · have h := ifT hb973 h
        obtain ⟨o976, h977, h978⟩ := bindS h
        refine WC.seqM (fun env w => ∃ (y975 : Bool), y975 = o976 ∧ env = [(4, .bool y975)] ∧ Sta w0 M [] [] w) ?_ ?_
        · have h := h977
          refine WC.reg ?_
          refine WL.val (R_fieldB o58_3 rfl) rfl rfl ?_
          refine WL.val (R_load1 g54 rfl (hS.cell 0 rfl rfl)) rfl rfl ?_
          refine WL.val (R_fieldB o58_3 rfl) rfl rfl ?_
          refine WL.val (R_load1 g54 rfl (hS.cell 0 rfl rfl)) rfl rfl ?_
          refine WL.val (R_cmpF rfl rfl rfl) rfl rfl ?_
          refine WL.val (R_move rfl) rfl rfl ?_
          rcases boolS h with ⟨hb979, h⟩ | ⟨hb979, h⟩
          · refine WL.gvalb rfl rfl rfl hb979 (R_fieldB o58_4 rfl) rfl rfl ?_
            refine WL.gvalb rfl rfl rfl hb979 (R_load1 g55 rfl (hS.cell 0 rfl rfl)) rfl rfl ?_
            refine WL.gvalb rfl rfl rfl hb979 (R_lenS u55 rfl) rfl rfl ?_
            refine WL.gvalb rfl rfl rfl hb979 (R_cmp rfl rfl rfl) rfl rfl ?_
            refine WL.val (R_pickTb rfl hb979 rfl) rfl rfl ?_
            refine WL.val (R_assign rfl) rfl rfl ?_
            refine WL.nil ?_
            have hS := hS.pick [] [] rfl
            exact WQ.toJ ⟨decide ((p798.cats.length : Int) = (0 : Int)), Option.some.inj h, rfl, hS⟩ ⟨rfl, trivial⟩
          · refine WL.gskip rfl rfl rfl hb979 rfl ?_
            refine WL.gskip rfl rfl rfl hb979 rfl ?_
            refine WL.gskip rfl rfl rfl hb979 rfl ?_
            refine WL.gskip rfl rfl rfl hb979 rfl ?_
            refine WL.val (R_pickFb rfl hb979 rfl) rfl rfl ?_
            refine WL.val (R_assign rfl) rfl rfl ?_
            refine WL.nil ?_
            have hS := hS.pick [] [] rfl
            exact WQ.toJ ⟨false, Option.some.inj h, rfl, hS⟩ ⟨rfl, trivial⟩
        · rintro _ w ⟨y975, rfl, rfl, hS⟩
          have h := h978
          try dsimp only at h
          refine WC.ret ?_
          refine WQ.thenR ?_
          have hS0 := hS
          obtain rfl := Option.some.inj h
          exact ret_1 rfl rfl ⟨_, rfl, hS.bel, rfl⟩
      · have h := ifF hb973 h
        refine WC.skip ?_
        refine WQ.thenC ?_
        refine WC.seq ?_
        refine WC.reg ?_
        refine WL.val (R_assign rfl) rfl rfl ?_
        refine WL.nil ?_
        refine WQ.thenC ?_
        obtain ⟨o1005, h1006, h1007⟩ := bindS h
        refine WC.seqM (fun env w => ∃ (y1004 : Int), Fl.go y1004 = o1005 ∧ env = [(5, .bool (decide ((p798.threshold : Int) = (0 : Int)))), (6, .int .i64 y1004)] ∧ Sta w0 M [] [] w) ?_ ?_
        · have h := h1006
          refine WC.seq ?_
          refine WC.reg ?_
          refine WL.val (R_fieldB o58_4 rfl) rfl rfl ?_
          refine WL.val (R_load1 g55 rfl (hS.cell 0 rfl rfl)) rfl rfl ?_
          refine WL.val (R_lenS u55 rfl) rfl rfl ?_
          refine WL.val (R_move rfl) rfl rfl ?_
          refine WL.nil ?_
          refine WQ.thenC ?_
          refine WC.block ?_
          have hS := hS.pick [] [0] rfl
          refine WC.loopJ (fun m env w => ∃ (y1019 : Int), ∃ (y1020 : Int), env = [(5, .bool (decide ((p798.threshold : Int) = (0 : Int)))), (6, .int .i64 y1019), (108, .slice A799 p798.cats.length c800), (109, .int .i64 (p798.cats.length : Int)), (110, .int .i64 y1020)] ∧ Sta w0 M [] [FSl (RI .i64) A799 c800 p798.cats] w ∧ trees_right_l0 k p798 m y1019 y1020 = some o1005) k ⟨(-1 : Int), (0 : Int), rfl, hS, h⟩ ⟨rfl, rfl, rfl, rfl, rfl, trivial⟩ (fun env w hI => ?_) (fun m env w hI => ?_)
          · obtain ⟨y1019, y1020, rfl, hS, h⟩ := hI
            rw [trees_right_l0] at h
            cases h
          · obtain ⟨y1019, y1020, rfl, hS, h⟩ := hI
            rw [trees_right_l0] at h
            refine WC.seq ?_
            refine WC.reg ?_
            refine WL.val (R_cmp rfl rfl rfl) rfl rfl ?_
            refine WL.nil ?_
            refine WQ.thenC ?_
            refine WC.seq ?_
            refine WC.cond rfl (fun hb1032 => ?_) (fun hb1032 => ?_)
            · have h := ifT hb1032 h
              refine WC.skip ?_
              refine WQ.thenC ?_
              refine WC.seq ?_
              refine WC.block ?_
              refine WC.seq ?_
              refine WC.reg ?_
              obtain ⟨x1033, hx1034, h⟩ := bindS h
              obtain ⟨ad1035, cs1036, hA1037, hq1038, hK1039, hc1040⟩ := hS.sget 0 rfl (rdS hx1034).2.2
              obtain rfl := hK1039
              refine WL.val (R_indexAddr u55 z3 rfl rfl hA1037 (rdS hx1034).1 hq1038) rfl rfl ?_
              refine WL.val (R_load1 g3 rfl (hc1040 0 _ rfl)) rfl rfl ?_
              refine WL.val (R_assign rfl) rfl rfl ?_
              refine WL.nil ?_
              refine WQ.thenC ?_
              refine WC.seq ?_
              refine WC.seq ?_
              refine WC.reg ?_
              refine WL.val (R_move rfl) rfl rfl ?_
              refine WL.val (R_move rfl) rfl rfl ?_
              refine WL.val (R_cmp rfl rfl rfl) rfl rfl ?_
              refine WL.val (R_move rfl) rfl rfl ?_
              rcases boolS h with ⟨hb1041, h⟩ | ⟨hb1041, h⟩
              · refine WL.gskip rfl rfl rfl hb1041 rfl ?_
                refine WL.gskip rfl rfl rfl hb1041 rfl ?_
                refine WL.val (R_pickTb rfl hb1041 rfl) rfl rfl ?_
                refine WL.nil ?_
                refine WQ.thenC ?_
                refine WC.condT rfl ?_
                refine WC.seq ?_
                refine WC.reg ?_
                refine WL.val (R_assign rfl) rfl rfl ?_
                refine WL.nil ?_
                refine WQ.thenC ?_
                refine WC.ret ?_
                refine WQ.thenR ?_
                refine WQ.blockR ?_
                refine WQ.thenR ?_
                refine WQ.thenR ?_
                refine WQ.blockR ?_
                refine WQ.thenR ?_
                obtain ⟨_, hr, rfl⟩ := mapS h
                have h := hr.trans h1007
                have hS0 := hS
                obtain rfl := Option.some.inj h
                exact ret_1 rfl rfl ⟨_, rfl, hS.bel, rfl⟩
              · refine WL.gvalb rfl rfl rfl hb1041 (R_move rfl) rfl rfl ?_
                refine WL.gvalb rfl rfl rfl hb1041 (R_cmp rfl rfl rfl) rfl rfl ?_
                refine WL.val (R_pickFb rfl hb1041 rfl) rfl rfl ?_
                refine WL.nil ?_
                refine WQ.thenC ?_
                refine WC.cond rfl (fun hb1042 => ?_) (fun hb1042 => ?_)
                · have h := ifT hb1042 h
                  refine WC.seq ?_
                  refine WC.reg ?_
                  refine WL.val (R_assign rfl) rfl rfl ?_
                  refine WL.nil ?_
                  refine WQ.thenC ?_
                  refine WC.ret ?_
                  refine WQ.thenR ?_
                  refine WQ.blockR ?_
                  refine WQ.thenR ?_
                  refine WQ.thenR ?_
                  refine WQ.blockR ?_
                  refine WQ.thenR ?_
                  obtain ⟨_, hr, rfl⟩ := mapS h
                  have h := hr.trans h1007
                  have hS0 := hS
                  obtain rfl := Option.some.inj h
                  exact ret_1 rfl rfl ⟨_, rfl, hS.bel, rfl⟩
                · have h := ifF hb1042 h
                  refine WC.skip ?_
                  refine WQ.thenC ?_
                  refine WC.reg ?_
                  refine WL.val (R_move rfl) rfl rfl ?_
                  refine WL.val (R_assign rfl) rfl rfl ?_
                  refine WL.nil ?_
                  refine WQ.blockN ?_
                  refine WQ.thenC ?_
                  refine WC.reg ?_
                  refine WL.val (R_ar rfl rfl rfl) rfl rfl ?_
                  refine WL.val (R_move rfl) rfl rfl ?_
                  refine WL.nil ?_
                  have hS := hS.pick [] [0] rfl
                  exact WQ.toJ ⟨x1033, (IntKind.i64.wrap (y1020 + (1 : Int))), rfl, hS, h⟩ ⟨rfl, rfl, rfl, rfl, rfl, trivial⟩
            · have h := ifF hb1032 h
              refine WC.exit ?_
              refine WQ.thenE ?_
              refine WQ.thenE ?_
              refine WQ.blockE ?_
              have hS := hS.pick [] [] rfl
              exact WQ.toJ ⟨y1019, Option.some.inj h, rfl, hS⟩ ⟨rfl, rfl, trivial⟩
        · rintro _ w ⟨y1004, rfl, rfl, hS⟩
          have h := h1007
          try dsimp only at h
          refine WC.seq ?_
          refine WC.reg ?_
          refine WL.val (R_move rfl) rfl rfl ?_
          refine WL.val (R_move rfl) rfl rfl ?_
          rcases boolS h with ⟨hb1043, h⟩ | ⟨hb1043, h⟩
          · refine WL.gvalb rfl rfl rfl hb1043 (R_move rfl) rfl rfl ?_
            refine WL.gvalb rfl rfl rfl hb1043 (R_cmp rfl rfl rfl) rfl rfl ?_
            refine WL.val (R_pickTb rfl hb1043 rfl) rfl rfl ?_
            refine WL.val (R_assign rfl) rfl rfl ?_
            refine WL.nil ?_
            refine WQ.thenC ?_
            refine WC.ret ?_
            have hS0 := hS
            obtain rfl := Option.some.inj h
            exact ret_1 rfl rfl ⟨_, rfl, hS.bel, rfl⟩
          · refine WL.gskip rfl rfl rfl hb1043 rfl ?_
            refine WL.gskip rfl rfl rfl hb1043 rfl ?_
            refine WL.val (R_pickFb rfl hb1043 rfl) rfl rfl ?_
            refine WL.val (R_assign rfl) rfl rfl ?_
            refine WL.nil ?_
            refine WQ.thenC ?_
            refine WC.ret ?_
            have hS0 := hS
            obtain rfl := Option.some.inj h
            exact ret_1 rfl rfl ⟨_, rfl, hS.bel, rfl⟩

def trees_Shape_l0 (k : Nat) (p777 : Tree) : Nat → (List Int) → Int → Option (Fl (Int × Int) (List Int))
  | 0, _, _ => none
  | m + 1, y1663, y1664 =>
    if decide (y1664 < (p777.nodes.length : Int)) = true then ((rd p777.nodes y1664).bind fun x1713 =>
    (trees_right k x1713 (p777.nodes.length : Int)).bind fun r1725 =>
    if (!r1725) = true then ((some ((71 : Int), y1664)).map Fl.ret) else ((trees_inner x1713).bind fun r1728 =>
    if r1728 = true then ((rd y1663 x1713.left).bind fun x1731 =>
    (rd (y1663.set x1713.left.toNat (IntKind.i64.wrap (x1731 + (1 : Int)))) x1713.right).bind fun x1745 =>
    trees_Shape_l0 k p777 m ((y1663.set x1713.left.toNat (IntKind.i64.wrap (x1731 + (1 : Int)))).set x1713.right.toNat (IntKind.i64.wrap (x1745 + (1 : Int)))) (IntKind.i64.wrap (y1664 + (1 : Int)))) else (trees_Shape_l0 k p777 m y1663 (IntKind.i64.wrap (y1664 + (1 : Int)))))) else (some (.go y1663))

def trees_Shape_l1 (k : Nat) (p777 : Tree) : Nat → (List Int) → (List Bool) → Option (List Bool)
  | 0, _, _ => none
  | m + 1, y1911, y1912 =>
    if decide ((0 : Int) < (y1911.length : Int)) = true then ((rd y1911 (IntKind.i64.wrap ((y1911.length : Int) - (1 : Int)))).bind fun x1958 =>
    if (0 : Int) ≤ (IntKind.i64.wrap ((y1911.length : Int) - (1 : Int))) ∧ (IntKind.i64.wrap ((y1911.length : Int) - (1 : Int))).toNat ≤ y1911.length then ((rd y1912 x1958).bind fun x1967 =>
    if x1967 = true then (trees_Shape_l1 k p777 m (y1911.take (IntKind.i64.wrap ((y1911.length : Int) - (1 : Int))).toNat) y1912) else ((rd p777.nodes x1958).bind fun x1982 =>
    (trees_inner x1982).bind fun r1994 =>
    if r1994 = true then (if ((y1911.take (IntKind.i64.wrap ((y1911.length : Int) - (1 : Int))).toNat).length + 2) * 8 ≤ 140737488355328 then (trees_Shape_l1 k p777 m ((y1911.take (IntKind.i64.wrap ((y1911.length : Int) - (1 : Int))).toNat) ++ [x1982.left, x1982.right]) (y1912.set x1958.toNat true)) else none) else (trees_Shape_l1 k p777 m (y1911.take (IntKind.i64.wrap ((y1911.length : Int) - (1 : Int))).toNat) (y1912.set x1958.toNat true)))) else none) else (some y1912)

def trees_Shape_l2 (k : Nat) (p777 : Tree) (y1612 : List Int) (y1859 : List Bool) : Nat → Int → Option (Fl (Int × Int) Unit)
  | 0, _ => none
  | m + 1, y2062 =>
    if decide (y2062 < (p777.nodes.length : Int)) = true then ((rd y1612 y2062).bind fun x2083 =>
    if decide (x2083 ≠ (if (1 : Int) < y2062 then (1 : Int) else y2062)) = true then ((some ((70 : Int), y2062)).map Fl.ret) else ((rd y1859 y2062).bind fun x2092 =>
    if (!x2092) = true then ((some ((70 : Int), y2062)).map Fl.ret) else (trees_Shape_l2 k p777 y1612 y1859 m (IntKind.i64.wrap (y2062 + (1 : Int)))))) else (some (.go ()))

def trees_Shape (k : Nat) (p777 : Tree) : Option (Int × Int) :=
    if decide ((p777.nodes.length : Int) = (0 : Int)) = true then (some ((70 : Int), (0 : Int))) else (if (0 : Int) ≤ (p777.nodes.length : Int) ∧ (p777.nodes.length : Int).toNat * 8 ≤ 281474976710656 then ((trees_Shape_l0 k p777 k (List.replicate (p777.nodes.length : Int).toNat (0 : Int)) (0 : Int) : Option (Fl (Int × Int) (List Int))).bind fun o => match o with
    | .ret r => some r
    | .go y1612 =>
    (if (0 : Int) ≤ (p777.nodes.length : Int) ∧ (p777.nodes.length : Int).toNat * 1 ≤ 281474976710656 then ((trees_Shape_l1 k p777 k ([(0 : Int)]) (List.replicate (p777.nodes.length : Int).toNat false) : Option (List Bool)).bind fun y1859 =>
    (trees_Shape_l2 k p777 y1612 y1859 k (0 : Int) : Option (Fl (Int × Int) Unit)).bind fun o => match o with
    | .ret r => some r
    | .go _ =>
    (some ((0 : Int), (0 : Int)))) else none)) else none)

theorem trees_Shape_ok {w0 : World} {M : MSet} (hM : ∀ k, M k → k < w0.heap.size) (k : Nat) (p777 : Tree) {A778 : Option Addr} {c779 : Nat} (hs780 : p777.nodes.length ≤ c779 ∧ Sl RNode M w0 A778 p777.nodes) (r1 : Int) (r2 : Int) (h : trees_Shape k p777 = some (r1, r2)) :
    Calls Tryz.prog 77 #[.agg #[.int .i64 p777.output, .slice A778 p777.nodes.length c779]] w0 (Gives w0 fun v w' => v = .tuple #[.int .i64 r1, .int .i64 r2]) := by
  have hS := Sta.init hM
  have hS := hS.arg hs780
  unfold trees_Shape at h
  refine calls_enter (n := 0) Tryz.func77 rfl [(0, .agg #[.int .i64 p777.output, .slice A778 p777.nodes.length c779])] rfl rfl ⟨rfl, trivial⟩ ?_
  refine WC.seq ?_
  refine WC.reg ?_
  refine WL.box [.int .i64 p777.output, .slice A778 p777.nodes.length c779] rfl rfl hS rfl ?_
  intro b1509 w hS
  refine WL.val (R_assign rfl) rfl rfl ?_
  refine WL.val (R_assign rfl) rfl rfl ?_
  refine WL.nil ?_
  refine WQ.thenC ?_
  refine WC.seq ?_
  refine WC.seq ?_
  refine WC.reg ?_
  refine WL.val (R_fieldB o52_1 rfl) rfl rfl ?_
  refine WL.val (R_load1 g50 rfl (hS.cell 0 rfl rfl)) rfl rfl ?_
  refine WL.val (R_lenS u50 rfl) rfl rfl ?_
  refine WL.val (R_cmp rfl rfl rfl) rfl rfl ?_
  refine WL.nil ?_
  refine WQ.thenC ?_
  refine WC.cond rfl (fun hb1510 => ?_) (fun hb1510 => ?_)
  · have h := ifT hb1510 h
    refine WC.seq ?_
    refine WC.reg ?_
    refine WL.val (R_assign rfl) rfl rfl ?_
    refine WL.val (R_assign rfl) rfl rfl ?_
    refine WL.nil ?_
    refine WQ.thenC ?_
    refine WC.ret ?_
    refine WQ.thenR ?_
    have hS0 := hS
    have h := Option.some.inj h
    obtain ⟨rfl, rfl⟩ := Prod.mk.inj h
    exact ret_2 rfl rfl rfl ⟨_, rfl, hS.bel, rfl⟩
  · have h := ifF hb1510 h
    refine WC.skip ?_
    refine WQ.thenC ?_
    refine WC.seq ?_
    refine WC.reg ?_
    refine WL.val (R_fieldB o52_1 rfl) rfl rfl ?_
    refine WL.val (R_load1 g50 rfl (hS.cell 0 rfl rfl)) rfl rfl ?_
    refine WL.val (R_lenS u50 rfl) rfl rfl ?_
    obtain ⟨hg1512, h⟩ := grdS h
    refine WL.make (R := (RI .i64)) (0 : Int) u55 z3 rfl rfl (fun _ _ => rfl) hS rfl hg1512.1 hg1512.2 rfl rfl ?_
    intro b1511 w hS
    refine WL.val (R_assign rfl) rfl rfl ?_
    refine WL.nil ?_
    refine WQ.thenC ?_
    obtain ⟨o1613, h1614, h1615⟩ := bindS h
    refine WC.seqM (fun env w => ∃ (y1612 : List Int), ∃ (A1609 : Option Addr), ∃ (n1610 : Nat), ∃ (c1611 : Nat), Fl.go y1612 = o1613 ∧ env = [(1, .pointer (some ⟨b1509, 0, none⟩)), (4, .slice A1609 n1610 c1611)] ∧ Sta w0 M [Blk b1509 [.int .i64 p777.output, .slice A778 p777.nodes.length c779] 52, Row (RI .i64) 3 (.slice A1609 n1610 c1611) y1612] [FSl RNode A778 c779 p777.nodes] w) ?_ ?_
    · have h := h1614
      refine WC.seq ?_
      refine WC.reg ?_
      refine WL.val (R_fieldB o52_1 rfl) rfl rfl ?_
      refine WL.val (R_load1 g50 rfl (hS.cell 1 rfl rfl)) rfl rfl ?_
      refine WL.val (R_lenS u50 rfl) rfl rfl ?_
      refine WL.val (R_move rfl) rfl rfl ?_
      refine WL.nil ?_
      refine WQ.thenC ?_
      refine WC.block ?_
      have hS := hS.pick [1, 0] [0] rfl
      refine WC.loopJ (fun m env w => ∃ (y1663 : List Int), ∃ (y1664 : Int), env = [(1, .pointer (some ⟨b1509, 0, none⟩)), (4, .slice (some ⟨b1511, 0, none⟩) ((p777.nodes.length : Int).toNat) ((p777.nodes.length : Int).toNat)), (22, .slice A778 p777.nodes.length c779), (23, .int .i64 (p777.nodes.length : Int)), (24, .int .i64 y1664)] ∧ Sta w0 M [Blk b1509 [.int .i64 p777.output, .slice A778 p777.nodes.length c779] 52, Row (RI .i64) 3 (.slice (some ⟨b1511, 0, none⟩) ((p777.nodes.length : Int).toNat) ((p777.nodes.length : Int).toNat)) y1663] [FSl RNode A778 c779 p777.nodes] w ∧ trees_Shape_l0 k p777 m y1663 y1664 = some o1613) k ⟨(List.replicate (p777.nodes.length : Int).toNat (0 : Int)), (0 : Int), rfl, hS, h⟩ ⟨rfl, rfl, rfl, rfl, rfl, trivial⟩ (fun env w hI => ?_) (fun m env w hI => ?_)
      · obtain ⟨y1663, y1664, rfl, hS, h⟩ := hI
        rw [trees_Shape_l0] at h
        cases h
      · obtain ⟨y1663, y1664, rfl, hS, h⟩ := hI
        rw [trees_Shape_l0] at h
        refine WC.seq ?_
        refine WC.reg ?_
        refine WL.val (R_cmp rfl rfl rfl) rfl rfl ?_
        refine WL.nil ?_
        refine WQ.thenC ?_
        refine WC.seq ?_
        refine WC.cond rfl (fun hb1712 => ?_) (fun hb1712 => ?_)
        · have h := ifT hb1712 h
          refine WC.skip ?_
          refine WQ.thenC ?_
          refine WC.seq ?_
          refine WC.block ?_
          refine WC.seq ?_
          refine WC.reg ?_
          refine WL.val (R_move rfl) rfl rfl ?_
          obtain ⟨x1713, hx1714, h⟩ := bindS h
          obtain ⟨ad1715, cs1716, hA1717, hq1718, hK1719, hc1720⟩ := hS.sget 0 rfl (rdS hx1714).2.2
          obtain ⟨A1721, c1722, rfl, hs1723⟩ := hK1719
          have hS := hS.addF (FSl (RI .i64) A1721 c1722 x1713.cats) hs1723
          refine WL.val (R_indexAddr u50 z58 rfl rfl hA1717 (rdS hx1714).1 hq1718) rfl rfl ?_
          refine WL.val (R_loadA g58 rfl rfl hc1720) rfl rfl ?_
          refine WL.alloc _ z58 rfl hS rfl ?_
          intro b1724 w hS
          refine WL.val (R_assign rfl) rfl rfl ?_
          refine WL.storeB 0 [.int .u8 x1713.kind, .int .i64 x1713.value, .int .i64 x1713.feature, .float .f64 x1713.threshold, .slice A1721 x1713.cats.length c1722, .int .u8 x1713.missing, .int .i64 x1713.left, .int .i64 x1713.right] g58 hS rfl rfl rfl rfl rfl rfl rfl [.int .u8 x1713.kind, .int .i64 x1713.value, .int .i64 x1713.feature, .float .f64 x1713.threshold, .slice A1721 x1713.cats.length c1722, .int .u8 x1713.missing, .int .i64 x1713.left, .int .i64 x1713.right] rfl ?_
          intro w hS
          refine WL.nil ?_
          refine WQ.thenC ?_
          refine WC.seq ?_
          refine WC.seq ?_
          refine WC.reg ?_
          refine WL.val (R_loadA g58 rfl rfl (hS.cells 0 (o := 0) (m := 8) rfl rfl)) rfl rfl ?_
          refine WL.val (R_fieldB o52_1 rfl) rfl rfl ?_
          refine WL.val (R_load1 g50 rfl (hS.cell 1 rfl rfl)) rfl rfl ?_
          refine WL.val (R_lenS u50 rfl) rfl rfl ?_
          obtain ⟨r1725, hr1726, h⟩ := bindS h
          refine WL.call e128 rfl rfl hS (trees_right_ok (hS).mx_lt k x1713 (p777.nodes.length : Int) (hS.sl 0 rfl) _ hr1726) rfl ?_
          intro v w hB hS hP
          obtain ⟨rfl⟩ := hP
          refine WL.val (R_not rfl) rfl rfl ?_
          refine WL.nil ?_
          refine WQ.thenC ?_
          refine WC.cond rfl (fun hb1727 => ?_) (fun hb1727 => ?_)
          · have h := ifT hb1727 h
            refine WC.seq ?_
            refine WC.reg ?_
            refine WL.val (R_move rfl) rfl rfl ?_
            refine WL.val (R_assign rfl) rfl rfl ?_
            refine WL.val (R_assign rfl) rfl rfl ?_
            refine WL.nil ?_
            refine WQ.thenC ?_
            refine WC.ret ?_
            refine WQ.thenR ?_
            refine WQ.blockR ?_
            refine WQ.thenR ?_
            refine WQ.thenR ?_
            refine WQ.blockR ?_
            refine WQ.thenR ?_
            obtain ⟨_, hr, rfl⟩ := mapS h
            have h := hr.trans h1615
            have hS0 := hS
            have h := Option.some.inj h
            obtain ⟨rfl, rfl⟩ := Prod.mk.inj h
            exact ret_2 rfl rfl rfl ⟨_, rfl, hS.bel, rfl⟩
          · have h := ifF hb1727 h
            refine WC.skip ?_
            refine WQ.thenC ?_
            refine WC.seq ?_
            refine WC.reg ?_
            refine WL.val (R_loadA g58 rfl rfl (hS.cells 0 (o := 0) (m := 8) rfl rfl)) rfl rfl ?_
            obtain ⟨r1728, hr1729, h⟩ := bindS h
            refine WL.call e129 rfl rfl hS (trees_inner_ok (hS).mx_lt x1713 (hS.sl 0 rfl) _ hr1729) rfl ?_
            intro v w hB hS hP
            obtain ⟨rfl⟩ := hP
            refine WL.nil ?_
            refine WQ.thenC ?_
            refine WC.cond rfl (fun hb1730 => ?_) (fun hb1730 => ?_)
            · have h := ifT hb1730 h
              refine WC.seq ?_
              refine WC.reg ?_
              refine WL.val (R_move rfl) rfl rfl ?_
              refine WL.val (R_fieldB o58_6 rfl) rfl rfl ?_
              refine WL.val (R_load1 g3 rfl (hS.cell 0 rfl rfl)) rfl rfl ?_
              obtain ⟨x1731, hx1732, h⟩ := bindS h
              obtain ⟨ad1733, cs1734, hA1735, hq1736, hK1737, hc1738⟩ := hS.rget 2 rfl (rdS hx1732).2.2
              obtain rfl := hK1737
              refine WL.val (R_indexAddr u55 z3 rfl rfl hA1735 (rdS hx1732).1 hq1736) rfl rfl ?_
              refine WL.val (R_load1 g3 rfl (hc1738 0 _ rfl)) rfl rfl ?_
              refine WL.val (R_ar rfl rfl rfl) rfl rfl ?_
              obtain ⟨ad1739, cs1740, hA1741, hq1742, hK1743, hc1744⟩ := hS.rget 2 rfl (rdS hx1732).2.2
              obtain rfl := hK1743
              refine WL.val (R_indexAddr u55 z3 rfl rfl hA1741 (rdS hx1732).1 hq1742) rfl rfl ?_
              refine WL.storeR (R := (RI .i64)) (z := (IntKind.i64.wrap (x1731 + (1 : Int)))) 2 [.int .i64 (IntKind.i64.wrap (x1731 + (1 : Int)))] g3 hS rfl hA1741 rfl (by rw [Row.len (hS.res 2 rfl)]; exact hq1742) rfl rfl (rfl) ?_
              intro w hS
              refine WL.nil ?_
              refine WQ.thenC ?_
              refine WC.reg ?_
              refine WL.val (R_move rfl) rfl rfl ?_
              refine WL.val (R_fieldB o58_7 rfl) rfl rfl ?_
              refine WL.val (R_load1 g3 rfl (hS.cell 0 rfl rfl)) rfl rfl ?_
              obtain ⟨x1745, hx1746, h⟩ := bindS h
              obtain ⟨ad1747, cs1748, hA1749, hq1750, hK1751, hc1752⟩ := hS.rget 2 rfl (rdS hx1746).2.2
              obtain rfl := hK1751
              refine WL.val (R_indexAddr u55 z3 rfl rfl hA1749 (rdS hx1746).1 hq1750) rfl rfl ?_
              refine WL.val (R_load1 g3 rfl (hc1752 0 _ rfl)) rfl rfl ?_
              refine WL.val (R_ar rfl rfl rfl) rfl rfl ?_
              obtain ⟨ad1753, cs1754, hA1755, hq1756, hK1757, hc1758⟩ := hS.rget 2 rfl (rdS hx1746).2.2
              obtain rfl := hK1757
              refine WL.val (R_indexAddr u55 z3 rfl rfl hA1755 (rdS hx1746).1 hq1756) rfl rfl ?_
              refine WL.storeR (R := (RI .i64)) (z := (IntKind.i64.wrap (x1745 + (1 : Int)))) 2 [.int .i64 (IntKind.i64.wrap (x1745 + (1 : Int)))] g3 hS rfl hA1755 rfl (by rw [Row.len (hS.res 2 rfl)]; exact hq1756) rfl rfl (rfl) ?_
              intro w hS
              refine WL.nil ?_
              refine WQ.blockN ?_
              refine WQ.thenC ?_
              refine WC.reg ?_
              refine WL.val (R_ar rfl rfl rfl) rfl rfl ?_
              refine WL.val (R_move rfl) rfl rfl ?_
              refine WL.nil ?_
              have hS := hS.pick [1, 2] [1] rfl
              exact WQ.toJ ⟨((y1663.set x1713.left.toNat (IntKind.i64.wrap (x1731 + (1 : Int)))).set x1713.right.toNat (IntKind.i64.wrap (x1745 + (1 : Int)))), (IntKind.i64.wrap (y1664 + (1 : Int))), rfl, hS, h⟩ ⟨rfl, rfl, rfl, rfl, rfl, trivial⟩
            · have h := ifF hb1730 h
              refine WC.skip ?_
              refine WQ.blockN ?_
              refine WQ.thenC ?_
              refine WC.reg ?_
              refine WL.val (R_ar rfl rfl rfl) rfl rfl ?_
              refine WL.val (R_move rfl) rfl rfl ?_
              refine WL.nil ?_
              have hS := hS.pick [1, 2] [1] rfl
              exact WQ.toJ ⟨y1663, (IntKind.i64.wrap (y1664 + (1 : Int))), rfl, hS, h⟩ ⟨rfl, rfl, rfl, rfl, rfl, trivial⟩
        · have h := ifF hb1712 h
          refine WC.exit ?_
          refine WQ.thenE ?_
          refine WQ.thenE ?_
          refine WQ.blockE ?_
          have hS := hS.pick [0, 1] [0] rfl
          exact WQ.toJ ⟨y1663, (some ⟨b1511, 0, none⟩), (p777.nodes.length : Int).toNat, (p777.nodes.length : Int).toNat, Option.some.inj h, rfl, hS⟩ ⟨rfl, rfl, trivial⟩
    · rintro _ w ⟨y1612, A1609, n1610, c1611, rfl, rfl, hS⟩
      have h := h1615
      try dsimp only at h
      obtain rfl := Row.len (hS.res 1 rfl)
      refine WC.seq ?_
      refine WC.reg ?_
      refine WL.val (R_fieldB o52_1 rfl) rfl rfl ?_
      refine WL.val (R_load1 g50 rfl (hS.cell 0 rfl rfl)) rfl rfl ?_
      refine WL.val (R_lenS u50 rfl) rfl rfl ?_
      obtain ⟨hg1760, h⟩ := grdS h
      refine WL.make (R := RB) false u88 z4 rfl rfl (fun _ _ => rfl) hS rfl hg1760.1 hg1760.2 rfl rfl ?_
      intro b1759 w hS
      refine WL.val (R_assign rfl) rfl rfl ?_
      refine WL.nil ?_
      refine WQ.thenC ?_
      refine WC.seq ?_
      refine WC.reg ?_
      refine WL.lit [.int .i64 (0 : Int)] u55 rfl (by kernel_rfl) hS rfl ?_
      intro b1761 w hS
      refine WL.val (R_assign rfl) rfl rfl ?_
      refine WL.nil ?_
      refine WQ.thenC ?_
      obtain ⟨o1860, h1861, h1862⟩ := bindS h
      refine WC.seqM (fun env w => ∃ (y1859 : List Bool), ∃ (A1856 : Option Addr), ∃ (n1857 : Nat), ∃ (c1858 : Nat), y1859 = o1860 ∧ env = [(1, .pointer (some ⟨b1509, 0, none⟩)), (4, .slice A1609 y1612.length c1611), (7, .slice A1856 n1857 c1858)] ∧ Sta w0 M [Blk b1509 [.int .i64 p777.output, .slice A778 p777.nodes.length c779] 52, Row (RI .i64) 3 (.slice A1609 y1612.length c1611) y1612, Row RB 4 (.slice A1856 n1857 c1858) y1859] [FSl RNode A778 c779 p777.nodes] w) ?_ ?_
      · have h := h1861
        refine WC.block ?_
        have hS := hS.litRow (R := (RI .i64)) 0 rfl [(0 : Int)] 1 rfl (by decide) (fun M2 hs2 => ⟨[_], _, rfl, rfl, rfl⟩)
        have hS := hS.pick [2, 3, 1, 0] [0] rfl
        refine WC.loopJ (fun m env w => ∃ (y1911 : List Int), ∃ (y1912 : List Bool), ∃ (A1908 : Option Addr), ∃ (n1909 : Nat), ∃ (c1910 : Nat), env = [(1, .pointer (some ⟨b1509, 0, none⟩)), (4, .slice A1609 y1612.length c1611), (7, .slice (some ⟨b1759, 0, none⟩) ((p777.nodes.length : Int).toNat) ((p777.nodes.length : Int).toNat)), (8, .slice A1908 n1909 c1910)] ∧ Sta w0 M [Blk b1509 [.int .i64 p777.output, .slice A778 p777.nodes.length c779] 52, Row (RI .i64) 3 (.slice A1609 y1612.length c1611) y1612, Row RB 4 (.slice (some ⟨b1759, 0, none⟩) ((p777.nodes.length : Int).toNat) ((p777.nodes.length : Int).toNat)) y1912, Row (RI .i64) 3 (.slice A1908 n1909 c1910) y1911] [FSl RNode A778 c779 p777.nodes] w ∧ trees_Shape_l1 k p777 m y1911 y1912 = some o1860) k ⟨[(0 : Int)], (List.replicate (p777.nodes.length : Int).toNat false), (some ⟨b1761, 0, none⟩), 1, 1, rfl, hS, h⟩ ⟨rfl, rfl, rfl, rfl, trivial⟩ (fun env w hI => ?_) (fun m env w hI => ?_)
        · obtain ⟨y1911, y1912, A1908, n1909, c1910, rfl, hS, h⟩ := hI
          rw [trees_Shape_l1] at h
          cases h
        · obtain ⟨y1911, y1912, A1908, n1909, c1910, rfl, hS, h⟩ := hI
          rw [trees_Shape_l1] at h
          obtain rfl := Row.len (hS.res 3 rfl)
          refine WC.seq ?_
          refine WC.seq ?_
          refine WC.reg ?_
          refine WL.val (R_move rfl) rfl rfl ?_
          refine WL.val (R_lenS u55 rfl) rfl rfl ?_
          refine WL.val (R_cmp rfl rfl rfl) rfl rfl ?_
          refine WL.nil ?_
          refine WQ.thenC ?_
          refine WC.cond rfl (fun hb1957 => ?_) (fun hb1957 => ?_)
          · have h := ifT hb1957 h
            refine WC.skip ?_
            refine WQ.thenC ?_
            refine WC.block ?_
            refine WC.seq ?_
            refine WC.reg ?_
            refine WL.val (R_move rfl) rfl rfl ?_
            refine WL.val (R_move rfl) rfl rfl ?_
            refine WL.val (R_lenS u55 rfl) rfl rfl ?_
            refine WL.val (R_ar rfl rfl rfl) rfl rfl ?_
            obtain ⟨x1958, hx1959, h⟩ := bindS h
            obtain ⟨ad1960, cs1961, hA1962, hq1963, hK1964, hc1965⟩ := hS.rget 3 rfl (rdS hx1959).2.2
            obtain rfl := hK1964
            refine WL.val (R_indexAddr u55 z3 rfl rfl hA1962 (rdS hx1959).1 hq1963) rfl rfl ?_
            refine WL.val (R_load1 g3 rfl (hc1965 0 _ rfl)) rfl rfl ?_
            refine WL.val (R_assign rfl) rfl rfl ?_
            refine WL.nil ?_
            refine WQ.thenC ?_
            refine WC.seq ?_
            refine WC.reg ?_
            refine WL.val (R_move rfl) rfl rfl ?_
            refine WL.val (R_move rfl) rfl rfl ?_
            refine WL.val (R_lenS u55 rfl) rfl rfl ?_
            refine WL.val (R_ar rfl rfl rfl) rfl rfl ?_
            obtain ⟨hg1966, h⟩ := grdS h
            refine WL.val (R_sliceHi u55 z3 rfl rfl hg1966.1 (Nat.le_trans hg1966.2 (Row.room (hS.res 3 rfl)))) rfl rfl ?_
            have hS := hS.take 3 rfl (IntKind.i64.wrap ((y1911.length : Int) - (1 : Int))).toNat hg1966.2
            refine WL.val (R_assign rfl) rfl rfl ?_
            refine WL.nil ?_
            refine WQ.thenC ?_
            refine WC.seq ?_
            refine WC.seq ?_
            refine WC.reg ?_
            refine WL.val (R_move rfl) rfl rfl ?_
            refine WL.val (R_move rfl) rfl rfl ?_
            obtain ⟨x1967, hx1968, h⟩ := bindS h
            obtain ⟨ad1969, cs1970, hA1971, hq1972, hK1973, hc1974⟩ := hS.rget 2 rfl (rdS hx1968).2.2
            obtain rfl := hK1973
            refine WL.val (R_indexAddr u88 z4 rfl rfl hA1971 (rdS hx1968).1 hq1972) rfl rfl ?_
            refine WL.val (R_load1 g4 rfl (hc1974 0 _ rfl)) rfl rfl ?_
            refine WL.nil ?_
            refine WQ.thenC ?_
            refine WC.cond rfl (fun hb1975 => ?_) (fun hb1975 => ?_)
            · have h := ifT hb1975 h
              refine WC.exit ?_
              refine WQ.thenE ?_
              refine WQ.blockE ?_
              have hS := hS.pick [0, 1, 2, 3] [0] rfl
              exact WQ.toJ ⟨(y1911.take (IntKind.i64.wrap ((y1911.length : Int) - (1 : Int))).toNat), y1912, A1908, (IntKind.i64.wrap ((y1911.length : Int) - (1 : Int))).toNat, c1910, rfl, hS, h⟩ ⟨rfl, rfl, rfl, rfl, trivial⟩
            · have h := ifF hb1975 h
              refine WC.skip ?_
              refine WQ.thenC ?_
              refine WC.seq ?_
              refine WC.reg ?_
              refine WL.val (R_move rfl) rfl rfl ?_
              refine WL.val (R_move rfl) rfl rfl ?_
              obtain ⟨ad1976, cs1977, hA1978, hq1979, hK1980, hc1981⟩ := hS.rget 2 rfl (rdS hx1968).2.2
              obtain rfl := hK1980
              refine WL.val (R_indexAddr u88 z4 rfl rfl hA1978 (rdS hx1968).1 hq1979) rfl rfl ?_
              refine WL.storeR (R := RB) (z := true) 2 [.bool true] g4 hS rfl hA1978 rfl (by rw [Row.len (hS.res 2 rfl)]; exact hq1979) rfl rfl (rfl) ?_
              intro w hS
              refine WL.nil ?_
              refine WQ.thenC ?_
              refine WC.seq ?_
              refine WC.reg ?_
              refine WL.val (R_fieldB o52_1 rfl) rfl rfl ?_
              refine WL.val (R_load1 g50 rfl (hS.cell 0 rfl rfl)) rfl rfl ?_
              refine WL.val (R_move rfl) rfl rfl ?_
              obtain ⟨x1982, hx1983, h⟩ := bindS h
              obtain ⟨ad1984, cs1985, hA1986, hq1987, hK1988, hc1989⟩ := hS.sget 0 rfl (rdS hx1983).2.2
              obtain ⟨A1990, c1991, rfl, hs1992⟩ := hK1988
              have hS := hS.addF (FSl (RI .i64) A1990 c1991 x1982.cats) hs1992
              refine WL.val (R_indexAddr u50 z58 rfl rfl hA1986 (rdS hx1983).1 hq1987) rfl rfl ?_
              refine WL.val (R_loadA g58 rfl rfl hc1989) rfl rfl ?_
              refine WL.alloc _ z58 rfl hS rfl ?_
              intro b1993 w hS
              refine WL.storeB 0 [.int .u8 x1982.kind, .int .i64 x1982.value, .int .i64 x1982.feature, .float .f64 x1982.threshold, .slice A1990 x1982.cats.length c1991, .int .u8 x1982.missing, .int .i64 x1982.left, .int .i64 x1982.right] g58 hS rfl rfl rfl rfl rfl rfl rfl [.int .u8 x1982.kind, .int .i64 x1982.value, .int .i64 x1982.feature, .float .f64 x1982.threshold, .slice A1990 x1982.cats.length c1991, .int .u8 x1982.missing, .int .i64 x1982.left, .int .i64 x1982.right] rfl ?_
              intro w hS
              refine WL.nil ?_
              refine WQ.thenC ?_
              refine WC.seq ?_
              refine WC.reg ?_
              refine WL.val (R_loadA g58 rfl rfl (hS.cells 0 (o := 0) (m := 8) rfl rfl)) rfl rfl ?_
              obtain ⟨r1994, hr1995, h⟩ := bindS h
              refine WL.call e129 rfl rfl hS (trees_inner_ok (hS).mx_lt x1982 (hS.sl 0 rfl) _ hr1995) rfl ?_
              intro v w hB hS hP
              obtain ⟨rfl⟩ := hP
              refine WL.nil ?_
              refine WQ.thenC ?_
              refine WC.cond rfl (fun hb1996 => ?_) (fun hb1996 => ?_)
              · have h := ifT hb1996 h
                refine WC.reg ?_
                refine WL.val (R_move rfl) rfl rfl ?_
                refine WL.val (R_fieldB o58_6 rfl) rfl rfl ?_
                refine WL.val (R_load1 g3 rfl (hS.cell 0 rfl rfl)) rfl rfl ?_
                refine WL.val (R_fieldB o58_7 rfl) rfl rfl ?_
                refine WL.val (R_load1 g3 rfl (hS.cell 0 rfl rfl)) rfl rfl ?_
                refine WL.lit [.int .i64 x1982.left, .int .i64 x1982.right] u55 rfl (by kernel_rfl) hS rfl ?_
                intro b1997 w hS
                obtain ⟨hg1998, h⟩ := grdS h
                refine WL.append (R := (RI .i64)) (zs := [x1982.left, x1982.right]) 5 u55 z3 rfl rfl rfl hS rfl rfl rfl rfl (Blk.src (hS.res 0 rfl) ⟨[_], _, rfl, rfl, ⟨[_], _, rfl, rfl, rfl⟩⟩) hg1998 rfl rfl ?_
                intro A1999 c2000 w hS
                refine WL.val (R_assign rfl) rfl rfl ?_
                refine WL.nil ?_
                refine WQ.blockN ?_
                have hS := hS.pick [2, 3, 4, 5] [1] rfl
                exact WQ.toJ ⟨((y1911.take (IntKind.i64.wrap ((y1911.length : Int) - (1 : Int))).toNat) ++ [x1982.left, x1982.right]), (y1912.set x1958.toNat true), A1999, ((y1911.take (IntKind.i64.wrap ((y1911.length : Int) - (1 : Int))).toNat) ++ [x1982.left, x1982.right]).length, c2000, rfl, hS, h⟩ ⟨rfl, rfl, rfl, rfl, trivial⟩
              · have h := ifF hb1996 h
                refine WC.skip ?_
                refine WQ.blockN ?_
                have hS := hS.pick [1, 2, 3, 4] [1] rfl
                exact WQ.toJ ⟨(y1911.take (IntKind.i64.wrap ((y1911.length : Int) - (1 : Int))).toNat), (y1912.set x1958.toNat true), A1908, (IntKind.i64.wrap ((y1911.length : Int) - (1 : Int))).toNat, c1910, rfl, hS, h⟩ ⟨rfl, rfl, rfl, rfl, trivial⟩
          · have h := ifF hb1957 h
            refine WC.exit ?_
            refine WQ.thenE ?_
            refine WQ.thenE ?_
            refine WQ.blockE ?_
            have hS := hS.pick [0, 1, 2] [0] rfl
            exact WQ.toJ ⟨y1912, (some ⟨b1759, 0, none⟩), (p777.nodes.length : Int).toNat, (p777.nodes.length : Int).toNat, Option.some.inj h, rfl, hS⟩ ⟨rfl, rfl, rfl, trivial⟩
      · rintro _ w ⟨y1859, A1856, n1857, c1858, rfl, rfl, hS⟩
        have h := h1862
        try dsimp only at h
        obtain rfl := Row.len (hS.res 2 rfl)
        obtain ⟨o2040, h2041, h2042⟩ := bindS h
        refine WC.seqM (fun env w => Fl.go () = o2040 ∧ env = [] ∧ Sta w0 M [] [] w) ?_ ?_
        · have h := h2041
          refine WC.seq ?_
          refine WC.reg ?_
          refine WL.val (R_fieldB o52_1 rfl) rfl rfl ?_
          refine WL.val (R_load1 g50 rfl (hS.cell 0 rfl rfl)) rfl rfl ?_
          refine WL.val (R_lenS u50 rfl) rfl rfl ?_
          refine WL.val (R_move rfl) rfl rfl ?_
          refine WL.nil ?_
          refine WQ.thenC ?_
          refine WC.block ?_
          have hS := hS.pick [1, 2] [] rfl
          refine WC.loopJ (fun m env w => ∃ (y2062 : Int), env = [(4, .slice A1609 y1612.length c1611), (7, .slice A1856 y1859.length c1858), (95, .int .i64 (p777.nodes.length : Int)), (96, .int .i64 y2062)] ∧ Sta w0 M [Row (RI .i64) 3 (.slice A1609 y1612.length c1611) y1612, Row RB 4 (.slice A1856 y1859.length c1858) y1859] [] w ∧ trees_Shape_l2 k p777 y1612 y1859 m y2062 = some o2040) k ⟨(0 : Int), rfl, hS, h⟩ ⟨rfl, rfl, rfl, rfl, trivial⟩ (fun env w hI => ?_) (fun m env w hI => ?_)
          · obtain ⟨y2062, rfl, hS, h⟩ := hI
            rw [trees_Shape_l2] at h
            cases h
          · obtain ⟨y2062, rfl, hS, h⟩ := hI
            rw [trees_Shape_l2] at h
            refine WC.seq ?_
            refine WC.reg ?_
            refine WL.val (R_cmp rfl rfl rfl) rfl rfl ?_
            refine WL.nil ?_
            refine WQ.thenC ?_
            refine WC.seq ?_
            refine WC.cond rfl (fun hb2082 => ?_) (fun hb2082 => ?_)
            · have h := ifT hb2082 h
              refine WC.skip ?_
              refine WQ.thenC ?_
              refine WC.seq ?_
              refine WC.block ?_
              refine WC.seq ?_
              refine WC.reg ?_
              refine WL.val (R_move rfl) rfl rfl ?_
              refine WL.val (R_assign rfl) rfl rfl ?_
              refine WL.nil ?_
              refine WQ.thenC ?_
              refine WC.seq ?_
              refine WC.reg ?_
              refine WL.val (R_move rfl) rfl rfl ?_
              refine WL.val (R_min rfl rfl) rfl rfl ?_
              refine WL.val (R_assign rfl) rfl rfl ?_
              refine WL.nil ?_
              refine WQ.thenC ?_
              refine WC.seq ?_
              refine WC.reg ?_
              refine WL.val (R_move rfl) rfl rfl ?_
              refine WL.val (R_move rfl) rfl rfl ?_
              obtain ⟨x2083, hx2084, h⟩ := bindS h
              obtain ⟨ad2085, cs2086, hA2087, hq2088, hK2089, hc2090⟩ := hS.rget 0 rfl (rdS hx2084).2.2
              obtain rfl := hK2089
              refine WL.val (R_indexAddr u55 z3 rfl rfl hA2087 (rdS hx2084).1 hq2088) rfl rfl ?_
              refine WL.val (R_load1 g3 rfl (hc2090 0 _ rfl)) rfl rfl ?_
              refine WL.val (R_move rfl) rfl rfl ?_
              refine WL.val (R_cmp rfl rfl rfl) rfl rfl ?_
              refine WL.val (R_move rfl) rfl rfl ?_
              rcases boolS h with ⟨hb2091, h⟩ | ⟨hb2091, h⟩
              · refine WL.gskip rfl rfl rfl hb2091 rfl ?_
                refine WL.gskip rfl rfl rfl hb2091 rfl ?_
                refine WL.gskip rfl rfl rfl hb2091 rfl ?_
                refine WL.gskip rfl rfl rfl hb2091 rfl ?_
                refine WL.gskip rfl rfl rfl hb2091 rfl ?_
                refine WL.val (R_pickTb rfl hb2091 rfl) rfl rfl ?_
                refine WL.nil ?_
                refine WQ.thenC ?_
                refine WC.condT rfl ?_
                refine WC.seq ?_
                refine WC.reg ?_
                refine WL.val (R_move rfl) rfl rfl ?_
                refine WL.val (R_assign rfl) rfl rfl ?_
                refine WL.val (R_assign rfl) rfl rfl ?_
                refine WL.nil ?_
                refine WQ.thenC ?_
                refine WC.ret ?_
                refine WQ.blockR ?_
                refine WQ.thenR ?_
                refine WQ.thenR ?_
                refine WQ.blockR ?_
                refine WQ.thenR ?_
                obtain ⟨_, hr, rfl⟩ := mapS h
                have h := hr.trans h2042
                have hS0 := hS
                have h := Option.some.inj h
                obtain ⟨rfl, rfl⟩ := Prod.mk.inj h
                exact ret_2 rfl rfl rfl ⟨_, rfl, hS.bel, rfl⟩
              · refine WL.gvalb rfl rfl rfl hb2091 (R_move rfl) rfl rfl ?_
                refine WL.gvalb rfl rfl rfl hb2091 (R_move rfl) rfl rfl ?_
                obtain ⟨x2092, hx2093, h⟩ := bindS h
                obtain ⟨ad2094, cs2095, hA2096, hq2097, hK2098, hc2099⟩ := hS.rget 1 rfl (rdS hx2093).2.2
                obtain rfl := hK2098
                refine WL.gvalb rfl rfl rfl hb2091 (R_indexAddr u88 z4 rfl rfl hA2096 (rdS hx2093).1 hq2097) rfl rfl ?_
                refine WL.gvalb rfl rfl rfl hb2091 (R_load1 g4 rfl (hc2099 0 _ rfl)) rfl rfl ?_
                refine WL.gvalb rfl rfl rfl hb2091 (R_not rfl) rfl rfl ?_
                refine WL.val (R_pickFb rfl hb2091 rfl) rfl rfl ?_
                refine WL.nil ?_
                refine WQ.thenC ?_
                refine WC.cond rfl (fun hb2100 => ?_) (fun hb2100 => ?_)
                · have h := ifT hb2100 h
                  refine WC.seq ?_
                  refine WC.reg ?_
                  refine WL.val (R_move rfl) rfl rfl ?_
                  refine WL.val (R_assign rfl) rfl rfl ?_
                  refine WL.val (R_assign rfl) rfl rfl ?_
                  refine WL.nil ?_
                  refine WQ.thenC ?_
                  refine WC.ret ?_
                  refine WQ.blockR ?_
                  refine WQ.thenR ?_
                  refine WQ.thenR ?_
                  refine WQ.blockR ?_
                  refine WQ.thenR ?_
                  obtain ⟨_, hr, rfl⟩ := mapS h
                  have h := hr.trans h2042
                  have hS0 := hS
                  have h := Option.some.inj h
                  obtain ⟨rfl, rfl⟩ := Prod.mk.inj h
                  exact ret_2 rfl rfl rfl ⟨_, rfl, hS.bel, rfl⟩
                · have h := ifF hb2100 h
                  refine WC.skip ?_
                  refine WQ.blockN ?_
                  refine WQ.thenC ?_
                  refine WC.reg ?_
                  refine WL.val (R_ar rfl rfl rfl) rfl rfl ?_
                  refine WL.val (R_move rfl) rfl rfl ?_
                  refine WL.nil ?_
                  have hS := hS.pick [0, 1] [] rfl
                  exact WQ.toJ ⟨(IntKind.i64.wrap (y2062 + (1 : Int))), rfl, hS, h⟩ ⟨rfl, rfl, rfl, rfl, trivial⟩
            · have h := ifF hb2082 h
              refine WC.exit ?_
              refine WQ.thenE ?_
              refine WQ.thenE ?_
              refine WQ.blockE ?_
              have hS := hS.pick [] [] rfl
              exact WQ.toJ ⟨Option.some.inj h, rfl, hS⟩ trivial
        · rintro _ w ⟨rfl, rfl, hS⟩
          have h := h2042
          try dsimp only at h
          refine WC.seq ?_
          refine WC.reg ?_
          refine WL.val (R_assign rfl) rfl rfl ?_
          refine WL.val (R_assign rfl) rfl rfl ?_
          refine WL.nil ?_
          refine WQ.thenC ?_
          refine WC.ret ?_
          have hS0 := hS
          have h := Option.some.inj h
          obtain ⟨rfl, rfl⟩ := Prod.mk.inj h
          exact ret_2 rfl rfl rfl ⟨_, rfl, hS.bel, rfl⟩

def rules_tree_l0 (k : Nat) (p357 : Tree) (p347 : Ensemble) : Nat → Int → Option (Fl (Int × Int) Unit)
  | 0, _ => none
  | m + 1, y2174 =>
    if decide (y2174 < (p357.nodes.length : Int)) = true then ((rd p357.nodes y2174).bind fun x2192 =>
    (rules_node k p347 x2192 (p357.nodes.length : Int)).bind fun r2204 =>
    if decide (r2204 ≠ (0 : Int)) = true then ((some (r2204, y2174)).map Fl.ret) else (rules_tree_l0 k p357 p347 m (IntKind.i64.wrap (y2174 + (1 : Int))))) else (some (.go ()))

def rules_tree (k : Nat) (p347 : Ensemble) (p357 : Tree) : Option (Int × Int) :=
    ((if decide ((0 : Int) ≤ p357.output) = true then (some (decide (p357.output < p347.outputs))) else (some false) : Option Bool).bind fun r2112 =>
    if (!r2112) = true then (some ((11 : Int), true)) else ((if decide ((1 : Int) ≤ (p357.nodes.length : Int)) = true then (some (decide ((p357.nodes.length : Int) ≤ (8191 : Int)))) else (some false) : Option Bool).bind fun r2117 =>
    if (!r2117) = true then (some ((12 : Int), true)) else (some ((0 : Int), false))) : Option (Int × Bool)).bind fun ⟨r2108, r2109⟩ =>
    if r2109 = true then (some (r2108, (-1 : Int))) else ((rules_tree_l0 k p357 p347 k (0 : Int) : Option (Fl (Int × Int) Unit)).bind fun o => match o with
    | .ret r => some r
    | .go _ =>
    ((trees_Shape k p357).bind fun ⟨r2207, r2208⟩ =>
    if decide (r2207 ≠ (0 : Int)) = true then (some ((20 : Int), r2208)) else (some ((0 : Int), (0 : Int)))))

theorem rules_tree_ok {w0 : World} {M : MSet} (hM : ∀ k, M k → k < w0.heap.size) (k : Nat) (p347 : Ensemble) (p357 : Tree) {A348 : Option Addr} {c349 : Nat} (hs350 : p347.features.length ≤ c349 ∧ Sl RStr M w0 A348 p347.features) {A351 : Option Addr} {c352 : Nat} (hs353 : p347.base.length ≤ c352 ∧ Sl (RI .i64) M w0 A351 p347.base) {A354 : Option Addr} {c355 : Nat} (hs356 : p347.trees.length ≤ c355 ∧ Sl RTree M w0 A354 p347.trees) {A358 : Option Addr} {c359 : Nat} (hs360 : p357.nodes.length ≤ c359 ∧ Sl RNode M w0 A358 p357.nodes) (r1 : Int) (r2 : Int) (h : rules_tree k p347 p357 = some (r1, r2)) :
    Calls Tryz.prog 124 #[.agg #[.string p347.name, .slice A348 p347.features.length c349, .int .i64 p347.outputs, .slice A351 p347.base.length c352, .slice A354 p347.trees.length c355], .agg #[.int .i64 p357.output, .slice A358 p357.nodes.length c359]] w0 (Gives w0 fun v w' => v = .tuple #[.int .i64 r1, .int .i64 r2]) := by
  have hS := Sta.init hM
  have hS := hS.arg hs350
  have hS := hS.arg hs353
  have hS := hS.arg hs356
  have hS := hS.arg hs360
  unfold rules_tree at h
  refine calls_enter (n := 0) Tryz.func124 rfl [(0, .agg #[.string p347.name, .slice A348 p347.features.length c349, .int .i64 p347.outputs, .slice A351 p347.base.length c352, .slice A354 p347.trees.length c355]), (1, .agg #[.int .i64 p357.output, .slice A358 p357.nodes.length c359])] rfl rfl ⟨rfl, rfl, trivial⟩ ?_
  refine WC.seq ?_
  refine WC.reg ?_
  refine WL.box [.string p347.name, .slice A348 p347.features.length c349, .int .i64 p347.outputs, .slice A351 p347.base.length c352, .slice A354 p347.trees.length c355] rfl rfl hS rfl ?_
  intro b2105 w hS
  refine WL.box [.int .i64 p357.output, .slice A358 p357.nodes.length c359] rfl rfl hS rfl ?_
  intro b2106 w hS
  refine WL.val (R_assign rfl) rfl rfl ?_
  refine WL.val (R_assign rfl) rfl rfl ?_
  refine WL.nil ?_
  refine WQ.thenC ?_
  refine WC.seq ?_
  refine WC.seq ?_
  refine WC.reg ?_
  refine WL.val (R_func (fs := #[]) (cs := #[.pointer (some ⟨b2106, 0, none⟩), .pointer (some ⟨b2105, 0, none⟩)]) rfl rfl) rfl rfl ?_
  refine WL.val (R_build (cells := #[.int .i64 (11 : Int), .func (.func 173) #[] #[.pointer (some ⟨b2106, 0, none⟩), .pointer (some ⟨b2105, 0, none⟩)]]) rfl (by kernel_rfl)) rfl rfl ?_
  refine WL.val (R_func (fs := #[]) (cs := #[.pointer (some ⟨b2106, 0, none⟩)]) rfl rfl) rfl rfl ?_
  refine WL.val (R_build (cells := #[.int .i64 (12 : Int), .func (.func 174) #[] #[.pointer (some ⟨b2106, 0, none⟩)]]) rfl (by kernel_rfl)) rfl rfl ?_
  refine WL.lit [.int .i64 (11 : Int), .func (.func 173) #[] #[.pointer (some ⟨b2106, 0, none⟩), .pointer (some ⟨b2105, 0, none⟩)], .int .i64 (12 : Int), .func (.func 174) #[] #[.pointer (some ⟨b2106, 0, none⟩)]] u198 rfl (by kernel_rfl) hS rfl ?_
  intro b2107 w hS
  obtain ⟨⟨r2108, r2109⟩, hr2110, h⟩ := bindS h
  try dsimp only at h
  refine WL.callR (Φ := fun v w => v = .tuple #[.int .i64 r2108, .bool r2109] ∧ Sta w0 M [Blk b2107 [.int .i64 (11 : Int), .func (.func 173) #[] #[.pointer (some ⟨b2106, 0, none⟩), .pointer (some ⟨b2105, 0, none⟩)], .int .i64 (12 : Int), .func (.func 174) #[] #[.pointer (some ⟨b2106, 0, none⟩)]] 197, Blk b2106 [.int .i64 p357.output, .slice A358 p357.nodes.length c359] 52, Blk b2105 [.string p347.name, .slice A348 p347.features.length c349, .int .i64 p347.outputs, .slice A351 p347.base.length c352, .slice A354 p347.trees.length c355] 26] [FSl RNode A358 c359 p357.nodes, FSl RTree A354 c355 p347.trees, FSl (RI .i64) A351 c352 p347.base, FSl RStr A348 c349 p347.features] w) e115 rfl rfl ?_ rfl ?_
  · have h := hr2110
    refine calls_enter (n := 0) Tryz.func115 rfl [(0, .slice (some ⟨b2107, 0, none⟩) 2 2)] rfl rfl ⟨rfl, trivial⟩ ?_
    refine WC.seq ?_
    refine WC.reg ?_
    refine WL.val (R_assign rfl) rfl rfl ?_
    refine WL.val (R_assign rfl) rfl rfl ?_
    refine WL.nil ?_
    refine WQ.thenC ?_
    refine WC.seq ?_
    refine WC.seq ?_
    refine WC.reg ?_
    refine WL.val (R_move rfl) rfl rfl ?_
    refine WL.val (R_lenS u198 rfl) rfl rfl ?_
    refine WL.val (R_move rfl) rfl rfl ?_
    refine WL.nil ?_
    refine WQ.thenC ?_
    refine WC.block ?_
    refine WC.loopR 64 ?_
    refine WR.step ?_
    refine WC.seq ?_
    refine WC.reg ?_
    refine WL.val (R_cmp rfl rfl rfl) rfl rfl ?_
    refine WL.nil ?_
    refine WQ.thenC ?_
    refine WC.seq ?_
    refine WC.condT rfl ?_
    refine WC.skip ?_
    refine WQ.thenC ?_
    refine WC.seq ?_
    refine WC.block ?_
    refine WC.seq ?_
    refine WC.reg ?_
    refine WL.val (R_indexB u198 z197 rfl rfl (by decide) (by decide)) rfl rfl ?_
    refine WL.val (R_loadA g197 rfl rfl (hS.cells 0 (o := 0) (m := 2) rfl rfl)) rfl rfl ?_
    refine WL.alloc _ z197 rfl hS rfl ?_
    intro b2111 w hS
    refine WL.storeB 0 [.int .i64 (11 : Int), .func (.func 173) #[] #[.pointer (some ⟨b2106, 0, none⟩), .pointer (some ⟨b2105, 0, none⟩)]] g197 hS rfl rfl rfl rfl rfl rfl rfl [.int .i64 (11 : Int), .func (.func 173) #[] #[.pointer (some ⟨b2106, 0, none⟩), .pointer (some ⟨b2105, 0, none⟩)]] rfl ?_
    intro w hS
    refine WL.nil ?_
    refine WQ.thenC ?_
    refine WC.seq ?_
    refine WC.reg ?_
    refine WL.val (R_fieldB o197_1 rfl) rfl rfl ?_
    refine WL.val (R_load1 g27 rfl (hS.cell 0 rfl rfl)) rfl rfl ?_
    obtain ⟨r2112, hr2113, h⟩ := bindS h
    refine WL.callR (Φ := fun v w => v = .bool r2112 ∧ Sta w0 M [Blk b2111 [.int .i64 (11 : Int), .func (.func 173) #[] #[.pointer (some ⟨b2106, 0, none⟩), .pointer (some ⟨b2105, 0, none⟩)]] 197, Blk b2107 [.int .i64 (11 : Int), .func (.func 173) #[] #[.pointer (some ⟨b2106, 0, none⟩), .pointer (some ⟨b2105, 0, none⟩)], .int .i64 (12 : Int), .func (.func 174) #[] #[.pointer (some ⟨b2106, 0, none⟩)]] 197, Blk b2106 [.int .i64 p357.output, .slice A358 p357.nodes.length c359] 52, Blk b2105 [.string p347.name, .slice A348 p347.features.length c349, .int .i64 p347.outputs, .slice A351 p347.base.length c352, .slice A354 p347.trees.length c355] 26] [FSl RNode A358 c359 p357.nodes, FSl RTree A354 c355 p347.trees, FSl (RI .i64) A351 c352 p347.base, FSl RStr A348 c349 p347.features] w) e173 rfl rfl ?_ rfl ?_
    · have h := hr2113
      refine calls_enter (n := 0) Tryz.func173 rfl [(0, .pointer (some ⟨b2106, 0, none⟩)), (1, .pointer (some ⟨b2105, 0, none⟩))] rfl rfl ⟨rfl, rfl, trivial⟩ ?_
      refine WC.seq ?_
      refine WC.reg ?_
      refine WL.val (R_assign rfl) rfl rfl ?_
      refine WL.nil ?_
      refine WQ.thenC ?_
      refine WC.seq ?_
      refine WC.reg ?_
      refine WL.val (R_fieldB o52_0 rfl) rfl rfl ?_
      refine WL.val (R_load1 g3 rfl (hS.cell 2 rfl rfl)) rfl rfl ?_
      refine WL.val (R_cmp rfl rfl rfl) rfl rfl ?_
      refine WL.val (R_move rfl) rfl rfl ?_
      rcases boolS h with ⟨hb2114, h⟩ | ⟨hb2114, h⟩
      · refine WL.gvalb rfl rfl rfl hb2114 (R_fieldB o52_0 rfl) rfl rfl ?_
        refine WL.gvalb rfl rfl rfl hb2114 (R_load1 g3 rfl (hS.cell 2 rfl rfl)) rfl rfl ?_
        refine WL.gvalb rfl rfl rfl hb2114 (R_fieldB o26_2 rfl) rfl rfl ?_
        refine WL.gvalb rfl rfl rfl hb2114 (R_load1 g3 rfl (hS.cell 3 rfl rfl)) rfl rfl ?_
        refine WL.gvalb rfl rfl rfl hb2114 (R_cmp rfl rfl rfl) rfl rfl ?_
        refine WL.val (R_pickTb rfl hb2114 rfl) rfl rfl ?_
        refine WL.val (R_assign rfl) rfl rfl ?_
        refine WL.nil ?_
        refine WQ.thenC ?_
        refine WC.ret ?_
        have hS0 := hS
        have hS := hS.pick [0, 1, 2, 3] [0, 1, 2, 3] rfl
        obtain rfl := Option.some.inj h
        exact ret_1 rfl rfl ⟨_, rfl, rfl, hS⟩
      · refine WL.gskip rfl rfl rfl hb2114 rfl ?_
        refine WL.gskip rfl rfl rfl hb2114 rfl ?_
        refine WL.gskip rfl rfl rfl hb2114 rfl ?_
        refine WL.gskip rfl rfl rfl hb2114 rfl ?_
        refine WL.gskip rfl rfl rfl hb2114 rfl ?_
        refine WL.val (R_pickFb rfl hb2114 rfl) rfl rfl ?_
        refine WL.val (R_assign rfl) rfl rfl ?_
        refine WL.nil ?_
        refine WQ.thenC ?_
        refine WC.ret ?_
        have hS0 := hS
        have hS := hS.pick [0, 1, 2, 3] [0, 1, 2, 3] rfl
        obtain rfl := Option.some.inj h
        exact ret_1 rfl rfl ⟨_, rfl, rfl, hS⟩
    rintro _ w ⟨rfl, hS⟩
    refine WL.val (R_not rfl) rfl rfl ?_
    refine WL.nil ?_
    refine WQ.thenC ?_
    refine WC.cond rfl (fun hb2115 => ?_) (fun hb2115 => ?_)
    · have h := ifT hb2115 h
      refine WC.seq ?_
      refine WC.reg ?_
      refine WL.val (R_fieldB o197_0 rfl) rfl rfl ?_
      refine WL.val (R_load1 g136 rfl (hS.cell 0 rfl rfl)) rfl rfl ?_
      refine WL.val (R_assign rfl) rfl rfl ?_
      refine WL.val (R_assign rfl) rfl rfl ?_
      refine WL.nil ?_
      refine WQ.thenC ?_
      refine WC.ret ?_
      refine WQ.blockR ?_
      refine WQ.thenR ?_
      refine WQ.thenR ?_
      refine WQ.blockR ?_
      refine WQ.thenR ?_
      have hS0 := hS
      have hS := hS.pick [1, 2, 3] [0, 1, 2, 3] rfl
      have h := Option.some.inj h
      obtain ⟨rfl, rfl⟩ := Prod.mk.inj h
      exact ret_2 rfl rfl rfl ⟨_, rfl, rfl, hS⟩
    · have h := ifF hb2115 h
      refine WC.skip ?_
      refine WQ.blockN ?_
      refine WQ.thenC ?_
      refine WC.reg ?_
      refine WL.val (R_ar rfl rfl rfl) rfl rfl ?_
      refine WL.val (R_move rfl) rfl rfl ?_
      refine WL.nil ?_
      refine WQ.thenW ?_
      refine WR.step ?_
      refine WC.seq ?_
      refine WC.reg ?_
      refine WL.val (R_cmp rfl rfl rfl) rfl rfl ?_
      refine WL.nil ?_
      refine WQ.thenC ?_
      refine WC.seq ?_
      refine WC.condT rfl ?_
      refine WC.skip ?_
      refine WQ.thenC ?_
      refine WC.seq ?_
      refine WC.block ?_
      refine WC.seq ?_
      refine WC.reg ?_
      refine WL.val (R_indexB u198 z197 rfl rfl (by decide) (by decide)) rfl rfl ?_
      refine WL.val (R_loadA g197 rfl rfl (hS.cells 1 (o := 2) (m := 2) rfl rfl)) rfl rfl ?_
      refine WL.alloc _ z197 rfl hS rfl ?_
      intro b2116 w hS
      refine WL.storeB 0 [.int .i64 (12 : Int), .func (.func 174) #[] #[.pointer (some ⟨b2106, 0, none⟩)]] g197 hS rfl rfl rfl rfl rfl rfl rfl [.int .i64 (12 : Int), .func (.func 174) #[] #[.pointer (some ⟨b2106, 0, none⟩)]] rfl ?_
      intro w hS
      refine WL.nil ?_
      refine WQ.thenC ?_
      refine WC.seq ?_
      refine WC.reg ?_
      refine WL.val (R_fieldB o197_1 rfl) rfl rfl ?_
      refine WL.val (R_load1 g27 rfl (hS.cell 0 rfl rfl)) rfl rfl ?_
      obtain ⟨r2117, hr2118, h⟩ := bindS h
      refine WL.callR (Φ := fun v w => v = .bool r2117 ∧ Sta w0 M [Blk b2116 [.int .i64 (12 : Int), .func (.func 174) #[] #[.pointer (some ⟨b2106, 0, none⟩)]] 197, Blk b2111 [.int .i64 (11 : Int), .func (.func 173) #[] #[.pointer (some ⟨b2106, 0, none⟩), .pointer (some ⟨b2105, 0, none⟩)]] 197, Blk b2107 [.int .i64 (11 : Int), .func (.func 173) #[] #[.pointer (some ⟨b2106, 0, none⟩), .pointer (some ⟨b2105, 0, none⟩)], .int .i64 (12 : Int), .func (.func 174) #[] #[.pointer (some ⟨b2106, 0, none⟩)]] 197, Blk b2106 [.int .i64 p357.output, .slice A358 p357.nodes.length c359] 52, Blk b2105 [.string p347.name, .slice A348 p347.features.length c349, .int .i64 p347.outputs, .slice A351 p347.base.length c352, .slice A354 p347.trees.length c355] 26] [FSl RNode A358 c359 p357.nodes, FSl RTree A354 c355 p347.trees, FSl (RI .i64) A351 c352 p347.base, FSl RStr A348 c349 p347.features] w) e174 rfl rfl ?_ rfl ?_
      · have h := hr2118
        refine calls_enter (n := 0) Tryz.func174 rfl [(0, .pointer (some ⟨b2106, 0, none⟩))] rfl rfl ⟨rfl, trivial⟩ ?_
        refine WC.seq ?_
        refine WC.reg ?_
        refine WL.val (R_assign rfl) rfl rfl ?_
        refine WL.nil ?_
        refine WQ.thenC ?_
        refine WC.seq ?_
        refine WC.reg ?_
        refine WL.val (R_fieldB o52_1 rfl) rfl rfl ?_
        refine WL.val (R_load1 g50 rfl (hS.cell 3 rfl rfl)) rfl rfl ?_
        refine WL.val (R_lenS u50 rfl) rfl rfl ?_
        refine WL.val (R_cmp rfl rfl rfl) rfl rfl ?_
        refine WL.val (R_move rfl) rfl rfl ?_
        rcases boolS h with ⟨hb2119, h⟩ | ⟨hb2119, h⟩
        · refine WL.gvalb rfl rfl rfl hb2119 (R_fieldB o52_1 rfl) rfl rfl ?_
          refine WL.gvalb rfl rfl rfl hb2119 (R_load1 g50 rfl (hS.cell 3 rfl rfl)) rfl rfl ?_
          refine WL.gvalb rfl rfl rfl hb2119 (R_lenS u50 rfl) rfl rfl ?_
          refine WL.gvalb rfl rfl rfl hb2119 (R_cmp rfl rfl rfl) rfl rfl ?_
          refine WL.val (R_pickTb rfl hb2119 rfl) rfl rfl ?_
          refine WL.val (R_assign rfl) rfl rfl ?_
          refine WL.nil ?_
          refine WQ.thenC ?_
          refine WC.ret ?_
          have hS0 := hS
          have hS := hS.pick [0, 1, 2, 3, 4] [0, 1, 2, 3] rfl
          obtain rfl := Option.some.inj h
          exact ret_1 rfl rfl ⟨_, rfl, rfl, hS⟩
        · refine WL.gskip rfl rfl rfl hb2119 rfl ?_
          refine WL.gskip rfl rfl rfl hb2119 rfl ?_
          refine WL.gskip rfl rfl rfl hb2119 rfl ?_
          refine WL.gskip rfl rfl rfl hb2119 rfl ?_
          refine WL.val (R_pickFb rfl hb2119 rfl) rfl rfl ?_
          refine WL.val (R_assign rfl) rfl rfl ?_
          refine WL.nil ?_
          refine WQ.thenC ?_
          refine WC.ret ?_
          have hS0 := hS
          have hS := hS.pick [0, 1, 2, 3, 4] [0, 1, 2, 3] rfl
          obtain rfl := Option.some.inj h
          exact ret_1 rfl rfl ⟨_, rfl, rfl, hS⟩
      rintro _ w ⟨rfl, hS⟩
      refine WL.val (R_not rfl) rfl rfl ?_
      refine WL.nil ?_
      refine WQ.thenC ?_
      refine WC.cond rfl (fun hb2120 => ?_) (fun hb2120 => ?_)
      · have h := ifT hb2120 h
        refine WC.seq ?_
        refine WC.reg ?_
        refine WL.val (R_fieldB o197_0 rfl) rfl rfl ?_
        refine WL.val (R_load1 g136 rfl (hS.cell 0 rfl rfl)) rfl rfl ?_
        refine WL.val (R_assign rfl) rfl rfl ?_
        refine WL.val (R_assign rfl) rfl rfl ?_
        refine WL.nil ?_
        refine WQ.thenC ?_
        refine WC.ret ?_
        refine WQ.blockR ?_
        refine WQ.thenR ?_
        refine WQ.thenR ?_
        refine WQ.blockR ?_
        refine WQ.thenR ?_
        have hS0 := hS
        have hS := hS.pick [2, 3, 4] [0, 1, 2, 3] rfl
        have h := Option.some.inj h
        obtain ⟨rfl, rfl⟩ := Prod.mk.inj h
        exact ret_2 rfl rfl rfl ⟨_, rfl, rfl, hS⟩
      · have h := ifF hb2120 h
        refine WC.skip ?_
        refine WQ.blockN ?_
        refine WQ.thenC ?_
        refine WC.reg ?_
        refine WL.val (R_ar rfl rfl rfl) rfl rfl ?_
        refine WL.val (R_move rfl) rfl rfl ?_
        refine WL.nil ?_
        refine WQ.thenW ?_
        refine WR.step ?_
        refine WC.seq ?_
        refine WC.reg ?_
        refine WL.val (R_cmp rfl rfl rfl) rfl rfl ?_
        refine WL.nil ?_
        refine WQ.thenC ?_
        refine WC.seq ?_
        refine WC.condF rfl ?_
        refine WC.exit ?_
        refine WQ.thenE ?_
        refine WQ.thenE ?_
        refine WQ.blockE ?_
        refine WQ.thenC ?_
        refine WC.seq ?_
        refine WC.reg ?_
        refine WL.val (R_assign rfl) rfl rfl ?_
        refine WL.val (R_assign rfl) rfl rfl ?_
        refine WL.nil ?_
        refine WQ.thenC ?_
        refine WC.ret ?_
        have hS0 := hS
        have hS := hS.pick [2, 3, 4] [0, 1, 2, 3] rfl
        have h := Option.some.inj h
        obtain ⟨rfl, rfl⟩ := Prod.mk.inj h
        exact ret_2 rfl rfl rfl ⟨_, rfl, rfl, hS⟩
  rintro _ w ⟨rfl, hS⟩
  refine WL.val (R_move rfl) rfl rfl ?_
  refine WL.val (R_extract rfl rfl) rfl rfl ?_
  refine WL.val (R_extract rfl rfl) rfl rfl ?_
  refine WL.val (R_assign rfl) rfl rfl ?_
  refine WL.val (R_assign rfl) rfl rfl ?_
  refine WL.nil ?_
  refine WQ.thenC ?_
  refine WC.seq ?_
  refine WC.reg ?_
  refine WL.val (R_move rfl) rfl rfl ?_
  refine WL.nil ?_
  refine WQ.thenC ?_
  refine WC.cond rfl (fun hb2121 => ?_) (fun hb2121 => ?_)
  · have h := ifT hb2121 h
    refine WC.seq ?_
    refine WC.reg ?_
    refine WL.val (R_move rfl) rfl rfl ?_
    refine WL.val (R_assign rfl) rfl rfl ?_
    refine WL.val (R_assign rfl) rfl rfl ?_
    refine WL.nil ?_
    refine WQ.thenC ?_
    refine WC.ret ?_
    refine WQ.thenR ?_
    have hS0 := hS
    have h := Option.some.inj h
    obtain ⟨rfl, rfl⟩ := Prod.mk.inj h
    exact ret_2 rfl rfl rfl ⟨_, rfl, hS.bel, rfl⟩
  · have h := ifF hb2121 h
    refine WC.skip ?_
    refine WQ.thenC ?_
    obtain ⟨o2155, h2156, h2157⟩ := bindS h
    refine WC.seqM (fun env w => Fl.go () = o2155 ∧ env = [(3, .pointer (some ⟨b2106, 0, none⟩))] ∧ Sta w0 M [Blk b2106 [.int .i64 p357.output, .slice A358 p357.nodes.length c359] 52] [FSl RNode A358 c359 p357.nodes] w) ?_ ?_
    · have h := h2156
      refine WC.seq ?_
      refine WC.reg ?_
      refine WL.val (R_fieldB o52_1 rfl) rfl rfl ?_
      refine WL.val (R_load1 g50 rfl (hS.cell 1 rfl rfl)) rfl rfl ?_
      refine WL.val (R_lenS u50 rfl) rfl rfl ?_
      refine WL.val (R_move rfl) rfl rfl ?_
      refine WL.nil ?_
      refine WQ.thenC ?_
      refine WC.block ?_
      have hS := hS.pick [2, 1] [0, 3, 2, 1] rfl
      refine WC.loopJ (fun m env w => ∃ (y2174 : Int), env = [(2, .pointer (some ⟨b2105, 0, none⟩)), (3, .pointer (some ⟨b2106, 0, none⟩)), (25, .slice A358 p357.nodes.length c359), (26, .int .i64 (p357.nodes.length : Int)), (27, .int .i64 y2174)] ∧ Sta w0 M [Blk b2105 [.string p347.name, .slice A348 p347.features.length c349, .int .i64 p347.outputs, .slice A351 p347.base.length c352, .slice A354 p347.trees.length c355] 26, Blk b2106 [.int .i64 p357.output, .slice A358 p357.nodes.length c359] 52] [FSl RNode A358 c359 p357.nodes, FSl RStr A348 c349 p347.features, FSl (RI .i64) A351 c352 p347.base, FSl RTree A354 c355 p347.trees] w ∧ rules_tree_l0 k p357 p347 m y2174 = some o2155) k ⟨(0 : Int), rfl, hS, h⟩ ⟨rfl, rfl, rfl, rfl, rfl, trivial⟩ (fun env w hI => ?_) (fun m env w hI => ?_)
      · obtain ⟨y2174, rfl, hS, h⟩ := hI
        rw [rules_tree_l0] at h
        cases h
      · obtain ⟨y2174, rfl, hS, h⟩ := hI
        rw [rules_tree_l0] at h
        refine WC.seq ?_
        refine WC.reg ?_
        refine WL.val (R_cmp rfl rfl rfl) rfl rfl ?_
        refine WL.nil ?_
        refine WQ.thenC ?_
        refine WC.seq ?_
        refine WC.cond rfl (fun hb2191 => ?_) (fun hb2191 => ?_)
        · have h := ifT hb2191 h
          refine WC.skip ?_
          refine WQ.thenC ?_
          refine WC.seq ?_
          refine WC.block ?_
          refine WC.seq ?_
          refine WC.reg ?_
          refine WL.val (R_move rfl) rfl rfl ?_
          obtain ⟨x2192, hx2193, h⟩ := bindS h
          obtain ⟨ad2194, cs2195, hA2196, hq2197, hK2198, hc2199⟩ := hS.sget 0 rfl (rdS hx2193).2.2
          obtain ⟨A2200, c2201, rfl, hs2202⟩ := hK2198
          have hS := hS.addF (FSl (RI .i64) A2200 c2201 x2192.cats) hs2202
          refine WL.val (R_indexAddr u50 z58 rfl rfl hA2196 (rdS hx2193).1 hq2197) rfl rfl ?_
          refine WL.val (R_loadA g58 rfl rfl hc2199) rfl rfl ?_
          refine WL.alloc _ z58 rfl hS rfl ?_
          intro b2203 w hS
          refine WL.val (R_assign rfl) rfl rfl ?_
          refine WL.storeB 0 [.int .u8 x2192.kind, .int .i64 x2192.value, .int .i64 x2192.feature, .float .f64 x2192.threshold, .slice A2200 x2192.cats.length c2201, .int .u8 x2192.missing, .int .i64 x2192.left, .int .i64 x2192.right] g58 hS rfl rfl rfl rfl rfl rfl rfl [.int .u8 x2192.kind, .int .i64 x2192.value, .int .i64 x2192.feature, .float .f64 x2192.threshold, .slice A2200 x2192.cats.length c2201, .int .u8 x2192.missing, .int .i64 x2192.left, .int .i64 x2192.right] rfl ?_
          intro w hS
          refine WL.nil ?_
          refine WQ.thenC ?_
          refine WC.seq ?_
          refine WC.reg ?_
          refine WL.val (R_loadA g26 rfl rfl (hS.cells 1 (o := 0) (m := 5) rfl rfl)) rfl rfl ?_
          refine WL.val (R_loadA g58 rfl rfl (hS.cells 0 (o := 0) (m := 8) rfl rfl)) rfl rfl ?_
          refine WL.val (R_fieldB o52_1 rfl) rfl rfl ?_
          refine WL.val (R_load1 g50 rfl (hS.cell 2 rfl rfl)) rfl rfl ?_
          refine WL.val (R_lenS u50 rfl) rfl rfl ?_
          obtain ⟨r2204, hr2205, h⟩ := bindS h
          refine WL.call e175 rfl rfl hS (rules_node_ok (hS).mx_lt k p347 x2192 (p357.nodes.length : Int) (hS.sl 2 rfl) (hS.sl 3 rfl) (hS.sl 4 rfl) (hS.sl 0 rfl) _ hr2205) rfl ?_
          intro v w hB hS hP
          obtain ⟨rfl⟩ := hP
          refine WL.val (R_assign rfl) rfl rfl ?_
          refine WL.nil ?_
          refine WQ.thenC ?_
          refine WC.seq ?_
          refine WC.reg ?_
          refine WL.val (R_move rfl) rfl rfl ?_
          refine WL.val (R_cmp rfl rfl rfl) rfl rfl ?_
          refine WL.nil ?_
          refine WQ.thenC ?_
          refine WC.cond rfl (fun hb2206 => ?_) (fun hb2206 => ?_)
          · have h := ifT hb2206 h
            refine WC.seq ?_
            refine WC.reg ?_
            refine WL.val (R_move rfl) rfl rfl ?_
            refine WL.val (R_move rfl) rfl rfl ?_
            refine WL.val (R_assign rfl) rfl rfl ?_
            refine WL.val (R_assign rfl) rfl rfl ?_
            refine WL.nil ?_
            refine WQ.thenC ?_
            refine WC.ret ?_
            refine WQ.blockR ?_
            refine WQ.thenR ?_
            refine WQ.thenR ?_
            refine WQ.blockR ?_
            refine WQ.thenR ?_
            obtain ⟨_, hr, rfl⟩ := mapS h
            have h := hr.trans h2157
            have hS0 := hS
            have h := Option.some.inj h
            obtain ⟨rfl, rfl⟩ := Prod.mk.inj h
            exact ret_2 rfl rfl rfl ⟨_, rfl, hS.bel, rfl⟩
          · have h := ifF hb2206 h
            refine WC.skip ?_
            refine WQ.blockN ?_
            refine WQ.thenC ?_
            refine WC.reg ?_
            refine WL.val (R_ar rfl rfl rfl) rfl rfl ?_
            refine WL.val (R_move rfl) rfl rfl ?_
            refine WL.nil ?_
            have hS := hS.pick [1, 2] [1, 2, 3, 4] rfl
            exact WQ.toJ ⟨(IntKind.i64.wrap (y2174 + (1 : Int))), rfl, hS, h⟩ ⟨rfl, rfl, rfl, rfl, rfl, trivial⟩
        · have h := ifF hb2191 h
          refine WC.exit ?_
          refine WQ.thenE ?_
          refine WQ.thenE ?_
          refine WQ.blockE ?_
          have hS := hS.pick [1] [0] rfl
          exact WQ.toJ ⟨Option.some.inj h, rfl, hS⟩ ⟨rfl, trivial⟩
    · rintro _ w ⟨rfl, rfl, hS⟩
      have h := h2157
      try dsimp only at h
      refine WC.seq ?_
      refine WC.seq ?_
      refine WC.reg ?_
      refine WL.val (R_loadA g52 rfl rfl (hS.cells 0 (o := 0) (m := 2) rfl rfl)) rfl rfl ?_
      obtain ⟨⟨r2207, r2208⟩, hr2209, h⟩ := bindS h
      try dsimp only at h
      refine WL.call e77 rfl rfl hS (trees_Shape_ok (hS).mx_lt k p357 (hS.sl 0 rfl) _ _ hr2209) rfl ?_
      intro v w hB hS hP
      obtain ⟨rfl⟩ := hP
      refine WL.val (R_move rfl) rfl rfl ?_
      refine WL.val (R_extract rfl rfl) rfl rfl ?_
      refine WL.val (R_extract rfl rfl) rfl rfl ?_
      refine WL.val (R_assign rfl) rfl rfl ?_
      refine WL.val (R_assign rfl) rfl rfl ?_
      refine WL.nil ?_
      refine WQ.thenC ?_
      refine WC.seq ?_
      refine WC.reg ?_
      refine WL.val (R_move rfl) rfl rfl ?_
      refine WL.val (R_cmp rfl rfl rfl) rfl rfl ?_
      refine WL.nil ?_
      refine WQ.thenC ?_
      refine WC.cond rfl (fun hb2210 => ?_) (fun hb2210 => ?_)
      · have h := ifT hb2210 h
        refine WC.seq ?_
        refine WC.reg ?_
        refine WL.val (R_move rfl) rfl rfl ?_
        refine WL.val (R_assign rfl) rfl rfl ?_
        refine WL.val (R_assign rfl) rfl rfl ?_
        refine WL.nil ?_
        refine WQ.thenC ?_
        refine WC.ret ?_
        refine WQ.thenR ?_
        have hS0 := hS
        have h := Option.some.inj h
        obtain ⟨rfl, rfl⟩ := Prod.mk.inj h
        exact ret_2 rfl rfl rfl ⟨_, rfl, hS.bel, rfl⟩
      · have h := ifF hb2210 h
        refine WC.skip ?_
        refine WQ.thenC ?_
        refine WC.seq ?_
        refine WC.reg ?_
        refine WL.val (R_assign rfl) rfl rfl ?_
        refine WL.val (R_assign rfl) rfl rfl ?_
        refine WL.nil ?_
        refine WQ.thenC ?_
        refine WC.ret ?_
        have hS0 := hS
        have h := Option.some.inj h
        obtain ⟨rfl, rfl⟩ := Prod.mk.inj h
        exact ret_2 rfl rfl rfl ⟨_, rfl, hS.bel, rfl⟩

def limbs_low (p2272 : Int) : Option Int :=
    some (IntKind.u32.wrap (btI .and .u64 p2272 (4294967295 : Int)))

theorem limbs_low_ok {w0 : World} {M : MSet} (hM : ∀ k, M k → k < w0.heap.size) (p2272 : Int) (r : Int) (h : limbs_low p2272 = some r) :
    Calls Tryz.prog 177 #[.int .u64 p2272] w0 (Gives w0 fun v w' => v = .int .u32 r) := by
  have hS := Sta.init hM
  unfold limbs_low at h
  refine calls_enter (n := 0) Tryz.func177 rfl [(0, .int .u64 p2272)] rfl rfl ⟨rfl, trivial⟩ ?_
  refine WC.seq ?_
  refine WC.reg ?_
  refine WL.val (R_assign rfl) rfl rfl ?_
  refine WL.nil ?_
  refine WQ.thenC ?_
  refine WC.seq ?_
  refine WC.reg ?_
  refine WL.val (R_move rfl) rfl rfl ?_
  refine WL.val (R_bt rfl rfl rfl) rfl rfl ?_
  refine WL.val (R_convI ⟨_, u182⟩ u277 rfl) rfl rfl ?_
  refine WL.val (R_assign rfl) rfl rfl ?_
  refine WL.nil ?_
  refine WQ.thenC ?_
  refine WC.ret ?_
  have hS0 := hS
  obtain rfl := Option.some.inj h
  exact ret_1 rfl rfl ⟨_, rfl, hS.bel, rfl⟩

def limbs_high (p2275 : Int) : Option Int :=
    some (shI .shr .u64 p2275 (32 : Int))

theorem limbs_high_ok {w0 : World} {M : MSet} (hM : ∀ k, M k → k < w0.heap.size) (p2275 : Int) (r : Int) (h : limbs_high p2275 = some r) :
    Calls Tryz.prog 178 #[.int .u64 p2275] w0 (Gives w0 fun v w' => v = .int .u64 r) := by
  have hS := Sta.init hM
  unfold limbs_high at h
  refine calls_enter (n := 0) Tryz.func178 rfl [(0, .int .u64 p2275)] rfl rfl ⟨rfl, trivial⟩ ?_
  refine WC.seq ?_
  refine WC.reg ?_
  refine WL.val (R_assign rfl) rfl rfl ?_
  refine WL.nil ?_
  refine WQ.thenC ?_
  refine WC.seq ?_
  refine WC.reg ?_
  refine WL.val (R_move rfl) rfl rfl ?_
  refine WL.val (R_sh rfl rfl rfl (by decide)) rfl rfl ?_
  refine WL.val (R_assign rfl) rfl rfl ?_
  refine WL.nil ?_
  refine WQ.thenC ?_
  refine WC.ret ?_
  have hS0 := hS
  obtain rfl := Option.some.inj h
  exact ret_1 rfl rfl ⟨_, rfl, hS.bel, rfl⟩

def limbs_trim_l0 (k : Nat) (p2279 : List Int) : Nat → Int → Option Int
  | 0, _ => none
  | m + 1, y2368 =>
    if decide ((0 : Int) < y2368) = true then ((rd p2279 (IntKind.i64.wrap (y2368 - (1 : Int)))).bind fun x2380 =>
    if decide (x2380 = (0 : Int)) = true then (limbs_trim_l0 k p2279 m (IntKind.i64.wrap (y2368 - (1 : Int)))) else (some y2368)) else (some y2368)

def limbs_trim (k : Nat) (p2279 : List Int) : Option (List Int) :=
    (limbs_trim_l0 k p2279 k (p2279.length : Int) : Option Int).bind fun y2354 =>
    if (0 : Int) ≤ y2354 ∧ y2354.toNat ≤ p2279.length then (some (p2279.take y2354.toNat)) else none

theorem limbs_trim_ok {w0 : World} {M : MSet} (hM : ∀ k, M k → k < w0.heap.size) (k : Nat) (p2279 : List Int) {A2280 : Option Addr} {c2281 : Nat} (hs2282 : p2279.length ≤ c2281 ∧ Sl (RI .u32) M w0 A2280 p2279) (r : List Int) (h : limbs_trim k p2279 = some r) :
    Calls Tryz.prog 176 #[.slice A2280 p2279.length c2281] w0 (Gives w0 fun v w' => ∃ (A0_0 : Option Addr), ∃ (c0_0 : Nat), v = .slice A0_0 r.length c0_0 ∧ (r.length ≤ c0_0 ∧ Sl (RI .u32) M w' A0_0 r)) := by
  have hS := Sta.init hM
  have hS := hS.arg hs2282
  unfold limbs_trim at h
  refine calls_enter (n := 0) Tryz.func176 rfl [(0, .slice A2280 p2279.length c2281)] rfl rfl ⟨rfl, trivial⟩ ?_
  refine WC.seq ?_
  refine WC.reg ?_
  refine WL.val (R_assign rfl) rfl rfl ?_
  refine WL.nil ?_
  refine WQ.thenC ?_
  refine WC.seq ?_
  refine WC.reg ?_
  refine WL.val (R_move rfl) rfl rfl ?_
  refine WL.val (R_lenS u155 rfl) rfl rfl ?_
  refine WL.val (R_assign rfl) rfl rfl ?_
  refine WL.nil ?_
  refine WQ.thenC ?_
  obtain ⟨o2355, h2356, h2357⟩ := bindS h
  refine WC.seqM (fun env w => ∃ (y2354 : Int), y2354 = o2355 ∧ env = [(0, .slice A2280 p2279.length c2281), (3, .int .i64 y2354)] ∧ Sta w0 M [] [FSl (RI .u32) A2280 c2281 p2279] w) ?_ ?_
  · have h := h2356
    refine WC.block ?_
    have hS := hS.pick [] [0] rfl
    refine WC.loopJ (fun m env w => ∃ (y2368 : Int), env = [(0, .slice A2280 p2279.length c2281), (3, .int .i64 y2368)] ∧ Sta w0 M [] [FSl (RI .u32) A2280 c2281 p2279] w ∧ limbs_trim_l0 k p2279 m y2368 = some o2355) k ⟨(p2279.length : Int), rfl, hS, h⟩ ⟨rfl, rfl, trivial⟩ (fun env w hI => ?_) (fun m env w hI => ?_)
    · obtain ⟨y2368, rfl, hS, h⟩ := hI
      rw [limbs_trim_l0] at h
      cases h
    · obtain ⟨y2368, rfl, hS, h⟩ := hI
      rw [limbs_trim_l0] at h
      refine WC.seq ?_
      refine WC.seq ?_
      refine WC.reg ?_
      refine WL.val (R_move rfl) rfl rfl ?_
      refine WL.val (R_cmp rfl rfl rfl) rfl rfl ?_
      refine WL.val (R_move rfl) rfl rfl ?_
      rcases boolS h with ⟨hb2379, h⟩ | ⟨hb2379, h⟩
      · refine WL.gvalb rfl rfl rfl hb2379 (R_move rfl) rfl rfl ?_
        refine WL.gvalb rfl rfl rfl hb2379 (R_move rfl) rfl rfl ?_
        refine WL.gvalb rfl rfl rfl hb2379 (R_ar rfl rfl rfl) rfl rfl ?_
        obtain ⟨x2380, hx2381, h⟩ := bindS h
        obtain ⟨ad2382, cs2383, hA2384, hq2385, hK2386, hc2387⟩ := hS.sget 0 rfl (rdS hx2381).2.2
        obtain rfl := hK2386
        refine WL.gvalb rfl rfl rfl hb2379 (R_indexAddr u155 z277 rfl rfl hA2384 (rdS hx2381).1 hq2385) rfl rfl ?_
        refine WL.gvalb rfl rfl rfl hb2379 (R_load1 g277 rfl (hc2387 0 _ rfl)) rfl rfl ?_
        refine WL.gvalb rfl rfl rfl hb2379 (R_cmp rfl rfl rfl) rfl rfl ?_
        refine WL.val (R_pickTb rfl hb2379 rfl) rfl rfl ?_
        refine WL.nil ?_
        refine WQ.thenC ?_
        refine WC.cond rfl (fun hb2388 => ?_) (fun hb2388 => ?_)
        · have h := ifT hb2388 h
          refine WC.skip ?_
          refine WQ.thenC ?_
          refine WC.block ?_
          refine WC.reg ?_
          refine WL.val (R_move rfl) rfl rfl ?_
          refine WL.val (R_ar rfl rfl rfl) rfl rfl ?_
          refine WL.val (R_assign rfl) rfl rfl ?_
          refine WL.nil ?_
          refine WQ.blockN ?_
          have hS := hS.pick [] [0] rfl
          exact WQ.toJ ⟨(IntKind.i64.wrap (y2368 - (1 : Int))), rfl, hS, h⟩ ⟨rfl, rfl, trivial⟩
        · have h := ifF hb2388 h
          refine WC.exit ?_
          refine WQ.thenE ?_
          refine WQ.thenE ?_
          refine WQ.blockE ?_
          have hS := hS.pick [] [0] rfl
          exact WQ.toJ ⟨y2368, Option.some.inj h, rfl, hS⟩ ⟨rfl, rfl, trivial⟩
      · refine WL.gskip rfl rfl rfl hb2379 rfl ?_
        refine WL.gskip rfl rfl rfl hb2379 rfl ?_
        refine WL.gskip rfl rfl rfl hb2379 rfl ?_
        refine WL.gskip rfl rfl rfl hb2379 rfl ?_
        refine WL.gskip rfl rfl rfl hb2379 rfl ?_
        refine WL.gskip rfl rfl rfl hb2379 rfl ?_
        refine WL.val (R_pickFb rfl hb2379 rfl) rfl rfl ?_
        refine WL.nil ?_
        refine WQ.thenC ?_
        refine WC.condF rfl ?_
        refine WC.exit ?_
        refine WQ.thenE ?_
        refine WQ.thenE ?_
        refine WQ.blockE ?_
        have hS := hS.pick [] [0] rfl
        exact WQ.toJ ⟨y2368, Option.some.inj h, rfl, hS⟩ ⟨rfl, rfl, trivial⟩
  · rintro _ w ⟨y2354, rfl, rfl, hS⟩
    have h := h2357
    try dsimp only at h
    refine WC.seq ?_
    refine WC.reg ?_
    refine WL.val (R_move rfl) rfl rfl ?_
    refine WL.val (R_move rfl) rfl rfl ?_
    refine WL.val (R_move rfl) rfl rfl ?_
    obtain ⟨hg2389, h⟩ := grdS h
    obtain ⟨A2390, A2390e⟩ : ∃ x, x = A2280 := ⟨_, rfl⟩
    obtain ⟨c2391, c2391e⟩ : ∃ x, x = y2354.toNat := ⟨_, rfl⟩
    have hn2392 : y2354.toNat = (p2279.take y2354.toNat).length := by simp; try omega
    refine WL.val (Runs.cast (v' := .slice A2390 (p2279.take y2354.toNat).length c2391) (R_slice3 u155 z277 rfl rfl rfl hg2389.1 (Nat.le_trans hg2389.2 (hS.sl 0 rfl).1)) (by rw [A2390e, c2391e, ← hn2392])) rfl rfl ?_
    have hS := (hS.subMax 0 rfl y2354.toNat hg2389.2).addF (FSl (RI .u32) A2390 c2391 (p2279.take y2354.toNat)) (by rw [A2390e, c2391e]; exact (hS.subMax 0 rfl y2354.toNat hg2389.2).sl 0 rfl)
    have hS := hS.pick [] [0, 2] rfl
    refine WL.val (R_assign rfl) rfl rfl ?_
    refine WL.nil ?_
    refine WQ.thenC ?_
    refine WC.ret ?_
    have hS0 := hS
    obtain rfl := Option.some.inj h
    exact ret_1 rfl rfl ⟨_, rfl, hS.bel, ⟨A2390, c2391, rfl, hS.out 0 rfl⟩⟩

def limbs_From (k : Nat) (p2271 : Int) : Option (List Int) :=
    (limbs_low p2271).bind fun r2398 =>
    (limbs_high p2271).bind fun r2400 =>
    (limbs_trim k ([r2398, (IntKind.u32.wrap r2400)])).bind fun r2403 =>
    some r2403

theorem limbs_From_ok {w0 : World} {M : MSet} (hM : ∀ k, M k → k < w0.heap.size) (k : Nat) (p2271 : Int) (r : List Int) (h : limbs_From k p2271 = some r) :
    Calls Tryz.prog 125 #[.int .u64 p2271] w0 (Gives w0 fun v w' => ∃ (A0_0 : Option Addr), ∃ (c0_0 : Nat), v = .slice A0_0 r.length c0_0 ∧ (r.length ≤ c0_0 ∧ Sl (RI .u32) M w' A0_0 r)) := by
  have hS := Sta.init hM
  unfold limbs_From at h
  refine calls_enter (n := 0) Tryz.func125 rfl [(0, .int .u64 p2271)] rfl rfl ⟨rfl, trivial⟩ ?_
  refine WC.seq ?_
  refine WC.reg ?_
  refine WL.val (R_assign rfl) rfl rfl ?_
  refine WL.nil ?_
  refine WQ.thenC ?_
  refine WC.seq ?_
  refine WC.reg ?_
  refine WL.val (R_move rfl) rfl rfl ?_
  obtain ⟨r2398, hr2399, h⟩ := bindS h
  refine WL.call e177 rfl rfl hS (limbs_low_ok (hS).mx_lt p2271  _ hr2399) rfl ?_
  intro v w hB hS hP
  obtain ⟨rfl⟩ := hP
  refine WL.val (R_move rfl) rfl rfl ?_
  obtain ⟨r2400, hr2401, h⟩ := bindS h
  refine WL.call e178 rfl rfl hS (limbs_high_ok (hS).mx_lt p2271  _ hr2401) rfl ?_
  intro v w hB hS hP
  obtain ⟨rfl⟩ := hP
  refine WL.val (R_convI ⟨_, u182⟩ u277 rfl) rfl rfl ?_
  refine WL.lit [.int .u32 r2398, .int .u32 (IntKind.u32.wrap r2400)] u155 rfl (by kernel_rfl) hS rfl ?_
  intro b2402 w hS
  have hS := hS.litRow (R := (RI .u32)) 0 rfl [r2398, (IntKind.u32.wrap r2400)] 2 rfl (by decide) (fun M2 hs2 => ⟨[_], _, rfl, rfl, ⟨[_], _, rfl, rfl, rfl⟩⟩)
  have hS := hS.freeze 0 rfl
  obtain ⟨r2403, hr2404, h⟩ := bindS h
  refine WL.call e176 rfl rfl hS (limbs_trim_ok (hS).mx_lt k ([r2398, (IntKind.u32.wrap r2400)]) (hS.sl 0 rfl) _ hr2404) rfl ?_
  intro v w hB hS hP
  obtain ⟨A2405, c2406, rfl, ho2407⟩ := hP
  have hS := hS.addF (FSl (RI .u32) A2405 c2406 r2403) ho2407
  refine WL.val (R_assign rfl) rfl rfl ?_
  refine WL.nil ?_
  refine WQ.thenC ?_
  refine WC.ret ?_
  have hS0 := hS
  obtain rfl := Option.some.inj h
  exact ret_1 rfl rfl ⟨_, rfl, hS.bel, ⟨A2405, c2406, rfl, hS.out 0 rfl⟩⟩

def rules_amount (p2433 : Int) : Option Int :=
    if decide (p2433 < (0 : Int)) = true then (some (IntKind.u64.wrap (-(IntKind.u64.wrap p2433)))) else (some (IntKind.u64.wrap p2433))

theorem rules_amount_ok {w0 : World} {M : MSet} (hM : ∀ k, M k → k < w0.heap.size) (p2433 : Int) (r : Int) (h : rules_amount p2433 = some r) :
    Calls Tryz.prog 179 #[.int .i64 p2433] w0 (Gives w0 fun v w' => v = .int .u64 r) := by
  have hS := Sta.init hM
  unfold rules_amount at h
  refine calls_enter (n := 0) Tryz.func179 rfl [(0, .int .i64 p2433)] rfl rfl ⟨rfl, trivial⟩ ?_
  refine WC.seq ?_
  refine WC.reg ?_
  refine WL.val (R_assign rfl) rfl rfl ?_
  refine WL.nil ?_
  refine WQ.thenC ?_
  refine WC.seq ?_
  refine WC.seq ?_
  refine WC.reg ?_
  refine WL.val (R_move rfl) rfl rfl ?_
  refine WL.val (R_cmp rfl rfl rfl) rfl rfl ?_
  refine WL.nil ?_
  refine WQ.thenC ?_
  refine WC.cond rfl (fun hb2435 => ?_) (fun hb2435 => ?_)
  · have h := ifT hb2435 h
    refine WC.seq ?_
    refine WC.reg ?_
    refine WL.val (R_move rfl) rfl rfl ?_
    refine WL.val (R_convI ⟨_, u2⟩ u182 rfl) rfl rfl ?_
    refine WL.val (R_neg rfl) rfl rfl ?_
    refine WL.val (R_assign rfl) rfl rfl ?_
    refine WL.nil ?_
    refine WQ.thenC ?_
    refine WC.ret ?_
    refine WQ.thenR ?_
    have hS0 := hS
    obtain rfl := Option.some.inj h
    exact ret_1 rfl rfl ⟨_, rfl, hS.bel, rfl⟩
  · have h := ifF hb2435 h
    refine WC.skip ?_
    refine WQ.thenC ?_
    refine WC.seq ?_
    refine WC.reg ?_
    refine WL.val (R_move rfl) rfl rfl ?_
    refine WL.val (R_convI ⟨_, u2⟩ u182 rfl) rfl rfl ?_
    refine WL.val (R_assign rfl) rfl rfl ?_
    refine WL.nil ?_
    refine WQ.thenC ?_
    refine WC.ret ?_
    have hS0 := hS
    obtain rfl := Option.some.inj h
    exact ret_1 rfl rfl ⟨_, rfl, hS.bel, rfl⟩

def rules_Largest_l0 (k : Nat) (p2555 : Tree) : Nat → Int → Int → Option Int
  | 0, _, _ => none
  | m + 1, y2687, y2688 =>
    if decide (y2688 < (p2555.nodes.length : Int)) = true then ((rd p2555.nodes y2688).bind fun x2706 =>
    if decide (x2706.kind = (1 : Int)) = true then ((rules_amount x2706.value).bind fun r2719 =>
    rules_Largest_l0 k p2555 m (if y2687 < r2719 then r2719 else y2687) (IntKind.i64.wrap (y2688 + (1 : Int)))) else (rules_Largest_l0 k p2555 m y2687 (IntKind.i64.wrap (y2688 + (1 : Int))))) else (some y2687)

def rules_Largest (k : Nat) (p2555 : Tree) : Option Int :=
    (rules_Largest_l0 k p2555 k (0 : Int) (0 : Int) : Option Int).bind fun y2667 =>
    some y2667

theorem rules_Largest_ok {w0 : World} {M : MSet} (hM : ∀ k, M k → k < w0.heap.size) (k : Nat) (p2555 : Tree) {A2556 : Option Addr} {c2557 : Nat} (hs2558 : p2555.nodes.length ≤ c2557 ∧ Sl RNode M w0 A2556 p2555.nodes) (r : Int) (h : rules_Largest k p2555 = some r) :
    Calls Tryz.prog 181 #[.agg #[.int .i64 p2555.output, .slice A2556 p2555.nodes.length c2557]] w0 (Gives w0 fun v w' => v = .int .u64 r) := by
  have hS := Sta.init hM
  have hS := hS.arg hs2558
  unfold rules_Largest at h
  refine calls_enter (n := 0) Tryz.func181 rfl [(0, .agg #[.int .i64 p2555.output, .slice A2556 p2555.nodes.length c2557])] rfl rfl ⟨rfl, trivial⟩ ?_
  refine WC.seq ?_
  refine WC.reg ?_
  refine WL.box [.int .i64 p2555.output, .slice A2556 p2555.nodes.length c2557] rfl rfl hS rfl ?_
  intro b2632 w hS
  refine WL.val (R_assign rfl) rfl rfl ?_
  refine WL.nil ?_
  refine WQ.thenC ?_
  refine WC.seq ?_
  refine WC.reg ?_
  refine WL.val (R_assign rfl) rfl rfl ?_
  refine WL.nil ?_
  refine WQ.thenC ?_
  obtain ⟨o2668, h2669, h2670⟩ := bindS h
  refine WC.seqM (fun env w => ∃ (y2667 : Int), y2667 = o2668 ∧ env = [(3, .int .u64 y2667)] ∧ Sta w0 M [] [] w) ?_ ?_
  · have h := h2669
    refine WC.seq ?_
    refine WC.reg ?_
    refine WL.val (R_fieldB o52_1 rfl) rfl rfl ?_
    refine WL.val (R_load1 g50 rfl (hS.cell 0 rfl rfl)) rfl rfl ?_
    refine WL.val (R_lenS u50 rfl) rfl rfl ?_
    refine WL.val (R_move rfl) rfl rfl ?_
    refine WL.nil ?_
    refine WQ.thenC ?_
    refine WC.block ?_
    have hS := hS.pick [] [0] rfl
    refine WC.loopJ (fun m env w => ∃ (y2687 : Int), ∃ (y2688 : Int), env = [(3, .int .u64 y2687), (7, .slice A2556 p2555.nodes.length c2557), (8, .int .i64 (p2555.nodes.length : Int)), (9, .int .i64 y2688)] ∧ Sta w0 M [] [FSl RNode A2556 c2557 p2555.nodes] w ∧ rules_Largest_l0 k p2555 m y2687 y2688 = some o2668) k ⟨(0 : Int), (0 : Int), rfl, hS, h⟩ ⟨rfl, rfl, rfl, rfl, trivial⟩ (fun env w hI => ?_) (fun m env w hI => ?_)
    · obtain ⟨y2687, y2688, rfl, hS, h⟩ := hI
      rw [rules_Largest_l0] at h
      cases h
    · obtain ⟨y2687, y2688, rfl, hS, h⟩ := hI
      rw [rules_Largest_l0] at h
      refine WC.seq ?_
      refine WC.reg ?_
      refine WL.val (R_cmp rfl rfl rfl) rfl rfl ?_
      refine WL.nil ?_
      refine WQ.thenC ?_
      refine WC.seq ?_
      refine WC.cond rfl (fun hb2705 => ?_) (fun hb2705 => ?_)
      · have h := ifT hb2705 h
        refine WC.skip ?_
        refine WQ.thenC ?_
        refine WC.seq ?_
        refine WC.block ?_
        refine WC.seq ?_
        refine WC.reg ?_
        obtain ⟨x2706, hx2707, h⟩ := bindS h
        obtain ⟨ad2708, cs2709, hA2710, hq2711, hK2712, hc2713⟩ := hS.sget 0 rfl (rdS hx2707).2.2
        obtain ⟨A2714, c2715, rfl, hs2716⟩ := hK2712
        have hS := hS.addF (FSl (RI .i64) A2714 c2715 x2706.cats) hs2716
        refine WL.val (R_indexAddr u50 z58 rfl rfl hA2710 (rdS hx2707).1 hq2711) rfl rfl ?_
        refine WL.val (R_loadA g58 rfl rfl hc2713) rfl rfl ?_
        refine WL.alloc _ z58 rfl hS rfl ?_
        intro b2717 w hS
        refine WL.storeB 0 [.int .u8 x2706.kind, .int .i64 x2706.value, .int .i64 x2706.feature, .float .f64 x2706.threshold, .slice A2714 x2706.cats.length c2715, .int .u8 x2706.missing, .int .i64 x2706.left, .int .i64 x2706.right] g58 hS rfl rfl rfl rfl rfl rfl rfl [.int .u8 x2706.kind, .int .i64 x2706.value, .int .i64 x2706.feature, .float .f64 x2706.threshold, .slice A2714 x2706.cats.length c2715, .int .u8 x2706.missing, .int .i64 x2706.left, .int .i64 x2706.right] rfl ?_
        intro w hS
        refine WL.nil ?_
        refine WQ.thenC ?_
        refine WC.seq ?_
        refine WC.reg ?_
        refine WL.val (R_fieldB o58_0 rfl) rfl rfl ?_
        refine WL.val (R_load1 g53 rfl (hS.cell 0 rfl rfl)) rfl rfl ?_
        refine WL.val (R_cmp rfl rfl rfl) rfl rfl ?_
        refine WL.nil ?_
        refine WQ.thenC ?_
        refine WC.cond rfl (fun hb2718 => ?_) (fun hb2718 => ?_)
        · have h := ifT hb2718 h
          refine WC.reg ?_
          refine WL.val (R_move rfl) rfl rfl ?_
          refine WL.val (R_fieldB o58_1 rfl) rfl rfl ?_
          refine WL.val (R_load1 g2 rfl (hS.cell 0 rfl rfl)) rfl rfl ?_
          obtain ⟨r2719, hr2720, h⟩ := bindS h
          refine WL.call e179 rfl rfl hS (rules_amount_ok (hS).mx_lt x2706.value  _ hr2720) rfl ?_
          intro v w hB hS hP
          obtain ⟨rfl⟩ := hP
          refine WL.val (R_max rfl rfl) rfl rfl ?_
          refine WL.val (R_assign rfl) rfl rfl ?_
          refine WL.nil ?_
          refine WQ.blockN ?_
          refine WQ.thenC ?_
          refine WC.reg ?_
          refine WL.val (R_ar rfl rfl rfl) rfl rfl ?_
          refine WL.val (R_move rfl) rfl rfl ?_
          refine WL.nil ?_
          have hS := hS.pick [] [1] rfl
          exact WQ.toJ ⟨(if y2687 < r2719 then r2719 else y2687), (IntKind.i64.wrap (y2688 + (1 : Int))), rfl, hS, h⟩ ⟨rfl, rfl, rfl, rfl, trivial⟩
        · have h := ifF hb2718 h
          refine WC.skip ?_
          refine WQ.blockN ?_
          refine WQ.thenC ?_
          refine WC.reg ?_
          refine WL.val (R_ar rfl rfl rfl) rfl rfl ?_
          refine WL.val (R_move rfl) rfl rfl ?_
          refine WL.nil ?_
          have hS := hS.pick [] [1] rfl
          exact WQ.toJ ⟨y2687, (IntKind.i64.wrap (y2688 + (1 : Int))), rfl, hS, h⟩ ⟨rfl, rfl, rfl, rfl, trivial⟩
      · have h := ifF hb2705 h
        refine WC.exit ?_
        refine WQ.thenE ?_
        refine WQ.thenE ?_
        refine WQ.blockE ?_
        have hS := hS.pick [] [] rfl
        exact WQ.toJ ⟨y2687, Option.some.inj h, rfl, hS⟩ ⟨rfl, trivial⟩
  · rintro _ w ⟨y2667, rfl, rfl, hS⟩
    have h := h2670
    try dsimp only at h
    refine WC.seq ?_
    refine WC.reg ?_
    refine WL.val (R_move rfl) rfl rfl ?_
    refine WL.val (R_assign rfl) rfl rfl ?_
    refine WL.nil ?_
    refine WQ.thenC ?_
    refine WC.ret ?_
    have hS0 := hS
    obtain rfl := Option.some.inj h
    exact ret_1 rfl rfl ⟨_, rfl, hS.bel, rfl⟩

def limbs_Add_l0 (k : Nat) (y2937 : List Int) (y2940 : List Int) : Nat → (List Int) → Int → Int → Option ((List Int) × Int)
  | 0, _, _, _ => none
  | m + 1, y3081, y3082, y3083 =>
    if decide (y3083 < (y2937.length : Int)) = true then ((rd y2937 y3083).bind fun x3124 =>
    (if decide (y3083 < (y2940.length : Int)) = true then ((rd y2940 y3083).bind fun x3146 =>
    some (IntKind.u64.wrap ((IntKind.u64.wrap (y3082 + (IntKind.u64.wrap x3124))) + (IntKind.u64.wrap x3146)))) else (some (IntKind.u64.wrap (y3082 + (IntKind.u64.wrap x3124)))) : Option Int).bind fun y3141 =>
    (limbs_low y3141).bind fun r3154 =>
    if (y3081.length + 1) * 4 ≤ 140737488355328 then ((limbs_high y3141).bind fun r3160 =>
    limbs_Add_l0 k y2937 y2940 m (y3081 ++ [r3154]) r3160 (IntKind.i64.wrap (y3083 + (1 : Int)))) else none) else (some (y3081, y3082))

def limbs_Add (k : Nat) (p2728 : List Int) (p2732 : List Int) : Option (List Int) :=
    (if decide ((p2728.length : Int) < (p2732.length : Int)) = true then (some (p2732, p2728)) else (some (p2728, p2732)) : Option ((List Int) × (List Int))).bind fun ⟨y2937, y2940⟩ =>
    if (0 : Int) ≤ (0 : Int) ∧ (0 : Int) ≤ (IntKind.i64.wrap ((y2937.length : Int) + (1 : Int))) ∧ (IntKind.i64.wrap ((y2937.length : Int) + (1 : Int))).toNat * 4 ≤ 281474976710656 then ((limbs_Add_l0 k y2937 y2940 k (List.replicate (0 : Int).toNat (0 : Int)) (0 : Int) (0 : Int) : Option ((List Int) × Int)).bind fun ⟨y3034, y3035⟩ =>
    if (y3034.length + 1) * 4 ≤ 140737488355328 then ((limbs_trim k (y3034 ++ [(IntKind.u32.wrap y3035)])).bind fun r3166 =>
    some r3166) else none) else none

end TK
