/- Proved: the program's TeaWrite returns the text that the reference's returns, for every list of events: FnExactTeaWrite answers true and leaves its argument as it was (the tied card). Conditions: those of the given row, with the listed package-level variables as the program's text lays them; none is added. -/
import Derived.Test.YtkablfpnjfbhfaaGreatDoorProg
import Derived.Test.YtkablfpnjfbhfaaGreatDoorX10
import Derived.Test.YtkablfpnjfbhfaaGreatDoorX7
import Derived.Test.YtkablfpnjfbhfaaGreatDoorX8
import Derived.Test.YtkablfpnjfbhfaaGreatDoorX9
import Derived.KernelRfl
import Derived.Test.YtkablfpnjfbhfaaGreatDoorX16
import Derived.Test.YtkablfpnjfbhfaaGreatDoorX18
import Derived.Test.YtkablfpnjfbhfaaGreatDoorX15
import Derived.Shelf.Strings.Search3
import Derived.Shelf.Strings.IndexAnyAll
import Derived.Shelf.Strconv.Itoa3
import Derived.Shelf.Strings.Builder1
import Derived.Shelf.Strings.OnBuilder
import Derived.Test.YtkablfpnjfbhfaaGreatDoorX6
import Derived.Test.YtkablfpnjfbhfaaGreatDoorCards
import Derived.Test.YtkablfpnjfbhfaaGreatDoorTie
import Derived.WalkKit
import Derived.ProofKit
import Derived.OpenShut
import Derived.Deep.DeepHandedRow
import Derived.LaidLaws
namespace Go.Ab
open Go
def fnTab : List Nat := [3, 3, 2, 3, 3, 3, 4, 5, 6, 7, 8, 3, 3, 3, 3, 3, 3, 3, 3, 3, 3, 9, 10, 11, 12, 13, 14, 15, 16, 17, 18, 3, 3, 3, 3, 3, 3, 3, 3, 3, 3, 3, 3, 3, 3, 3, 3, 3, 3, 3, 3, 3, 3, 3, 3, 3, 3, 3, 3, 3, 19, 20, 21, 22, 23, 24, 25, 26, 27, 28, 29, 30, 31, 32, 33, 34, 35, 36, 37, 38, 39, 40, 41, 42, 43, 44, 45, 46, 47, 48, 49, 50, 51, 52, 53, 54, 55, 56, 57, 58, 59, 60, 61, 62, 63, 64, 65, 66, 67, 68, 69, 3, 3, 3, 3, 3, 3, 3, 3, 3, 3, 3, 3, 171, 3, 3, 3, 154, 3, 3, 3, 3, 3, 3, 3, 3, 3, 3, 158, 3, 3, 3, 3, 70, 71, 72, 73, 74, 75, 76, 77, 78, 79, 80, 81, 82, 83, 84, 85, 86, 87, 88, 89, 90, 91, 92, 93, 94, 95, 96, 97, 98, 99, 3, 101, 102, 103, 104, 105, 106, 107, 108, 109, 110, 111, 112, 3, 3, 3, 3, 182, 181, 3, 3, 3, 3, 174, 3, 3, 3, 3, 3, 3, 3, 3, 167, 3, 3, 3, 3, 3, 3, 3, 3, 3, 3, 3, 3, 3, 3, 172, 173, 3, 3, 126, 3, 3, 3, 3, 3, 3, 3, 3, 3, 113, 114, 115, 116, 117, 118, 119, 120, 121, 122, 123, 124, 125, 127, 128, 129, 130, 131, 132, 133, 134, 135, 136, 137, 3, 180, 3, 3, 3, 3, 3, 189, 3, 3, 3, 207, 3, 3, 3, 166, 3, 151, 3, 152, 3, 140, 3, 3, 3, 3, 3, 3, 3, 3, 185, 186, 187, 188, 3, 3, 3, 3, 3, 3, 3, 3, 3, 3, 3, 3, 3, 3, 3, 3, 3, 3, 3, 138, 139, 141, 142, 143, 144, 145, 146, 147, 148, 3, 194, 3, 196, 197, 3, 3, 193, 3, 153, 3, 3, 3, 192, 3, 3, 3, 199, 3, 3, 3, 3, 3, 3, 3, 3, 3, 3, 3, 3, 3, 3, 3, 3, 3, 3, 3, 3, 3, 3, 3, 149, 150, 155, 156, 157, 159, 160, 161, 162, 163, 164, 3, 3, 201, 3, 3, 3, 3, 3, 3, 3, 198, 3, 3, 170, 3, 3, 3, 203, 204, 205, 206, 3, 3, 3, 3, 3, 3, 3, 168, 169, 175, 176, 177, 178, 179, 3, 3, 3, 3, 3, 202, 183, 184, 3, 3, 3, 3, 208, 3, 3, 190, 191, 3, 3, 3, 3, 3, 3, 3, 3, 3, 3, 3, 3, 3, 3, 3, 3, 3, 3, 3, 3, 3, 3, 3, 3, 3, 3, 3, 3, 3, 3, 3, 3, 3, 3, 3, 3, 3, 3, 3, 3, 3, 3, 3, 3, 3, 3, 3, 3, 3, 3, 3, 3, 3, 3, 3, 3, 3, 3, 3, 3, 3, 3, 3, 3, 3, 3, 238]
def gnTab : List Nat := [0, 1, 3, 0, 0, 2, 0, 0, 4, 5]
def tnTab : List Nat := [9, 256, 0, 0, 0, 75]
noncomputable def seat (gl : Nat → List DV) : Lk := { P := Go.Proofs.Tryz.prog, fn := fun i => if Nat.ble 492 i then 3 else ixN fnTab i, gn := ixN gnTab, gl := gl, tn := ixN tnTab, u8 := 5 }
end Go.Ab
namespace Go.Ab
open Go
theorem fn_all : ((List.range 492).all fun i => callOkB Go.Proofs.Tryz.prog (ixN fnTab i)) = true := by kernel_rfl
theorem fn_ok (gl : Nat → List DV) (f : Nat) : CallOk (seat gl) f := by
  refine callOkB_eq ?_
  show callOkB Go.Proofs.Tryz.prog (if Nat.ble 492 f then 3 else ixN fnTab f) = true
  split
  · have := List.all_eq_true.1 fn_all 3 (List.mem_range.2 (by omega))
    exact this
  · rename_i h
    exact List.all_eq_true.1 fn_all f (List.mem_range.2 (by
      rcases Nat.lt_or_ge f 492 with h1 | h1
      · exact h1
      · exact absurd (Nat.ble_eq_true_of_le h1) h))
theorem mixed (gl : Nat → List DV) : (seat gl).P.follows .mixedOrders = true := rfl
end Go.Ab
namespace Go.Ab
open Go
theorem f_3 (gl : Nat → List DV) : FnR (seat gl) 3 c3 := yQ (fn_ok gl) (mixed gl) (by kernel_rfl)
theorem f_9 (gl : Nat → List DV) : FnR (seat gl) 9 c9 := yQ (fn_ok gl) (mixed gl) (by kernel_rfl)
theorem f_23 (gl : Nat → List DV) : FnR (seat gl) 23 c23 := yQ (fn_ok gl) (mixed gl) (by kernel_rfl)
theorem f_27 (gl : Nat → List DV) : FnR (seat gl) 27 c27 := yQ (fn_ok gl) (mixed gl) (by kernel_rfl)
theorem f_60 (gl : Nat → List DV) : FnR (seat gl) 60 c60 := yQ (fn_ok gl) (mixed gl) (by kernel_rfl)
theorem f_64 (gl : Nat → List DV) : FnR (seat gl) 64 c64 := yQ (fn_ok gl) (mixed gl) (by kernel_rfl)
theorem f_68 (gl : Nat → List DV) : FnR (seat gl) 68 c68 := yQ (fn_ok gl) (mixed gl) (by kernel_rfl)
theorem f_72 (gl : Nat → List DV) : FnR (seat gl) 72 c72 := yQ (fn_ok gl) (mixed gl) (by kernel_rfl)
theorem f_76 (gl : Nat → List DV) : FnR (seat gl) 76 c76 := yQ (fn_ok gl) (mixed gl) (by kernel_rfl)
theorem f_80 (gl : Nat → List DV) : FnR (seat gl) 80 c80 := yQ (fn_ok gl) (mixed gl) (by kernel_rfl)
theorem f_84 (gl : Nat → List DV) : FnR (seat gl) 84 c84 := yQ (fn_ok gl) (mixed gl) (by kernel_rfl)
theorem f_88 (gl : Nat → List DV) : FnR (seat gl) 88 c88 := yQ (fn_ok gl) (mixed gl) (by kernel_rfl)
theorem f_92 (gl : Nat → List DV) : FnR (seat gl) 92 c92 := yQ (fn_ok gl) (mixed gl) (by kernel_rfl)
theorem f_96 (gl : Nat → List DV) : FnR (seat gl) 96 c96 := yQ (fn_ok gl) (mixed gl) (by kernel_rfl)
theorem f_101 (gl : Nat → List DV) : FnR (seat gl) 101 c101 := yQ (fn_ok gl) (mixed gl) (by kernel_rfl)
theorem f_105 (gl : Nat → List DV) : FnR (seat gl) 105 c105 := yQ (fn_ok gl) (mixed gl) (by kernel_rfl)
theorem f_109 (gl : Nat → List DV) : FnR (seat gl) 109 c109 := yQ (fn_ok gl) (mixed gl) (by kernel_rfl)
theorem f_138 (gl : Nat → List DV) : FnR (seat gl) 138 c138 := yQ (fn_ok gl) (mixed gl) (by kernel_rfl)
theorem f_146 (gl : Nat → List DV) : FnR (seat gl) 146 c146 := yQ (fn_ok gl) (mixed gl) (by kernel_rfl)
theorem f_150 (gl : Nat → List DV) : FnR (seat gl) 150 c150 := yQ (fn_ok gl) (mixed gl) (by kernel_rfl)
theorem f_154 (gl : Nat → List DV) : FnR (seat gl) 154 c154 := yQ (fn_ok gl) (mixed gl) (by kernel_rfl)
theorem f_158 (gl : Nat → List DV) : FnR (seat gl) 158 c158 := yQ (fn_ok gl) (mixed gl) (by kernel_rfl)
theorem f_162 (gl : Nat → List DV) : FnR (seat gl) 162 c162 := yQ (fn_ok gl) (mixed gl) (by kernel_rfl)
theorem f_166 (gl : Nat → List DV) : FnR (seat gl) 166 c166 := yQ (fn_ok gl) (mixed gl) (by kernel_rfl)
theorem f_170 (gl : Nat → List DV) : FnR (seat gl) 170 c170 := yQ (fn_ok gl) (mixed gl) (by kernel_rfl)
theorem f_176 (gl : Nat → List DV) : FnR (seat gl) 176 c176 := yQ (fn_ok gl) (mixed gl) (by kernel_rfl)
theorem f_181 (gl : Nat → List DV) : FnR (seat gl) 181 c181 := yQ (fn_ok gl) (mixed gl) (by kernel_rfl)
theorem f_185 (gl : Nat → List DV) : FnR (seat gl) 185 c185 := yQ (fn_ok gl) (mixed gl) (by kernel_rfl)
theorem f_220 (gl : Nat → List DV) : FnR (seat gl) 220 c220 := yQ (fn_ok gl) (mixed gl) (by kernel_rfl)
theorem f_235 (gl : Nat → List DV) : FnR (seat gl) 235 c235 := yQ (fn_ok gl) (mixed gl) (by kernel_rfl)
theorem f_239 (gl : Nat → List DV) : FnR (seat gl) 239 c239 := yQ (fn_ok gl) (mixed gl) (by kernel_rfl)
theorem f_243 (gl : Nat → List DV) : FnR (seat gl) 243 c243 := yQ (fn_ok gl) (mixed gl) (by kernel_rfl)
theorem f_247 (gl : Nat → List DV) : FnR (seat gl) 247 c247 := yQ (fn_ok gl) (mixed gl) (by kernel_rfl)
theorem f_253 (gl : Nat → List DV) : FnR (seat gl) 253 c253 := yQ (fn_ok gl) (mixed gl) (by kernel_rfl)
theorem f_257 (gl : Nat → List DV) : FnR (seat gl) 257 c257 := yQ (fn_ok gl) (mixed gl) (by kernel_rfl)
theorem f_277 (gl : Nat → List DV) : FnR (seat gl) 277 c277 := yQ (fn_ok gl) (mixed gl) (by kernel_rfl)
theorem f_290 (gl : Nat → List DV) : FnR (seat gl) 290 c290 := yQ (fn_ok gl) (mixed gl) (by kernel_rfl)
theorem f_313 (gl : Nat → List DV) : FnR (seat gl) 313 c313 := yQ (fn_ok gl) (mixed gl) (by kernel_rfl)
theorem f_317 (gl : Nat → List DV) : FnR (seat gl) 317 c317 := yQ (fn_ok gl) (mixed gl) (by kernel_rfl)
theorem f_334 (gl : Nat → List DV) : FnR (seat gl) 334 c334 := yQ (fn_ok gl) (mixed gl) (by kernel_rfl)
theorem f_365 (gl : Nat → List DV) : FnR (seat gl) 365 c365 := yQ (fn_ok gl) (mixed gl) (by kernel_rfl)
theorem f_386 (gl : Nat → List DV) : FnR (seat gl) 386 c386 := yQ (fn_ok gl) (mixed gl) (by kernel_rfl)
theorem f_414 (gl : Nat → List DV) : FnR (seat gl) 414 c414 := yQ (fn_ok gl) (mixed gl) (by kernel_rfl)
end Go.Ab
namespace Go.Ab
open Go
theorem f_6 (gl : Nat → List DV) : FnR (seat gl) 6 c6 := yQ (fn_ok gl) (mixed gl) (by kernel_rfl)
theorem f_10 (gl : Nat → List DV) : FnR (seat gl) 10 c10 := yQ (fn_ok gl) (mixed gl) (by kernel_rfl)
theorem f_24 (gl : Nat → List DV) : FnR (seat gl) 24 c24 := yQ (fn_ok gl) (mixed gl) (by kernel_rfl)
theorem f_28 (gl : Nat → List DV) : FnR (seat gl) 28 c28 := yQ (fn_ok gl) (mixed gl) (by kernel_rfl)
theorem f_61 (gl : Nat → List DV) : FnR (seat gl) 61 c61 := yQ (fn_ok gl) (mixed gl) (by kernel_rfl)
theorem f_65 (gl : Nat → List DV) : FnR (seat gl) 65 c65 := yQ (fn_ok gl) (mixed gl) (by kernel_rfl)
theorem f_69 (gl : Nat → List DV) : FnR (seat gl) 69 c69 := yQ (fn_ok gl) (mixed gl) (by kernel_rfl)
theorem f_73 (gl : Nat → List DV) : FnR (seat gl) 73 c73 := yQ (fn_ok gl) (mixed gl) (by kernel_rfl)
theorem f_77 (gl : Nat → List DV) : FnR (seat gl) 77 c77 := yQ (fn_ok gl) (mixed gl) (by kernel_rfl)
theorem f_81 (gl : Nat → List DV) : FnR (seat gl) 81 c81 := yQ (fn_ok gl) (mixed gl) (by kernel_rfl)
theorem f_85 (gl : Nat → List DV) : FnR (seat gl) 85 c85 := yQ (fn_ok gl) (mixed gl) (by kernel_rfl)
theorem f_89 (gl : Nat → List DV) : FnR (seat gl) 89 c89 := yQ (fn_ok gl) (mixed gl) (by kernel_rfl)
theorem f_93 (gl : Nat → List DV) : FnR (seat gl) 93 c93 := yQ (fn_ok gl) (mixed gl) (by kernel_rfl)
theorem f_97 (gl : Nat → List DV) : FnR (seat gl) 97 c97 := yQ (fn_ok gl) (mixed gl) (by kernel_rfl)
theorem f_102 (gl : Nat → List DV) : FnR (seat gl) 102 c102 := yQ (fn_ok gl) (mixed gl) (by kernel_rfl)
theorem f_106 (gl : Nat → List DV) : FnR (seat gl) 106 c106 := yQ (fn_ok gl) (mixed gl) (by kernel_rfl)
theorem f_110 (gl : Nat → List DV) : FnR (seat gl) 110 c110 := yQ (fn_ok gl) (mixed gl) (by kernel_rfl)
theorem f_143 (gl : Nat → List DV) : FnR (seat gl) 143 c143 := yQ (fn_ok gl) (mixed gl) (by kernel_rfl)
theorem f_147 (gl : Nat → List DV) : FnR (seat gl) 147 c147 := yQ (fn_ok gl) (mixed gl) (by kernel_rfl)
theorem f_151 (gl : Nat → List DV) : FnR (seat gl) 151 c151 := yQ (fn_ok gl) (mixed gl) (by kernel_rfl)
theorem f_155 (gl : Nat → List DV) : FnR (seat gl) 155 c155 := yQ (fn_ok gl) (mixed gl) (by kernel_rfl)
theorem f_159 (gl : Nat → List DV) : FnR (seat gl) 159 c159 := yQ (fn_ok gl) (mixed gl) (by kernel_rfl)
theorem f_163 (gl : Nat → List DV) : FnR (seat gl) 163 c163 := yQ (fn_ok gl) (mixed gl) (by kernel_rfl)
theorem f_167 (gl : Nat → List DV) : FnR (seat gl) 167 c167 := yQ (fn_ok gl) (mixed gl) (by kernel_rfl)
theorem f_171 (gl : Nat → List DV) : FnR (seat gl) 171 c171 := yQ (fn_ok gl) (mixed gl) (by kernel_rfl)
theorem f_178 (gl : Nat → List DV) : FnR (seat gl) 178 c178 := yQ (fn_ok gl) (mixed gl) (by kernel_rfl)
theorem f_182 (gl : Nat → List DV) : FnR (seat gl) 182 c182 := yQ (fn_ok gl) (mixed gl) (by kernel_rfl)
theorem f_190 (gl : Nat → List DV) : FnR (seat gl) 190 c190 := yQ (fn_ok gl) (mixed gl) (by kernel_rfl)
theorem f_221 (gl : Nat → List DV) : FnR (seat gl) 221 c221 := yQ (fn_ok gl) (mixed gl) (by kernel_rfl)
theorem f_236 (gl : Nat → List DV) : FnR (seat gl) 236 c236 := yQ (fn_ok gl) (mixed gl) (by kernel_rfl)
theorem f_240 (gl : Nat → List DV) : FnR (seat gl) 240 c240 := yQ (fn_ok gl) (mixed gl) (by kernel_rfl)
theorem f_244 (gl : Nat → List DV) : FnR (seat gl) 244 c244 := yQ (fn_ok gl) (mixed gl) (by kernel_rfl)
theorem f_249 (gl : Nat → List DV) : FnR (seat gl) 249 c249 := yQ (fn_ok gl) (mixed gl) (by kernel_rfl)
theorem f_254 (gl : Nat → List DV) : FnR (seat gl) 254 c254 := yQ (fn_ok gl) (mixed gl) (by kernel_rfl)
theorem f_259 (gl : Nat → List DV) : FnR (seat gl) 259 c259 := yQ (fn_ok gl) (mixed gl) (by kernel_rfl)
theorem f_279 (gl : Nat → List DV) : FnR (seat gl) 279 c279 := yQ (fn_ok gl) (mixed gl) (by kernel_rfl)
theorem f_291 (gl : Nat → List DV) : FnR (seat gl) 291 c291 := yQ (fn_ok gl) (mixed gl) (by kernel_rfl)
theorem f_314 (gl : Nat → List DV) : FnR (seat gl) 314 c314 := yQ (fn_ok gl) (mixed gl) (by kernel_rfl)
theorem f_319 (gl : Nat → List DV) : FnR (seat gl) 319 c319 := yQ (fn_ok gl) (mixed gl) (by kernel_rfl)
theorem f_362 (gl : Nat → List DV) : FnR (seat gl) 362 c362 := yQ (fn_ok gl) (mixed gl) (by kernel_rfl)
theorem f_366 (gl : Nat → List DV) : FnR (seat gl) 366 c366 := yQ (fn_ok gl) (mixed gl) (by kernel_rfl)
theorem f_401 (gl : Nat → List DV) : FnR (seat gl) 401 c401 := yQ (fn_ok gl) (mixed gl) (by kernel_rfl)
theorem f_415 (gl : Nat → List DV) : FnR (seat gl) 415 c415 := yQ (fn_ok gl) (mixed gl) (by kernel_rfl)
end Go.Ab
namespace Go.Ab
open Go
theorem f_7 (gl : Nat → List DV) : FnR (seat gl) 7 c7 := yQ (fn_ok gl) (mixed gl) (by kernel_rfl)
theorem f_21 (gl : Nat → List DV) : FnR (seat gl) 21 c21 := yQ (fn_ok gl) (mixed gl) (by kernel_rfl)
theorem f_25 (gl : Nat → List DV) : FnR (seat gl) 25 c25 := yQ (fn_ok gl) (mixed gl) (by kernel_rfl)
theorem f_29 (gl : Nat → List DV) : FnR (seat gl) 29 c29 := yQ (fn_ok gl) (mixed gl) (by kernel_rfl)
theorem f_62 (gl : Nat → List DV) : FnR (seat gl) 62 c62 := yQ (fn_ok gl) (mixed gl) (by kernel_rfl)
theorem f_66 (gl : Nat → List DV) : FnR (seat gl) 66 c66 := yQ (fn_ok gl) (mixed gl) (by kernel_rfl)
theorem f_70 (gl : Nat → List DV) : FnR (seat gl) 70 c70 := yQ (fn_ok gl) (mixed gl) (by kernel_rfl)
theorem f_74 (gl : Nat → List DV) : FnR (seat gl) 74 c74 := yQ (fn_ok gl) (mixed gl) (by kernel_rfl)
theorem f_78 (gl : Nat → List DV) : FnR (seat gl) 78 c78 := yQ (fn_ok gl) (mixed gl) (by kernel_rfl)
theorem f_82 (gl : Nat → List DV) : FnR (seat gl) 82 c82 := yQ (fn_ok gl) (mixed gl) (by kernel_rfl)
theorem f_86 (gl : Nat → List DV) : FnR (seat gl) 86 c86 := yQ (fn_ok gl) (mixed gl) (by kernel_rfl)
theorem f_90 (gl : Nat → List DV) : FnR (seat gl) 90 c90 := yQ (fn_ok gl) (mixed gl) (by kernel_rfl)
theorem f_94 (gl : Nat → List DV) : FnR (seat gl) 94 c94 := yQ (fn_ok gl) (mixed gl) (by kernel_rfl)
theorem f_98 (gl : Nat → List DV) : FnR (seat gl) 98 c98 := yQ (fn_ok gl) (mixed gl) (by kernel_rfl)
theorem f_103 (gl : Nat → List DV) : FnR (seat gl) 103 c103 := yQ (fn_ok gl) (mixed gl) (by kernel_rfl)
theorem f_107 (gl : Nat → List DV) : FnR (seat gl) 107 c107 := yQ (fn_ok gl) (mixed gl) (by kernel_rfl)
theorem f_123 (gl : Nat → List DV) : FnR (seat gl) 123 c123 := yQ (fn_ok gl) (mixed gl) (by kernel_rfl)
theorem f_144 (gl : Nat → List DV) : FnR (seat gl) 144 c144 := yQ (fn_ok gl) (mixed gl) (by kernel_rfl)
theorem f_148 (gl : Nat → List DV) : FnR (seat gl) 148 c148 := yQ (fn_ok gl) (mixed gl) (by kernel_rfl)
theorem f_152 (gl : Nat → List DV) : FnR (seat gl) 152 c152 := yQ (fn_ok gl) (mixed gl) (by kernel_rfl)
theorem f_156 (gl : Nat → List DV) : FnR (seat gl) 156 c156 := yQ (fn_ok gl) (mixed gl) (by kernel_rfl)
theorem f_160 (gl : Nat → List DV) : FnR (seat gl) 160 c160 := yQ (fn_ok gl) (mixed gl) (by kernel_rfl)
theorem f_164 (gl : Nat → List DV) : FnR (seat gl) 164 c164 := yQ (fn_ok gl) (mixed gl) (by kernel_rfl)
theorem f_168 (gl : Nat → List DV) : FnR (seat gl) 168 c168 := yQ (fn_ok gl) (mixed gl) (by kernel_rfl)
theorem f_172 (gl : Nat → List DV) : FnR (seat gl) 172 c172 := yQ (fn_ok gl) (mixed gl) (by kernel_rfl)
theorem f_179 (gl : Nat → List DV) : FnR (seat gl) 179 c179 := yQ (fn_ok gl) (mixed gl) (by kernel_rfl)
theorem f_183 (gl : Nat → List DV) : FnR (seat gl) 183 c183 := yQ (fn_ok gl) (mixed gl) (by kernel_rfl)
theorem f_191 (gl : Nat → List DV) : FnR (seat gl) 191 c191 := yQ (fn_ok gl) (mixed gl) (by kernel_rfl)
theorem f_224 (gl : Nat → List DV) : FnR (seat gl) 224 c224 := yQ (fn_ok gl) (mixed gl) (by kernel_rfl)
theorem f_237 (gl : Nat → List DV) : FnR (seat gl) 237 c237 := yQ (fn_ok gl) (mixed gl) (by kernel_rfl)
theorem f_241 (gl : Nat → List DV) : FnR (seat gl) 241 c241 := yQ (fn_ok gl) (mixed gl) (by kernel_rfl)
theorem f_245 (gl : Nat → List DV) : FnR (seat gl) 245 c245 := yQ (fn_ok gl) (mixed gl) (by kernel_rfl)
theorem f_250 (gl : Nat → List DV) : FnR (seat gl) 250 c250 := yQ (fn_ok gl) (mixed gl) (by kernel_rfl)
theorem f_255 (gl : Nat → List DV) : FnR (seat gl) 255 c255 := yQ (fn_ok gl) (mixed gl) (by kernel_rfl)
theorem f_273 (gl : Nat → List DV) : FnR (seat gl) 273 c273 := yQ (fn_ok gl) (mixed gl) (by kernel_rfl)
theorem f_288 (gl : Nat → List DV) : FnR (seat gl) 288 c288 := yQ (fn_ok gl) (mixed gl) (by kernel_rfl)
theorem f_311 (gl : Nat → List DV) : FnR (seat gl) 311 c311 := yQ (fn_ok gl) (mixed gl) (by kernel_rfl)
theorem f_315 (gl : Nat → List DV) : FnR (seat gl) 315 c315 := yQ (fn_ok gl) (mixed gl) (by kernel_rfl)
theorem f_328 (gl : Nat → List DV) : FnR (seat gl) 328 c328 := yQ (fn_ok gl) (mixed gl) (by kernel_rfl)
theorem f_363 (gl : Nat → List DV) : FnR (seat gl) 363 c363 := yQ (fn_ok gl) (mixed gl) (by kernel_rfl)
theorem f_368 (gl : Nat → List DV) : FnR (seat gl) 368 c368 := yQ (fn_ok gl) (mixed gl) (by kernel_rfl)
theorem f_402 (gl : Nat → List DV) : FnR (seat gl) 402 c402 := yQ (fn_ok gl) (mixed gl) (by kernel_rfl)
end Go.Ab
namespace Go.Ab
open Go
theorem f_8 (gl : Nat → List DV) : FnR (seat gl) 8 c8 := yQ (fn_ok gl) (mixed gl) (by kernel_rfl)
theorem f_22 (gl : Nat → List DV) : FnR (seat gl) 22 c22 := yQ (fn_ok gl) (mixed gl) (by kernel_rfl)
theorem f_26 (gl : Nat → List DV) : FnR (seat gl) 26 c26 := yQ (fn_ok gl) (mixed gl) (by kernel_rfl)
theorem f_30 (gl : Nat → List DV) : FnR (seat gl) 30 c30 := yQ (fn_ok gl) (mixed gl) (by kernel_rfl)
theorem f_63 (gl : Nat → List DV) : FnR (seat gl) 63 c63 := yQ (fn_ok gl) (mixed gl) (by kernel_rfl)
theorem f_67 (gl : Nat → List DV) : FnR (seat gl) 67 c67 := yQ (fn_ok gl) (mixed gl) (by kernel_rfl)
theorem f_71 (gl : Nat → List DV) : FnR (seat gl) 71 c71 := yQ (fn_ok gl) (mixed gl) (by kernel_rfl)
theorem f_75 (gl : Nat → List DV) : FnR (seat gl) 75 c75 := yQ (fn_ok gl) (mixed gl) (by kernel_rfl)
theorem f_79 (gl : Nat → List DV) : FnR (seat gl) 79 c79 := yQ (fn_ok gl) (mixed gl) (by kernel_rfl)
theorem f_83 (gl : Nat → List DV) : FnR (seat gl) 83 c83 := yQ (fn_ok gl) (mixed gl) (by kernel_rfl)
theorem f_87 (gl : Nat → List DV) : FnR (seat gl) 87 c87 := yQ (fn_ok gl) (mixed gl) (by kernel_rfl)
theorem f_91 (gl : Nat → List DV) : FnR (seat gl) 91 c91 := yQ (fn_ok gl) (mixed gl) (by kernel_rfl)
theorem f_95 (gl : Nat → List DV) : FnR (seat gl) 95 c95 := yQ (fn_ok gl) (mixed gl) (by kernel_rfl)
theorem f_99 (gl : Nat → List DV) : FnR (seat gl) 99 c99 := yQ (fn_ok gl) (mixed gl) (by kernel_rfl)
theorem f_104 (gl : Nat → List DV) : FnR (seat gl) 104 c104 := yQ (fn_ok gl) (mixed gl) (by kernel_rfl)
theorem f_108 (gl : Nat → List DV) : FnR (seat gl) 108 c108 := yQ (fn_ok gl) (mixed gl) (by kernel_rfl)
theorem f_127 (gl : Nat → List DV) : FnR (seat gl) 127 c127 := yQ (fn_ok gl) (mixed gl) (by kernel_rfl)
theorem f_145 (gl : Nat → List DV) : FnR (seat gl) 145 c145 := yQ (fn_ok gl) (mixed gl) (by kernel_rfl)
theorem f_149 (gl : Nat → List DV) : FnR (seat gl) 149 c149 := yQ (fn_ok gl) (mixed gl) (by kernel_rfl)
theorem f_153 (gl : Nat → List DV) : FnR (seat gl) 153 c153 := yQ (fn_ok gl) (mixed gl) (by kernel_rfl)
theorem f_157 (gl : Nat → List DV) : FnR (seat gl) 157 c157 := yQ (fn_ok gl) (mixed gl) (by kernel_rfl)
theorem f_161 (gl : Nat → List DV) : FnR (seat gl) 161 c161 := yQ (fn_ok gl) (mixed gl) (by kernel_rfl)
theorem f_165 (gl : Nat → List DV) : FnR (seat gl) 165 c165 := yQ (fn_ok gl) (mixed gl) (by kernel_rfl)
theorem f_169 (gl : Nat → List DV) : FnR (seat gl) 169 c169 := yQ (fn_ok gl) (mixed gl) (by kernel_rfl)
theorem f_175 (gl : Nat → List DV) : FnR (seat gl) 175 c175 := yQ (fn_ok gl) (mixed gl) (by kernel_rfl)
theorem f_180 (gl : Nat → List DV) : FnR (seat gl) 180 c180 := yQ (fn_ok gl) (mixed gl) (by kernel_rfl)
theorem f_184 (gl : Nat → List DV) : FnR (seat gl) 184 c184 := yQ (fn_ok gl) (mixed gl) (by kernel_rfl)
theorem f_205 (gl : Nat → List DV) : FnR (seat gl) 205 c205 := yQ (fn_ok gl) (mixed gl) (by kernel_rfl)
theorem f_234 (gl : Nat → List DV) : FnR (seat gl) 234 c234 := yQ (fn_ok gl) (mixed gl) (by kernel_rfl)
theorem f_238 (gl : Nat → List DV) : FnR (seat gl) 238 c238 := yQ (fn_ok gl) (mixed gl) (by kernel_rfl)
theorem f_242 (gl : Nat → List DV) : FnR (seat gl) 242 c242 := yQ (fn_ok gl) (mixed gl) (by kernel_rfl)
theorem f_246 (gl : Nat → List DV) : FnR (seat gl) 246 c246 := yQ (fn_ok gl) (mixed gl) (by kernel_rfl)
theorem f_252 (gl : Nat → List DV) : FnR (seat gl) 252 c252 := yQ (fn_ok gl) (mixed gl) (by kernel_rfl)
theorem f_256 (gl : Nat → List DV) : FnR (seat gl) 256 c256 := yQ (fn_ok gl) (mixed gl) (by kernel_rfl)
theorem f_275 (gl : Nat → List DV) : FnR (seat gl) 275 c275 := yQ (fn_ok gl) (mixed gl) (by kernel_rfl)
theorem f_289 (gl : Nat → List DV) : FnR (seat gl) 289 c289 := yQ (fn_ok gl) (mixed gl) (by kernel_rfl)
theorem f_312 (gl : Nat → List DV) : FnR (seat gl) 312 c312 := yQ (fn_ok gl) (mixed gl) (by kernel_rfl)
theorem f_316 (gl : Nat → List DV) : FnR (seat gl) 316 c316 := yQ (fn_ok gl) (mixed gl) (by kernel_rfl)
theorem f_330 (gl : Nat → List DV) : FnR (seat gl) 330 c330 := yQ (fn_ok gl) (mixed gl) (by kernel_rfl)
theorem f_364 (gl : Nat → List DV) : FnR (seat gl) 364 c364 := yQ (fn_ok gl) (mixed gl) (by kernel_rfl)
theorem f_383 (gl : Nat → List DV) : FnR (seat gl) 383 c383 := yQ (fn_ok gl) (mixed gl) (by kernel_rfl)
theorem f_413 (gl : Nat → List DV) : FnR (seat gl) 413 c413 := yQ (fn_ok gl) (mixed gl) (by kernel_rfl)
end Go.Ab
namespace Go.Ab
open Go
theorem law_link (gl : Nat → List DV) (g0 : (seat gl).gl 0 = evWD) (g1 : (seat gl).gl 1 = rowsD) (s1 : K_cc (seat gl)) (s2 : ∀ n : Int, inR .i64 n → CP (seat gl) 174 [.d (.int .i64 n)] (.d (.str (dec n))))
    (s3 : ∀ s : Str, s.length ≤ 1000000 → CP (seat gl) 338 [.d (.str s), .d (.str [58])] (.d (.int .i64 (ixB s 58)))) (s4 : ∀ (s : Str) (c : UInt8), CP (seat gl) 367 [.d (.str s), .d (.str [c])] (.d (.bool (pb (c ∈ s)))))
    (s5 : ∀ l : List Str, (jn l).length ≤ 140737488355328 → CP (seat gl) 177 [.d (.sl (encS l)), .d (.str [32])] (.d (.str (jn l)))) : ∀ l : List Te, CP (seat gl) 3 [.d (.sl (l.map teD))] (.d (.bool true)) := by
  have f_3 := f_3 gl
  have f_6 := f_6 gl
  have f_7 := f_7 gl
  have f_8 := f_8 gl
  have f_9 := f_9 gl
  have f_10 := f_10 gl
  have f_21 := f_21 gl
  have f_22 := f_22 gl
  have f_23 := f_23 gl
  have f_24 := f_24 gl
  have f_25 := f_25 gl
  have f_26 := f_26 gl
  have f_27 := f_27 gl
  have f_28 := f_28 gl
  have f_29 := f_29 gl
  have f_30 := f_30 gl
  have f_60 := f_60 gl
  have f_61 := f_61 gl
  have f_62 := f_62 gl
  have f_63 := f_63 gl
  have f_64 := f_64 gl
  have f_65 := f_65 gl
  have f_66 := f_66 gl
  have f_67 := f_67 gl
  have f_68 := f_68 gl
  have f_69 := f_69 gl
  have f_70 := f_70 gl
  have f_71 := f_71 gl
  have f_72 := f_72 gl
  have f_73 := f_73 gl
  have f_74 := f_74 gl
  have f_75 := f_75 gl
  have f_76 := f_76 gl
  have f_77 := f_77 gl
  have f_78 := f_78 gl
  have f_79 := f_79 gl
  have f_80 := f_80 gl
  have f_81 := f_81 gl
  have f_82 := f_82 gl
  have f_83 := f_83 gl
  have f_84 := f_84 gl
  have f_85 := f_85 gl
  have f_86 := f_86 gl
  have f_87 := f_87 gl
  have f_88 := f_88 gl
  have f_89 := f_89 gl
  have f_90 := f_90 gl
  have f_91 := f_91 gl
  have f_92 := f_92 gl
  have f_93 := f_93 gl
  have f_94 := f_94 gl
  have f_95 := f_95 gl
  have f_96 := f_96 gl
  have f_97 := f_97 gl
  have f_98 := f_98 gl
  have f_99 := f_99 gl
  have f_101 := f_101 gl
  have f_102 := f_102 gl
  have f_103 := f_103 gl
  have f_104 := f_104 gl
  have f_105 := f_105 gl
  have f_106 := f_106 gl
  have f_107 := f_107 gl
  have f_108 := f_108 gl
  have f_109 := f_109 gl
  have f_110 := f_110 gl
  have f_123 := f_123 gl
  have f_127 := f_127 gl
  have f_138 := f_138 gl
  have f_143 := f_143 gl
  have f_144 := f_144 gl
  have f_145 := f_145 gl
  have f_146 := f_146 gl
  have f_147 := f_147 gl
  have f_148 := f_148 gl
  have f_149 := f_149 gl
  have f_150 := f_150 gl
  have f_151 := f_151 gl
  have f_152 := f_152 gl
  have f_153 := f_153 gl
  have f_154 := f_154 gl
  have f_155 := f_155 gl
  have f_156 := f_156 gl
  have f_157 := f_157 gl
  have f_158 := f_158 gl
  have f_159 := f_159 gl
  have f_160 := f_160 gl
  have f_161 := f_161 gl
  have f_162 := f_162 gl
  have f_163 := f_163 gl
  have f_164 := f_164 gl
  have f_165 := f_165 gl
  have f_166 := f_166 gl
  have f_167 := f_167 gl
  have f_168 := f_168 gl
  have f_169 := f_169 gl
  have f_170 := f_170 gl
  have f_171 := f_171 gl
  have f_172 := f_172 gl
  have f_175 := f_175 gl
  have f_176 := f_176 gl
  have f_178 := f_178 gl
  have f_179 := f_179 gl
  have f_180 := f_180 gl
  have f_181 := f_181 gl
  have f_182 := f_182 gl
  have f_183 := f_183 gl
  have f_184 := f_184 gl
  have f_185 := f_185 gl
  have f_190 := f_190 gl
  have f_191 := f_191 gl
  have f_205 := f_205 gl
  have f_220 := f_220 gl
  have f_221 := f_221 gl
  have f_224 := f_224 gl
  have f_234 := f_234 gl
  have f_235 := f_235 gl
  have f_236 := f_236 gl
  have f_237 := f_237 gl
  have f_238 := f_238 gl
  have f_239 := f_239 gl
  have f_240 := f_240 gl
  have f_241 := f_241 gl
  have f_242 := f_242 gl
  have f_243 := f_243 gl
  have f_244 := f_244 gl
  have f_245 := f_245 gl
  have f_246 := f_246 gl
  have f_247 := f_247 gl
  have f_249 := f_249 gl
  have f_250 := f_250 gl
  have f_252 := f_252 gl
  have f_253 := f_253 gl
  have f_254 := f_254 gl
  have f_255 := f_255 gl
  have f_256 := f_256 gl
  have f_257 := f_257 gl
  have f_259 := f_259 gl
  have f_273 := f_273 gl
  have f_275 := f_275 gl
  have f_277 := f_277 gl
  have f_279 := f_279 gl
  have f_288 := f_288 gl
  have f_289 := f_289 gl
  have f_290 := f_290 gl
  have f_291 := f_291 gl
  have f_311 := f_311 gl
  have f_312 := f_312 gl
  have f_313 := f_313 gl
  have f_314 := f_314 gl
  have f_315 := f_315 gl
  have f_316 := f_316 gl
  have f_317 := f_317 gl
  have f_319 := f_319 gl
  have f_328 := f_328 gl
  have f_330 := f_330 gl
  have f_334 := f_334 gl
  have f_362 := f_362 gl
  have f_363 := f_363 gl
  have f_364 := f_364 gl
  have f_365 := f_365 gl
  have f_366 := f_366 gl
  have f_368 := f_368 gl
  have f_383 := f_383 gl
  have f_386 := f_386 gl
  have f_401 := f_401 gl
  have f_402 := f_402 gl
  have f_413 := f_413 gl
  have f_414 := f_414 gl
  have f_415 := f_415 gl
  have q_k_in65 := k_in65 (L := seat gl) (by with_reducible assumption)
  have q_k_in163 := k_in163 (L := seat gl) (by with_reducible assumption)
  have q_k_l6Dec := k_l6Dec (L := seat gl) (by with_reducible assumption)
  have q_k_l85Nums := k_l85Nums (L := seat gl) (by with_reducible assumption) (by with_reducible assumption)
  have q_k_l6NameOk := k_l6NameOk (L := seat gl) (by with_reducible assumption) (by with_reducible assumption)
  have q_k_isName := k_isName (L := seat gl) (by with_reducible assumption) (by with_reducible assumption)
  have q_k_l1TextOk := k_l1TextOk (L := seat gl) (by with_reducible assumption)
  have q_k_isText := k_isText (L := seat gl) (by with_reducible assumption)
  have q_k_l1Rise := k_l1Rise (L := seat gl) (by with_reducible assumption) (by with_reducible assumption)
  have q_k_areNames := k_areNames (L := seat gl) (by with_reducible assumption) (by with_reducible assumption)
  have q_k_l1Alone := k_l1Alone (L := seat gl) (by with_reducible assumption) (by with_reducible assumption) (by with_reducible assumption) (by with_reducible assumption)
  have q_k_isNum := k_isNum (L := seat gl) (by with_reducible assumption) (by with_reducible assumption)
  have q_k_shapeOkT := k_shapeOkT (L := seat gl) (by with_reducible assumption) (by with_reducible assumption) (by with_reducible assumption) (by with_reducible assumption) (by with_reducible assumption) (by with_reducible assumption)
  have q_k_l1Parts := k_l1Parts (L := seat gl) (by with_reducible assumption) (by with_reducible assumption)
  have q_k_lookT := k_lookT (L := seat gl) (by with_reducible assumption) (by with_reducible assumption)
  have q_k_TreeParts := k_TreeParts (L := seat gl) (by with_reducible assumption) (by with_reducible assumption)
  have q_k_TreeOk_s := k_TreeOk_s (L := seat gl) (by with_reducible assumption) (by with_reducible assumption)
  have q_k_TreeOk_i := k_TreeOk_i (L := seat gl) (by with_reducible assumption) (by with_reducible assumption)
  have q_k_shapeOkK := k_shapeOkK (L := seat gl) (by with_reducible assumption) (by with_reducible assumption)
  have q_k_lookK := k_lookK (L := seat gl) (by with_reducible assumption) (by with_reducible assumption)
  have q_k_KindOk_i := k_KindOk_i (L := seat gl) (by with_reducible assumption) (by with_reducible assumption)
  have q_k_l2Parts := k_l2Parts (L := seat gl) (by with_reducible assumption) (by with_reducible assumption) (by with_reducible assumption)
  have q_k_KindOk_s := k_KindOk_s (L := seat gl) (by with_reducible assumption) (by with_reducible assumption)
  have q_k_EventOk_s := k_EventOk_s (L := seat gl) (by with_reducible assumption) (by with_reducible assumption) (by with_reducible assumption) (by with_reducible assumption)
  have q_k_EventOk_i := k_EventOk_i (L := seat gl) (by with_reducible assumption) (by with_reducible assumption) (by with_reducible assumption) (by with_reducible assumption)
  have q_k_l31NoLift := k_l31NoLift (L := seat gl) (by with_reducible assumption)
  have q_k_isNothing := k_isNothing (L := seat gl) (by with_reducible assumption)
  have q_k_isNoTree := k_isNoTree (L := seat gl) (by with_reducible assumption)
  have q_k_l21NoKind := k_l21NoKind (L := seat gl) (by with_reducible assumption)
  have q_k_isNoKind := k_isNoKind (L := seat gl) (by with_reducible assumption)
  have q_k_l85NoEvent := k_l85NoEvent (L := seat gl) (by with_reducible assumption)
  have q_k_isNoEvent := k_isNoEvent (L := seat gl) (by with_reducible assumption) (by with_reducible assumption)
  have q_k_l85NoPlan := k_l85NoPlan (L := seat gl) (by with_reducible assumption)
  have q_k_isNoPlan := k_isNoPlan (L := seat gl) (by with_reducible assumption) (by with_reducible assumption)
  have q_k_isNoPower := k_isNoPower (L := seat gl) (by with_reducible assumption)
  have q_k_canWrite1 := k_canWrite1 (L := seat gl) (by with_reducible assumption) (by with_reducible assumption)
  have q_k_IndexFunc_int := k_IndexFunc_int (L := seat gl) (by with_reducible assumption) (by with_reducible assumption)
  have q_k_ContainsFunc_int := k_ContainsFunc_int (L := seat gl) (by with_reducible assumption) (by with_reducible assumption)
  have q_k_canWrite := k_canWrite (L := seat gl) (by with_reducible assumption) (by with_reducible assumption)
  have q_k_powerOk := k_powerOk (L := seat gl) (by with_reducible assumption) (by with_reducible assumption) (by with_reducible assumption)
  have q_k_l85PowerOk := k_l85PowerOk (L := seat gl) (by with_reducible assumption) (by with_reducible assumption)
  have q_k_l2Text := k_l2Text (L := seat gl) (by with_reducible assumption)
  have q_k_l1Text := k_l1Text (L := seat gl) (by with_reducible assumption) (by with_reducible assumption)
  have q_k_look1 := k_look1 (L := seat gl) (by with_reducible assumption)
  have q_k_eat := k_eat (L := seat gl) (by with_reducible assumption)
  have q_k_name1 := k_name1 (L := seat gl) (by with_reducible assumption) (by with_reducible assumption)
  have q_k_Eat := k_Eat (L := seat gl) (by with_reducible assumption)
  have q_k_l2Kind := fun (s : Str) (hs : s.length ≤ 1000000) => k_l2Kind f_205 (by with_reducible assumption) (by with_reducible assumption) (by with_reducible assumption) s hs
  have q_k_KindRead_s := k_KindRead_s (L := seat gl) (by with_reducible assumption) (by with_reducible assumption) (by with_reducible assumption) (by with_reducible assumption)
  have q_k_l11Word := k_l11Word (L := seat gl) (by with_reducible assumption) (by with_reducible assumption)
  have q_k_l11Op := k_l11Op (L := seat gl) (by with_reducible assumption) (by with_reducible assumption)
  have q_k_l11FreeName := k_l11FreeName (L := seat gl) (by with_reducible assumption) (by with_reducible assumption) (by with_reducible assumption)
  have q_k_l11Names := k_l11Names (L := seat gl) (by with_reducible assumption)
  have q_k_l11Binds := k_l11Binds (L := seat gl) (by with_reducible assumption)
  have q_k_l11Kids := k_l11Kids (L := seat gl) (by with_reducible assumption) (by with_reducible assumption)
  have q_k_l6Has := k_l6Has (L := seat gl) (by with_reducible assumption)
  have q_k_l11Alone := k_l11Alone (L := seat gl) (by with_reducible assumption) (by with_reducible assumption) (by with_reducible assumption) (by with_reducible assumption) (by with_reducible assumption) (by with_reducible assumption) (by with_reducible assumption) (by with_reducible assumption) (by with_reducible assumption) (by with_reducible assumption) (by with_reducible assumption)
  have q_k_l11Nodes := k_l11Nodes (L := seat gl) (by with_reducible assumption) (by with_reducible assumption) (by with_reducible assumption)
  have q_k_l11Text := k_l11Text (L := seat gl) (by with_reducible assumption) (by with_reducible assumption) (by with_reducible assumption) (by with_reducible assumption)
  have q_k_l11Is := k_l11Is (L := seat gl) (by with_reducible assumption) (by with_reducible assumption) (by with_reducible assumption)
  have q_k_LiftOk_s := k_LiftOk_s (L := seat gl) (by with_reducible assumption) (by with_reducible assumption)
  have q_k_l85Value := k_l85Value (L := seat gl) (by with_reducible assumption) (by with_reducible assumption)
  have q_k_l85PlanOk := k_l85PlanOk (L := seat gl) (by with_reducible assumption) (by with_reducible assumption) (by with_reducible assumption) (by with_reducible assumption) (by with_reducible assumption) (by with_reducible assumption) (by with_reducible assumption)
  have q_k_l85Ok := k_l85Ok (L := seat gl) (by with_reducible assumption) (by with_reducible assumption) (by with_reducible assumption) (by with_reducible assumption) (by with_reducible assumption) (by with_reducible assumption) (by with_reducible assumption) (by with_reducible assumption) (by with_reducible assumption) (by with_reducible assumption) (by with_reducible assumption) (by with_reducible assumption) (by with_reducible assumption)
  have q_k_EventWrite_s := k_EventWrite_s (L := seat gl) (by with_reducible assumption) (by with_reducible assumption) (by with_reducible assumption) (by with_reducible assumption)
  have q_k_l85Fold := k_l85Fold (L := seat gl) (by with_reducible assumption) (by with_reducible assumption) (by with_reducible assumption) (by with_reducible assumption)
  have q_k_l85Words := k_l85Words (L := seat gl) (by with_reducible assumption)
  have q_k_l85Text := k_l85Text (L := seat gl) (by with_reducible assumption) (by with_reducible assumption) (by with_reducible assumption) (by with_reducible assumption) (by with_reducible assumption) (by with_reducible assumption) (by with_reducible assumption)
  have q_k_TeaWrite_s := k_TeaWrite_s (L := seat gl) (by with_reducible assumption) (by with_reducible assumption) (by with_reducible assumption)
  have q_k_rowOf := k_rowOf (L := seat gl) (by with_reducible assumption) (by with_reducible assumption) (by with_reducible assumption)
  have q_k_opOf1 := k_opOf1 (L := seat gl) (by with_reducible assumption)
  have q_k_IndexFunc_row := k_IndexFunc_row (L := seat gl) (by with_reducible assumption) (by with_reducible assumption)
  have q_k_opOf := k_opOf (L := seat gl) (by with_reducible assumption) (by with_reducible assumption) (by with_reducible assumption)
  have q_k_isVar := k_isVar (L := seat gl) (by with_reducible assumption) (by with_reducible assumption) (by with_reducible assumption)
  have q_k_numOk := k_numOk (L := seat gl) (by with_reducible assumption) (by with_reducible assumption)
  have q_k_isAction := k_isAction (L := seat gl) (by with_reducible assumption) (by with_reducible assumption)
  have q_k_isLiteral := k_isLiteral (L := seat gl) (by with_reducible assumption) (by with_reducible assumption)
  have q_k_literal := k_literal (L := seat gl) (by with_reducible assumption)
  have q_k_Index_str := k_Index_str (L := seat gl) (by with_reducible assumption)
  have q_k_Contains_str := k_Contains_str (L := seat gl) (by with_reducible assumption) (by with_reducible assumption)
  have q_k_WriteString := k_WriteString (L := seat gl) (by with_reducible assumption) (by with_reducible assumption)
  have q_k_WriteByte := k_WriteByte (L := seat gl) (by with_reducible assumption) (by with_reducible assumption)
  have q_k_String := k_String (L := seat gl) (by with_reducible assumption)
  have q_k_Len := k_Len (L := seat gl) (by with_reducible assumption)
  have q_k_Kind_write := k_Kind_write (L := seat gl) (by with_reducible assumption) (by with_reducible assumption) (by with_reducible assumption)
  have q_k_Kind_text := k_Kind_text (L := seat gl) (by with_reducible assumption) (by with_reducible assumption) (by with_reducible assumption)
  have q_kids := fun t h b => k_writeKids (L := seat gl) f_319 (by with_reducible assumption) (by with_reducible assumption) t h b
  have q_k_Tree_write := k_Tree_write (L := seat gl) (by with_reducible assumption) (by with_reducible assumption) (by with_reducible assumption) (by with_reducible assumption) (by with_reducible assumption)
  have q_k_Tree_text := k_Tree_text (L := seat gl) (by with_reducible assumption) (by with_reducible assumption) (by with_reducible assumption)
  have q_k_joined := k_joined (L := seat gl) (by with_reducible assumption) (by with_reducible assumption)
  have q_k_eventText := k_eventText (L := seat gl) (by with_reducible assumption) (by with_reducible assumption) (by with_reducible assumption)
  have q_k_nodeOf := k_nodeOf (L := seat gl) (by with_reducible assumption)
  have q_k_HasPrefix := k_HasPrefix (L := seat gl) (by with_reducible assumption)
  have q_k_CutPrefix1 := k_CutPrefix1 (L := seat gl) (by with_reducible assumption) (by with_reducible assumption)
  have q_k_CutPrefix := k_CutPrefix (L := seat gl) (by with_reducible assumption) (by with_reducible assumption)
  have q_k_skip := k_skip (L := seat gl) (by with_reducible assumption) (by with_reducible assumption)
  have q_k_until := k_until (L := seat gl) (by with_reducible assumption) (by with_reducible assumption)
  have q_k_nm := k_nm (L := seat gl) (by with_reducible assumption) (by with_reducible assumption) (by with_reducible assumption) (by with_reducible assumption)
  have q_k_words := k_words (L := seat gl) (by with_reducible assumption) (by with_reducible assumption) (by with_reducible assumption) (by with_reducible assumption) (by with_reducible assumption) (by with_reducible assumption)
  have q_k_textN := k_textN (L := seat gl) (by with_reducible assumption) (by with_reducible assumption) (by with_reducible assumption)
  have q_k_kind := k_kind (L := seat gl) (by with_reducible assumption) (by with_reducible assumption) (by with_reducible assumption) (by with_reducible assumption) (by with_reducible assumption)
  have q_k_KindWrite := k_KindWrite (L := seat gl) (by with_reducible assumption) (by with_reducible assumption) (by with_reducible assumption)
  have q_k_KindRead_i := k_KindRead_i (L := seat gl) (by with_reducible assumption) (by with_reducible assumption) (by with_reducible assumption)
  have q_ShC : ShC (seat gl) := ⟨by with_reducible assumption, by with_reducible assumption, by with_reducible assumption, by with_reducible assumption, by with_reducible assumption, by with_reducible assumption, by with_reducible assumption⟩
  have q_k_shapeOkN := k_shapeOkN (L := seat gl) (by with_reducible assumption) (by with_reducible assumption) (by with_reducible assumption) (by with_reducible assumption) (by with_reducible assumption) (by with_reducible assumption)
  have q_k_kidIsA := k_kidIsA (L := seat gl) (by with_reducible assumption) (by with_reducible assumption)
  have q_k_lookN := k_lookN (L := seat gl) (by with_reducible assumption) (by with_reducible assumption) (by with_reducible assumption) (by with_reducible assumption)
  have q_k_isOkN := k_isOkN (L := seat gl) (by with_reducible assumption) (by with_reducible assumption) (by with_reducible assumption)
  have q_k_LiftOk_i := k_LiftOk_i (L := seat gl) (by with_reducible assumption) (by with_reducible assumption)
  have q_k_foldText := k_foldText (L := seat gl) (by with_reducible assumption) (by with_reducible assumption) (by with_reducible assumption) (by with_reducible assumption) (by with_reducible assumption) (by with_reducible assumption)
  have q_k_eventLines := k_eventLines (L := seat gl) (by with_reducible assumption) (by with_reducible assumption) (by with_reducible assumption) (by with_reducible assumption) (by with_reducible assumption) (by with_reducible assumption) (by with_reducible assumption) (by with_reducible assumption)
  have q_k_valueOk := k_valueOk (L := seat gl) (by with_reducible assumption) (by with_reducible assumption) (by with_reducible assumption)
  have q_k_planOk1 := k_planOk1 (L := seat gl) (by with_reducible assumption) (by with_reducible assumption) (by with_reducible assumption)
  have q_k_IndexFunc_step := k_IndexFunc_step (L := seat gl) (by with_reducible assumption) (by with_reducible assumption)
  have q_k_ContainsFunc_step := k_ContainsFunc_step (L := seat gl) (by with_reducible assumption) (by with_reducible assumption)
  have q_k_planOk := k_planOk (L := seat gl) (by with_reducible assumption) (by with_reducible assumption) (by with_reducible assumption) (by with_reducible assumption) (by with_reducible assumption) (by with_reducible assumption) (by with_reducible assumption) (by with_reducible assumption)
  have q_k_eventOk := k_eventOk (L := seat gl) (by with_reducible assumption) (by with_reducible assumption) (by with_reducible assumption) (by with_reducible assumption) (by with_reducible assumption) (by with_reducible assumption) (by with_reducible assumption) (by with_reducible assumption) (by with_reducible assumption) (by with_reducible assumption) (by with_reducible assumption) (by with_reducible assumption) (by with_reducible assumption)
  have q_k_TeaWrite_i := k_TeaWrite_i (L := seat gl) (by with_reducible assumption) (by with_reducible assumption) (by with_reducible assumption) (by with_reducible assumption) (by with_reducible assumption) (by with_reducible assumption)
  have q_l_szStringS := l_szStringS (L := seat gl) (by with_reducible assumption)
  have q_l_toStringS := l_toStringS (L := seat gl) (by with_reducible assumption)
  have q_l_eqStringS := l_eqStringS (L := seat gl) (by with_reducible assumption)
  have q_l_toIntS := l_toIntS (L := seat gl) (by with_reducible assumption)
  have q_l_eqIntS := l_eqIntS (L := seat gl) (by with_reducible assumption)
  have q_l_szIntS := l_szIntS (L := seat gl) (by with_reducible assumption)
  have q_l_szTree := l_szTree (L := seat gl) (by with_reducible assumption) (by with_reducible assumption) (by with_reducible assumption)
  have q_l_toTree := l_toTree (L := seat gl) (by with_reducible assumption) (by with_reducible assumption) (by with_reducible assumption)
  have q_l_eqTree := l_eqTree (L := seat gl) (by with_reducible assumption) (by with_reducible assumption) (by with_reducible assumption)
  have q_l_szLiftNode := l_szLiftNode (L := seat gl) (by with_reducible assumption) (by with_reducible assumption) (by with_reducible assumption)
  have q_l_toLiftNode := l_toLiftNode (L := seat gl) (by with_reducible assumption) (by with_reducible assumption) (by with_reducible assumption)
  have q_l_eqLiftNode := l_eqLiftNode (L := seat gl) (by with_reducible assumption) (by with_reducible assumption) (by with_reducible assumption)
  have q_l_szKind := l_szKind (L := seat gl) (by with_reducible assumption) (by with_reducible assumption) (by with_reducible assumption)
  have q_l_toKind := l_toKind (L := seat gl) (by with_reducible assumption) (by with_reducible assumption) (by with_reducible assumption)
  have q_l_eqKind := l_eqKind (L := seat gl) (by with_reducible assumption) (by with_reducible assumption) (by with_reducible assumption)
  have q_l_szEvent := l_szEvent (L := seat gl) (by with_reducible assumption) (by with_reducible assumption)
  have q_l_toEvent := l_toEvent (L := seat gl) (by with_reducible assumption) (by with_reducible assumption)
  have q_l_eqEvent := l_eqEvent (L := seat gl) (by with_reducible assumption) (by with_reducible assumption)
  have q_l_szLogAct := l_szLogAct (L := seat gl) (by with_reducible assumption) (by with_reducible assumption)
  have q_l_toLogAct := l_toLogAct (L := seat gl) (by with_reducible assumption) (by with_reducible assumption)
  have q_l_eqLogAct := l_eqLogAct (L := seat gl) (by with_reducible assumption) (by with_reducible assumption)
  have q_l_szFoldState := l_szFoldState (L := seat gl) (by with_reducible assumption) (by with_reducible assumption) (by with_reducible assumption)
  have q_l_szFoldStateS := fun l left hl => l_szFoldStateS (L := seat gl) (by with_reducible assumption) l (fun i h left hl => q_l_szFoldState l[i] left hl) left hl
  have q_l_toFoldState := l_toFoldState (L := seat gl) (by with_reducible assumption) (by with_reducible assumption) (by with_reducible assumption)
  have q_l_toFoldStateS := fun (l : List Fs) (hl : l.length + sumL Fs.sz l ≤ 2000000) => l_toFoldStateS (L := seat gl) (by with_reducible assumption) l (by omega) (fun i h => q_l_toFoldState l[i] (by have := sumL_get Fs.sz l i h; omega))
  have q_l_eqFoldState := l_eqFoldState (L := seat gl) (by with_reducible assumption) (by with_reducible assumption) (by with_reducible assumption)
  have q_l_eqFoldStateS := fun l => l_eqFoldStateS (L := seat gl) (by with_reducible assumption) l (fun i h => q_l_eqFoldState l[i])
  have q_l_szFoldStep := l_szFoldStep (L := seat gl) (by with_reducible assumption) (by with_reducible assumption)
  have q_l_szFoldStepS := fun l left hl => l_szFoldStepS (L := seat gl) (by with_reducible assumption) l (fun i h left hl => q_l_szFoldStep l[i] left hl) left hl
  have q_l_toFoldStep := l_toFoldStep (L := seat gl) (by with_reducible assumption) (by with_reducible assumption)
  have q_l_toFoldStepS := fun (l : List Ft) (hl : l.length + sumL Ft.sz l ≤ 2000000) => l_toFoldStepS (L := seat gl) (by with_reducible assumption) l (by omega) (fun i h => q_l_toFoldStep l[i] (by have := sumL_get Ft.sz l i h; omega))
  have q_l_eqFoldStep := l_eqFoldStep (L := seat gl) (by with_reducible assumption) (by with_reducible assumption)
  have q_l_eqFoldStepS := fun l => l_eqFoldStepS (L := seat gl) (by with_reducible assumption) l (fun i h => q_l_eqFoldStep l[i])
  have q_l_szFoldPlan := l_szFoldPlan (L := seat gl) (by with_reducible assumption) (by with_reducible assumption) (by with_reducible assumption) (by with_reducible assumption)
  have q_l_toFoldPlan := l_toFoldPlan (L := seat gl) (by with_reducible assumption) (by with_reducible assumption) (by with_reducible assumption) (by with_reducible assumption)
  have q_l_eqFoldPlan := l_eqFoldPlan (L := seat gl) (by with_reducible assumption) (by with_reducible assumption) (by with_reducible assumption) (by with_reducible assumption)
  have q_l_szTeaEvent := l_szTeaEvent (L := seat gl) (by with_reducible assumption) (by with_reducible assumption) (by with_reducible assumption) (by with_reducible assumption) (by with_reducible assumption) (by with_reducible assumption)
  have q_l_szTeaEventS := fun l left hl => l_szTeaEventS (L := seat gl) (by with_reducible assumption) l (fun i h left hl => q_l_szTeaEvent l[i] left hl) left hl
  have q_l_toTeaEvent := l_toTeaEvent (L := seat gl) (by with_reducible assumption) (by with_reducible assumption) (by with_reducible assumption) (by with_reducible assumption) (by with_reducible assumption) (by with_reducible assumption)
  have q_l_toTeaEventS := fun (l : List Te) (hl : l.length + sumL Te.sz l ≤ 1048576) => l_toTeaEventS (L := seat gl) (by with_reducible assumption) l (by omega) (fun i h => q_l_toTeaEvent l[i] (by have := sumL_get Te.sz l i h; omega))
  have q_l_eqTeaEvent := l_eqTeaEvent (L := seat gl) (by with_reducible assumption) (by with_reducible assumption) (by with_reducible assumption) (by with_reducible assumption) (by with_reducible assumption) (by with_reducible assumption)
  have q_l_eqTeaEventS := fun l => l_eqTeaEventS (L := seat gl) (by with_reducible assumption) l (fun i h => q_l_eqTeaEvent l[i])
  have q_k_law3 := k_law3 (L := seat gl) (by with_reducible assumption) (by with_reducible assumption) (by with_reducible assumption) (by with_reducible assumption) (by with_reducible assumption) (by with_reducible assumption)
  exact q_k_law3
end Go.Ab
namespace Go.Proofs
open Go.Shelf Go.Ab Go.RowKit
def Tryz.lays144_ren : Go.Shelf.Ren := ⟨fun | 144 => 159 | 143 => 174 | 219 => 189 | 217 => 194 | 225 => 195 | 224 => 196 | 267 => 197 | 266 => 200 | 314 => 201 | n => n, fun | 9 => 9 | 4 => 4 | 3 => 3 | 5 => 5 | 46 => 216 | 146 => 231 | 51 => 214 | n => n, fun | 1 => 3 | n => n⟩
theorem Tryz.lays144 : Go.Proofs.Lays.n144 Tryz.prog Tryz.lays144_ren := {
  mixed := by kernel_rfl
  f143 := Tryz.func174.trans (congrArg some (by kernel_rfl))
  f144 := Tryz.func159.trans (congrArg some (by kernel_rfl))
  f217 := Tryz.func194.trans (congrArg some (by kernel_rfl))
  f219 := Tryz.func189.trans (congrArg some (by kernel_rfl))
  f224 := Tryz.func196.trans (congrArg some (by kernel_rfl))
  f225 := Tryz.func195.trans (congrArg some (by kernel_rfl))
  f266 := Tryz.func200.trans (congrArg some (by kernel_rfl))
  f267 := Tryz.func197.trans (congrArg some (by kernel_rfl))
  f314 := Tryz.func201.trans (congrArg some (by kernel_rfl))
  t3 := Tryz.underlying3
  a3 := Tryz.isAgg3
  z3 := Tryz.sizeOf3
  v3 := Tryz.zeroValue3
  t4 := Tryz.underlying4
  a4 := Tryz.isAgg4
  z4 := Tryz.sizeOf4
  v4 := Tryz.zeroValue4
  t5 := Tryz.underlying5
  a5 := Tryz.isAgg5
  z5 := Tryz.sizeOf5
  v5 := Tryz.zeroValue5
  t9 := Tryz.underlying9
  a9 := Tryz.isAgg9
  z9 := Tryz.sizeOf9
  v9 := Tryz.zeroValue9
  t46 := Tryz.underlying216
  a46 := Tryz.isAgg216
  z46 := Tryz.sizeOf216
  v46 := Tryz.zeroValue216
  t51 := Tryz.underlying214
  a51 := Tryz.isAgg214
  z51 := Tryz.sizeOf214
  v51 := Tryz.zeroValue214
  t146 := Tryz.underlying231
  a146 := Tryz.isAgg231
  z146 := Tryz.sizeOf231
  v146 := Tryz.zeroValue231
  g1 := by kernel_rfl }
theorem s_Contains (gl : Nat → List DV) (s : List UInt8) (c : UInt8) : CP (seat gl) 367 [.d (.str s), .d (.str [c])] (.d (.bool (decide (0 ≤ Lib.indexByte s c)))) := by
  refine CP.ofCalls (cv := .bool (decide (0 ≤ Lib.indexByte s c))) (fun _ _ => .bool _) ?_
  intro g nb bx rl w cargs sh hcl hargs
  have e : cargs = #[.string ⟨s.toArray⟩, .string ⟨#[c]⟩] := args2 hcl (fun v hv => (VR.str_inv (hargs 0 _ v rfl hv)).1) (fun v hv => (VR.str_inv (hargs 1 _ v rfl hv)).1)
  subst e
  refine (Any.strings_Contains_one Tryz.lays144 ⟨s.toArray⟩ c w).mono ?_
  rintro e w' ⟨rfl, rfl⟩
  exact ⟨rfl, Below.refl _ _⟩
def Tryz.lays153_ren : Go.Shelf.Ren := ⟨fun | 153 => 199 | 152 => 203 | 226 => 204 | 227 => 205 | 228 => 206 | 137 => 207 | 119 => 208 | 224 => 196 | 225 => 195 | 217 => 194 | 266 => 200 | n => n, fun | 9 => 9 | 3 => 3 | 4 => 4 | 5 => 5 | 21 => 21 | 117 => 236 | 116 => 235 | 0 => 0 | 46 => 216 | 124 => 240 | n => n, fun | n => n⟩
theorem Tryz.lays153 : Go.Proofs.Lays.n153 Tryz.prog Tryz.lays153_ren := {
  mixed := by kernel_rfl
  f119 := Tryz.func208.trans (congrArg some (by kernel_rfl))
  f137 := Tryz.func207.trans (congrArg some (by kernel_rfl))
  f152 := Tryz.func203.trans (congrArg some (by kernel_rfl))
  f153 := Tryz.func199.trans (congrArg some (by kernel_rfl))
  f217 := Tryz.func194.trans (congrArg some (by kernel_rfl))
  f224 := Tryz.func196.trans (congrArg some (by kernel_rfl))
  f225 := Tryz.func195.trans (congrArg some (by kernel_rfl))
  f226 := Tryz.func204.trans (congrArg some (by kernel_rfl))
  f227 := Tryz.func205.trans (congrArg some (by kernel_rfl))
  f228 := Tryz.func206.trans (congrArg some (by kernel_rfl))
  f266 := Tryz.func200.trans (congrArg some (by kernel_rfl))
  t0 := Tryz.underlying0
  a0 := Tryz.isAgg0
  z0 := Tryz.sizeOf0
  v0 := Tryz.zeroValue0
  t3 := Tryz.underlying3
  a3 := Tryz.isAgg3
  z3 := Tryz.sizeOf3
  v3 := Tryz.zeroValue3
  t4 := Tryz.underlying4
  a4 := Tryz.isAgg4
  z4 := Tryz.sizeOf4
  v4 := Tryz.zeroValue4
  t5 := Tryz.underlying5
  a5 := Tryz.isAgg5
  z5 := Tryz.sizeOf5
  v5 := Tryz.zeroValue5
  t9 := Tryz.underlying9
  a9 := Tryz.isAgg9
  z9 := Tryz.sizeOf9
  v9 := Tryz.zeroValue9
  t21 := Tryz.underlying21
  a21 := Tryz.isAgg21
  z21 := Tryz.sizeOf21
  v21 := Tryz.zeroValue21
  t46 := Tryz.underlying216
  a46 := Tryz.isAgg216
  z46 := Tryz.sizeOf216
  v46 := Tryz.zeroValue216
  t116 := Tryz.underlying235
  a116 := Tryz.isAgg235
  z116 := Tryz.sizeOf235
  t117 := Tryz.underlying236
  a117 := Tryz.isAgg236
  z117 := Tryz.sizeOf236
  v117 := Tryz.zeroValue236
  t124 := Tryz.underlying240
  a124 := Tryz.isAgg240
  z124 := Tryz.sizeOf240
  v124 := Tryz.zeroValue240 }
theorem s_IndexAny (gl : Nat → List DV) (s : List UInt8) (c : UInt8) (hc : c.toNat < 128) (hr : inR .i64 (Lib.indexAny s [c])) :
    CP (seat gl) 338 [.d (.str s), .d (.str [c])] (.d (.int .i64 (Lib.indexAny s [c]))) := by
  refine CP.ofCalls (cv := .int .i64 (Lib.indexAny s [c])) (fun _ _ => .int _ _ hr) ?_
  intro g nb bx rl w cargs sh hcl hargs
  have e : cargs = #[.string ⟨s.toArray⟩, .string ⟨#[c]⟩] := args2 hcl (fun v hv => (VR.str_inv (hargs 0 _ v rfl hv)).1) (fun v hv => (VR.str_inv (hargs 1 _ v rfl hv)).1)
  subst e
  refine (Any.strings_IndexAny_one Tryz.lays153 ⟨s.toArray⟩ ⟨#[c]⟩ w rfl (fun j b h => ?_)).mono ?_
  · match j with
    | 0 => simp at h; rw [← h]; exact hc
    | j + 1 => simp at h
  · rintro e w' ⟨rfl, rfl⟩
    exact ⟨rfl, Below.refl _ _⟩
def Tryz.lays171_ren : Go.Shelf.Ren := ⟨fun | 171 => 101 | 243 => 128 | 246 => 146 | 283 => 161 | 284 => 162 | 285 => 163 | 286 => 164 | 129 => 176 | 317 => 175 | 318 => 177 | 319 => 178 | 320 => 179 | 337 => 190 | 338 => 191 | n => n, fun | 3 => 3 | 9 => 9 | 2 => 2 | 4 => 4 | 171 => 194 | 0 => 0 | 53 => 195 | 37 => 73 | 5 => 5 | 173 => 198 | 212 => 213 | 51 => 214 | 20 => 20 | 213 => 215 | 46 => 216 | 232 => 229 | 233 => 230 | n => n, fun | 17 => 2 | 18 => 4 | 19 => 5 | n => n⟩
theorem Tryz.lays171 : Go.Proofs.LaysM.n171 Tryz.prog Tryz.lays171_ren := {
  mixed := by kernel_rfl
  f129 := Tryz.func176.trans (congrArg some (by kernel_rfl))
  f171 := Tryz.func101.trans (congrArg some (by kernel_rfl))
  f243 := Tryz.func128.trans (congrArg some (by kernel_rfl))
  f246 := Tryz.func146.trans (congrArg some (by kernel_rfl))
  f283 := Tryz.func161.trans (congrArg some (by kernel_rfl))
  f284 := Tryz.func162.trans (congrArg some (by kernel_rfl))
  f285 := Tryz.func163.trans (congrArg some (by kernel_rfl))
  f286 := Tryz.func164.trans (congrArg some (by kernel_rfl))
  f317 := Tryz.func175.trans (congrArg some (by kernel_rfl))
  f318 := Tryz.func177.trans (congrArg some (by kernel_rfl))
  f319 := Tryz.func178.trans (congrArg some (by kernel_rfl))
  f320 := Tryz.func179.trans (congrArg some (by kernel_rfl))
  f337 := Tryz.func190.trans (congrArg some (by kernel_rfl))
  f338 := Tryz.func191.trans (congrArg some (by kernel_rfl))
  t0 := Tryz.underlying0
  a0 := Tryz.isAgg0
  z0 := Tryz.sizeOf0
  v0 := Tryz.zeroValue0
  t2 := Tryz.underlying2
  a2 := Tryz.isAgg2
  z2 := Tryz.sizeOf2
  v2 := Tryz.zeroValue2
  t3 := Tryz.underlying3
  a3 := Tryz.isAgg3
  z3 := Tryz.sizeOf3
  v3 := Tryz.zeroValue3
  t4 := Tryz.underlying4
  a4 := Tryz.isAgg4
  z4 := Tryz.sizeOf4
  v4 := Tryz.zeroValue4
  t5 := Tryz.underlying5
  a5 := Tryz.isAgg5
  z5 := Tryz.sizeOf5
  v5 := Tryz.zeroValue5
  t9 := Tryz.underlying9
  a9 := Tryz.isAgg9
  z9 := Tryz.sizeOf9
  v9 := Tryz.zeroValue9
  t20 := Tryz.underlying20
  a20 := Tryz.isAgg20
  z20 := Tryz.sizeOf20
  v20 := Tryz.zeroValue20
  t37 := Tryz.underlying73
  a37 := Tryz.isAgg73
  z37 := Tryz.sizeOf73
  v37 := Tryz.zeroValue73
  t46 := Tryz.underlying216
  a46 := Tryz.isAgg216
  z46 := Tryz.sizeOf216
  v46 := Tryz.zeroValue216
  t51 := Tryz.underlying214
  a51 := Tryz.isAgg214
  z51 := Tryz.sizeOf214
  v51 := Tryz.zeroValue214
  t53 := Tryz.underlying195
  a53 := Tryz.isAgg195
  z53 := Tryz.sizeOf195
  v53 := Tryz.zeroValue195
  t171 := Tryz.underlying194
  a171 := Tryz.isAgg194
  z171 := Tryz.sizeOf194
  v171 := Tryz.zeroValue194
  t173 := Tryz.underlying198
  a173 := Tryz.isAgg198
  z173 := Tryz.sizeOf198
  v173 := Tryz.zeroValue198
  t212 := Tryz.underlying213
  a212 := Tryz.isAgg213
  z212 := Tryz.sizeOf213
  v212 := Tryz.zeroValue213
  t213 := Tryz.underlying215
  a213 := Tryz.isAgg215
  z213 := Tryz.sizeOf215
  t232 := Tryz.underlying229
  a232 := Tryz.isAgg229
  z232 := Tryz.sizeOf229
  v232 := Tryz.zeroValue229
  t233 := Tryz.underlying230
  a233 := Tryz.isAgg230
  z233 := Tryz.sizeOf230
  v233 := Tryz.zeroValue230
  g17 := by kernel_rfl
  g18 := by kernel_rfl
  g19 := by kernel_rfl
  i0 := by kernel_rfl
  i2 := by kernel_rfl
  i3 := by kernel_rfl
  i4 := by kernel_rfl
  i5 := by kernel_rfl
  i9 := by kernel_rfl
  i20 := by kernel_rfl
  i37 := by kernel_rfl
  i46 := by kernel_rfl
  i51 := by kernel_rfl
  i53 := by kernel_rfl
  i171 := by kernel_rfl
  i173 := by kernel_rfl
  i212 := by kernel_rfl
  i232 := by kernel_rfl
  i233 := by kernel_rfl
  m17 := by kernel_rfl
  m18 := by kernel_rfl
  m19 := by kernel_rfl }
theorem s_Itoa (gl : Nat → List DV) (h5 : gl 5 = Lib.pow10Tab.map (.int .u64)) (n : Int) (hn : inR .i64 n) (hl : (Lib.itoa n).length ≤ big) : CP (seat gl) 174 [.d (.int .i64 n)] (.d (.str (Lib.itoa n))) := by
  refine CP.ofCalls (cv := .string ⟨(Lib.itoa n).toArray⟩) (fun _ _ => .str _ hl) ?_
  intro g nb bx rl w cargs sh hcl hargs
  have e : cargs = #[.int .i64 n] := args1 hcl (fun v hv => (VR.int_inv (hargs 0 _ v rfl hv)).1)
  subst e
  have htab : Lib.TabIs (seat gl).P w "internal/strconv.uint64pow10" .u64 Lib.pow10Tab := by
    obtain ⟨t, fr, hh⟩ := glob_ints (k := .u64) (zs := Lib.pow10Tab) sh 5 (by simp [Lib.pow10Tab]) h5
    have hg : (seat gl).P.globalNamed "internal/strconv.uint64pow10" = some ((seat gl).gn 5) := by kernel_rfl
    show World.var? _ _ _ = _
    rw [World.var?, hg]
    show (match w.heap[(seat gl).gn 5]? with | some (.cells cs _ _) => some cs | _ => none) = _
    rw [hh]
  refine (Any.strconv_Itoa Tryz.lays171 n hn.1 hn.2 w htab).mono ?_
  rintro e w' ⟨rfl, k, os, rfl⟩
  refine ⟨rfl, rfl, rfl, rfl, by show w.heap.size ≤ (w.heap ++ os).size; simp, fun b hb => ?_⟩
  show (w.heap ++ os)[b]? = _
  rw [Array.getElem?_append_left hb]
def Tryz.lays156_ren : Go.Shelf.Ren := ⟨fun | 156 => 104 | 165 => 131 | 166 => 14 | 169 => 17 | 240 => 59 | 241 => 148 | 276 => 100 | 277 => 165 | n => n, fun | 31 => 30 | 9 => 9 | 3 => 3 | 4 => 4 | 0 => 0 | 20 => 20 | 72 => 75 | 76 => 78 | 70 => 72 | 37 => 73 | 75 => 77 | 127 => 111 | 164 => 146 | 5 => 5 | 80 => 81 | n => n, fun | n => n⟩
theorem Tryz.lays156 : Go.Proofs.Lays.n156 Tryz.prog Tryz.lays156_ren := {
  mixed := by kernel_rfl
  f156 := Tryz.func104.trans (congrArg some (by kernel_rfl))
  f165 := Tryz.func131.trans (congrArg some (by kernel_rfl))
  f166 := Tryz.func14.trans (congrArg some (by kernel_rfl))
  f169 := Tryz.func17.trans (congrArg some (by kernel_rfl))
  f240 := Tryz.func59.trans (congrArg some (by kernel_rfl))
  f241 := Tryz.func148.trans (congrArg some (by kernel_rfl))
  f276 := Tryz.func100.trans (congrArg some (by kernel_rfl))
  f277 := Tryz.func165.trans (congrArg some (by kernel_rfl))
  t0 := Tryz.underlying0
  a0 := Tryz.isAgg0
  z0 := Tryz.sizeOf0
  v0 := Tryz.zeroValue0
  t3 := Tryz.underlying3
  a3 := Tryz.isAgg3
  z3 := Tryz.sizeOf3
  v3 := Tryz.zeroValue3
  t4 := Tryz.underlying4
  a4 := Tryz.isAgg4
  z4 := Tryz.sizeOf4
  v4 := Tryz.zeroValue4
  t9 := Tryz.underlying9
  a9 := Tryz.isAgg9
  z9 := Tryz.sizeOf9
  v9 := Tryz.zeroValue9
  t20 := Tryz.underlying20
  a20 := Tryz.isAgg20
  z20 := Tryz.sizeOf20
  v20 := Tryz.zeroValue20
  t31 := Tryz.underlying30
  a31 := Tryz.isAgg30
  z31 := Tryz.sizeOf30
  v31 := Tryz.zeroValue30
  t37 := Tryz.underlying73
  a37 := Tryz.isAgg73
  z37 := Tryz.sizeOf73
  v37 := Tryz.zeroValue73
  t70 := Tryz.underlying72
  a70 := Tryz.isAgg72
  z70 := Tryz.sizeOf72
  v70 := Tryz.zeroValue72
  t72 := Tryz.underlying75
  a72 := Tryz.isAgg75
  z72 := Tryz.sizeOf75
  v72 := Tryz.zeroValue75
  t75 := Tryz.underlying77
  a75 := Tryz.isAgg77
  z75 := Tryz.sizeOf77
  v75 := Tryz.zeroValue77
  t76 := Tryz.underlying78
  a76 := Tryz.isAgg78
  z76 := Tryz.sizeOf78
  v76 := Tryz.zeroValue78
  t127 := Tryz.underlying111
  a127 := Tryz.isAgg111
  z127 := Tryz.sizeOf111
  v127 := Tryz.zeroValue111
  t164 := Tryz.underlying146
  a164 := Tryz.isAgg146
  z164 := Tryz.sizeOf146
  v164 := Tryz.zeroValue146 }
theorem Tryz.lays240 : Lays.n240 Tryz.prog Tryz.lays156_ren := { Tryz.lays156 with }
theorem Tryz.Builder_X72 : Builder.X72 Tryz.prog Tryz.lays156_ren where
  sizeBuilder := by kernel_rfl
  liesBuilder := by kernel_rfl
theorem s_copyCheck_fresh (gl : Nat → List DV) (x : AV) (rl : List (Nat × Nat)) : CT (seat gl) 100 [.ptr 0 0] 1 [.var 5 [.d .nilp, x]] rl (.tup []) 1 [.var 5 [.ptr 0 0, x]] rl := by
  intro g w cargs sh hcl hargs
  obtain ⟨b, e0, hb⟩ := (hargs 0 _ _ rfl (Array.getElem?_eq_getElem (by rw [hcl]; decide))).ptr_inv
  have e : cargs = #[.pointer (some ⟨b, 0, none⟩)] := args1 hcl (fun v hv => by obtain ⟨b', e1, hb'⟩ := (hargs 0 _ v rfl hv).ptr_inv; rw [hb] at hb'; cases hb'; exact e1)
  subst e
  obtain ⟨hm, arr, t, hh, hsz, hc, hty⟩ := sh.box 0 _ b rfl hb
  have ht : t = Tryz.lays156_ren.t 72 := by rcases hty with h | h; cases h; exact h
  have hs2 : arr.size = 2 := hsz
  have h0 : w.cell? ⟨b, 0, none⟩ = some (.pointer none) := by
    have h1 : arr[0]? = some arr[0] := Array.getElem?_eq_getElem (by omega)
    have h2 := hc 0 _ arr[0] rfl h1
    have h3 : ∀ v, VR (seat gl) g rl w (.d .nilp) v → v = .pointer none := by intro v hv; cases hv with | d _ _ h => cases h; rfl
    simp only [World.cell?, hh]
    simp [h1, h3 _ h2]
  refine (Any.Builder_copyCheck_fresh Tryz.lays240 Tryz.Builder_X72 b w h0 (by simp only [World.shape?, hh]; rw [ht, hs2]) (by simp [World.frozen?, hh])).mono ?_
  rintro e w' ⟨rfl, rfl⟩
  obtain ⟨h1, h2⟩ := set_cell sh hb (o := 0) (cs := [.d .nilp, x]) (x := .ptr 0 0) (v := .pointer (some ⟨b, 0, none⟩)) rfl (Nat.zero_lt_succ _) (.ptr _ _ _ hb)
  exact ⟨_, g, rfl, h1, h2, .tup [] _ rfl fun j x y hx => by simp at hx⟩
theorem s_copyCheck_used (gl : Nat → List DV) (x : AV) (rl : List (Nat × Nat)) : CT (seat gl) 100 [.ptr 0 0] 1 [.var 5 [.ptr 0 0, x]] rl (.tup []) 1 [.var 5 [.ptr 0 0, x]] rl := by
  intro g w cargs sh hcl hargs
  obtain ⟨b, e0, hb⟩ := (hargs 0 _ _ rfl (Array.getElem?_eq_getElem (by rw [hcl]; decide))).ptr_inv
  have e : cargs = #[.pointer (some ⟨b, 0, none⟩)] := args1 hcl (fun v hv => by obtain ⟨b', e1, hb'⟩ := (hargs 0 _ v rfl hv).ptr_inv; rw [hb] at hb'; cases hb'; exact e1)
  subst e
  obtain ⟨hm, arr, t, hh, hsz, hc, hty⟩ := sh.box 0 _ b rfl hb
  have hs2 : arr.size = 2 := hsz
  have h0 : w.cell? ⟨b, 0, none⟩ = some (.pointer (some ⟨b, 0, none⟩)) := by
    have h1 : arr[0]? = some arr[0] := Array.getElem?_eq_getElem (by omega)
    obtain ⟨b', h2, hb'⟩ := (hc 0 _ arr[0] rfl h1).ptr_inv
    rw [hb] at hb'; cases hb'
    simp only [World.cell?, hh]
    simp [h1, h2]
  refine (Any.Builder_copyCheck_used Tryz.lays240 Tryz.Builder_X72 b w h0).mono ?_
  rintro e w' ⟨rfl, rfl⟩
  exact ⟨_, g, rfl, Step.refl _ _ _, sh, .tup [] _ rfl fun j x y hx => by simp at hx⟩
end Go.Proofs
namespace Go.Proofs
open Go.Shelf Go.Ab Go.RowKit
set_option maxRecDepth 100000 in
theorem Tryz.Builder_Extra : Builder.Extra Tryz.prog Tryz.lays156_ren where
  sizeBuilder := by kernel_rfl
  liesBuilder := by kernel_rfl
  t5 := Tryz.underlying5
  a5 := Tryz.isAgg5
  z5 := Tryz.sizeOf5
  v5 := Tryz.zeroValue5
  infoByte := by kernel_rfl
  cellsByte := by kernel_rfl
  sizeByte := by kernel_rfl
  neB5 := by decide
theorem s_Join (gl : Nat → List DV) (l : List (List UInt8)) (sep : List UInt8) (hl : (Lib.join l sep).length ≤ big) : CP (seat gl) 177 [.d (.sl (encS l)), .d (.str sep)] (.d (.str (Lib.join l sep))) := by
  refine CP.ofCalls (cv := .string ⟨(Lib.join l sep).toArray⟩) (fun _ _ => .str _ hl) ?_
  intro g nb bx rl w cargs sh hcl hargs
  have hc2 : cargs.size = 2 := hcl
  have h0 := hargs 0 _ (cargs[0]'(by omega)) rfl (Array.getElem?_eq_getElem (by omega))
  have e : cargs = #[cargs[0]'(by omega), .string ⟨sep.toArray⟩] := args2 hc2 (fun v hv => by rw [Array.getElem?_eq_getElem (by omega)] at hv; cases hv; rfl) (fun v hv => (VR.str_inv (hargs 1 _ v rfl hv)).1)
  generalize (cargs[0]'(by omega)) = c0 at e h0
  subst e
  by_cases hn : l = []
  · subst hn
    have : ∃ a c, c0 = .slice a 0 c := by
      cases h0 with | d _ _ h =>
      generalize hx : DV.sl (encS []) = dv at h
      cases h with
      | slnil => exact ⟨_, _, rfl⟩
      | sle a => exact ⟨_, _, rfl⟩
      | sl xs blk off cap es c hlen hcap hes hmk hc hv => cases hx; exact ⟨_, _, rfl⟩
      | _ => cases hx
    obtain ⟨a, c, rfl⟩ := this
    refine (Any.strings_Join_none Tryz.lays156 Tryz.Builder_Extra a c ⟨sep.toArray⟩ w).mono ?_
    rintro e w' ⟨rfl, rfl⟩
    exact ⟨rfl, Below.refl _ _⟩
  · have : ∃ blk off cap, c0 = .slice (some ⟨blk, off, none⟩) l.length cap ∧ l.length ≤ cap ∧ l.length ≤ big ∧ ∀ (j : Nat) (x : List UInt8), l[j]? = some x → w.cell? ⟨blk, off + j, none⟩ = some (.string ⟨x.toArray⟩) := by
      cases h0 with | d _ _ h =>
      generalize hx : DV.sl (encS l) = dv at h
      cases h with
      | slnil => cases l with | nil => exact absurd rfl hn | cons x r => simp [encS] at hx
      | sle a => cases l with | nil => exact absurd rfl hn | cons x r => simp [encS] at hx
      | sl xs blk off cap es c hlen hcap hes hmk hc hv =>
        cases hx
        have hll : (encS l).length = l.length := zX l
        have hes1 : es = 1 := by
          cases l with
          | nil => exact absurd rfl hn
          | cons x r => have := hes [.str x] (by simp [encS]); simpa using this.symm
        subst hes1
        refine ⟨blk, off, cap, by rw [hll], by omega, by omega, fun j x hj => ?_⟩
        have hj2 := (List.getElem?_eq_some_iff.1 hj).1
        have h2 := hc j 0 (by omega) (by omega)
        have h3 := hv j 0 [.str x] (.str x) (by simp [encS, hj]) rfl
        rw [show off + (j * 1 + 0) = off + j by omega] at h2
        rw [h2]
        generalize c j 0 = cv at h3
        cases h3; rfl
      | _ => cases hx
    obtain ⟨blk, off, cap, rfl, k1, k2, k3⟩ := this
    have hlt : blk < w.heap.size := by
      cases l with
      | nil => exact absurd rfl hn
      | cons x r =>
        have := k3 0 x rfl
        simp only [World.cell?] at this
        cases hh : w.heap[blk]? with
        | none => simp [hh] at this
        | some o => exact (Array.getElem?_eq_some_iff.1 hh).1
    have hj : (l.map fun x => (⟨x.toArray⟩ : ByteArray)).map (·.data.toList) = l := by
      rw [List.map_map]; exact (List.map_congr_left fun x _ => rfl).trans (List.map_id l)
    have := Any.strings_Join Tryz.lays156 Tryz.Builder_Extra blk off cap (l.map fun x => ⟨x.toArray⟩) ⟨sep.toArray⟩ w (fun j x hx => by
      rw [List.getElem?_map] at hx
      cases hh : l[j]? with
      | none => rw [hh] at hx; cases hx
      | some y => rw [hh] at hx; cases hx; exact k3 j y hh) hlt (by simpa [big] using k2) (by simpa using k1) (by rw [hj]; simpa [big] using hl)
    rw [hj, List.length_map] at this
    exact this
end Go.Proofs
namespace Go.Ab
open Go
theorem dec_big {n : Int} (h : inR .i64 n) : (dec n).length ≤ big := by have := dec_len h; unfold big; omega
theorem t_itoa (gl : Nat → List DV) (h5 : gl 5 = Lib.pow10Tab.map (.int .u64)) (n : Int) (h : inR .i64 n) : CP (seat gl) 174 [.d (.int .i64 n)] (.d (.str (dec n))) := by
  have := Go.Proofs.s_Itoa gl h5 n h (by rw [itoa_dec]; exact dec_big h)
  rw [itoa_dec] at this
  exact this
theorem t_any (gl : Nat → List DV) (s : Str) (hs : s.length ≤ 1000000) : CP (seat gl) 338 [.d (.str s), .d (.str [58])] (.d (.int .i64 (ixB s 58))) := by
  have e := indexAny_ix s 58
  have := Go.Proofs.s_IndexAny gl s 58 (by decide) (by
    rw [e]
    have := cl_le s 58
    have h2 : -1 ≤ ixB s 58 ∧ ixB s 58 ≤ 1000000 := by unfold ixB; split <;> omega
    exact ⟨by omega, by omega⟩)
  rw [e] at this
  exact this
theorem t_has (gl : Nat → List DV) (s : Str) (c : UInt8) : CP (seat gl) 367 [.d (.str s), .d (.str [c])] (.d (.bool (pb (c ∈ s)))) := by
  rw [← has_pb]
  exact Go.Proofs.s_Contains gl s c
theorem t_join (gl : Nat → List DV) (l : List Str) (h : (jn l).length ≤ 140737488355328) : CP (seat gl) 177 [.d (.sl (encS l)), .d (.str [32])] (.d (.str (jn l))) :=
  Go.Proofs.s_Join gl l [32] h
theorem t_cc (gl : Nat → List DV) : K_cc (seat gl) := by
  intro pv x rl hp
  rcases hp with rfl | rfl
  · exact Go.Proofs.s_copyCheck_fresh gl x rl
  · exact Go.Proofs.s_copyCheck_used gl x rl
end Go.Ab
namespace Go.Proofs.YtkablfpnjfbhfaaGreatDoor.teaWrite
open Go Go.ChangeShapes Go.WideShapes Go.ChangeAt Go.RowKit Go.Ab
theorem tyOk : TyOk Tryz.prog where
  i := by kernel_rfl
  s := by kernel_rfl
  b := by kernel_rfl
  u22 := by kernel_rfl
  u30 := by kernel_rfl
  u36 := by kernel_rfl
  u39 := by kernel_rfl
  u42 := by kernel_rfl
  u43 := by kernel_rfl
  u46 := by kernel_rfl
  u31 := by kernel_rfl
  u50 := ⟨_, Tryz.underlying50, rfl⟩
  u35 := ⟨_, Tryz.underlying35, rfl⟩
  u38 := ⟨_, Tryz.underlying38, rfl⟩
  u41 := ⟨_, Tryz.underlying41, rfl⟩
  u33 := ⟨_, Tryz.underlying33, rfl⟩
  u45 := ⟨_, Tryz.underlying45, rfl⟩
  u48 := ⟨_, Tryz.underlying48, rfl⟩
  u160 := ⟨_, Tryz.underlying160, rfl⟩
  u163 := ⟨_, Tryz.underlying163, rfl⟩
def argTys : List TypeId := [22, 50, 3, 9, 35, 38, 41, 45, 48, 33, 30, 36, 39, 42, 43, 4, 46, 31, 160, 163]
def varTys : List TypeId := [109, 188, 213, 9, 179, 195]
theorem argTys_ok : argTys.all (okTy Tryz.prog argTys) = true := by kernel_rfl
theorem varTys_ok : varTys.all (okTy Tryz.prog varTys) = true := by kernel_rfl
theorem kids : Kids Tryz.prog (· < Tryz.prog.types.size) := kids_rows (by kernel_rfl) (by kernel_rfl)
theorem full : ∀ t e, t < Tryz.prog.types.size → Tryz.prog.underlying t = some (.slice e) → 0 < Tryz.prog.cellsOf e := slices_full_of Tryz.prog (by kernel_rfl)
theorem glob_types : (Tryz.prog.globals.toList.all fun g => Nat.blt g.type Tryz.prog.types.size) = true := by kernel_rfl
theorem globT (n : String) (g : Nat) (t : TypeId) (_ : Tryz.prog.globalNamed n = some g) (h : (Tryz.prog.globals[g]?).map (·.type) = some t) : t < Tryz.prog.types.size := by
  obtain ⟨x, hx, rfl⟩ := Option.map_eq_some_iff.1 h
  exact Nat.le_of_ble_eq_true (List.all_eq_true.1 glob_types x (Array.mem_toList_iff.2 (Array.mem_of_getElem? hx)))
theorem types_size : Nat.blt 22 Tryz.prog.types.size = true := by kernel_rfl
noncomputable def glW : Nat → List DV
  | 0 => evWD
  | 1 => rowsD
  | 5 => Lib.pow10Tab.map (.int .u64)
  | _ => []
theorem ev_is : evWD = dvs (H := Unit) Rows.laid_loop_example_teagle_impl_eventWords := by kernel_rfl
theorem rows_is : rowsD = dvs (H := Unit) Rows.laid_loop_example_teagle_impl_opRows := by kernel_rfl
theorem pow_is : Lib.pow10Tab.map (DV.int .u64) = dvs (H := Unit) Rows.laid_internal_strconv_uint64pow10 := by kernel_rfl
theorem plainVars : (Rows.fnExactTeaWriteRow.laid.filter fun x => x.2.handleName?.isSome) = [] := by kernel_rfl
theorem laid_plain {W : World} (h : laidMetH Tryz.prog Rows.fnExactTeaWriteRow.laid W) : laidMet Tryz.prog Rows.fnExactTeaWriteRow.laid W := by
  unfold laidMetH at h
  rw [plainVars] at h
  exact h
theorem gn0 : Tryz.prog.globalNamed "loop.example/teagle/impl.eventWords" = some 0 := by kernel_rfl
theorem gn1 : Tryz.prog.globalNamed "loop.example/teagle/impl.opRows" = some 1 := by kernel_rfl
theorem gn2 : Tryz.prog.globalNamed "internal/strconv.uint64pow10" = some 2 := by kernel_rfl
theorem gt0 : (Tryz.prog.globals[0]?).map (·.type) = some 109 := by kernel_rfl
theorem gt1 : (Tryz.prog.globals[1]?).map (·.type) = some 188 := by kernel_rfl
theorem gt2 : (Tryz.prog.globals[2]?).map (·.type) = some 213 := by kernel_rfl
theorem wt0 : ((Rows.laid_loop_example_teagle_impl_eventWords : DataW Unit).weights Tryz.prog 109).all (fun y => Nat.ble y reachBytes) = true := by kernel_rfl
theorem wt1 : ((Rows.laid_loop_example_teagle_impl_opRows : DataW Unit).weights Tryz.prog 188).all (fun y => Nat.ble y reachBytes) = true := by kernel_rfl
theorem wt2 : ((Rows.laid_internal_strconv_uint64pow10 : DataW Unit).weights Tryz.prog 213).all (fun y => Nat.ble y reachBytes) = true := by kernel_rfl
theorem globs {W : World} (h : laidMetH Tryz.prog Rows.fnExactTeaWriteRow.laid W) (i : Nat) : GlobR (seat glW) (gh0 W) [] W i := by
  have hl := laid_plain h
  match i with
  | 0 => exact glob_of (L := seat glW) (i := 0) varTys varTys_ok gn0 hl (List.mem_cons_of_mem _ (List.mem_cons_of_mem _ (List.mem_cons_of_mem _ (List.mem_cons_of_mem _ (List.mem_cons_self ..))))) (fun t ht => by
      obtain rfl := Option.some.inj (gt0.symm.trans ht)
      exact ⟨by decide, wt0⟩) ev_is
  | 1 => exact glob_of (L := seat glW) (i := 1) varTys varTys_ok gn1 hl (List.mem_cons_of_mem _ (List.mem_cons_of_mem _ (List.mem_cons_of_mem _ (List.mem_cons_self ..)))) (fun t ht => by
      obtain rfl := Option.some.inj (gt1.symm.trans ht)
      exact ⟨by decide, wt1⟩) rows_is
  | 5 => exact glob_of (L := seat glW) (i := 5) varTys varTys_ok gn2 hl (List.mem_cons_of_mem _ (List.mem_cons_of_mem _ (List.mem_cons_self ..))) (fun t ht => by
      obtain rfl := Option.some.inj (gt2.symm.trans ht)
      exact ⟨by decide, wt2⟩) pow_is
  | 2 => exact glob_nil rfl
  | 3 => exact glob_nil rfl
  | 4 => exact glob_nil rfl
  | n + 6 => exact glob_nil rfl
theorem law (l : List Te) : CP (seat glW) 3 [.d (.sl (l.map teD))] (.d (.bool true)) :=
  law_link glW rfl rfl (t_cc glW) (t_itoa glW rfl) (t_any glW) (t_has glW) (t_join glW) l
set_option maxRecDepth 100000 in
theorem contract (H : Type) (enc : TypeId × Value → H) (W : World) (base : Nat) (args : Array Value) (ds gs : List (DataW H)) (before : List MemPlace)
    (hval : ∀ (j : Nat) t v, Tryz.f3.params[j]? = some t → args[j]? = some v → Value.okWide Tryz.prog W .any base t v)
    (hW : DataW.Whole enc Tryz.prog Tryz.f3.params.toList Rows.fnExactTeaWriteSpec.vars false W args.toList ds gs before)
    (hwt : (DataW.weightsEach Tryz.prog (Tryz.f3.params.toList ++ Rows.fnExactTeaWriteSpec.vars.filterMap fun n => (Tryz.prog.globalNamed n).bind fun g => (Tryz.prog.globals[g]?).map (·.type)) (ds ++ gs)).all (· ≤ reachBytes) = true)
    (hL : laidMetH Tryz.prog Rows.fnExactTeaWriteRow.laid W) :
    Calls Tryz.prog 3 args W fun e W' => ∃ v, e = .returned v ∧ Rows.fnExactTeaWriteSpec.post enc Tryz.prog Tryz.f3 false true false false W args v W' := by
  have hW' := hW
  obtain ⟨p, q, hA0, hV, rfl, hfz, hnd⟩ := hW
  have hA : DataW.TrodAll enc Tryz.prog W 0 (fun _ => true) true Tryz.f3.params.toList args.toList ds p := hA0
  rw [Tryz.params3] at hA hval hwt
  obtain ⟨v0, vs0, d0, ds0, p0, q0, hargs, rfl, rfl, h0, r0⟩ := trodAll_cons hA
  obtain ⟨rfl, rfl, rfl⟩ := trodAll_nil r0
  obtain rfl : args = #[v0] := by cases args; simp_all
  obtain ⟨g1, gs1, _, _, _, _, p1, q1, rfl, -, -, -, -, hV1, -⟩ : ∃ (d : DataW H) (ds : List (DataW H)) (_ : Nat) (_ : Nat) (_ : Nat) (_ : Nat) (p q : List MemPlace), gs = d :: ds ∧ True ∧ True ∧ True ∧ True ∧ DataW.TrodVars enc Tryz.prog W (fun _ => true) ["loop.example/teagle/impl.eventWords"] ds q ∧ True := by
    match gs, hV with
    | d :: ds, ⟨g, t, cs, fuel, p, q, h1, h2, h3, h4, h5, e⟩ => exact ⟨d, ds, 0, 0, 0, 0, p, q, rfl, trivial, trivial, trivial, trivial, h5, trivial⟩
  obtain ⟨g2, rfl⟩ : ∃ (d : DataW H), gs1 = [d] := by
    match gs1, hV1 with
    | [d], _ => exact ⟨d, rfl⟩
    | d :: d' :: ds, ⟨g, t, cs, fuel, p, q, h1, h2, h3, h4, h5, e⟩ => exact h5.elim
  obtain ⟨n, h0⟩ := h0
  obtain ⟨⟨r1, r2⟩, hfit⟩ := open_fit (w := W) argTys argTys_ok n 22 _ (d0, p0) (List.mem_cons_self ..) (fun y hy => by
    have := List.all_eq_true.1 hwt y (by
      show y ∈ DataW.weightsEach Tryz.prog (22 :: _) (d0 :: _)
      unfold DataW.weightsEach
      exact List.mem_append_left _ hy)
    exact of_decide_eq_true this) h0
  obtain ⟨l, hl⟩ := ty_teas tyOk hfit
  rw [hl] at r1 r2
  obtain ⟨c, hc⟩ : ∃ c, v0.cells.toList = [c] := by
    match hv : v0.cells.toList, r1 with
    | [c], _ => exact ⟨c, rfl⟩
  have hdr := r2 0 _ c rfl (by rw [hc]; rfl)
  obtain rfl := cell_of_slice Tryz.underlying22 (hval 0 22 v0 rfl rfl) hc
  have hcall := law l 0 [] [] (gh0 W) W #[v0] (rest_sh (globs hL)) rfl (fun j x y hx hy => by
    match j with
    | 0 => simp at hx hy; subst hx; subst hy; exact .d _ _ hdr
    | j + 1 => simp at hx)
  refine hcall.mono fun e W' h => ?_
  obtain ⟨cv, g', rfl, st, _, hv⟩ := h
  obtain rfl : cv = .bool true := by
    cases hv with
    | d v c h => cases h; rfl
  have hfr : ∀ b, b < W.heap.size → W'.heap[b]? = W.heap[b]? := fun b hb => st.frame b hb (by simp [gh0]) (by simp [gh0])
  exact ⟨_, rfl, post_old kids full globT (fun t ht => by
      rw [Tryz.params3] at ht
      simp at ht
      subst ht
      exact Nat.le_of_ble_eq_true types_size) hW' (fun _ _ _ => trodAll_cons_mk (shut_bool Tryz.underlying4 _) trodAll_mk0) rfl rfl st.os st.output hfr (ok_one (by kernel_rfl) rfl (okWide_bool_mk Tryz.underlying4 _))⟩
mutual
def cellsD : DataW Unit → List Value
  | .lit (.bool b) => [.bool b]
  | .lit (.int k n) => [.int k n]
  | .lit (.string s) => [.string ⟨s.toArray⟩]
  | .agg ps => cellsDs ps
  | _ => []
def cellsDs : List (DataW Unit) → List Value
  | [] => []
  | d :: r => cellsD d ++ cellsDs r
end
def lay (d : DataW Unit) : Obj → Obj
  | .cells _ t frozen => .cells (cellsD d).toArray t frozen
  | o => o
noncomputable def laidWorld (os : Os) : World :=
  { World.holding Tryz.prog os ⟨#[], #[], []⟩ with heap := (((((World.holding Tryz.prog os ⟨#[], #[], []⟩).heap.modify 0 (lay Rows.laid_loop_example_teagle_impl_eventWords)).modify 1 (lay Rows.laid_loop_example_teagle_impl_opRows)).modify 2 (lay Rows.laid_internal_strconv_uint64pow10)).modify 4 (lay Rows.laid_math_bits_deBruijn32tab)).modify 5 (lay Rows.laid_math_bits_deBruijn64tab) }
def wArgs : Array Value := #[.slice none 0 0]
set_option maxRecDepth 100000 in
theorem laid_met (os : Os) : laidMet Tryz.prog Rows.fnExactTeaWriteRow.laid ((laidWorld os).forCall (fun _ _ => 0) ⟨#[], wArgs, []⟩).memory :=
  laidMet_of_run' 8 (by kernel_rfl) (by kernel_rfl)
set_option maxRecDepth 100000 in
theorem reads (os : Os) {H : Type} (enc : TypeId × Value → H) : ∃ places, DataW.whole enc Tryz.prog ((laidWorld os).forCall (fun _ _ => 0) ⟨#[], wArgs, []⟩).memory Tryz.f3.params.toList Rows.fnExactTeaWriteSpec.vars false wArgs.toList 8 = some ([.nil], [Rows.laid_loop_example_teagle_impl_opRows, Rows.laid_loop_example_teagle_impl_eventWords], places) :=
  ⟨MemPlace.row ⟨1, 0, none⟩ 78 ++ MemPlace.row ⟨0, 0, none⟩ 8, by kernel_rfl⟩
theorem own : ownKnob Tryz.prog.godebug = none := by kernel_rfl
set_option maxRecDepth 100000 in
theorem lifted (os : Os) (started : os.Started) (H : Type) (enc : TypeId × Value → H) (F : Stop.Interp) :
    ReturnsInHanded {} Tryz.checked os 3 .any ((OpenSpec.ofChange Rows.fnExactTeaWriteSpec).preRow enc Tryz.prog Tryz.f3 Rows.fnExactTeaWriteRow.domain false Rows.fnExactTeaWriteRow.laid) (((OpenSpec.ofChange Rows.fnExactTeaWriteSpec).at F).post enc Tryz.prog Tryz.f3 false true false false) := by
  obtain ⟨places, hx⟩ := reads os enc
  refine returnsInHanded_of_row (C := Tryz.checked) (s := OpenSpec.ofChange Rows.fnExactTeaWriteSpec) own started (by kernel_rfl) Tryz.func3
    (witness_row_at (enc := enc) (C := Tryz.checked) false (laidWorld os) wArgs rfl (by kernel_rfl) (by kernel_rfl) (by kernel_rfl)
      (OpenSpec.preRow_of_cond 8 hx (by kernel_rfl) (fun k hk => by cases hk) (by kernel_rfl) (laid_met os))) ?_
  intro W base args ds gs before hval hW _ _ hwt hL _ _
  exact contract H enc W base args ds gs before hval hW hwt hL
theorem said : Rows.FnExactTeaWriteSaid :=
  OpenClaim.holds_of_cond 3 Tryz.f3 rfl rfl rfl rfl rfl rfl rfl ⟨rfl, rfl, rfl, rfl, rfl⟩ rfl rfl rfl rfl rfl (by kernel_rfl) Tryz.func3 (by kernel_rfl)
    (of_decide_eq_true (by kernel_rfl)) (by unfold Func.isWrapper; first | (rw [if_pos (by decide +kernel)]; kernel_rfl) | (rw [if_neg (by decide +kernel)]; exact ⟨rfl, rfl⟩))
    (fun os started H enc _ F => by rw [OpenClaim.pre_eq_preRow]; exact lifted os started H enc F)
theorem plain (f : FuncId) (fn : Func) (hf : Tryz.pinned.checked.prog.funcNamed "loop.example/teagle/laws.FnExactTeaWrite" = some f) (hfn : Tryz.pinned.checked.prog.funcs[f]? = some fn) :
    false = Tryz.pinned.checked.prog.looks [] ∧ ∀ (j : Nat) t, fn.params[j]? = some t → Tryz.pinned.checked.prog.wantsStandIn t = false := by
  obtain rfl : f = 3 := Option.some.inj ((show Tryz.prog.funcNamed "loop.example/teagle/laws.FnExactTeaWrite" = some 3 by kernel_rfl).symm.trans hf) |>.symm
  obtain rfl : fn = Tryz.f3 := (Option.some.inj (Tryz.func3.symm.trans hfn)).symm
  refine ⟨by kernel_rfl, fun j t ht => ?_⟩
  rw [Tryz.params3] at ht
  obtain rfl : t = 22 := by simpa using Array.mem_of_getElem? ht
  exact (show Tryz.prog.wantsStandIn 22 = false by kernel_rfl)
theorem card : Rows.FnExactTeaWriteCardSaid :=
  Claim7.holds_tied_plain_at .later [] _ _ _ _ said (fun _ h => by cases h) (by kernel_rfl) (fun _ h => by cases h) fnExactTeaWrite_row_tie rfl ⟨rfl, rfl⟩ (by kernel_rfl) rfl plain (by kernel_rfl)
end Go.Proofs.YtkablfpnjfbhfaaGreatDoor.teaWrite
