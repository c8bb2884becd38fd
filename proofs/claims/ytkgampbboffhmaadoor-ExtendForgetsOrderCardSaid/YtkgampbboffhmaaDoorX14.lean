/- The examples: seals and digests, reckoned. -/
import Derived.Test.YtkgampbboffhmaaDoorX13
set_option linter.unusedVariables false
set_option linter.unusedSimpArgs false
set_option maxRecDepth 100000
namespace Go.Proofs.YtkgampbboffhmaaDoor
open Go Go.Q

def c0 : Cou := ([0, 2, 5], ([ByteArray.mk (Array.mk [(97 : UInt8)]), ByteArray.mk (Array.mk [(98 : UInt8)]), ByteArray.mk (Array.mk [(99 : UInt8)])], (2, 100)))
def m0 : Plea := (7, (50, (150, (40, []))))
def s1 : List Int := [86, 183, 227, 46, 98, 227, 230, 143, 32, 228, 154, 190, 47, 160, 32, 42]
def s2f : List Int := [131, 217, 119, 172, 194, 178, 65, 28, 27, 85, 114, 177, 145, 40, 102, 165]
def s2t : List Int := [226, 211, 36, 158, 91, 117, 231, 151, 155, 122, 37, 173, 107, 79, 218, 52]
def s5 : List Int := [228, 25, 170, 127, 247, 146, 113, 171, 187, 31, 74, 152, 39, 251, 230, 248]

theorem mac_is {k : List Int} {l : List ByteArray} {d : List Int} (h : hmacE k (msgOf l) (fun s => eqL (s.take 16) d) = true) : mac k l = d := by
  rw [hmacE_eq] at h; exact eqL_eq h
theorem dig_is {tag : Int} {l : List ByteArray} {d : List Int} (h : shaE (inOf tag l) (fun s => eqL (s.take 16) d) = true) : dig tag l = d := by
  rw [shaE_eq] at h; exact eqL_eq h

theorem seal_s1 : sealV c0 m0 0 41 true = s1 := mac_is (by kernel_rfl)
theorem seal_s2f : sealV c0 m0 2 44 false = s2f := mac_is (by kernel_rfl)
theorem seal_s2t : sealV c0 m0 2 44 true = s2t := mac_is (by kernel_rfl)
theorem seal_s5 : sealV c0 m0 5 44 true = s5 := mac_is (by kernel_rfl)
theorem c0_ok : okC c0 = true := by kernel_rfl
theorem m0_right : rightB c0 m0 = true := by kernel_rfl

end Go.Proofs.YtkgampbboffhmaaDoor
