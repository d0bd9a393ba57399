/-
  The chapter's examples, reckoned. No program is named here.
-/
import Derived.Test.YtleniljhacnikaaSpecA
import Derived.WalkKit
namespace Go.Proofs.Ytleniljhacnikaa

def l0 : List Row := [([0, 1], 3), ([1, 2], 2)]
def wM : M := fun x y => if x = 0 ∧ (y = 1 ∨ y = 2) then 3 else if x = 1 ∧ y = 0 ∨ x = 2 ∧ y = 0 then 2 else if x = 1 ∧ y = 2 then 5 else 0
def bM : M := fun x y => if x = 0 ∧ y = 0 then 1 else wM x y

theorem ex_of : checkS 3 1 l0 = 0 := by kernel_rfl
theorem ex_ofM : matEq (ofR 3 1 l0) wM = true := by kernel_rfl
theorem ex_none : checkS 0 0 [] = 8 := by kernel_rfl
theorem ex_w3 : winErr wM 3 = 0 := by kernel_rfl
theorem ex_w3L : winM wM 3 = [2, 1, 0] := by kernel_rfl
theorem ex_w0 : winErr wM 0 = 2 := by kernel_rfl
theorem ex_w2 : winErr wM 2 = 8 := by kernel_rfl
theorem ex_sum : sumErr wM wM = 0 := by kernel_rfl
theorem ex_sumM : sumM wM wM 1 2 = 10 := by kernel_rfl
theorem ex_ren : renErr wM [1, 0, 2] = 0 := by kernel_rfl
theorem ex_renM1 : renM wM [1, 0, 2] 0 1 = 2 := by kernel_rfl
theorem ex_renM2 : renM wM [1, 0, 2] 1 0 = 3 := by kernel_rfl
theorem ex_ren2 : renErr wM [1, 0] = 8 := by kernel_rfl
theorem ex_ren3 : renErr wM [1, 1, 0] = 2 := by kernel_rfl
theorem ex_m01 : marginS wM 0 1 = 1 := by kernel_rfl
theorem ex_m10 : marginS wM 1 0 = -1 := by kernel_rfl
theorem ex_m20 : marginS wM 2 0 = -1 := by kernel_rfl
theorem ex_b20 : marginS bM 2 0 = 0 := by kernel_rfl
theorem ex_r3 : rightS wM 3 = true := by kernel_rfl
theorem ex_r2 : rightS wM 2 = false := by kernel_rfl
theorem ex_b3 : rightS bM 3 = false := by kernel_rfl
end Go.Proofs.Ytleniljhacnikaa
