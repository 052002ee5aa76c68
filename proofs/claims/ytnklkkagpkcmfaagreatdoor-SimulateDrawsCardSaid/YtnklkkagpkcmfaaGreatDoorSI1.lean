import Derived.Test.YtnklkkagpkcmfaaGreatDoorSI0
set_option linter.all false
set_option maxRecDepth 100000
namespace Go.Proofs.YtnklkkagpkcmfaaGreatDoor
open Go Go.Eng

theorem e7_ok : Okc e7 := okc KO1_ok OkL.nil nXV_ok (by kernel_rfl)
theorem e8_ok : Okc e8 := okc KO1_ok OkL.nil nXV_ok (by kernel_rfl)
theorem e10_ok : Okc e10 := okc KO1_ok OkL.nil nXV_ok (by kernel_rfl)
theorem e14_ok : Okc e14 := okc KO1_ok OkL.nil nXV_ok (by kernel_rfl)
theorem e15_ok : Okc e15 := okc KO1_ok OkL.nil nXV_ok (by kernel_rfl)
theorem e19_ok : Okc e19 := okc KO1_ok OkL.nil nXV_ok (by kernel_rfl)
theorem e21_ok : Okc e21 := okc KO1_ok (OkL.cons e19_ok OkL.nil) nXV_ok (by kernel_rfl)
theorem e23_ok : Okc e23 := okc KO1_ok (OkL.cons e8_ok (OkL.cons e19_ok OkL.nil)) nXV_ok (by kernel_rfl)
theorem e30_ok : Okc e30 := okc KO1_ok (OkL.cons e14_ok (OkL.cons e19_ok OkL.nil)) nXV_ok (by kernel_rfl)
theorem e33_ok : Okc e33 := okc KO1_ok (OkL.cons e8_ok (OkL.cons e15_ok (OkL.cons e19_ok (OkL.cons e30_ok OkL.nil)))) nXV_ok (by kernel_rfl)
theorem e39_ok : Okc e39 := okc KO1_ok (OkL.cons e10_ok (OkL.cons e19_ok (OkL.cons e21_ok (OkL.cons e23_ok (OkL.cons e30_ok OkL.nil))))) nXV_ok (by kernel_rfl)
theorem e40_ok : Okc e40 := okc KO1_ok OkL.nil nXV_ok (by kernel_rfl)
theorem e45_ok : Okc e45 := okc KO1_ok (OkL.cons e19_ok OkL.nil) nXV_ok (by kernel_rfl)
theorem e63_ok : Okc e63 := okc KO1_ok (OkL.cons e8_ok (OkL.cons e10_ok (OkL.cons e14_ok (OkL.cons e15_ok (OkL.cons e19_ok (OkL.cons e21_ok (OkL.cons e23_ok (OkL.cons e33_ok (OkL.cons e39_ok (OkL.cons e40_ok (OkL.cons e45_ok OkL.nil))))))))))) nXV_ok (by kernel_rfl)
theorem e64_ok : Okc e64 := okc KO1_ok (OkL.cons e7_ok (OkL.cons e8_ok (OkL.cons e10_ok (OkL.cons e63_ok OkL.nil)))) nXV_ok (by kernel_rfl)
theorem e67_ok : Okc e67 := okc KO1_ok OkL.nil nXV_ok (by kernel_rfl)
theorem e69_ok : Okc e69 := okc KO1_ok (OkL.cons h66_ok (OkL.cons e67_ok OkL.nil)) nXV_ok (by kernel_rfl)
theorem e90_ok : Okc e90 := okc KO1_ok (OkL.cons h66_ok (OkL.cons h78_ok OkL.nil)) nXV_ok (by kernel_rfl)
theorem e99_ok : Okc e99 := okc KO1_ok (OkL.cons e8_ok (OkL.cons e15_ok (OkL.cons e19_ok (OkL.cons e30_ok OkL.nil)))) nXV_ok (by kernel_rfl)
theorem e105_ok : Okc e105 := okc KO1_ok OkL.nil nXV_ok (by kernel_rfl)
theorem e106_ok : Okc e106 := okc KO1_ok OkL.nil nXV_ok (by kernel_rfl)
theorem e112_ok : Okc e112 := okc KO1_ok (OkL.cons e8_ok (OkL.cons e19_ok OkL.nil)) nXV_ok (by kernel_rfl)
theorem e150_ok : Okc e150 := okc KO1_ok (OkL.cons e7_ok (OkL.cons e8_ok (OkL.cons e14_ok (OkL.cons e15_ok (OkL.cons e19_ok (OkL.cons e21_ok (OkL.cons e40_ok (OkL.cons e105_ok (OkL.cons e106_ok (OkL.cons e112_ok OkL.nil)))))))))) nXV_ok (by kernel_rfl)
theorem e153_ok : Okc e153 := okc KO1_ok (OkL.cons e14_ok (OkL.cons e19_ok (OkL.cons e106_ok OkL.nil))) nXV_ok (by kernel_rfl)
theorem e161_ok : Okc e161 := okc KO1_ok (OkL.cons e19_ok (OkL.cons e106_ok OkL.nil)) nXV_ok (by kernel_rfl)
theorem e171_ok : Okc e171 := okc KO1_ok (OkL.cons e19_ok (OkL.cons e30_ok (OkL.cons e106_ok (OkL.cons e153_ok OkL.nil)))) nXV_ok (by kernel_rfl)
theorem e187_ok : Okc e187 := okc KO1_ok (OkL.cons e7_ok (OkL.cons e8_ok (OkL.cons e10_ok (OkL.cons e15_ok (OkL.cons e19_ok (OkL.cons e21_ok (OkL.cons e23_ok (OkL.cons e30_ok (OkL.cons e33_ok (OkL.cons e45_ok (OkL.cons e105_ok (OkL.cons e106_ok (OkL.cons e153_ok (OkL.cons e161_ok (OkL.cons e171_ok OkL.nil))))))))))))))) nXV_ok (by kernel_rfl)
theorem e214_ok : Okc e214 := okc KO1_ok (OkL.cons e7_ok (OkL.cons e10_ok (OkL.cons e64_ok (OkL.cons e69_ok (OkL.cons e90_ok (OkL.cons h97_ok (OkL.cons e99_ok (OkL.cons e150_ok (OkL.cons e187_ok (OkL.cons h195_ok OkL.nil)))))))))) nXV_ok (by kernel_rfl)
theorem e228_ok : Okc e228 := okc KO1_ok (OkL.cons e10_ok (OkL.cons e14_ok (OkL.cons e19_ok (OkL.cons e21_ok (OkL.cons e23_ok (OkL.cons e30_ok (OkL.cons e39_ok OkL.nil))))))) nXV_ok (by kernel_rfl)
theorem e239_ok : Okc e239 := okc KO1_ok OkL.nil nXV_ok (by kernel_rfl)
theorem e272_ok : Okc e272 := okc KO1_ok OkL.nil nXV_ok (by kernel_rfl)
theorem e392_ok : Okc e392 := okc KO1_ok (OkL.cons e8_ok (OkL.cons e14_ok (OkL.cons e272_ok OkL.nil))) nXV_ok (by kernel_rfl)
end Go.Proofs.YtnklkkagpkcmfaaGreatDoor
