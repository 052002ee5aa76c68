import Derived.Test.YtnklkkagpkcmfaaGreatDoorGI3
set_option linter.all false
set_option maxRecDepth 100000
namespace Go.Proofs.YtnklkkagpkcmfaaGreatDoor
open Go Go.Eng
theorem e952_ok : Okc e952 := okc KO1_ok (OkL.cons e7_ok (OkL.cons e8_ok (OkL.cons e105_ok (OkL.cons e106_ok (OkL.cons e673_ok (OkL.cons e676_ok (OkL.cons e931_ok OkL.nil))))))) nXV_ok (by kernel_rfl)
theorem e960_ok : Okc e960 := okc KO1_ok OkL.nil nXV_ok (by kernel_rfl)
theorem e1070_ok : Okc e1070 := okc KO1_ok (OkL.cons e8_ok (OkL.cons e14_ok (OkL.cons e19_ok (OkL.cons e21_ok (OkL.cons e23_ok (OkL.cons e39_ok (OkL.cons e272_ok (OkL.cons e673_ok (OkL.cons e676_ok (OkL.cons e686_ok (OkL.cons e714_ok (OkL.cons e931_ok OkL.nil)))))))))))) nXV_ok (by kernel_rfl)
theorem e1076_ok : Okc e1076 := okc KO1_ok (OkL.cons e14_ok (OkL.cons e19_ok (OkL.cons e960_ok OkL.nil))) nXV_ok (by kernel_rfl)
theorem e1095_ok : Okc e1095 := okc KO1_ok (OkL.cons e14_ok (OkL.cons e19_ok OkL.nil)) nXV_ok (by kernel_rfl)
theorem e1125_ok : Okc e1125 := okc KO1_ok (OkL.cons e8_ok (OkL.cons e10_ok (OkL.cons e15_ok (OkL.cons e19_ok (OkL.cons e21_ok (OkL.cons e23_ok (OkL.cons e30_ok (OkL.cons e45_ok (OkL.cons e673_ok (OkL.cons e676_ok (OkL.cons e960_ok (OkL.cons e1076_ok (OkL.cons e1095_ok OkL.nil))))))))))))) nXV_ok (by kernel_rfl)
theorem e1127_ok : Okc e1127 := okc KO1_ok (OkL.cons e7_ok (OkL.cons e8_ok (OkL.cons e10_ok (OkL.cons e14_ok (OkL.cons e19_ok (OkL.cons e69_ok (OkL.cons e272_ok (OkL.cons e547_ok (OkL.cons e678_ok (OkL.cons e931_ok (OkL.cons e952_ok (OkL.cons e960_ok (OkL.cons e1070_ok (OkL.cons e1125_ok OkL.nil)))))))))))))) nXV_ok (by kernel_rfl)
theorem e1143_ok : Okc e1143 := okc KO1_ok (OkL.cons e14_ok (OkL.cons e19_ok OkL.nil)) nXV_ok (by kernel_rfl)
theorem e1160_ok : Okc e1160 := okc KO1_ok (OkL.cons e14_ok (OkL.cons e19_ok OkL.nil)) nXV_ok (by kernel_rfl)
theorem e1179_ok : Okc e1179 := okc KO1_ok (OkL.cons e7_ok (OkL.cons e8_ok (OkL.cons e10_ok (OkL.cons e19_ok (OkL.cons e21_ok (OkL.cons e23_ok (OkL.cons e30_ok (OkL.cons e45_ok (OkL.cons e105_ok (OkL.cons e106_ok (OkL.cons e153_ok (OkL.cons e161_ok (OkL.cons e171_ok (OkL.cons e960_ok (OkL.cons e1076_ok (OkL.cons e1143_ok (OkL.cons e1160_ok OkL.nil))))))))))))))))) nXV_ok (by kernel_rfl)
theorem e1197_ok : Okc e1197 := okc KO1_ok (OkL.cons e8_ok (OkL.cons e19_ok (OkL.cons e21_ok (OkL.cons e23_ok (OkL.cons e45_ok (OkL.cons e714_ok OkL.nil)))))) nXV_ok (by kernel_rfl)
end Go.Proofs.YtnklkkagpkcmfaaGreatDoor
