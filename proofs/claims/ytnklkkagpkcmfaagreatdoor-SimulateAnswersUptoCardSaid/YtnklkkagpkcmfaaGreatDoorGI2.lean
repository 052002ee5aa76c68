import Derived.Test.YtnklkkagpkcmfaaGreatDoorGI1
set_option linter.all false
set_option maxRecDepth 100000
namespace Go.Proofs.YtnklkkagpkcmfaaGreatDoor
open Go Go.Eng
theorem e394_ok : Okc e394 := okc KO1_ok (OkL.cons e7_ok (OkL.cons e8_ok (OkL.cons e10_ok (OkL.cons e14_ok (OkL.cons e15_ok (OkL.cons e19_ok (OkL.cons e21_ok (OkL.cons e23_ok (OkL.cons e33_ok (OkL.cons e67_ok (OkL.cons e239_ok (OkL.cons e272_ok (OkL.cons e392_ok OkL.nil))))))))))))) nXV_ok (by kernel_rfl)
theorem e440_ok : Okc e440 := okc KO1_ok (OkL.cons e7_ok (OkL.cons e8_ok (OkL.cons e10_ok (OkL.cons e14_ok (OkL.cons e15_ok (OkL.cons e19_ok (OkL.cons e21_ok (OkL.cons e23_ok (OkL.cons e30_ok (OkL.cons e69_ok (OkL.cons e150_ok (OkL.cons e187_ok (OkL.cons e272_ok (OkL.cons e394_ok OkL.nil)))))))))))))) nXV_ok (by kernel_rfl)
theorem e478_ok : Okc e478 := okc KO1_ok OkL.nil nXV_ok (by kernel_rfl)
theorem e541_ok : Okc e541 := okc KO1_ok (OkL.cons e7_ok (OkL.cons e8_ok (OkL.cons e10_ok (OkL.cons e15_ok (OkL.cons e63_ok OkL.nil))))) nXV_ok (by kernel_rfl)
theorem e547_ok : Okc e547 := okc KO1_ok (OkL.cons h66_ok (OkL.cons h78_ok OkL.nil)) nXV_ok (by kernel_rfl)
theorem e562_ok : Okc e562 := okc KO1_ok (OkL.cons e69_ok (OkL.cons e440_ok (OkL.cons e478_ok (OkL.cons h480_ok (OkL.cons h555_ok OkL.nil))))) nXV_ok (by kernel_rfl)
theorem e564_ok : Okc e564 := okc KO1_ok (OkL.cons e7_ok (OkL.cons e10_ok (OkL.cons e69_ok (OkL.cons e99_ok (OkL.cons e541_ok (OkL.cons e547_ok (OkL.cons h551_ok (OkL.cons e562_ok OkL.nil)))))))) nXV_ok (by kernel_rfl)
theorem e586_ok : Okc e586 := okc KO1_ok (OkL.cons e19_ok (OkL.cons e69_ok (OkL.cons e541_ok (OkL.cons e562_ok OkL.nil)))) nXV_ok (by kernel_rfl)
theorem e606_ok : Okc e606 := okc KO1_ok OkL.nil nXV_ok (by kernel_rfl)
theorem e624_ok : Okc e624 := okc KO1_ok OkL.nil nXV_ok (by kernel_rfl)
theorem e640_ok : Okc e640 := okc KO1_ok OkL.nil nXV_ok (by kernel_rfl)
theorem e641_ok : Okc e641 := okc KO1_ok OkL.nil nXV_ok (by kernel_rfl)
theorem e651_ok : Okc e651 := okc KO1_ok OkL.nil nXV_ok (by kernel_rfl)
theorem e673_ok : Okc e673 := okc KO1_ok OkL.nil nXV_ok (by kernel_rfl)
theorem e676_ok : Okc e676 := okc KO1_ok OkL.nil nXV_ok (by kernel_rfl)
theorem e678_ok : Okc e678 := okc KO1_ok (OkL.cons e19_ok (OkL.cons e67_ok (OkL.cons e673_ok (OkL.cons e676_ok OkL.nil)))) nXV_ok (by kernel_rfl)
theorem e686_ok : Okc e686 := okc KO1_ok (OkL.cons e14_ok (OkL.cons e673_ok (OkL.cons e676_ok OkL.nil))) nXV_ok (by kernel_rfl)
theorem e714_ok : Okc e714 := okc KO1_ok OkL.nil nXV_ok (by kernel_rfl)
end Go.Proofs.YtnklkkagpkcmfaaGreatDoor
