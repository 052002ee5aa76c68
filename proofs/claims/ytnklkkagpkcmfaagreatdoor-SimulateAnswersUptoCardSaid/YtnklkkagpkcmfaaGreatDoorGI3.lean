import Derived.Test.YtnklkkagpkcmfaaGreatDoorGI2
set_option linter.all false
set_option maxRecDepth 100000
namespace Go.Proofs.YtnklkkagpkcmfaaGreatDoor
open Go Go.Eng
theorem e771_ok : Okc e771 := okc KO1_ok (OkL.cons e7_ok (OkL.cons e8_ok (OkL.cons e14_ok (OkL.cons e15_ok (OkL.cons e19_ok (OkL.cons e21_ok (OkL.cons e69_ok (OkL.cons e105_ok (OkL.cons e106_ok (OkL.cons e541_ok (OkL.cons e673_ok (OkL.cons e676_ok (OkL.cons e678_ok (OkL.cons e686_ok (OkL.cons e714_ok OkL.nil))))))))))))))) nXV_ok (by kernel_rfl)
theorem e773_ok : Okc e773 := okc KO1_ok (OkL.cons e547_ok (OkL.cons e771_ok OkL.nil)) nXV_ok (by kernel_rfl)
theorem e790_ok : Okc e790 := okc KO1_ok OkL.nil nXV_ok (by kernel_rfl)
theorem e810_ok : Okc e810 := okc KO1_ok OkL.nil nXV_ok (by kernel_rfl)
theorem e820_ok : Okc e820 := okc KO1_ok (OkL.cons e564_ok (OkL.cons e586_ok (OkL.cons e624_ok (OkL.cons e640_ok (OkL.cons e641_ok (OkL.cons h642_ok (OkL.cons e651_ok (OkL.cons e773_ok (OkL.cons e790_ok (OkL.cons e810_ok OkL.nil)))))))))) nXV_ok (by kernel_rfl)
theorem e825_ok : Okc e825 := okc KO1_ok OkL.nil nXV_ok (by kernel_rfl)
theorem e829_ok : Okc e829 := okc KO1_ok (OkL.cons e640_ok (OkL.cons e641_ok (OkL.cons h642_ok (OkL.cons e825_ok (OkL.cons h827_ok OkL.nil))))) nXV_ok (by kernel_rfl)
theorem e840_ok : Okc e840 := okc KO1_ok (OkL.cons e790_ok OkL.nil) nXV_ok (by kernel_rfl)
theorem e851_ok : Okc e851 := okc KO1_ok OkL.nil nXV_ok (by kernel_rfl)
theorem e852_ok : Okc e852 := okc KO1_ok (OkL.cons e851_ok OkL.nil) nXV_ok (by kernel_rfl)
theorem e868_ok : Okc e868 := okc KO1_ok OkL.nil nXV_ok (by kernel_rfl)
theorem e878_ok : Okc e878 := okc KO1_ok (OkL.cons e564_ok (OkL.cons e586_ok (OkL.cons e624_ok (OkL.cons e651_ok (OkL.cons e773_ok (OkL.cons e829_ok (OkL.cons e840_ok (OkL.cons e852_ok (OkL.cons e868_ok OkL.nil))))))))) nXV_ok (by kernel_rfl)
theorem e896_ok : Okc e896 := okc KO1_ok OkL.nil nXV_ok (by kernel_rfl)
theorem e931_ok : Okc e931 := okc KO1_ok OkL.nil nXV_ok (by kernel_rfl)
end Go.Proofs.YtnklkkagpkcmfaaGreatDoor
