import Derived.Test.YtnklkkagpkcmfaaGreatDoorGI4
set_option linter.all false
set_option maxRecDepth 100000
namespace Go.Proofs.YtnklkkagpkcmfaaGreatDoor
open Go Go.Eng
theorem e1235_ok : Okc e1235 := okc KO1_ok (OkL.cons e8_ok (OkL.cons e10_ok (OkL.cons e14_ok (OkL.cons e19_ok (OkL.cons e21_ok (OkL.cons e23_ok (OkL.cons e30_ok (OkL.cons e39_ok (OkL.cons e45_ok (OkL.cons e67_ok (OkL.cons e112_ok (OkL.cons e676_ok (OkL.cons e714_ok (OkL.cons e931_ok (OkL.cons e1179_ok (OkL.cons e1197_ok OkL.nil)))))))))))))))) nXV_ok (by kernel_rfl)
theorem e1250_ok : Okc e1250 := okc KO1_ok (OkL.cons e564_ok (OkL.cons e586_ok (OkL.cons e624_ok (OkL.cons e640_ok (OkL.cons e641_ok (OkL.cons h642_ok (OkL.cons e651_ok (OkL.cons e773_ok (OkL.cons e825_ok (OkL.cons h827_ok (OkL.cons e840_ok (OkL.cons e852_ok (OkL.cons h885_ok (OkL.cons e896_ok (OkL.cons e1127_ok (OkL.cons e1235_ok OkL.nil)))))))))))))))) nXV_ok (by kernel_rfl)
theorem e1253_ok : Okc e1253 := okc KO1_ok (OkL.cons e7_ok (OkL.cons e10_ok (OkL.cons e23_ok (OkL.cons e64_ok (OkL.cons e67_ok (OkL.cons e69_ok (OkL.cons e90_ok (OkL.cons e99_ok (OkL.cons e214_ok (OkL.cons e228_ok (OkL.cons h233_ok (OkL.cons e440_ok (OkL.cons h444_ok (OkL.cons e478_ok (OkL.cons h480_ok (OkL.cons e547_ok (OkL.cons e564_ok (OkL.cons e586_ok (OkL.cons e606_ok (OkL.cons e624_ok (OkL.cons e773_ok (OkL.cons e820_ok (OkL.cons e852_ok (OkL.cons e878_ok (OkL.cons e1250_ok OkL.nil))))))))))))))))))))))))) nXV_ok (by kernel_rfl)
end Go.Proofs.YtnklkkagpkcmfaaGreatDoor
