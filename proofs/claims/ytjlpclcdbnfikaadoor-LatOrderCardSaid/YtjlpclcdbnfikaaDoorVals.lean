/- The chapter's examples, reckoned. -/
import Derived.Test.YtjlpclcdbnfikaaDoorTop
import Derived.Test.YtjlpclcdbnfikaaDoorPrint
import Derived.Test.YtjlpclcdbnfikaaDoorP12
namespace Go.Proofs.YtjlpclcdbnfikaaDoor.P
open Go.RowKit
open Go.Proofs.YtjlpclcdbnfikaaDoorW.PrintWords

def exL : List ByteArray := [⟨#[76, 111]⟩, ⟨#[72, 105]⟩]
def exD : List ByteArray := [⟨#[76]⟩, ⟨#[65]⟩, ⟨#[66]⟩, ⟨#[72]⟩]
def exDu : List Int := [15, 10, 12, 8]
theorem ex_right_d : lat_Right.f exD exDu = some true := by decide +kernel
theorem ex_right_0 : lat_Right.f [] [] = some false := by decide +kernel
theorem ex_top : lat_Top.f exL [3, 2] = some 1 := by decide +kernel
theorem ex_bottom : lat_Bottom.f 100 exL [3, 2] = some 0 := by decide +kernel
theorem ex_join_l : lat_Join.f exL [3, 2] 0 1 = some 1 := by decide +kernel
theorem ex_join_d : lat_Join.f exD exDu 1 2 = some 3 := by decide +kernel
theorem ex_meet_d : lat_Meet.f exD exDu 1 2 = some 0 := by decide +kernel
theorem ex_find_b : lat_Find.f 100 exD exDu ⟨#[66]⟩ = some 2 := by decide +kernel
theorem ex_find_c : lat_Find.f 100 exD exDu ⟨#[67]⟩ = some (-1) := by decide +kernel
theorem ex_print : lat_Print.f exL [3, 2] = some ⟨#[76, 111, 32, 72, 105, 10, 49, 49, 10, 48, 49, 10]⟩ := by decide +kernel
theorem ex_leq_13 : lat_Leq.f exD exDu 1 3 = some true := by decide +kernel
theorem ex_leq_12 : lat_Leq.f exD exDu 1 2 = some false := by decide +kernel
theorem ex_name_a : lat_Name.f 100 ⟨#[97, 49]⟩ = some true := by decide +kernel
theorem ex_name_1 : lat_Name.f 100 ⟨#[49, 97]⟩ = some false := by decide +kernel
theorem ex_parse_1 : lat_Parse.f 1000 ⟨#[76, 111, 32, 72, 105, 10, 49, 49, 10, 48, 49, 10]⟩ = some (exL, [3, 2], 0) := by decide +kernel
theorem ex_parse_2 : lat_Parse.f 1000 ⟨#[76, 111, 32, 72, 105, 10, 49, 49, 10, 49, 49, 10]⟩ = some ([], [], 3) := by decide +kernel
theorem ex_parse_3 : lat_Parse.f 1000 ⟨#[65, 32, 66, 10, 49, 48, 10, 48, 49, 10]⟩ = some ([], [], 4) := by decide +kernel
theorem ex_parse_4 : lat_Parse.f 1000 ⟨#[65, 32, 66, 10, 49, 48, 10, 48, 49]⟩ = some ([], [], 2) := by decide +kernel
end Go.Proofs.YtjlpclcdbnfikaaDoor.P
