/- BoardNil: the statement. -/
import Derived.Test.YtobjlpfpccjneaaGreatN3
import Derived.Test.YtobjlpfpccjneaaGreatN4
import Derived.Test.YtobjlpfpccjneaaGreatN5
namespace Go.Proofs.YtobjlpfpccjneaaGreat

theorem boardNil_holds : Rows.BoardNilSaid :=
  OpenClaim.holds_of_wide 5 Tryz.f5 rfl rfl rfl rfl rfl rfl rfl ⟨rfl, rfl, rfl, rfl, rfl⟩ rfl rfl rfl rfl rfl nilNamed Tryz.func5 nilClosed nilInstance nilWrapper (fun os started H enc _ => nilLifted os started H enc)
#print axioms boardNil_holds

end Go.Proofs.YtobjlpfpccjneaaGreat
