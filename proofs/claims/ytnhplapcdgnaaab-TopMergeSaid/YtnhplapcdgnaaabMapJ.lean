import Derived.Test.YtnhplapcdgnaaabMapI
set_option linter.unusedVariables false
set_option linter.unusedSimpArgs false
namespace Go.Proofs.Ytnhplapcdgnaaab
open Go.RowKit
namespace U

/-- A page joins another frame with the same bytes. -/
def mjoin (P : PoolM) (M : MapM) (n fr : Int) : PoolM × MapM × Nat :=
  if onB n then
    if (M.leaf n.toNat).there && ((M.leaf n.toNat).frame != fr && P.same (M.leaf n.toNat).frame fr) then (((P.share fr 1).1.share (M.leaf n.toNat).frame (-1)).1, M.setLeaf n.toNat ⟨true, false, fr⟩, 0) else (P, M, 8)
  else (P, M, 1)

end U
end Go.Proofs.Ytnhplapcdgnaaab
