/- Sorted tables: Open, whatever the bytes. -/
import Derived.Test.YtjigfinpbdglnaaGreatDoorZSoD0
import Derived.Test.YtjigfinpbdglnaaGreatDoorZSoD1
import Derived.Test.YtjigfinpbdglnaaGreatDoorZSoD2
import Derived.Test.YtjigfinpbdglnaaGreatDoorZSoD3
import Derived.Test.YtjigfinpbdglnaaGreatDoorZSoD4
set_option linter.unusedVariables false
set_option linter.unusedSimpArgs false
namespace Go.Proofs.YtjigfinpbdglnaaGreatDoor
open Go.RowKit

theorem sopn_any (a : Option Addr) (n c : Nat) (b : List UInt8) (w : World) (h : Bs w a n c b) (hbig : n ≤ 1000000) :
    Calls Tryz.prog 19 #[.slice a n c] w (RetOpn (Sst.opn b) w) := by
  rcases var_all b (b.length - 28) (Sst.num ((b.drop (b.length - 28)).take 8)) (Sst.num ((b.drop (b.length - 28 + 8)).take 8)) (Sst.blocks b (Sst.num ((b.drop (b.length - 28)).take 8))) with v | v | v | v | v
  · refine sopn_v0 a n c b w h hbig fun E A T hE hA hT => ?_
    obtain rfl : E = b.length - 28 := by omega
    subst hA hT
    exact v
  · refine sopn_v1 a n c b w h hbig fun E A T hE hA hT => ?_
    obtain rfl : E = b.length - 28 := by omega
    subst hA hT
    exact v
  · refine sopn_v2 a n c b w h hbig fun E A T hE hA hT => ?_
    obtain rfl : E = b.length - 28 := by omega
    subst hA hT
    exact v
  · refine sopn_v3 a n c b w h hbig fun E A T hE hA hT => ?_
    obtain rfl : E = b.length - 28 := by omega
    subst hA hT
    exact v
  · refine sopn_v4 a n c b w h hbig fun E A T hE hA hT => ?_
    obtain rfl : E = b.length - 28 := by omega
    subst hA hT
    exact v
end Go.Proofs.YtjigfinpbdglnaaGreatDoor
