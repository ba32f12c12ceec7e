/- IsUnitModel: the contracts of the reference's and of the program's function, as the law asks them. -/
import Derived.Test.YtpaddmkhabjnnaaW9b
namespace Go.Proofs.Ytpaddmkhabjnnaa
open Go.RowKit
theorem specIsUnitModel_law {A0 : Option Addr} {n0 c0 : Nat} {X0 : List Int} {B0 : Option Addr} {m0 d0 : Nat} {Y0 : List Int} {x1 : Int} {w : World} (hx0 : RI w A0 n0 X0) (hy0 : RI w B0 m0 Y0) (hn0 : n0 ≤ 1048576) (hm0 : m0 ≤ 1048576) (_fx0 : Fits X0) (_fy0 : Fits Y0) (_fi1 : -9223372036854775808 ≤ x1 ∧ x1 ≤ 9223372036854775807) :
    Calls Try.prog 21 #[.agg #[.slice A0 n0 c0, .slice B0 m0 d0], .int .i64 x1] w fun e w' => e = .returned (.bool (isUnitModel X0 Y0 x1)) ∧ Below w.heap.size w w' :=
  specIsUnitModel_any _ _ _ _ _ _ _ _ _ _ hx0 hy0 hn0 hm0
theorem implIsUnitModel_law {A0 : Option Addr} {n0 c0 : Nat} {X0 : List Int} {B0 : Option Addr} {m0 d0 : Nat} {Y0 : List Int} {x1 : Int} {w : World} (hx0 : RI w A0 n0 X0) (hy0 : RI w B0 m0 Y0) (hn0 : n0 ≤ 1048576) (hm0 : m0 ≤ 1048576) (_fx0 : Fits X0) (_fy0 : Fits Y0) (_fi1 : -9223372036854775808 ≤ x1 ∧ x1 ≤ 9223372036854775807) :
    Calls Try.prog 22 #[.agg #[.slice A0 n0 c0, .slice B0 m0 d0], .int .i64 x1] w fun e w' => e = .returned (.bool (isUnitModel X0 Y0 x1)) ∧ Below w.heap.size w w' :=
  implIsUnitModel_any _ _ _ _ _ _ _ _ _ _ hx0 hy0 hn0 hm0
end Go.Proofs.Ytpaddmkhabjnnaa
