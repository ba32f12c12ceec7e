/- EqualTrees: the contracts of the reference's and of the program's function, as the law asks them. -/
import Derived.Test.YtpaddmkhabjnnaaW8
namespace Go.Proofs.Ytpaddmkhabjnnaa
open Go.RowKit
theorem specEqualTrees_law {A0 : Option Addr} {n0 c0 : Nat} {X0 : List Int} {B0 : Option Addr} {m0 d0 : Nat} {Y0 : List Int} {A1 : Option Addr} {n1 c1 : Nat} {X1 : List Int} {B1 : Option Addr} {m1 d1 : Nat} {Y1 : List Int} {w : World} (hx0 : RI w A0 n0 X0) (hy0 : RI w B0 m0 Y0) (_hn0 : n0 ≤ 1048576) (_hm0 : m0 ≤ 1048576) (_fx0 : Fits X0) (_fy0 : Fits Y0) (hx1 : RI w A1 n1 X1) (hy1 : RI w B1 m1 Y1) (_hn1 : n1 ≤ 1048576) (_hm1 : m1 ≤ 1048576) (_fx1 : Fits X1) (_fy1 : Fits Y1) :
    Calls Try.prog 19 #[.agg #[.slice A0 n0 c0, .slice B0 m0 d0], .agg #[.slice A1 n1 c1, .slice B1 m1 d1]] w fun e w' => e = .returned (.bool (decide (X0 = X1) && decide (Y0 = Y1))) ∧ Below w.heap.size w w' :=
  specEqualTrees_any _ _ _ _ _ _ _ _ _ _ _ _ _ _ _ _ _ hx0 hy0 hx1 hy1 (by omega) (by omega)
theorem implEqualTrees_law {A0 : Option Addr} {n0 c0 : Nat} {X0 : List Int} {B0 : Option Addr} {m0 d0 : Nat} {Y0 : List Int} {A1 : Option Addr} {n1 c1 : Nat} {X1 : List Int} {B1 : Option Addr} {m1 d1 : Nat} {Y1 : List Int} {w : World} (hx0 : RI w A0 n0 X0) (hy0 : RI w B0 m0 Y0) (_hn0 : n0 ≤ 1048576) (_hm0 : m0 ≤ 1048576) (_fx0 : Fits X0) (_fy0 : Fits Y0) (hx1 : RI w A1 n1 X1) (hy1 : RI w B1 m1 Y1) (_hn1 : n1 ≤ 1048576) (_hm1 : m1 ≤ 1048576) (_fx1 : Fits X1) (_fy1 : Fits Y1) :
    Calls Try.prog 20 #[.agg #[.slice A0 n0 c0, .slice B0 m0 d0], .agg #[.slice A1 n1 c1, .slice B1 m1 d1]] w fun e w' => e = .returned (.bool (decide (X0 = X1) && decide (Y0 = Y1))) ∧ Below w.heap.size w w' :=
  implEqualTrees_any _ _ _ _ _ _ _ _ _ _ _ _ _ _ _ _ _ hx0 hy0 hx1 hy1 (by omega) (by omega)
end Go.Proofs.Ytpaddmkhabjnnaa
