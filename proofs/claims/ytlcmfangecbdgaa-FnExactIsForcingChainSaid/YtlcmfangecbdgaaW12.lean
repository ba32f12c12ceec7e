/- Walks of chapter 12: umbrella orders. -/
import Derived.Test.YtlcmfangecbdgaaW4
import Derived.Test.YtlcmfangecbdgaaPure12
namespace Go.Proofs.Ytlcmfangecbdgaa
open Go.RowKit
theorem RI.nbs {w : World} {ad : Addr} {m k : Nat} {o : List Nat} (h : RI w (some ad) m (ints o)) (hk : k < m) : w.cell? (ad.add k) = some (.int .i64 (nb o k)) := by
  obtain ⟨a, e, hc⟩ := h.nb_at hk
  injection e with e
  subst e
  exact hc
theorem add_tail (a : Addr) (i j : Nat) : a.add (i + 1 + j) = ⟨a.block, a.off + (i + 1) + j, none⟩ := by
  unfold Addr.add
  rw [if_neg (by omega)]
  congr 1
  omega