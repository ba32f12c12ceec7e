/- Walks of chapter 12: the first umbrella order. -/
import Derived.Test.YtlcmfangecbdgaaW12
import Derived.Test.YtlcmfangecbdgaaPureS
import Derived.Test.YtlcmfangecbdgaaNat
import Derived.Test.YtlcmfangecbdgaaGives
import Derived.ArgAppend
namespace Go.Proofs.Ytlcmfangecbdgaa
open Go.RowKit
/-- What a search gives: the list that it found, the call's own from base on. -/
def GivesR (r : Option (List Nat)) (base : Nat) (w : World) (e : Ending) (w' : World) : Prop :=
  ∃ A c, e = .returned (.tuple #[.slice A (r.getD []).length c, .bool r.isSome]) ∧ OwnI w' base A (r.getD []).length c (ints (r.getD [])) ∧ Below w.heap.size w w'
/-- 'append(v, xs...)', v the call's own and empty. -/
theorem wpList_cat {ops : Array Oper} {rest : List Oper} {o : Oper} {a : Act} {Q : Exit → Act → World → Prop} {w : World} (hgd : o.guard = none) (s x : Operand)
    (ho : o.op = .call { callee := .builtin .append, args := #[s, x], argTypes := #[22, 22] })
    {base c m d : Nat} {A : Option Addr} {ad : Addr} {ys : List Int} (hs : a.eval s = .slice A 0 c) (hown : OwnI w base A 0 c [])
    (hx : a.eval x = .slice (some ad) m d) (hri : RI w (some ad) m ys) (hn : m ≤ 1048576) (hbase : base ≤ w.heap.size)
    (h : ∀ A' c' w', OwnI w' base A' m c' ys → Below base w w' → w.grownBy w' (Value.slice A 0 c).ownBlock → wpList Try.prog ops Q rest (a.put o.dst (.slice A' m c')) w') : wpList Try.prog ops Q (o :: rest) a w :=
  wpList_plain hgd fun K hK => by
    have hw : Region.wanted o (yielded ops a.tmps) = true := by simp [Region.wanted, hgd]
    have := step_append_new (ops := ops) (K := K) (Q := Q) (E := False) hgd s x ho hs hown hx hri hn hbase fun A' c' w' h1 h2 h3 => hK _ _ (h A' c' w' h1 h2 h3)
    rwa [if_pos hw] at this
theorem ints_app (l : List Nat) (v : Nat) : ints (l ++ [v]) = ints l ++ [(v : Int)] := (ints_snoc l v).symm
theorem dec_mem (l : List Nat) (v : Nat) : decide ((v : Int) ∈ ints l) = decide (v ∈ l) := decide_eq_decide.2 ints_mem'