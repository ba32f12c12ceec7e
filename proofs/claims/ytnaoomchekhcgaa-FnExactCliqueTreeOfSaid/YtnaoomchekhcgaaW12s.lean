/- Walks of chapter 12: the first umbrella order. -/
import Derived.Test.YtnaoomchekhcgaaW12
import Derived.Test.YtnaoomchekhcgaaPureS
import Derived.Test.YtnaoomchekhcgaaNat
import Derived.Test.YtnaoomchekhcgaaGives
import Derived.ArgAppend
namespace Go.Proofs.Ytnaoomchekhcgaa
open Go.RowKit
set_option maxHeartbeats 1000000 in
theorem l8Has_any (A : Option Addr) (n c : Nat) (v : Int) (xs : List Int) (w : World) (hA : RI w A n xs) (hn : n ≤ 9223372036854775807) :
    Calls Try.prog 50 #[.slice A n c, .int .i64 v] w fun e w' => e = .returned (.bool (decide (v ∈ xs))) ∧ w = w' := by
  have HX := Lib.hid hA.1
  go_enter Try.func50, Try.ntmps50
  go_wp2
  go_loop [5] (fun i => ∃ k : Nat, k ≤ n ∧ i = .int .i64 k ∧ Hid (∀ j, j < k → xs.getD j 0 ≠ v)) (fun i => n - (intOf i).toNat)
  case atStart => exact ⟨0, Nat.zero_le _, rfl, fun j h => absurd h (by omega)⟩
  case round =>
    obtain ⟨k, hk, rfl, hno⟩ := hrel
    by_cases hlt : k < n
    · obtain ⟨a, rfl, _, hca⟩ := hA.at_ hlt
      by_cases e : xs.getD k 0 = v
      · have HR := Lib.hid (show v ∈ xs by
          have hk' : k < xs.length := by rw [HX.out]; exact hlt
          have h1 : xs[k] = v := by simpa [List.getD, List.getElem?_eq_getElem hk'] using e
          exact h1 ▸ List.getElem_mem hk')
        have hd : (xs[k]?.getD 0 == v) = true := by rw [beq_iff_eq]; exact e
        clear e
        go_wp2
        go_ret
        exact ⟨ret_bool (decide_eq_true HR.out).symm, rfl⟩
      · have hd : (xs[k]?.getD 0 == v) = false := by rw [beq_eq_false_iff_ne]; exact e
        have He := Lib.hid e
        clear e
        go_wp2
        go_round
        case rel => exact ⟨k + 1, by omega, by go_num, fun j hj => by
          rcases Nat.lt_succ_iff_lt_or_eq.1 hj with h' | rfl
          · exact hno.out j h'
          · exact He.out⟩
        case measure => simp [intOf]; omega
    · obtain rfl : k = n := by omega
      have HR := Lib.hid (show v ∉ xs from fun hm => by
        obtain ⟨j, hj, e⟩ := List.mem_iff_getElem.1 hm
        exact hno.out j (by rw [← HX.out]; exact hj) (by simp [List.getD, List.getElem?_eq_getElem hj, e]))
      go_wp2
      go_ret
      exact ⟨ret_bool (decide_eq_false HR.out).symm, rfl⟩
theorem l8Has_is {A : Option Addr} {n c : Nat} {v : Int} {xs : List Int} {w : World} {b : Bool} (hA : RI w A n xs) (hn : n ≤ 9223372036854775807) (h : decide (v ∈ xs) = b) :
    Calls Try.prog 50 #[.slice A n c, .int .i64 v] w fun e w' => e = .returned (.bool b) ∧ w = w' := by
  subst h; exact l8Has_any A n c v xs w hA hn
/-- What a search gives: the list that it found, the call's own from base on. -/
def GivesR (r : Option (List Nat)) (base : Nat) (w : World) (e : Ending) (w' : World) : Prop :=
  ∃ A c, e = .returned (.tuple #[.slice A (r.getD []).length c, .bool r.isSome]) ∧ OwnI w' base A (r.getD []).length c (ints (r.getD [])) ∧ Below w.heap.size w w'
/-- 'append(v, xs...)', v the call's own and empty. -/
theorem wpList_cat {ops : Array Oper} {rest : List Oper} {o : Oper} {a : Act} {Q : Exit → Act → World → Prop} {w : World} (hgd : o.guard = none) (s x : Operand)
    (ho : o.op = .call { callee := .builtin .append, args := #[s, x], argTypes := #[22, 22] })
    {base c m d : Nat} {A : Option Addr} {ad : Addr} {ys : List Int} (hs : a.eval s = .slice A 0 c) (hown : OwnI w base A 0 c [])
    (hx : a.eval x = .slice (some ad) m d) (hri : RI w (some ad) m ys) (hn : m ≤ 1048576) (hbase : base ≤ w.heap.size)
    (h : ∀ A' c' w', OwnI w' base A' m c' ys → Below base w w' → w.grownBy w' (Value.slice A 0 c).ownBlock → wpList Try.prog ops Q rest (a.put o.dst (.slice A' m c')) w') : wpList Try.prog ops Q (o :: rest) a w :=
  wpList_plain hgd fun K hK => by
    have hw : Region.wanted o (yielded ops a.tmps) = true := by simp [Region.wanted, hgd]
    have := step_append_new (ops := ops) (K := K) (Q := Q) (E := False) hgd s x ho hs hown hx hri hn hbase fun A' c' w' h1 h2 h3 => hK _ _ (h A' c' w' h1 h2 h3)
    rwa [if_pos hw] at this
theorem ints_app (l : List Nat) (v : Nat) : ints (l ++ [v]) = ints l ++ [(v : Int)] := (ints_snoc l v).symm
theorem dec_mem (l : List Nat) (v : Nat) : decide ((v : Int) ∈ ints l) = decide (v ∈ l) := decide_eq_decide.2 ints_mem'