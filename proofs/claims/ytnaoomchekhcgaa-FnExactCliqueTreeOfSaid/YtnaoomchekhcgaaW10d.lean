/- Walks of chapter 10: sets that follow one another. -/
import Derived.Test.YtnaoomchekhcgaaW12s
import Derived.Test.YtnaoomchekhcgaaPure10c
import Derived.Deep.LoopGhost
namespace Go.Proofs.Ytnaoomchekhcgaa
open Go.RowKit
theorem RI.ints_at {w : World} {A : Option Addr} {m k : Nat} {o : List Nat} (h : RI w A m (ints o)) (hk : k < m) : ∃ ad, A = some ad ∧ w.cell? (ad.add k) = some (.int .i64 (nb o k)) := by
  obtain ⟨a, e, _, hc⟩ := h.at_ hk
  rw [ints_nb] at hc
  exact ⟨a, e, hc⟩
set_option maxRecDepth 100000 in
set_option maxHeartbeats 1000000 in
theorem follow_any (A : Option Addr) (m c : Nat) (o : List Nat) (w : World) (hL : RI w A m (ints o)) (ho : ∀ x ∈ o, x < 2 ^ 7) (hm : m ≤ 9223372036854775807) :
    Calls Try.prog 68 #[.slice A m c] w fun e w' => e = .returned (.bool (fol o)) ∧ w = w' := by
  have HX := Lib.hid (show o.length = m by rw [← hL.1, ints_len])
  have HS := Lib.hid (seenK_lt ho)
  have HLa := Lib.hid (lastK_lt ho)
  have HB := Lib.hid (nb_lt_all (Nat.two_pow_pos 7) ho)
  clear ho
  go_enter Try.func68, Try.ntmps68
  go_wp2
  go_loop [3, 4, 9] (fun s l i => ∃ k : Nat, k ≤ m ∧ i = .int .i64 k ∧ s = .int .i64 (seenK o k : Nat) ∧ l = .int .i64 (lastK o k : Nat) ∧ Hid (∀ j, j < k → folAt o j = true)) (fun _ _ i => m - (intOf i).toNat)
  case atStart => exact ⟨0, Nat.zero_le _, rfl, rfl, rfl, fun j h => absurd h (by omega)⟩
  case round =>
    obtain ⟨k, hk, rfl, rfl, rfl, hall⟩ := hrel
    by_cases hlt : k < m
    · obtain ⟨a, rfl, hca⟩ := hL.ints_at hlt
      have hs7 : seenK o k < 128 := HS.out k
      have hl7 : lastK o k < 128 := HLa.out k
      have hx7 : nb o k < 128 := HB.out k
      have HE := Lib.hid (show folAt o k = (dif (nb o k &&& seenK o k) (lastK o k) == 0) ∧ seenK o (k + 1) = seenK o k ||| nb o k ∧ lastK o (k + 1) = nb o k from ⟨rfl, rfl, rfl⟩)
      obtain ⟨s, hs⟩ : ∃ s, s = seenK o k := ⟨_, rfl⟩
      obtain ⟨l, hl⟩ : ∃ l, l = lastK o k := ⟨_, rfl⟩
      obtain ⟨x, hx⟩ : ∃ x, x = nb o k := ⟨_, rfl⟩
      rw [← hs, ← hl, ← hx] at HE
      rw [← hs] at hs7
      rw [← hl] at hl7
      rw [← hx] at hx7 hca
      have hand := i64_and7 hx7 hs7
      have hy7 : x &&& s < 128 := Nat.lt_of_le_of_lt Nat.and_le_left hx7
      obtain ⟨y, hy⟩ : ∃ y, y = x &&& s := ⟨_, rfl⟩
      rw [← hy] at hand hy7 HE
      have hdif := i64_dif7 hy7 hl7
      have hor := i64_or7 hs7 hx7
      obtain ⟨z, hz⟩ : ∃ z, z = dif y l := ⟨_, rfl⟩
      obtain ⟨s', hs'⟩ : ∃ s', s' = s ||| x := ⟨_, rfl⟩
      rw [← hz] at hdif HE
      rw [← hs'] at hor HE
      rw [← hs, ← hl]
      clear hs hl hx hy hz hs'
      by_cases e : z = 0
      · have h1 : ((z : Int) != 0) = false := by rw [e]; rfl
        have HA := Lib.hid (show folAt o k = true by rw [HE.out.1, e]; rfl)
        clear e
        go_wp2
        go_round
        case rel => exact ⟨k + 1, by omega, by go_num, by rw [HE.out.2.1], by rw [HE.out.2.2], fun j hj => by
          rcases Nat.lt_succ_iff_lt_or_eq.1 hj with h' | rfl
          · exact hall.out j h'
          · exact HA.out⟩
        case measure => simp [intOf]; omega
      · have h1 : ((z : Int) != 0) = true := by rw [bne_iff_ne]; omega
        have HA := Lib.hid (fol_false (l := o) (k := k) (by rw [HX.out]; exact hlt) (by rw [HE.out.1, beq_eq_false_iff_ne]; exact e))
        clear e
        go_wp2
        go_ret
        exact ⟨ret_bool HA.out.symm, rfl⟩
    · obtain rfl : k = m := by omega
      have HR := Lib.hid (fol_true (l := o) (by rw [HX.out]; exact hall.out))
      go_wp2
      go_ret
      exact ⟨ret_bool HR.out.symm, rfl⟩
theorem follow_is {A : Option Addr} {m c : Nat} {o : List Nat} {w : World} {b : Bool} (hL : RI w A m (ints o)) (ho : ∀ x ∈ o, x < 2 ^ 7) (hm : m ≤ 9223372036854775807) (hb : fol o = b) :
    Calls Try.prog 68 #[.slice A m c] w fun e w' => e = .returned (.bool b) ∧ w = w' := by
  subst hb; exact follow_any A m c o w hL ho hm
set_option maxRecDepth 100000 in
set_option maxHeartbeats 1000000 in
theorem consec_any (A : Option Addr) (m c : Nat) (o : List Nat) (w : World) (hL : RI w A m (ints o)) (ho : ∀ x ∈ o, x < 2 ^ 7) (hm : m ≤ 9223372036854775806) :
    Calls Try.prog 65 #[.slice A m c] w fun e w' => e = .returned (.bool (fol o)) ∧ w = w' := by
  have HX := Lib.hid (show o.length = m by rw [← hL.1, ints_len])
  have HB := Lib.hid (nb_lt_all (Nat.two_pow_pos 7) ho)
  have HC := Lib.hid (show consec o = fol o from fol_consec ho)
  clear ho
  go_enter Try.func65, Try.ntmps65
  go_wp2
  go_loop [3] (fun i => ∃ v : Nat, v ≤ 7 ∧ i = .int .i64 v ∧ Hid (∀ u, u < v → bg o u m ≤ 1)) (fun i => 7 - (intOf i).toNat)
  case atStart => exact ⟨0, Nat.zero_le _, rfl, fun j h => absurd h (by omega)⟩
  case round =>
    obtain ⟨v, hv, rfl, hall⟩ := hrel
    by_cases hvt : v < 7
    · go_wp2
      go_loop [4, 5] (fun s i => ∃ k : Nat, k ≤ m ∧ i = .int .i64 k ∧ s = .int .i64 (bg o v k : Nat) ∧ bg o v k ≤ k) (fun _ i => m - (intOf i).toNat)
      case atStart => exact ⟨0, Nat.zero_le _, rfl, rfl, Nat.le_refl _⟩
      case round =>
        obtain ⟨k, hk, rfl, rfl, hle⟩ := hrel
        by_cases hlt : k < m
        · obtain ⟨a, rfl, hca⟩ := hL.ints_at hlt
          have hx7 : nb o k < 128 := HB.out k
          have HY := Lib.hid (bg_yes (l := o) (v := v) (k := k))
          have HN := Lib.hid (bg_no (l := o) (v := v) (k := k))
          have HA := Lib.hid (show begAt o v k = ((nb o k).testBit v && !(lastK o k).testBit v) from rfl)
          have HL := Lib.hid (bg_le o v (k + 1))
          obtain ⟨g, hg⟩ : ∃ g, g = bg o v k := ⟨_, rfl⟩
          obtain ⟨x, hx⟩ : ∃ x, x = nb o k := ⟨_, rfl⟩
          rw [← hx] at HA hx7 hca
          rw [← hg] at HY HN hle ⊢
          clear hx hg
          have hb := bit_one x v (by omega)
          rcases Bool.eq_false_or_eq_true (x.testBit v) with e1 | e1
          · rw [e1] at hb
            rcases Nat.eq_zero_or_pos k with hk0 | hk0
            · have HR := Lib.hid (HY.out (by rw [HA.out, e1, hk0]; simp [lastK]))
              have z0 : ((k : Int) == 0) = true := by rw [beq_iff_eq]; omega
              clear e1 hk0
              go_wp2
              go_round
              case rel => exact ⟨k + 1, by omega, by go_num, by rw [HR.out]; go_num, by rw [HR.out]; omega⟩
              case measure => simp [intOf]; omega
            · have z0 : ((k : Int) == 0) = false := by rw [beq_eq_false_iff_ne]; omega
              obtain ⟨p, hp⟩ : ∃ p, p = k - 1 := ⟨_, rfl⟩
              obtain ⟨a', ha', hcp⟩ := hL.ints_at (show p < m by omega)
              injection ha' with ha'
              subst ha'
              have hy7 : nb o p < 128 := HB.out p
              have HLK := Lib.hid (show lastK o k = nb o p by
                obtain ⟨j, rfl⟩ : ∃ j, k = j + 1 := ⟨k - 1, by omega⟩
                rw [hp]; rfl)
              obtain ⟨y, hy⟩ : ∃ y, y = nb o p := ⟨_, rfl⟩
              rw [← hy] at hcp hy7 HLK
              rw [hp] at hcp
              clear hy hp
              have hb2 := bit_zero y v (by omega)
              rcases Bool.eq_false_or_eq_true (y.testBit v) with e2 | e2
              · rw [e2] at hb2
                have HR := Lib.hid (HN.out (by rw [HA.out, e1, HLK.out, e2]; rfl))
                clear e1 e2
                go_wp2
                go_round
                case rel => exact ⟨k + 1, by omega, by go_num, by rw [HR.out], by rw [HR.out]; omega⟩
                case measure => simp [intOf]; omega
              · rw [e2] at hb2
                have HR := Lib.hid (HY.out (by rw [HA.out, e1, HLK.out, e2]; rfl))
                clear e1 e2
                go_wp2
                go_round
                case rel => exact ⟨k + 1, by omega, by go_num, by rw [HR.out]; go_num, by rw [HR.out]; omega⟩
                case measure => simp [intOf]; omega
          · rw [e1] at hb
            have HR := Lib.hid (HN.out (by rw [HA.out, e1]; rfl))
            clear e1
            go_wp2
            go_round
            case rel => exact ⟨k + 1, by omega, by go_num, by rw [HR.out], by rw [HR.out]; omega⟩
            case measure => simp [intOf]; omega
        · obtain rfl : k = m := by omega
          by_cases hg : bg o v k ≤ 1
          · have hd : decide (1 < (bg o v k : Int)) = false := decide_eq_false (by omega)
            have HG := Lib.hid hg
            clear hg
            go_wp2
            go_round
            case rel => exact ⟨v + 1, by omega, by go_num, fun u hu => by
              rcases Nat.lt_succ_iff_lt_or_eq.1 hu with h' | rfl
              · exact hall.out u h'
              · exact HG.out⟩
            case measure => simp [intOf]; omega
          · have hd : decide (1 < (bg o v k : Int)) = true := decide_eq_true (by omega)
            have HR := Lib.hid (HC.out ▸ consec_false (l := o) hvt (by rw [HX.out]; omega) : fol o = false)
            clear hg
            go_wp2
            go_ret
            exact ⟨ret_bool HR.out.symm, rfl⟩
    · obtain rfl : v = 7 := by omega
      have HR := Lib.hid (HC.out ▸ consec_true (l := o) (by rw [HX.out]; exact hall.out) : fol o = true)
      go_wp2
      go_ret
      exact ⟨ret_bool HR.out.symm, rfl⟩
theorem consec_is {A : Option Addr} {m c : Nat} {o : List Nat} {w : World} {b : Bool} (hL : RI w A m (ints o)) (ho : ∀ x ∈ o, x < 2 ^ 7) (hm : m ≤ 9223372036854775806) (hb : fol o = b) :
    Calls Try.prog 65 #[.slice A m c] w fun e w' => e = .returned (.bool b) ∧ w = w' := by
  subst hb; exact consec_any A m c o w hL ho hm
end Go.Proofs.Ytnaoomchekhcgaa
