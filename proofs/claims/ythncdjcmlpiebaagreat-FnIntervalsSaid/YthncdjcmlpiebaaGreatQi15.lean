/- Walks of chapter 11: asteroidal triples. Walks of chapter 11: the reference's first asteroidal triple. -/
import Derived.Test.YthncdjcmlpiebaaGreatQi14
namespace Go.Proofs.YthncdjcmlpiebaaGreat
open Go.RowKit
def isTrip (N : Int) (X : List Int) (a b c : Int) : Bool := !(a == b) && !(b == c) && !(c == a) && (avoidOf N X a b c).isSome && (avoidOf N X b c a).isSome && (avoidOf N X c a b).isSome
set_option maxRecDepth 100000 in
set_option maxHeartbeats 2000000 in
theorem implIsTriple_any (N a b c : Int) (A : Option Addr) (n d : Nat) (X : List Int) (w : World) (hX : RI w A n X) (hn : n ≤ 9223372036854775807) :
    Calls Tryz.prog 45 #[.agg #[.int .i64 N, .slice A n d], .int .i64 a, .int .i64 b, .int .i64 c] w fun e w' => e = .returned (.bool (isTrip N X a b c)) ∧ Below w.heap.size w w' := by
  have hbk := Blk.new w 26 #[.int .i64 N, .slice A n d]
  have hyb := hbk.two
  have hU0 : Up w (w.alloc (.cells #[.int .i64 N, .slice A n d] 26)) := by go_grown
  rcases Bool.eq_false_or_eq_true (a == b) with e1 | e1
  · have HR := Lib.hid (show isTrip N X a b c = false by rw [isTrip, e1]; rfl)
    rw [HR.out]
    go_enter Tryz.func45, Tryz.ntmps45
    go_wp2
    go_ret
    exact ⟨rfl, hU0⟩
  rcases Bool.eq_false_or_eq_true (b == c) with e2 | e2
  · have HR := Lib.hid (show isTrip N X a b c = false by rw [isTrip, e1, e2]; rfl)
    rw [HR.out]
    go_enter Tryz.func45, Tryz.ntmps45
    go_wp2
    go_ret
    exact ⟨rfl, hU0⟩
  rcases Bool.eq_false_or_eq_true (c == a) with e3 | e3
  · have HR := Lib.hid (show isTrip N X a b c = false by rw [isTrip, e1, e2, e3]; rfl)
    rw [HR.out]
    go_enter Tryz.func45, Tryz.ntmps45
    go_wp2
    go_ret
    exact ⟨rfl, hU0⟩
  have HR := Lib.hid (show isTrip N X a b c = ((avoidOf N X a b c).isSome && (avoidOf N X b c a).isSome && (avoidOf N X c a b).isSome) by rw [isTrip, e1, e2, e3]; rfl)
  rw [HR.out]
  go_enter Tryz.func45, Tryz.ntmps45
  go_wp2_with fail
  refine (implAvoidingPath_any N a b c A n d X _ (hX.up hU0) hn).mono ?_
  rintro e w1 ⟨A1, c1, rfl, _, hb1⟩
  have hU1 := Up.then_ hU0 hb1
  have hy1 := (hbk.up hb1).two
  go_wp2_with fail
  refine (implAvoidingPath_any N b c a A n d X _ (hX.up hU1) hn).mono ?_
  rintro e w2 ⟨A2, c2, rfl, _, hb2⟩
  have hU2 := Up.then_ hU1 hb2
  have hy2 := ((hbk.up hb1).up hb2).two
  go_wp2_with fail
  refine (implAvoidingPath_any N c a b A n d X _ (hX.up hU2) hn).mono ?_
  rintro e w3 ⟨A3, c3, rfl, _, hb3⟩
  have hU3 := Up.then_ hU2 hb3
  obtain ⟨p1, h1⟩ : ∃ p, p = (avoidOf N X a b c).isSome := ⟨_, rfl⟩
  obtain ⟨p2, h2⟩ : ∃ p, p = (avoidOf N X b c a).isSome := ⟨_, rfl⟩
  obtain ⟨p3, h3⟩ : ∃ p, p = (avoidOf N X c a b).isSome := ⟨_, rfl⟩
  rw [← h1, ← h2, ← h3]
  have HP1 := Lib.hid h1
  have HP2 := Lib.hid h2
  have HP3 := Lib.hid h3
  clear h1 h2 h3
  clear HR
  cases p1 <;> cases p2 <;> cases p3
  all_goals
    go_wp2
    go_ret
    exact ⟨by rw [← HP1.out, ← HP2.out, ← HP3.out]; rfl, hU3⟩
set_option maxRecDepth 100000 in
theorem trip_comm (a c : Int) : (a == c) = (c == a) := by rw [Bool.eq_iff_iff, beq_iff_eq, beq_iff_eq]; exact eq_comm
set_option maxRecDepth 100000 in
set_option maxHeartbeats 4000000 in
theorem specIsTriple_any (N a b c : Int) (A : Option Addr) (n d : Nat) (X : List Int) (w : World) (hX : RI w A n X) (hn : n ≤ 9223372036854775807) :
    Calls Tryz.prog 104 #[.agg #[.int .i64 N, .slice A n d], .int .i64 a, .int .i64 b, .int .i64 c] w fun e w' => e = .returned (.bool (isTrip N X a b c)) ∧ Below w.heap.size w w' := by
  have hbk := Blk.new w 26 #[.int .i64 N, .slice A n d]
  have hyb := hbk.two
  have hU0 : Up w (w.alloc (.cells #[.int .i64 N, .slice A n d] 26)) := by go_grown
  go_enter Tryz.func104, Tryz.ntmps104
  go_wp2_with fail
  refine (specAvoidingPath_any N a b c A n d X _ (hX.up hU0) hn).mono ?_
  rintro e w1 ⟨A1, c1, rfl, _, hb1⟩
  have hU1 := Up.then_ hU0 hb1
  have hy1 := (hbk.up hb1).two
  go_wp2_with fail
  refine (specAvoidingPath_any N b c a A n d X _ (hX.up hU1) hn).mono ?_
  rintro e w2 ⟨A2, c2, rfl, _, hb2⟩
  have hU2 := Up.then_ hU1 hb2
  have hy2 := ((hbk.up hb1).up hb2).two
  go_wp2_with fail
  refine (specAvoidingPath_any N c a b A n d X _ (hX.up hU2) hn).mono ?_
  rintro e w3 ⟨A3, c3, rfl, _, hb3⟩
  have hU3 := Up.then_ hU2 hb3
  obtain ⟨p1, h1⟩ : ∃ p, p = (avoidOf N X a b c).isSome := ⟨_, rfl⟩
  obtain ⟨p2, h2⟩ : ∃ p, p = (avoidOf N X b c a).isSome := ⟨_, rfl⟩
  obtain ⟨p3, h3⟩ : ∃ p, p = (avoidOf N X c a b).isSome := ⟨_, rfl⟩
  rw [← h1, ← h2, ← h3]
  have HP1 := Lib.hid h1
  have HP2 := Lib.hid h2
  have HP3 := Lib.hid h3
  clear h1 h2 h3
  have n1 : (a != b) = !(a == b) := rfl
  have n2 : (b != c) = !(b == c) := rfl
  have n3 : (a != c) = !(c == a) := by rw [bne, trip_comm a c]
  cases p1
  · have HB := Lib.hid (show isTrip N X a b c = false by rw [isTrip, ← HP1.out]; simp)
    clear n1 n2 n3
    go_wp2
    go_ret
    exact ⟨ret_bool HB.out.symm, hU3⟩
  cases p2
  · have HB := Lib.hid (show isTrip N X a b c = false by rw [isTrip, ← HP2.out]; simp)
    clear n1 n2 n3
    go_wp2
    go_ret
    exact ⟨ret_bool HB.out.symm, hU3⟩
  cases p3
  · have HB := Lib.hid (show isTrip N X a b c = false by rw [isTrip, ← HP3.out]; simp)
    clear n1 n2 n3
    go_wp2
    go_ret
    exact ⟨ret_bool HB.out.symm, hU3⟩
  rcases Bool.eq_false_or_eq_true (a == b) with e1 | e1 <;> rw [e1] at n1
  · have HB := Lib.hid (show isTrip N X a b c = false by rw [isTrip, e1]; rfl)
    clear e1 n2 n3
    go_wp2
    go_ret
    exact ⟨ret_bool HB.out.symm, hU3⟩
  rcases Bool.eq_false_or_eq_true (b == c) with e2 | e2 <;> rw [e2] at n2
  · have HB := Lib.hid (show isTrip N X a b c = false by rw [isTrip, e1, e2]; rfl)
    clear e1 e2 n3
    go_wp2
    go_ret
    exact ⟨ret_bool HB.out.symm, hU3⟩
  rcases Bool.eq_false_or_eq_true (c == a) with e3 | e3 <;> rw [e3] at n3
  · have HB := Lib.hid (show isTrip N X a b c = false by rw [isTrip, e1, e2, e3]; rfl)
    clear e1 e2 e3
    go_wp2
    go_ret
    exact ⟨ret_bool HB.out.symm, hU3⟩
  · have HB := Lib.hid (show isTrip N X a b c = true by rw [isTrip, e1, e2, e3, ← HP1.out, ← HP2.out, ← HP3.out]; rfl)
    clear e1 e2 e3
    go_wp2
    go_ret
    exact ⟨ret_bool HB.out.symm, hU3⟩
set_option maxRecDepth 100000 in
theorem implIsTriple_is {N a b c : Int} {A : Option Addr} {n d : Nat} {X : List Int} {w : World} {r : Bool} (hX : RI w A n X) (hn : n ≤ 9223372036854775807) (hr : isTrip N X a b c = r) :
    Calls Tryz.prog 45 #[.agg #[.int .i64 N, .slice A n d], .int .i64 a, .int .i64 b, .int .i64 c] w fun e w' => e = .returned (.bool r) ∧ Below w.heap.size w w' := by
  subst hr; exact implIsTriple_any N a b c A n d X w hX hn
set_option maxRecDepth 100000 in
theorem specIsTriple_is {N a b c : Int} {A : Option Addr} {n d : Nat} {X : List Int} {w : World} {r : Bool} (hX : RI w A n X) (hn : n ≤ 9223372036854775807) (hr : isTrip N X a b c = r) :
    Calls Tryz.prog 104 #[.agg #[.int .i64 N, .slice A n d], .int .i64 a, .int .i64 b, .int .i64 c] w fun e w' => e = .returned (.bool r) ∧ Below w.heap.size w w' := by
  subst hr; exact specIsTriple_any N a b c A n d X w hX hn
/-- The first that there is. -/
def ftK (P : Nat → Option (List Nat)) : Nat → Option (List Nat)
  | 0 => none
  | k + 1 => (ftK P k).or (P k)
set_option maxRecDepth 100000 in
theorem ftK_none {P : Nat → Option (List Nat)} {k : Nat} (h : ftK P k = none) (h2 : P k = none) : ftK P (k + 1) = none := by rw [ftK, h, h2]; rfl
set_option maxRecDepth 100000 in
theorem ftK_some {P : Nat → Option (List Nat)} {k : Nat} {r : List Nat} (h : ftK P k = none) (h2 : P k = some r) : ∀ j, k < j → ftK P j = some r := by
  intro j hj
  induction j with
  | zero => omega
  | succ j ih =>
    rw [ftK]
    rcases Nat.lt_succ_iff_lt_or_eq.1 hj with h' | rfl
    · rw [ih h']; rfl
    · rw [h, h2]; rfl
set_option maxRecDepth 100000 in
theorem ftK_low {P : Nat → Option (List Nat)} {m : Nat} (h : ∀ k, k < m → P k = none) : ∀ k, k ≤ m → ftK P k = none
  | 0, _ => rfl
  | k + 1, hk => ftK_none (ftK_low h k (by omega)) (h k (by omega))
def trC (N : Int) (X : List Int) (a b c : Nat) : Option (List Nat) := if b < c ∧ isTrip N X a b c = true then some [a, b, c] else none
def trB (N : Int) (X : List Int) (n a b : Nat) : Option (List Nat) := if a < b then ftK (trC N X a b) n else none
def trA (N : Int) (X : List Int) (n a : Nat) : Option (List Nat) := ftK (trB N X n a) n
def tripOf (N : Int) (X : List Int) : Option (List Nat) := if isGraph N X then ftK (trA N X N.toNat) N.toNat else none
set_option maxRecDepth 100000 in
theorem tripOf_no {N : Int} {X : List Int} (h : isGraph N X = false) : tripOf N X = none := by rw [tripOf, h]; rfl
set_option maxRecDepth 100000 in
theorem tripOf_ok {n : Nat} {Q : List Nat} (h : GOk n Q) : tripOf n (ints Q) = ftK (trA n (ints Q) n) n := by rw [tripOf, if_pos h.is, Int.toNat_natCast]
set_option maxRecDepth 100000 in
theorem trC_low {N : Int} {X : List Int} {a b c : Nat} (h : c < b + 1) : trC N X a b c = none := by rw [trC, if_neg fun e => by omega]
set_option maxRecDepth 100000 in
theorem trC_no {N : Int} {X : List Int} {a b c : Nat} (h : isTrip N X a b c = false) : trC N X a b c = none := by rw [trC, if_neg fun e => by rw [h] at e; exact Bool.false_ne_true e.2]
set_option maxRecDepth 100000 in
theorem trC_yes {N : Int} {X : List Int} {a b c : Nat} (hbc : b < c) (h : isTrip N X a b c = true) : trC N X a b c = some [a, b, c] := by rw [trC, if_pos ⟨hbc, h⟩]
set_option maxRecDepth 100000 in
theorem trB_low {N : Int} {X : List Int} {n a b : Nat} (h : b < a + 1) : trB N X n a b = none := by rw [trB, if_neg (by omega)]
set_option maxRecDepth 100000 in
theorem trB_at {N : Int} {X : List Int} {n a b : Nat} (h : a < b) : trB N X n a b = ftK (trC N X a b) n := by rw [trB, if_pos h]
set_option maxRecDepth 100000 in
theorem ftK_len {P : Nat → Option (List Nat)} {b : Nat} {r : List Nat} (h : ∀ k r, P k = some r → r.length ≤ b) : ∀ k, ftK P k = some r → r.length ≤ b
  | 0, e => by cases e
  | k + 1, e => by
    rw [ftK] at e
    rcases hk : ftK P k with _ | q
    · rw [hk] at e; exact h k r (by simpa using e)
    · rw [hk] at e
      have e2 : q = r := by simpa using e
      subst e2
      exact ftK_len h k hk
set_option maxRecDepth 100000 in
theorem tripOf_len {N : Int} {X : List Int} {r : List Nat} (h : tripOf N X = some r) : r.length ≤ 3 := by
  rw [tripOf] at h
  split at h
  · refine ftK_len (fun a r e => ?_) _ h
    refine ftK_len (fun b r e => ?_) _ e
    rw [trB] at e
    split at e
    · refine ftK_len (fun c r e => ?_) _ e
      rw [trC] at e
      split at e
      · injection e with e; subst e; simp
      · cases e
    · cases e
  · cases h
set_option maxRecDepth 100000 in
theorem row3_own {w : World} {g base : Nat} (h : w.heap.size = g) (hb : base ≤ g) (x y z : Int) : OwnI (w.alloc (.cells #[.int .i64 x, .int .i64 y, .int .i64 z] 3)) base (some ⟨g, 0, none⟩) 3 3 [x, y, z] := (OwnI.of_blk (L := [x, y, z]) (Blk.new_at h) rfl (by simp)).more hb
set_option maxRecDepth 100000 in
set_option maxHeartbeats 2000000 in
theorem implFindTriple_any (N : Int) (A : Option Addr) (n d : Nat) (X : List Int) (w : World) (hX : RI w A n X) (hn : n ≤ 9223372036854775807) :
    Calls Tryz.prog 47 #[.agg #[.int .i64 N, .slice A n d]] w (GivesIB (optL (tripOf N X)) (tripOf N X).isSome w) := by
  have hbk := Blk.new w 26 #[.int .i64 N, .slice A n d]
  rcases isGraph_cases N X with hg | ⟨k, Q, rfl, rfl, h⟩
  · have H1 := Lib.hid hg
    rw [tripOf_no hg]
    clear hg
    go_enter Tryz.func47, Tryz.ntmps47
    go_wp2_with fail
    refine (implIsGraph_is (hX.up (by go_grown)) hn H1.out).mono ?_
    rintro e w1 ⟨rfl, hb1⟩
    have hU1 : Up w w1 := Up.then_ (by go_grown) hb1
    go_wp2
    go_ret2
    exact givesIB_none (OwnI.nil_ _ _) (Nat.le_refl _) hU1
  · obtain rfl : n = k := by rw [← hX.1, ints_len, h.len]
    rw [tripOf_ok h]
    have h7 := h.le
    go_enter Tryz.func47, Tryz.ntmps47
    go_wp2_with fail
    refine (implIsGraph_is (hX.up (by go_grown)) hn h.is).mono ?_
    rintro e w1 ⟨rfl, hb1⟩
    have hU1 : Up w w1 := Up.then_ (by go_grown) hb1
    replace hX := hX.up hU1
    have hbk1 := hbk.up hb1
    have hyb1 := hbk1.two
    go_wp2_with fail
    clear hyb1
    go_loopw [12] (fun s wr => ∃ a : Nat, a ≤ n ∧ s = .int .i64 a ∧ Up w1 wr ∧ Hid (ftK (trA n (ints Q) n) a = none)) (fun s _ => n - (intOf s).toNat)
    case atStart => exact ⟨0, Nat.zero_le _, rfl, Up.refl _, rfl⟩
    case round =>
      obtain ⟨a, ha, rfl, hb, hno⟩ := hrel
      obtain ⟨wa, rfl⟩ : ∃ wa : World, wa = wr := ⟨_, rfl⟩
      by_cases han : a < n
      · have hya := (hbk1.up hb).two
        go_wp2_with fail
        clear hya
        go_loopw [5] (fun s wr => ∃ b : Nat, a < b ∧ b ≤ n ∧ s = .int .i64 b ∧ Up w1 wr ∧ Hid (ftK (trB n (ints Q) n a) b = none)) (fun s _ => n - (intOf s).toNat)
        case atStart => exact ⟨a + 1, by omega, by omega, by go_num, hb, ftK_low (fun k hk => trB_low hk) _ (Nat.le_refl _)⟩
        case round =>
          obtain ⟨b, hab, hbn, rfl, hb2, hno2⟩ := hrel
          obtain ⟨wb, rfl⟩ : ∃ wb : World, wb = wr := ⟨_, rfl⟩
          have hyw := (hbk1.up hb2).two
          by_cases hbt : b < n
          · go_wp2_with fail
            clear hyw
            go_loopw [6] (fun s wr => ∃ c : Nat, b < c ∧ c ≤ n ∧ s = .int .i64 c ∧ Up w1 wr ∧ Hid (ftK (trC n (ints Q) a b) c = none)) (fun s _ => n - (intOf s).toNat)
            case atStart => exact ⟨b + 1, by omega, by omega, by go_num, hb2, ftK_low (fun k hk => trC_low hk) _ (Nat.le_refl _)⟩
            case round =>
              obtain ⟨c, hbc, hcn, rfl, hb3, hno3⟩ := hrel
              obtain ⟨wc, rfl⟩ : ∃ wc : World, wc = wr := ⟨_, rfl⟩
              have hyc := (hbk1.up hb3).two
              by_cases hct : c < n
              · rcases Bool.eq_false_or_eq_true (isTrip n (ints Q) a b c) with e | e
                · have E := Lib.hid e
                  have HS := Lib.hid (ftK_some hno.out (show trA n (ints Q) n a = some [a, b, c] from ftK_some hno2.out (show trB n (ints Q) n a b = some [a, b, c] by rw [trB_at hab]; exact ftK_some hno3.out (trC_yes hbc e) n hct) n hbt) n han)
                  clear e
                  go_wp2_with fail
                  refine (implIsTriple_is (hX.up hb3) hn E.out).mono ?_
                  rintro e w4 ⟨rfl, hb4⟩
                  have hown := row3_own (w := w4) (g := w4.heap.size) (base := w4.heap.size) rfl (Nat.le_refl _) (a : Int) (b : Int) (c : Int)
                  have hw4 := Up.then_ hU1 (Up.then_ hb3 hb4)
                  have hww := hw4.alloc hw4.size (.cells #[.int .i64 (a : Int), .int .i64 (b : Int), .int .i64 (c : Int)] 3)
                  go_wp2
                  go_ret2
                  rw [HS.out]
                  exact givesIB_some (q := [a, b, c]) hown hw4.size hww
                · have E := Lib.hid e
                  have HN := Lib.hid (ftK_none hno3.out (trC_no e))
                  clear e
                  go_wp2_with fail
                  refine (implIsTriple_is (hX.up hb3) hn E.out).mono ?_
                  rintro e w4 ⟨rfl, hb4⟩
                  go_wp2
                  go_roundw
                  case rel => exact ⟨c + 1, by omega, by omega, by go_num, Up.then_ hb3 hb4, HN.out⟩
                  case measure => simp [intOf]; omega
              · obtain rfl : c = n := by omega
                have HN := Lib.hid (ftK_none hno2.out (show trB c (ints Q) c a b = none by rw [trB_at hab]; exact hno3.out))
                go_wp2
                go_roundw
                case rel => exact ⟨b + 1, by omega, by omega, by go_num, hb3, HN.out⟩
                case measure => simp [intOf]; omega
          · obtain rfl : b = n := by omega
            have HN := Lib.hid (ftK_none hno.out (show trA b (ints Q) b a = none from hno2.out))
            go_wp2
            go_roundw
            case rel => exact ⟨a + 1, by omega, by go_num, hb2, HN.out⟩
            case measure => simp [intOf]; omega
      · obtain rfl : a = n := by omega
        go_wp2
        go_ret2
        rw [hno.out]
        exact givesIB_none (OwnI.nil_ _ _) (Nat.le_refl _) (Up.then_ hU1 hb)
end Go.Proofs.YthncdjcmlpiebaaGreat
namespace Go.Proofs.YthncdjcmlpiebaaGreat
open Go.RowKit
set_option maxRecDepth 100000 in
set_option maxHeartbeats 2000000 in
theorem specFindTriple_any (N : Int) (A : Option Addr) (n d : Nat) (X : List Int) (w : World) (hX : RI w A n X) (hn : n ≤ 9223372036854775807) :
    Calls Tryz.prog 48 #[.agg #[.int .i64 N, .slice A n d]] w (GivesIB (optL (tripOf N X)) (tripOf N X).isSome w) := by
  have hbk := Blk.new w 26 #[.int .i64 N, .slice A n d]
  have hyb := hbk.two
  have hU0 : Up w (w.alloc (.cells #[.int .i64 N, .slice A n d] 26)) := by go_grown
  obtain ⟨W, hW⟩ : ∃ W, W = w.alloc (.cells #[.int .i64 N, .slice A n d] 26) := ⟨_, rfl⟩
  rcases isGraph_cases N X with hg | ⟨k, Q, rfl, rfl, h⟩
  · have H1 := Lib.hid hg
    rw [tripOf_no hg]
    clear hg
    rw [← hW] at hbk hyb hU0
    go_enter Tryz.func48, Tryz.ntmps48
    go_wp2_with fail
    rw [← hW]
    clear hW
    go_loopw [4] (fun s wr => s = .int .i64 0 ∧ Up W wr) (fun _ _ => 0)
    case atStart => exact ⟨rfl, Up.refl _⟩
    case round =>
      obtain ⟨rfl, hb⟩ := hrel
      obtain ⟨wo, rfl⟩ : ∃ wo : World, wo = wr := ⟨_, rfl⟩
      have hyo := (hbk.up hb).two
      have hXo := hX.up (Up.then_ hU0 hb)
      by_cases hN : 0 < N
      · have d1 : decide (0 < N) = true := decide_eq_true hN
        go_wp2_with (go_at_call 16; refine (specIsGraph_is hXo hn H1.out).mono ?_; rintro e w1 ⟨rfl, hb1⟩)
        have hU1 := Up.then_ (Up.then_ hU0 hb) hb1
        have hown0 := OwnI.made (base := w1.heap.size) w1 (Nat.le_refl _)
        have hww := hU1.alloc hU1.size (.cells #[] 3)
        go_ret2
        exact givesIB_none hown0 hU1.size hww
      · have d1 : decide (0 < N) = false := decide_eq_false hN
        have hU1 := Up.then_ hU0 hb
        have hown0 := OwnI.made (base := wo.heap.size) wo (Nat.le_refl _)
        have hww := hU1.alloc hU1.size (.cells #[] 3)
        go_wp2
        go_ret2
        exact givesIB_none hown0 hU1.size hww
  · obtain rfl : n = k := by rw [← hX.1, ints_len, h.len]
    rw [tripOf_ok h]
    have h7 := h.le
    rw [← hW] at hbk hyb hU0
    have hXW := hX.up hU0
    go_enter Tryz.func48, Tryz.ntmps48
    go_wp2_with fail
    rw [← hW]
    clear hW hyb
    have H1 := Lib.hid h.is
    go_loopw [4] (fun s wr => ∃ a : Nat, a ≤ n ∧ s = .int .i64 a ∧ Up W wr ∧ Hid (ftK (trA n (ints Q) n) a = none)) (fun s _ => n - (intOf s).toNat)
    case atStart => exact ⟨0, Nat.zero_le _, rfl, Up.refl _, rfl⟩
    case round =>
      obtain ⟨a, ha, rfl, hb, hno⟩ := hrel
      obtain ⟨wa, rfl⟩ : ∃ wa : World, wa = wr := ⟨_, rfl⟩
      have hya := (hbk.up hb).two
      by_cases han : a < n
      · have hXa := hXW.up hb
        go_wp2_with (go_at_call 16; refine (specIsGraph_is hXa hn H1.out).mono ?_; rintro e w1 ⟨rfl, hb1⟩; have hy1 := ((hbk.up hb).up hb1).two)
        have hba := Up.then_ hb hb1
        clear hya hy1
        go_loopw [5] (fun s wr => ∃ b : Nat, a < b ∧ b ≤ n ∧ s = .int .i64 b ∧ Up W wr ∧ Hid (ftK (trB n (ints Q) n a) b = none)) (fun s _ => n - (intOf s).toNat)
        case atStart => exact ⟨a + 1, by omega, by omega, by go_num, hba, ftK_low (fun k hk => trB_low hk) _ (Nat.le_refl _)⟩
        case round =>
          obtain ⟨b, hab, hbn, rfl, hb2, hno2⟩ := hrel
          obtain ⟨wb, rfl⟩ : ∃ wb : World, wb = wr := ⟨_, rfl⟩
          have hyw := (hbk.up hb2).two
          by_cases hbt : b < n
          · go_wp2_with fail
            clear hyw
            go_loopw [6] (fun s wr => ∃ c : Nat, b < c ∧ c ≤ n ∧ s = .int .i64 c ∧ Up W wr ∧ Hid (ftK (trC n (ints Q) a b) c = none)) (fun s _ => n - (intOf s).toNat)
            case atStart => exact ⟨b + 1, by omega, by omega, by go_num, hb2, ftK_low (fun k hk => trC_low hk) _ (Nat.le_refl _)⟩
            case round =>
              obtain ⟨c, hbc, hcn, rfl, hb3, hno3⟩ := hrel
              obtain ⟨wc, rfl⟩ : ∃ wc : World, wc = wr := ⟨_, rfl⟩
              have hyc := (hbk.up hb3).two
              by_cases hct : c < n
              · rcases Bool.eq_false_or_eq_true (isTrip n (ints Q) a b c) with e | e
                · have E := Lib.hid e
                  have HS := Lib.hid (ftK_some hno.out (show trA n (ints Q) n a = some [a, b, c] from ftK_some hno2.out (show trB n (ints Q) n a b = some [a, b, c] by rw [trB_at hab]; exact ftK_some hno3.out (trC_yes hbc e) n hct) n hbt) n han)
                  clear e
                  go_wp2_with fail
                  refine (specIsTriple_is (hXW.up hb3) hn E.out).mono ?_
                  rintro e w4 ⟨rfl, hb4⟩
                  have hown := row3_own (w := w4) (g := w4.heap.size) (base := w4.heap.size) rfl (Nat.le_refl _) (a : Int) (b : Int) (c : Int)
                  have hw4 := Up.then_ hU0 (Up.then_ hb3 hb4)
                  have hww := hw4.alloc hw4.size (.cells #[.int .i64 (a : Int), .int .i64 (b : Int), .int .i64 (c : Int)] 3)
                  go_wp2
                  go_ret2
                  rw [HS.out]
                  exact givesIB_some (q := [a, b, c]) hown hw4.size hww
                · have E := Lib.hid e
                  have HN := Lib.hid (ftK_none hno3.out (trC_no e))
                  clear e
                  go_wp2_with fail
                  refine (specIsTriple_is (hXW.up hb3) hn E.out).mono ?_
                  rintro e w4 ⟨rfl, hb4⟩
                  go_wp2
                  go_roundw
                  case rel => exact ⟨c + 1, by omega, by omega, by go_num, Up.then_ hb3 hb4, HN.out⟩
                  case measure => simp [intOf]; omega
              · obtain rfl : c = n := by omega
                have HN := Lib.hid (ftK_none hno2.out (show trB c (ints Q) c a b = none by rw [trB_at hab]; exact hno3.out))
                go_wp2
                go_roundw
                case rel => exact ⟨b + 1, by omega, by omega, by go_num, hb3, HN.out⟩
                case measure => simp [intOf]; omega
          · obtain rfl : b = n := by omega
            have HN := Lib.hid (ftK_none hno.out (show trA b (ints Q) b a = none from hno2.out))
            go_wp2
            go_roundw
            case rel => exact ⟨a + 1, by omega, by go_num, hb2, HN.out⟩
            case measure => simp [intOf]; omega
      · obtain rfl : a = n := by omega
        have hU1 := Up.then_ hU0 hb
        have hown0 := OwnI.made (base := wa.heap.size) wa (Nat.le_refl _)
        have hww := hU1.alloc hU1.size (.cells #[] 3)
        go_wp2
        go_ret2
        rw [hno.out]
        exact givesIB_none hown0 hU1.size hww
end Go.Proofs.YthncdjcmlpiebaaGreat
