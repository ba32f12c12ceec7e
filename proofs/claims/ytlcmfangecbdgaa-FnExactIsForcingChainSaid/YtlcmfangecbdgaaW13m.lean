/- Walks of chapter 13: the place of an arc, the program's. -/
import Derived.Test.YtlcmfangecbdgaaW13l
import Derived.Test.YtlcmfangecbdgaaSlf
import Derived.Test.YtlcmfangecbdgaaSl
namespace Go.Proofs.Ytlcmfangecbdgaa
open Go.RowKit
set_option maxHeartbeats 1000000 in
set_option maxRecDepth 100000 in
theorem slIndexFuncS_any (f : FuncId) (caps : Array Value) (xy : Nat × Nat) {A : Option Addr} {n c base : Nat} {ps : List RowP} {l : List (Nat × Nat)} (w : World) (hA : OwnS w base A n c ps) (hl : ps.map Prod.snd = l.map row2) (hn : n ≤ 1048576) (he : EntersF f)
    (hp : ∀ (r d : Nat) (q : Nat × Nat) w', Up w w' → OwnI w' base (some ⟨r, 0, none⟩) 2 d [(q.1 : Int), (q.2 : Int)] → Calls Try.prog f (#[.slice (some ⟨r, 0, none⟩) 2 d] ++ caps) w' fun e w'' => e = .returned (.bool (decide (q = xy))) ∧ Below w'.heap.size w' w'') :
    Calls Try.prog 80 #[.slice A n c, .func (.func f) #[] caps] w fun e w' => e = .returned (.int .i64 (fndZ l xy)) ∧ Below w.heap.size w w' := by
  have hll : l.length = n := by have := congrArg List.length hl; simp at this; rw [← this, hA.len]
  have HX := Lib.hid hll
  have HL := Lib.hid hl
  have HP := Lib.hid hp
  clear hp hll hl
  unfold EntersF at he
  go_enter Try.func80, Try.ntmps80
  go_wp2
  go_loopw [8] (fun i wr => ∃ k : Nat, k ≤ n ∧ i = .int .i64 k ∧ Up w wr ∧ Hid (∀ j, (hj : j < l.length) → j < k → l[j] ≠ xy)) (fun i _ => n - (intOf i).toNat)
  case atStart => exact ⟨0, Nat.zero_le _, rfl, Up.refl _, fun j _ h => absurd h (by omega)⟩
  case round =>
    obtain ⟨k, hk, rfl, hb, hno⟩ := hrel
    by_cases hlt : k < n
    · obtain ⟨g, r, d, rfl, hkl, hc, _, _, _, _, hrow, _⟩ := (hA.up hb).arc HL.out hlt
      have HK := Lib.hid (fun (e : l[k] = xy) => fndZ_at hkl e fun j hj => hno.out j (by omega) hj)
      obtain ⟨q, hq⟩ : ∃ q, q = l[k] := ⟨_, rfl⟩
      rw [← hq] at hrow HK
      have HQ := Lib.hid hq
      clear hq
      go_wp2_with fail
      refine (HP.out r d q _ hb hrow).mono ?_
      rintro e w2 ⟨rfl, hb2⟩
      have hw2 := Up.then_ hb hb2
      by_cases e1 : q = xy
      · have HR := Lib.hid (HK.out e1)
        rw [decide_eq_true e1]
        clear e1
        go_wp2
        go_ret
        exact ⟨ret_int HR.out.symm, hw2⟩
      · have E1 := Lib.hid (show l[k] ≠ xy by rw [← HQ.out]; exact e1)
        rw [decide_eq_false e1]
        clear e1
        go_wp2
        go_roundw
        case rel => exact ⟨k + 1, by omega, by go_num, hw2, fun j hj hj2 => by
          rcases Nat.lt_succ_iff_lt_or_eq.1 hj2 with h' | rfl
          · exact hno.out j hj h'
          · exact E1.out⟩
        case measure => simp [intOf]; omega
    · obtain rfl : k = n := by omega
      have HR := Lib.hid (fndZ_no (l := l) (p := xy) fun hm => by
        obtain ⟨j, hj, e⟩ := List.mem_iff_getElem.1 hm
        exact hno.out j hj (by rw [← HX.out]; exact hj) e)
      go_wp2
      go_ret
      exact ⟨ret_int HR.out.symm, hb⟩
theorem row2_dec (q p : Nat × Nat) : decide ([(q.1 : Int), (q.2 : Int)] = [(p.1 : Int), (p.2 : Int)]) = decide (q = p) := by
  by_cases e : q = p
  · rw [e, decide_eq_true rfl, decide_eq_true rfl]
  · rw [decide_eq_false e]
    exact decide_eq_false fun h => e (row2_inj h)
set_option maxHeartbeats 1000000 in
set_option maxRecDepth 100000 in
theorem indexOf_any {A B : Option Addr} {n c base d : Nat} {ps : List RowP} {l : List (Nat × Nat)} (xy : Nat × Nat) {w : World} (hA : OwnS w base A n c ps) (hl : ps.map Prod.snd = l.map row2) (hn : n ≤ 1048576) (hr : RI w B 2 [(xy.1 : Int), (xy.2 : Int)]) :
    Calls Try.prog 62 #[.slice A n c, .slice B 2 d] w fun e w' => e = .returned (.int .i64 (fndZ l xy)) ∧ Below w.heap.size w w' := by
  have hent := entersF (f := 81) Try.func81 rfl rfl
  have hbk := Blk.new w 22 #[.slice B 2 d]
  have hU : Up w (w.alloc (.cells #[.slice B 2 d] 22)) := by go_grown
  go_enter Try.func62, Try.ntmps62
  go_wp2_with fail
  refine (slIndexFuncS_any 81 #[.pointer (some ⟨w.heap.size, 0, none⟩)] xy _ (hA.alloc _) hl hn hent ?_).mono ?_
  · intro r2 d2 q w' hU' hrow
    have hbk' := (hbk.up hU').one
    have hr' := hr.up (Up.then_ hU hU')
    clear hU hbk hent
    go_enter Try.func81, Try.ntmps81
    go_wp2_with fail
    refine (slEqual_any _ _ 2 2 _ _ _ _ _ hrow.ri hr' (by omega)).mono ?_
    rintro e w2 ⟨rfl, hb2⟩
    rw [row2_dec]
    go_wp2
    go_ret
    exact ⟨rfl, hb2⟩
  · rintro e w2 ⟨rfl, hb2⟩
    go_wp2
    go_ret
    exact ⟨rfl, Up.then_ hU hb2⟩
end Go.Proofs.Ytlcmfangecbdgaa
