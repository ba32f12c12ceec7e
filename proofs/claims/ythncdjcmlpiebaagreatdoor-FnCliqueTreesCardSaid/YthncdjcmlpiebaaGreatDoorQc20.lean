/- Walks: numbers and sets as text. Walks: trees as text. Draws: intervals. -/
import Derived.Test.YthncdjcmlpiebaaGreatDoorQc01
import Derived.Test.YthncdjcmlpiebaaGreatDoorQc03
import Derived.Test.YthncdjcmlpiebaaGreatDoorQc04
import Derived.Test.YthncdjcmlpiebaaGreatDoorQc05
import Derived.Test.YthncdjcmlpiebaaGreatDoorQc12
import Derived.Test.YthncdjcmlpiebaaGreatDoorQc14
import Derived.Test.YthncdjcmlpiebaaGreatDoorQc19
import Derived.Deep.RegionLaw
import Derived.Deep.RegionWith
namespace Go.Proofs.YthncdjcmlpiebaaGreatDoor
open Go.RowKit
set_option maxRecDepth 100000 in
theorem addS (a b : List UInt8) (h : a.length + b.length ≤ 1000000) (w : World) : (Op.stringOp .add (sb a) (sb b)).run Tryz.prog w = .ok (.string (sb (a ++ b))) w := by
  rw [run_string_add_sum w _ _ (by rw [sb_size, sb_size]; omega), sb_add]
set_option maxRecDepth 100000 in
theorem sb_toList (l : List UInt8) : (sb l).toList = l := by
  simp [sb]
set_option maxRecDepth 100000 in
theorem byteS (g : Nat) (x : Int) (z : Nat) (hx : x = (z : Int)) (w : World) (hc : w.cell? ⟨g, 0, none⟩ = some (.int .u8 x)) : (convert 22 9 (.slice (some ⟨g, 0, none⟩) 1 1)).run Tryz.prog w = .ok (.string (sb [UInt8.ofNat z])) w := by
  subst hx
  rw [run_convert_bytes_string w _ _ _ _ _ _ Tryz.underlying22 Tryz.underlying5 Tryz.underlying9, run_bytesToString w ⟨g, 0, none⟩ 1 1 [(z : Int)] (run_loadCells_list w ⟨g, 0, none⟩ [.int .u8 (z : Int)] fun j v hv => by
    rcases j with _ | j
    · obtain rfl : Value.int .u8 (z : Int) = v := by simpa using hv
      exact hc
    · simp at hv)]
  rfl
set_option maxRecDepth 100000 in
theorem specFormatInt_any (i : Nat) (hi : i < 100) (w : World) : Calls Tryz.prog 69 #[.int .i64 i] w fun e w' => e = .returned (.string (sb (dec i))) ∧ Below w.heap.size w w' := by
  by_cases h0 : i = 0
  · subst h0
    have HE : sb (dec 0) = ⟨#[48]⟩ := by rw [dec_one (by omega)]; rfl
    rw [HE]
    go_enter Tryz.func69, Tryz.ntmps69
    go_wp2
    go_ret
    exact ⟨rfl, Below.refl _ _⟩
  · go_enter Tryz.func69, Tryz.ntmps69
    go_wp2
    go_loopw [0, 3] (fun n s wr => Below w.heap.size w wr ∧ w.heap.size ≤ wr.heap.size ∧ ((n = .int .i64 i ∧ s = .string ⟨#[]⟩) ∨ (10 ≤ i ∧ n = .int .i64 ((i / 10 : Nat) : Int) ∧ s = .string (sb [UInt8.ofNat (48 + i % 10)])) ∨ (n = .int .i64 0 ∧ s = .string (sb (dec i))))) (fun n _ _ => (intOf n).toNat)
    case atStart => exact ⟨Below.refl _ _, Nat.le_refl _, .inl ⟨rfl, rfl⟩⟩
    case round =>
      obtain ⟨hb, hsz, ⟨rfl, rfl⟩ | ⟨h10, rfl, rfl⟩ | ⟨rfl, rfl⟩⟩ := hrel
      · have hcv := byteS wr.heap.size (48 + (i : Int) % 10) (48 + i % 10) (by omega) (wr.alloc (.cells #[.int .u8 (48 + (i : Int) % 10)] 5)) (by simp)
        have hadd : ∀ w, (Op.stringOp .add (sb [UInt8.ofNat (48 + i % 10)]) ⟨#[]⟩).run Tryz.prog w = .ok (.string (sb [UInt8.ofNat (48 + i % 10)])) w := addS [UInt8.ofNat (48 + i % 10)] [] (by simp)
        obtain ⟨x, hx⟩ : ∃ x, x = sb [UInt8.ofNat (48 + i % 10)] := ⟨_, rfl⟩
        have HX := Lib.hid hx
        rw [← hx] at hcv hadd
        clear hx
        go_wp2
        go_roundw
        case rel =>
          refine ⟨hb.alloc hsz _, by simp; omega, ?_⟩
          rcases Nat.lt_or_ge i 10 with h | h
          · refine .inr (.inr ⟨by congr 1; omega, ?_⟩)
            rw [HX.out, dec_one h, Nat.mod_eq_of_lt h]
          · exact .inr (.inl ⟨h, by congr 1, by rw [HX.out]⟩)
        case measure => simp [intOf]; omega
      · obtain ⟨q, hq⟩ : ∃ q, q = i / 10 := ⟨_, rfl⟩
        have hq9 : q < 10 := by omega
        have hq0 : q ≠ 0 := by omega
        have hcv := byteS wr.heap.size (48 + (q : Int) % 10) (48 + q) (by omega) (wr.alloc (.cells #[.int .u8 (48 + (q : Int) % 10)] 5)) (by simp)
        have hadd : ∀ w, (Op.stringOp .add (sb [UInt8.ofNat (48 + q)]) (sb [UInt8.ofNat (48 + i % 10)])).run Tryz.prog w = .ok (.string (sb (dec i))) w := by
          rw [dec_two h10 hi, ← hq]
          exact addS [UInt8.ofNat (48 + q)] [UInt8.ofNat (48 + i % 10)] (by simp)
        obtain ⟨x, hx⟩ : ∃ x, x = sb [UInt8.ofNat (48 + q)] := ⟨_, rfl⟩
        obtain ⟨y, hy⟩ : ∃ y, y = sb [UInt8.ofNat (48 + i % 10)] := ⟨_, rfl⟩
        obtain ⟨z, hz⟩ : ∃ z, z = sb (dec i) := ⟨_, rfl⟩
        have HZ := Lib.hid hz
        rw [← hx] at hcv
        rw [← hx, ← hy, ← hz] at hadd
        rw [← hq, ← hy]
        clear hx hy hz hq
        go_wp2
        go_roundw
        case rel => exact ⟨hb.alloc hsz _, by simp; omega, .inr (.inr ⟨by congr 1; omega, by rw [HZ.out]⟩)⟩
        case measure => simp [intOf]; omega
      · go_wp2
        go_ret
        exact ⟨rfl, hb⟩
set_option maxRecDepth 100000 in
theorem implFormatInt_any (i : Nat) (hi : i < 100) (w : World) : Calls Tryz.prog 67 #[.int .i64 i] w fun e w' => e = .returned (.string (sb (dec i))) ∧ w' = w := by
  go_enter Tryz.func67, Tryz.ntmps67
  go_wp2_with fail
  refine (Tryz.strconv_Itoa_small i hi _).mono ?_
  rintro e w' ⟨rfl, rfl⟩
  go_wp2
  go_ret
  exact ⟨rfl, rfl⟩
set_option maxRecDepth 100000 in
theorem decs_take {l : List Nat} {k : Nat} (h : k < l.length) : decs (l.take (k + 1)) = decs (l.take k) ++ dec (nb l k) := by
  rw [List.take_succ_eq_append_getElem h, decs_snoc]
  simp [nb, List.getD, List.getElem?_eq_getElem h]
set_option maxRecDepth 100000 in
theorem decs_small {l : List Nat} (hl : l.length ≤ 1000) (h : ∀ v ∈ l, v < 100) (k : Nat) : (decs (l.take k)).length ≤ 2000 := by
  have h1 := (decs_len (l := l.take k) fun v hv => h v (List.mem_of_mem_take hv)).2
  have h2 : (l.take k).length ≤ l.length := by rw [List.length_take]; omega
  omega
set_option maxRecDepth 100000 in
theorem nb_memS {l : List Nat} {j : Nat} (h : j < l.length) : nb l j ∈ l := by rw [nb]; simp [List.getD, List.getElem?_eq_getElem h]
set_option maxRecDepth 100000 in
theorem RI.ints_at'' {w : World} {A : Option Addr} {m k : Nat} {o : List Nat} (h : RI w A m (ints o)) (hk : k < m) : ∃ ad, A = some ad ∧ w.cell? (ad.add k) = some (.int .i64 (nb o k)) := by
  obtain ⟨ad, e, _, hc⟩ := h.at_ hk
  exact ⟨ad, e, by rw [hc, ints_nb]⟩
set_option maxRecDepth 100000 in
theorem digits_any (A : Option Addr) (n c : Nat) (l : List Nat) (w : World) (hX : RI w A n (ints l)) (hn : n ≤ 1000) (hl : ∀ v ∈ l, v < 100) : Calls Tryz.prog 139 #[.slice A n c] w fun e w' => e = .returned (.string (sb (decs l))) ∧ w' = w := by
  obtain rfl : l.length = n := by rw [← hX.1, ints_len]
  obtain ⟨m, hm⟩ : ∃ m, m = l.length := ⟨_, rfl⟩
  rw [← hm] at hX hn
  rw [← hm]
  have HS := Lib.hid (fun k => decs_small (l := l) (by omega) hl k)
  have HM := Lib.hid hm
  clear hm
  go_enter Tryz.func139, Tryz.ntmps139
  go_wp2
  go_loop [3, 8] (fun s i => ∃ k, k ≤ m ∧ i = .int .i64 (k : Nat) ∧ s = .string (sb (decs (l.take k)))) (fun _ i => m - (intOf i).toNat)
  case atStart => exact ⟨0, Nat.zero_le _, rfl, rfl⟩
  case round =>
    obtain ⟨k, hk, rfl, rfl⟩ := hrel
    by_cases hkm : k < m
    · have hkl : k < l.length := by rw [← HM.out]; exact hkm
      obtain ⟨ad, rfl, hc⟩ := hX.ints_at'' hkm
      have hv := hl _ (nb_memS hkl)
      have hadd : ∀ w, (Op.stringOp .add (sb (decs (l.take k))) (sb (dec (nb l k)))).run Tryz.prog w = .ok (.string (sb (decs (l.take (k + 1))))) w := by
        rw [decs_take hkl]
        exact addS _ _ (by have := HS.out k; have := (dec_len hv).2; omega)
      obtain ⟨v, hvv⟩ : ∃ v, v = nb l k := ⟨_, rfl⟩
      rw [← hvv] at hc hv hadd
      have hf := implFormatInt_any v hv
      obtain ⟨y, hy⟩ : ∃ y, y = sb (dec v) := ⟨_, rfl⟩
      obtain ⟨x, hx⟩ : ∃ x, x = sb (decs (l.take k)) := ⟨_, rfl⟩
      obtain ⟨z, hz⟩ : ∃ z, z = sb (decs (l.take (k + 1))) := ⟨_, rfl⟩
      have HZ := Lib.hid hz
      rw [← hx, ← hy, ← hz] at hadd
      rw [← hx]
      have Hf := Lib.hid hf
      have HY := Lib.hid hy
      clear hf hx hy hz hvv
      go_wp2_with fail
      have hf := Hf.out w
      rw [← HY.out] at hf
      refine hf.mono ?_
      rintro e w' ⟨rfl, rfl⟩
      clear hf
      go_wp2
      go_round
      case rel => exact ⟨k + 1, by omega, by go_num, by rw [HZ.out]⟩
      case measure => simp [intOf]; omega
    · obtain rfl : k = m := by omega
      rw [List.take_of_length_le (by rw [HM.out]; exact Nat.le_refl _)]
      go_wp2
      go_ret
      exact ⟨rfl, rfl⟩
set_option maxRecDepth 100000 in
theorem implFormatSet_any (s : Nat) (hs : s < 128) (w : World) : Calls Tryz.prog 107 #[.int .i64 s] w fun e w' => e = .returned (.string (sb (fset s))) ∧ Below w.heap.size w w' := by
  by_cases h0 : s = 0
  · subst h0
    have HE : sb (fset 0) = ⟨#[45]⟩ := by rw [fset, if_pos rfl]; rfl
    rw [HE]
    go_enter Tryz.func107, Tryz.ntmps107
    go_wp2
    go_ret
    exact ⟨rfl, Below.refl _ _⟩
  · have HE : fset s = decs (listOf s) := if_neg h0
    rw [HE]
    clear HE
    go_enter Tryz.func107, Tryz.ntmps107
    go_wp2_with fail
    refine (implListOf_any s w hs).mono ?_
    rintro e w1 ⟨A, c, rfl, hO, hb⟩
    rw [ints_len] at hO
    rw [ints_len]
    have hd := digits_any A (listOf s).length c (listOf s) w1 hO.ri (by have := listOf_len s; omega) (fun v hv => by have := mem_listOf.1 hv; omega)
    obtain ⟨x, hx⟩ : ∃ x, x = sb (decs (listOf s)) := ⟨_, rfl⟩
    rw [← hx] at hd
    have HX := Lib.hid hx
    clear hx
    go_wp2_with fail
    refine hd.mono ?_
    rintro e w' ⟨rfl, rfl⟩
    clear hd
    go_wp2
    go_ret
    exact ⟨by rw [← HX.out]; rfl, hb⟩
set_option maxRecDepth 100000 in
theorem specFormatSet_any (s : Nat) (hs : s < 128) (w : World) : Calls Tryz.prog 108 #[.int .i64 s] w fun e w' => e = .returned (.string (sb (fset s))) ∧ Below w.heap.size w w' := by
  have hl : ∀ v ∈ listOf s, v < 100 := fun v hv => by have := mem_listOf.1 hv; omega
  have hLl := listOf_len s
  have HS := Lib.hid (fun k => decs_small (l := listOf s) (by omega) hl k)
  have HZ0 := Lib.hid (fun (h : listOf s = []) => listOf_none hs h)
  have H00 := Lib.hid (fun (h : s = 0) => show listOf s = [] by rw [h]; exact listOf_zero)
  go_enter Tryz.func108, Tryz.ntmps108
  go_wp2_with fail
  refine (specListOf_any s w hs).mono ?_
  rintro e w1 ⟨A, c, rfl, hO, hb⟩
  rw [ints_len] at hO
  rw [ints_len]
  have hX := hO.ri
  clear hO
  obtain ⟨l, hll⟩ : ∃ l, l = listOf s := ⟨_, rfl⟩
  rw [← hll] at hX hl hLl HS HZ0 H00
  rw [← hll]
  obtain ⟨m, hm⟩ : ∃ m, m = l.length := ⟨_, rfl⟩
  rw [← hm] at hX hLl
  rw [← hm]
  have HM := Lib.hid hm
  have HL := Lib.hid hll
  clear hm hll
  go_wp2
  go_loopw [4, 5] (fun t i wr => ∃ k, k ≤ m ∧ i = .int .i64 (k : Nat) ∧ t = .string (sb (decs (l.take k))) ∧ Up w1 wr ∧ RI wr A m (ints l)) (fun _ i _ => m - (intOf i).toNat)
  case atStart => exact ⟨0, Nat.zero_le _, rfl, rfl, Up.refl _, hX⟩
  case round =>
    clear hX
    obtain ⟨k, hk, rfl, rfl, hU, hX⟩ := hrel
    by_cases hkm : k < m
    · have hkl : k < l.length := by rw [← HM.out]; exact hkm
      obtain ⟨ad, rfl, hc⟩ := hX.ints_at'' hkm
      have hv := hl _ (nb_memS hkl)
      have hadd : ∀ w, (Op.stringOp .add (sb (decs (l.take k))) (sb (dec (nb l k)))).run Tryz.prog w = .ok (.string (sb (decs (l.take (k + 1))))) w := by
        rw [decs_take hkl]
        exact addS _ _ (by have := HS.out k; have := (dec_len hv).2; omega)
      obtain ⟨v, hvv⟩ : ∃ v, v = nb l k := ⟨_, rfl⟩
      rw [← hvv] at hc hv hadd
      have hf := specFormatInt_any v hv wr
      obtain ⟨y, hy⟩ : ∃ y, y = sb (dec v) := ⟨_, rfl⟩
      obtain ⟨x, hx⟩ : ∃ x, x = sb (decs (l.take k)) := ⟨_, rfl⟩
      obtain ⟨z, hz⟩ : ∃ z, z = sb (decs (l.take (k + 1))) := ⟨_, rfl⟩
      have HZ := Lib.hid hz
      rw [← hx, ← hy, ← hz] at hadd
      rw [← hx]
      rw [← hy] at hf
      have Hf := Lib.hid hf
      clear hf hx hy hz hvv
      go_wp2_with fail
      refine Hf.out.mono ?_
      rintro e w' ⟨rfl, hbf⟩
      clear Hf
      go_wp2
      go_roundw
      case rel => exact ⟨k + 1, by omega, by go_num, by rw [HZ.out], Up.then_ hU hbf, hX.up hbf⟩
      case measure => simp [intOf]; omega
    · obtain rfl : k = m := by omega
      rw [List.take_of_length_le (by rw [HM.out]; exact Nat.le_refl _)]
      have hbr := Up.then_ hb hU
      by_cases h0 : s = 0
      · have e0 : sb (decs l) = ⟨#[]⟩ := by rw [H00.out h0]; rfl
        have e1 := Lib.hid (show sb (fset s) = ⟨#[45]⟩ by rw [h0, fset, if_pos rfl]; rfl)
        rw [e0]
        go_wp2_with (go_at_call 106; refine (l3Fine_yes _ _ (by omega)).mono ?_; rintro e w' ⟨rfl, rfl⟩)
        go_ret
        exact ⟨congrArg (fun b => Ending.returned (Value.string b)) e1.out.symm, hbr⟩
      · have hne : (sb (decs l)).toList ≠ [] := by
          rw [sb_toList]
          intro e
          have h1 := (decs_len hl).1
          rw [e] at h1
          exact h0 (HZ0.out (List.length_eq_zero_iff.1 (by simpa using h1)))
        have heq : (sb (decs l)).toList.isEmpty = false := by rw [← Bool.not_eq_true, List.isEmpty_iff]; exact hne
        have e1 := Lib.hid (show fset s = decs l by rw [fset, if_neg h0, HL.out])
        obtain ⟨x, hx⟩ : ∃ x, x = sb (decs l) := ⟨_, rfl⟩
        rw [← hx] at heq hne
        rw [← hx]
        have HX := Lib.hid hx
        clear hx
        go_wp2
        go_ret
        exact ⟨congrArg (fun b => Ending.returned (Value.string b)) (HX.out.trans (congrArg sb e1.out.symm)), hbr⟩
end Go.Proofs.YthncdjcmlpiebaaGreatDoor
namespace Go.Proofs.YthncdjcmlpiebaaGreatDoor
open Go.RowKit
set_option maxRecDepth 100000 in
theorem add_0s (a : Addr) : a.add 0 = a := by unfold Addr.add; simp
set_option maxRecDepth 100000 in
theorem tree_nums {X Y : List Int} (h : isTree X Y = true) : (∀ j, (Y.getD j 0).toNat < 100) ∧ (∀ j, j < X.length → ∃ b : Nat, X.getD j 0 = (b : Int) ∧ b < 128) ∧ (∀ j, 0 < j → j < X.length → ∃ p : Nat, Y.getD j 0 = (p : Int) ∧ p < 100) := by
  obtain ⟨h1, h2, h3, h4⟩ := isTree_spec h
  have hb : ∀ j, 0 < j → j < X.length → ∃ p : Nat, Y.getD j 0 = (p : Int) ∧ p < 100 := fun j h0 hj => by
    have := (tOk_pos h0).1 (h4 j hj)
    exact ⟨(Y.getD j 0).toNat, by omega, by omega⟩
  refine ⟨fun j => ?_, fun j hj => ?_, hb⟩
  · rcases Nat.lt_or_ge j X.length with hj | hj
    · rcases Nat.eq_zero_or_pos j with rfl | h0
      · have := (tOk_zero.1 (h4 0 hj)).2
        omega
      · obtain ⟨p, e, hp⟩ := hb j h0 hj
        omega
    · rw [List.getD_eq_getElem?_getD, List.getElem?_eq_none (by omega)]; simp
  · have : 0 ≤ X.getD j 0 ∧ X.getD j 0 ≤ 127 := by
      rcases Nat.eq_zero_or_pos j with rfl | h0
      · exact (tOk_zero.1 (h4 0 hj)).1
      · exact ((tOk_pos h0).1 (h4 j hj)).1
    exact ⟨(X.getD j 0).toNat, by omega, by omega⟩
set_option maxRecDepth 100000 in
theorem ftK_one (X Y : List Int) (b : Nat) (hb : X.getD 0 0 = (b : Int)) : ftK X Y 1 = fset b := by
  show (if 0 = 0 then ([] : List UInt8) else _) ++ fset (X.getD 0 0).toNat = _
  rw [hb]; rfl
set_option maxRecDepth 100000 in
theorem ftK_more {X Y : List Int} {k b p : Nat} (hk : k ≠ 0) (hb : X.getD k 0 = (b : Int)) (hp : Y.getD k 0 = (p : Int)) : ftK X Y (k + 1) = ftK X Y k ++ [32] ++ dec p ++ [62] ++ fset b := by
  rw [ftK, if_neg hk, hb, hp]; rfl
set_option maxRecDepth 100000 in
set_option maxHeartbeats 1000000 in
theorem specFormatTree_any (A B : Option Addr) (n m c d : Nat) (X Y : List Int) (w : World) (hX : RI w A n X) (hY : RI w B m Y) (hn : n ≤ 1048576) (hm : m ≤ 1048576) :
    Calls Tryz.prog 55 #[.agg #[.slice A n c, .slice B m d]] w fun e w' => e = .returned (.string (sb (ftree X Y))) ∧ Below w.heap.size w w' := by
  have hbk := Blk.new w 49 #[.slice A n c, .slice B m d]
  have hU0 : Up w (w.alloc (.cells #[.slice A n c, .slice B m d] 49)) := by go_grown
  have hX0 := hX.up hU0
  have hY0 := hY.up hU0
  have HXl := Lib.hid hX.1
  have HYl := Lib.hid hY.1
  by_cases ht : isTree X Y = true
  · obtain ⟨h1, h2, h3, _⟩ := isTree_spec ht
    obtain ⟨hsm, hbags, hpars⟩ := tree_nums ht
    have HB := Lib.hid hbags
    have HP := Lib.hid hpars
    have HLen := Lib.hid (fun k => ftK_len (B := X) (P := Y) hsm k)
    have HR := Lib.hid (ftree_yes ht)
    have hn20 : n ≤ 20 := by have := hX.1; omega
    have hmn : m = n := by have := hX.1; have := hY.1; omega
    subst hmn
    have HT := Lib.hid ht
    clear ht hbags hpars hsm h1 h2 h3 hX hY
    go_enter Tryz.func55, Tryz.ntmps55
    have hy0 := hbk.two
    go_wp2
    clear hy0
    go_loopw [3, 4] (fun s i wr => ∃ k, k ≤ m ∧ i = .int .i64 (k : Nat) ∧ s = .string (sb (ftK X Y k)) ∧ Blk wr w.heap.size 49 #[.slice A m c, .slice B m d] ∧ RI wr A m X ∧ RI wr B m Y ∧ Below w.heap.size w wr) (fun _ i _ => m - (intOf i).toNat)
    case atStart => exact ⟨0, Nat.zero_le _, rfl, rfl, hbk, hX0, hY0, hU0⟩
    case round =>
      clear hbk hX0 hY0 hU0
      obtain ⟨k, hk, rfl, rfl, hbk, hX0, hY0, hb⟩ := hrel
      have hy := hbk.two
      by_cases hkm : k < m
      · obtain ⟨b, hb1, hb2⟩ := HB.out k (by rw [HXl.out]; exact hkm)
        have hit := specIsTree_any A B m m c d X Y wr hX0 hY0 (by omega) (by omega)
        rw [HT.out] at hit
        have Hit := Lib.hid hit
        clear hit
        go_wp2_with (fail)
        refine Hit.out.mono ?_
        rintro e w1 ⟨rfl, hbe⟩
        replace hbk := hbk.up hbe
        replace hX0 := hX0.up hbe
        replace hY0 := hY0.up hbe
        replace hb := Up.then_ hb hbe
        clear Hit hbe hy
        have hy := hbk.two
        obtain ⟨ad, rfl, _, hcX⟩ := hX0.at_ hkm
        rw [hb1] at hcX
        by_cases hk0 : k = 0
        · subst hk0
          replace hcX : w1.cell? ad = some (.int .i64 (b : Nat)) := by rw [add_0s] at hcX; exact hcX
          have HN := Lib.hid (show fset b = ftK X Y (0 + 1) from (ftK_one X Y b hb1).symm)
          have hadd : ∀ w, (Op.stringOp .add (sb (ftK X Y 0)) (sb (fset b))).run Tryz.prog w = .ok (.string (sb (fset b))) w := addS [] (fset b) (by have := fset_len b; simp; omega)
          have hfs := specFormatSet_any b hb2 w1
          obtain ⟨x, hx⟩ : ∃ x, x = sb (ftK X Y 0) := ⟨_, rfl⟩
          obtain ⟨z, hz⟩ : ∃ z, z = sb (fset b) := ⟨_, rfl⟩
          rw [← hx, ← hz] at hadd
          rw [← hz] at hfs
          rw [← hx]
          have HZ := Lib.hid hz
          have Hfs := Lib.hid hfs
          clear hx hz hfs
          go_wp2_with fail
          refine Hfs.out.mono ?_
          rintro e w2 ⟨rfl, hbf⟩
          replace hbk := hbk.up hbf
          replace hX0 := hX0.up hbf
          replace hY0 := hY0.up hbf
          replace hb := Up.then_ hb hbf
          clear Hfs hbf hy
          go_wp2
          go_roundw
          case rel => exact ⟨1, by omega, rfl, by rw [HZ.out, HN.out], hbk, hX0, hY0, hb⟩
          case measure => simp [intOf]; omega
        · obtain ⟨p, hp1, hp2⟩ := HP.out k (by omega) (by rw [HXl.out]; exact hkm)
          obtain ⟨ae, rfl, _, hcY⟩ := hY0.at_ hkm
          rw [hp1] at hcY
          have hl := HLen.out k
          have hlp := dec_len hp2
          have hlb := fset_len b
          have HN := Lib.hid (ftK_more (X := X) (Y := Y) hk0 hb1 hp1)
          obtain ⟨t, ht⟩ : ∃ t, t = ftK X Y k := ⟨_, rfl⟩
          rw [← ht] at HN hl
          rw [← ht]
          have a1 : ∀ w, (Op.stringOp .add (sb t) ⟨#[32]⟩).run Tryz.prog w = .ok (.string (sb (t ++ [32]))) w := addS t [32] (by simp; omega)
          have a2 : ∀ w, (Op.stringOp .add (sb (t ++ [32])) (sb (dec p))).run Tryz.prog w = .ok (.string (sb (t ++ [32] ++ dec p))) w := addS _ _ (by simp; omega)
          have a3 : ∀ w, (Op.stringOp .add (sb (t ++ [32] ++ dec p)) ⟨#[62]⟩).run Tryz.prog w = .ok (.string (sb (t ++ [32] ++ dec p ++ [62]))) w := addS _ [62] (by simp; omega)
          have a4 : ∀ w, (Op.stringOp .add (sb (t ++ [32] ++ dec p ++ [62])) (sb (fset b))).run Tryz.prog w = .ok (.string (sb (t ++ [32] ++ dec p ++ [62] ++ fset b))) w := addS _ _ (by simp; omega)
          have hfi := fun w => specFormatInt_any p hp2 w
          have hfs := fun w => specFormatSet_any b hb2 w
          obtain ⟨x0, hx0⟩ : ∃ x, x = sb t := ⟨_, rfl⟩
          obtain ⟨x1, hx1⟩ : ∃ x, x = sb (t ++ [32]) := ⟨_, rfl⟩
          obtain ⟨x2, hx2⟩ : ∃ x, x = sb (t ++ [32] ++ dec p) := ⟨_, rfl⟩
          obtain ⟨x3, hx3⟩ : ∃ x, x = sb (t ++ [32] ++ dec p ++ [62]) := ⟨_, rfl⟩
          obtain ⟨x4, hx4⟩ : ∃ x, x = sb (t ++ [32] ++ dec p ++ [62] ++ fset b) := ⟨_, rfl⟩
          obtain ⟨y, hyy⟩ : ∃ y, y = sb (dec p) := ⟨_, rfl⟩
          obtain ⟨z, hz⟩ : ∃ z, z = sb (fset b) := ⟨_, rfl⟩
          rw [← hx0, ← hx1] at a1
          rw [← hx1, ← hx2, ← hyy] at a2
          rw [← hx2, ← hx3] at a3
          rw [← hx3, ← hx4, ← hz] at a4
          simp only [← hyy] at hfi
          simp only [← hz] at hfs
          rw [← hx0]
          have H4 := Lib.hid hx4
          have Hfi := Lib.hid hfi
          have Hfs := Lib.hid hfs
          clear hx0 hx1 hx2 hx3 hx4 hyy hz hfi hfs hl hlp hlb ht
          go_wp2_with fail
          refine (Hfi.out _).mono ?_
          rintro e w2 ⟨rfl, hbf⟩
          replace hbk := hbk.up hbf
          replace hX0 := hX0.up hbf
          replace hY0 := hY0.up hbf
          replace hb := Up.then_ hb hbf
          clear Hfi hbf hy hcX hcY
          have hy := hbk.two
          obtain ⟨_, e, _, hcX⟩ := hX0.at_ hkm
          injection e with e
          subst e
          rw [hb1] at hcX
          go_wp2_with fail
          refine (Hfs.out _).mono ?_
          rintro e w3 ⟨rfl, hbf⟩
          replace hbk := hbk.up hbf
          replace hX0 := hX0.up hbf
          replace hY0 := hY0.up hbf
          replace hb := Up.then_ hb hbf
          clear Hfs hbf hy hcX
          go_wp2
          go_roundw
          case rel => exact ⟨k + 1, by omega, by go_num, by rw [H4.out, HN.out], hbk, hX0, hY0, hb⟩
          case measure => simp [intOf]; omega
      · obtain rfl : k = m := by omega
        have HR2 := Lib.hid (show ftree X Y = ftK X Y k by rw [HR.out, HXl.out])
        go_wp2
        go_ret
        exact ⟨congrArg (fun b => Ending.returned (Value.string (sb b))) HR2.out.symm, hb⟩
  · have ht' : isTree X Y = false := by simpa using ht
    have HE := Lib.hid (ftree_no ht')
    go_enter Tryz.func55, Tryz.ntmps55
    have hy0 := hbk.two
    have hit := specIsTree_any A B n m c d X Y _ hX0 hY0 (by omega) (by omega)
    rw [ht'] at hit
    have Hit := Lib.hid hit
    clear hit
    by_cases h0 : 0 < n
    · go_wp2
      go_loop [3, 4] (fun s i => s = .string ⟨#[]⟩ ∧ i = .int .i64 0) (fun _ _ => 0)
      case atStart => exact ⟨rfl, rfl⟩
      case round =>
        obtain ⟨rfl, rfl⟩ := hrel
        go_wp2_with fail
        refine Hit.out.mono ?_
        rintro e w1 ⟨rfl, hbe⟩
        go_wp2
        go_ret
        exact ⟨congrArg (fun b => Ending.returned (Value.string (sb b))) HE.out.symm, Up.then_ hU0 hbe⟩
    · obtain rfl : n = 0 := by omega
      go_wp2
      go_loop [3, 4] (fun s i => s = .string ⟨#[]⟩ ∧ i = .int .i64 0) (fun _ _ => 0)
      case atStart => exact ⟨rfl, rfl⟩
      case round =>
        obtain ⟨rfl, rfl⟩ := hrel
        go_wp2
        go_ret
        exact ⟨congrArg (fun b => Ending.returned (Value.string (sb b))) HE.out.symm, hU0⟩
set_option maxRecDepth 100000 in
theorem implFormatInt_below (i : Nat) (hi : i < 100) (w : World) : Calls Tryz.prog 67 #[.int .i64 i] w fun e w' => e = .returned (.string (sb (dec i))) ∧ Below w.heap.size w w' :=
  (implFormatInt_any i hi w).mono fun _ _ h => ⟨h.1, by rw [h.2]; exact Below.refl _ _⟩
set_option maxRecDepth 100000 in
set_option maxHeartbeats 1000000 in
theorem implFormatTree_any (A B : Option Addr) (n m c d : Nat) (X Y : List Int) (w : World) (hX : RI w A n X) (hY : RI w B m Y) (hn : n ≤ 1048576) (hm : m ≤ 1048576) :
    Calls Tryz.prog 54 #[.agg #[.slice A n c, .slice B m d]] w fun e w' => e = .returned (.string (sb (ftree X Y))) ∧ Below w.heap.size w w' := by
  have hbk := Blk.new w 49 #[.slice A n c, .slice B m d]
  have hU0 : Up w (w.alloc (.cells #[.slice A n c, .slice B m d] 49)) := by go_grown
  have hX0 := hX.up hU0
  have hY0 := hY.up hU0
  have HXl := Lib.hid hX.1
  have hit := implIsTree_any A B n m c d X Y _ hX0 hY0 (by omega) (by omega)
  by_cases ht : isTree X Y = true
  · obtain ⟨h1, h2, h3, _⟩ := isTree_spec ht
    obtain ⟨hsm, hbags, hpars⟩ := tree_nums ht
    have HB := Lib.hid hbags
    have HP := Lib.hid hpars
    have HLen := Lib.hid (fun k => ftK_len (B := X) (P := Y) hsm k)
    have HR := Lib.hid (ftree_yes ht)
    have hn20 : n ≤ 20 := by have := hX.1; omega
    have hn0 : 0 < n := by have := hX.1; omega
    have hmn : m = n := by have := hX.1; have := hY.1; omega
    subst hmn
    rw [ht] at hit
    have Hit := Lib.hid hit
    clear ht hbags hpars hsm h1 h2 h3 hX hY hit
    go_enter Tryz.func54, Tryz.ntmps54
    have hy0 := hbk.two
    go_wp2_with fail
    refine Hit.out.mono ?_
    rintro e w1 ⟨rfl, hb1⟩
    replace hbk := hbk.up hb1
    replace hX0 := hX0.up hb1
    replace hY0 := hY0.up hb1
    have hb := Up.then_ hU0 hb1
    clear Hit hb1 hy0 hU0
    have hy := hbk.two
    obtain ⟨ad, rfl, _, hcX⟩ := hX0.at_ hn0
    obtain ⟨b, hb1, hb2⟩ := HB.out 0 (by rw [HXl.out]; exact hn0)
    rw [hb1] at hcX
    replace hcX : w1.cell? ad = some (.int .i64 (b : Nat)) := by rw [add_0s] at hcX; exact hcX
    have HN := Lib.hid (ftK_one X Y b hb1)
    go_wp2_with fail
    refine (implFormatSet_any b hb2 w1).mono ?_
    rintro e w2 ⟨rfl, hbf⟩
    replace hbk := hbk.up hbf
    replace hX0 := hX0.up hbf
    replace hY0 := hY0.up hbf
    replace hb := Up.then_ hb hbf
    rw [← HN.out]
    clear hbf hy hcX hb1 hb2 HN
    go_wp2
    go_loopw [3, 4] (fun s i wr => ∃ k, 1 ≤ k ∧ k ≤ m ∧ i = .int .i64 (k : Nat) ∧ s = .string (sb (ftK X Y k)) ∧ Blk wr w.heap.size 49 #[.slice (some ad) m c, .slice B m d] ∧ RI wr (some ad) m X ∧ RI wr B m Y ∧ Below w.heap.size w wr) (fun _ i _ => m - (intOf i).toNat)
    case atStart => exact ⟨1, Nat.le_refl _, hn0, rfl, rfl, hbk, hX0, hY0, hb⟩
    case round =>
      clear hbk hX0 hY0 hb
      obtain ⟨k, hk1, hk, rfl, rfl, hbk, hX0, hY0, hb⟩ := hrel
      obtain ⟨wo, rfl⟩ : ∃ wo : World, wo = wr := ⟨_, rfl⟩
      have hy := hbk.two
      by_cases hkm : k < m
      · obtain ⟨b, hb1, hb2⟩ := HB.out k (by rw [HXl.out]; exact hkm)
        obtain ⟨p, hp1, hp2⟩ := HP.out k (by omega) (by rw [HXl.out]; exact hkm)
        obtain ⟨_, e, hadL, hcX⟩ := hX0.at_ hkm
        injection e with e
        subst e
        obtain ⟨ae, rfl, haeL, hcY⟩ := hY0.at_ hkm
        rw [hb1] at hcX
        rw [hp1] at hcY
        have hl := HLen.out k
        have hlp := dec_len hp2
        have hlb := fset_len b
        have HN := Lib.hid (ftK_more (X := X) (Y := Y) (show k ≠ 0 by omega) hb1 hp1)
        obtain ⟨t, ht⟩ : ∃ t, t = ftK X Y k := ⟨_, rfl⟩
        rw [← ht] at HN hl
        rw [← ht]
        have a1 : ∀ w, (Op.stringOp .add ⟨#[32]⟩ (sb (dec p))).run Tryz.prog w = .ok (.string (sb ([32] ++ dec p))) w := addS [32] (dec p) (by simp; omega)
        have a2 : ∀ w, (Op.stringOp .add (sb ([32] ++ dec p)) ⟨#[62]⟩).run Tryz.prog w = .ok (.string (sb ([32] ++ dec p ++ [62]))) w := addS _ [62] (by simp; omega)
        have a3 : ∀ w, (Op.stringOp .add (sb ([32] ++ dec p ++ [62])) (sb (fset b))).run Tryz.prog w = .ok (.string (sb ([32] ++ dec p ++ [62] ++ fset b))) w := addS _ _ (by simp; omega)
        have a4 : ∀ w, (Op.stringOp .add (sb t) (sb ([32] ++ dec p ++ [62] ++ fset b))).run Tryz.prog w = .ok (.string (sb (t ++ ([32] ++ dec p ++ [62] ++ fset b)))) w := addS _ _ (by simp; omega)
        have hE : t ++ ([32] ++ dec p ++ [62] ++ fset b) = ftK X Y (k + 1) := by rw [HN.out]; simp only [List.append_assoc]
        rw [hE] at a4
        have hfi := fun w => implFormatInt_below p hp2 w
        have hfs := fun w => implFormatSet_any b hb2 w
        obtain ⟨x0, hx0⟩ : ∃ x, x = sb t := ⟨_, rfl⟩
        obtain ⟨x1, hx1⟩ : ∃ x, x = sb ([32] ++ dec p) := ⟨_, rfl⟩
        obtain ⟨x2, hx2⟩ : ∃ x, x = sb ([32] ++ dec p ++ [62]) := ⟨_, rfl⟩
        obtain ⟨x3, hx3⟩ : ∃ x, x = sb ([32] ++ dec p ++ [62] ++ fset b) := ⟨_, rfl⟩
        obtain ⟨x4, hx4⟩ : ∃ x, x = sb (ftK X Y (k + 1)) := ⟨_, rfl⟩
        obtain ⟨y, hyy⟩ : ∃ y, y = sb (dec p) := ⟨_, rfl⟩
        obtain ⟨z, hz⟩ : ∃ z, z = sb (fset b) := ⟨_, rfl⟩
        rw [← hx1, ← hyy] at a1
        rw [← hx1, ← hx2] at a2
        rw [← hx2, ← hx3, ← hz] at a3
        rw [← hx0, ← hx3, ← hx4] at a4
        simp only [← hyy] at hfi
        simp only [← hz] at hfs
        rw [← hx0]
        have H4 := Lib.hid hx4
        have Hfi := Lib.hid hfi
        have Hfs := Lib.hid hfs
        clear hx0 hx1 hx2 hx3 hx4 hyy hz hfi hfs hl hlp hlb ht hE HN hb1 hp1
        have hbkL := hbk.lt
        go_wp2
        have hV0 : Up wo wo.drew := (Up.refl _).drew
        go_region_held3 (fun w' => Up wo w' ∧ (∀ b o, b < wo.heap.size → w'.cell? ⟨b, o, none⟩ = wo.cell? ⟨b, o, none⟩) ∧ w'.cell? (ad.add k) = some (.int .i64 (b : Nat)) ∧ w'.cell? (ae.add k) = some (.int .i64 (p : Nat))) (first | exact (by exact ⟨hV2, fun _ _ hb => hV2.cell hb, (hV2.cell (by first | assumption | (rw [block_of_add]; assumption))).trans (by assumption), (hV2.cell (by first | assumption | (rw [block_of_add]; assumption))).trans (by assumption)⟩) | exact (by exact ⟨hV1, fun _ _ hb => hV1.cell hb, (hV1.cell (by first | assumption | (rw [block_of_add]; assumption))).trans (by assumption), (hV1.cell (by first | assumption | (rw [block_of_add]; assumption))).trans (by assumption)⟩) | exact (by exact ⟨hV0, fun _ _ hb => hV0.cell hb, (hV0.cell (by first | assumption | (rw [block_of_add]; assumption))).trans (by assumption), (hV0.cell (by first | assumption | (rw [block_of_add]; assumption))).trans (by assumption)⟩)) (first | (go_at_call 67; refine (Hfi.out _).mono ?_; rintro e w10 ⟨rfl, hb10⟩; have hV1 := Up.then_ hV0 hb10) | (go_at_call 107; refine (Hfs.out _).mono ?_; rintro e w11 ⟨rfl, hb11⟩; have hV2 := Up.then_ hV1 hb11))
        have hU1 := hV2
        go_wp2
        go_roundw
        case rel => exact ⟨k + 1, by omega, by omega, by go_num, by rw [H4.out], hbk.up hU1, hX0.up hU1, hY0.up hU1, Up.then_ hb hU1⟩
        case measure => simp [intOf]; omega
      · obtain rfl : k = m := by omega
        have HR2 := Lib.hid (show ftree X Y = ftK X Y k by rw [HR.out, HXl.out])
        go_wp2
        go_ret
        exact ⟨congrArg (fun b => Ending.returned (Value.string (sb b))) HR2.out.symm, hb⟩
  · have ht' : isTree X Y = false := by simpa using ht
    have HE := Lib.hid (ftree_no ht')
    rw [ht'] at hit
    have Hit := Lib.hid hit
    clear hit ht ht'
    go_enter Tryz.func54, Tryz.ntmps54
    have hy0 := hbk.two
    go_wp2_with fail
    refine Hit.out.mono ?_
    rintro e w1 ⟨rfl, hb1⟩
    go_wp2
    go_ret
    exact ⟨congrArg (fun b => Ending.returned (Value.string (sb b))) HE.out.symm, Up.then_ hU0 hb1⟩
end Go.Proofs.YthncdjcmlpiebaaGreatDoor
namespace Go.Proofs.YthncdjcmlpiebaaGreatDoor
open Go.RowKit
set_option maxRecDepth 100000 in
theorem gbm_set {w w' : World} {row : Option Nat} {p : Addr} (h : w.grownBy w' row) (hp : w.heap.size ≤ p.block) (u : Value) : w.grownBy (w'.setCell p u) row :=
  ⟨h.os, h.tape, h.output, by simpa using h.size, fun i hi hne => (Below.heap_setCell w' p u i (by omega)).trans (h.block i hi hne)⟩
set_option maxRecDepth 100000 in
theorem Cur.setM {w : World} {g n c : Nat} {B : Option Addr} {bs : List Int} (h : Cur w g B n c bs) {p : Addr} (hp : g < p.block) (u : Value) : Cur (w.setCell p u) g B n c bs :=
  h.grown (grown_setCell w p u) (fun k e => by injection e with e; omega)
section
variable {w wr w' : World} {g n c gr gb na ca nc cc : Nat} {B A C : Option Addr} {bs L R : List Int}
end
/-- Numbers that can be read, not below base. -/
def RF (w : World) (base : Nat) (A : Option Addr) (n : Nat) (xs : List Int) : Prop := RI w A n xs ∧ ∀ ad, A = some ad → 0 < n → base ≤ ad.block
set_option maxRecDepth 100000 in
theorem RF.up {w w' : World} {base n : Nat} {A : Option Addr} {xs : List Int} (h : RF w base A n xs) (hb : Up w w') : RF w' base A n xs := ⟨h.1.up hb, h.2⟩
set_option maxRecDepth 100000 in
theorem RF.more {w : World} {base base' n : Nat} {A : Option Addr} {xs : List Int} (h : RF w base A n xs) (hb : base' ≤ base) : RF w base' A n xs := ⟨h.1, fun ad e h0 => Nat.le_trans hb (h.2 ad e h0)⟩
set_option maxRecDepth 100000 in
theorem RF.gb {w w' : World} {base n g : Nat} {A : Option Addr} {xs : List Int} (h : RF w base A n xs) (hg : w.grownBy w' (some g)) (hlt : g < base) : RF w' base A n xs := by
  refine ⟨?_, h.2⟩
  rcases Nat.eq_zero_or_pos n with h0 | h0
  · exact ⟨h.1.1, fun h1 => absurd h1 (by omega)⟩
  · exact h.1.grown hg fun ad e e2 => by
      have := h.2 ad e h0
      injection e2 with e2
      omega
set_option maxRecDepth 100000 in
theorem RF.set {w : World} {base n : Nat} {A : Option Addr} {xs : List Int} (h : RF w base A n xs) {p : Addr} (hp : p.block < base) (u : Value) : RF (w.setCell p u) base A n xs := h.gb (grown_setCell w p u) hp
set_option maxRecDepth 100000 in
theorem OwnI.rf {w : World} {base n c : Nat} {A : Option Addr} {xs : List Int} (h : OwnI w base A n c xs) : RF w base A n xs := ⟨h.ri, fun ad e h0 => by
  obtain ⟨g, e2⟩ := h.form h0
  rw [e2] at e
  injection e with e
  subst e
  exact (h.block g (by rw [e2]; rfl)).1⟩
end Go.Proofs.YthncdjcmlpiebaaGreatDoor
