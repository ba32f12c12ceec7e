/- Walks: numbers and sets as text. -/
import Derived.Test.YthncdjcmlpiebaaGreatDoorW3A
import Derived.Test.YthncdjcmlpiebaaGreatDoorPureT
import Derived.Test.YthncdjcmlpiebaaGreatDoorShd
namespace Go.Proofs.YthncdjcmlpiebaaGreatDoor
open Go.RowKit
set_option maxRecDepth 100000 in
theorem addS (a b : List UInt8) (h : a.length + b.length ≤ 1000000) (w : World) : (Op.stringOp .add (sb a) (sb b)).run Tryz.prog w = .ok (.string (sb (a ++ b))) w := by
  rw [run_string_add_sum w _ _ (by rw [sb_size, sb_size]; omega), sb_add]
set_option maxRecDepth 100000 in
theorem sb_toList (l : List UInt8) : (sb l).toList = l := by
  simp [sb]
set_option maxRecDepth 100000 in
theorem byteS (g : Nat) (x : Int) (z : Nat) (hx : x = (z : Int)) (w : World) (hc : w.cell? ⟨g, 0, none⟩ = some (.int .u8 x)) : (convert 22 9 (.slice (some ⟨g, 0, none⟩) 1 1)).run Tryz.prog w = .ok (.string (sb [UInt8.ofNat z])) w := by
  subst hx
  rw [run_convert_bytes_string w _ _ _ _ _ _ Tryz.underlying22 Tryz.underlying5 Tryz.underlying9, run_bytesToString w ⟨g, 0, none⟩ 1 1 [(z : Int)] (run_loadCells_list w ⟨g, 0, none⟩ [.int .u8 (z : Int)] fun j v hv => by
    rcases j with _ | j
    · obtain rfl : Value.int .u8 (z : Int) = v := by simpa using hv
      exact hc
    · simp at hv)]
  rfl
set_option maxRecDepth 100000 in
theorem specFormatInt_any (i : Nat) (hi : i < 100) (w : World) : Calls Tryz.prog 69 #[.int .i64 i] w fun e w' => e = .returned (.string (sb (dec i))) ∧ Below w.heap.size w w' := by
  by_cases h0 : i = 0
  · subst h0
    have HE : sb (dec 0) = ⟨#[48]⟩ := by rw [dec_one (by omega)]; rfl
    rw [HE]
    go_enter Tryz.func69, Tryz.ntmps69
    go_wp2
    go_ret
    exact ⟨rfl, Below.refl _ _⟩
  · go_enter Tryz.func69, Tryz.ntmps69
    go_wp2
    go_loopw [0, 3] (fun n s wr => Below w.heap.size w wr ∧ w.heap.size ≤ wr.heap.size ∧ ((n = .int .i64 i ∧ s = .string ⟨#[]⟩) ∨ (10 ≤ i ∧ n = .int .i64 ((i / 10 : Nat) : Int) ∧ s = .string (sb [UInt8.ofNat (48 + i % 10)])) ∨ (n = .int .i64 0 ∧ s = .string (sb (dec i))))) (fun n _ _ => (intOf n).toNat)
    case atStart => exact ⟨Below.refl _ _, Nat.le_refl _, .inl ⟨rfl, rfl⟩⟩
    case round =>
      obtain ⟨hb, hsz, ⟨rfl, rfl⟩ | ⟨h10, rfl, rfl⟩ | ⟨rfl, rfl⟩⟩ := hrel
      · have hcv := byteS wr.heap.size (48 + (i : Int) % 10) (48 + i % 10) (by omega) (wr.alloc (.cells #[.int .u8 (48 + (i : Int) % 10)] 5)) (by simp)
        have hadd : ∀ w, (Op.stringOp .add (sb [UInt8.ofNat (48 + i % 10)]) ⟨#[]⟩).run Tryz.prog w = .ok (.string (sb [UInt8.ofNat (48 + i % 10)])) w := addS [UInt8.ofNat (48 + i % 10)] [] (by simp)
        obtain ⟨x, hx⟩ : ∃ x, x = sb [UInt8.ofNat (48 + i % 10)] := ⟨_, rfl⟩
        have HX := Lib.hid hx
        rw [← hx] at hcv hadd
        clear hx
        go_wp2
        go_roundw
        case rel =>
          refine ⟨hb.alloc hsz _, by simp; omega, ?_⟩
          rcases Nat.lt_or_ge i 10 with h | h
          · refine .inr (.inr ⟨by congr 1; omega, ?_⟩)
            rw [HX.out, dec_one h, Nat.mod_eq_of_lt h]
          · exact .inr (.inl ⟨h, by congr 1, by rw [HX.out]⟩)
        case measure => simp [intOf]; omega
      · obtain ⟨q, hq⟩ : ∃ q, q = i / 10 := ⟨_, rfl⟩
        have hq9 : q < 10 := by omega
        have hq0 : q ≠ 0 := by omega
        have hcv := byteS wr.heap.size (48 + (q : Int) % 10) (48 + q) (by omega) (wr.alloc (.cells #[.int .u8 (48 + (q : Int) % 10)] 5)) (by simp)
        have hadd : ∀ w, (Op.stringOp .add (sb [UInt8.ofNat (48 + q)]) (sb [UInt8.ofNat (48 + i % 10)])).run Tryz.prog w = .ok (.string (sb (dec i))) w := by
          rw [dec_two h10 hi, ← hq]
          exact addS [UInt8.ofNat (48 + q)] [UInt8.ofNat (48 + i % 10)] (by simp)
        obtain ⟨x, hx⟩ : ∃ x, x = sb [UInt8.ofNat (48 + q)] := ⟨_, rfl⟩
        obtain ⟨y, hy⟩ : ∃ y, y = sb [UInt8.ofNat (48 + i % 10)] := ⟨_, rfl⟩
        obtain ⟨z, hz⟩ : ∃ z, z = sb (dec i) := ⟨_, rfl⟩
        have HZ := Lib.hid hz
        rw [← hx] at hcv
        rw [← hx, ← hy, ← hz] at hadd
        rw [← hq, ← hy]
        clear hx hy hz hq
        go_wp2
        go_roundw
        case rel => exact ⟨hb.alloc hsz _, by simp; omega, .inr (.inr ⟨by congr 1; omega, by rw [HZ.out]⟩)⟩
        case measure => simp [intOf]; omega
      · go_wp2
        go_ret
        exact ⟨rfl, hb⟩
set_option maxRecDepth 100000 in
theorem implFormatInt_any (i : Nat) (hi : i < 100) (w : World) : Calls Tryz.prog 67 #[.int .i64 i] w fun e w' => e = .returned (.string (sb (dec i))) ∧ w' = w := by
  go_enter Tryz.func67, Tryz.ntmps67
  go_wp2_with fail
  refine (Tryz.strconv_Itoa_small i hi _).mono ?_
  rintro e w' ⟨rfl, rfl⟩
  go_wp2
  go_ret
  exact ⟨rfl, rfl⟩
set_option maxRecDepth 100000 in
theorem decs_take {l : List Nat} {k : Nat} (h : k < l.length) : decs (l.take (k + 1)) = decs (l.take k) ++ dec (nb l k) := by
  rw [List.take_succ_eq_append_getElem h, decs_snoc]
  simp [nb, List.getD, List.getElem?_eq_getElem h]
set_option maxRecDepth 100000 in
theorem decs_small {l : List Nat} (hl : l.length ≤ 1000) (h : ∀ v ∈ l, v < 100) (k : Nat) : (decs (l.take k)).length ≤ 2000 := by
  have h1 := (decs_len (l := l.take k) fun v hv => h v (List.mem_of_mem_take hv)).2
  have h2 : (l.take k).length ≤ l.length := by rw [List.length_take]; omega
  omega
set_option maxRecDepth 100000 in
theorem nb_memS {l : List Nat} {j : Nat} (h : j < l.length) : nb l j ∈ l := by rw [nb]; simp [List.getD, List.getElem?_eq_getElem h]
set_option maxRecDepth 100000 in
theorem RI.ints_at'' {w : World} {A : Option Addr} {m k : Nat} {o : List Nat} (h : RI w A m (ints o)) (hk : k < m) : ∃ ad, A = some ad ∧ w.cell? (ad.add k) = some (.int .i64 (nb o k)) := by
  obtain ⟨ad, e, _, hc⟩ := h.at_ hk
  exact ⟨ad, e, by rw [hc, ints_nb]⟩
set_option maxRecDepth 100000 in
theorem digits_any (A : Option Addr) (n c : Nat) (l : List Nat) (w : World) (hX : RI w A n (ints l)) (hn : n ≤ 1000) (hl : ∀ v ∈ l, v < 100) : Calls Tryz.prog 139 #[.slice A n c] w fun e w' => e = .returned (.string (sb (decs l))) ∧ w' = w := by
  obtain rfl : l.length = n := by rw [← hX.1, ints_len]
  obtain ⟨m, hm⟩ : ∃ m, m = l.length := ⟨_, rfl⟩
  rw [← hm] at hX hn
  rw [← hm]
  have HS := Lib.hid (fun k => decs_small (l := l) (by omega) hl k)
  have HM := Lib.hid hm
  clear hm
  go_enter Tryz.func139, Tryz.ntmps139
  go_wp2
  go_loop [3, 8] (fun s i => ∃ k, k ≤ m ∧ i = .int .i64 (k : Nat) ∧ s = .string (sb (decs (l.take k)))) (fun _ i => m - (intOf i).toNat)
  case atStart => exact ⟨0, Nat.zero_le _, rfl, rfl⟩
  case round =>
    obtain ⟨k, hk, rfl, rfl⟩ := hrel
    by_cases hkm : k < m
    · have hkl : k < l.length := by rw [← HM.out]; exact hkm
      obtain ⟨ad, rfl, hc⟩ := hX.ints_at'' hkm
      have hv := hl _ (nb_memS hkl)
      have hadd : ∀ w, (Op.stringOp .add (sb (decs (l.take k))) (sb (dec (nb l k)))).run Tryz.prog w = .ok (.string (sb (decs (l.take (k + 1))))) w := by
        rw [decs_take hkl]
        exact addS _ _ (by have := HS.out k; have := (dec_len hv).2; omega)
      obtain ⟨v, hvv⟩ : ∃ v, v = nb l k := ⟨_, rfl⟩
      rw [← hvv] at hc hv hadd
      have hf := implFormatInt_any v hv
      obtain ⟨y, hy⟩ : ∃ y, y = sb (dec v) := ⟨_, rfl⟩
      obtain ⟨x, hx⟩ : ∃ x, x = sb (decs (l.take k)) := ⟨_, rfl⟩
      obtain ⟨z, hz⟩ : ∃ z, z = sb (decs (l.take (k + 1))) := ⟨_, rfl⟩
      have HZ := Lib.hid hz
      rw [← hx, ← hy, ← hz] at hadd
      rw [← hx]
      have Hf := Lib.hid hf
      have HY := Lib.hid hy
      clear hf hx hy hz hvv
      go_wp2_with fail
      have hf := Hf.out w
      rw [← HY.out] at hf
      refine hf.mono ?_
      rintro e w' ⟨rfl, rfl⟩
      clear hf
      go_wp2
      go_round
      case rel => exact ⟨k + 1, by omega, by go_num, by rw [HZ.out]⟩
      case measure => simp [intOf]; omega
    · obtain rfl : k = m := by omega
      rw [List.take_of_length_le (by rw [HM.out]; exact Nat.le_refl _)]
      go_wp2
      go_ret
      exact ⟨rfl, rfl⟩
set_option maxRecDepth 100000 in
theorem implFormatSet_any (s : Nat) (hs : s < 128) (w : World) : Calls Tryz.prog 107 #[.int .i64 s] w fun e w' => e = .returned (.string (sb (fset s))) ∧ Below w.heap.size w w' := by
  by_cases h0 : s = 0
  · subst h0
    have HE : sb (fset 0) = ⟨#[45]⟩ := by rw [fset, if_pos rfl]; rfl
    rw [HE]
    go_enter Tryz.func107, Tryz.ntmps107
    go_wp2
    go_ret
    exact ⟨rfl, Below.refl _ _⟩
  · have HE : fset s = decs (listOf s) := if_neg h0
    rw [HE]
    clear HE
    go_enter Tryz.func107, Tryz.ntmps107
    go_wp2_with fail
    refine (implListOf_any s w hs).mono ?_
    rintro e w1 ⟨A, c, rfl, hO, hb⟩
    rw [ints_len] at hO
    rw [ints_len]
    have hd := digits_any A (listOf s).length c (listOf s) w1 hO.ri (by have := listOf_len s; omega) (fun v hv => by have := mem_listOf.1 hv; omega)
    obtain ⟨x, hx⟩ : ∃ x, x = sb (decs (listOf s)) := ⟨_, rfl⟩
    rw [← hx] at hd
    have HX := Lib.hid hx
    clear hx
    go_wp2_with fail
    refine hd.mono ?_
    rintro e w' ⟨rfl, rfl⟩
    clear hd
    go_wp2
    go_ret
    exact ⟨by rw [← HX.out]; rfl, hb⟩
set_option maxRecDepth 100000 in
theorem specFormatSet_any (s : Nat) (hs : s < 128) (w : World) : Calls Tryz.prog 108 #[.int .i64 s] w fun e w' => e = .returned (.string (sb (fset s))) ∧ Below w.heap.size w w' := by
  have hl : ∀ v ∈ listOf s, v < 100 := fun v hv => by have := mem_listOf.1 hv; omega
  have hLl := listOf_len s
  have HS := Lib.hid (fun k => decs_small (l := listOf s) (by omega) hl k)
  have HZ0 := Lib.hid (fun (h : listOf s = []) => listOf_none hs h)
  have H00 := Lib.hid (fun (h : s = 0) => show listOf s = [] by rw [h]; exact listOf_zero)
  go_enter Tryz.func108, Tryz.ntmps108
  go_wp2_with fail
  refine (specListOf_any s w hs).mono ?_
  rintro e w1 ⟨A, c, rfl, hO, hb⟩
  rw [ints_len] at hO
  rw [ints_len]
  have hX := hO.ri
  clear hO
  obtain ⟨l, hll⟩ : ∃ l, l = listOf s := ⟨_, rfl⟩
  rw [← hll] at hX hl hLl HS HZ0 H00
  rw [← hll]
  obtain ⟨m, hm⟩ : ∃ m, m = l.length := ⟨_, rfl⟩
  rw [← hm] at hX hLl
  rw [← hm]
  have HM := Lib.hid hm
  have HL := Lib.hid hll
  clear hm hll
  go_wp2
  go_loopw [4, 5] (fun t i wr => ∃ k, k ≤ m ∧ i = .int .i64 (k : Nat) ∧ t = .string (sb (decs (l.take k))) ∧ Up w1 wr ∧ RI wr A m (ints l)) (fun _ i _ => m - (intOf i).toNat)
  case atStart => exact ⟨0, Nat.zero_le _, rfl, rfl, Up.refl _, hX⟩
  case round =>
    clear hX
    obtain ⟨k, hk, rfl, rfl, hU, hX⟩ := hrel
    by_cases hkm : k < m
    · have hkl : k < l.length := by rw [← HM.out]; exact hkm
      obtain ⟨ad, rfl, hc⟩ := hX.ints_at'' hkm
      have hv := hl _ (nb_memS hkl)
      have hadd : ∀ w, (Op.stringOp .add (sb (decs (l.take k))) (sb (dec (nb l k)))).run Tryz.prog w = .ok (.string (sb (decs (l.take (k + 1))))) w := by
        rw [decs_take hkl]
        exact addS _ _ (by have := HS.out k; have := (dec_len hv).2; omega)
      obtain ⟨v, hvv⟩ : ∃ v, v = nb l k := ⟨_, rfl⟩
      rw [← hvv] at hc hv hadd
      have hf := specFormatInt_any v hv wr
      obtain ⟨y, hy⟩ : ∃ y, y = sb (dec v) := ⟨_, rfl⟩
      obtain ⟨x, hx⟩ : ∃ x, x = sb (decs (l.take k)) := ⟨_, rfl⟩
      obtain ⟨z, hz⟩ : ∃ z, z = sb (decs (l.take (k + 1))) := ⟨_, rfl⟩
      have HZ := Lib.hid hz
      rw [← hx, ← hy, ← hz] at hadd
      rw [← hx]
      rw [← hy] at hf
      have Hf := Lib.hid hf
      clear hf hx hy hz hvv
      go_wp2_with fail
      refine Hf.out.mono ?_
      rintro e w' ⟨rfl, hbf⟩
      clear Hf
      go_wp2
      go_roundw
      case rel => exact ⟨k + 1, by omega, by go_num, by rw [HZ.out], Up.then_ hU hbf, hX.up hbf⟩
      case measure => simp [intOf]; omega
    · obtain rfl : k = m := by omega
      rw [List.take_of_length_le (by rw [HM.out]; exact Nat.le_refl _)]
      have hbr := Up.then_ hb hU
      by_cases h0 : s = 0
      · have e0 : sb (decs l) = ⟨#[]⟩ := by rw [H00.out h0]; rfl
        have e1 := Lib.hid (show sb (fset s) = ⟨#[45]⟩ by rw [h0, fset, if_pos rfl]; rfl)
        rw [e0]
        go_wp2_with (go_at_call 106; refine (l3Fine_yes _ _ (by omega)).mono ?_; rintro e w' ⟨rfl, rfl⟩)
        go_ret
        exact ⟨congrArg (fun b => Ending.returned (Value.string b)) e1.out.symm, hbr⟩
      · have hne : (sb (decs l)).toList ≠ [] := by
          rw [sb_toList]
          intro e
          have h1 := (decs_len hl).1
          rw [e] at h1
          exact h0 (HZ0.out (List.length_eq_zero_iff.1 (by simpa using h1)))
        have heq : (sb (decs l)).toList.isEmpty = false := by rw [← Bool.not_eq_true, List.isEmpty_iff]; exact hne
        have e1 := Lib.hid (show fset s = decs l by rw [fset, if_neg h0, HL.out])
        obtain ⟨x, hx⟩ : ∃ x, x = sb (decs l) := ⟨_, rfl⟩
        rw [← hx] at heq hne
        rw [← hx]
        have HX := Lib.hid hx
        clear hx
        go_wp2
        go_ret
        exact ⟨congrArg (fun b => Ending.returned (Value.string b)) (HX.out.trans (congrArg sb e1.out.symm)), hbr⟩
end Go.Proofs.YthncdjcmlpiebaaGreatDoor
