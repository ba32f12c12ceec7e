/- append onto a row of the call's own, the new row's block said; two such appends in one region that draws. -/
import Derived.Test.YthncdjcmlpiebaaGreatDoorBasA
import Derived.Deep.RegionLaw
namespace Go.Proofs.YthncdjcmlpiebaaGreatDoor
open Go.RowKit
/-- The new row's block is the old one's, or a new one. -/
def FreshFrom (w : World) (v v' : Value) : Prop := ∀ j, v'.ownBlock = some j → v.ownBlock = some j ∨ w.heap.size ≤ j
section
variable {P : Program}
set_option maxRecDepth 100000 in
theorem run_push (w : World) (base : Nat) (t ty e : TypeId) (i : TypeInfo) (z : Value) (bytes : Nat) (ht : P.underlying t = some (.slice e)) (hi : P.info? e = some i) (hz : i.zero = some z)
    (hsize : i.size = 1) (hby : i.bytes = bytes) (hzs : z.cells.size = 1) {A : Option Addr} {n c : Nat} {xs : List Value} (hown : w.ownsRow base e 1 (.slice A n c) n xs)
    (ad : Addr) (y : Value) (hc : w.cell? ad = some y) (h1 : y.oneCell' = true) (h63 : n + 1 ≤ maxLen) (hbytes : (n + 1) * bytes ≤ 140737488355328) (hbase : base ≤ w.heap.size) :
    ∃ A' c' w', (Builtin.append_ #[t, t] ty #[.slice A n c, .slice (some ad) 1 1]).run P w = .ok (.slice A' (n + 1) c') w' ∧ w'.ownsRow base e 1 (.slice A' (n + 1) c') (n + 1) (xs ++ [y]) ∧ w.grownBy w' (Value.slice A n c).ownBlock ∧
      FreshFrom w (.slice A n c) (.slice A' (n + 1) c') := by
  have hnews : ∀ j u, [y][j]? = some u → w.cell? (ad.add j) = some u := fun j u hj => by
    match j, hj with
    | 0, hj => simp at hj; subst hj; simpa [Addr.add] using hc
  have hone : ∀ u ∈ [y], u.oneCell' = true := fun u hu => by simp at hu; subst hu; exact h1
  obtain ⟨v', w', hr, h2, h3, _⟩ := run_append_own (P := P) w base t ty e i z 1 bytes ht hi hz hsize hby hzs (by omega) (.slice A n c) n xs hown ad 1 1 [y] rfl hnews hone h63 hbytes hbase
  have hex : ∃ A' c', v' = .slice A' (n + 1) c' := by
    rcases h2.2 with ⟨_, h0⟩ | ⟨g, cap, cur, hv, _⟩
    · omega
    · exact ⟨_, _, hv⟩
  obtain ⟨A', c', rfl⟩ := hex
  refine ⟨A', c', w', hr, h2, h3, ?_⟩
  have hxl : xs.length = n := by have := hown.1; omega
  rcases hown.2 with ⟨hv, hn⟩ | ⟨g, cap, cur, hv, hb, hg, hnc, hcm, hsz, htake⟩
  · injection hv with e1 e2 e3
    subst e1 e2 e3
    have hx0 : xs = [] := List.eq_nil_of_length_eq_zero hxl
    subst hx0
    obtain ⟨v2, w2, hr2, k2, _, _⟩ := run_append_own (P := P) w w.heap.size t ty e i z 1 bytes ht hi hz hsize hby hzs (by omega) (.slice none 0 0) 0 [] (World.ownsRow_nil w _ e 1) ad 1 1 [y] rfl hnews hone h63 hbytes (Nat.le_refl _)
    rw [hr] at hr2
    injection hr2 with e1 e2
    subst e1
    exact fun j hj => .inr (World.ownsRow.lt k2 j hj).1
  · injection hv with e1 e2 e3
    subst e1 e3
    by_cases hroom : n + 1 ≤ c
    · have hcell : ∀ j, j < [y].length → (w.cell? ⟨g, 0 + n * i.size + j, none⟩).isSome = true := fun j hj => by
        have : j = 0 := by simpa using hj
        subst this
        rw [hsize, cell_of_row w g _ cur e (0, 0) hg, Array.getElem?_eq_getElem (by rw [hsz]; omega)]; rfl
      have hfrz : ∀ j, j < [y].length → w.frozen? ⟨g, 0 + n * i.size + j, none⟩ = false := fun j _ => by simp [World.frozen?, hg]
      have hr2 := run_append_room_cells (P := P) w t ty e i ht hi g 0 n c ad 1 1 [y] (by rw [hsize]; rfl) hnews hone hroom hcell hfrz
      rw [hr] at hr2
      injection hr2 with e1 e2
      injection e1 with e3 _ _
      subst e3
      exact fun j hj => .inl hj
    · have holds : ∀ j u, xs[j]? = some u → w.cell? ((⟨g, 0, none⟩ : Addr).add j) = some u := World.ownsRow.cells hown rfl
      obtain ⟨v2, w2, hr2, k2, _⟩ := run_append_arg_grows (P := P) w t ty e i z 1 bytes ht hi hz hsize hby hzs (by omega) ⟨g, 0, none⟩ n c xs (by omega) holds ad 1 1 [y] rfl hnews (by omega) h63 hbytes
      rw [hr] at hr2
      injection hr2 with e1 e2
      subst e1
      exact fun j hj => .inr (World.ownsRow.lt k2 j hj).1
set_option maxRecDepth 100000 in
theorem wp_push2 {o : Oper} {a : Act} {w : World} {K : Act → World → Prop} {Q : Exit → Act → World → Prop} (s x : Operand) (t e : TypeId) (ho : o.op = .call { callee := .builtin .append, args := #[s, x], argTypes := #[t, t] })
    (i : TypeInfo) (z : Value) (bytes : Nat) (ht : P.underlying t = some (.slice e)) (hi : P.info? e = some i) (hz : i.zero = some z) (hsize : i.size = 1) (hby : i.bytes = bytes) (hzs : z.cells.size = 1)
    {base : Nat} {A : Option Addr} {n c : Nat} {xs : List Value} (hs : a.eval s = .slice A n c) (hown : w.ownsRow base e 1 (.slice A n c) n xs)
    (ad : Addr) (y : Value) (hx : a.eval x = .slice (some ad) 1 1) (hc : w.cell? ad = some y) (h1 : y.oneCell' = true) (h63 : n + 1 ≤ maxLen) (hbytes : (n + 1) * bytes ≤ 140737488355328) (hbase : base ≤ w.heap.size)
    (h : ∀ A' c' w', w'.ownsRow base e 1 (.slice A' (n + 1) c') (n + 1) (xs ++ [y]) → w.grownBy w' (Value.slice A n c).ownBlock → FreshFrom w (.slice A n c) (.slice A' (n + 1) c') → K (a.put o.dst (.slice A' (n + 1) c')) w') : o.wp P a w K Q := by
  obtain ⟨A', c', w', hr, h2, h3, h4⟩ := run_push (P := P) w base t o.type e i z bytes ht hi hz hsize hby hzs hown ad y hc h1 h63 hbytes hbase
  unfold Oper.wp execOp
  simp only [ho, resolve, invoke, builtin, Sem.run_bind, Sem.run_pure, Result.andThen_ok, List.map_toArray, List.map_cons, List.map_nil, hs, hx, hr]
  exact h A' c' w' h2 h3 h4
end
/-- Two rows of the call's own, of different blocks, and what else is as it was in W. -/
structure Two (W : World) (ra rb : Option Nat) (base : Nat) (e1 e2 : TypeId) (A : Option Addr) (n c : Nat) (xs : List Value) (B : Option Addr) (m d : Nat) (ys : List Value) (w : World) : Prop where
  a : w.ownsRow base e1 1 (.slice A n c) n xs
  b : w.ownsRow base e2 1 (.slice B m d) m ys
  ne : ∀ j, (Value.slice A n c).ownBlock = some j → (Value.slice B m d).ownBlock ≠ some j
  os : w.os = W.os
  tape : w.tape = W.tape
  output : w.output = W.output
  size : W.heap.size ≤ w.heap.size
  block : ∀ k, k < W.heap.size → some k ≠ ra → some k ≠ rb → w.heap[k]? = W.heap[k]?
  fa : ∀ j, (Value.slice A n c).ownBlock = some j → ra = some j ∨ W.heap.size ≤ j
  fb : ∀ j, (Value.slice B m d).ownBlock = some j → rb = some j ∨ W.heap.size ≤ j
section
variable {W : World} {ra rb : Option Nat} {base : Nat} {e1 e2 : TypeId} {A B : Option Addr} {n c m d : Nat} {xs ys : List Value} {w w' : World}
set_option maxRecDepth 100000 in
theorem Two.start (ha : W.ownsRow base e1 1 (.slice A n c) n xs) (hb : W.ownsRow base e2 1 (.slice B m d) m ys) (hne : ∀ j, (Value.slice A n c).ownBlock = some j → (Value.slice B m d).ownBlock ≠ some j) :
    Two W (Value.slice A n c).ownBlock (Value.slice B m d).ownBlock base e1 e2 A n c xs B m d ys W :=
  ⟨ha, hb, hne, rfl, rfl, rfl, Nat.le_refl _, fun _ _ _ _ => rfl, fun _ h => .inl h, fun _ h => .inl h⟩
set_option maxRecDepth 100000 in
theorem Two.alloc (h : Two W ra rb base e1 e2 A n c xs B m d ys w) (o : Obj) : Two W ra rb base e1 e2 A n c xs B m d ys (w.alloc o) :=
  ⟨World.ownsRow.alloc h.a o, World.ownsRow.alloc h.b o, h.ne, h.os, h.tape, h.output, by have := h.size; simp; omega, fun k hk h1 h2 => (Below.heap_alloc w o k (by have := h.size; omega)).trans (h.block k hk h1 h2), h.fa, h.fb⟩
set_option maxRecDepth 100000 in
theorem Two.pushA {y : Value} {A' : Option Addr} {c' : Nat} (h : Two W ra rb base e1 e2 A n c xs B m d ys w) (h2 : w'.ownsRow base e1 1 (.slice A' (n + 1) c') (n + 1) (xs ++ [y])) (h3 : w.grownBy w' (Value.slice A n c).ownBlock)
    (h4 : FreshFrom w (.slice A n c) (.slice A' (n + 1) c')) : Two W ra rb base e1 e2 A' (n + 1) c' (xs ++ [y]) B m d ys w' := by
  refine ⟨h2, World.ownsRow.kept h.b h3 ?_, fun j hj hk => ?_, h3.os.trans h.os, h3.tape.trans h.tape, h3.output.trans h.output, Nat.le_trans h.size h3.size, fun k hk h5 h6 => ?_, fun j hj => ?_, h.fb⟩
  · rcases hv : (Value.slice B m d).ownBlock with _ | k
    · exact .inl rfl
    · exact .inr fun e => h.ne k e.symm hv
  · rcases h4 j hj with h5 | h5
    · exact h.ne j h5 hk
    · have := (World.ownsRow.lt h.b j hk).2
      omega
  · refine (h3.block k (by have := h.size; omega) fun e => ?_).trans (h.block k hk h5 h6)
    rcases h.fa k e.symm with h7 | h7
    · exact h5 h7.symm
    · omega
  · rcases h4 j hj with h5 | h5
    · exact h.fa j h5
    · have := h.size; exact .inr (by omega)
set_option maxRecDepth 100000 in
theorem Two.pushB {y : Value} {B' : Option Addr} {d' : Nat} (h : Two W ra rb base e1 e2 A n c xs B m d ys w) (h2 : w'.ownsRow base e2 1 (.slice B' (m + 1) d') (m + 1) (ys ++ [y])) (h3 : w.grownBy w' (Value.slice B m d).ownBlock)
    (h4 : FreshFrom w (.slice B m d) (.slice B' (m + 1) d')) : Two W ra rb base e1 e2 A n c xs B' (m + 1) d' (ys ++ [y]) w' := by
  refine ⟨World.ownsRow.kept h.a h3 ?_, h2, fun j hj hk => ?_, h3.os.trans h.os, h3.tape.trans h.tape, h3.output.trans h.output, Nat.le_trans h.size h3.size, fun k hk h5 h6 => ?_, h.fa, fun j hj => ?_⟩
  · rcases hv : (Value.slice A n c).ownBlock with _ | k
    · exact .inl rfl
    · exact .inr fun e => h.ne k hv e.symm
  · rcases h4 j hk with h5 | h5
    · exact h.ne j hj h5
    · have := (World.ownsRow.lt h.a j hj).2
      omega
  · refine (h3.block k (by have := h.size; omega) fun e => ?_).trans (h.block k hk h5 h6)
    rcases h.fb k e.symm with h7 | h7
    · exact h6 h7.symm
    · omega
  · rcases h4 j hj with h5 | h5
    · exact h.fb j h5
    · have := h.size; exact .inr (by omega)
set_option maxRecDepth 100000 in
theorem Two.below {V : World} (h : Two W ra rb base e1 e2 A n c xs B m d ys w) (hb : Below base V W) (hra : ∀ k, ra = some k → base ≤ k) (hrb : ∀ k, rb = some k → base ≤ k) (hs : base ≤ W.heap.size) : Below base V w :=
  ⟨h.os.trans hb.os, h.tape.trans hb.tape, h.output.trans hb.output, Nat.le_trans hb.size h.size, fun k hk => (h.block k (by omega) (fun e => by have := hra k e.symm; omega) (fun e => by have := hrb k e.symm; omega)).trans (hb.block k hk)⟩
set_option maxRecDepth 100000 in
theorem Two.blk {g : Nat} {t : TypeId} {cs : Array Value} (h : Two W ra rb base e1 e2 A n c xs B m d ys w) (hg : Blk W g t cs) (h1 : some g ≠ ra) (h2 : some g ≠ rb) : Blk w g t cs := (h.block g hg.lt h1 h2).trans hg
end
set_option maxRecDepth 100000 in
/-- The cell of a literal of one element. -/
theorem cell_lit {w : World} {g : Nat} {e : TypeId} {y : Value} (h : w.heap.size = g) : (w.alloc (.cells #[y] e)).cell? ⟨g, 0, none⟩ = some y := (Blk.new_at h).one
set_option maxRecDepth 100000 in
theorem cell_lit1 {w : World} {g : Nat} {e : TypeId} {y : Value} {o : Obj} (h : w.heap.size = g) : ((w.alloc (.cells #[y] e)).alloc o).cell? ⟨g, 0, none⟩ = some y := ((Blk.new_at h).alloc o).one
set_option maxRecDepth 100000 in
theorem cell_lit2 {w w' : World} {g : Nat} {e : TypeId} {y : Value} {row : Option Nat} (hg : (w.alloc (.cells #[y] e)).grownBy w' row) (h : w.heap.size = g) (hne : some g ≠ row) : w'.cell? ⟨g, 0, none⟩ = some y := hg.cell (cell_lit h) hne
set_option maxRecDepth 100000 in
theorem cell_lit3 {w w' : World} {g : Nat} {e : TypeId} {y : Value} {o : Obj} {row : Option Nat} (hg : ((w.alloc (.cells #[y] e)).alloc o).grownBy w' row) (h : w.heap.size = g) (hne : some g ≠ row) : w'.cell? ⟨g, 0, none⟩ = some y := hg.cell (cell_lit1 h) hne
set_option maxRecDepth 100000 in
theorem cell_lit4 {w w' : World} {g : Nat} {e : TypeId} {y : Value} {row : Option Nat} (hg : (w.alloc (.cells #[y] e)).drew.grownBy w' row) (h : w.heap.size = g) (hne : some g ≠ row) : w'.cell? ⟨g, 0, none⟩ = some y :=
  hg.cell (w := (w.alloc (.cells #[y] e)).drew) (Blk.drew (Blk.new_at h)).one hne
set_option maxRecDepth 100000 in
theorem cell_lit5 {w w' : World} {g : Nat} {e : TypeId} {y : Value} {o : Obj} {row : Option Nat} (hg : ((w.alloc (.cells #[y] e)).alloc o).drew.grownBy w' row) (h : w.heap.size = g) (hne : some g ≠ row) : w'.cell? ⟨g, 0, none⟩ = some y :=
  hg.cell (w := ((w.alloc (.cells #[y] e)).alloc o).drew) (Blk.drew ((Blk.new_at h).alloc o)).one hne
set_option maxRecDepth 100000 in
/-- append of a number onto the first | the second of two own rows, as a step of a region that draws. -/
theorem stepA_int {ops : Array Oper} {o : Oper} {a : Act} {w : World} {K : Act → World → Prop} {Q : Exit → Act → World → Prop} {E : Prop} (hgd : o.guard = none) (s x : Operand)
    (ho : o.op = .call { callee := .builtin .append, args := #[s, x], argTypes := #[24, 24] }) {W : World} {ra rb : Option Nat} {base : Nat} {e2 : TypeId} {A B : Option Addr} {n c m d : Nat} {xs ys : List Value} (y : Int)
    (hs : a.eval s = .slice A n c) (h : Two W ra rb base 3 e2 A n c xs B m d ys w) (ad : Addr) (hx : a.eval x = .slice (some ad) 1 1) (hc : w.cell? ad = some (.int .i64 y)) (hn : n ≤ 1048576) (hbase : base ≤ W.heap.size)
    (hK : ∀ A' c' w', Two W ra rb base 3 e2 A' (n + 1) c' (xs ++ [.int .i64 y]) B m d ys w' → w.grownBy w' (Value.slice A n c).ownBlock → K (a.put o.dst (.slice A' (n + 1) c')) w') :
    if Region.wanted o (yielded ops a.tmps) = true then Oper.wp Tryz.prog o a w K Q else E := by
  have hw : Region.wanted o (yielded ops a.tmps) = true := by simp [Region.wanted, hgd]
  rw [if_pos hw]
  obtain ⟨i0, hi, hz0, hz1, hz2⟩ := info_parts Tryz.info3
  exact wp_push2 s x 24 3 ho i0 (.int .i64 0) 8 Tryz.underlying24 hi hz0 hz1 hz2 rfl hs h.a ad _ hx hc rfl (by unfold maxLen; omega) (by omega) (Nat.le_trans hbase h.size) fun A' c' w' h2 h3 h4 => hK A' c' w' (h.pushA h2 h3 h4) h3
set_option maxRecDepth 100000 in
theorem stepB_int {ops : Array Oper} {o : Oper} {a : Act} {w : World} {K : Act → World → Prop} {Q : Exit → Act → World → Prop} {E : Prop} (hgd : o.guard = none) (s x : Operand)
    (ho : o.op = .call { callee := .builtin .append, args := #[s, x], argTypes := #[24, 24] }) {W : World} {ra rb : Option Nat} {base : Nat} {e1 : TypeId} {A B : Option Addr} {n c m d : Nat} {xs ys : List Value} (y : Int)
    (hs : a.eval s = .slice B m d) (h : Two W ra rb base e1 3 A n c xs B m d ys w) (ad : Addr) (hx : a.eval x = .slice (some ad) 1 1) (hc : w.cell? ad = some (.int .i64 y)) (hn : m ≤ 1048576) (hbase : base ≤ W.heap.size)
    (hK : ∀ B' d' w', Two W ra rb base e1 3 A n c xs B' (m + 1) d' (ys ++ [.int .i64 y]) w' → w.grownBy w' (Value.slice B m d).ownBlock → K (a.put o.dst (.slice B' (m + 1) d')) w') :
    if Region.wanted o (yielded ops a.tmps) = true then Oper.wp Tryz.prog o a w K Q else E := by
  have hw : Region.wanted o (yielded ops a.tmps) = true := by simp [Region.wanted, hgd]
  rw [if_pos hw]
  obtain ⟨i0, hi, hz0, hz1, hz2⟩ := info_parts Tryz.info3
  exact wp_push2 s x 24 3 ho i0 (.int .i64 0) 8 Tryz.underlying24 hi hz0 hz1 hz2 rfl hs h.b ad _ hx hc rfl (by unfold maxLen; omega) (by omega) (Nat.le_trans hbase h.size) fun B' d' w' h2 h3 h4 => hK B' d' w' (h.pushB h2 h3 h4) h3
end Go.Proofs.YthncdjcmlpiebaaGreatDoor
