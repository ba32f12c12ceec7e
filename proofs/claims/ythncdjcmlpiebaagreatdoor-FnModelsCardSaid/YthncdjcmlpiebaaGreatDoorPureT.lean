/- Texts, plain: numbers, sets, trees and intervals as bytes. No program in sight. -/
import Derived.Test.YthncdjcmlpiebaaGreatDoorPurA
import Derived.Lib.ItoaNum
import Derived.Laws.Concat
namespace Go.Proofs.YthncdjcmlpiebaaGreatDoor
/-- A list of bytes as a string of the model. -/
def sb (l : List UInt8) : ByteArray := ⟨l.toArray⟩
theorem sb_add (a b : List UInt8) : sb a ++ sb b = sb (a ++ b) := by
  unfold sb
  rw [ByteArray.mk_append_mk]
theorem sb_size (a : List UInt8) : (sb a).size = a.length := by show a.toArray.size = _; simp
/-- A number below 100. -/
def dec (i : Nat) : List UInt8 := Lib.decDigits i
theorem dec_one {i : Nat} (h : i < 10) : dec i = [UInt8.ofNat (48 + i)] := by unfold dec; rw [Lib.decDigits, dif_pos h]
theorem dec_two {i : Nat} (h : 10 ≤ i) (h1 : i < 100) : dec i = [UInt8.ofNat (48 + i / 10), UInt8.ofNat (48 + i % 10)] := by
  have e : dec i = dec (i / 10) ++ [UInt8.ofNat (48 + i % 10)] := by
    show Lib.decDigits i = Lib.decDigits (i / 10) ++ _
    rw [Lib.decDigits, dif_neg (by omega)]
  rw [e, dec_one (by omega)]; rfl
theorem dec_len {i : Nat} (h : i < 100) : 1 ≤ (dec i).length ∧ (dec i).length ≤ 2 := by
  rcases Nat.lt_or_ge i 10 with h1 | h1
  · rw [dec_one h1]; simp
  · rw [dec_two h1 h]; simp
/-- The members of a set, one behind the other. -/
def decs (l : List Nat) : List UInt8 := l.flatMap dec
theorem decs_snoc (l : List Nat) (v : Nat) : decs (l ++ [v]) = decs l ++ dec v := by simp [decs]
theorem decs_len {l : List Nat} (h : ∀ v ∈ l, v < 100) : l.length ≤ (decs l).length ∧ (decs l).length ≤ 2 * l.length := by
  induction l with
  | nil => simp [decs]
  | cons a l ih =>
    have h1 := dec_len (h a (List.mem_cons_self ..))
    have h2 := ih fun v hv => h v (List.mem_cons_of_mem _ hv)
    have e : decs (a :: l) = dec a ++ decs l := by simp [decs]
    rw [e, List.length_append, List.length_cons]
    omega
def fset (s : Nat) : List UInt8 := if s = 0 then [45] else decs (listOf s)
theorem listOf_zero : listOf 0 = [] := by decide
theorem listOf_none {s : Nat} (h : s < 128) (e : listOf s = []) : s = 0 := by
  refine Nat.eq_of_testBit_eq fun i => ?_
  rw [Nat.zero_testBit, ← Bool.not_eq_true]
  intro hi
  have h7 : i < 7 := bit_lt (show s < 2 ^ 7 by omega) hi
  have := mem_listOf.2 ⟨h7, hi⟩
  rw [e] at this; cases this
theorem fset_len (s : Nat) : (fset s).length ≤ 14 := by
  unfold fset
  split
  · simp
  · have h1 := (decs_len (l := listOf s) fun v hv => by have := mem_listOf.1 hv; omega).2
    have h2 := listOf_len s
    omega
/-- A tree's first k bags. -/
def ftK (B P : List Int) : Nat → List UInt8
  | 0 => []
  | k + 1 => (if k = 0 then ftK B P k else ftK B P k ++ [32] ++ dec (P.getD k 0).toNat ++ [62]) ++ fset (B.getD k 0).toNat
def ftree (B P : List Int) : List UInt8 := if isTree B P then ftK B P B.length else []
theorem ftree_no {B P : List Int} (h : isTree B P = false) : ftree B P = [] := by rw [ftree, h]; rfl
theorem ftree_yes {B P : List Int} (h : isTree B P = true) : ftree B P = ftK B P B.length := by rw [ftree, if_pos h]
theorem ftK_len {B P : List Int} (h : ∀ j, (P.getD j 0).toNat < 100) : ∀ k, (ftK B P k).length ≤ 20 * k
  | 0 => by simp [ftK]
  | k + 1 => by
    have h1 := ftK_len (B := B) h k
    have h2 := fset_len (B.getD k 0).toNat
    have h3 := (dec_len (h k)).2
    rw [ftK]
    split <;> simp only [List.length_append, List.length_cons, List.length_nil] <;> omega
/-- A model's first k intervals. -/
def fiK (L R : List Int) : Nat → List UInt8
  | 0 => []
  | k + 1 => (if k = 0 then fiK L R k else fiK L R k ++ [32]) ++ (dec (L.getD k 0).toNat ++ [45] ++ dec (R.getD k 0).toNat)
def fivs (L R : List Int) : List UInt8 := if isModel L R then fiK L R L.length else []
theorem fivs_no {L R : List Int} (h : isModel L R = false) : fivs L R = [] := by rw [fivs, h]; rfl
theorem fivs_yes {L R : List Int} (h : isModel L R = true) : fivs L R = fiK L R L.length := by rw [fivs, if_pos h]
end Go.Proofs.YthncdjcmlpiebaaGreatDoor
