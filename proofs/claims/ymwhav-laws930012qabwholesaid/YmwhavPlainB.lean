/-
  THE PLAIN LAW FOR LawS930012QABWhole: no Go in sight. Records by index: 'K i' the kind, 'N i' the name.
-/
namespace Go.Proofs.Ymwhav.PlainB

/-- The section in force behind the first k records. -/
def cur (K : Nat → Int) (N : Nat → ByteArray) : Nat → ByteArray
  | 0 => ByteArray.empty
  | k + 1 => if (K k == 2) = true then N k else cur K N k

/-- Record k is a pair of this key in this section. -/
def hitAt (K : Nat → Int) (N : Nat → ByteArray) (sec key : ByteArray) (k : Nat) : Bool :=
  ((cur K N (k + 1)).toList == sec.toList) && ((K k == 3) && ((N k).toList == key.toList))

/-- The last hit among the first k records, or -1. -/
def hit (K : Nat → Int) (N : Nat → ByteArray) (sec key : ByteArray) : Nat → Int
  | 0 => -1
  | k + 1 => if hitAt K N sec key k = true then (k : Int) else hit K N sec key k

theorem hit_range (K : Nat → Int) (N : Nat → ByteArray) (sec key : ByteArray) (k : Nat) : -1 ≤ hit K N sec key k ∧ hit K N sec key k < k := by
  induction k with
  | zero => simp [hit]
  | succ k ih =>
    unfold hit
    split <;> omega

theorem cur_sec {K : Nat → Int} {N : Nat → ByteArray} {k : Nat} (h : (K k == 2) = true) : cur K N (k + 1) = N k := by
  rw [cur, if_pos h]

theorem cur_same {K : Nat → Int} {N : Nat → ByteArray} {k : Nat} (h : (K k == 2) = false) : cur K N (k + 1) = cur K N k := by
  rw [cur, if_neg (by rw [h]; decide)]

theorem hit_yes {K : Nat → Int} {N : Nat → ByteArray} {sec key : ByteArray} {k : Nat} (h1 : ((cur K N (k + 1)).toList == sec.toList) = true) (h2 : (K k == 3) = true) (h3 : ((N k).toList == key.toList) = true) :
    hit K N sec key (k + 1) = (k : Int) := by
  rw [hit, if_pos (by simp only [hitAt, h1, h2, h3, Bool.and_self])]

theorem hit_no1 {K : Nat → Int} {N : Nat → ByteArray} {sec key : ByteArray} {k : Nat} (h1 : ((cur K N (k + 1)).toList == sec.toList) = false) :
    hit K N sec key (k + 1) = hit K N sec key k := by
  rw [hit, if_neg (by simp only [hitAt, h1, Bool.false_and]; decide)]

theorem hit_no2 {K : Nat → Int} {N : Nat → ByteArray} {sec key : ByteArray} {k : Nat} (h2 : (K k == 3) = false) :
    hit K N sec key (k + 1) = hit K N sec key k := by
  rw [hit, if_neg (by simp only [hitAt, h2, Bool.false_and, Bool.and_false]; decide)]

theorem hit_no3 {K : Nat → Int} {N : Nat → ByteArray} {sec key : ByteArray} {k : Nat} (h3 : ((N k).toList == key.toList) = false) :
    hit K N sec key (k + 1) = hit K N sec key k := by
  rw [hit, if_neg (by simp only [hitAt, h3, Bool.and_false]; decide)]

end Go.Proofs.Ymwhav.PlainB
