/-
  THE PLAIN SIDE OF LawS930012QAAWhole: how a value is escaped. No Go in sight.
-/
namespace Go.Proofs.Ymwhav.PlainA

/-- What byte k of s becomes. -/
def part (s : ByteArray) (k : Nat) : List UInt8 :=
  if h : k < s.size then
    if (s[k].toNat : Int) = 92 then [92, 92]
    else if (s[k].toNat : Int) = 10 then [92, 110]
    else if (s[k].toNat : Int) = 13 then [92, 114]
    else if (s[k].toNat : Int) = 9 then [92, 116]
    else if (s[k].toNat : Int) = 32 ∧ (k = 0 ∨ k = s.size - 1) then [92, 115]
    else [s[k]]
  else []

/-- The first k bytes, escaped. -/
def escTo (s : ByteArray) : Nat → List UInt8
  | 0 => []
  | k + 1 => escTo s k ++ part s k

/-- The whole, escaped. -/
def esc (s : ByteArray) : ByteArray := ⟨(escTo s s.size).toArray⟩

theorem part_le (s : ByteArray) (k : Nat) : (part s k).length ≤ 2 := by
  unfold part
  repeat' split
  all_goals simp

theorem escTo_le (s : ByteArray) (k : Nat) : (escTo s k).length ≤ 2 * k := by
  induction k with
  | zero => simp [escTo]
  | succ k ih =>
    have := part_le s k
    simp [escTo]
    omega

theorem esc_size (s : ByteArray) : (esc s).size ≤ 2 * s.size := by
  have h := escTo_le s s.size
  have e : (esc s).size = (escTo s s.size).length := rfl
  omega

section
variable {s : ByteArray} {k : Nat} (h : k < s.size)
theorem part1 (e : ((s[k].toNat : Int) == 92) = true) : part s k = [92, 92] := by
  have e' : (s[k].toNat : Int) = 92 := by simpa using e
  rw [part, dif_pos h, if_pos e']
theorem part2 (e : ((s[k].toNat : Int) == 10) = true) : part s k = [92, 110] := by
  have e' : (s[k].toNat : Int) = 10 := by simpa using e
  rw [part, dif_pos h, if_neg (by omega), if_pos e']
theorem part3 (e : ((s[k].toNat : Int) == 13) = true) : part s k = [92, 114] := by
  have e' : (s[k].toNat : Int) = 13 := by simpa using e
  rw [part, dif_pos h, if_neg (by omega), if_neg (by omega), if_pos e']
theorem part4 (e : ((s[k].toNat : Int) == 9) = true) : part s k = [92, 116] := by
  have e' : (s[k].toNat : Int) = 9 := by simpa using e
  rw [part, dif_pos h, if_neg (by omega), if_neg (by omega), if_neg (by omega), if_pos e']
theorem part5 (e : ((s[k].toNat : Int) == 32) = true) (c : k = 0 ∨ k = s.size - 1) : part s k = [92, 115] := by
  have e' : (s[k].toNat : Int) = 32 := by simpa using e
  rw [part, dif_pos h, if_neg (by omega), if_neg (by omega), if_neg (by omega), if_neg (by omega), if_pos ⟨e', c⟩]
theorem part6 (e1 : ((s[k].toNat : Int) == 92) = false) (e2 : ((s[k].toNat : Int) == 10) = false) (e3 : ((s[k].toNat : Int) == 13) = false) (e4 : ((s[k].toNat : Int) == 9) = false)
    (c : ¬ ((s[k].toNat : Int) = 32 ∧ (k = 0 ∨ k = s.size - 1))) : part s k = [s[k]] := by
  rw [part, dif_pos h, if_neg (by simpa using e1), if_neg (by simpa using e2), if_neg (by simpa using e3), if_neg (by simpa using e4), if_neg c]
end

end Go.Proofs.Ymwhav.PlainA
