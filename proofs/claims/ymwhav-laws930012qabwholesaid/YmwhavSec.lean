/-
  THE WALKS FOR LawS930012QABWhole, first text: what a slice of records holds; 'zzs930012qabsec' (function 20).
-/
import Derived.Test.YmwhavRows
import Derived.Test.YmwhavPlainB
import Derived.WalkKit
import Derived.WalkSpells
import Derived.WalkLawsBesides
namespace Go.Proofs.Ymwhav
open Go.RowKit

/-- The cells of n records from '⟨b, off⟩' on: kind 'K i', name 'N i', value 'V i'. -/
def Row (w : World) (b off n : Nat) (K : Nat → Int) (N V : Nat → ByteArray) : Prop :=
  ∀ i, i < n → w.cell? ⟨b, off + i * 3, none⟩ = some (.int .i64 (K i)) ∧ w.cell? ⟨b, off + i * 3 + 1, none⟩ = some (.string (N i)) ∧ w.cell? ⟨b, off + i * 3 + 2, none⟩ = some (.string (V i))

/-- The slice '.slice ao n cap' leads to n records. -/
def Recs (w : World) (ao : Option Addr) (n : Nat) (K : Nat → Int) (N V : Nat → ByteArray) : Prop :=
  n = 0 ∨ ∃ b off, ao = some ⟨b, off, none⟩ ∧ b < w.heap.size ∧ Row w b off n K N V

theorem ret_str {a b : ByteArray} (h : a = b) : Ending.returned (.string a) = .returned (.string b) := by rw [h]

theorem Row.below {B : Nat} {w w' : World} {b off n : Nat} {K : Nat → Int} {N V : Nat → ByteArray} (h : Row w b off n K N V) (hb : Below B w w') (hlt : b < B) : Row w' b off n K N V := by
  intro i hi
  have := h i hi
  refine ⟨(hb.cell (by exact hlt)).trans this.1, (hb.cell (by exact hlt)).trans this.2.1, (hb.cell (by exact hlt)).trans this.2.2⟩

theorem Recs.below {w w' : World} {ao : Option Addr} {n : Nat} {K : Nat → Int} {N V : Nat → ByteArray} (h : Recs w ao n K N V) (hb : Below w.heap.size w w') : Recs w' ao n K N V := by
  rcases h with h | ⟨b, off, h1, h2, h3⟩
  · exact .inl h
  · exact .inr ⟨b, off, h1, Nat.lt_of_lt_of_le h2 hb.size, h3.below hb h2⟩

set_option maxHeartbeats 400000 in
theorem sec_any (b off n cap : Nat) (K : Nat → Int) (N V : Nat → ByteArray) (i : Nat) (hi : i < n) (hn : n ≤ 1024) (w : World) (hc : Row w b off n K N V) :
    Calls Yavv.prog 20 #[.slice (some ⟨b, off, none⟩) n cap, .int .i64 i] w fun e w' => e = .returned (.string (PlainB.cur K N (i + 1))) ∧ w' = w := by
  go_enter Yavv.func20, Yavv.ntmps20
  go_wp2
  go_loop [5] (fun j => ∃ k : Nat, k ≤ i + 1 ∧ j = .int .i64 ((k : Int) - 1) ∧ PlainB.cur K N k = PlainB.cur K N (i + 1)) (fun j => (intOf j + 1).toNat)
  case atStart => exact ⟨i + 1, Nat.le_refl _, by go_num, rfl⟩
  case round =>
    obtain ⟨k, hk, rfl, hcur⟩ := hrel
    have HC : Hid (PlainB.cur K N k = PlainB.cur K N (i + 1)) := hcur
    clear hcur
    cases k with
    | zero =>
      go_wp2
      go_ret
      exact ⟨ret_str HC.out, rfl⟩
    | succ k =>
      obtain ⟨c0, c1, c2⟩ := hc k (by omega)
      go_wp2
      · have h2 : (K k == 2) = true := by assumption
        go_ret
        exact ⟨ret_str ((PlainB.cur_sec h2).symm.trans HC.out), rfl⟩
      · have h2 : (K k == 2) = false := by assumption
        go_round
        case rel => exact ⟨k, by omega, rfl, (PlainB.cur_same h2).symm.trans HC.out⟩
        case measure => simp [intOf]
end Go.Proofs.Ymwhav
