/-
  THE WALKS FOR LawS930012QABWhole, fourth text: 'zzs930012qabname' (8), 'zzs930012qabsame' (15).
-/
import Derived.Test.YmwhavLook
import Derived.Deep.QuietTactic
import Derived.BigQuiet
namespace Go.Proofs.Ymwhav
open Go.RowKit

/-- The name that stands for a number. -/
def nm (n : Int) : ByteArray := if (n.tmod 3 == 0) = true then ⟨#[]⟩ else if (n.tmod 3 == 1) = true then ⟨#[97]⟩ else ⟨#[98]⟩

set_option maxHeartbeats 400000 in
theorem name_any (n : Int) (w : World) : Calls Yavv.prog 8 #[.int .i64 n] w fun e w' => e = .returned (.string (nm n)) ∧ w' = w := by
  go_enter Yavv.func8, Yavv.ntmps8
  go_wp2
  · have h0 : (n.tmod 3 == 0) = true := by assumption
    go_ret
    exact ⟨ret_str (by rw [nm, if_pos h0]), rfl⟩
  · have h0 : (n.tmod 3 == 0) = false := by assumption
    have h1 : (n.tmod 3 == 1) = true := by assumption
    go_ret
    exact ⟨ret_str (by rw [nm, if_neg (by rw [h0]; decide), if_pos h1]), rfl⟩
  · have h0 : (n.tmod 3 == 0) = false := by assumption
    have h1 : (n.tmod 3 == 1) = false := by assumption
    go_ret
    exact ⟨ret_str (by rw [nm, if_neg (by rw [h0]; decide), if_neg (by rw [h1]; decide)]), rfl⟩

set_option maxHeartbeats 400000 in
theorem same_zero (ao ao' : Option Addr) (cap cap' : Nat) (w : World) :
    Calls Yavv.prog 15 #[.slice ao 0 cap, .slice ao' 0 cap'] w fun e w' => e = .returned (.bool true) ∧ Below w.heap.size w w' := by
  go_enter Yavv.func15, Yavv.ntmps15
  go_wp2
  go_loop [5] (fun j => j = .int .i64 0) (fun _ => 0)
  case atStart => rfl
  case round =>
    subst hrel
    go_wp2
    go_ret
    exact ⟨rfl, Below.refl _ _⟩

set_option maxHeartbeats 1000000 in
theorem same_pos (b off b' off' n cap cap' : Nat) (K : Nat → Int) (N V : Nat → ByteArray) (hn : n ≤ 1024) (w : World) (hb : b < w.heap.size) (hb' : b' < w.heap.size) (hc : Row w b off n K N V) (hc' : Row w b' off' n K N V) :
    Calls Yavv.prog 15 #[.slice (some ⟨b, off, none⟩) n cap, .slice (some ⟨b', off', none⟩) n cap'] w fun e w' => e = .returned (.bool true) ∧ Below w.heap.size w w' := by
  go_enter Yavv.func15, Yavv.ntmps15
  go_wp2
  go_loopg [5] n (fun g j wr => ∃ k : Nat, g + k = n ∧ j = .int .i64 (k : Int) ∧ Below w.heap.size w wr)
  case atStart => exact ⟨0, rfl, rfl, Below.refl _ _⟩
  case round =>
    obtain ⟨k, hk, rfl, hbel⟩ := hrel
    by_cases hlt : k < n
    · obtain ⟨c0, c1, c2⟩ := (hc.below hbel hb) k hlt
      obtain ⟨d0, d1, d2⟩ := (hc'.below hbel hb') k hlt
      have hlt' : (k : Int) < (n : Int) := by omega
      go_wp2
      go_quiet (fail)
      go_wp2
      go_roundg (gk - 1)
      case measure => omega
      case rel => exact ⟨k + 1, by omega, by go_num, below_drewN hbel _⟩
    · go_wp2
      go_ret
      exact ⟨rfl, hbel⟩

theorem same_any (ao ao' : Option Addr) (n cap cap' : Nat) (K : Nat → Int) (N V : Nat → ByteArray) (hn : n ≤ 1024) (w : World) (h : Recs w ao n K N V) (h' : Recs w ao' n K N V) :
    Calls Yavv.prog 15 #[.slice ao n cap, .slice ao' n cap'] w fun e w' => e = .returned (.bool true) ∧ Below w.heap.size w w' := by
  rcases h with rfl | ⟨b, off, rfl, hb, hc⟩
  · exact same_zero ao ao' cap cap' w
  · rcases h' with rfl | ⟨b', off', rfl, hb', hc'⟩
    · exact same_zero _ _ cap cap' w
    · exact same_pos b off b' off' n cap cap' K N V hn w hb hb' hc hc'
end Go.Proofs.Ymwhav
