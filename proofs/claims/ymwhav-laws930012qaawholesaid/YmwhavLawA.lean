/-
  THE WALK OF LawS930012QAAWhole (3): it answers true at every record.
-/
import Derived.Test.YmwhavModel
namespace Go.Proofs.Ymwhav
open Go.RowKit

/-- PrintLine and the model answer the same. -/
theorem both (k : Int) (n v : ByteArray) (hn : n.size ≤ 4096) (hv : v.size ≤ 4096) : ∃ a b, PrintIs k n v a b ∧ ModelIs k n v a b := by
  by_cases k0 : k = 0
  · subst k0
    have hm := model0 n v
    cases hb : (n.toList.isEmpty && v.toList.isEmpty)
    · rw [hb] at hm
      exact ⟨_, _, print_no 0 n v (fun w => by have := valid0 n v w; rw [hb] at this; exact this), hm⟩
    · rw [hb] at hm
      exact ⟨_, _, print0 n v (fun w => by have := valid0 n v w; rw [hb] at this; exact this), hm⟩
  by_cases k1 : k = 1
  · subst k1
    cases he : n.toList.isEmpty
    · exact ⟨_, _, print_no 1 n v (fun w => valid1_name n v w he hv), model1_name n v he⟩
    · by_cases h10 : has v 10
      · exact ⟨_, _, print_no 1 n v (fun w => valid1_nl n v w he hv h10), model1_nl n v he hv h10⟩
      · by_cases hl : lastBlank v
        · exact ⟨_, _, print_no 1 n v (fun w => valid1_blank n v w he hv h10 hl), model1_blank n v he hv h10 hl⟩
        · exact ⟨_, _, print1 n v hv (fun w => valid1_yes n v w he hv h10 hl), model1_yes n v he hv h10 hl⟩
  by_cases k2 : k = 2
  · subst k2
    by_cases hg : good n
    · cases he : v.toList.isEmpty
      · exact ⟨_, _, print_no 2 n v (fun w => by have := valid2_yes n v w hn hg; rw [he] at this; exact this), model2_value n v hn hg he⟩
      · exact ⟨_, _, print2 n v hn (fun w => by have := valid2_yes n v w hn hg; rw [he] at this; exact this), model2_yes n v hn hg he⟩
    · exact ⟨_, _, print_no 2 n v (fun w => valid2_no n v w hn hg), model2_no n v hn hg⟩
  by_cases k3 : k = 3
  · subst k3
    by_cases hg : good n
    · exact ⟨_, _, print3 n v hn hv (fun w => valid3_yes n v w hn hg), model3_yes n v hn hv hg⟩
    · exact ⟨_, _, print_no 3 n v (fun w => valid3_no n v w hn hg), model3_no n v hn hg⟩
  have e0 : (k == 0) = false := by simpa using k0
  have e1 : (k == 1) = false := by simpa using k1
  have e2 : (k == 2) = false := by simpa using k2
  have e3 : (k == 3) = false := by simpa using k3
  exact ⟨_, _, print_no k n v (fun w => valid_other k n v w e0 e1 e2 e3), model_other k n v e0 e1 e2 e3⟩

set_option maxHeartbeats 400000 in
theorem lawA_short (k : Int) (n v : ByteArray) (hn : n.size ≤ 4096) (hv : v.size ≤ 4096) (w : World) :
    Calls Yavv.prog 3 #[.agg #[.int .i64 k, .string n, .string v]] w fun e w' => e = .returned (.bool true) ∧ Below w.heap.size w w' := by
  obtain ⟨a, b, h5, h6⟩ := both k n v hn hv
  have hn' : ¬ (4096 : Int) < (n.size : Int) := by omega
  have hv' : ¬ (4096 : Int) < (v.size : Int) := by omega
  go_enter Yavv.func3, Yavv.ntmps3
  go_wp2_with fail
  refine (h5 _).mono ?_
  rintro e w1 ⟨rfl, hb1⟩
  obtain ⟨c0, c1, c2⟩ := box_cells hb1
  obtain ⟨hbw, hsz⟩ := box_below hb1
  clear hb1
  go_wp2_with fail
  refine (h6 _).mono ?_
  rintro e w2 ⟨rfl, hb2⟩
  have hb3 : Below w.heap.size w w2 := hbw.trans (hb2.mono (Nat.le_of_lt hsz))
  clear hb2
  go_wp2
  go_ret
  exact ⟨rfl, hb3⟩

set_option maxHeartbeats 400000 in
theorem lawA_name (k : Int) (n v : ByteArray) (hn : ¬ n.size ≤ 4096) (w : World) :
    Calls Yavv.prog 3 #[.agg #[.int .i64 k, .string n, .string v]] w fun e w' => e = .returned (.bool true) ∧ Below w.heap.size w w' := by
  have hn' : (4096 : Int) < (n.size : Int) := by omega
  go_enter Yavv.func3, Yavv.ntmps3
  go_wp2
  go_ret
  exact ⟨rfl, (Below.refl _ _).alloc (Nat.le_refl _) _⟩

set_option maxHeartbeats 400000 in
theorem lawA_value (k : Int) (n v : ByteArray) (hn : n.size ≤ 4096) (hv : ¬ v.size ≤ 4096) (w : World) :
    Calls Yavv.prog 3 #[.agg #[.int .i64 k, .string n, .string v]] w fun e w' => e = .returned (.bool true) ∧ Below w.heap.size w w' := by
  have hn' : ¬ (4096 : Int) < (n.size : Int) := by omega
  have hv' : (4096 : Int) < (v.size : Int) := by omega
  go_enter Yavv.func3, Yavv.ntmps3
  go_wp2
  go_ret
  exact ⟨rfl, (Below.refl _ _).alloc (Nat.le_refl _) _⟩

theorem lawA_any (k : Int) (n v : ByteArray) (w : World) :
    Calls Yavv.prog 3 #[.agg #[.int .i64 k, .string n, .string v]] w fun e w' => e = .returned (.bool true) ∧ Below w.heap.size w w' := by
  by_cases hn : n.size ≤ 4096
  · by_cases hv : v.size ≤ 4096
    · exact lawA_short k n v hn hv w
    · exact lawA_value k n v hn hv w
  · exact lawA_name k n v hn w
end Go.Proofs.Ymwhav
