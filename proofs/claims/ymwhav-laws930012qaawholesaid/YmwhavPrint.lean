/-
  THE WALKS FOR LawS930012QAAWhole, sixth text: 'PrintLine' (5).
-/
import Derived.Test.YmwhavValid
import Derived.Test.YmwhavEsc
import Derived.Deep.RegionHeld3
namespace Go.Proofs.Ymwhav
open Go.RowKit

/-- The cells of the record that a call boxes lie on. -/
theorem box_cells {w w1 : World} {x y z : Value} (h : Below (w.alloc (.cells #[x, y, z] 23)).heap.size (w.alloc (.cells #[x, y, z] 23)) w1) :
    w1.cell? ⟨w.heap.size, 0, none⟩ = some x ∧ w1.cell? ⟨w.heap.size, 1, none⟩ = some y ∧ w1.cell? ⟨w.heap.size, 2, none⟩ = some z := by
  refine ⟨?_, ?_, ?_⟩
  · rw [h.cell (p := ⟨w.heap.size, 0, none⟩) (by simp)]; simp
  · rw [h.cell (p := ⟨w.heap.size, 1, none⟩) (by simp)]; simp
  · rw [h.cell (p := ⟨w.heap.size, 2, none⟩) (by simp)]; simp

theorem box_below {w w1 : World} {o : Obj} (h : Below (w.alloc o).heap.size (w.alloc o) w1) : Below w.heap.size w w1 ∧ w.heap.size < w1.heap.size := by
  refine ⟨((Below.refl _ _).alloc (Nat.le_refl _) o).trans (h.mono (by simp)), ?_⟩
  have := h.size
  simp at this
  omega

/-- Valid answers b. -/
def ValidIs (k : Int) (n v : ByteArray) (b : Bool) : Prop :=
  ∀ w : World, Calls Yavv.prog 9 #[.agg #[.int .i64 k, .string n, .string v]] w fun e w' => e = .returned (.bool b) ∧ Below w.heap.size w w'

/-- PrintLine answers a and b. -/
def PrintIs (k : Int) (n v a : ByteArray) (b : Bool) : Prop :=
  ∀ w : World, Calls Yavv.prog 5 #[.agg #[.int .i64 k, .string n, .string v]] w fun e w' => e = .returned (.tuple #[.string a, .bool b]) ∧ Below w.heap.size w w'

/-- The model answers a and b. -/
def ModelIs (k : Int) (n v a : ByteArray) (b : Bool) : Prop :=
  ∀ w : World, Calls Yavv.prog 6 #[.agg #[.int .i64 k, .string n, .string v]] w fun e w' => e = .returned (.tuple #[.string a, .bool b]) ∧ Below w.heap.size w w'

set_option maxHeartbeats 400000 in
theorem print_no (k : Int) (n v : ByteArray) (h : ValidIs k n v false) : PrintIs k n v ⟨#[]⟩ false := by
  intro w
  go_enter Yavv.func5, Yavv.ntmps5
  go_wp2_with fail
  refine (h _).mono ?_
  rintro e w1 ⟨rfl, hb1⟩
  obtain ⟨hbw, hsz⟩ := box_below hb1
  clear hb1
  go_wp2
  go_ret2
  exact ⟨rfl, hbw⟩

set_option maxHeartbeats 400000 in
theorem print0 (n v : ByteArray) (h : ValidIs 0 n v true) : PrintIs 0 n v ⟨#[]⟩ true := by
  intro w
  go_enter Yavv.func5, Yavv.ntmps5
  go_wp2_with fail
  refine (h _).mono ?_
  rintro e w1 ⟨rfl, hb1⟩
  obtain ⟨c0, c1, c2⟩ := box_cells hb1
  obtain ⟨hbw, hsz⟩ := box_below hb1
  clear hb1
  go_wp2
  go_ret2
  exact ⟨rfl, hbw⟩

set_option maxHeartbeats 400000 in
theorem print1 (n v : ByteArray) (hv : v.size ≤ 4096) (h : ValidIs 1 n v true) : PrintIs 1 n v ((⟨#[59]⟩ : ByteArray) ++ v) true := by
  intro w
  go_enter Yavv.func5, Yavv.ntmps5
  go_wp2_with fail
  refine (h _).mono ?_
  rintro e w1 ⟨rfl, hb1⟩
  obtain ⟨c0, c1, c2⟩ := box_cells hb1
  obtain ⟨hbw, hsz⟩ := box_below hb1
  clear hb1
  go_wp2
  go_ret2
  exact ⟨rfl, hbw⟩

set_option maxHeartbeats 400000 in
theorem print2 (n v : ByteArray) (hn : n.size ≤ 4096) (h : ValidIs 2 n v true) : PrintIs 2 n v ((⟨#[91]⟩ : ByteArray) ++ n ++ (⟨#[93]⟩ : ByteArray)) true := by
  intro w
  go_enter Yavv.func5, Yavv.ntmps5
  go_wp2_with fail
  refine (h _).mono ?_
  rintro e w1 ⟨rfl, hb1⟩
  obtain ⟨c0, c1, c2⟩ := box_cells hb1
  obtain ⟨hbw, hsz⟩ := box_below hb1
  clear hb1
  go_wp2
  go_ret2
  exact ⟨rfl, hbw⟩

set_option maxHeartbeats 1000000 in
theorem print3 (n v : ByteArray) (hn : n.size ≤ 4096) (hv : v.size ≤ 4096) (h : ValidIs 3 n v true) : PrintIs 3 n v (n ++ (⟨#[61]⟩ : ByteArray) ++ PlainA.esc v) true := by
  intro w
  have hes := PlainA.esc_size v
  have hc1 : ¬ 9223372036854775807 < n.size + 1 := by omega
  have hc2 : ¬ 9223372036854775807 < n.size + 1 + (PlainA.esc v).size := by omega
  go_enter Yavv.func5, Yavv.ntmps5
  go_wp2_with fail
  refine (h _).mono ?_
  rintro e w1 ⟨rfl, hb1⟩
  obtain ⟨c0, c1, c2⟩ := box_cells hb1
  obtain ⟨hbw, hsz⟩ := box_below hb1
  clear hb1
  go_wp2
  go_region_held3 (fun w' => w'.cell? ⟨w.heap.size, 1, none⟩ = some (.string n) ∧ w'.cell? ⟨w.heap.size, 2, none⟩ = some (.string v)) (first | go_keep | (refine ⟨(hb2.cell (p := ⟨w.heap.size, 1, none⟩) hsz).trans c1, (hb2.cell (p := ⟨w.heap.size, 2, none⟩) hsz).trans c2⟩)) (first | (go_at_call 10; refine (esc_any v _ hv).mono ?_; rintro e w2 ⟨rfl, hb2⟩))
  have hb3 : Below w.heap.size w w2 := hbw.drew.trans (hb2.mono (Nat.le_of_lt hsz))
  clear hb2
  go_wp2
  go_ret2
  exact ⟨rfl, hb3⟩
end Go.Proofs.Ymwhav
