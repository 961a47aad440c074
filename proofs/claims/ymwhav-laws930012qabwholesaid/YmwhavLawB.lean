/-
  THE WALK OF LawS930012QABWhole (4): it answers true at every slice of records.
-/
import Derived.Test.YmwhavCheck
import Derived.Deep.RegionHeld3
import Derived.Deep.Light
namespace Go.Proofs.Ymwhav
open Go.RowKit

/-- A row of the call's own that holds n records, whichever, none frozen. -/
def Own (w : World) (g n : Nat) : Prop := ∃ (K : Nat → Int) (N V : Nat → ByteArray), Row w g 0 n K N V ∧ ∀ j, w.frozen? ⟨g, j, none⟩ = false

theorem own_below {w wr : World} {g o : Nat} (h : Below w.heap.size w wr) (hg : w.heap.size ≤ g) (x y z : Value) :
    Below w.heap.size w (((wr.setCell ⟨g, o, none⟩ x).setCell ⟨g, o + 1, none⟩ y).setCell ⟨g, o + 2, none⟩ z).drew :=
  (((h.setCell (by exact hg) x).setCell (by exact hg) y).setCell (by exact hg) z).drew

/-- A record stored into the row: it still holds records. -/
theorem own_step {w : World} {g n k : Nat} {K : Nat → Int} {N V : Nat → ByteArray} (h : Row w g 0 n K N V) (hf : ∀ j, w.frozen? ⟨g, j, none⟩ = false) (hk : k < n) {x : Int} {y z : ByteArray} {v0 v1 v2 : Value}
    (d0 : w.cell? ⟨g, k * 3, none⟩ = some v0) (d1 : w.cell? ⟨g, k * 3 + 1, none⟩ = some v1) (d2 : w.cell? ⟨g, k * 3 + 2, none⟩ = some v2) :
    Own (((w.setCell ⟨g, k * 3, none⟩ (.int .i64 x)).setCell ⟨g, k * 3 + 1, none⟩ (.string y)).setCell ⟨g, k * 3 + 2, none⟩ (.string z)).drew g n := by
  refine ⟨fun i => if i = k then x else K i, fun i => if i = k then y else N i, fun i => if i = k then z else V i, ?_, ?_⟩
  · intro i hi
    by_cases e : i = k
    · subst e
      simp only [Nat.zero_add, if_true]
      refine ⟨?_, ?_, ?_⟩
      · show World.cell? (World.setCell _ _ _) _ = _
        rw [World.cell?_setCell_other _ _ _ _ (by simp), World.cell?_setCell_other _ _ _ _ (by simp)]
        exact World.cell?_setCell_same _ _ _ d0
      · show World.cell? (World.setCell _ _ _) _ = _
        rw [World.cell?_setCell_other _ _ _ _ (by simp)]
        exact World.cell?_setCell_same _ _ _ (by rw [World.cell?_setCell_other _ _ _ _ (by simp)]; exact d1)
      · show World.cell? (World.setCell _ _ _) _ = _
        exact World.cell?_setCell_same _ _ _ (by rw [World.cell?_setCell_other _ _ _ _ (by simp), World.cell?_setCell_other _ _ _ _ (by simp)]; exact d2)
    · have hh := h i hi
      simp only [Nat.zero_add] at hh
      simp only [Nat.zero_add, if_neg e]
      refine ⟨?_, ?_, ?_⟩
      · show World.cell? (World.setCell _ _ _) _ = _
        rw [World.cell?_setCell_other _ _ _ _ (by intro hq; simp only [Addr.mk.injEq] at hq; omega), World.cell?_setCell_other _ _ _ _ (by intro hq; simp only [Addr.mk.injEq] at hq; omega), World.cell?_setCell_other _ _ _ _ (by intro hq; simp only [Addr.mk.injEq] at hq; omega)]
        exact hh.1
      · show World.cell? (World.setCell _ _ _) _ = _
        rw [World.cell?_setCell_other _ _ _ _ (by intro hq; simp only [Addr.mk.injEq] at hq; omega), World.cell?_setCell_other _ _ _ _ (by intro hq; simp only [Addr.mk.injEq] at hq; omega), World.cell?_setCell_other _ _ _ _ (by intro hq; simp only [Addr.mk.injEq] at hq; omega)]
        exact hh.2.1
      · show World.cell? (World.setCell _ _ _) _ = _
        rw [World.cell?_setCell_other _ _ _ _ (by intro hq; simp only [Addr.mk.injEq] at hq; omega), World.cell?_setCell_other _ _ _ _ (by intro hq; simp only [Addr.mk.injEq] at hq; omega), World.cell?_setCell_other _ _ _ _ (by intro hq; simp only [Addr.mk.injEq] at hq; omega)]
        exact hh.2.2
  · intro j
    show World.frozen? (World.setCell _ _ _) _ = _
    rw [World.frozen?_setCell, World.frozen?_setCell, World.frozen?_setCell]
    exact hf j

/-- What 'make' lays is such a row. -/
theorem own_made (w : World) (n : Nat) : Own (w.alloc (.cells (blank n) 23)) w.heap.size n := by
  refine ⟨fun _ => 0, fun _ => ⟨#[]⟩, fun _ => ⟨#[]⟩, ?_, ?_⟩
  · intro i hi
    obtain ⟨h0, h1, h2⟩ := blank_cell n i hi
    have hh : (w.alloc (.cells (blank n) 23)).heap[w.heap.size]? = some (.cells (blank n) 23 (0, 0)) := by show (w.heap.push _)[w.heap.size]? = _; simp
    refine ⟨?_, ?_, ?_⟩
    · simp only [World.cell?, hh, Nat.zero_add]; exact h0
    · simp only [World.cell?, hh, Nat.zero_add]; exact h1
    · simp only [World.cell?, hh, Nat.zero_add]; exact h2
  · intro j
    have hh : (w.alloc (.cells (blank n) 23)).heap[w.heap.size]? = some (.cells (blank n) 23 (0, 0)) := by show (w.heap.push _)[w.heap.size]? = _; simp
    simp only [World.frozen?, hh]
    simp

set_option maxHeartbeats 1000000 in
theorem law_pos (b off n cap : Nat) (K : Nat → Int) (N V : Nat → ByteArray) (sec key : ByteArray) (hn : n ≤ 1024) (w : World) (hb : b < w.heap.size) (hc : Row w b off n K N V) :
    Calls Yavv.prog 4 #[.slice (some ⟨b, off, none⟩) n cap, .string sec, .string key] w fun e w' => e = .returned (.bool true) ∧ Below w.heap.size w w' := by
  have hmk := run_make_recs n hn
  have hgt : ¬ (1024 : Int) < (n : Int) := by omega
  go_enter Yavv.func4, Yavv.ntmps4
  go_wp2_with fail
  refine (check_any (some ⟨b, off, none⟩) n cap K N V sec key hn w (.inr ⟨_, _, rfl, hb, hc⟩)).mono ?_
  rintro e w1 ⟨rfl, hb1⟩
  go_wp2
  go_loopg [8] n (fun g j wr => ∃ k : Nat, g + k = n ∧ j = .int .i64 (k : Int) ∧ Below w.heap.size w wr ∧ w1.heap.size < wr.heap.size ∧ Own wr w1.heap.size n)
  case atStart => exact ⟨0, rfl, rfl, hb1.alloc hb1.size _, by simp, own_made _ _⟩
  case round =>
    obtain ⟨k, hk, rfl, hbel, hsz, ho⟩ := hrel
    obtain ⟨K', N', V', hown, hfr⟩ := ho
    clear hmk
    by_cases hlt : k < n
    · obtain ⟨c0, c1, c2⟩ := (hc.below hbel hb) k hlt
      obtain ⟨d0, d1, d2⟩ := hown k hlt
      simp only [Nat.zero_add] at d0 d1 d2
      have hlt' : (k : Int) < (n : Int) := by omega
      have f0 := hfr (k * 3)
      have f1 := hfr (k * 3 + 1)
      have f2 := hfr (k * 3 + 2)
      have hne : ¬ b = w1.heap.size := by have := hb1.size; omega
      have hne' : ¬ w1.heap.size = b := by have := hb1.size; omega
      have HFR : Hid (∀ j, wr.frozen? ⟨w1.heap.size, j, none⟩ = false) := hfr
      clear hfr
      go_wp2
      go_region_held3 (fun w' => w'.cell? ⟨b, off + k * 3, none⟩ = some (.int .i64 (K k)) ∧ w'.cell? ⟨b, off + k * 3 + 1, none⟩ = some (.string (N k)) ∧ w'.cell? ⟨b, off + k * 3 + 2, none⟩ = some (.string (V k))) (go_keep) (first | (go_at_call 8; refine (name_any _ _).mono ?_; rintro e w' ⟨rfl, rfl⟩))
      go_wp2
      go_roundg (gk - 1)
      case measure => omega
      case rel => exact ⟨k + 1, by omega, by go_num, own_below hbel (by have := hb1.size; omega) _ _ _, by simpa using hsz, own_step hown HFR.out hlt d0 d1 d2⟩
    · go_wp2_with fail
      refine (name_any _ _).mono ?_
      rintro e w2 ⟨rfl, rfl⟩
      go_wp2_with fail
      refine (name_any _ _).mono ?_
      rintro e w2 ⟨rfl, rfl⟩
      go_wp2_with fail
      refine (check_any (some ⟨w1.heap.size, 0, none⟩) n n K' N' V' _ _ hn _ (.inr ⟨_, _, rfl, hsz, hown⟩)).mono ?_
      rintro e w3 ⟨rfl, hb3⟩
      go_wp2
      go_ret
      exact ⟨rfl, hbel.trans (hb3.mono hbel.size)⟩

set_option maxHeartbeats 400000 in
theorem law_zero (ao : Option Addr) (cap : Nat) (sec key : ByteArray) (w : World) :
    Calls Yavv.prog 4 #[.slice ao 0 cap, .string sec, .string key] w fun e w' => e = .returned (.bool true) ∧ Below w.heap.size w w' := by
  have hmk := run_make_recs 0 (by omega)
  simp only [Int.ofNat_zero] at hmk
  go_enter Yavv.func4, Yavv.ntmps4
  go_wp2_with fail
  refine (check_any ao 0 cap (fun _ => 0) (fun _ => ⟨#[]⟩) (fun _ => ⟨#[]⟩) sec key (by omega) w (.inl rfl)).mono ?_
  rintro e w1 ⟨rfl, hb1⟩
  go_wp2
  go_loopg [8] 0 (fun g j wr => g = 0 ∧ j = .int .i64 0 ∧ Below w.heap.size w wr)
  case atStart => exact ⟨rfl, rfl, hb1.alloc hb1.size _⟩
  case round =>
    obtain ⟨_, rfl, hbel⟩ := hrel
    clear hmk
    go_wp2_with fail
    refine (name_any _ _).mono ?_
    rintro e w2 ⟨rfl, rfl⟩
    go_wp2_with fail
    refine (name_any _ _).mono ?_
    rintro e w2 ⟨rfl, rfl⟩
    go_wp2_with fail
    refine (check_any (some ⟨w1.heap.size, 0, none⟩) 0 0 (fun _ => 0) (fun _ => ⟨#[]⟩) (fun _ => ⟨#[]⟩) _ _ (by omega) _ (.inl rfl)).mono ?_
    rintro e w3 ⟨rfl, hb3⟩
    go_wp2
    go_ret
    exact ⟨rfl, hbel.trans (hb3.mono hbel.size)⟩

set_option maxHeartbeats 400000 in
theorem law_long (ao : Option Addr) (n cap : Nat) (sec key : ByteArray) (w : World) (hn : ¬ n ≤ 1024) :
    Calls Yavv.prog 4 #[.slice ao n cap, .string sec, .string key] w fun e w' => e = .returned (.bool true) ∧ Below w.heap.size w w' := by
  have hgt : (1024 : Int) < (n : Int) := by omega
  go_enter Yavv.func4, Yavv.ntmps4
  go_wp2
  go_ret
  exact ⟨rfl, Below.refl _ _⟩

theorem law_any (ao : Option Addr) (n cap : Nat) (K : Nat → Int) (N V : Nat → ByteArray) (sec key : ByteArray) (w : World) (h : Recs w ao n K N V) :
    Calls Yavv.prog 4 #[.slice ao n cap, .string sec, .string key] w fun e w' => e = .returned (.bool true) ∧ Below w.heap.size w w' := by
  by_cases hn : n ≤ 1024
  · rcases h with rfl | ⟨b, off, rfl, hb, hc⟩
    · exact law_zero ao cap sec key w
    · exact law_pos b off n cap K N V sec key hn w hb hc
  · exact law_long ao n cap sec key w hn
end Go.Proofs.Ymwhav
