/-
  THE WALKS FOR LawS930012QABWhole: 'zzs930012qabcheck' (7): it answers true at every list of at most 1024 records.
-/
import Derived.Test.YmwhavCopy
namespace Go.Proofs.Ymwhav
open Go.RowKit

theorem model_no (ao : Option Addr) (n cap : Nat) (K : Nat → Int) (N V : Nat → ByteArray) (sec key : ByteArray) (hn : n ≤ 1024) (w : World) (h : Recs w ao n K N V) (hh : PlainB.hit K N sec key n = -1) :
    Calls Yavv.prog 14 #[.slice ao n cap, .string sec, .string key] w fun e w' => e = .returned (.tuple #[.string ⟨#[]⟩, .bool false]) ∧ w' = w := by
  rcases h with rfl | ⟨b, off, rfl, _, hc⟩
  · exact model_zero ao cap sec key w
  · have := model_pos b off n cap K N V sec key hn w hc
    rw [hh] at this
    exact this

theorem model_yes (b off n cap : Nat) (K : Nat → Int) (N V : Nat → ByteArray) (sec key : ByteArray) (hn : n ≤ 1024) (w : World) (hc : Row w b off n K N V) (k : Nat) (hh : PlainB.hit K N sec key n = (k : Int)) :
    Calls Yavv.prog 14 #[.slice (some ⟨b, off, none⟩) n cap, .string sec, .string key] w fun e w' => e = .returned (.tuple #[.string (V k), .bool true]) ∧ w' = w := by
  have := model_pos b off n cap K N V sec key hn w hc
  rw [hh] at this
  have hk : ¬ (k : Int) = -1 := by omega
  simpa [ans, hk] using this

/-- 'make' and 'copy': the copy lies in a new row. -/
theorem copied (ao : Option Addr) (n cap : Nat) (K : Nat → Int) (N V : Nat → ByteArray) (w : World) (h : Recs w ao n K N V) :
    ∃ w', (∀ ty : TypeId, (Builtin.copy_ #[27, 27] ty #[.slice (some ⟨w.heap.size, 0, none⟩) n n, .slice ao n cap]).run Yavv.prog (w.alloc (.cells (blank n) 23)) = .ok (goInt n) w') ∧ w.heap.size < w'.heap.size ∧ Below w.heap.size w w' ∧ Row w' w.heap.size 0 n K N V := by
  have hb0 : Below w.heap.size w (w.alloc (.cells (blank n) 23)) := (Below.refl _ _).alloc (Nat.le_refl _) _
  obtain ⟨w', h1, h2, h3, h4⟩ := run_copy_recs w.heap.size n cap ao K N V (w.alloc (.cells (blank n) 23)) (blank n) (size_blank n) (by show (w.heap.push _)[w.heap.size]? = _; simp) (h.below hb0)
  exact ⟨w', h1, by rw [h2]; simp, hb0.trans h3, h4⟩

set_option maxHeartbeats 400000 in
theorem check_no (ao : Option Addr) (n cap : Nat) (K : Nat → Int) (N V : Nat → ByteArray) (sec key : ByteArray) (hn : n ≤ 1024) (w : World) (h : Recs w ao n K N V) (hh : PlainB.hit K N sec key n = -1) :
    Calls Yavv.prog 7 #[.slice ao n cap, .string sec, .string key] w fun e w' => e = .returned (.bool true) ∧ Below w.heap.size w w' := by
  have HH : Hid (PlainB.hit K N sec key n = -1) := hh
  clear hh
  have hmk := run_make_recs n hn
  obtain ⟨w2, hcp, hs2, hb2, hr2⟩ := copied ao n cap K N V w h
  go_enter Yavv.func7, Yavv.ntmps7
  go_wp2_with fail
  refine (look_no (some ⟨w.heap.size, 0, none⟩) n n K N V sec key hn w2 (.inr ⟨_, _, rfl, hs2, hr2⟩) HH.out).mono ?_
  rintro e w3 ⟨rfl, hb3⟩
  have hb23 : Below w.heap.size w w3 := hb2.trans (hb3.mono hb2.size)
  have hs3 : w.heap.size < w3.heap.size := Nat.lt_of_lt_of_le hs2 hb3.size
  have hr3 : Row w3 w.heap.size 0 n K N V := hr2.below hb3 hs2
  clear hmk hcp
  go_wp2_with fail
  refine (model_no ao n cap K N V sec key hn w3 (h.below hb23) HH.out).mono ?_
  rintro e w4 ⟨rfl, rfl⟩
  go_wp2_with fail
  refine (same_any (some ⟨w.heap.size, 0, none⟩) ao n n cap K N V hn _ (.inr ⟨_, _, rfl, hs3, hr3⟩) (h.below hb23)).mono ?_
  rintro e w5 ⟨rfl, hb5⟩
  go_wp2
  go_ret
  exact ⟨rfl, hb23.trans (hb5.mono hb23.size)⟩

set_option maxHeartbeats 400000 in
theorem check_yes (b off n cap : Nat) (K : Nat → Int) (N V : Nat → ByteArray) (sec key : ByteArray) (hn : n ≤ 1024) (w : World) (hb : b < w.heap.size) (hc : Row w b off n K N V) (k : Nat) (hk : k < n) (hh : PlainB.hit K N sec key n = (k : Int)) :
    Calls Yavv.prog 7 #[.slice (some ⟨b, off, none⟩) n cap, .string sec, .string key] w fun e w' => e = .returned (.bool true) ∧ Below w.heap.size w w' := by
  have HH : Hid (PlainB.hit K N sec key n = (k : Int)) := hh
  clear hh
  have hmk := run_make_recs n hn
  obtain ⟨w2, hcp, hs2, hb2, hr2⟩ := copied (some ⟨b, off, none⟩) n cap K N V w (.inr ⟨_, _, rfl, hb, hc⟩)
  go_enter Yavv.func7, Yavv.ntmps7
  go_wp2_with fail
  refine (look_yes w.heap.size 0 n n K N V sec key hn w2 hs2 hr2 k hk HH.out).mono ?_
  rintro e w3 ⟨rfl, hb3⟩
  have hb23 : Below w.heap.size w w3 := hb2.trans (hb3.mono hb2.size)
  have hs3 : w.heap.size < w3.heap.size := Nat.lt_of_lt_of_le hs2 hb3.size
  have hr3 : Row w3 w.heap.size 0 n K N V := hr2.below hb3 hs2
  have hc3 : Row w3 b off n K N V := hc.below hb23 hb
  clear hmk hcp
  go_wp2_with fail
  refine (model_yes b off n cap K N V sec key hn w3 hc3 k HH.out).mono ?_
  rintro e w4 ⟨rfl, rfl⟩
  go_wp2_with fail
  refine (same_pos w.heap.size 0 b off n n cap K N V hn _ hs3 (Nat.lt_of_lt_of_le hb hb23.size) hr3 hc3).mono ?_
  rintro e w5 ⟨rfl, hb5⟩
  go_wp2
  go_ret
  exact ⟨rfl, hb23.trans (hb5.mono hb23.size)⟩

theorem check_any (ao : Option Addr) (n cap : Nat) (K : Nat → Int) (N V : Nat → ByteArray) (sec key : ByteArray) (hn : n ≤ 1024) (w : World) (h : Recs w ao n K N V) :
    Calls Yavv.prog 7 #[.slice ao n cap, .string sec, .string key] w fun e w' => e = .returned (.bool true) ∧ Below w.heap.size w w' := by
  obtain ⟨h1, h2⟩ := PlainB.hit_range K N sec key n
  by_cases hh : PlainB.hit K N sec key n = -1
  · exact check_no ao n cap K N V sec key hn w h hh
  · rcases h with rfl | ⟨b, off, rfl, hb, hc⟩
    · exact absurd rfl hh
    · obtain ⟨k, hk⟩ := Int.eq_ofNat_of_zero_le (show 0 ≤ PlainB.hit K N sec key n by omega)
      exact check_yes b off n cap K N V sec key hn w hb hc k (by omega) hk
end Go.Proofs.Ymwhav
