/-
  THE WALKS FOR LawS930012QABWhole, second text: 'find' (function 19).
-/
import Derived.Test.YmwhavSec
import Derived.Deep.LoopGhost
namespace Go.Proofs.Ymwhav
open Go.RowKit

section
variable {K : Nat → Int} {N : Nat → ByteArray} {sec key : ByteArray} {k : Nat}
open PlainB

theorem f_yes_sec (h2 : (K k == 2) = true) (h3 : K k = 3) : hit K N sec key (k + 1) = (k : Int) := by
  rw [h3] at h2; exact absurd h2 (by decide)
theorem f_no3_sec (h3 : ((N k).toList == key.toList) = false) : hit K N sec key (k + 1) = hit K N sec key k := hit_no3 h3
theorem f_no2 (h3 : ¬ K k = 3) : hit K N sec key (k + 1) = hit K N sec key k := hit_no2 (by simpa using h3)
theorem f_no1_sec (h2 : (K k == 2) = true) (hs : ((N k).toList == sec.toList) = false) : hit K N sec key (k + 1) = hit K N sec key k :=
  hit_no1 (by rw [cur_sec h2]; exact hs)
theorem f_no1_same (h2 : (K k == 2) = false) (hs : ((cur K N k).toList == sec.toList) = false) : hit K N sec key (k + 1) = hit K N sec key k :=
  hit_no1 (by rw [cur_same h2]; exact hs)
theorem f_yes_same (h2 : (K k == 2) = false) (hs : ((cur K N k).toList == sec.toList) = true) (h3 : K k = 3) (hk : ((N k).toList == key.toList) = true) : hit K N sec key (k + 1) = (k : Int) :=
  hit_yes (by rw [cur_same h2]; exact hs) (by simpa using h3) hk
end

theorem ret2_int {a a' b b' : Int} (h : a = a') (h' : b = b') : Ending.returned (.tuple #[.int .i64 a, .int .i64 b]) = .returned (.tuple #[.int .i64 a', .int .i64 b']) := by rw [h, h']

set_option maxHeartbeats 1000000 in
theorem find_pos (b off n cap : Nat) (K : Nat → Int) (N V : Nat → ByteArray) (sec key : ByteArray) (hn : n ≤ 1024) (w : World) (hb : b < w.heap.size) (hc : Row w b off n K N V) :
    Calls Yavv.prog 19 #[.slice (some ⟨b, off, none⟩) n cap, .string sec, .string key] w fun e w' => ∃ x : Int, e = .returned (.tuple #[.int .i64 (PlainB.hit K N sec key n), .int .i64 x]) ∧ Below w.heap.size w w' := by
  cases hse : sec.toList.isEmpty
  all_goals
    go_enter Yavv.func19, Yavv.ntmps19
    go_wp2
    go_loopg [8, 9, 10, 17] n (fun g h e c j wr => ∃ (k : Nat) (x : Int), g + k = n ∧ j = .int .i64 (k : Int) ∧ e = .int .i64 x ∧ h = .int .i64 (PlainB.hit K N sec key k) ∧ c = .string (PlainB.cur K N k) ∧ Below w.heap.size w wr)
    case atStart => exact ⟨0, _, rfl, rfl, rfl, rfl, rfl, Below.refl _ _⟩
    case round =>
      obtain ⟨k, x, hk, rfl, rfl, rfl, rfl, hbel⟩ := hrel
      by_cases hlt : k < n
      · obtain ⟨c0, c1, c2⟩ := (hc.below hbel hb) k hlt
        go_wp2
        all_goals
          go_roundg (gk - 1)
          case measure => omega
          case rel =>
            refine ⟨k + 1, _, by omega, by go_num, rfl, congrArg (Value.int .i64) ?_, congrArg Value.string ?_, hbel.alloc hbel.size _⟩
            ·
              first
                | (have h3 : ¬ K k = 3 := by assumption
                   exact (f_no2 h3).symm)
                | (have h3 : ((N k).toList == key.toList) = false := by assumption
                   exact (f_no3_sec h3).symm)
                | (have h2 : (K k == 2) = true := by assumption
                   have hs : ((N k).toList == sec.toList) = false := by assumption
                   exact (f_no1_sec h2 hs).symm)
                | (have h2 : (K k == 2) = false := by assumption
                   have hs : ((PlainB.cur K N k).toList == sec.toList) = false := by assumption
                   exact (f_no1_same h2 hs).symm)
                | (have h2 : (K k == 2) = true := by assumption
                   have h3 : K k = 3 := by assumption
                   exact (f_yes_sec h2 h3).symm)
                | (have h2 : (K k == 2) = false := by assumption
                   have hs : ((PlainB.cur K N k).toList == sec.toList) = true := by assumption
                   have h3 : K k = 3 := by assumption
                   have hk : ((N k).toList == key.toList) = true := by assumption
                   exact (f_yes_same h2 hs h3 hk).symm)
            ·
              first
                | (have h2 : (K k == 2) = true := by assumption
                   exact (PlainB.cur_sec h2).symm)
                | (have h2 : (K k == 2) = false := by assumption
                   exact (PlainB.cur_same h2).symm)
      · have hkn : k = n := by omega
        have HK : Hid (k = n) := hkn
        clear hkn
        go_wp2
        go_ret2
        exact ⟨x, ret2_int (by rw [HK.out]) rfl, hbel⟩
end Go.Proofs.Ymwhav
