/-
  THE WALKS FOR LawS930012QABWhole, third text: 'find' at every slice, 'Lookup' (13), 'zzs930012qabmodel' (14), 'zzs930012qabname' (8).
-/
import Derived.Test.YmwhavFind
namespace Go.Proofs.Ymwhav
open Go.RowKit

set_option maxHeartbeats 400000 in
theorem find_zero (ao : Option Addr) (cap : Nat) (sec key : ByteArray) (w : World) :
    Calls Yavv.prog 19 #[.slice ao 0 cap, .string sec, .string key] w fun e w' => ∃ x : Int, e = .returned (.tuple #[.int .i64 (-1), .int .i64 x]) ∧ Below w.heap.size w w' := by
  cases hse : sec.toList.isEmpty
  all_goals
    go_enter Yavv.func19, Yavv.ntmps19
    go_wp2
    go_loopg [8, 9, 17] 0 (fun g h e j wr => ∃ (x : Int), g = 0 ∧ j = .int .i64 0 ∧ e = .int .i64 x ∧ h = .int .i64 (-1) ∧ wr = w)
    case atStart => exact ⟨_, rfl, rfl, rfl, rfl, rfl⟩
    case round =>
      obtain ⟨x, -, rfl, rfl, rfl, rfl⟩ := hrel
      go_wp2
      go_ret2
      exact ⟨x, rfl, Below.refl _ _⟩

theorem find_any (ao : Option Addr) (n cap : Nat) (K : Nat → Int) (N V : Nat → ByteArray) (sec key : ByteArray) (hn : n ≤ 1024) (w : World) (h : Recs w ao n K N V) :
    Calls Yavv.prog 19 #[.slice ao n cap, .string sec, .string key] w fun e w' => ∃ x : Int, e = .returned (.tuple #[.int .i64 (PlainB.hit K N sec key n), .int .i64 x]) ∧ Below w.heap.size w w' := by
  rcases h with rfl | ⟨b, off, rfl, hb, hc⟩
  · exact find_zero ao cap sec key w
  · exact find_pos b off n cap K N V sec key hn w hb hc

/-! ### Lookup -/
theorem find_no (ao : Option Addr) (n cap : Nat) (K : Nat → Int) (N V : Nat → ByteArray) (sec key : ByteArray) (hn : n ≤ 1024) (w : World) (h : Recs w ao n K N V) (hh : PlainB.hit K N sec key n = -1) :
    Calls Yavv.prog 19 #[.slice ao n cap, .string sec, .string key] w fun e w' => ∃ x : Int, e = .returned (.tuple #[.int .i64 (-1), .int .i64 x]) ∧ Below w.heap.size w w' := by
  have hf := find_any ao n cap K N V sec key hn w h
  rw [hh] at hf
  exact hf

theorem find_yes (b off n cap : Nat) (K : Nat → Int) (N V : Nat → ByteArray) (sec key : ByteArray) (hn : n ≤ 1024) (w : World) (hb : b < w.heap.size) (hc : Row w b off n K N V) (k : Nat) (hh : PlainB.hit K N sec key n = (k : Int)) :
    Calls Yavv.prog 19 #[.slice (some ⟨b, off, none⟩) n cap, .string sec, .string key] w fun e w' => ∃ x : Int, e = .returned (.tuple #[.int .i64 (k : Int), .int .i64 x]) ∧ Below w.heap.size w w' := by
  have hf := find_pos b off n cap K N V sec key hn w hb hc
  rw [hh] at hf
  exact hf

set_option maxHeartbeats 400000 in
theorem look_no (ao : Option Addr) (n cap : Nat) (K : Nat → Int) (N V : Nat → ByteArray) (sec key : ByteArray) (hn : n ≤ 1024) (w : World) (h : Recs w ao n K N V) (hh : PlainB.hit K N sec key n = -1) :
    Calls Yavv.prog 13 #[.slice ao n cap, .string sec, .string key] w fun e w' => e = .returned (.tuple #[.string ⟨#[]⟩, .bool false]) ∧ Below w.heap.size w w' := by
  have HH : Hid (PlainB.hit K N sec key n = -1) := hh
  clear hh
  go_enter Yavv.func13, Yavv.ntmps13
  go_wp2_with fail
  refine (find_no ao n cap K N V sec key hn w h HH.out).mono ?_
  rintro e w' ⟨x, rfl, hb⟩
  go_wp2
  go_ret2
  exact ⟨rfl, hb⟩

set_option maxHeartbeats 400000 in
theorem look_yes (b off n cap : Nat) (K : Nat → Int) (N V : Nat → ByteArray) (sec key : ByteArray) (hn : n ≤ 1024) (w : World) (hb : b < w.heap.size) (hc : Row w b off n K N V) (k : Nat) (hk : k < n) (hh : PlainB.hit K N sec key n = (k : Int)) :
    Calls Yavv.prog 13 #[.slice (some ⟨b, off, none⟩) n cap, .string sec, .string key] w fun e w' => e = .returned (.tuple #[.string (V k), .bool true]) ∧ Below w.heap.size w w' := by
  have HH : Hid (PlainB.hit K N sec key n = (k : Int)) := hh
  clear hh
  go_enter Yavv.func13, Yavv.ntmps13
  go_wp2_with fail
  refine (find_yes b off n cap K N V sec key hn w hb hc k HH.out).mono ?_
  rintro e w' ⟨x, rfl, hbel⟩
  obtain ⟨c0, c1, c2⟩ := (hc.below hbel hb) k hk
  go_wp2
  go_ret2
  exact ⟨rfl, hbel⟩

/-! ### The model -/
set_option maxHeartbeats 400000 in
theorem model_zero (ao : Option Addr) (cap : Nat) (sec key : ByteArray) (w : World) :
    Calls Yavv.prog 14 #[.slice ao 0 cap, .string sec, .string key] w fun e w' => e = .returned (.tuple #[.string ⟨#[]⟩, .bool false]) ∧ w' = w := by
  go_enter Yavv.func14, Yavv.ntmps14
  go_wp2
  go_loop [8] (fun j => j = .int .i64 (-1)) (fun _ => 0)
  case atStart => rfl
  case round =>
    subst hrel
    go_wp2
    go_ret2
    exact ⟨rfl, rfl⟩

/-- What the model answers: what the last hit holds. -/
def ans (V : Nat → ByteArray) (h : Int) : ByteArray × Bool := if h = -1 then (⟨#[]⟩, false) else (V h.toNat, true)

theorem ans_no {V : Nat → ByteArray} {K : Nat → Int} {N : Nat → ByteArray} {sec key : ByteArray} {n : Nat} (h : PlainB.hit K N sec key 0 = PlainB.hit K N sec key n) :
    Ending.returned (.tuple #[.string ⟨#[]⟩, .bool false]) = .returned (.tuple #[.string (ans V (PlainB.hit K N sec key n)).1, .bool (ans V (PlainB.hit K N sec key n)).2]) := by
  rw [← h]; rfl

theorem ans_yes {V : Nat → ByteArray} {K : Nat → Int} {N : Nat → ByteArray} {sec key : ByteArray} {n k : Nat} (h : PlainB.hit K N sec key (k + 1) = PlainB.hit K N sec key n) (hy : PlainB.hit K N sec key (k + 1) = (k : Int)) :
    Ending.returned (.tuple #[.string (V k), .bool true]) = .returned (.tuple #[.string (ans V (PlainB.hit K N sec key n)).1, .bool (ans V (PlainB.hit K N sec key n)).2]) := by
  rw [← h, hy]
  have : ¬ (k : Int) = -1 := by omega
  simp [ans, this]

set_option maxHeartbeats 1000000 in
theorem model_pos (b off n cap : Nat) (K : Nat → Int) (N V : Nat → ByteArray) (sec key : ByteArray) (hn : n ≤ 1024) (w : World) (hc : Row w b off n K N V) :
    Calls Yavv.prog 14 #[.slice (some ⟨b, off, none⟩) n cap, .string sec, .string key] w fun e w' => e = .returned (.tuple #[.string (ans V (PlainB.hit K N sec key n)).1, .bool (ans V (PlainB.hit K N sec key n)).2]) ∧ w' = w := by
  go_enter Yavv.func14, Yavv.ntmps14
  go_wp2
  go_loopg [8] n (fun g j wr => g ≤ n ∧ j = .int .i64 ((g : Int) - 1) ∧ PlainB.hit K N sec key g = PlainB.hit K N sec key n ∧ wr = w)
  case atStart => exact ⟨Nat.le_refl _, by go_num, rfl, rfl⟩
  case round =>
    obtain ⟨hk, rfl, hh, rfl⟩ := hrel
    have HH : Hid (PlainB.hit K N sec key gk = PlainB.hit K N sec key n) := hh
    clear hh
    cases gk with
    | zero =>
      go_wp2
      go_ret2
      exact ⟨ans_no HH.out, rfl⟩
    | succ k =>
      obtain ⟨c0, c1, c2⟩ := hc k (by omega)
      go_wp2_with (go_at_call 20; refine (sec_any b off n cap K N V k (by omega) hn _ hc).mono ?_; rintro e w' ⟨rfl, rfl⟩)
      · have h3 : K k = 3 := by assumption
        have hn3 : (N k).toList = key.toList := by assumption
        have hs : ((PlainB.cur K N (k + 1)).toList == sec.toList) = true := by assumption
        go_ret2
        exact ⟨ans_yes HH.out (PlainB.hit_yes hs (by simpa using h3) (by simpa using hn3)), rfl⟩
      · have hs : ((PlainB.cur K N (k + 1)).toList == sec.toList) = false := by assumption
        go_roundg k
        case measure => omega
        case rel => exact ⟨by omega, by go_num, (PlainB.hit_no1 hs).symm.trans HH.out, rfl⟩
      · have hn3 : ¬ (N k).toList = key.toList := by assumption
        go_roundg k
        case measure => omega
        case rel => exact ⟨by omega, by go_num, (PlainB.hit_no3 (by simpa using hn3)).symm.trans HH.out, rfl⟩
      · have h3 : ¬ K k = 3 := by assumption
        go_roundg k
        case measure => omega
        case rel => exact ⟨by omega, by go_num, (PlainB.hit_no2 (by simpa using h3)).symm.trans HH.out, rfl⟩
end Go.Proofs.Ymwhav
