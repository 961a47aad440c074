/-
  THE WALKS FOR LawS930012QAAWhole, fifth text: 'Valid' (9).
-/
import Derived.Test.YmwhavTrim
namespace Go.Proofs.Ymwhav
open Go.RowKit

/-! ### A comment's line: a semicolon ahead of the text -/
theorem semi_size (v : ByteArray) : ((⟨#[59]⟩ : ByteArray) ++ v).size = v.size + 1 := by
  rw [ByteArray.size_append]
  show 1 + v.size = v.size + 1
  omega

theorem semi_zero (v : ByteArray) (h : 0 < ((⟨#[59]⟩ : ByteArray) ++ v).size) : ((⟨#[59]⟩ : ByteArray) ++ v)[0] = 59 := by
  rw [ByteArray.getElem_append_left (by show 0 < 1; omega)]
  rfl

theorem semi_succ (v : ByteArray) (i : Nat) (h : i < v.size) (h' : i + 1 < ((⟨#[59]⟩ : ByteArray) ++ v).size) : ((⟨#[59]⟩ : ByteArray) ++ v)[i + 1] = v[i] := by
  rw [ByteArray.getElem_append_right (by show 1 ≤ i + 1; omega)]
  congr 1

theorem has_semi (v : ByteArray) : has ((⟨#[59]⟩ : ByteArray) ++ v) 10 ↔ has v 10 := by
  constructor
  · rintro ⟨i, hi, h⟩
    cases i with
    | zero => rw [semi_zero v hi] at h; exact absurd h (by decide)
    | succ i =>
      have hi' : i < v.size := by rw [semi_size] at hi; omega
      rw [semi_succ v i hi' hi] at h
      exact ⟨i, hi', h⟩
  · rintro ⟨i, hi, h⟩
    refine ⟨i + 1, by rw [semi_size]; omega, ?_⟩
    rw [semi_succ v i hi]
    exact h

/-- The last byte of v is a blank. -/
def lastBlank (v : ByteArray) : Prop := ∃ h : 0 < v.size, blankB (v[v.size - 1].toNat : Int)

theorem semi_last (v : ByteArray) (h : ((⟨#[59]⟩ : ByteArray) ++ v).size - 1 < ((⟨#[59]⟩ : ByteArray) ++ v).size) : blankB ((((⟨#[59]⟩ : ByteArray) ++ v)[((⟨#[59]⟩ : ByteArray) ++ v).size - 1]).toNat : Int) ↔ lastBlank v := by
  have hs := semi_size v
  by_cases h0 : 0 < v.size
  · have e : ((⟨#[59]⟩ : ByteArray) ++ v).size - 1 = (v.size - 1) + 1 := by omega
    simp only [e]
    rw [semi_succ v (v.size - 1) (by omega)]
    exact ⟨fun hb => ⟨h0, hb⟩, fun ⟨_, hb⟩ => hb⟩
  · have e : ((⟨#[59]⟩ : ByteArray) ++ v).size - 1 = 0 := by omega
    simp only [e]
    rw [semi_zero v (by omega)]
    constructor
    · rintro (hb | hb | hb) <;> exact absurd hb (by decide)
    · rintro ⟨hb, _⟩; exact absurd hb h0

theorem extract_all (s : ByteArray) : s.extract 0 s.size = s := by
  simp

theorem extract_less (s : ByteArray) (h : Nat) (hl : h < s.size) : ((s.extract 0 h).toList == s.toList) = false := by
  rw [beq_eq_false_iff_ne]
  intro he
  have := congrArg List.length he
  rw [ByteArray.toList_eq, ByteArray.toList_eq] at this
  have e1 : (s.extract 0 h).data.toList.length = (s.extract 0 h).size := rfl
  have e2 : s.data.toList.length = s.size := rfl
  rw [e1, e2, ByteArray.size_extract] at this
  omega

theorem trim_keep (v : ByteArray) (w : World) (hs : v.size ≤ 4096) (h : ¬ lastBlank v) :
    Calls Yavv.prog 17 #[.string ((⟨#[59]⟩ : ByteArray) ++ v)] w fun e w' => e = .returned (.string ((⟨#[59]⟩ : ByteArray) ++ v)) ∧ w' = w := by
  have h1 := semi_size v
  refine (trim_any ((⟨#[59]⟩ : ByteArray) ++ v) w (by omega) (by omega) (by rw [semi_zero v (by omega)]; rintro (hb | hb | hb) <;> exact absurd hb (by decide))).mono ?_
  rintro e w' ⟨k, hk, hiff, rfl, rfl⟩
  have : k = ((⟨#[59]⟩ : ByteArray) ++ v).size := hiff.2 (fun hb => h ((semi_last v (by omega)).1 hb))
  rw [this, extract_all]
  exact ⟨rfl, rfl⟩

theorem trim_cut (v : ByteArray) (w : World) (hs : v.size ≤ 4096) (h : lastBlank v) :
    Calls Yavv.prog 17 #[.string ((⟨#[59]⟩ : ByteArray) ++ v)] w fun e w' => ∃ t : ByteArray, (t.toList == ((⟨#[59]⟩ : ByteArray) ++ v).toList) = false ∧ e = .returned (.string t) ∧ w' = w := by
  have h1 := semi_size v
  refine (trim_any ((⟨#[59]⟩ : ByteArray) ++ v) w (by omega) (by omega) (by rw [semi_zero v (by omega)]; rintro (hb | hb | hb) <;> exact absurd hb (by decide))).mono ?_
  rintro e w' ⟨k, hk, hiff, rfl, rfl⟩
  have hne : k ≠ ((⟨#[59]⟩ : ByteArray) ++ v).size := fun e => hiff.1 e ((semi_last v (by omega)).2 h)
  exact ⟨_, extract_less _ k (by omega), rfl, rfl⟩

/-! ### Valid, kind by kind -/
set_option maxHeartbeats 400000 in
theorem valid0 (n v : ByteArray) (w : World) :
    Calls Yavv.prog 9 #[.agg #[.int .i64 0, .string n, .string v]] w fun e w' => e = .returned (.bool (n.toList.isEmpty && v.toList.isEmpty)) ∧ Below w.heap.size w w' := by
  cases hn : n.toList.isEmpty
  all_goals
    cases hv : v.toList.isEmpty
    all_goals
      go_enter Yavv.func9, Yavv.ntmps9
      go_wp2
      go_ret
      exact ⟨rfl, (Below.refl _ _).alloc (Nat.le_refl _) _⟩

set_option maxHeartbeats 400000 in
theorem valid1_name (n v : ByteArray) (w : World) (hn : n.toList.isEmpty = false) (hv : v.size ≤ 4096) :
    Calls Yavv.prog 9 #[.agg #[.int .i64 1, .string n, .string v]] w fun e w' => e = .returned (.bool false) ∧ Below w.heap.size w w' := by
  go_enter Yavv.func9, Yavv.ntmps9
  go_wp2
  go_ret
  exact ⟨rfl, (Below.refl _ _).alloc (Nat.le_refl _) _⟩

set_option maxHeartbeats 400000 in
theorem valid1_nl (n v : ByteArray) (w : World) (hn : n.toList.isEmpty = true) (hv : v.size ≤ 4096) (h : has v 10) :
    Calls Yavv.prog 9 #[.agg #[.int .i64 1, .string n, .string v]] w fun e w' => e = .returned (.bool false) ∧ Below w.heap.size w w' := by
  have H : Hid (has ((⟨#[59]⟩ : ByteArray) ++ v) 10) := (has_semi v).2 h
  clear h
  have hz : Hid (((⟨#[59]⟩ : ByteArray) ++ v).size ≤ 5000) := by have := semi_size v; show _ ≤ _; omega
  go_enter Yavv.func9, Yavv.ntmps9
  go_wp2_with fail
  refine (ix_yes _ _ _ hz.out H.out).mono ?_
  rintro e w1 ⟨r, hr, rfl, rfl⟩
  go_wp2
  go_ret
  exact ⟨rfl, (Below.refl _ _).alloc (Nat.le_refl _) _⟩

set_option maxHeartbeats 400000 in
theorem valid1_blank (n v : ByteArray) (w : World) (hn : n.toList.isEmpty = true) (hv : v.size ≤ 4096) (h : ¬ has v 10) (hl : lastBlank v) :
    Calls Yavv.prog 9 #[.agg #[.int .i64 1, .string n, .string v]] w fun e w' => e = .returned (.bool false) ∧ Below w.heap.size w w' := by
  have H : Hid (¬ has ((⟨#[59]⟩ : ByteArray) ++ v) 10) := fun hh => h ((has_semi v).1 hh)
  have HL : Hid (lastBlank v) := hl
  clear h hl
  have hz : Hid (((⟨#[59]⟩ : ByteArray) ++ v).size ≤ 5000) := by have := semi_size v; show _ ≤ _; omega
  go_enter Yavv.func9, Yavv.ntmps9
  go_wp2_with fail
  refine (ix_no _ _ _ hz.out H.out).mono ?_
  rintro e w1 ⟨r, hr, rfl, rfl⟩
  go_wp2_with fail
  refine (trim_cut v _ hv HL.out).mono ?_
  rintro e w1 ⟨t, ht, rfl, rfl⟩
  go_wp2
  go_ret
  exact ⟨rfl, (Below.refl _ _).alloc (Nat.le_refl _) _⟩

set_option maxHeartbeats 400000 in
theorem valid1_yes (n v : ByteArray) (w : World) (hn : n.toList.isEmpty = true) (hv : v.size ≤ 4096) (h : ¬ has v 10) (hl : ¬ lastBlank v) :
    Calls Yavv.prog 9 #[.agg #[.int .i64 1, .string n, .string v]] w fun e w' => e = .returned (.bool true) ∧ Below w.heap.size w w' := by
  have H : Hid (¬ has ((⟨#[59]⟩ : ByteArray) ++ v) 10) := fun hh => h ((has_semi v).1 hh)
  have HL : Hid (¬ lastBlank v) := hl
  clear h hl
  have hz : Hid (((⟨#[59]⟩ : ByteArray) ++ v).size ≤ 5000) := by have := semi_size v; show _ ≤ _; omega
  go_enter Yavv.func9, Yavv.ntmps9
  go_wp2_with fail
  refine (ix_no _ _ _ hz.out H.out).mono ?_
  rintro e w1 ⟨r, hr, rfl, rfl⟩
  go_wp2_with fail
  refine (trim_keep v _ hv HL.out).mono ?_
  rintro e w1 ⟨rfl, rfl⟩
  go_wp2
  go_ret
  exact ⟨rfl, (Below.refl _ _).alloc (Nat.le_refl _) _⟩

set_option maxHeartbeats 400000 in
theorem valid2_no (n v : ByteArray) (w : World) (hn : n.size ≤ 4096) (h : ¬ good n) :
    Calls Yavv.prog 9 #[.agg #[.int .i64 2, .string n, .string v]] w fun e w' => e = .returned (.bool false) ∧ Below w.heap.size w w' := by
  have H : Hid (¬ good n) := h
  clear h
  go_enter Yavv.func9, Yavv.ntmps9
  go_wp2_with fail
  refine (vname_no n _ hn H.out).mono ?_
  rintro e w1 ⟨rfl, rfl⟩
  go_wp2
  go_ret
  exact ⟨rfl, (Below.refl _ _).alloc (Nat.le_refl _) _⟩

set_option maxHeartbeats 400000 in
theorem valid2_yes (n v : ByteArray) (w : World) (hn : n.size ≤ 4096) (h : good n) :
    Calls Yavv.prog 9 #[.agg #[.int .i64 2, .string n, .string v]] w fun e w' => e = .returned (.bool v.toList.isEmpty) ∧ Below w.heap.size w w' := by
  have H : Hid (good n) := h
  clear h
  go_enter Yavv.func9, Yavv.ntmps9
  go_wp2_with fail
  refine (vname_yes n _ hn H.out).mono ?_
  rintro e w1 ⟨rfl, rfl⟩
  go_wp2
  go_ret
  exact ⟨rfl, (Below.refl _ _).alloc (Nat.le_refl _) _⟩

set_option maxHeartbeats 400000 in
theorem valid3_no (n v : ByteArray) (w : World) (hn : n.size ≤ 4096) (h : ¬ good n) :
    Calls Yavv.prog 9 #[.agg #[.int .i64 3, .string n, .string v]] w fun e w' => e = .returned (.bool false) ∧ Below w.heap.size w w' := by
  have H : Hid (¬ good n) := h
  clear h
  go_enter Yavv.func9, Yavv.ntmps9
  go_wp2_with fail
  refine (vname_no n _ hn H.out).mono ?_
  rintro e w1 ⟨rfl, rfl⟩
  go_wp2
  go_ret
  exact ⟨rfl, (Below.refl _ _).alloc (Nat.le_refl _) _⟩

set_option maxHeartbeats 400000 in
theorem valid3_yes (n v : ByteArray) (w : World) (hn : n.size ≤ 4096) (h : good n) :
    Calls Yavv.prog 9 #[.agg #[.int .i64 3, .string n, .string v]] w fun e w' => e = .returned (.bool true) ∧ Below w.heap.size w w' := by
  have H : Hid (good n) := h
  clear h
  go_enter Yavv.func9, Yavv.ntmps9
  go_wp2_with fail
  refine (vname_yes n _ hn H.out).mono ?_
  rintro e w1 ⟨rfl, rfl⟩
  go_wp2
  go_ret
  exact ⟨rfl, (Below.refl _ _).alloc (Nat.le_refl _) _⟩

set_option maxHeartbeats 400000 in
theorem valid_other (k : Int) (n v : ByteArray) (w : World) (h0 : (k == 0) = false) (h1 : (k == 1) = false) (h2 : (k == 2) = false) (h3 : (k == 3) = false) :
    Calls Yavv.prog 9 #[.agg #[.int .i64 k, .string n, .string v]] w fun e w' => e = .returned (.bool false) ∧ Below w.heap.size w w' := by
  go_enter Yavv.func9, Yavv.ntmps9
  go_wp2
  go_ret
  exact ⟨rfl, (Below.refl _ _).alloc (Nat.le_refl _) _⟩
end Go.Proofs.Ymwhav
