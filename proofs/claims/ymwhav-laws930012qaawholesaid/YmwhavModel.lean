/-
  THE WALKS FOR LawS930012QAAWhole, seventh text: the model, 'zzs930012qaamodel' (6).
-/
import Derived.Test.YmwhavPrint
import Derived.Test.YmwhavQesc
namespace Go.Proofs.Ymwhav
open Go.RowKit

set_option maxHeartbeats 400000 in
theorem model0 (n v : ByteArray) : ModelIs 0 n v ⟨#[]⟩ (n.toList.isEmpty && v.toList.isEmpty) := by
  intro w
  cases hn : n.toList.isEmpty
  all_goals
    cases hv : v.toList.isEmpty
    all_goals
      go_enter Yavv.func6, Yavv.ntmps6
      go_wp2
      go_ret2
      exact ⟨rfl, (Below.refl _ _).alloc (Nat.le_refl _) _⟩

set_option maxHeartbeats 400000 in
theorem model1_name (n v : ByteArray) (hn : n.toList.isEmpty = false) : ModelIs 1 n v ⟨#[]⟩ false := by
  intro w
  go_enter Yavv.func6, Yavv.ntmps6
  go_wp2
  go_ret2
  exact ⟨rfl, (Below.refl _ _).alloc (Nat.le_refl _) _⟩

set_option maxHeartbeats 1000000 in
theorem model1_nl (n v : ByteArray) (hn : n.toList.isEmpty = true) (hv : v.size ≤ 4096) (h : has v 10) : ModelIs 1 n v ⟨#[]⟩ false := by
  intro w
  have H : Hid (has v 10) := h
  clear h
  go_enter Yavv.func6, Yavv.ntmps6
  go_wp2
  go_loopg [5] v.size (fun g i wr => ∃ k : Nat, g + k = v.size ∧ i = .int .i64 (k : Int) ∧ Below w.heap.size w wr ∧ ∀ (j : Nat) (hj : j < v.size), j < k → (v[j].toNat : Int) ≠ 10)
  case atStart => exact ⟨0, rfl, rfl, (Below.refl _ _).alloc (Nat.le_refl _) _, fun j _ h => absurd h (by omega)⟩
  case round =>
    obtain ⟨k, hk, rfl, hbel, hno⟩ := hrel
    have HN : Hid (∀ (j : Nat) (hj : j < v.size), j < k → (v[j].toNat : Int) ≠ 10) := hno
    clear hno
    by_cases hlt : k < v.size
    · cases e : ((v[k].toNat : Int) == 10)
      · go_wp2
        go_roundg (gk - 1)
        case measure => omega
        case rel =>
          refine ⟨k + 1, by omega, by go_num, hbel, fun j hj hjk => ?_⟩
          by_cases ej : j = k
          · subst ej; simpa using e
          · exact HN.out j hj (by omega)
      · go_wp2
        go_ret2
        exact ⟨rfl, hbel⟩
    · exfalso
      obtain ⟨i, hi, hb⟩ := H.out
      exact HN.out i hi (by omega) hb

theorem last_cases {v : ByteArray} (h : lastBlank v) : ∃ h0 : 0 < v.size, ((v[v.size - 1].toNat : Int) == 32) = true ∨ (((v[v.size - 1].toNat : Int) == 32) = false ∧ ((v[v.size - 1].toNat : Int) == 9) = true) ∨
    (((v[v.size - 1].toNat : Int) == 32) = false ∧ ((v[v.size - 1].toNat : Int) == 9) = false ∧ ((v[v.size - 1].toNat : Int) == 13) = true) := by
  obtain ⟨h0, hb⟩ := h
  refine ⟨h0, ?_⟩
  rcases hb with hb | hb | hb
  · exact .inl (by simpa using hb)
  · exact .inr (.inl ⟨by rw [hb]; decide, by rw [hb]; decide⟩)
  · exact .inr (.inr ⟨by rw [hb]; decide, by rw [hb]; decide, by rw [hb]; decide⟩)

theorem last_not {v : ByteArray} (h : ¬ lastBlank v) (h0 : 0 < v.size) : ((v[v.size - 1].toNat : Int) == 32) = false ∧ ((v[v.size - 1].toNat : Int) == 9) = false ∧ ((v[v.size - 1].toNat : Int) == 13) = false := by
  refine ⟨?_, ?_, ?_⟩
  · rw [beq_eq_false_iff_ne]; exact fun e => h ⟨h0, .inl e⟩
  · rw [beq_eq_false_iff_ne]; exact fun e => h ⟨h0, .inr (.inl e)⟩
  · rw [beq_eq_false_iff_ne]; exact fun e => h ⟨h0, .inr (.inr e)⟩

set_option maxHeartbeats 1000000 in
theorem model1_blank (n v : ByteArray) (hn : n.toList.isEmpty = true) (hv : v.size ≤ 4096) (h : ¬ has v 10) (hl : lastBlank v) : ModelIs 1 n v ⟨#[]⟩ false := by
  intro w
  have H : Hid (¬ has v 10) := h
  have HL : Hid (lastBlank v) := hl
  clear h hl
  go_enter Yavv.func6, Yavv.ntmps6
  go_wp2
  go_loopg [5] v.size (fun g i wr => ∃ k : Nat, g + k = v.size ∧ i = .int .i64 (k : Int) ∧ Below w.heap.size w wr)
  case atStart => exact ⟨0, rfl, rfl, (Below.refl _ _).alloc (Nat.le_refl _) _⟩
  case round =>
    obtain ⟨k, hk, rfl, hbel⟩ := hrel
    by_cases hlt : k < v.size
    · have e : ((v[k].toNat : Int) == 10) = false := beq_eq_false_iff_ne.2 (fun e => H.out ⟨k, hlt, e⟩)
      go_wp2
      go_roundg (gk - 1)
      case measure => omega
      case rel => exact ⟨k + 1, by omega, by go_num, hbel⟩
    · obtain ⟨h0, hc | ⟨ha, hc⟩ | ⟨ha, hb, hc⟩⟩ := last_cases HL.out
      all_goals
        go_wp2
        go_ret2
        exact ⟨rfl, hbel⟩

set_option maxHeartbeats 1000000 in
theorem model1_yes (n v : ByteArray) (hn : n.toList.isEmpty = true) (hv : v.size ≤ 4096) (h : ¬ has v 10) (hl : ¬ lastBlank v) : ModelIs 1 n v ((⟨#[59]⟩ : ByteArray) ++ v) true := by
  intro w
  have H : Hid (¬ has v 10) := h
  have HL : Hid (¬ lastBlank v) := hl
  clear h hl
  go_enter Yavv.func6, Yavv.ntmps6
  go_wp2
  go_loopg [5] v.size (fun g i wr => ∃ k : Nat, g + k = v.size ∧ i = .int .i64 (k : Int) ∧ Below w.heap.size w wr)
  case atStart => exact ⟨0, rfl, rfl, (Below.refl _ _).alloc (Nat.le_refl _) _⟩
  case round =>
    obtain ⟨k, hk, rfl, hbel⟩ := hrel
    by_cases hlt : k < v.size
    · have e : ((v[k].toNat : Int) == 10) = false := beq_eq_false_iff_ne.2 (fun e => H.out ⟨k, hlt, e⟩)
      go_wp2
      go_roundg (gk - 1)
      case measure => omega
      case rel => exact ⟨k + 1, by omega, by go_num, hbel⟩
    · by_cases h0 : 0 < v.size
      · obtain ⟨ha, hb, hc⟩ := last_not HL.out h0
        go_wp2
        go_ret2
        exact ⟨rfl, hbel⟩
      · go_wp2
        go_ret2
        exact ⟨rfl, hbel⟩

set_option maxHeartbeats 400000 in
theorem model2_no (n v : ByteArray) (hn : n.size ≤ 4096) (h : ¬ good n) : ModelIs 2 n v ⟨#[]⟩ false := by
  intro w
  have H : Hid (¬ good n) := h
  clear h
  go_enter Yavv.func6, Yavv.ntmps6
  go_wp2_with fail
  refine (qname_no n _ hn H.out).mono ?_
  rintro e w1 ⟨rfl, rfl⟩
  go_wp2
  go_ret2
  exact ⟨rfl, (Below.refl _ _).alloc (Nat.le_refl _) _⟩

set_option maxHeartbeats 400000 in
theorem model2_value (n v : ByteArray) (hn : n.size ≤ 4096) (h : good n) (hv : v.toList.isEmpty = false) : ModelIs 2 n v ⟨#[]⟩ false := by
  intro w
  have H : Hid (good n) := h
  clear h
  go_enter Yavv.func6, Yavv.ntmps6
  go_wp2_with fail
  refine (qname_yes n _ hn H.out).mono ?_
  rintro e w1 ⟨rfl, rfl⟩
  go_wp2
  go_ret2
  exact ⟨rfl, (Below.refl _ _).alloc (Nat.le_refl _) _⟩

set_option maxHeartbeats 400000 in
theorem model2_yes (n v : ByteArray) (hn : n.size ≤ 4096) (h : good n) (hv : v.toList.isEmpty = true) : ModelIs 2 n v ((⟨#[91]⟩ : ByteArray) ++ n ++ (⟨#[93]⟩ : ByteArray)) true := by
  intro w
  have H : Hid (good n) := h
  clear h
  go_enter Yavv.func6, Yavv.ntmps6
  go_wp2_with fail
  refine (qname_yes n _ hn H.out).mono ?_
  rintro e w1 ⟨rfl, rfl⟩
  go_wp2
  go_ret2
  exact ⟨rfl, (Below.refl _ _).alloc (Nat.le_refl _) _⟩

set_option maxHeartbeats 400000 in
theorem model3_no (n v : ByteArray) (hn : n.size ≤ 4096) (h : ¬ good n) : ModelIs 3 n v ⟨#[]⟩ false := by
  intro w
  have H : Hid (¬ good n) := h
  clear h
  go_enter Yavv.func6, Yavv.ntmps6
  go_wp2_with fail
  refine (qname_no n _ hn H.out).mono ?_
  rintro e w1 ⟨rfl, rfl⟩
  go_wp2
  go_ret2
  exact ⟨rfl, (Below.refl _ _).alloc (Nat.le_refl _) _⟩

set_option maxHeartbeats 1000000 in
theorem model3_yes (n v : ByteArray) (hn : n.size ≤ 4096) (hv : v.size ≤ 4096) (h : good n) : ModelIs 3 n v (n ++ (⟨#[61]⟩ : ByteArray) ++ PlainA.esc v) true := by
  intro w
  have H : Hid (good n) := h
  clear h
  have hes := PlainA.esc_size v
  have hc1 : ¬ 9223372036854775807 < n.size + 1 := by omega
  have hc2 : ¬ 9223372036854775807 < n.size + 1 + (PlainA.esc v).size := by omega
  have hbx : Below (w.alloc (.cells #[.int .i64 3, .string n, .string v] 23)).heap.size (w.alloc (.cells #[.int .i64 3, .string n, .string v] 23)) (w.alloc (.cells #[.int .i64 3, .string n, .string v] 23)) := Below.refl _ _
  obtain ⟨c0, c1, c2⟩ := box_cells hbx
  obtain ⟨hbw, hsz⟩ := box_below hbx
  clear hbx
  go_enter Yavv.func6, Yavv.ntmps6
  go_wp2_with fail
  refine (qname_yes n _ hn H.out).mono ?_
  rintro e w1 ⟨rfl, rfl⟩
  go_wp2
  go_region_held3 (fun w' => w'.cell? ⟨w.heap.size, 1, none⟩ = some (.string n) ∧ w'.cell? ⟨w.heap.size, 2, none⟩ = some (.string v)) (first | go_keep | (refine ⟨(hb2.cell (p := ⟨w.heap.size, 1, none⟩) hsz).trans c1, (hb2.cell (p := ⟨w.heap.size, 2, none⟩) hsz).trans c2⟩)) (first | (go_at_call 12; refine (qesc_any v _ hv).mono ?_; rintro e w2 ⟨rfl, hb2⟩))
  have hb3 : Below w.heap.size w w2 := hbw.drew.trans (hb2.mono (Nat.le_of_lt hsz))
  clear hb2
  go_wp2
  go_ret2
  exact ⟨rfl, hb3⟩

set_option maxHeartbeats 400000 in
theorem model_other (k : Int) (n v : ByteArray) (h0 : (k == 0) = false) (h1 : (k == 1) = false) (h2 : (k == 2) = false) (h3 : (k == 3) = false) : ModelIs k n v ⟨#[]⟩ false := by
  intro w
  go_enter Yavv.func6, Yavv.ntmps6
  go_wp2
  go_ret2
  exact ⟨rfl, (Below.refl _ _).alloc (Nat.le_refl _) _⟩
end Go.Proofs.Ymwhav
