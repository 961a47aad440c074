/-
  THE WALKS FOR LawS930012QAAWhole, first text: 'IndexByte' (16), 'ValidName' (18), 'zzs930012qaaname' (11).
-/
import Derived.Test.YmwhavRows
import Derived.WalkKit
import Derived.WalkSpells
import Derived.WalkLawsBesides
import Derived.Deep.LoopGhost
namespace Go.Proofs.Ymwhav
open Go.RowKit

/-- The byte c is among those of s. -/
def has (s : ByteArray) (c : Int) : Prop := ∃ (i : Nat) (h : i < s.size), (s[i].toNat : Int) = c

theorem has_three (a b c : UInt8) (x : Int) : has ⟨#[a, b, c]⟩ x ↔ (x = a.toNat ∨ x = b.toNat ∨ x = c.toNat) := by
  constructor
  · rintro ⟨i, hi, h⟩
    have hi' : i < 3 := hi
    match i, hi' with
    | 0, _ => exact .inl h.symm
    | 1, _ => exact .inr (.inl h.symm)
    | 2, _ => exact .inr (.inr h.symm)
  · rintro (h | h | h)
    · exact ⟨0, by show 0 < 3; omega, h.symm⟩
    · exact ⟨1, by show 1 < 3; omega, h.symm⟩
    · exact ⟨2, by show 2 < 3; omega, h.symm⟩

theorem has_five (a b c d e : UInt8) (x : Int) : has ⟨#[a, b, c, d, e]⟩ x ↔ (x = a.toNat ∨ x = b.toNat ∨ x = c.toNat ∨ x = d.toNat ∨ x = e.toNat) := by
  constructor
  · rintro ⟨i, hi, h⟩
    have hi' : i < 5 := hi
    match i, hi' with
    | 0, _ => exact .inl h.symm
    | 1, _ => exact .inr (.inl h.symm)
    | 2, _ => exact .inr (.inr (.inl h.symm))
    | 3, _ => exact .inr (.inr (.inr (.inl h.symm)))
    | 4, _ => exact .inr (.inr (.inr (.inr h.symm)))
  · rintro (h | h | h | h | h)
    · exact ⟨0, by show 0 < 5; omega, h.symm⟩
    · exact ⟨1, by show 1 < 5; omega, h.symm⟩
    · exact ⟨2, by show 2 < 5; omega, h.symm⟩
    · exact ⟨3, by show 3 < 5; omega, h.symm⟩
    · exact ⟨4, by show 4 < 5; omega, h.symm⟩

set_option maxHeartbeats 400000 in
theorem ix_any (s : ByteArray) (c : Int) (w : World) (hs : s.size ≤ 5000) :
    Calls Yavv.prog 16 #[.string s, .int .u8 c] w fun e w' => ∃ r : Int, (0 ≤ r ↔ has s c) ∧ e = .returned (.int .i64 r) ∧ w' = w := by
  go_enter Yavv.func16, Yavv.ntmps16
  go_wp2
  go_loopg [5] s.size (fun g i wr => ∃ k : Nat, g + k = s.size ∧ i = .int .i64 (k : Int) ∧ wr = w ∧ ∀ (j : Nat) (hj : j < s.size), j < k → (s[j].toNat : Int) ≠ c)
  case atStart => exact ⟨0, rfl, rfl, rfl, fun j _ h => absurd h (by omega)⟩
  case round =>
    obtain ⟨k, hk, rfl, rfl, hno⟩ := hrel
    have HN : Hid (∀ (j : Nat) (hj : j < s.size), j < k → (s[j].toNat : Int) ≠ c) := hno
    clear hno
    by_cases hlt : k < s.size
    · go_wp2
      · have he : ((s[k].toNat : Int) == c) = true := by assumption
        go_ret
        exact ⟨k, ⟨fun _ => ⟨k, hlt, by simpa using he⟩, fun _ => by omega⟩, rfl, rfl⟩
      · have he : ((s[k].toNat : Int) == c) = false := by assumption
        go_roundg (gk - 1)
        case measure => omega
        case rel =>
          refine ⟨k + 1, by omega, by go_num, rfl, fun j hj hjk => ?_⟩
          by_cases e : j = k
          · subst e; simpa using he
          · exact HN.out j hj (by omega)
    · go_wp2
      go_ret
      exact ⟨-1, ⟨fun h => absurd h (by omega), fun ⟨i, hi, h⟩ => absurd h (HN.out i hi (by omega))⟩, rfl, rfl⟩

theorem ix_yes (s : ByteArray) (c : Int) (w : World) (hs : s.size ≤ 5000) (h : has s c) :
    Calls Yavv.prog 16 #[.string s, .int .u8 c] w fun e w' => ∃ r : Int, 0 ≤ r ∧ e = .returned (.int .i64 r) ∧ w' = w :=
  (ix_any s c w hs).mono fun _ _ ⟨r, hr, he⟩ => ⟨r, hr.2 h, he⟩

theorem ix_no (s : ByteArray) (c : Int) (w : World) (hs : s.size ≤ 5000) (h : ¬ has s c) :
    Calls Yavv.prog 16 #[.string s, .int .u8 c] w fun e w' => ∃ r : Int, r < 0 ∧ e = .returned (.int .i64 r) ∧ w' = w :=
  (ix_any s c w hs).mono fun _ _ ⟨r, hr, he⟩ => ⟨r, by rcases Int.lt_or_le r 0 with h0 | h0; exact h0; exact absurd (hr.1 h0) h, he⟩

/-! ### Names -/

/-- A byte that no name holds. -/
def bad (c : Int) : Prop := c < 32 ∨ c = 61 ∨ c = 91 ∨ c = 93 ∨ c = 59 ∨ c = 35

/-- A byte of s is such a one. -/
def badIn (s : ByteArray) : Prop := ∃ (i : Nat) (h : i < s.size), bad (s[i].toNat : Int)

theorem has_punct (c : Int) : has ⟨#[61, 91, 93, 59, 35]⟩ c ↔ (c = 61 ∨ c = 91 ∨ c = 93 ∨ c = 59 ∨ c = 35) := by
  rw [has_five]; rfl

set_option maxHeartbeats 400000 in
theorem vname_bad (s : ByteArray) (w : World) (hs : s.size ≤ 4096) (h : badIn s) :
    Calls Yavv.prog 18 #[.string s] w fun e w' => e = .returned (.bool false) ∧ w' = w := by
  have H : Hid (badIn s) := h
  clear h
  go_enter Yavv.func18, Yavv.ntmps18
  go_wp2
  go_loopg [3] s.size (fun g i wr => ∃ k : Nat, g + k = s.size ∧ i = .int .i64 (k : Int) ∧ wr = w ∧ ∀ (j : Nat) (hj : j < s.size), j < k → ¬ bad (s[j].toNat : Int))
  case atStart => exact ⟨0, rfl, rfl, rfl, fun j _ h => absurd h (by omega)⟩
  case round =>
    obtain ⟨k, hk, rfl, rfl, hno⟩ := hrel
    have HN : Hid (∀ (j : Nat) (hj : j < s.size), j < k → ¬ bad (s[j].toNat : Int)) := hno
    clear hno
    by_cases hlt : k < s.size
    · by_cases h32 : (s[k].toNat : Int) < 32
      · go_wp2
        go_ret
        exact ⟨rfl, rfl⟩
      · by_cases hp : has ⟨#[61, 91, 93, 59, 35]⟩ (s[k].toNat : Int)
        · have HP : Hid (has ⟨#[61, 91, 93, 59, 35]⟩ (s[k].toNat : Int)) := hp
          clear hp
          go_wp2_with (go_at_call 16; refine (ix_yes _ _ _ ?_ HP.out).mono ?_; (show 5 ≤ 5000; omega); rintro e w' ⟨r, hr, rfl, rfl⟩)
          go_ret
          exact ⟨rfl, rfl⟩
        · have HP : Hid (¬ has ⟨#[61, 91, 93, 59, 35]⟩ (s[k].toNat : Int)) := hp
          clear hp
          go_wp2_with (go_at_call 16; refine (ix_no _ _ _ ?_ HP.out).mono ?_; (show 5 ≤ 5000; omega); rintro e w' ⟨r, hr, rfl, rfl⟩)
          go_roundg (gk - 1)
          case measure => omega
          case rel =>
            refine ⟨k + 1, by omega, by go_num, rfl, fun j hj hjk => ?_⟩
            by_cases e : j = k
            · subst e
              rintro (hb | hb)
              · omega
              · exact HP.out ((has_punct _).2 hb)
            · exact HN.out j hj (by omega)
    · exfalso
      obtain ⟨i, hi, hb⟩ := H.out
      exact HN.out i hi (by omega) hb

/-- What ValidName asks beside the bytes: the string is not empty, and neither begins nor ends with a blank. -/
def ends (s : ByteArray) : Bool := if h : 0 < s.size then !((s[0].toNat : Int) == 32) && !((s[s.size - 1].toNat : Int) == 32) else false

theorem ret_bool {a b : Bool} (h : a = b) : Ending.returned (.bool a) = .returned (.bool b) := by rw [h]
theorem ends_both {s : ByteArray} (h : 0 < s.size) : ends s = ((s[0].toNat : Int) != 32 && (s[s.size - 1].toNat : Int) != 32) := by
  simp [ends, h, bne]
theorem ends_first {s : ByteArray} (h : 0 < s.size) (e : (s[0].toNat : Int) = 32) : ends s = false := by
  rw [ends_both h, e]; rfl
theorem ends_none {s : ByteArray} (h : ¬ 0 < s.size) : ends s = false := by
  simp [ends, h]

set_option maxHeartbeats 400000 in
theorem vname_ok (s : ByteArray) (w : World) (hs : s.size ≤ 4096) (h : ¬ badIn s) :
    Calls Yavv.prog 18 #[.string s] w fun e w' => e = .returned (.bool (ends s)) ∧ w' = w := by
  have H : Hid (¬ badIn s) := h
  clear h
  go_enter Yavv.func18, Yavv.ntmps18
  go_wp2
  go_loopg [3] s.size (fun g i wr => ∃ k : Nat, g + k = s.size ∧ i = .int .i64 (k : Int) ∧ wr = w)
  case atStart => exact ⟨0, rfl, rfl, rfl⟩
  case round =>
    obtain ⟨k, hk, rfl, rfl⟩ := hrel
    by_cases hlt : k < s.size
    · have h32 : ¬ (s[k].toNat : Int) < 32 := fun hb => H.out ⟨k, hlt, .inl hb⟩
      have HP : Hid (¬ has ⟨#[61, 91, 93, 59, 35]⟩ (s[k].toNat : Int)) := fun hb => H.out ⟨k, hlt, .inr ((has_punct _).1 hb)⟩
      go_wp2_with (go_at_call 16; refine (ix_no _ _ _ ?_ HP.out).mono ?_; (show 5 ≤ 5000; omega); rintro e w' ⟨r, hr, rfl, rfl⟩)
      go_roundg (gk - 1)
      case measure => omega
      case rel => exact ⟨k + 1, by omega, by go_num, rfl⟩
    · go_wp2
      · have h0 : 0 < s.size := by assumption
        have h1 : (s[0].toNat : Int) = 32 := by assumption
        go_ret
        exact ⟨ret_bool (ends_first h0 h1).symm, rfl⟩
      · have h0 : 0 < s.size := by assumption
        go_ret
        exact ⟨ret_bool (ends_both h0).symm, rfl⟩
      · have h0 : ¬ 0 < s.size := by assumption
        go_ret
        exact ⟨ret_bool (ends_none h0).symm, rfl⟩

/-- A name: no bad byte, no blank at either end, not empty. -/
def good (s : ByteArray) : Prop := ¬ badIn s ∧ ends s = true

theorem vname_yes (s : ByteArray) (w : World) (hs : s.size ≤ 4096) (h : good s) :
    Calls Yavv.prog 18 #[.string s] w fun e w' => e = .returned (.bool true) ∧ w' = w := by
  have := vname_ok s w hs h.1
  rw [h.2] at this
  exact this

theorem vname_no (s : ByteArray) (w : World) (hs : s.size ≤ 4096) (h : ¬ good s) :
    Calls Yavv.prog 18 #[.string s] w fun e w' => e = .returned (.bool false) ∧ w' = w := by
  by_cases hb : badIn s
  · exact vname_bad s w hs hb
  · have hf : ends s = false := by
      cases he : ends s
      · rfl
      · exact absurd ⟨hb, he⟩ h
    have := vname_ok s w hs hb
    rw [hf] at this
    exact this

/-! ### The model's own test of a name (11) -/
theorem ends_parts {s : ByteArray} (h : ends s = true) : ∃ h0 : 0 < s.size, ((s[0].toNat : Int) == 32) = false ∧ ((s[s.size - 1].toNat : Int) == 32) = false := by
  by_cases h0 : 0 < s.size
  · refine ⟨h0, ?_⟩
    rw [ends_both h0] at h
    simp at h
    exact ⟨by simpa using h.1, by simpa using h.2⟩
  · rw [ends_none h0] at h; cases h

theorem not_bad {c : Int} (h : ¬ bad c) : ¬ c < 32 ∧ (c == 61) = false ∧ (c == 91) = false ∧ (c == 93) = false ∧ (c == 59) = false ∧ (c == 35) = false := by
  refine ⟨fun e => h (.inl e), ?_, ?_, ?_, ?_, ?_⟩
  · simp; exact fun e => h (.inr (.inl e))
  · simp; exact fun e => h (.inr (.inr (.inl e)))
  · simp; exact fun e => h (.inr (.inr (.inr (.inl e))))
  · simp; exact fun e => h (.inr (.inr (.inr (.inr (.inl e)))))
  · simp; exact fun e => h (.inr (.inr (.inr (.inr (.inr e)))))

set_option maxHeartbeats 1000000 in
theorem qname_yes (s : ByteArray) (w : World) (hs : s.size ≤ 4096) (h : good s) :
    Calls Yavv.prog 11 #[.string s] w fun e w' => e = .returned (.bool true) ∧ w' = w := by
  have H : Hid (¬ badIn s) := h.1
  obtain ⟨h0, h1, h2⟩ := ends_parts h.2
  clear h
  have hz : ((s.size : Int) == 0) = false := beq_eq_false_iff_ne.2 (by omega)
  go_enter Yavv.func11, Yavv.ntmps11
  go_wp2
  go_loopg [3] s.size (fun g i wr => ∃ k : Nat, g + k = s.size ∧ i = .int .i64 (k : Int) ∧ wr = w)
  case atStart => exact ⟨0, rfl, rfl, rfl⟩
  case round =>
    obtain ⟨k, hk, rfl, rfl⟩ := hrel
    clear hz h1 h2
    by_cases hlt : k < s.size
    · obtain ⟨b0, b1, b2, b3, b4, b5⟩ := not_bad (c := (s[k].toNat : Int)) (fun hb => H.out ⟨k, hlt, hb⟩)
      go_wp2
      go_roundg (gk - 1)
      case measure => omega
      case rel => exact ⟨k + 1, by omega, by go_num, rfl⟩
    · go_wp2
      go_ret
      exact ⟨rfl, rfl⟩

set_option maxHeartbeats 1000000 in
theorem qname_bad (s : ByteArray) (w : World) (hs : s.size ≤ 4096) (he : ends s = true) (h : badIn s) :
    Calls Yavv.prog 11 #[.string s] w fun e w' => e = .returned (.bool false) ∧ w' = w := by
  have H : Hid (badIn s) := h
  obtain ⟨h0, h1, h2⟩ := ends_parts he
  clear h he
  have hz : ((s.size : Int) == 0) = false := beq_eq_false_iff_ne.2 (by omega)
  go_enter Yavv.func11, Yavv.ntmps11
  go_wp2
  go_loopg [3] s.size (fun g i wr => ∃ k : Nat, g + k = s.size ∧ i = .int .i64 (k : Int) ∧ wr = w ∧ ∀ (j : Nat) (hj : j < s.size), j < k → ¬ bad (s[j].toNat : Int))
  case atStart => exact ⟨0, rfl, rfl, rfl, fun j _ h => absurd h (by omega)⟩
  case round =>
    obtain ⟨k, hk, rfl, rfl, hno⟩ := hrel
    have HN : Hid (∀ (j : Nat) (hj : j < s.size), j < k → ¬ bad (s[j].toNat : Int)) := hno
    clear hno hz h1 h2
    by_cases hlt : k < s.size
    · by_cases hb : bad (s[k].toNat : Int)
      · rcases (show bad (s[k].toNat : Int) from hb) with b0 | b1
        · clear hb
          go_wp2
          go_ret
          exact ⟨rfl, rfl⟩
        · have b0 : ¬ (s[k].toNat : Int) < 32 := by omega
          clear hb
          have HB : Hid ((s[k].toNat : Int) = 61 ∨ (s[k].toNat : Int) = 91 ∨ (s[k].toNat : Int) = 93 ∨ (s[k].toNat : Int) = 59 ∨ (s[k].toNat : Int) = 35) := b1
          clear b1
          cases e1 : ((s[k].toNat : Int) == 61)
          · cases e2 : ((s[k].toNat : Int) == 91)
            · cases e3 : ((s[k].toNat : Int) == 93)
              · cases e4 : ((s[k].toNat : Int) == 59)
                · have e5 : ((s[k].toNat : Int) == 35) = true := by
                    rcases HB.out with h | h | h | h | h
                    · rw [h] at e1; exact absurd e1 (by decide)
                    · rw [h] at e2; exact absurd e2 (by decide)
                    · rw [h] at e3; exact absurd e3 (by decide)
                    · rw [h] at e4; exact absurd e4 (by decide)
                    · rw [h]; decide
                  go_wp2
                  go_ret
                  exact ⟨rfl, rfl⟩
                · go_wp2
                  go_ret
                  exact ⟨rfl, rfl⟩
              · go_wp2
                go_ret
                exact ⟨rfl, rfl⟩
            · go_wp2
              go_ret
              exact ⟨rfl, rfl⟩
          · go_wp2
            go_ret
            exact ⟨rfl, rfl⟩
      · have HB : Hid (¬ bad (s[k].toNat : Int)) := hb
        obtain ⟨b0, b1, b2, b3, b4, b5⟩ := not_bad hb
        clear hb
        go_wp2
        go_roundg (gk - 1)
        case measure => omega
        case rel =>
          refine ⟨k + 1, by omega, by go_num, rfl, fun j hj hjk => ?_⟩
          by_cases e : j = k
          · subst e; exact HB.out
          · exact HN.out j hj (by omega)
    · exfalso
      obtain ⟨i, hi, hb⟩ := H.out
      exact HN.out i hi (by omega) hb

set_option maxHeartbeats 1000000 in
theorem qname_end (s : ByteArray) (w : World) (hs : s.size ≤ 4096) (h : ends s = false) :
    Calls Yavv.prog 11 #[.string s] w fun e w' => e = .returned (.bool false) ∧ w' = w := by
  by_cases h0 : 0 < s.size
  · have hz : ((s.size : Int) == 0) = false := beq_eq_false_iff_ne.2 (by omega)
    rw [ends_both h0] at h
    cases e1 : ((s[0].toNat : Int) == 32)
    · have e2 : ((s[s.size - 1].toNat : Int) == 32) = true := by simpa [bne, e1] using h
      clear h
      go_enter Yavv.func11, Yavv.ntmps11
      go_wp2
      go_ret
      exact ⟨rfl, rfl⟩
    · clear h
      go_enter Yavv.func11, Yavv.ntmps11
      go_wp2
      go_ret
      exact ⟨rfl, rfl⟩
  · have hz : ((s.size : Int) == 0) = true := beq_iff_eq.2 (by omega)
    clear h
    go_enter Yavv.func11, Yavv.ntmps11
    go_wp2
    go_ret
    exact ⟨rfl, rfl⟩

theorem qname_no (s : ByteArray) (w : World) (hs : s.size ≤ 4096) (h : ¬ good s) :
    Calls Yavv.prog 11 #[.string s] w fun e w' => e = .returned (.bool false) ∧ w' = w := by
  cases he : ends s
  · exact qname_end s w hs he
  · by_cases hb : badIn s
    · exact qname_bad s w hs he hb
    · exact absurd ⟨hb, he⟩ h
end Go.Proofs.Ymwhav
