/-
  THE WALKS FOR LawS930012QAAWhole, second text: 'Trim' (17), at strings whose first byte is no blank.
-/
import Derived.Test.YmwhavIx
namespace Go.Proofs.Ymwhav
open Go.RowKit

def blankB (c : Int) : Prop := c = 32 ∨ c = 9 ∨ c = 13
theorem has_blank (c : Int) : has ⟨#[32, 9, 13]⟩ c ↔ blankB c := by
  rw [has_three]; rfl

theorem trim_last {s : ByteArray} {m : Nat} (hm : m < s.size) (hl : m + 1 < s.size → blankB (s[s.size - 1].toNat : Int)) (hb : blankB (s[m].toNat : Int)) : blankB (s[s.size - 1].toNat : Int) := by
  by_cases h : m + 1 < s.size
  · exact hl h
  · have e : s.size - 1 = m := by omega
    simp only [e]
    exact hb

theorem trim_stop {s : ByteArray} {m : Nat} (hm : m < s.size) (hl : m + 1 < s.size → blankB (s[s.size - 1].toNat : Int)) (hb : ¬ blankB (s[m].toNat : Int)) : m + 1 = s.size ↔ ¬ blankB (s[s.size - 1].toNat : Int) := by
  constructor
  · intro h
    have e : s.size - 1 = m := by omega
    simp only [e]
    exact hb
  · intro h
    rcases Nat.lt_or_ge (m + 1) s.size with h' | h'
    · exact absurd (hl h') h
    · omega

set_option maxHeartbeats 1000000 in
theorem trim_any (s : ByteArray) (w : World) (hs : s.size ≤ 5000) (h0 : 0 < s.size) (hf : ¬ blankB (s[0].toNat : Int)) :
    Calls Yavv.prog 17 #[.string s] w fun e w' => ∃ h : Nat, h ≤ s.size ∧ (h = s.size ↔ ¬ blankB (s[s.size - 1].toNat : Int)) ∧ e = .returned (.string (s.extract 0 h)) ∧ w' = w := by
  have HF : Hid (¬ has ⟨#[32, 9, 13]⟩ (s[0].toNat : Int)) := fun h => hf ((has_blank _).1 h)
  clear hf
  go_enter Yavv.func17, Yavv.ntmps17
  go_wp2
  go_loopg [3] 0 (fun _ lo wr => lo = .int .i64 0 ∧ wr = w)
  case atStart => exact ⟨rfl, rfl⟩
  case round =>
    obtain ⟨rfl, rfl⟩ := hrel
    go_wp2_with (go_at_call 16; refine (ix_no _ _ _ ?_ HF.out).mono ?_; (show 3 ≤ 5000; omega); rintro e w' ⟨r, hr, rfl, rfl⟩)
    go_loopg [4] s.size (fun g hi wr => ∃ m : Nat, g = m + 1 ∧ m < s.size ∧ hi = .int .i64 ((m : Int) + 1) ∧ wr = w' ∧ (m + 1 < s.size → blankB (s[s.size - 1].toNat : Int)))
    case atStart => exact ⟨s.size - 1, by omega, by omega, by go_num, rfl, fun h => absurd h (by omega)⟩
    case round =>
      obtain ⟨m, hg, hm, rfl, rfl, hl⟩ := hrel
      have HL : Hid (m + 1 < s.size → blankB (s[s.size - 1].toNat : Int)) := hl
      clear hl
      by_cases hb : has ⟨#[32, 9, 13]⟩ (s[m].toNat : Int)
      · have HB : Hid (has ⟨#[32, 9, 13]⟩ (s[m].toNat : Int)) := hb
        clear hb
        have hm1 : 0 < m := by
          rcases Nat.eq_zero_or_pos m with h | h
          · exact absurd HB.out (by subst h; exact HF.out)
          · exact h
        have HL' : Hid (blankB (s[s.size - 1].toNat : Int)) := trim_last hm HL.out ((has_blank _).1 HB.out)
        go_wp2_with (go_at_call 16; refine (ix_yes _ _ _ ?_ HB.out).mono ?_; (show 3 ≤ 5000; omega); rintro e w' ⟨r', hr', rfl, rfl⟩)
        go_roundg m
        case measure => omega
        case rel => exact ⟨m - 1, by omega, by omega, by go_num, rfl, fun _ => HL'.out⟩
      · have HB : Hid (¬ has ⟨#[32, 9, 13]⟩ (s[m].toNat : Int)) := hb
        clear hb
        have HE : Hid (m + 1 = s.size ↔ ¬ blankB (s[s.size - 1].toNat : Int)) := trim_stop hm HL.out (fun h => HB.out ((has_blank _).2 h))
        go_wp2_with (go_at_call 16; refine (ix_no _ _ _ ?_ HB.out).mono ?_; (show 3 ≤ 5000; omega); rintro e w' ⟨r', hr', rfl, rfl⟩)
        go_ret
        exact ⟨m + 1, by omega, HE.out, rfl, rfl⟩
end Go.Proofs.Ymwhav
