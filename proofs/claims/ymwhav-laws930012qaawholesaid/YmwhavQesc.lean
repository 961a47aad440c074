/-
  THE WALKS FOR LawS930012QAAWhole, fourth text: the model's own escaping, 'zzs930012qaaesc' (12).
-/
import Derived.Test.YmwhavEsc
namespace Go.Proofs.Ymwhav
open Go.RowKit

set_option maxHeartbeats 4000000 in
theorem qesc_any (s : ByteArray) (w : World) (hs : s.size ≤ 4096) :
    Calls Yavv.prog 12 #[.string s] w fun e w' => e = .returned (.string (PlainA.esc s)) ∧ Below w.heap.size w w' := by
  go_enter Yavv.func12, Yavv.ntmps12
  go_wp2
  go_loopg [3, 4] s.size (fun g v i wr => ∃ k : Nat, g + k = s.size ∧ i = .int .i64 (k : Int) ∧ Buf w.heap.size w wr v (PlainA.escTo s k))
  case atStart => exact ⟨0, rfl, rfl, ⟨World.ownsRow_nil _ _ _ _, Below.refl _ _, Nat.le_refl _⟩⟩
  case round =>
    obtain ⟨k, hk, rfl, hbuf⟩ := hrel
    have hlen := PlainA.escTo_le s k
    by_cases hlt : k < s.size
    · cases z0 : ((k : Int) == 0)
      · cases z1 : ((k : Int) == (s.size : Int) - 1)
        · -- within
          cases e1 : ((s[k].toNat : Int) == 92)
          · cases e2 : ((s[k].toNat : Int) == 10)
            · cases e3 : ((s[k].toNat : Int) == 13)
              · cases e4 : ((s[k].toNat : Int) == 9)
                · cases e5 : ((s[k].toNat : Int) == 32)
                  · -- no blank
                    have HP : Hid (PlainA.part s k = [s[k]]) := PlainA.part6 hlt e1 e2 e3 e4 (fun h => absurd h.1 (by simpa using e5))
                    go_wp2_with (at_builtin; refine wpList_app hbuf rfl _ _ rfl rfl [s[k]] _ rfl 1 rfl rfl (by omega) (by simp) ?_; intro v' w1 hbuf1)
                    go_roundg (gk - 1)
                    case measure => omega
                    case rel => exact ⟨k + 1, by omega, by go_num, buf_next hbuf1 HP.out⟩
                  · -- a blank within
                    have HP : Hid (PlainA.part s k = [s[k]]) := PlainA.part6 hlt e1 e2 e3 e4 (fun h => not_edge0 hlt z0 z1 h.2)
                    go_wp2_with (at_builtin; refine wpList_app hbuf rfl _ _ rfl rfl [s[k]] _ rfl 1 rfl rfl (by omega) (by simp) ?_; intro v' w1 hbuf1)
                    go_roundg (gk - 1)
                    case measure => omega
                    case rel => exact ⟨k + 1, by omega, by go_num, buf_next hbuf1 HP.out⟩
                · -- a tab
                  have HP : Hid (PlainA.part s k = [92, 116]) := PlainA.part4 hlt e4
                  go_wp2_with (at_builtin; refine wpList_app hbuf rfl _ _ rfl rfl [92, 116] _ rfl 2 rfl rfl (by omega) (by simp) ?_; intro v' w1 hbuf1)
                  go_roundg (gk - 1)
                  case measure => omega
                  case rel => exact ⟨k + 1, by omega, by go_num, buf_next hbuf1 HP.out⟩
              · -- a carriage return
                have HP : Hid (PlainA.part s k = [92, 114]) := PlainA.part3 hlt e3
                go_wp2_with (at_builtin; refine wpList_app hbuf rfl _ _ rfl rfl [92, 114] _ rfl 2 rfl rfl (by omega) (by simp) ?_; intro v' w1 hbuf1)
                go_roundg (gk - 1)
                case measure => omega
                case rel => exact ⟨k + 1, by omega, by go_num, buf_next hbuf1 HP.out⟩
            · -- a newline
              have HP : Hid (PlainA.part s k = [92, 110]) := PlainA.part2 hlt e2
              go_wp2_with (at_builtin; refine wpList_app hbuf rfl _ _ rfl rfl [92, 110] _ rfl 2 rfl rfl (by omega) (by simp) ?_; intro v' w1 hbuf1)
              go_roundg (gk - 1)
              case measure => omega
              case rel => exact ⟨k + 1, by omega, by go_num, buf_next hbuf1 HP.out⟩
          · -- a backslash
            have HP : Hid (PlainA.part s k = [92, 92]) := PlainA.part1 hlt e1
            go_wp2_with (at_builtin; refine wpList_app hbuf rfl _ _ rfl rfl [92, 92] _ rfl 2 rfl rfl (by omega) (by simp) ?_; intro v' w1 hbuf1)
            go_roundg (gk - 1)
            case measure => omega
            case rel => exact ⟨k + 1, by omega, by go_num, buf_next hbuf1 HP.out⟩
        · -- the last byte
          cases e1 : ((s[k].toNat : Int) == 92)
          · cases e2 : ((s[k].toNat : Int) == 10)
            · cases e3 : ((s[k].toNat : Int) == 13)
              · cases e4 : ((s[k].toNat : Int) == 9)
                · cases e5 : ((s[k].toNat : Int) == 32)
                  · -- no blank
                    have HP : Hid (PlainA.part s k = [s[k]]) := PlainA.part6 hlt e1 e2 e3 e4 (fun h => absurd h.1 (by simpa using e5))
                    go_wp2_with (at_builtin; refine wpList_app hbuf rfl _ _ rfl rfl [s[k]] _ rfl 1 rfl rfl (by omega) (by simp) ?_; intro v' w1 hbuf1)
                    go_roundg (gk - 1)
                    case measure => omega
                    case rel => exact ⟨k + 1, by omega, by go_num, buf_next hbuf1 HP.out⟩
                  · -- the last
                    have HP : Hid (PlainA.part s k = [92, 115]) := PlainA.part5 hlt e5 (edge1 z1)
                    go_wp2_with (at_builtin; refine wpList_app hbuf rfl _ _ rfl rfl [92, 115] _ rfl 2 rfl rfl (by omega) (by simp) ?_; intro v' w1 hbuf1)
                    go_roundg (gk - 1)
                    case measure => omega
                    case rel => exact ⟨k + 1, by omega, by go_num, buf_next hbuf1 HP.out⟩
                · -- a tab
                  have HP : Hid (PlainA.part s k = [92, 116]) := PlainA.part4 hlt e4
                  go_wp2_with (at_builtin; refine wpList_app hbuf rfl _ _ rfl rfl [92, 116] _ rfl 2 rfl rfl (by omega) (by simp) ?_; intro v' w1 hbuf1)
                  go_roundg (gk - 1)
                  case measure => omega
                  case rel => exact ⟨k + 1, by omega, by go_num, buf_next hbuf1 HP.out⟩
              · -- a carriage return
                have HP : Hid (PlainA.part s k = [92, 114]) := PlainA.part3 hlt e3
                go_wp2_with (at_builtin; refine wpList_app hbuf rfl _ _ rfl rfl [92, 114] _ rfl 2 rfl rfl (by omega) (by simp) ?_; intro v' w1 hbuf1)
                go_roundg (gk - 1)
                case measure => omega
                case rel => exact ⟨k + 1, by omega, by go_num, buf_next hbuf1 HP.out⟩
            · -- a newline
              have HP : Hid (PlainA.part s k = [92, 110]) := PlainA.part2 hlt e2
              go_wp2_with (at_builtin; refine wpList_app hbuf rfl _ _ rfl rfl [92, 110] _ rfl 2 rfl rfl (by omega) (by simp) ?_; intro v' w1 hbuf1)
              go_roundg (gk - 1)
              case measure => omega
              case rel => exact ⟨k + 1, by omega, by go_num, buf_next hbuf1 HP.out⟩
          · -- a backslash
            have HP : Hid (PlainA.part s k = [92, 92]) := PlainA.part1 hlt e1
            go_wp2_with (at_builtin; refine wpList_app hbuf rfl _ _ rfl rfl [92, 92] _ rfl 2 rfl rfl (by omega) (by simp) ?_; intro v' w1 hbuf1)
            go_roundg (gk - 1)
            case measure => omega
            case rel => exact ⟨k + 1, by omega, by go_num, buf_next hbuf1 HP.out⟩
      · -- the first byte
        cases e1 : ((s[k].toNat : Int) == 92)
        · cases e2 : ((s[k].toNat : Int) == 10)
          · cases e3 : ((s[k].toNat : Int) == 13)
            · cases e4 : ((s[k].toNat : Int) == 9)
              · cases e5 : ((s[k].toNat : Int) == 32)
                · -- no blank
                  have HP : Hid (PlainA.part s k = [s[k]]) := PlainA.part6 hlt e1 e2 e3 e4 (fun h => absurd h.1 (by simpa using e5))
                  go_wp2_with (at_builtin; refine wpList_app hbuf rfl _ _ rfl rfl [s[k]] _ rfl 1 rfl rfl (by omega) (by simp) ?_; intro v' w1 hbuf1)
                  go_roundg (gk - 1)
                  case measure => omega
                  case rel => exact ⟨k + 1, by omega, by go_num, buf_next hbuf1 HP.out⟩
                · -- the first
                  have HP : Hid (PlainA.part s k = [92, 115]) := PlainA.part5 hlt e5 (edge0 z0)
                  go_wp2_with (at_builtin; refine wpList_app hbuf rfl _ _ rfl rfl [92, 115] _ rfl 2 rfl rfl (by omega) (by simp) ?_; intro v' w1 hbuf1)
                  go_roundg (gk - 1)
                  case measure => omega
                  case rel => exact ⟨k + 1, by omega, by go_num, buf_next hbuf1 HP.out⟩
              · -- a tab
                have HP : Hid (PlainA.part s k = [92, 116]) := PlainA.part4 hlt e4
                go_wp2_with (at_builtin; refine wpList_app hbuf rfl _ _ rfl rfl [92, 116] _ rfl 2 rfl rfl (by omega) (by simp) ?_; intro v' w1 hbuf1)
                go_roundg (gk - 1)
                case measure => omega
                case rel => exact ⟨k + 1, by omega, by go_num, buf_next hbuf1 HP.out⟩
            · -- a carriage return
              have HP : Hid (PlainA.part s k = [92, 114]) := PlainA.part3 hlt e3
              go_wp2_with (at_builtin; refine wpList_app hbuf rfl _ _ rfl rfl [92, 114] _ rfl 2 rfl rfl (by omega) (by simp) ?_; intro v' w1 hbuf1)
              go_roundg (gk - 1)
              case measure => omega
              case rel => exact ⟨k + 1, by omega, by go_num, buf_next hbuf1 HP.out⟩
          · -- a newline
            have HP : Hid (PlainA.part s k = [92, 110]) := PlainA.part2 hlt e2
            go_wp2_with (at_builtin; refine wpList_app hbuf rfl _ _ rfl rfl [92, 110] _ rfl 2 rfl rfl (by omega) (by simp) ?_; intro v' w1 hbuf1)
            go_roundg (gk - 1)
            case measure => omega
            case rel => exact ⟨k + 1, by omega, by go_num, buf_next hbuf1 HP.out⟩
        · -- a backslash
          have HP : Hid (PlainA.part s k = [92, 92]) := PlainA.part1 hlt e1
          go_wp2_with (at_builtin; refine wpList_app hbuf rfl _ _ rfl rfl [92, 92] _ rfl 2 rfl rfl (by omega) (by simp) ?_; intro v' w1 hbuf1)
          go_roundg (gk - 1)
          case measure => omega
          case rel => exact ⟨k + 1, by omega, by go_num, buf_next hbuf1 HP.out⟩
    · have hcv := buf_string hbuf
      have HK : Hid (k = s.size) := show k = s.size by omega
      go_wp2
      go_ret
      exact ⟨ret_esc HK.out, hbuf.below⟩

end Go.Proofs.Ymwhav
