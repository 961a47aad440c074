/-
  THE WALKS FOR LawS930012QAAWhole, third text: 'Escape' (10), 'zzs930012qaaesc' (12).
-/
import Derived.Test.YmwhavIx
import Derived.Test.YmwhavPlainA
import Derived.Laws.IdiomStrings
namespace Go.Proofs.Ymwhav
open Go.RowKit

theorem info5 : (Yavv.prog.info? 5).map (fun i => (i.zero, i.size, i.bytes)) = some (some (.int .u8 0), 1, 1) := by kernel_rfl

/-- Bytes as cells. -/
def bc (l : List UInt8) : List Value := l.map fun b => Value.int .u8 (b.toNat : Int)
theorem bc_append (l m : List UInt8) : bc (l ++ m) = bc l ++ bc m := by simp [bc]
theorem bc_one (l : List UInt8) : ∀ u ∈ bc l, u.oneCell' = true := by
  intro u hu
  simp only [bc, List.mem_map] at hu
  obtain ⟨b, _, rfl⟩ := hu
  rfl

/-- The slice v is the call's own, and holds the bytes l; below block B the world is as w0 was. -/
structure Buf (B : Nat) (w0 w : World) (v : Value) (l : List UInt8) : Prop where
  own : w.ownsRow B 5 1 v l.length (bc l)
  below : Below B w0 w
  le : B ≤ w.heap.size

/-- 'append(out, ..)' of the bytes m, which the translation lays in a new block first. -/
theorem wpList_app {ops : Array Oper} {rest : List Oper} {o : Oper} {a : Act} {Q : Exit → Act → World → Prop} {B : Nat} {w0 w : World} {v : Value} {l : List UInt8} (h : Buf B w0 w v l)
    (hgd : o.guard = none) (s x : Operand) (ho : o.op = .call { callee := .builtin .append, args := #[s, x], argTypes := #[36, 36] }) (hs : a.eval s = v) (m : List UInt8) (cs : Array Value) (hcs : cs.toList = bc m) (n : Nat) (hn : m.length = n)
    (hx : a.eval x = .slice (some ⟨w.heap.size, 0, none⟩) n n) (hl : l.length ≤ 10000) (hm : m.length ≤ 2)
    (hk : ∀ v' w', Buf B w0 w' v' (l ++ m) → wpList Yavv.prog ops Q rest (a.put o.dst v') w') : wpList Yavv.prog ops Q (o :: rest) a (w.alloc (.cells cs 5)) := by
  subst hn
  obtain ⟨i0, hi, hz0, hz1, hz2⟩ := info_parts info5
  have hle := h.le
  refine wpList_append_own (w.alloc (.cells cs 5)) hgd s x 36 ho B 5 i0 (.int .u8 0) 1 1 Yavv.underlying36 hi hz0 hz1 hz2 rfl (by decide) v l.length (bc l) hs (h.own.alloc _) ⟨w.heap.size, 0, none⟩ m.length m.length (bc m) hx (by simp [bc]) ?_ (bc_one m) (by unfold maxLen; omega) (by omega) (by simp; omega) ?_
  · intro j u hj
    have hadd : (⟨w.heap.size, 0, none⟩ : Addr).add j = ⟨w.heap.size, j, none⟩ := by unfold Addr.add; split <;> simp_all
    rw [hadd, World.cell?_alloc_mark, ← Array.getElem?_toList, hcs]
    exact hj
  · intro v' w' hown hgrow _
    refine hk v' w' ⟨?_, ?_, ?_⟩
    · rw [List.length_append, bc_append]; exact hown
    · exact (h.below.alloc hle _).grown hgrow (by simp; omega) (fun k hk => (h.own.lt k hk).1)
    · have := hgrow.size
      simp at this
      omega

/-- 'string(out)'. -/
theorem buf_string {B : Nat} {w0 w : World} {v : Value} {l : List UInt8} (h : Buf B w0 w v l) : (convert 36 9 v).run Yavv.prog w = .ok (.string ⟨l.toArray⟩) w := by
  rcases h.own.2 with ⟨rfl, h0⟩ | ⟨g, cap, cur, rfl, _⟩
  · have : l = [] := List.eq_nil_of_length_eq_zero h0
    subst this
    exact run_convert_bytes_nil w 36 5 Yavv.underlying36 Yavv.underlying5 0 0 9 Yavv.underlying9
  · exact run_convert_bytes_back (P := Yavv.prog) w 36 9 5 ⟨g, 0, none⟩ cap l Yavv.underlying36 Yavv.underlying5 Yavv.underlying9 (fun j hj => h.own.cells (g := g) rfl j _ (by simp [bc, hj]))

theorem buf_next {s : ByteArray} {k B : Nat} {w0 w : World} {v : Value} {x : List UInt8} (h : Buf B w0 w v (PlainA.escTo s k ++ x)) (e : PlainA.part s k = x) : Buf B w0 w v (PlainA.escTo s (k + 1)) := by
  rw [PlainA.escTo, e]; exact h

theorem not_edge0 {k n : Nat} (hk : k < n) (z0 : ((k : Int) == 0) = false) (z1 : ((k : Int) == (n : Int) - 1) = false) : ¬ (k = 0 ∨ k = n - 1) := by
  have a : ¬ (k : Int) = 0 := by simpa using z0
  have b : ¬ (k : Int) = (n : Int) - 1 := by simpa using z1
  omega
theorem edge0 {k n : Nat} (z0 : ((k : Int) == 0) = true) : k = 0 ∨ k = n - 1 := by
  have a : (k : Int) = 0 := by simpa using z0
  omega
theorem edge1 {k n : Nat} (z1 : ((k : Int) == (n : Int) - 1) = true) : k = 0 ∨ k = n - 1 := by
  have b : (k : Int) = (n : Int) - 1 := by simpa using z1
  omega

theorem ret_esc {s : ByteArray} {k : Nat} (h : k = s.size) : Ending.returned (.string ⟨(PlainA.escTo s k).toArray⟩) = .returned (.string (PlainA.esc s)) := by
  subst h; rfl

set_option maxHeartbeats 4000000 in
theorem esc_any (s : ByteArray) (w : World) (hs : s.size ≤ 4096) :
    Calls Yavv.prog 10 #[.string s] w fun e w' => e = .returned (.string (PlainA.esc s)) ∧ Below w.heap.size w w' := by
  go_enter Yavv.func10, Yavv.ntmps10
  go_wp2
  go_loopg [3, 4] s.size (fun g v i wr => ∃ k : Nat, g + k = s.size ∧ i = .int .i64 (k : Int) ∧ Buf w.heap.size w wr v (PlainA.escTo s k))
  case atStart => exact ⟨0, rfl, rfl, ⟨World.ownsRow_nil _ _ _ _, Below.refl _ _, Nat.le_refl _⟩⟩
  case round =>
    obtain ⟨k, hk, rfl, hbuf⟩ := hrel
    have hlen := PlainA.escTo_le s k
    by_cases hlt : k < s.size
    · cases e1 : ((s[k].toNat : Int) == 92)
      · cases e2 : ((s[k].toNat : Int) == 10)
        · cases e3 : ((s[k].toNat : Int) == 13)
          · cases e4 : ((s[k].toNat : Int) == 9)
            · cases e5 : ((s[k].toNat : Int) == 32)
              · -- no blank
                have HP : Hid (PlainA.part s k = [s[k]]) := PlainA.part6 hlt e1 e2 e3 e4 (fun h => absurd h.1 (by simpa using e5))
                go_wp2_with (at_builtin; refine wpList_app hbuf rfl _ _ rfl rfl [s[k]] _ rfl 1 rfl rfl (by omega) (by simp) ?_; intro v' w1 hbuf1)
                go_roundg (gk - 1)
                case measure => omega
                case rel => exact ⟨k + 1, by omega, by go_num, buf_next hbuf1 HP.out⟩
              · cases z0 : ((k : Int) == 0)
                · cases z1 : ((k : Int) == (s.size : Int) - 1)
                  · -- a blank within
                    have HP : Hid (PlainA.part s k = [s[k]]) := PlainA.part6 hlt e1 e2 e3 e4 (fun h => not_edge0 hlt z0 z1 h.2)
                    go_wp2_with (at_builtin; refine wpList_app hbuf rfl _ _ rfl rfl [s[k]] _ rfl 1 rfl rfl (by omega) (by simp) ?_; intro v' w1 hbuf1)
                    go_roundg (gk - 1)
                    case measure => omega
                    case rel => exact ⟨k + 1, by omega, by go_num, buf_next hbuf1 HP.out⟩
                  · -- the last
                    have HP : Hid (PlainA.part s k = [92, 115]) := PlainA.part5 hlt e5 (edge1 z1)
                    go_wp2_with (at_builtin; refine wpList_app hbuf rfl _ _ rfl rfl [92, 115] _ rfl 2 rfl rfl (by omega) (by simp) ?_; intro v' w1 hbuf1)
                    go_roundg (gk - 1)
                    case measure => omega
                    case rel => exact ⟨k + 1, by omega, by go_num, buf_next hbuf1 HP.out⟩
                · -- the first
                  have HP : Hid (PlainA.part s k = [92, 115]) := PlainA.part5 hlt e5 (edge0 z0)
                  go_wp2_with (at_builtin; refine wpList_app hbuf rfl _ _ rfl rfl [92, 115] _ rfl 2 rfl rfl (by omega) (by simp) ?_; intro v' w1 hbuf1)
                  go_roundg (gk - 1)
                  case measure => omega
                  case rel => exact ⟨k + 1, by omega, by go_num, buf_next hbuf1 HP.out⟩
            · -- a tab
              have HP : Hid (PlainA.part s k = [92, 116]) := PlainA.part4 hlt e4
              go_wp2_with (at_builtin; refine wpList_app hbuf rfl _ _ rfl rfl [92, 116] _ rfl 2 rfl rfl (by omega) (by simp) ?_; intro v' w1 hbuf1)
              go_roundg (gk - 1)
              case measure => omega
              case rel => exact ⟨k + 1, by omega, by go_num, buf_next hbuf1 HP.out⟩
          · -- a carriage return
            have HP : Hid (PlainA.part s k = [92, 114]) := PlainA.part3 hlt e3
            go_wp2_with (at_builtin; refine wpList_app hbuf rfl _ _ rfl rfl [92, 114] _ rfl 2 rfl rfl (by omega) (by simp) ?_; intro v' w1 hbuf1)
            go_roundg (gk - 1)
            case measure => omega
            case rel => exact ⟨k + 1, by omega, by go_num, buf_next hbuf1 HP.out⟩
        · -- a newline
          have HP : Hid (PlainA.part s k = [92, 110]) := PlainA.part2 hlt e2
          go_wp2_with (at_builtin; refine wpList_app hbuf rfl _ _ rfl rfl [92, 110] _ rfl 2 rfl rfl (by omega) (by simp) ?_; intro v' w1 hbuf1)
          go_roundg (gk - 1)
          case measure => omega
          case rel => exact ⟨k + 1, by omega, by go_num, buf_next hbuf1 HP.out⟩
      · -- a backslash
        have HP : Hid (PlainA.part s k = [92, 92]) := PlainA.part1 hlt e1
        go_wp2_with (at_builtin; refine wpList_app hbuf rfl _ _ rfl rfl [92, 92] _ rfl 2 rfl rfl (by omega) (by simp) ?_; intro v' w1 hbuf1)
        go_roundg (gk - 1)
        case measure => omega
        case rel => exact ⟨k + 1, by omega, by go_num, buf_next hbuf1 HP.out⟩
    · have hcv := buf_string hbuf
      have HK : Hid (k = s.size) := show k = s.size by omega
      go_wp2
      go_ret
      exact ⟨ret_esc HK.out, hbuf.below⟩

end Go.Proofs.Ymwhav
