/-
  THE STATEMENT 'Rows.LawS930012QABWholeSaid', out of the walk (YmwhavLawB). The frame is the guide's own (howto/shells), turned to a slice of records and two strings.
-/
import Derived.Test.YmwhavLawB
import Derived.ProofKit
import Derived.OpenShut
import Derived.ShutString
import Derived.ChangeOld
import Derived.Deep.Slices
import Derived.Deep.Strs
namespace Go.Proofs.Ymwhav.LawB
open Go.ChangeShapes Go.WideShapes Go.ChangeAt Go.RowKit
open Go.ChangeMaps (open_string shut_string)
open Go.Deep (open_slice trod_struct3 choose_lt add_add)

theorem own : ownKnob Yavv.prog.godebug = none := by kernel_rfl
theorem laidOut : laidOutB Yavv.prog = true := by kernel_rfl
theorem cells23 : Yavv.prog.cellsOf 23 = 3 := by kernel_rfl
theorem cells3 : Yavv.prog.cellsOf 3 = 1 := by kernel_rfl
theorem cells9 : Yavv.prog.cellsOf 9 = 1 := by kernel_rfl

/-- A record that is read: its three cells. -/
theorem rec_open {H : Type} {enc : TypeId × Value → H} {W : World} {fuel : Nat} {cs : List Value} {x : DataW H × List MemPlace} (h : DataW.trod enc Yavv.prog W 0 (fun _ => true) true fuel 23 cs = some x) :
    ∃ (k : Int) (n v : ByteArray), cs = [.int .i64 k, .string n, .string v] := by
  obtain ⟨y0, y1, y2, m, _, hl, h0, h1, h2⟩ := trod_struct3 Yavv.underlying23 h
  rw [cells23] at hl
  match cs, hl with
  | [c0, c1, c2], _ =>
    rw [cells3] at h0
    rw [cells9] at h1 h2
    obtain ⟨k, e0, _⟩ := DataW.trod_int Yavv.underlying3 h0
    obtain ⟨n, e1, _⟩ := DataW.trod_string Yavv.underlying9 h1
    obtain ⟨v, e2, _⟩ := DataW.trod_string Yavv.underlying9 h2
    simp at e0 e1 e2
    subst e0 e1 e2
    exact ⟨k, n, v, rfl⟩

/-- A slice of records that is read. -/
theorem recs_open {H : Type} {enc : TypeId × Value → H} {W : World} {fuel : Nat} {a0 : Option Addr} {len0 cap0 : Nat} {x : DataW H × List MemPlace} (h : DataW.trod enc Yavv.prog W 0 (fun _ => true) true fuel 27 [.slice a0 len0 cap0] = some x) :
    ∃ K N V, Recs W a0 len0 K N V := by
  rcases open_slice Yavv.underlying27 h with ⟨hcs, _⟩ | ⟨a, len, cap, m, n, D, Pl, hcs, _, hl, _, hm, _, hx⟩
  · simp at hcs
    exact ⟨fun _ => 0, fun _ => ⟨#[]⟩, fun _ => ⟨#[]⟩, .inl hcs.2.1⟩
  · simp at hcs
    obtain ⟨rfl, rfl, rfl⟩ := hcs
    simp only [if_true] at hm
    subst hm
    by_cases h0 : len0 = 0
    · exact ⟨fun _ => 0, fun _ => ⟨#[]⟩, fun _ => ⟨#[]⟩, .inl h0⟩
    · rw [cells23] at hx
      have hy : ∀ i, i < len0 → ∃ q : Int × ByteArray × ByteArray, W.cell? (a.add (i * 3)) = some (.int .i64 q.1) ∧ W.cell? (a.add (i * 3 + 1)) = some (.string q.2.1) ∧ W.cell? (a.add (i * 3 + 2)) = some (.string q.2.2) := by
        intro i hi
        obtain ⟨cs, h1, h2⟩ := hx i (by omega)
        obtain ⟨k, n, v, rfl⟩ := rec_open h2
        obtain ⟨_, _, hc⟩ := World.cells?_some h1
        refine ⟨(k, n, v), ?_, ?_, ?_⟩
        · simpa [add_add] using hc 0 (by omega)
        · simpa [add_add] using hc 1 (by omega)
        · simpa [add_add] using hc 2 (by omega)
      obtain ⟨Q, hQ⟩ := choose_lt hy
      obtain ⟨b, off, spot⟩ := a
      have hspot : spot = none := by
        have := (hQ 0 (by omega)).1
        simpa [Addr.add] using World.cell?_spot this
      subst hspot
      have hb : b < W.heap.size := by
        have hc0 := (hQ 0 (by omega)).1
        simp only [Nat.zero_mul] at hc0
        rcases Nat.lt_or_ge b W.heap.size with hlt | hge
        · exact hlt
        · simp [Addr.add, World.cell?, Array.getElem?_eq_none hge] at hc0
      have hadd : ∀ j, (⟨b, off, none⟩ : Addr).add j = ⟨b, off + j, none⟩ := fun j => by unfold Addr.add; split <;> simp_all
      refine ⟨fun i => (Q i).1, fun i => (Q i).2.1, fun i => (Q i).2.2, .inr ⟨b, off, rfl, hb, fun i hi => ?_⟩⟩
      obtain ⟨q0, q1, q2⟩ := hQ i hi
      rw [hadd] at q0 q1 q2
      exact ⟨q0, q1, q2⟩

set_option maxRecDepth 100000 in
theorem lifted (os : Os) (started : os.Started) (H : Type) (enc : TypeId × Value → H) :
    ReturnsInHanded {} Yavv.checked os 4 .any (Rows.lawS930012QABWholeSpec.pre6 enc Yavv.prog Yavv.f4 Rows.lawS930012QABWholeRow.domain false) (Rows.lawS930012QABWholeSpec.post enc Yavv.prog Yavv.f4 false true false false) := by
  refine returnsInHanded_of_change (C := Yavv.checked) own started (by kernel_rfl) Yavv.func4
    (ChangeSpec.witness6 (enc := enc) (C := Yavv.checked) false ⟨#[], #[.slice none 0 0, .string ByteArray.empty, .string ByteArray.empty], []⟩ 8 (by kernel_rfl) (by kernel_rfl) (by kernel_rfl) (by kernel_rfl)) ?_
  intro W base args ds gs before hval0 hW hcnd _
  have hval : ∀ (j : Nat) t v, Yavv.f4.params[j]? = some t → args[j]? = some v → Value.okWide Yavv.prog W .any base t v := hval0
  have hW' := hW
  obtain ⟨p, q, hA0, hV, rfl, hfz, hnd⟩ := hW
  have hA : DataW.TrodAll enc Yavv.prog W 0 (fun _ => true) true Yavv.f4.params.toList args.toList ds p := hA0
  rw [Yavv.params4] at hA hval
  obtain ⟨v0, vs0, d0, ds0, p0, q0, hargs, rfl, rfl, h0, r0⟩ := trodAll_cons hA
  obtain ⟨v1, vs1, d1, ds1, p1, q1, rfl, rfl, rfl, h1, r1⟩ := trodAll_cons r0
  obtain ⟨v2, vs2, d2, ds2, p2, q2, rfl, rfl, rfl, h2, r2⟩ := trodAll_cons r1
  obtain ⟨rfl, rfl, rfl⟩ := trodAll_nil r2
  obtain rfl : args = #[v0, v1, v2] := by cases args; simp_all
  obtain ⟨rfl, rfl⟩ := trodVars_none hV
  obtain ⟨a0, len0, cap0, rfl⟩ := okWide_slice Yavv.underlying27 (hval 0 27 v0 rfl rfl)
  have k0 := h0
  have lt0 : ∀ x ∈ p0, x.block < W.heap.size := by obtain ⟨m, hm⟩ := k0; exact DataW.trod_lt m _ _ _ hm
  obtain ⟨K, N, V, w0⟩ : ∃ K N V, Recs W a0 len0 K N V := by
    obtain ⟨fuel, hf⟩ := h0
    exact recs_open (by simpa [Value.cells] using hf)
  obtain ⟨s1, rfl, rfl, rfl, hs1⟩ := open_string Yavv.underlying9 (hval 1 9 v1 rfl rfl) h1
  obtain ⟨s2, rfl, rfl, rfl, hs2⟩ := open_string Yavv.underlying9 (hval 2 9 v2 rfl rfl) h2
  clear hA0 hval0
  refine (law_any a0 len0 cap0 K N V s1 s2 W w0).mono fun e W' ⟨he, bel⟩ => ?_
  subst he
  exact ⟨_, rfl, _, _, _, [], _, [], hW', trodAll_mk1 (shut_bool Yavv.underlying4 _), (trodAll_cons_mk (Below.trod laidOut (by kernel_rfl) (of_decide_eq_true (by kernel_rfl)) k0 bel lt0) (trodAll_cons_mk (shut_string Yavv.underlying9 hs1) (trodAll_cons_mk (shut_string Yavv.underlying9 hs2) trodAll_mk0))), rfl, bel.frame _, fun h => by cases h⟩

theorem over : Rows.lawS930012QABWholeRow.holds Yavv.pinned (OpenSpec.ofChange Rows.lawS930012QABWholeSpec) :=
  OpenClaim.holds_of_wide 4 Yavv.f4 rfl rfl rfl rfl rfl rfl rfl ⟨rfl, rfl, rfl, rfl, rfl⟩ rfl rfl rfl rfl rfl (by kernel_rfl) Yavv.func4 (by kernel_rfl)
    (of_decide_eq_true (by kernel_rfl)) (by unfold Func.isWrapper; first | (rw [if_pos (by decide +kernel)]; kernel_rfl) | (rw [if_neg (by decide +kernel)]; exact ⟨rfl, rfl⟩))
    (fun os started H enc _ => lifted os started H enc)

end Go.Proofs.Ymwhav.LawB

namespace Go.Proofs.Ymwhav
/-- THE STATEMENT. -/
theorem lawBProved : Rows.LawS930012QABWholeSaid := LawB.over
end Go.Proofs.Ymwhav
