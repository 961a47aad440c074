/-
  THE STATEMENT 'Rows.LawS930012QAAWholeSaid', out of the walk (YmwhavLawA). The frame is the guide's own (howto/shells), turned to one struct that is handed by value.
-/
import Derived.Test.YmwhavLawA
import Derived.ProofKit
import Derived.OpenShut
import Derived.ChangeOld
import Derived.Lib.SmallJoins
namespace Go.Proofs.Ymwhav.LawA
open Go.ChangeShapes Go.WideShapes Go.ChangeAt Go.RowKit
open Go.Joins (open_agg3)

theorem own : ownKnob Yavv.prog.godebug = none := by kernel_rfl
theorem laidOut : laidOutB Yavv.prog = true := by kernel_rfl
theorem cells23 : Yavv.prog.cellsOf 23 = 3 := by kernel_rfl

set_option maxRecDepth 100000 in
theorem lifted (os : Os) (started : os.Started) (H : Type) (enc : TypeId × Value → H) :
    ReturnsInHanded {} Yavv.checked os 3 .any (Rows.lawS930012QAAWholeSpec.pre6 enc Yavv.prog Yavv.f3 Rows.lawS930012QAAWholeRow.domain false) (Rows.lawS930012QAAWholeSpec.post enc Yavv.prog Yavv.f3 false true false false) := by
  refine returnsInHanded_of_change (C := Yavv.checked) own started (by kernel_rfl) Yavv.func3
    (ChangeSpec.witness6 (enc := enc) (C := Yavv.checked) false ⟨#[], #[.agg #[.int .i64 0, .string ByteArray.empty, .string ByteArray.empty]], []⟩ 8 (by kernel_rfl) (by kernel_rfl) (by kernel_rfl) (by kernel_rfl)) ?_
  intro W base args ds gs before hval0 hW hcnd _
  have hval : ∀ (j : Nat) t v, Yavv.f3.params[j]? = some t → args[j]? = some v → Value.okWide Yavv.prog W .any base t v := hval0
  have hW' := hW
  obtain ⟨p, q, hA0, hV, rfl, hfz, hnd⟩ := hW
  have hA : DataW.TrodAll enc Yavv.prog W 0 (fun _ => true) true Yavv.f3.params.toList args.toList ds p := hA0
  rw [Yavv.params3] at hA hval
  obtain ⟨v0, vs0, d0, ds0, p0, q0, hargs, rfl, rfl, h0, r0⟩ := trodAll_cons hA
  obtain ⟨rfl, rfl, rfl⟩ := trodAll_nil r0
  obtain rfl : args = #[v0] := by cases args; simp_all
  obtain ⟨rfl, rfl⟩ := trodVars_none hV
  have k0 := h0
  have lt0 : ∀ x ∈ p0, x.block < W.heap.size := by obtain ⟨m, hm⟩ := k0; exact DataW.trod_lt m _ _ _ hm
  obtain ⟨k, n, v, hv0⟩ : ∃ (k : Int) (n v : ByteArray), v0 = .agg #[.int .i64 k, .string n, .string v] := by
    obtain ⟨c0, c1, c2, y0, y1, y2, m, hv, _, _, t0, t1, t2⟩ := open_agg3 Yavv.underlying23 (by kernel_rfl) cells23 (hval 0 23 v0 rfl rfl) h0
    obtain ⟨k, e0, _⟩ := DataW.trod_int Yavv.underlying3 t0
    obtain ⟨n, e1, _⟩ := DataW.trod_string Yavv.underlying9 t1
    obtain ⟨v, e2, _⟩ := DataW.trod_string Yavv.underlying9 t2
    simp at e0 e1 e2
    subst e0 e1 e2
    exact ⟨k, n, v, hv⟩
  subst hv0
  clear hA0 hval0
  refine (lawA_any k n v W).mono fun e W' ⟨he, bel⟩ => ?_
  subst he
  exact ⟨_, rfl, _, _, _, [], _, [], hW', trodAll_mk1 (shut_bool Yavv.underlying4 _), (trodAll_cons_mk (Below.trod laidOut (by kernel_rfl) (of_decide_eq_true (by kernel_rfl)) k0 bel lt0) trodAll_mk0), rfl, bel.frame _, fun h => by cases h⟩

theorem over : Rows.lawS930012QAAWholeRow.holds Yavv.pinned (OpenSpec.ofChange Rows.lawS930012QAAWholeSpec) :=
  OpenClaim.holds_of_wide 3 Yavv.f3 rfl rfl rfl rfl rfl rfl rfl ⟨rfl, rfl, rfl, rfl, rfl⟩ rfl rfl rfl rfl rfl (by kernel_rfl) Yavv.func3 (by kernel_rfl)
    (of_decide_eq_true (by kernel_rfl)) (by unfold Func.isWrapper; first | (rw [if_pos (by decide +kernel)]; kernel_rfl) | (rw [if_neg (by decide +kernel)]; exact ⟨rfl, rfl⟩))
    (fun os started H enc _ => lifted os started H enc)

end Go.Proofs.Ymwhav.LawA

namespace Go.Proofs.Ymwhav
/-- THE STATEMENT. -/
theorem lawAProved : Rows.LawS930012QAAWholeSaid := LawA.over
end Go.Proofs.Ymwhav
