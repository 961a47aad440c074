/-
  THE LAWS FOR LawS930012QABWhole: 'make' and 'copy' on slices of records (three cells an element).
-/
import Derived.Test.YmwhavSame
import Derived.Laws.CopyRow
import Derived.Laws.MakeOwn
namespace Go.Proofs.Ymwhav
open Go.RowKit

theorem info23 : (Yavv.prog.info? 23).map (fun i => (i.zero, i.size, i.bytes)) = some (some (.agg #[.int .i64 0, .string ⟨#[]⟩, .string ⟨#[]⟩]), 3, 40) := by kernel_rfl

/-- What 'make([]Record, n)' lays. -/
def blank (n : Nat) : Array Value := madeCells #[.int .i64 0, .string ⟨#[]⟩, .string ⟨#[]⟩] (n * 3)
theorem size_blank (n : Nat) : (blank n).size = n * 3 := size_madeCells _ _

theorem blank_cell (n i : Nat) (hi : i < n) : (blank n)[i * 3]? = some (.int .i64 0) ∧ (blank n)[i * 3 + 1]? = some (.string ⟨#[]⟩) ∧ (blank n)[i * 3 + 2]? = some (.string ⟨#[]⟩) := by
  refine ⟨?_, ?_, ?_⟩
  · have h : i * 3 < n * 3 := by omega
    have e : i * 3 % 3 = 0 := by omega
    simp [blank, madeCells, h, e]
  · have h : i * 3 + 1 < n * 3 := by omega
    have e : (i * 3 + 1) % 3 = 1 := by omega
    simp [blank, madeCells, h, e]
  · have h : i * 3 + 2 < n * 3 := by omega
    have e : (i * 3 + 2) % 3 = 2 := by omega
    simp [blank, madeCells, h, e]

theorem run_make_recs (n : Nat) (hn : n ≤ 1024) (w : World) :
    (Instr.makeSlice 27 (.int .i64 (n : Int)) (.int .i64 (n : Int))).run Yavv.prog w = .ok (.slice (some ⟨w.heap.size, 0, none⟩) n n) (w.alloc (.cells (blank n) 23)) := by
  obtain ⟨i, hi, hzz⟩ := Option.map_eq_some_iff.1 info23
  simp only [Prod.mk.injEq] at hzz
  obtain ⟨hz, hs, hb⟩ := hzz
  have hr := run_make (P := Yavv.prog) w 27 23 i _ Yavv.underlying27 hi hz .i64 .i64 n n (by omega) (Int.le_refl _) (by rw [hb]; omega) (by omega)
  simp only [Int.toNat_natCast, hs] at hr
  exact hr

/-- The cells of n records, one behind the other. -/
def recCell (K : Nat → Int) (N V : Nat → ByteArray) (j : Nat) : Value :=
  if j % 3 = 0 then .int .i64 (K (j / 3)) else if j % 3 = 1 then .string (N (j / 3)) else .string (V (j / 3))
def recCells (n : Nat) (K : Nat → Int) (N V : Nat → ByteArray) : List Value := (List.range (n * 3)).map (recCell K N V)

theorem recCells_length (n : Nat) (K : Nat → Int) (N V : Nat → ByteArray) : (recCells n K N V).length = n * 3 := by simp [recCells]

theorem recCell_at (K : Nat → Int) (N V : Nat → ByteArray) (i : Nat) : recCell K N V (i * 3) = .int .i64 (K i) ∧ recCell K N V (i * 3 + 1) = .string (N i) ∧ recCell K N V (i * 3 + 2) = .string (V i) := by
  have e0 : i * 3 % 3 = 0 := by omega
  have e1 : (i * 3 + 1) % 3 = 1 := by omega
  have e2 : (i * 3 + 2) % 3 = 2 := by omega
  have d0 : i * 3 / 3 = i := by omega
  have d1 : (i * 3 + 1) / 3 = i := by omega
  have d2 : (i * 3 + 2) / 3 = i := by omega
  simp [recCell, e0, e1, e2, d0, d1, d2]

theorem recCells_one (n : Nat) (K : Nat → Int) (N V : Nat → ByteArray) : ∀ v ∈ recCells n K N V, v.oneCell' = true := by
  intro v hv
  simp only [recCells, List.mem_map] at hv
  obtain ⟨j, _, rfl⟩ := hv
  unfold recCell
  split
  · rfl
  · split <;> rfl

theorem Row.src {w : World} {b off n : Nat} {K : Nat → Int} {N V : Nat → ByteArray} (h : Row w b off n K N V) : ∀ j v, (recCells n K N V)[j]? = some v → w.cell? ((⟨b, off, none⟩ : Addr).add j) = some v := by
  intro j v hj
  have hlt : j < n * 3 := by
    have := (List.getElem?_eq_some_iff.1 hj).1
    rwa [recCells_length] at this
  have hv : recCell K N V j = v := by
    simp [recCells, hlt] at hj
    exact hj
  have hadd : (⟨b, off, none⟩ : Addr).add j = ⟨b, off + j, none⟩ := by unfold Addr.add; split <;> simp_all
  rw [hadd, ← hv]
  obtain ⟨h0, h1, h2⟩ := h (j / 3) (by omega)
  obtain ⟨r0, r1, r2⟩ := recCell_at K N V (j / 3)
  have hm : j = j / 3 * 3 ∨ j = j / 3 * 3 + 1 ∨ j = j / 3 * 3 + 2 := by omega
  rcases hm with hm | hm | hm
  · rw [hm, r0]; exact h0
  · rw [hm, r1]; exact h1
  · rw [hm, r2]; exact h2

/-- 'copy(c, recs)' into a row of the call's own that is as long. -/
theorem run_copy_recs (g n cap : Nat) (ao : Option Addr) (K : Nat → Int) (N V : Nat → ByteArray) (w : World) (cur : Array Value) (hsz : cur.size = n * 3)
    (hg : w.heap[g]? = some (.cells cur 23 (0, 0))) (h : Recs w ao n K N V) :
    ∃ w', (∀ ty : TypeId, (Builtin.copy_ #[27, 27] ty #[.slice (some ⟨g, 0, none⟩) n n, .slice ao n cap]).run Yavv.prog w = .ok (goInt n) w') ∧ w'.heap.size = w.heap.size ∧ Below g w w' ∧ Row w' g 0 n K N V := by
  have hs : (Yavv.prog.info? 23).map (·.size) = some 3 := by kernel_rfl
  cases hq : Yavv.prog.info? 23 with
  | none => simp [hq] at hs
  | some i =>
    have hi : i.size = 3 := by simpa [hq] using hs
    rcases h with rfl | ⟨b, off, rfl, hb, hc⟩
    · refine ⟨w, ?_, rfl, Below.refl _ _, fun i hi => absurd hi (by omega)⟩
      have hl : ∀ (x : Addr), (loadCells x 0).run Yavv.prog w = .ok #[] w := fun x => by simpa using run_loadCells_list (P := Yavv.prog) w x [] (by simp)
      intro ty
      cases ao <;> simp [Builtin.copy_, run_underlying Yavv.underlying27, Builtin.lenOf, Builtin.firstCells, sizeOf, typeInfo, hq, storeCells, hl]
    · have hl := run_loadCells_list (P := Yavv.prog) w ⟨b, off, none⟩ _ hc.src
      have hst := run_storeCells_at Yavv.prog g 0 23 (recCells n K N V) 0 cur w hg (by rw [recCells_length]; omega) (recCells_one n K N V)
      rw [recCells_length] at hl
      have hlist : (cur.toList.take (0 + 0) ++ recCells n K N V ++ cur.toList.drop (0 + 0 + (recCells n K N V).length)).toArray = (recCells n K N V).toArray := by
        rw [List.drop_eq_nil_of_le (by rw [recCells_length]; simp [hsz])]
        simp
      rw [hlist] at hst
      refine ⟨w.setRow g (recCells n K N V).toArray, ?_, ?_, ?_, ?_⟩
      · intro ty; simp [Builtin.copy_, run_underlying Yavv.underlying27, Builtin.lenOf, Builtin.firstCells, sizeOf, typeInfo, hq, hi, hl, hst]
      · simp [World.setRow]
      · exact ⟨rfl, rfl, rfl, by simp [World.setRow], fun k hk => setRow_other w g k _ (by omega)⟩
      · intro j hj
        obtain ⟨r0, r1, r2⟩ := recCell_at K N V j
        have h0 : j * 3 < n * 3 := by omega
        have h1 : j * 3 + 1 < n * 3 := by omega
        have h2 : j * 3 + 2 < n * 3 := by omega
        refine ⟨?_, ?_, ?_⟩
        · rw [Nat.zero_add, cell_setRow_same w g _ cur _ 23 _ hg]; simp [recCells, h0, r0]
        · rw [Nat.zero_add, cell_setRow_same w g _ cur _ 23 _ hg]; simp [recCells, h1, r1]
        · rw [Nat.zero_add, cell_setRow_same w g _ cur _ 23 _ hg]; simp [recCells, h2, r2]

end Go.Proofs.Ymwhav
