/- Arguments opened: what the form's own reading says of a value, in our words. -/
import Derived.Test.YtmiibhegfbgloaaKit
namespace Go.Proofs.Ytmiibhegfbgloaa
open Go.ChangeShapes Go.WideShapes Go.ChangeAt Go.RowKit

section
variable {H : Type} {enc : TypeId × Value → H} {P : Program} {w : World} {spare : Nat → Bool} {held : Bool}
theorem addr_form {a : Addr} {v : Value} (h : w.cell? a = some v) : ∃ b off, a = ⟨b, off, none⟩ ∧ b < w.heap.size := by
  obtain ⟨b, off, spot⟩ := a
  obtain rfl : spot = none := World.cell?_spot h
  exact ⟨b, off, rfl, World.block_lt_of_cell? _ _ h⟩
theorem add_none (b off j : Nat) : (⟨b, off, none⟩ : Addr).add j = ⟨b, off + j, none⟩ := by
  unfold Addr.add
  by_cases hj : j = 0
  · subst hj; rfl
  · simp [hj]

/-- A slice of ints, off its one cell. -/
theorem open_intS_cell {t e : TypeId} {n : Nat} {cs : List Value} {y : DataW H × List MemPlace} (ht : P.underlying t = some (.slice e)) (he : P.underlying e = some (.int .i64)) (hC : P.cellsOf e = 1)
    (hf : DataW.trod enc P w 0 spare held n t cs = some y) : ∃ A l c, cs = [.slice A (List.length l) c] ∧ RdI w 0 w.heap.size A l ∧ I64s l := by
  rcases open_ints ht he hC hf with ⟨rfl, _⟩ | ⟨x, len, c, zs, rfl, _, hl, hm, hz, _, hcell, hwz⟩
  · exact ⟨none, [], 0, rfl, RdI.nil_ rfl, fun n hn => by cases hn⟩
  · have hlen : (zs.take len).length = len := by rw [List.length_take]; split at hz <;> omega
    refine ⟨some x, zs.take len, c, by rw [hlen], fun h0 => ?_, fun n hn => hwz n (List.mem_of_mem_take hn)⟩
    rw [hlen] at h0
    have h1 := hcell 0 (by split at hz <;> omega)
    obtain ⟨b, off, hx, hb⟩ := addr_form h1
    have hb' : x.block < w.heap.size := by
      have := World.block_lt_of_cell? _ _ h1
      unfold Addr.add at this
      split at this <;> exact this
    obtain ⟨xb, xo, xs⟩ := x
    have hs : xs = none := by
      have := World.cell?_spot h1
      simpa [Addr.add] using this
    subst hs
    refine ⟨xb, xo, rfl, Nat.zero_le _, hb', fun j hj => ?_⟩
    rw [hlen] at hj
    have := hcell j (by split at hz <;> omega)
    rw [add_none] at this
    rw [this]
    simp [hj]

theorem open_intS {t e : TypeId} {base : Nat} {v : Value} {d : DataW H} {p : List MemPlace} (ht : P.underlying t = some (.slice e)) (he : P.underlying e = some (.int .i64)) (hC : P.cellsOf e = 1)
    (hv : Value.okWide P w .any base t v) (h : DataW.Trod enc P w 0 spare held t v d p) : ∃ A l c, v = .slice A (List.length l) c ∧ RdI w 0 w.heap.size A l ∧ I64s l := by
  obtain ⟨a0, len0, cap0, rfl⟩ := okWide_slice ht hv
  obtain ⟨n, hf⟩ := h
  obtain ⟨A, l, c, hcs, r⟩ := open_intS_cell ht he hC hf
  simp [Value.cells] at hcs
  obtain ⟨rfl, rfl, rfl⟩ := hcs
  exact ⟨_, l, _, rfl, r⟩

/-- A slice of strings, off its one cell. -/
theorem open_strS_cell {t e : TypeId} {n : Nat} {cs : List Value} {y : DataW H × List MemPlace} (ht : P.underlying t = some (.slice e)) (he : P.underlying e = some .string) (hC : P.cellsOf e = 1)
    (hf : DataW.trod enc P w 0 spare held n t cs = some y) : ∃ A l c, cs = [.slice A (List.length l) c] ∧ RdS w 0 w.heap.size A l ∧ ((∀ x ∈ l, x.size ≤ 9223372036854775807) ∧ l.length ≤ 9223372036854775807) := by
  rcases open_strings ht he hC hf with ⟨rfl, _⟩ | ⟨x, len, c, zs, rfl, _, hl, hm, hz, _, hcell, hwz⟩
  · exact ⟨none, [], 0, rfl, (fun h0 => absurd h0 (by simp)), ⟨(fun n hn => by cases hn), by simp⟩⟩
  · have hlen : (zs.take len).length = len := by rw [List.length_take]; split at hz <;> omega
    refine ⟨some x, zs.take len, c, by rw [hlen], fun h0 => ?_, fun n hn => by have := hwz n (List.mem_of_mem_take hn); unfold maxLen at this; omega, by rw [hlen]; unfold maxLen at hm; omega⟩
    rw [hlen] at h0
    have h1 := hcell 0 (by split at hz <;> omega)
    have hb' : x.block < w.heap.size := by
      have := World.block_lt_of_cell? _ _ h1
      unfold Addr.add at this
      split at this <;> exact this
    obtain ⟨xb, xo, xs⟩ := x
    have hs : xs = none := by
      have := World.cell?_spot h1
      simpa [Addr.add] using this
    subst hs
    refine ⟨xb, xo, rfl, Nat.zero_le _, hb', fun j hj => ?_⟩
    rw [hlen] at hj
    have := hcell j (by split at hz <;> omega)
    rw [add_none] at this
    rw [this]
    simp [hj]
theorem open_strS {t e : TypeId} {base : Nat} {v : Value} {d : DataW H} {p : List MemPlace} (ht : P.underlying t = some (.slice e)) (he : P.underlying e = some .string) (hC : P.cellsOf e = 1)
    (hv : Value.okWide P w .any base t v) (h : DataW.Trod enc P w 0 spare held t v d p) : ∃ A l c, v = .slice A (List.length l) c ∧ RdS w 0 w.heap.size A l ∧ ((∀ x ∈ l, x.size ≤ 9223372036854775807) ∧ l.length ≤ 9223372036854775807) := by
  obtain ⟨a0, len0, cap0, rfl⟩ := okWide_slice ht hv
  obtain ⟨n, hf⟩ := h
  obtain ⟨A, l, c, hcs, r⟩ := open_strS_cell ht he hC hf
  simp [Value.cells] at hcs
  obtain ⟨rfl, rfl, rfl⟩ := hcs
  exact ⟨_, l, _, rfl, r⟩
end
end Go.Proofs.Ytmiibhegfbgloaa
