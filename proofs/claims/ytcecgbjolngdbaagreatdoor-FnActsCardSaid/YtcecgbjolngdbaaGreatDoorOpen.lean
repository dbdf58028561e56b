/- Arguments opened: what the form's own reading says of a value, in our words. -/
import Derived.Test.YtcecgbjolngdbaaGreatDoorKit
import Derived.Test.YtcecgbjolngdbaaGreatDoorPlainMd
import Derived.Lib.SmallJoins
import Derived.Deep.Slices
import Derived.Deep.Fields
import Derived.ChangeSame
namespace Go.Proofs.YtcecgbjolngdbaaGreatDoor
open Go.ChangeShapes Go.WideShapes Go.ChangeAt Go.RowKit Go.Deep

section
variable {H : Type} {enc : TypeId × Value → H} {P : Program} {w : World} {spare : Nat → Bool} {held : Bool}
theorem addr_form {a : Addr} {v : Value} (h : w.cell? a = some v) : ∃ b off, a = ⟨b, off, none⟩ ∧ b < w.heap.size := by
  obtain ⟨b, off, spot⟩ := a
  obtain rfl : spot = none := World.cell?_spot h
  exact ⟨b, off, rfl, World.block_lt_of_cell? _ _ h⟩
theorem add_none (b off j : Nat) : (⟨b, off, none⟩ : Addr).add j = ⟨b, off + j, none⟩ := by
  unfold Addr.add
  by_cases hj : j = 0
  · subst hj; rfl
  · simp [hj]

/-- A slice of ints, off its one cell. -/
theorem open_intS_cell {t e : TypeId} {n : Nat} {cs : List Value} {y : DataW H × List MemPlace} (ht : P.underlying t = some (.slice e)) (he : P.underlying e = some (.int .i64)) (hC : P.cellsOf e = 1)
    (hf : DataW.trod enc P w 0 spare held n t cs = some y) : ∃ A l c, cs = [.slice A (List.length l) c] ∧ RdI w 0 w.heap.size A l ∧ I64s l ∧ l.length ≤ 9223372036854775807 := by
  rcases open_ints ht he hC hf with ⟨rfl, _⟩ | ⟨x, len, c, zs, rfl, _, hl, hm, hz, _, hcell, hwz⟩
  · exact ⟨none, [], 0, rfl, RdI.nil_ rfl, (fun n hn => by cases hn), by simp⟩
  · have hlen : (zs.take len).length = len := by rw [List.length_take]; split at hz <;> omega
    refine ⟨some x, zs.take len, c, by rw [hlen], fun h0 => ?_, fun n hn => hwz n (List.mem_of_mem_take hn), by rw [hlen]; unfold maxLen at hm; omega⟩
    rw [hlen] at h0
    have h1 := hcell 0 (by split at hz <;> omega)
    obtain ⟨b, off, hx, hb⟩ := addr_form h1
    have hb' : x.block < w.heap.size := by
      have := World.block_lt_of_cell? _ _ h1
      unfold Addr.add at this
      split at this <;> exact this
    obtain ⟨xb, xo, xs⟩ := x
    have hs : xs = none := by
      have := World.cell?_spot h1
      simpa [Addr.add] using this
    subst hs
    refine ⟨xb, xo, rfl, Nat.zero_le _, hb', fun j hj => ?_⟩
    rw [hlen] at hj
    have := hcell j (by split at hz <;> omega)
    rw [add_none] at this
    rw [this]
    simp [hj]

theorem open_intS {t e : TypeId} {base : Nat} {v : Value} {d : DataW H} {p : List MemPlace} (ht : P.underlying t = some (.slice e)) (he : P.underlying e = some (.int .i64)) (hC : P.cellsOf e = 1)
    (hv : Value.okWide P w .any base t v) (h : DataW.Trod enc P w 0 spare held t v d p) : ∃ A l c, v = .slice A (List.length l) c ∧ RdI w 0 w.heap.size A l ∧ I64s l := by
  obtain ⟨a0, len0, cap0, rfl⟩ := okWide_slice ht hv
  obtain ⟨n, hf⟩ := h
  obtain ⟨A, l, c, hcs, r⟩ := open_intS_cell ht he hC hf
  simp [Value.cells] at hcs
  obtain ⟨rfl, rfl, rfl⟩ := hcs
  exact ⟨_, l, _, rfl, r.1, r.2.1⟩

/-- A slice of strings, off its one cell. -/
theorem open_strS_cell {t e : TypeId} {n : Nat} {cs : List Value} {y : DataW H × List MemPlace} (ht : P.underlying t = some (.slice e)) (he : P.underlying e = some .string) (hC : P.cellsOf e = 1)
    (hf : DataW.trod enc P w 0 spare held n t cs = some y) : ∃ A l c, cs = [.slice A (List.length l) c] ∧ RdS w 0 w.heap.size A l ∧ ((∀ x ∈ l, x.size ≤ 9223372036854775807) ∧ l.length ≤ 9223372036854775807) := by
  rcases open_strings ht he hC hf with ⟨rfl, _⟩ | ⟨x, len, c, zs, rfl, _, hl, hm, hz, _, hcell, hwz⟩
  · exact ⟨none, [], 0, rfl, (fun h0 => absurd h0 (by simp)), ⟨(fun n hn => by cases hn), by simp⟩⟩
  · have hlen : (zs.take len).length = len := by rw [List.length_take]; split at hz <;> omega
    refine ⟨some x, zs.take len, c, by rw [hlen], fun h0 => ?_, fun n hn => by have := hwz n (List.mem_of_mem_take hn); unfold maxLen at this; omega, by rw [hlen]; unfold maxLen at hm; omega⟩
    rw [hlen] at h0
    have h1 := hcell 0 (by split at hz <;> omega)
    have hb' : x.block < w.heap.size := by
      have := World.block_lt_of_cell? _ _ h1
      unfold Addr.add at this
      split at this <;> exact this
    obtain ⟨xb, xo, xs⟩ := x
    have hs : xs = none := by
      have := World.cell?_spot h1
      simpa [Addr.add] using this
    subst hs
    refine ⟨xb, xo, rfl, Nat.zero_le _, hb', fun j hj => ?_⟩
    rw [hlen] at hj
    have := hcell j (by split at hz <;> omega)
    rw [add_none] at this
    rw [this]
    simp [hj]
theorem open_strS {t e : TypeId} {base : Nat} {v : Value} {d : DataW H} {p : List MemPlace} (ht : P.underlying t = some (.slice e)) (he : P.underlying e = some .string) (hC : P.cellsOf e = 1)
    (hv : Value.okWide P w .any base t v) (h : DataW.Trod enc P w 0 spare held t v d p) : ∃ A l c, v = .slice A (List.length l) c ∧ RdS w 0 w.heap.size A l ∧ ((∀ x ∈ l, x.size ≤ 9223372036854775807) ∧ l.length ≤ 9223372036854775807) := by
  obtain ⟨a0, len0, cap0, rfl⟩ := okWide_slice ht hv
  obtain ⟨n, hf⟩ := h
  obtain ⟨A, l, c, hcs, r⟩ := open_strS_cell ht he hC hf
  simp [Value.cells] at hcs
  obtain ⟨rfl, rfl, rfl⟩ := hcs
  exact ⟨_, l, _, rfl, r⟩

/-- One struct's cells, read field by field (each field one cell). -/
theorem elem_fields {e : TypeId} {fs : Array Field} (he : P.underlying e = some (.struct fs)) (hone : oneCellFields P fs = true) {a : Addr} {o sz n : Nat} (hsz : sz = fs.size) {cs : List Value} {y : DataW H × List MemPlace}
    (hc : w.cells? 0 (a.add o) sz = some cs) (ht : DataW.trod enc P w 0 spare held n e cs = some y) :
    ∃ k, ∀ (j : Nat) (f : Field), fs[j]? = some f → ∃ (v : Value) (z : DataW H × List MemPlace), w.cell? (a.add (o + j)) = some v ∧ DataW.trod enc P w 0 spare held k f.type [v] = some z := by
  subst hsz
  obtain ⟨ys, k, _, _, hlen, hyl, hf⟩ := DataW.trod_struct he ht
  obtain ⟨_, hcl, hat⟩ := World.cells?_some hc
  refine ⟨k, fun j f hj => ?_⟩
  obtain ⟨hoff, hk⟩ := hone_of hone j f hj
  have hjl : j < fs.size := (Array.getElem?_eq_some_iff.1 hj).1
  have hjc : j < cs.length := by omega
  have h1 := hf j f hj
  rw [hoff, hk, show (cs.drop j).take 1 = [cs[j]] from by rw [List.drop_eq_getElem_cons hjc]; rfl] at h1
  have h2 := hat j hjl
  rw [List.getElem?_eq_getElem hjc, add_add] at h2
  exact ⟨cs[j], ys[j]'(by omega), h2, by rw [h1, List.getElem?_eq_getElem (by omega)]⟩

/-- A slice of structs of two ints, off its one cell. -/
theorem open_stepS_cell {t e : TypeId} {n : Nat} {cs : List Value} {y : DataW H × List MemPlace} {f0 f1 : Field} (ht : P.underlying t = some (.slice e)) (he : P.underlying e = some (.struct #[f0, f1]))
    (hone : oneCellFields P #[f0, f1] = true) (hC : P.cellsOf e = 2) (h0 : P.underlying f0.type = some (.int .i64)) (h1 : P.underlying f1.type = some (.int .i64))
    (hf : DataW.trod enc P w 0 spare held n t cs = some y) : ∃ A l c, cs = [.slice A (List.length l) c] ∧ RdSt w 0 w.heap.size A l ∧ l.length ≤ 9223372036854775807 := by
  rcases open_slice ht hf with ⟨rfl, _⟩ | ⟨a, len, cap, m, k, D, Pl, rfl, _, hl, hm, hmm, _, hi⟩
  · exact ⟨none, [], 0, rfl, (fun h0 => absurd h0 (by simp)), by simp⟩
  · have hlm : len ≤ m := by rw [hmm]; split <;> omega
    have H : ∀ i, i < len → ∃ p : Int × Int, w.cell? (a.add (i * 2)) = some (.int .i64 p.1) ∧ w.cell? (a.add (i * 2 + 1)) = some (.int .i64 p.2) := by
      intro i hil
      obtain ⟨cs', hcs', hts'⟩ := hi i (by omega)
      rw [hC] at hcs'
      obtain ⟨k', hfl⟩ := elem_fields he hone rfl hcs' hts'
      obtain ⟨v0, y0, c0, t0⟩ := hfl 0 f0 rfl
      obtain ⟨v1, y1, c1, t1⟩ := hfl 1 f1 rfl
      obtain ⟨x0, e0, _, _⟩ := DataW.trod_int h0 t0
      obtain ⟨x1, e1, _, _⟩ := DataW.trod_int h1 t1
      simp at e0 e1
      subst e0 e1
      exact ⟨(x0, x1), c0, c1⟩
    let f : Nat → Int × Int := fun i => if h : i < len then Classical.choose (H i h) else (0, 0)
    have hfs : ∀ i, i < len → w.cell? (a.add (i * 2)) = some (.int .i64 (f i).1) ∧ w.cell? (a.add (i * 2 + 1)) = some (.int .i64 (f i).2) := by
      intro i hil
      have : f i = Classical.choose (H i hil) := dif_pos hil
      rw [this]
      exact Classical.choose_spec (H i hil)
    clear_value f
    refine ⟨some a, (List.range len).map f, cap, by simp, fun hpos => ?_, by simp; unfold maxLen at hm; omega⟩
    simp only [List.length_map, List.length_range] at hpos
    have h1 := (hfs 0 hpos).1
    have hb' : a.block < w.heap.size := by
      have := World.block_lt_of_cell? _ _ h1
      unfold Addr.add at this
      split at this <;> exact this
    obtain ⟨xb, xo, xs⟩ := a
    have hs : xs = none := by
      have := World.cell?_spot h1
      simpa [Addr.add] using this
    subst hs
    refine ⟨xb, xo, rfl, Nat.zero_le _, hb', fun j hj => ?_⟩
    simp only [List.length_map, List.length_range] at hj
    have := hfs j hj
    rw [add_none, add_none] at this
    have e : ((List.range len).map f).getD j (0, 0) = f j := by simp [hj]
    rw [e]
    exact this
theorem open_stepS {t e : TypeId} {base : Nat} {v : Value} {d : DataW H} {p : List MemPlace} {f0 f1 : Field} (ht : P.underlying t = some (.slice e)) (he : P.underlying e = some (.struct #[f0, f1]))
    (hone : oneCellFields P #[f0, f1] = true) (hC : P.cellsOf e = 2) (h0 : P.underlying f0.type = some (.int .i64)) (h1 : P.underlying f1.type = some (.int .i64))
    (hv : Value.okWide P w .any base t v) (h : DataW.Trod enc P w 0 spare held t v d p) : ∃ A l c, v = .slice A (List.length l) c ∧ RdSt w 0 w.heap.size A l ∧ l.length ≤ 9223372036854775807 := by
  obtain ⟨a0, len0, cap0, rfl⟩ := okWide_slice ht hv
  obtain ⟨n, hf⟩ := h
  obtain ⟨A, l, c, hcs, r⟩ := open_stepS_cell ht he hone hC h0 h1 hf
  simp [Value.cells] at hcs
  obtain ⟨rfl, rfl, rfl⟩ := hcs
  exact ⟨_, l, _, rfl, r⟩

/-- A mode by value: an int and two slices of ints. -/
theorem open_mode {t : TypeId} {base : Nat} {v : Value} {d : DataW H} {p : List MemPlace} {f0 f1 f2 : Field} {e : TypeId} (ht : P.underlying t = some (.struct #[f0, f1, f2])) (hone : oneCellFields P #[f0, f1, f2] = true) (hC : P.cellsOf t = 3)
    (h0 : P.underlying f0.type = some (.int .i64)) (h1 : P.underlying f1.type = some (.slice e)) (h2 : P.underlying f2.type = some (.slice e)) (he : P.underlying e = some (.int .i64)) (hCe : P.cellsOf e = 1)
    (hv : Value.okWide P w .any base t v) (h : DataW.Trod enc P w 0 spare held t v d p) :
    ∃ U C m cu cc, v = .agg #[.int .i64 (Md.dur m), .slice U m.use.length cu, .slice C m.con.length cc] ∧ RdI w 0 w.heap.size U m.use ∧ RdI w 0 w.heap.size C m.con ∧ (m.use.length ≤ 9223372036854775807 ∧ m.con.length ≤ 9223372036854775807) := by
  obtain ⟨c0, c1, c2, y0, y1, y2, n, rfl, _, _, t0, t1, t2⟩ := Go.Joins.open_agg3 ht hone hC hv h
  obtain ⟨x0, e0, _, _⟩ := DataW.trod_int h0 t0
  obtain ⟨U, lu, cu, e1, r1, _, b1⟩ := open_intS_cell h1 he hCe t1
  obtain ⟨C, lc, cc, e2, r2, _, b2⟩ := open_intS_cell h2 he hCe t2
  simp at e0 e1 e2
  subst e0 e1 e2
  refine ⟨U, C, ⟨x0, lu, lc⟩, cu, cc, rfl, r1, r2, b1, b2⟩
end
end Go.Proofs.YtcecgbjolngdbaaGreatDoor
