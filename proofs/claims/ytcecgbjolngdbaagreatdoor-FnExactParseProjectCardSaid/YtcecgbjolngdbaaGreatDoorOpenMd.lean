/- Arguments opened: rows of structs, activities, resources, projects. -/
import Derived.Test.YtcecgbjolngdbaaGreatDoorOpen
import Derived.Test.YtcecgbjolngdbaaGreatDoorKitMd
namespace Go.Proofs.YtcecgbjolngdbaaGreatDoor
open Go.ChangeShapes Go.WideShapes Go.ChangeAt Go.RowKit Go.Deep

section
variable {H : Type} {enc : TypeId × Value → H} {P : Program} {w : World} {spare : Nat → Bool} {held : Bool}
theorem WfL.intro {α : Type} {W : α → Prop} {d : α} {l : List α} (h1 : l.length ≤ 9223372036854775807) (h2 : ∀ j, j < l.length → W (l.getD j d)) : WfL W d l := ⟨h1, h2⟩
/-- A row whose elements can be opened one by one. -/
theorem open_rows {α : Type} {R : Reads α} {W : α → Prop} {d : α} {t e : TypeId} {n sz : Nat} {cs : List Value} {y : DataW H × List MemPlace} (ht : P.underlying t = some (.slice e)) (hC : P.cellsOf e = sz) (hsz : 0 < sz) (hRs : ∀ v a, R w 0 w.heap.size v a → v.size = sz)
    (hE : ∀ (a : Addr) (o : Nat) (k : Nat) (ds : List Value) (z : DataW H × List MemPlace), w.cells? 0 (a.add o) sz = some ds → DataW.trod enc P w 0 spare held k e ds = some z → ∃ (x : α) (v : Array Value), R w 0 w.heap.size v x ∧ W x ∧ ∀ i, i < sz → w.cell? (a.add (o + i)) = v[i]?)
    (hf : DataW.trod enc P w 0 spare held n t cs = some y) : ∃ A l c, cs = [.slice A (List.length l) c] ∧ RdG sz R d w 0 w.heap.size A l ∧ WfL W d l := by
  rcases open_slice ht hf with ⟨rfl, _⟩ | ⟨a, len, cap, m, k, D, Pl, rfl, _, hl, hm, hmm, _, hi⟩
  · exact ⟨none, [], 0, rfl, RdG.nil_ rfl, ⟨by simp, fun j hj => absurd hj (by simp)⟩⟩
  · have hlm : len ≤ m := by rw [hmm]; split <;> omega
    have E : ∀ i, i < len → ∃ p : α × Array Value, R w 0 w.heap.size p.2 p.1 ∧ W p.1 ∧ ∀ j, j < sz → w.cell? (a.add (i * sz + j)) = p.2[j]? := by
      intro i hil
      obtain ⟨cs', hcs', hts'⟩ := hi i (by omega)
      rw [hC] at hcs'
      obtain ⟨x, v, h1, h2, h3⟩ := hE a (i * sz) _ _ _ hcs' hts'
      exact ⟨(x, v), h1, h2, h3⟩
    let f : Nat → α × Array Value := fun i => if h : i < len then Classical.choose (E i h) else (d, #[])
    have hfs : ∀ i, i < len → R w 0 w.heap.size (f i).2 (f i).1 ∧ W (f i).1 ∧ ∀ j, j < sz → w.cell? (a.add (i * sz + j)) = (f i).2[j]? := by
      intro i hil
      have : f i = Classical.choose (E i hil) := dif_pos hil
      rw [this]
      exact Classical.choose_spec (E i hil)
    clear_value f
    have hlen : ((List.range len).map fun i => (f i).1).length = len := by simp
    have hget : ∀ i, i < len → ((List.range len).map fun i => (f i).1).getD i d = (f i).1 := fun i hi => by simp [hi]
    refine ⟨some a, (List.range len).map fun i => (f i).1, cap, by rw [hlen], fun hpos => ?_, ⟨by rw [hlen]; unfold maxLen at hm; omega, fun j hj => ?_⟩⟩
    · rw [hlen] at hpos
      obtain ⟨r0, _, c0⟩ := hfs 0 hpos
      have hs0 := hRs _ _ r0
      have h1 := c0 0 hsz
      rw [Array.getElem?_eq_getElem (by omega)] at h1
      have hb' : a.block < w.heap.size := by
        have := World.block_lt_of_cell? _ _ h1
        unfold Addr.add at this
        split at this <;> exact this
      obtain ⟨xb, xo, xs⟩ := a
      have hs : xs = none := by
        have := World.cell?_spot h1
        simpa [Addr.add] using this
      subst hs
      refine ⟨xb, xo, rfl, Nat.zero_le _, hb', fun j hj => ?_⟩
      rw [hlen] at hj
      obtain ⟨r1, _, c1⟩ := hfs j hj
      refine ⟨(f j).2, by rw [hget j hj]; exact r1, fun i hi => ?_⟩
      have := c1 i hi
      rwa [add_none] at this
    · rw [hlen] at hj
      rw [hget j hj]
      exact (hfs j hj).2.1

/-! ### The types -/
def TyMode (P : Program) (e ti : TypeId) : Prop := ∃ g0 g1 g2, P.underlying e = some (.struct #[g0, g1, g2]) ∧ oneCellFields P #[g0, g1, g2] = true ∧ P.cellsOf e = 3 ∧ P.underlying g0.type = some (.int .i64) ∧ P.underlying g1.type = some (.slice ti) ∧ P.underlying g2.type = some (.slice ti) ∧ P.underlying ti = some (.int .i64) ∧ P.cellsOf ti = 1
def TyActivity (P : Program) (e em ti : TypeId) : Prop := ∃ g0 g1 g2, P.underlying e = some (.struct #[g0, g1, g2]) ∧ oneCellFields P #[g0, g1, g2] = true ∧ P.cellsOf e = 3 ∧ P.underlying g0.type = some .string ∧ P.underlying g1.type = some (.int .i64) ∧ P.underlying g2.type = some (.slice em) ∧ TyMode P em ti
def TyStep (P : Program) (e : TypeId) : Prop := ∃ g0 g1, P.underlying e = some (.struct #[g0, g1]) ∧ oneCellFields P #[g0, g1] = true ∧ P.cellsOf e = 2 ∧ P.underlying g0.type = some (.int .i64) ∧ P.underlying g1.type = some (.int .i64)
def TyResource (P : Program) (e es er ti : TypeId) : Prop := ∃ g0 g1, P.underlying e = some (.struct #[g0, g1]) ∧ oneCellFields P #[g0, g1] = true ∧ P.cellsOf e = 2 ∧ P.underlying g0.type = some (.slice es) ∧ P.underlying g1.type = some (.slice er) ∧ TyStep P es ∧ P.underlying er = some (.slice ti) ∧ P.cellsOf er = 1 ∧ P.underlying ti = some (.int .i64) ∧ P.cellsOf ti = 1
def TyLink (P : Program) (e : TypeId) : Prop := ∃ g0 g1 g2 g3, P.underlying e = some (.struct #[g0, g1, g2, g3]) ∧ oneCellFields P #[g0, g1, g2, g3] = true ∧ P.cellsOf e = 4 ∧ P.underlying g0.type = some (.int .i64) ∧ P.underlying g1.type = some (.int .i64) ∧ P.underlying g2.type = some .bool ∧ P.underlying g3.type = some (.int .i64)
def TyProject (P : Program) (e ea em el eR es er ti : TypeId) : Prop := ∃ g0 g1 g2 g3 g4, P.underlying e = some (.struct #[g0, g1, g2, g3, g4]) ∧ oneCellFields P #[g0, g1, g2, g3, g4] = true ∧ P.cellsOf e = 5 ∧ P.underlying g0.type = some (.int .i64) ∧ P.underlying g1.type = some (.slice ea) ∧ P.underlying g2.type = some (.slice el) ∧ P.underlying g3.type = some (.slice eR) ∧ P.underlying g4.type = some (.slice ti) ∧ TyActivity P ea em ti ∧ TyLink P el ∧ TyResource P eR es er ti
/-- A struct by value, field by field (each field one cell). -/
theorem agg_fields {t : TypeId} {fs : Array Field} {base : Nat} {v : Value} {d : DataW H} {p : List MemPlace} (ht : P.underlying t = some (.struct fs)) (hone : oneCellFields P fs = true) (hC : P.cellsOf t = fs.size)
    (hv : Value.okWide P w .any base t v) (h : DataW.Trod enc P w 0 spare held t v d p) :
    ∃ (cs : Array Value) (k : Nat), v = .agg cs ∧ cs.size = fs.size ∧ ∀ (j : Nat) (f : Field), fs[j]? = some f → ∃ (u : Value) (z : DataW H × List MemPlace), cs[j]? = some u ∧ DataW.trod enc P w 0 spare held k f.type [u] = some z := by
  obtain ⟨cs, rfl, hsz⟩ := okWide_struct ht hv
  obtain ⟨fuel, hf⟩ := h
  obtain ⟨ys, k, _, _, hlen, hyl, hfl⟩ := DataW.trod_struct ht hf
  have hs : cs.size = fs.size := hsz.trans hC
  refine ⟨cs, k, rfl, hs, fun j f hj => ?_⟩
  obtain ⟨hoff, hk⟩ := hone_of hone j f hj
  have hjl : j < fs.size := (Array.getElem?_eq_some_iff.1 hj).1
  have hjc : j < cs.toList.length := by simp; omega
  have h1 := hfl j f hj
  have e1 : ((Value.agg cs).cells.toList.drop j).take 1 = [cs.toList[j]] := by
    show (cs.toList.drop j).take 1 = _
    rw [List.drop_eq_getElem_cons hjc]; rfl
  rw [hoff, hk, e1] at h1
  refine ⟨cs.toList[j], ys[j]'(by omega), ?_, by rw [h1, List.getElem?_eq_getElem (by omega)]⟩
  rw [← Array.getElem?_toList, List.getElem?_eq_getElem hjc]
/-! ### Rows of structs -/
theorem open_modeS_cell {t e ti : TypeId} {n : Nat} {cs : List Value} {y : DataW H × List MemPlace} (ht : P.underlying t = some (.slice e)) (T : TyMode P e ti)
    (hf : DataW.trod enc P w 0 spare held n t cs = some y) : ∃ A l c, cs = [.slice A (List.length l) c] ∧ RdMs w 0 w.heap.size A l ∧ WfL WfMd md0 l := by
  obtain ⟨f0, f1, f2, he, hone, hC, h0, h1, h2, hti, hCi⟩ := T
  refine open_rows (R := RdM) ht hC (by omega) (fun v a h => by obtain ⟨U, cu, C, cc, rfl, _⟩ := h; rfl) (fun a o k ds z hds hts => ?_) hf
  obtain ⟨k', hfl⟩ := elem_fields he hone rfl hds hts
  obtain ⟨v0, y0, c0, t0⟩ := hfl 0 f0 rfl
  obtain ⟨v1, y1, c1, t1⟩ := hfl 1 f1 rfl
  obtain ⟨v2, y2, c2, t2⟩ := hfl 2 f2 rfl
  obtain ⟨x0, e0, _, _⟩ := DataW.trod_int h0 t0
  obtain ⟨U, lu, cu, e1, r1, _, b1⟩ := open_intS_cell h1 hti hCi t1
  obtain ⟨C, lc, cc, e2, r2, _, b2⟩ := open_intS_cell h2 hti hCi t2
  simp at e0 e1 e2
  subst e0 e1 e2
  refine ⟨⟨x0, lu, lc⟩, #[.int .i64 x0, .slice U lu.length cu, .slice C lc.length cc], ⟨U, cu, C, cc, rfl, r1, r2⟩, ⟨b1, b2⟩, fun i hi => ?_⟩
  match i, hi with
  | 0, _ => exact c0
  | 1, _ => exact c1
  | 2, _ => exact c2
theorem str_len {s : ByteArray} (h : s.size ≤ maxLen) : s.size ≤ 9223372036854775807 := by unfold maxLen at h; omega
theorem open_activityS_cell {t e em ti : TypeId} {n : Nat} {cs : List Value} {y : DataW H × List MemPlace} (ht : P.underlying t = some (.slice e)) (T : TyActivity P e em ti)
    (hf : DataW.trod enc P w 0 spare held n t cs = some y) : ∃ A l c, cs = [.slice A (List.length l) c] ∧ RdAs w 0 w.heap.size A l ∧ WfL WfAc ac0 l := by
  obtain ⟨f0, f1, f2, he, hone, hC, h0, h1, h2, TM⟩ := T
  refine open_rows (R := RdA) ht hC (by omega) (fun v a h => by obtain ⟨U, cu, rfl, _⟩ := h; rfl) (fun a o k ds z hds hts => ?_) hf
  obtain ⟨k', hfl⟩ := elem_fields he hone rfl hds hts
  obtain ⟨v0, y0, c0, t0⟩ := hfl 0 f0 rfl
  obtain ⟨v1, y1, c1, t1⟩ := hfl 1 f1 rfl
  obtain ⟨v2, y2, c2, t2⟩ := hfl 2 f2 rfl
  obtain ⟨s, e0, _, hs⟩ := DataW.trod_string h0 t0
  obtain ⟨x1, e1, _, _⟩ := DataW.trod_int h1 t1
  obtain ⟨M, lm, cm, e2, r2, b2⟩ := open_modeS_cell h2 TM t2
  simp at e0 e1 e2
  subst e0 e1 e2
  refine ⟨⟨s, x1, lm⟩, #[.string s, .int .i64 x1, .slice M lm.length cm], ⟨M, cm, rfl, r2⟩, ⟨str_len hs, b2⟩, fun i hi => ?_⟩
  match i, hi with
  | 0, _ => exact c0
  | 1, _ => exact c1
  | 2, _ => exact c2
theorem one_cells {a : Addr} {o : Nat} {cs : List Value} (h : w.cells? 0 (a.add o) 1 = some cs) : ∃ u, cs = [u] ∧ w.cell? (a.add o) = some u := by
  obtain ⟨_, hl, hat⟩ := World.cells?_some h
  obtain ⟨u, rfl⟩ := List.length_eq_one_iff.1 hl
  refine ⟨u, rfl, ?_⟩
  have := hat 0 (by omega)
  rw [add_add, Nat.add_zero] at this
  exact this
theorem open_intSS_cell {t e ti : TypeId} {n : Nat} {cs : List Value} {y : DataW H × List MemPlace} (ht : P.underlying t = some (.slice e)) (he : P.underlying e = some (.slice ti)) (hC : P.cellsOf e = 1) (hti : P.underlying ti = some (.int .i64)) (hCi : P.cellsOf ti = 1)
    (hf : DataW.trod enc P w 0 spare held n t cs = some y) : ∃ A l c, cs = [.slice A (List.length l) c] ∧ RdSS w 0 w.heap.size A l ∧ WfL WfII [] l := by
  refine open_rows (R := RdII) ht hC (by omega) (fun v a h => by obtain ⟨U, cu, rfl, _⟩ := h; rfl) (fun a o k ds z hds hts => ?_) hf
  obtain ⟨u, rfl, hu⟩ := one_cells hds
  obtain ⟨U, lu, cu, e1, r1, _, b1⟩ := open_intS_cell he hti hCi hts
  simp at e1
  subst e1
  refine ⟨lu, #[.slice U lu.length cu], ⟨U, cu, rfl, r1⟩, b1, fun i hi => ?_⟩
  match i, hi with
  | 0, _ => exact hu
theorem open_stepS_ty {t e : TypeId} {n : Nat} {cs : List Value} {y : DataW H × List MemPlace} (ht : P.underlying t = some (.slice e)) (T : TyStep P e)
    (hf : DataW.trod enc P w 0 spare held n t cs = some y) : ∃ A l c, cs = [.slice A (List.length l) c] ∧ RdSt w 0 w.heap.size A l ∧ l.length ≤ 9223372036854775807 := by
  obtain ⟨f0, f1, he, hone, hC, h0, h1⟩ := T
  exact open_stepS_cell ht he hone hC h0 h1 hf
theorem open_resourceS_cell {t e es er ti : TypeId} {n : Nat} {cs : List Value} {y : DataW H × List MemPlace} (ht : P.underlying t = some (.slice e)) (T : TyResource P e es er ti)
    (hf : DataW.trod enc P w 0 spare held n t cs = some y) : ∃ A l c, cs = [.slice A (List.length l) c] ∧ RdRs w 0 w.heap.size A l ∧ WfL WfRs rs0 l := by
  obtain ⟨f0, f1, he, hone, hC, h0, h1, TS, her, hCr, hti, hCi⟩ := T
  refine open_rows (R := RdR) ht hC (by omega) (fun v a h => by obtain ⟨U, cu, C, cc, rfl, _⟩ := h; rfl) (fun a o k ds z hds hts => ?_) hf
  obtain ⟨k', hfl⟩ := elem_fields he hone rfl hds hts
  obtain ⟨v0, y0, c0, t0⟩ := hfl 0 f0 rfl
  obtain ⟨v1, y1, c1, t1⟩ := hfl 1 f1 rfl
  obtain ⟨S, ls, cs0, e0, r0, b0⟩ := open_stepS_ty h0 TS t0
  obtain ⟨M, lm, cm, e1, r1, b1⟩ := open_intSS_cell h1 her hCr hti hCi t1
  simp at e0 e1
  subst e0 e1
  refine ⟨⟨ls, lm⟩, #[.slice S ls.length cs0, .slice M lm.length cm], ⟨S, cs0, M, cm, rfl, r0, r1⟩, ⟨b0, b1⟩, fun i hi => ?_⟩
  match i, hi with
  | 0, _ => exact c0
  | 1, _ => exact c1
theorem open_linkS_cell {t e : TypeId} {n : Nat} {cs : List Value} {y : DataW H × List MemPlace} (ht : P.underlying t = some (.slice e)) (T : TyLink P e)
    (hf : DataW.trod enc P w 0 spare held n t cs = some y) : ∃ A l c, cs = [.slice A (List.length l) c] ∧ RdLs w 0 w.heap.size A l ∧ l.length ≤ 9223372036854775807 := by
  obtain ⟨f0, f1, f2, f3, he, hone, hC, h0, h1, h2, h3⟩ := T
  obtain ⟨A, l, c, r, f, g⟩ := open_rows (R := RdL) (W := fun _ => True) (d := lk0) ht hC (by omega) (fun v a h => by rw [show v = _ from h]; rfl) (fun a o k ds z hds hts => by
    obtain ⟨k', hfl⟩ := elem_fields he hone rfl hds hts
    obtain ⟨v0, y0, c0, t0⟩ := hfl 0 f0 rfl
    obtain ⟨v1, y1, c1, t1⟩ := hfl 1 f1 rfl
    obtain ⟨v2, y2, c2, t2⟩ := hfl 2 f2 rfl
    obtain ⟨v3, y3, c3, t3⟩ := hfl 3 f3 rfl
    obtain ⟨x0, e0, _, _⟩ := DataW.trod_int h0 t0
    obtain ⟨x1, e1, _, _⟩ := DataW.trod_int h1 t1
    obtain ⟨x2, e2, _⟩ := DataW.trod_bool h2 t2
    obtain ⟨x3, e3, _, _⟩ := DataW.trod_int h3 t3
    simp at e0 e1 e2 e3
    subst e0 e1 e2 e3
    refine ⟨⟨x0, x1, x2, x3⟩, #[.int .i64 x0, .int .i64 x1, .bool x2, .int .i64 x3], rfl, trivial, fun i hi => ?_⟩
    match i, hi with
    | 0, _ => exact c0
    | 1, _ => exact c1
    | 2, _ => exact c2
    | 3, _ => exact c3) hf
  exact ⟨A, l, c, r, f, g.1⟩
/-! ### By value -/
theorem open_modeV {t ti : TypeId} {base : Nat} {v : Value} {d : DataW H} {p : List MemPlace} (T : TyMode P t ti) (hv : Value.okWide P w .any base t v) (h : DataW.Trod enc P w 0 spare held t v d p) :
    ∃ U C m cu cc, v = .agg #[.int .i64 (Md.dur m), .slice U m.use.length cu, .slice C m.con.length cc] ∧ RdI w 0 w.heap.size U m.use ∧ RdI w 0 w.heap.size C m.con ∧ WfMd m := by
  obtain ⟨f0, f1, f2, he, hone, hC, h0, h1, h2, hti, hCi⟩ := T
  exact open_mode he hone hC h0 h1 h2 hti hCi hv h
theorem open_activity {t em ti : TypeId} {base : Nat} {v : Value} {d : DataW H} {p : List MemPlace} (T : TyActivity P t em ti) (hv : Value.okWide P w .any base t v) (h : DataW.Trod enc P w 0 spare held t v d p) :
    ∃ M a cm, v = .agg #[.string (Ac.name a), .int .i64 a.fam, .slice M a.modes.length cm] ∧ RdMs w 0 w.heap.size M a.modes ∧ WfAc a := by
  obtain ⟨f0, f1, f2, he, hone, hC, h0, h1, h2, TM⟩ := T
  obtain ⟨c0, c1, c2, y0, y1, y2, n, rfl, _, _, t0, t1, t2⟩ := Go.Joins.open_agg3 he hone hC hv h
  obtain ⟨s, e0, _, hs⟩ := DataW.trod_string h0 t0
  obtain ⟨x1, e1, _, _⟩ := DataW.trod_int h1 t1
  obtain ⟨M, lm, cm, e2, r2, b2⟩ := open_modeS_cell h2 TM t2
  simp at e0 e1 e2
  subst e0 e1 e2
  exact ⟨M, ⟨s, x1, lm⟩, cm, rfl, r2, ⟨str_len hs, b2⟩⟩
theorem open_resource {t es er ti : TypeId} {base : Nat} {v : Value} {d : DataW H} {p : List MemPlace} (T : TyResource P t es er ti) (hv : Value.okWide P w .any base t v) (h : DataW.Trod enc P w 0 spare held t v d p) :
    ∃ S T a cs ct, v = .agg #[.slice S (Rs.steps a).length cs, .slice T a.setup.length ct] ∧ RdSt w 0 w.heap.size S a.steps ∧ RdSS w 0 w.heap.size T a.setup ∧ WfRs a := by
  obtain ⟨f0, f1, he, hone, hC, h0, h1, TS, her, hCr, hti, hCi⟩ := T
  obtain ⟨c0, c1, y0, y1, n, rfl, _, _, t0, t1⟩ := Go.Joins.open_agg2 he hone hC hv h
  obtain ⟨S, ls, cs0, e0, r0, b0⟩ := open_stepS_ty h0 TS t0
  obtain ⟨M, lm, cm, e1, r1, b1⟩ := open_intSS_cell h1 her hCr hti hCi t1
  simp at e0 e1
  subst e0 e1
  exact ⟨S, M, ⟨ls, lm⟩, cs0, cm, rfl, r0, r1, ⟨b0, b1⟩⟩
theorem open_project {t ea em el eR es er ti : TypeId} {base : Nat} {v : Value} {d : DataW H} {p : List MemPlace} (T : TyProject P t ea em el eR es er ti) (hv : Value.okWide P w .any base t v) (h : DataW.Trod enc P w 0 spare held t v d p) :
    ∃ A L R S a ca cl cr cs, v = .agg #[.int .i64 (Pj.dead a), .slice A a.acts.length ca, .slice L a.links.length cl, .slice R a.res.length cr, .slice S a.stocks.length cs] ∧ RdAs w 0 w.heap.size A a.acts ∧ RdLs w 0 w.heap.size L a.links ∧ RdRs w 0 w.heap.size R a.res ∧ RdI w 0 w.heap.size S a.stocks ∧ WfPj a := by
  obtain ⟨f0, f1, f2, f3, f4, he, hone, hC, h0, h1, h2, h3, h4, TA, TL, TR⟩ := T
  obtain ⟨cs, k, rfl, hsz, hfl⟩ := agg_fields he hone hC hv h
  obtain ⟨v0, y0, c0, t0⟩ := hfl 0 f0 rfl
  obtain ⟨v1, y1, c1, t1⟩ := hfl 1 f1 rfl
  obtain ⟨v2, y2, c2, t2⟩ := hfl 2 f2 rfl
  obtain ⟨v3, y3, c3, t3⟩ := hfl 3 f3 rfl
  obtain ⟨v4, y4, c4, t4⟩ := hfl 4 f4 rfl
  have hcs : cs = #[v0, v1, v2, v3, v4] := by
    apply Array.ext_getElem?
    intro i
    match i with
    | 0 => exact c0
    | 1 => exact c1
    | 2 => exact c2
    | 3 => exact c3
    | 4 => exact c4
    | i + 5 =>
      have hs5 : cs.size = 5 := hsz
      rw [Array.getElem?_eq_none (by omega), Array.getElem?_eq_none (by simp)]
  subst hcs
  obtain ⟨_, _, _, _, _, _, _, _, _, _, hti, hCi⟩ := id TR
  obtain ⟨x0, e0, _, _⟩ := DataW.trod_int h0 t0
  obtain ⟨A, la, ca, e1, r1, b1⟩ := open_activityS_cell h1 TA t1
  obtain ⟨L, ll, cl, e2, r2, b2⟩ := open_linkS_cell h2 TL t2
  obtain ⟨R, lr, cr, e3, r3, b3⟩ := open_resourceS_cell h3 TR t3
  obtain ⟨S, ls, cs0, e4, r4, _, b4⟩ := open_intS_cell h4 hti hCi t4
  simp at e0 e1 e2 e3 e4
  subst e0 e1 e2 e3 e4
  exact ⟨A, L, R, S, ⟨x0, la, ll, lr, ls⟩, ca, cl, cr, cs0, rfl, r1, r2, r3, r4, ⟨b1, b2, b3, b4⟩⟩
end
end Go.Proofs.YtcecgbjolngdbaaGreatDoor
