/- Projects are formatted. -/
import Derived.Test.YtcecgbjolngdbaaGreatDoorFmtP1
import Derived.Deep.RegionHeld3
namespace Go.Proofs.YtcecgbjolngdbaaGreatDoor
open Go.ChangeShapes Go.WideShapes Go.ChangeAt Go.RowKit
set_option linter.unusedVariables false
set_option linter.unusedSimpArgs false

/-- The lines so far, in a row that the call owns. -/
def Lns (w : World) (B : Nat) (L : List ByteArray) (v : Value) : Prop := ∃ A c bs, v = .slice A L.length c ∧ RowB w 9 1 A L.length c (L.map .string) bs ∧ ∀ b ∈ bs, B ≤ b
theorem Lns.below {w w' : World} {B : Nat} {L : List ByteArray} {v : Value} (h : Lns w B L v) (hb : Below w.heap.size w w') : Lns w' B L v := by
  obtain ⟨A, c, bs, e, hR, h1⟩ := h
  exact ⟨A, c, bs, e, hR.below hb (fun b hb => hR.lt b hb), h1⟩
theorem Lns.one (w : World) (B : Nat) (S : ByteArray) (hB : B ≤ w.heap.size) : Lns (w.alloc (.cells #[.string S] 9)) B [S] (.slice (some ⟨w.heap.size, 0, none⟩) 1 1) :=
  ⟨_, _, _, rfl, RowB.made w 9 1 #[.string S] 1 (by unfold maxLen; omega) rfl, fun b hb => by simp at hb; omega⟩
theorem Lns.eqL {w : World} {B : Nat} {L L' : List ByteArray} {v : Value} (h : Lns w B L v) (e : L = L') : Lns w B L' v := e ▸ h
theorem wpList_line {ops : Array Oper} {rest : List Oper} {o : Oper} {a : Act} {Q : Exit → Act → World → Prop} (w : World) (s x : Operand) (B : Nat) (L : List ByteArray) (v : Value) (h : Lns w B L v) (hB : B ≤ w.heap.size) (hl : L.length ≤ 65536) (W0 : World) (hbel : Below B W0 w)
    (g : Nat) (S : ByteArray) (hS : w.cell? ⟨g, 0, none⟩ = some (.string S))
    (K : ∀ v' w', Lns w' B (L ++ [S]) v' → Below B W0 w' → w.heap.size ≤ w'.heap.size → wpList Tryz.prog ops Q rest (a.put o.dst v') w')
    (hgd : o.guard = none) (hop : o.op = .call { callee := .builtin .append, args := #[s, x], argTypes := #[67, 67] }) (hs : a.eval s = v) (hx : a.eval x = .slice (some ⟨g, 0, none⟩) 1 1) :
    wpList Tryz.prog ops Q (o :: rest) a w := by
  obtain ⟨A, c, bs, rfl, hR, h1⟩ := h
  refine wpList_pushB w s x 67 9 _ 1 16 Tryz.underlying67 Tryz.infoStr rfl (by omega) A L.length c _ bs hR g 0 1 1 [.string S] (by omega) rfl ?_ (one_cell rfl) (by omega) (by omega) ?_ hgd hop hs hx
  · intro j u hj
    match j, hj with
    | 0, hj => simp at hj; subst hj; exact hS
  · intro A' c' bs' w' hR' hbs' hN
    have e : (L ++ [S]).length = L.length + 1 := by simp
    have hL : Lns w' B (L ++ [S]) (.slice A' (L.length + 1) c') := ⟨A', c', bs', by rw [e], by rw [e, List.map_append]; exact hR', fun b hb => by
      rcases hbs' with rfl | rfl
      · exact h1 b hb
      · simp at hb; omega⟩
    exact K _ w' hL (OnlyIn.belowB hbel hN h1 hB) hN.size
theorem cell_one (w : World) (x : Value) (t : TypeId) : (w.alloc (.cells #[x] t)).cell? ⟨w.heap.size, 0, none⟩ = some x := by
  rw [World.cell?_alloc_at _ _ _ _ rfl]; rfl
theorem row_news {w : World} {b off n : Nat} {m : List Int} (_hr : m.length = n) (xc : ∀ j, j < m.length → w.cell? ⟨b, off + j, none⟩ = some (.int .i64 (m.getD j 0))) : ∀ j u, (m.map (Value.int .i64))[j]? = some u → w.cell? ⟨b, off + j, none⟩ = some u := fun j u hj => by
  rw [List.getElem?_map] at hj
  have hj2 : j < m.length := by
    apply Decidable.byContradiction
    intro h
    rw [List.getElem?_eq_none (by omega)] at hj
    cases hj
  rw [xc j hj2]
  rw [List.getElem?_eq_getElem hj2] at hj
  rw [getD_get 0 hj2]
  exact hj
theorem res_sp : (⟨#[114, 101, 115, 111, 117, 114, 99, 101, 32]⟩ : ByteArray) = wRes ++ space := by decide
theorem dead_sp : (⟨#[100, 101, 97, 100, 108, 105, 110, 101, 32]⟩ : ByteArray) = wDead ++ space := by decide
theorem stk_sp : (⟨#[115, 116, 111, 99, 107, 32]⟩ : ByteArray) = wStk ++ space := by decide
theorem act_sp : (⟨#[97, 99, 116, 105, 118, 105, 116, 121, 32]⟩ : ByteArray) = wAct ++ space := by decide
theorem fmtSt_sz (l : List (Int × Int)) : (fmtSt l).size ≤ 256 := by
  unfold fmtSt
  split
  · rename_i h
    have h8 := (stOk_all h).2.2
    have hs := stepW_sum l
    have hj := joinB_len (l := l.map stepW) (y := comma) (a := 128) (b := 1) (by rw [List.length_map]; omega) (by decide)
    have e2 : (joinB (l.map stepW) comma).size = (Lib.join ((l.map stepW).map (·.data.toList)) comma.data.toList).length := by simp [joinB, ByteArray.size]
    rw [e2]
    omega
  · exact Nat.zero_le _
theorem fmtMd_sz (m : Md) : (fmtMd m).size ≤ 11 + 16 * (m.use.length + m.con.length) := by
  have h1 := fmtIs_size m.use
  have h2 := fmtIs_size m.con
  have h3 := fmtI_size m.dur
  unfold fmtMd
  split
  · simp only [ByteArray.size_append]
    have e : slash.size = 1 := rfl
    omega
  · exact Nat.zero_le _
theorem mdOk_len {m : Md} {r s : Int} (h : mdOkB m r s = true) : (m.use.length : Int) = r ∧ (m.con.length : Int) = s := by
  unfold mdOkB amtsB at h
  simp only [Bool.and_eq_true, decide_eq_true_eq] at h
  exact ⟨h.1.2.2, h.2.2⟩
theorem isNm_sz {s : ByteArray} (h : isNm s = true) : s.size ≤ 8 := by
  unfold isNm at h
  rw [Bool.and_eq_true, decide_eq_true_eq] at h
  omega
theorem actTo_sz (a : Ac) (hn : a.name.size ≤ 8) (hm : ∀ m ∈ a.modes, (fmtMd m).size ≤ 200) (j : Nat) (hj : j ≤ a.modes.length) : (actTo a j).size ≤ 100 + 201 * j := by
  induction j with
  | zero =>
    have h := fmtI_size a.fam
    have e1 : wAct.size = 8 := rfl
    have e2 : space.size = 1 := rfl
    show (actH a).size ≤ _
    unfold actH
    simp only [ByteArray.size_append]
    omega
  | succ j ih =>
    have h1 := ih (by omega)
    have h2 := hm _ (getD_mem (k := j) md0 (by omega))
    have e2 : space.size = 1 := rfl
    rw [actTo]
    simp only [ByteArray.size_append]
    omega
theorem resL0 {r : Rs} (h : r.setup.length = 0) : (⟨#[114, 101, 115, 111, 117, 114, 99, 101, 32]⟩ : ByteArray) ++ fmtSt r.steps = resL r := by rw [res_sp]; unfold resL; rw [if_pos h]
theorem resL1 {r : Rs} (h : ¬ r.setup.length = 0) : (⟨#[114, 101, 115, 111, 117, 114, 99, 101, 32]⟩ : ByteArray) ++ fmtSt r.steps ++ ⟨#[32]⟩ ++ fmtIs r.setup.flatten = resL r := by rw [res_sp]; unfold resL; rw [if_neg h]; rfl
theorem map_take_succ {α : Type} (f : α → ByteArray) (d : α) {l : List α} {k : Nat} (h : k < l.length) (L0 : List ByteArray) : L0 ++ (l.take k).map f ++ [f (l.getD k d)] = L0 ++ (l.take (k + 1)).map f := by
  rw [take_snoc d h, List.map_append, List.append_assoc]; rfl
theorem lines_sz {p : Pj} (h : pjOkB p = true) : (linesPj p).length ≤ 24 ∧ (linesPj p).length + ((linesPj p).map ByteArray.size).sum ≤ 30000 ∧ (joinB (linesPj p) ⟨#[10]⟩).size ≤ 60000 := by
  obtain ⟨hp1, hp2, hp3, hp4, hp5, hpA, hpR, hpS, hpL⟩ := pjOk_parts h
  have hl : (linesPj p).length ≤ 24 := by unfold linesPj; simp; omega
  have e1 : space.size = 1 := rfl
  have hx : ∀ x ∈ linesPj p, x.size ≤ 1000 := by
    intro x hx
    unfold linesPj at hx
    simp only [List.mem_append, List.mem_singleton, List.mem_map] at hx
    rcases hx with (((rfl | ⟨r, hr, rfl⟩) | ⟨n, hn, rfl⟩) | ⟨a, ha, rfl⟩) | ⟨k, hk, rfl⟩
    · have := fmtI_size p.dead
      have e2 : wDead.size = 8 := rfl
      unfold deadL
      simp only [ByteArray.size_append]
      omega
    · have e2 : wRes.size = 8 := rfl
      have h1 := fmtSt_sz r.steps
      have h2 := fmtIs_size r.setup.flatten
      obtain ⟨_, h3⟩ := rsOk_parts (hpR r hr)
      unfold resL
      split
      · simp only [ByteArray.size_append]; omega
      · rename_i h0
        have := (h3.resolve_left h0).2.1
        simp only [ByteArray.size_append]; omega
    · have := fmtI_size n
      have e2 : wStk.size = 5 := rfl
      unfold stkL
      simp only [ByteArray.size_append]
      omega
    · obtain ⟨hmo, hnm, _, _, hm3⟩ := acOk_parts (hpA a ha)
      have := actTo_sz a (isNm_sz hnm) (fun q hq => by have := fmtMd_sz q; have := mdOk_len (hmo q hq); omega) a.modes.length (Nat.le_refl _)
      show (actTo a a.modes.length).size ≤ _
      omega
    · obtain ⟨hs, hd, hg⟩ := lkOk_parts (hpL k hk)
      have h1 := isNm_sz (acOk_parts (pjOk_acts h (k := k.src.toNat) (by omega))).2.1
      have h2 := isNm_sz (acOk_parts (pjOk_acts h (k := k.dst.toNat) (by omega))).2.1
      have h3 := fmtI_size k.lag
      have h4 : (linkW k).size ≤ 5 := by unfold linkW; split <;> decide
      unfold linkL nameAt
      simp only [ByteArray.size_append]
      omega
  have hsum := sum_le ByteArray.size 1000 (linesPj p) hx
  have hj := joinB_len (l := linesPj p) (y := ⟨#[10]⟩) (a := 30000) (b := 1) (by omega) (by decide)
  have e3 : (joinB (linesPj p) ⟨#[10]⟩).size = (Lib.join ((linesPj p).map (·.data.toList)) (⟨#[10]⟩ : ByteArray).data.toList).length := by simp [joinB, ByteArray.size]
  exact ⟨hl, by omega, by omega⟩
end Go.Proofs.YtcecgbjolngdbaaGreatDoor
