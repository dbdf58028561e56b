/- Projects as text: what is formatted is parsed, line by line. Nothing here speaks of a program. -/
import Derived.Test.YtcecgbjolngdbaaGreatDoorPlainTx
namespace Go.Proofs.YtcecgbjolngdbaaGreatDoor
open Go.RowKit
set_option linter.unusedVariables false

def space : ByteArray := ⟨#[32]⟩
def wDead : ByteArray := ⟨#[100, 101, 97, 100, 108, 105, 110, 101]⟩
def wRes : ByteArray := ⟨#[114, 101, 115, 111, 117, 114, 99, 101]⟩
def wStk : ByteArray := ⟨#[115, 116, 111, 99, 107]⟩
def wAct : ByteArray := ⟨#[97, 99, 116, 105, 118, 105, 116, 121]⟩
def wSta : ByteArray := ⟨#[115, 116, 97, 114, 116]⟩
def wEnd : ByteArray := ⟨#[101, 110, 100]⟩
def pj0 : Pj := ⟨0, [], [], [], []⟩

/-! ## Bytes that are no blanks -/
def Cl (x : ByteArray) : Prop := ∀ b ∈ x.data.toList, 44 ≤ b.toNat
theorem mem_app {b : UInt8} {x y : ByteArray} : b ∈ (x ++ y).data.toList ↔ b ∈ x.data.toList ∨ b ∈ y.data.toList := by
  rw [ByteArray.data_append, Array.toList_append, List.mem_append]
theorem Cl.app {x y : ByteArray} (h : Cl x) (k : Cl y) : Cl (x ++ y) := fun b hb => by
  rcases mem_app.1 hb with hb | hb
  · exact h b hb
  · exact k b hb
theorem Cl.empty : Cl ByteArray.empty := fun b hb => by simp at hb
theorem mem_joinTail {b : UInt8} {sep : List UInt8} {r : List (List UInt8)} (h : b ∈ Lib.joinTail sep r) : b ∈ sep ∨ ∃ x ∈ r, b ∈ x := by
  unfold Lib.joinTail at h
  rw [List.mem_flatten] at h
  obtain ⟨y, hy, hb⟩ := h
  obtain ⟨x, hx, rfl⟩ := List.mem_map.1 hy
  rcases List.mem_append.1 hb with hb | hb
  · exact .inl hb
  · exact .inr ⟨x, hx, hb⟩
theorem mem_joinB {b : UInt8} {l : List ByteArray} {y : ByteArray} (h : b ∈ (joinB l y).data.toList) : b ∈ y.data.toList ∨ ∃ x ∈ l, b ∈ x.data.toList := by
  have h' : b ∈ Lib.join (l.map (·.data.toList)) y.data.toList := by simpa [joinB] using h
  cases l with
  | nil => simp [Lib.join_nil] at h'
  | cons a l =>
    rw [List.map_cons, Lib.join_cons] at h'
    rcases List.mem_append.1 h' with h' | h'
    · exact .inr ⟨a, by simp, h'⟩
    · rcases mem_joinTail h' with h' | ⟨x, hx, hb⟩
      · exact .inl h'
      · obtain ⟨z, hz, rfl⟩ := List.mem_map.1 hx
        exact .inr ⟨z, by simp [hz], hb⟩
theorem Cl.join {l : List ByteArray} {y : ByteArray} (h : ∀ x ∈ l, Cl x) (k : Cl y) : Cl (joinB l y) := fun b hb => by
  rcases mem_joinB hb with hb | ⟨x, hx, hb⟩
  · exact k b hb
  · exact h x hx b hb
theorem Cl.no {x : ByteArray} (h : Cl x) {c : UInt8} (hc : c.toNat < 44) : c ∉ x.data.toList := fun hb => by have := h c hb; omega
theorem Cl.fmtI (n : Int) : Cl (fmtI n) := fun b hb => by have := fmtI_bytes n b hb; omega
theorem Cl.one {c : UInt8} (h : 44 ≤ c.toNat) : Cl ⟨#[c]⟩ := fun b hb => by
  have : b = c := by simpa using hb
  subst this; exact h
theorem Cl.fmtIs (l : List Int) : Cl (fmtIs l) := by
  unfold Go.Proofs.YtcecgbjolngdbaaGreatDoor.fmtIs
  split
  · split
    · exact Cl.one (by decide)
    · exact Cl.join (fun x hx => by obtain ⟨n, _, rfl⟩ := List.mem_map.1 hx; exact Cl.fmtI n) (Cl.one (by decide))
  · exact Cl.empty
theorem Cl.stepW (s : Int × Int) : Cl (stepW s) := ((Cl.fmtI _).app (Cl.one (by decide))).app (Cl.fmtI _)
theorem Cl.fmtSt (l : List (Int × Int)) : Cl (fmtSt l) := by
  unfold Go.Proofs.YtcecgbjolngdbaaGreatDoor.fmtSt
  split
  · exact Cl.join (fun x hx => by obtain ⟨n, _, rfl⟩ := List.mem_map.1 hx; exact Cl.stepW n) (Cl.one (by decide))
  · exact Cl.empty
theorem Cl.fmtMd (m : Md) : Cl (fmtMd m) := by
  unfold Go.Proofs.YtcecgbjolngdbaaGreatDoor.fmtMd
  split
  · exact ((((Cl.fmtI _).app (Cl.one (by decide))).app (Cl.fmtIs _)).app (Cl.one (by decide))).app (Cl.fmtIs _)
  · exact Cl.empty
theorem Cl.name {s : ByteArray} (h : isNm s = true) : Cl s := fun b hb => by
  unfold isNm at h
  rw [Bool.and_eq_true, List.all_eq_true] at h
  obtain ⟨i, hi, e⟩ := List.getElem_of_mem hb
  have hi' : i < s.size := by simpa using hi
  have hg := h.1 i (List.mem_range.2 hi')
  rw [goodAt_def hi'] at hg
  have e2 : s[i] = b := by rw [← e]; simp [ByteArray.getElem_eq_getElem_data]
  rw [e2] at hg
  simp only [Bool.or_eq_true, Bool.and_eq_true, decide_eq_true_eq] at hg
  omega
theorem Cl.lit {l : List UInt8} (h : l.all (fun b => decide (44 ≤ b.toNat)) = true) : Cl ⟨l.toArray⟩ := fun b hb => by
  rw [List.all_eq_true] at h
  have := h b (by simpa using hb)
  rwa [decide_eq_true_eq] at this

/-! ## Pieces joined -/
theorem joinB_single (a y : ByteArray) : joinB [a] y = a := by
  apply str_ext
  simp [joinB, Lib.join_one]
theorem joinB_snoc {l : List ByteArray} (h : l ≠ []) (x y : ByteArray) : joinB (l ++ [x]) y = joinB l y ++ y ++ x := by
  cases l with
  | nil => exact absurd rfl h
  | cons a l =>
    apply str_ext
    simp only [joinB, List.map_cons, List.map_append, List.map_nil, List.cons_append, Lib.join_cons, joinTail_snoc, ByteArray.data_append, Array.toList_append]
    simp
theorem joinB_two (a b y : ByteArray) : joinB [a, b] y = a ++ y ++ b := by
  have := joinB_snoc (l := [a]) (by simp) b y
  rwa [joinB_single] at this
theorem joinB_three (a b c y : ByteArray) : joinB [a, b, c] y = a ++ y ++ b ++ y ++ c := by
  have := joinB_snoc (l := [a, b]) (by simp) c y
  rwa [joinB_two] at this
theorem joinB_four (a b c d y : ByteArray) : joinB [a, b, c, d] y = a ++ y ++ b ++ y ++ c ++ y ++ d := by
  have := joinB_snoc (l := [a, b, c]) (by simp) d y
  rwa [joinB_three] at this

/-! ## What is formatted -/
def deadL (n : Int) : ByteArray := wDead ++ space ++ fmtI n
def setupL (t : List (List Int)) : ByteArray := if t.length = 0 then ByteArray.empty else space ++ fmtIs t.flatten
def resL (r : Rs) : ByteArray := if r.setup.length = 0 then wRes ++ space ++ fmtSt r.steps else wRes ++ space ++ fmtSt r.steps ++ space ++ fmtIs r.setup.flatten
def stkL (n : Int) : ByteArray := wStk ++ space ++ fmtI n
def actH (a : Ac) : ByteArray := wAct ++ space ++ a.name ++ space ++ fmtI a.fam
def actTo (a : Ac) : Nat → ByteArray
  | 0 => actH a
  | k + 1 => actTo a k ++ space ++ fmtMd (a.modes.getD k md0)
def actL (a : Ac) : ByteArray := actTo a a.modes.length
def linkW (k : Lk) : ByteArray := if k.fe = true then wEnd else wSta
def nameAt (p : Pj) (i : Int) : ByteArray := (p.acts.getD i.toNat ac0).name
def linkL (p : Pj) (k : Lk) : ByteArray := linkW k ++ space ++ nameAt p k.src ++ space ++ nameAt p k.dst ++ space ++ fmtI k.lag
def linesPj (p : Pj) : List ByteArray := [deadL p.dead] ++ p.res.map resL ++ p.stocks.map stkL ++ p.acts.map actL ++ p.links.map (linkL p)
def fmtPj (p : Pj) : ByteArray := if pjOkB p = true then joinB (linesPj p) newline ++ newline else ByteArray.empty

/-! ## Its words -/
def wordsD (n : Int) : List ByteArray := [wDead, fmtI n]
def wordsR (r : Rs) : List ByteArray := if r.setup.length = 0 then [wRes, fmtSt r.steps] else [wRes, fmtSt r.steps, fmtIs r.setup.flatten]
def wordsS (n : Int) : List ByteArray := [wStk, fmtI n]
def wordsA (a : Ac) : List ByteArray := [wAct, a.name, fmtI a.fam] ++ a.modes.map fmtMd
def wordsL (p : Pj) (k : Lk) : List ByteArray := [linkW k, nameAt p k.src, nameAt p k.dst, fmtI k.lag]
def linesW (p : Pj) : List (List ByteArray) := [wordsD p.dead] ++ p.res.map wordsR ++ p.stocks.map wordsS ++ p.acts.map wordsA ++ p.links.map (wordsL p)
theorem actTo_words (a : Ac) (k : Nat) (hk : k ≤ a.modes.length) : actTo a k = joinB ([wAct, a.name, fmtI a.fam] ++ (a.modes.take k).map fmtMd) space := by
  induction k with
  | zero => rw [List.take_zero, List.map_nil, List.append_nil, joinB_three]; rfl
  | succ k ih =>
    rw [actTo, ih (by omega), take_snoc md0 (by omega), List.map_append, List.map_singleton, ← List.append_assoc, joinB_snoc (by simp)]
theorem words_lines (p : Pj) : linesPj p = (linesW p).map fun w => joinB w space := by
  unfold linesPj linesW
  simp only [List.map_append, List.map_map, List.map_cons, List.map_nil]
  have h1 : deadL p.dead = joinB (wordsD p.dead) space := (joinB_two _ _ _).symm
  have h2 : p.res.map resL = p.res.map ((fun w => joinB w space) ∘ wordsR) := List.map_congr_left fun r _ => by
    show resL r = joinB (wordsR r) space
    unfold resL wordsR
    split
    · exact (joinB_two _ _ _).symm
    · exact (joinB_three _ _ _ _).symm
  have h3 : p.stocks.map stkL = p.stocks.map ((fun w => joinB w space) ∘ wordsS) := List.map_congr_left fun r _ => (joinB_two _ _ _).symm
  have h4 : p.acts.map actL = p.acts.map ((fun w => joinB w space) ∘ wordsA) := List.map_congr_left fun a _ => by
    show actTo a a.modes.length = joinB (wordsA a) space
    rw [actTo_words a _ (Nat.le_refl _), List.take_length]; rfl
  have h5 : p.links.map (linkL p) = p.links.map ((fun w => joinB w space) ∘ wordsL p) := List.map_congr_left fun r _ => (joinB_four _ _ _ _ _).symm
  rw [h1, h2, h3, h4, h5]

/-! ## What is parsed -/
def gw (w : List ByteArray) (k : Nat) : ByteArray := w.getD k ByteArray.empty
def rows4 (l : List Int) : List (List Int) := (List.range (l.length / 4)).map fun i => (l.drop (4 * i)).take 4
def parRs (w : List ByteArray) : Rs := ⟨if 1 < w.length then (parSt (gw w 1)).1 else [], if 2 < w.length then rows4 (parIs (gw w 2)).1 else []⟩
def parAc (w : List ByteArray) : Ac := ⟨gw w 1, valI (gw w 2), (w.drop 3).map parMd⟩
def parLk (p : Pj) (w : List ByteArray) : Lk := ⟨actIdx p.acts (gw w 1), actIdx p.acts (gw w 2), decide (gw w 0 = wEnd), valI (gw w 3)⟩
def stepP (p : Pj) (w : List ByteArray) : Pj :=
  if gw w 0 = wDead then { p with dead := valI (gw w 1) }
  else if gw w 0 = wRes then { p with res := p.res ++ [parRs w] }
  else if gw w 0 = wStk then { p with stocks := p.stocks ++ [valI (gw w 1)] }
  else if gw w 0 = wAct then { p with acts := p.acts ++ [parAc w] }
  else if gw w 0 = wSta ∨ gw w 0 = wEnd then { p with links := p.links ++ [parLk p w] }
  else p
def stopB (w : List ByteArray) : Bool := decide (gw w 0 = wSta ∨ gw w 0 = wEnd) && decide (w.length < 4)
def okRs (w : List ByteArray) : Bool := decide (2 ≤ w.length ∧ w.length ≤ 3) && ((parSt (gw w 1)).2 && (decide (w.length = 2) || ((parIs (gw w 2)).2 && decide ((parIs (gw w 2)).1.length = 16))))
def okAc (w : List ByteArray) : Bool := decide (3 ≤ w.length) && (okI (gw w 2) && (w.drop 3).all parMdB)
def lineB (w : List ByteArray) : Bool :=
  if gw w 0 = wDead then decide (w.length = 2) && okI (gw w 1)
  else if gw w 0 = wRes then okRs w
  else if gw w 0 = wStk then decide (w.length = 2) && okI (gw w 1)
  else if gw w 0 = wAct then okAc w
  else if gw w 0 = wSta ∨ gw w 0 = wEnd then decide (w.length = 4) && okI (gw w 3)
  else false
def words (x : ByteArray) : List ByteArray := splitAny x space
def resTo (l : List ByteArray) (k : Nat) : Pj := (l.take k).foldl (fun p x => stepP p (words x)) pj0
def resP (s : ByteArray) : Pj := resTo (splitLines s) (splitLines s).length
def parPjB (s : ByteArray) : Bool := (splitLines s).all (fun x => lineB (words x)) && (decide (s ≠ ByteArray.empty) && decide (fmtPj (resP s) = s))
def parPj (s : ByteArray) : Pj := if parPjB s = true then resP s else pj0
theorem resTo_succ {l : List ByteArray} {k : Nat} (h : k < l.length) : resTo l (k + 1) = stepP (resTo l k) (words (l.getD k ByteArray.empty)) := by
  unfold resTo
  rw [take_snoc ByteArray.empty h, List.foldl_append]; rfl
theorem wd_ne : wDead ≠ wSta ∧ wDead ≠ wEnd ∧ wRes ≠ wSta ∧ wRes ≠ wEnd ∧ wStk ≠ wSta ∧ wStk ≠ wEnd ∧ wAct ≠ wSta ∧ wAct ≠ wEnd := by decide
theorem line_stop {w : List ByteArray} (h : lineB w = true) : stopB w = false := by
  unfold lineB at h
  unfold stopB
  obtain ⟨n1, n2, n3, n4, n5, n6, n7, n8⟩ := wd_ne
  by_cases h1 : gw w 0 = wDead
  · rw [decide_eq_false (by rw [h1]; simp [n1, n2])]; rfl
  rw [if_neg h1] at h
  by_cases h2 : gw w 0 = wRes
  · rw [decide_eq_false (by rw [h2]; simp [n3, n4])]; rfl
  rw [if_neg h2] at h
  by_cases h3 : gw w 0 = wStk
  · rw [decide_eq_false (by rw [h3]; simp [n5, n6])]; rfl
  rw [if_neg h3] at h
  by_cases h4 : gw w 0 = wAct
  · rw [decide_eq_false (by rw [h4]; simp [n7, n8])]; rfl
  rw [if_neg h4] at h
  by_cases h5 : gw w 0 = wSta ∨ gw w 0 = wEnd
  · rw [if_pos h5, Bool.and_eq_true, decide_eq_true_eq] at h
    rw [decide_eq_false (p := w.length < 4) (by omega), Bool.and_false]
  · rw [if_neg h5] at h; cases h

/-! ## What is formatted passes -/
theorem parSt_fmt {l : List (Int × Int)} (h : stOkB l = true) : parSt (fmtSt l) = (l, true) := by
  obtain ⟨ha, h1, h2⟩ := stOk_all h
  have hin : l.all inSt = true := by
    rw [List.all_eq_true]
    intro x hx
    obtain ⟨i, hi, e⟩ := List.getElem_of_mem hx
    have hs := ha i hi
    unfold stAt at hs
    rw [Bool.and_eq_true, Bool.and_eq_true, decide_eq_true_eq, decide_eq_true_eq] at hs
    have e2 : l.getD i (0, 0) = x := by rw [getD_get _ hi]; exact e
    have ea : stA l i = x.1 := by unfold stA; rw [e2]
    have ec : stC l i = x.2 := by unfold stC; rw [e2]
    rw [ea, ec] at hs
    unfold inSt
    rw [(inI_iff _).2 (by omega), (inI_iff _).2 (by omega)]; rfl
  obtain ⟨g1, g2⟩ := all_okSt hin
  have hs := split_steps (l := l) (by rintro rfl; simp at h1)
  have e : fmtSt l = joinB (l.map stepW) comma := by unfold fmtSt; rw [if_pos h]
  unfold parSt
  rw [e, hs, g1, g2, h]; rfl
theorem mdOk_fmt {m : Md} {r s : Int} (h : mdOkB m r s = true) : (durInB m.dur && (m.use.all inI && m.con.all inI)) = true := by
  unfold mdOkB amtsB at h
  rw [Bool.and_eq_true, Bool.and_eq_true, Bool.and_eq_true, Bool.and_eq_true, decide_eq_true_eq] at h
  have ha : ∀ l : List Int, l.all amtB = true → l.all inI = true := fun l hl => by
    rw [List.all_eq_true] at hl ⊢
    intro x hx
    have := hl x hx
    unfold amtB at this
    rw [decide_eq_true_eq] at this
    exact (inI_iff x).2 (by omega)
  unfold durInB
  rw [decide_eq_true h.1.1, ha _ h.1.2.1, ha _ h.2.1]; rfl
theorem acOk_parts {a : Ac} {r s : Int} (h : acOkB a r s = true) : (∀ m ∈ a.modes, mdOkB m r s = true) ∧ isNm a.name = true ∧ (0 ≤ a.fam ∧ a.fam ≤ 3) ∧ 1 ≤ a.modes.length ∧ a.modes.length ≤ 3 := by
  unfold acOkB at h
  rw [Bool.and_eq_true, Bool.and_eq_true, Bool.and_eq_true, decide_eq_true_eq, decide_eq_true_eq, List.all_eq_true] at h
  exact ⟨h.1, h.2.1.1, h.2.1.2, by omega, by omega⟩
theorem rsOk_parts {r : Rs} (h : rsOkB r = true) : stOkB r.steps = true ∧ (r.setup.length = 0 ∨ (r.setup.length = 4 ∧ r.setup.flatten.length = 16 ∧ r.setup.flatten.all inI = true)) := by
  unfold rsOkB at h
  rw [Bool.and_eq_true, Bool.and_eq_true, List.all_eq_true] at h
  refine ⟨h.2.1, ?_⟩
  have h3 := h.2.2
  rw [Bool.or_eq_true, decide_eq_true_eq, decide_eq_true_eq] at h3
  rcases h3 with h3 | h3
  · exact .inl h3
  · refine .inr ⟨h3, ?_, ?_⟩
    · match hs : r.setup, h3 with
      | [a, b, c, d], _ =>
        have hl : ∀ x ∈ r.setup, x.length = 4 := fun x hx => by
          have := h.1 x hx
          unfold rowB at this
          rw [Bool.and_eq_true, decide_eq_true_eq] at this
          exact this.1
        rw [hs] at hl
        have := hl a (by simp); have := hl b (by simp); have := hl c (by simp); have := hl d (by simp)
        simp; omega
    · rw [List.all_eq_true]
      intro x hx
      obtain ⟨y, hy, hx⟩ := List.mem_flatten.1 hx
      have := h.1 y hy
      unfold rowB at this
      rw [Bool.and_eq_true, List.all_eq_true] at this
      have := this.2 x hx
      unfold durB at this
      rw [decide_eq_true_eq] at this
      exact (inI_iff x).2 (by omega)
theorem linkW_Cl (k : Lk) : Cl (linkW k) := by
  unfold linkW
  split
  · exact Cl.lit (l := [101, 110, 100]) (by decide)
  · exact Cl.lit (l := [115, 116, 97, 114, 116]) (by decide)
theorem pjOk_parts {p : Pj} (h : pjOkB p = true) : (1 ≤ p.dead ∧ p.dead ≤ 60) ∧ (1 ≤ p.acts.length ∧ p.acts.length ≤ 6) ∧ p.res.length ≤ 3 ∧ p.stocks.length ≤ 2 ∧ p.links.length ≤ 12 ∧
    (∀ a ∈ p.acts, acOkB a p.res.length p.stocks.length = true) ∧ (∀ r ∈ p.res, rsOkB r = true) ∧ (∀ n ∈ p.stocks, 0 ≤ n ∧ n ≤ 100) ∧ ∀ k ∈ p.links, lkOkB p.acts.length k = true := by
  have h' := h
  unfold pjOkB pjHeadB at h'
  simp only [Bool.and_eq_true, decide_eq_true_eq, List.all_eq_true] at h'
  obtain ⟨⟨⟨h1, h2⟩, ⟨h3, h4⟩, h5⟩, _, h7, h8, h9⟩ := h'
  refine ⟨h1, by omega, h3, h4, h5, fun a ha => ?_, h7, fun n hn => ?_, h9⟩
  · obtain ⟨i, hi, rfl⟩ := List.getElem_of_mem ha
    have := pjOk_acts h hi
    rwa [getD_get _ hi] at this
  · have := h8 n hn
    unfold stkB at this
    rwa [decide_eq_true_eq] at this
theorem lkOk_parts {n : Nat} {k : Lk} (h : lkOkB n k = true) : (0 ≤ k.src ∧ k.src ≤ (n : Int) - 1) ∧ (0 ≤ k.dst ∧ k.dst ≤ (n : Int) - 1) ∧ (-60 ≤ k.lag ∧ k.lag ≤ 60) := by
  unfold lkOkB at h
  simp only [Bool.and_eq_true, decide_eq_true_eq] at h
  exact ⟨h.1.1, h.1.2, h.2.2⟩
theorem nameAt_Cl {p : Pj} (h : pjOkB p = true) {i : Int} (hi : 0 ≤ i ∧ i ≤ (p.acts.length : Int) - 1) : Cl (nameAt p i) := by
  unfold nameAt
  exact Cl.name (acOk_parts (pjOk_acts h (k := i.toNat) (by omega))).2.1
theorem words_Cl {p : Pj} (h : pjOkB p = true) : ∀ w ∈ linesW p, w ≠ [] ∧ ∀ x ∈ w, Cl x := by
  obtain ⟨_, _, _, _, _, hA, hR, hS, hL⟩ := pjOk_parts h
  intro w hw
  unfold linesW at hw
  simp only [List.mem_append, List.mem_singleton, List.mem_map] at hw
  rcases hw with (((rfl | ⟨r, hr, rfl⟩) | ⟨n, hn, rfl⟩) | ⟨a, ha, rfl⟩) | ⟨k, hk, rfl⟩
  · refine ⟨by simp [wordsD], fun x hx => ?_⟩
    simp only [wordsD, List.mem_cons, List.not_mem_nil, or_false] at hx
    rcases hx with rfl | rfl
    · exact Cl.lit (l := [100, 101, 97, 100, 108, 105, 110, 101]) (by decide)
    · exact Cl.fmtI _
  · refine ⟨by unfold wordsR; split <;> simp, fun x hx => ?_⟩
    unfold wordsR at hx
    split at hx
    · simp only [List.mem_cons, List.not_mem_nil, or_false] at hx
      rcases hx with rfl | rfl
      · exact Cl.lit (l := [114, 101, 115, 111, 117, 114, 99, 101]) (by decide)
      · exact Cl.fmtSt _
    · simp only [List.mem_cons, List.not_mem_nil, or_false] at hx
      rcases hx with rfl | rfl | rfl
      · exact Cl.lit (l := [114, 101, 115, 111, 117, 114, 99, 101]) (by decide)
      · exact Cl.fmtSt _
      · exact Cl.fmtIs _
  · refine ⟨by simp [wordsS], fun x hx => ?_⟩
    simp only [wordsS, List.mem_cons, List.not_mem_nil, or_false] at hx
    rcases hx with rfl | rfl
    · exact Cl.lit (l := [115, 116, 111, 99, 107]) (by decide)
    · exact Cl.fmtI _
  · refine ⟨by simp [wordsA], fun x hx => ?_⟩
    simp only [wordsA, List.mem_append, List.mem_cons, List.not_mem_nil, or_false, List.mem_map] at hx
    rcases hx with (rfl | rfl | rfl) | ⟨m, _, rfl⟩
    · exact Cl.lit (l := [97, 99, 116, 105, 118, 105, 116, 121]) (by decide)
    · exact Cl.name (acOk_parts (hA a ha)).2.1
    · exact Cl.fmtI _
    · exact Cl.fmtMd _
  · refine ⟨by simp [wordsL], fun x hx => ?_⟩
    have hl := lkOk_parts (hL k hk)
    simp only [wordsL, List.mem_cons, List.not_mem_nil, or_false] at hx
    rcases hx with rfl | rfl | rfl | rfl
    · exact linkW_Cl _
    · exact nameAt_Cl h hl.1
    · exact nameAt_Cl h hl.2.1
    · exact Cl.fmtI _
theorem words_join {w : List ByteArray} (h0 : w ≠ []) (h : ∀ x ∈ w, Cl x) : words (joinB w space) = w := splitAny_join h0 fun x hx => (h x hx).no (by decide)
theorem wd_ne2 : wRes ≠ wDead ∧ wStk ≠ wDead ∧ wStk ≠ wRes ∧ wAct ≠ wDead ∧ wAct ≠ wRes ∧ wAct ≠ wStk ∧ wSta ≠ wDead ∧ wSta ≠ wRes ∧ wSta ≠ wStk ∧ wSta ≠ wAct ∧ wEnd ≠ wDead ∧ wEnd ≠ wRes ∧ wEnd ≠ wStk ∧ wEnd ≠ wAct := by decide
theorem words_ok {p : Pj} (h : pjOkB p = true) : ∀ w ∈ linesW p, lineB w = true := by
  obtain ⟨hd, _, _, _, _, hA, hR, hS, hL⟩ := pjOk_parts h
  obtain ⟨n1, n2, n3, n4, n5, n6, n7, n8, n9, n10, n11, n12, n13, n14⟩ := wd_ne2
  intro w hw
  unfold linesW at hw
  simp only [List.mem_append, List.mem_singleton, List.mem_map] at hw
  rcases hw with (((rfl | ⟨r, hr, rfl⟩) | ⟨n, hn, rfl⟩) | ⟨a, ha, rfl⟩) | ⟨k, hk, rfl⟩
  · unfold lineB
    rw [if_pos (show gw (wordsD p.dead) 0 = wDead from rfl)]
    show (decide ((wordsD p.dead).length = 2) && okI (fmtI p.dead)) = true
    rw [(okI_fmt (n := p.dead) (by omega)).1]; rfl
  · obtain ⟨hs, ht⟩ := rsOk_parts (hR r hr)
    have e0 : gw (wordsR r) 0 = wRes := by unfold wordsR; split <;> rfl
    have e1 : gw (wordsR r) 1 = fmtSt r.steps := by unfold wordsR; split <;> rfl
    unfold lineB
    rw [e0, if_neg n1, if_pos rfl]
    unfold okRs
    rw [e1, parSt_fmt hs]
    rcases ht with ht | ⟨ht, h16, hin⟩
    · have el : (wordsR r).length = 2 := by unfold wordsR; rw [if_pos ht]; rfl
      rw [el]; rfl
    · have el : (wordsR r).length = 3 := by unfold wordsR; rw [if_neg (by omega)]; rfl
      have e2 : gw (wordsR r) 2 = fmtIs r.setup.flatten := by unfold wordsR; rw [if_neg (by omega)]; rfl
      rw [el, e2, parIs_fmt hin, decide_eq_true h16]; rfl
  · unfold lineB
    rw [show gw (wordsS n) 0 = wStk from rfl, if_neg n2, if_neg n3, if_pos rfl]
    show (decide ((wordsS n).length = 2) && okI (fmtI n)) = true
    have := hS n hn
    rw [(okI_fmt (n := n) (by omega)).1]; rfl
  · obtain ⟨hm, _, hf, _, _⟩ := acOk_parts (hA a ha)
    unfold lineB
    rw [show gw (wordsA a) 0 = wAct from rfl, if_neg n4, if_neg n5, if_neg n6, if_pos rfl]
    unfold okAc
    rw [show gw (wordsA a) 2 = fmtI a.fam from rfl, (okI_fmt (n := a.fam) (by omega)).1, show (wordsA a).drop 3 = a.modes.map fmtMd from rfl]
    rw [decide_eq_true (by simp [wordsA]), Bool.true_and, Bool.true_and, List.all_eq_true]
    intro x hx
    obtain ⟨m, hmm, rfl⟩ := List.mem_map.1 hx
    exact (parMd_fmt (mdOk_fmt (hm m hmm))).1
  · have hl := lkOk_parts (hL k hk)
    have e0 : gw (wordsL p k) 0 = linkW k := rfl
    have e1 : linkW k = wEnd ∨ linkW k = wSta := by unfold linkW; split <;> simp
    unfold lineB
    rw [e0]
    have hh : (decide ((wordsL p k).length = 4) && okI (gw (wordsL p k) 3)) = true := by
      rw [show gw (wordsL p k) 3 = fmtI k.lag from rfl, (okI_fmt (n := k.lag) (by omega)).1]; rfl
    rcases e1 with e1 | e1
    · rw [e1, if_neg n11, if_neg n12, if_neg n13, if_neg n14, if_pos (.inr rfl)]; exact hh
    · rw [e1, if_neg n7, if_neg n8, if_neg n9, if_neg n10, if_pos (.inl rfl)]; exact hh
theorem lines_no {p : Pj} (h : pjOkB p = true) : ∀ x ∈ linesPj p, (10 : UInt8) ∉ x.data.toList := by
  rw [words_lines]
  intro x hx
  obtain ⟨w, hw, rfl⟩ := List.mem_map.1 hx
  intro hb
  rcases mem_joinB hb with hb | ⟨y, hy, hb⟩
  · revert hb; decide
  · exact ((words_Cl h w hw).2 y hy).no (by decide) hb
theorem lines_split {p : Pj} (h : pjOkB p = true) : splitLines (fmtPj p) = linesPj p := by
  have e : fmtPj p = joinB (linesPj p ++ [ByteArray.empty]) newline := by
    rw [joinB_snoc (by simp [linesPj])]
    unfold fmtPj
    rw [if_pos h]
    apply str_ext
    simp
  have hs : splitAny (fmtPj p) newline = linesPj p ++ [ByteArray.empty] := by
    rw [e]
    refine splitAny_join (by simp) fun x hx => ?_
    rcases List.mem_append.1 hx with hx | hx
    · exact lines_no h x hx
    · simp at hx; subst hx; simp
  rw [splitLines_cut (m := (linesPj p).length) (by rw [hs]; simp) (by rw [hs]; simp), hs]
  simp
theorem lines_ok {p : Pj} (h : pjOkB p = true) : (splitLines (fmtPj p)).all (fun x => lineB (words x)) = true := by
  rw [lines_split h, words_lines, List.all_eq_true]
  intro x hx
  obtain ⟨w, hw, rfl⟩ := List.mem_map.1 hx
  have := words_Cl h w hw
  show lineB (words (joinB w space)) = true
  rw [words_join this.1 this.2]
  exact words_ok h w hw
theorem fmtPj_ne {p : Pj} : fmtPj p ≠ ByteArray.empty ↔ pjOkB p = true := by
  constructor
  · intro h
    by_cases e : pjOkB p = true
    · exact e
    · exact absurd (by unfold fmtPj; rw [if_neg e]) h
  · intro h e
    unfold fmtPj at e
    rw [if_pos h] at e
    have := congrArg (fun x : ByteArray => x.data.toList) e
    simp [newline] at this
/-- As the reference asks it. -/
theorem parPjB_spec (s : ByteArray) : parPjB s = ((splitLines s).all (fun x => !stopB (words x)) && (pjOkB (resP s) && decide (fmtPj (resP s) = s))) := by
  unfold parPjB
  by_cases hf : fmtPj (resP s) = s
  · rw [decide_eq_true hf, Bool.and_true, Bool.and_true]
    by_cases hok : pjOkB (resP s) = true
    · have hl := lines_ok hok
      rw [hf] at hl
      have hne := fmtPj_ne.2 hok
      rw [hf] at hne
      rw [hl, decide_eq_true hne, hok, Bool.and_true, Bool.and_true]
      symm
      rw [List.all_eq_true]
      intro x hx
      rw [List.all_eq_true] at hl
      rw [line_stop (hl x hx)]; rfl
    · have hz : s = ByteArray.empty := by rw [← hf]; unfold fmtPj; rw [if_neg hok]
      rw [decide_eq_false (by simp [hz]), Bool.and_false]
      have : pjOkB (resP s) = false := by simpa using hok
      rw [this, Bool.and_false]
  · rw [decide_eq_false hf, Bool.and_false, Bool.and_false, Bool.and_false, Bool.and_false]
end Go.Proofs.YtcecgbjolngdbaaGreatDoor
