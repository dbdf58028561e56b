/- The set of a list: the program sorts and joins runs, the reference puts one number after another. -/
import Derived.Test.YtcecgbjolngdbaaGreatDoorKit
import Derived.Test.YtcecgbjolngdbaaGreatDoorPlain
import Derived.Test.YtcecgbjolngdbaaGreatDoorPlainCmp
import Derived.Test.YtcecgbjolngdbaaGreatDoorLaw
import Derived.Test.YtcecgbjolngdbaaGreatDoorSets
import Derived.Test.YtcecgbjolngdbaaGreatDoorShelf
import Derived.Sort.OwnSortedInts
import Derived.Laws.AppendOwnNone
import Derived.Lib.RowBridge
namespace Go.Proofs.YtcecgbjolngdbaaGreatDoor
open Go.ChangeShapes Go.WideShapes Go.ChangeAt Go.RowKit Go.Sort
set_option linter.unusedVariables false

theorem OwnR.block {w : World} {lo hi : Nat} {e : TypeId} {g n c : Nat} {xs : List Value} (h : OwnR w lo hi e 1 (some ⟨g, 0, none⟩) n c xs) : ∃ cur : Array Value, lo ≤ g ∧ g < hi ∧ w.heap[g]? = some (.cells cur e (0, 0)) ∧ n ≤ c ∧ c ≤ maxLen ∧ cur.size = c * 1 ∧ cur.toList.take n = xs := by
  rcases h.1.2 with ⟨hv, _⟩ | ⟨g', cap, cur, hv, hg, hh, h1, h2, h3, h4⟩
  · cases hv
  · simp at hv
    obtain ⟨rfl, rfl⟩ := hv
    exact ⟨cur, hg, h.2 _ rfl, hh, h1, h2, h3, by rw [Nat.mul_one] at h4; exact h4⟩
theorem rdI_empty {w : World} {lo hi : Nat} {A : Option Addr} : RdI w lo hi A [] := RdI.nil_ rfl
theorem OwnR.zero (w : World) (lo hi : Nat) (e : TypeId) (A : Option Addr) (c : Nat) (h : w.ownsRow lo e 1 (.slice A 0 c) 0 []) (hb : ∀ a, A = some a → a.block < hi) : OwnR w lo hi e 1 A 0 c [] := ⟨h, hb⟩
def yesB (ys : List Int) (y : Int) : Bool := hasB ys y
theorem clone_any (A : Option Addr) (l : List Int) (c lo hi : Nat) (w : World) (hl : l.length ≤ 16777216) (ha : RdI w lo hi A l) :
    Calls Tryz.prog 134 #[.slice A l.length c] w fun e w' => ∃ A' c', e = .returned (.slice A' l.length c') ∧ OwnR w' w.heap.size w'.heap.size 3 1 A' l.length c' (l.map (.int .i64)) ∧ Below w.heap.size w w' := by
  by_cases h0 : l.length = 0
  · obtain rfl : l = [] := List.length_eq_zero_iff.1 h0
    cases A with
    | none =>
      refine (Tryz.slices_Clone_int_nil 0 c w).mono ?_
      rintro e w' ⟨rfl, rfl⟩
      exact ⟨_, _, rfl, OwnR.empty _ _ _ _ _, Below.refl _ _⟩
    | some a =>
      refine (Tryz.slices_Clone_int_zero a c w).mono ?_
      rintro e w' ⟨v', rfl, hO, _, hB⟩
      obtain ⟨A', c', rfl⟩ := own_shape hO
      exact ⟨A', c', rfl, OwnR.of_own hO, hB⟩
  · obtain ⟨b, off, rfl, h1, h2, hc⟩ := ha (by omega)
    refine (Tryz.slices_Clone_int b off l.length c l w (Nat.le_refl _) (by omega) hc).mono ?_
    rintro e w' ⟨v', rfl, hO, _, hB⟩
    obtain ⟨A', c', rfl⟩ := own_shape hO
    rw [List.take_length] at hO
    exact ⟨A', c', rfl, OwnR.of_own hO, hB⟩
set_option maxHeartbeats 1600000 in
theorem implSetOf_any (A : Option Addr) (l : List Int) (c lo hi : Nat) (w : World) (hl : l.length ≤ 16777216) (ha : RdI w lo hi A l) :
    Calls Tryz.prog 74 #[.slice A l.length c] w fun e w' => ∃ A' c', e = .returned (.slice A' (setOf l).length c') ∧ OwnR w' w.heap.size w'.heap.size 3 1 A' (setOf l).length c' ((setOf l).map (.int .i64)) ∧ Below w.heap.size w w' := by
  go_enter Tryz.func74, Tryz.ntmps74
  go_wp2_with fail
  refine (clone_any A l c lo hi w hl ha).mono ?_
  rintro e w1 ⟨A1, c1, rfl, hO, hB⟩
  have hs1 := hB.size
  by_cases h0 : l.length = 0
  · obtain rfl : l = [] := List.length_eq_zero_iff.1 h0
    have HS : Hid (setOf [] = []) := rfl
    clear h0
    go_wp2_with fail
    refine (Tryz.slices_Sort_int_none A1 c1 w1).mono ?_
    rintro e w2 ⟨rfl, rfl⟩
    go_wp2_with fail
    refine (Tryz.slices_Compact_int_empty A1 c1 _).mono ?_
    rintro e w3 ⟨rfl, rfl⟩
    go_wp2
    go_ret
    exact ⟨A1, c1, rfl, hO, hB⟩
  obtain ⟨g, rfl, hg1, hg2, hg3⟩ := hO.some_ (by omega)
  obtain ⟨cur, _, _, hb, hn1, hn2, hn3, hn4⟩ := hO.block
  have HC := hide (compact_sort l)
  have HH := hide (holds_of_blockI hb hn4)
  have HLE := hide (Lib.compact_length_le (l.mergeSort fun x y => decide (x ≤ y)))
  have HLM : Hid ((l.mergeSort fun x y => decide (x ≤ y)).length = l.length) := List.length_mergeSort l
  generalize hz : (l.mergeSort fun x y => decide (x ≤ y)) = z at HC HLE HLM
  have hsort := Tryz.slices_Sort_int g 0 c1 l w1 HH.out hg3 (by omega)
  rw [hz] at hsort
  have HSORT := hide hsort; clear hsort
  have hlz := HLM.out
  go_wp2_with fail
  refine HSORT.out.mono ?_
  rintro e w2 ⟨rfl, n, os, rfl⟩
  clear HSORT
  have hb2 := heap_sortedI (w := w1) (n := n) (os := os) z.toArray hb
  have hgr := grownBy_sortedI (w := w1) (g := g) (n := n) (os := os) z.toArray
  have hB2 := hB.grown hgr hs1 (fun k hk => by injection hk with hk; omega)
  have hsz2 := hgr.size
  have ht2 := take_putCellsI cur z (by omega)
  have hc2 : (putCells (Value.int .i64) 0 z.toArray cur).size = c1 * 1 := by simp [putCells, hn3]
  generalize putCells (Value.int .i64) 0 z.toArray cur = cur2 at hb2 ht2 hc2
  generalize grow (putRow (Value.int .i64) (Sort.ahead w1 n) g 0 z.toArray) os = W2 at hb2 hB2 hsz2
  have HH2 := hide (holds_of_blockI hb2 ht2)
  have hg4 : g < W2.heap.size := by omega
  have hcomp := Tryz.slices_Compact_int g 0 c1 z W2 HH2.out (by omega) (by omega)
  rw [hlz] at hcomp
  have HCOMP := hide hcomp; clear hcomp
  go_wp2_with fail
  refine HCOMP.out.mono ?_
  rintro e w3 ⟨rfl, q, rfl⟩
  clear HCOMP
  have hle := HLE.out
  have hlt : (Lib.compact z ++ List.replicate (l.length - (Lib.compact z).length) 0).length = l.length := by simp; omega
  have hO3 := ownsRow_sortedI (w := W2) (base := w.heap.size) (n := q) (os := #[]) (ss := l) hlt hg1 hb2 hn1 hn2 hc2
  have hgr3 := grownBy_sortedI (w := W2) (g := g) (n := q) (os := #[]) (Lib.compact z ++ List.replicate (l.length - (Lib.compact z).length) 0).toArray
  rw [grow_empty] at hO3 hgr3
  have hB3 := hB2.grown hgr3 hB2.size (fun k hk => by injection hk with hk; omega)
  have hOc := (OwnR.of_own hO3).cut (m := (Lib.compact z).length) (by omega)
  rw [List.map_append, List.take_left' (by simp)] at hOc
  rw [HC.out] at hOc hB3 ⊢
  generalize putRow (Value.int .i64) (Sort.ahead W2 q) g 0 (setOf l ++ List.replicate (l.length - (setOf l).length) 0).toArray = W3 at hOc hB3 ⊢
  go_wp2
  go_ret
  exact ⟨_, _, rfl, hOc, hB3⟩
set_option maxHeartbeats 1600000 in
theorem implSetIntersection_any (A B : Option Addr) (xs ys : List Int) (c d lo hi lo' hi' : Nat) (w : World) (hx : xs.length ≤ 16777216) (hy : ys.length ≤ 16777216) (ha : RdI w lo hi A xs) (hb : RdI w lo' hi' B ys) (hhi : hi ≤ w.heap.size) (hhi' : hi' ≤ w.heap.size) :
    Calls Tryz.prog 17 #[.slice A xs.length c, .slice B ys.length d] w fun e w' => ∃ A' c', e = .returned (.slice A' (setOf (keepI (yesB ys) xs)).length c') ∧ OwnR w' w.heap.size w'.heap.size 3 1 A' (setOf (keepI (yesB ys) xs)).length c' ((setOf (keepI (yesB ys) xs)).map (.int .i64)) ∧ Below w.heap.size w w' := by
  have hmf : ∀ (fn : Fn) (first cap : Array Value) (w : World), (Instr.makeFunc fn first cap).run Tryz.prog w = .ok (.func fn first cap) w := fun _ _ _ _ => rfl
  have hf : ∀ W y, Below (w.alloc (.cells #[.slice B ys.length d] 25)).heap.size (w.alloc (.cells #[.slice B ys.length d] 25)) W → Calls Tryz.prog 76 (#[.int .i64 y] ++ #[.pointer (some ⟨w.heap.size, 0, none⟩)]) W fun e w' => e = .returned (.bool (yesB ys y)) ∧ Qt W w' := by
    intro W y hW
    have g1 : W.cell? ⟨w.heap.size, 0, none⟩ = some (.slice B ys.length d) := by
      rw [hW.cell (p := ⟨w.heap.size, 0, none⟩) (by simp), World.cell?_alloc_at _ _ _ _ rfl]; rfl
    have fB : RdI W lo' hi' B ys := (hb.below ((Below.refl w.heap.size w).alloc (Nat.le_refl _) _) hhi').below hW (by simp; omega)
    clear hW
    go_enter Tryz.func76, Tryz.ntmps76
    go_wp2_with fail
    refine (implSetHas_any B ys d lo' hi' y _ hy (by exact fB)).mono ?_
    rintro e w1 ⟨rfl, ⟨q, rfl⟩⟩
    generalize hbv : hasB ys y = bv
    have HBV := hide hbv; clear hbv
    go_wp2
    go_ret
    exact ⟨ret_bool (by unfold yesB; rw [HBV.out]), ⟨_, rfl⟩⟩
  have HF := hide hf; clear hf
  go_enter Tryz.func17, Tryz.ntmps17
  go_wp2_with fail
  refine (kept_any 76 #[.pointer (some ⟨w.heap.size, 0, none⟩)] (yesB ys) A xs c lo hi _ hx (ha.below ((Below.refl _ _).alloc (Nat.le_refl _) _) hhi) (by simp; omega) (run_enter Tryz.func76 (by kernel_rfl) rfl) HF.out).mono ?_
  rintro e w1 ⟨A', c', rfl, hO, hB⟩
  have hB0 := (((Below.refl w.heap.size w).alloc (Nat.le_refl _) _).trans (hB.mono (by simp)))
  have hO1 := hO.mono (lo' := w.heap.size) (by simp) (Nat.le_refl _)
  have hs1 := hB0.size
  have hkl : (keepI (yesB ys) xs).length ≤ 16777216 := Nat.le_trans (List.length_filter_le _ _) hx
  have fI := hO1.rdI
  clear hB hO HF
  go_wp2_with fail
  refine (implSetOf_any A' _ c' _ _ _ hkl fI).mono ?_
  rintro e w2 ⟨A2, c2, rfl, hO2, hB2⟩
  have hO2 := hO2.mono hs1 (Nat.le_refl _)
  have hB2 := hB0.trans (hB2.mono hs1)
  go_wp2
  go_ret
  exact ⟨A2, c2, rfl, hO2, hB2⟩
theorem putAt_eq {l : List Int} {n : Int} {k : Nat} (hk : k ≤ l.length) (h1 : ∀ j, j < k → l.getD j 0 < n) (h2 : k = l.length ∨ n ≤ l.getD k 0) : putAt l n = k := by
  induction l generalizing k with
  | nil => simp at hk; subst hk; rfl
  | cons a l ih =>
    cases k with
    | zero =>
      have h3 : ¬ a < n := by
        rcases h2 with h2 | h2
        · simp at h2
        · simp at h2; omega
      simp [putAt, h3]
    | succ k =>
      have h3 : a < n := by simpa using h1 0 (by omega)
      have := ih (k := k) (by simpa using hk) (fun j hj => by simpa using h1 (j + 1) (by omega)) (by simpa using h2)
      unfold putAt at this ⊢
      simp [h3, this]
set_option maxHeartbeats 3200000 in
theorem l02Put_any (g : Nat) (l : List Int) (c lo : Nat) (n : Int) (w : World) (hl : l.length ≤ 16777215) (hO : OwnR w lo w.heap.size 3 1 (some ⟨g, 0, none⟩) l.length c (l.map (.int .i64))) (hlo : lo ≤ w.heap.size) :
    Calls Tryz.prog 168 #[.slice (some ⟨g, 0, none⟩) l.length c, .int .i64 n] w fun e w' => ∃ g' c', e = .returned (.slice (some ⟨g', 0, none⟩) (putI l n).length c') ∧ OwnR w' lo w'.heap.size 3 1 (some ⟨g', 0, none⟩) (putI l n).length c' ((putI l n).map (.int .i64)) ∧ Below w.heap.size w w' := by
  have fI := hO.rdI
  obtain ⟨cur, hg1, hg2, hgb, hgc, _, _, _⟩ := hO.block
  have HBL := hide hgb; clear hgb
  have HP : Hid (putI l n = if hasB l n then l else l.take (putAt l n) ++ [n] ++ l.drop (putAt l n)) := rfl
  go_enter Tryz.func168, Tryz.ntmps168
  go_wp2_with fail
  refine (specSetHas_any _ l c lo w.heap.size n w (by omega) fI).mono ?_
  rintro e w1 ⟨rfl, ⟨d, rfl⟩⟩
  cases hh : hasB l n
  case true =>
    have HK := hide (show putI l n = l from by rw [HP.out, hh]; rfl)
    clear hh
    go_wp2
    go_ret
    exact ⟨g, c, by rw [HK.out]; rfl, by rw [HK.out]; exact hO.qt d, below_quiet (Below.refl _ _) d⟩
  have HK := hide (show putI l n = l.take (putAt l n) ++ [n] ++ l.drop (putAt l n) from by rw [HP.out, hh]; rfl)
  clear hh HP
  go_wp2
  go_loopw [5] (fun i wr => ∃ k : Nat, k ≤ l.length ∧ i = .int .i64 k ∧ Qt w wr ∧ Hid (∀ j, j < k → l.getD j 0 < n)) (fun i _ => l.length - (intOf i).toNat)
  case atStart => exact ⟨0, Nat.zero_le _, rfl, ⟨_, rfl⟩, hide (fun j h => absurd h (by omega))⟩
  case round =>
    obtain ⟨k, hk, rfl, ⟨d2, rfl⟩, H⟩ := hrel
    by_cases hgo : k < l.length ∧ l.getD k 0 < n
    · obtain ⟨hlt, hxn⟩ := hgo
      have HXN := hide hxn
      have g1 : w.cell? ⟨g, k, none⟩ = some (.int .i64 (l.getD k 0)) := by rw [hO.cellAt k (by omega)]; simp [hlt]
      generalize hX : l.getD k 0 = X at g1 hxn
      have HX := hide hX; clear hX
      go_wp2
      go_roundw
      case rel =>
        refine ⟨k + 1, by omega, by go_num, ⟨_, rfl⟩, hide (fun j hj => ?_)⟩
        by_cases e : j = k
        · subst e; exact HXN.out
        · exact H.out j (by omega)
      case measure => simp [intOf]; omega
    · have HPA := hide (putAt_eq hk H.out (by
        by_cases e : k = l.length
        · exact .inl e
        · exact .inr (by
            have : ¬ l.getD k 0 < n := fun h => hgo ⟨by omega, h⟩
            omega)))
      rw [HPA.out] at HK
      have hEm := OwnR.made (w.drewN d2) w.heap.size 3 1 #[] 0 (Nat.le_refl _) (by unfold maxLen; omega) rfl
      have HEM := hide hEm; clear hEm
      have hcell : ∀ (o : Obj) (j : Nat) (u : Value), (l.map (Value.int .i64))[j]? = some u → ((w.drewN d2).alloc o).cell? ⟨g, j, none⟩ = some u := fun o j u hj => by
        have hjl : j < l.length := by
          have := (List.getElem?_eq_some_iff.1 hj).1
          simpa using this
        rw [World.cell?_alloc_lt _ _ _ (by show g < w.heap.size; exact hg2)]
        rw [← hj]
        exact hO.cellAt j (by omega)
      have HCELL := hide hcell; clear hcell
      have hkl : (l.take k).length = k := by rw [List.length_take]; omega
      have HT1 : Hid (∀ (o : Obj) (j : Nat) (u : Value), ((l.take k).map (Value.int .i64))[j]? = some u → ((w.drewN d2).alloc o).cell? ⟨g, 0 + j, none⟩ = some u) := fun o j u hj => by
        rw [Nat.zero_add]
        refine HCELL.out o j u ?_
        have hjk : j < (l.take k).length := by simpa using (List.getElem?_eq_some_iff.1 hj).1
        rw [← hj, List.getElem?_map, List.getElem?_map, List.getElem?_take, if_pos (by omega)]
      have HONE : Hid (∀ u ∈ (l.take k).map (Value.int .i64), u.oneCell' = true) := fun u hu => by
        obtain ⟨x, _, rfl⟩ := List.mem_map.1 hu
        rfl
      have hkl : (l.take k).length = k := by rw [List.length_take]; omega
      have HT1 : Hid (∀ (o : Obj) (j : Nat) (u : Value), ((l.take k).map (Value.int .i64))[j]? = some u → ((w.drewN d2).alloc o).cell? ⟨g, 0 + j, none⟩ = some u) := fun o j u hj => by
        rw [Nat.zero_add]
        refine HCELL.out o j u ?_
        have hjk : j < (l.take k).length := by simpa using (List.getElem?_eq_some_iff.1 hj).1
        rw [← hj, List.getElem?_map, List.getElem?_map, List.getElem?_take, if_pos (by omega)]
      have HONE : Hid (∀ u ∈ (l.take k).map (Value.int .i64), u.oneCell' = true) := fun u hu => by
        obtain ⟨x, _, rfl⟩ := List.mem_map.1 hu
        rfl
      have HTW : Hid (∀ u ∈ (l.drop k).map (Value.int .i64), u.oneCell' = true) := fun u hu => by
        obtain ⟨x, _, rfl⟩ := List.mem_map.1 hu
        rfl
      clear hkl
      by_cases hlt : k < l.length
      · have hxn : ¬ l.getD k 0 < n := fun h => hgo ⟨hlt, h⟩
        have g1 : w.cell? ⟨g, k, none⟩ = some (.int .i64 (l.getD k 0)) := by rw [hO.cellAt k (by omega)]; simp [hlt]
        generalize l.getD k 0 = X at g1 hxn
        clear hgo
        by_cases hk0 : 0 < k
        · have hk1 : ¬ k = 0 := by omega
          go_wp2_with (at_builtin; go_must (refine wpList_push _ (.tmp 25) (.tmp 28) 25 3 _ 1 8 Tryz.underlying25 Tryz.infoInt rfl (by omega) w.heap.size _ _ 0 0 [] HEM.out g 0 k c ((l.take k).map (.int .i64)) (by simp; try omega) (HT1.out _) HONE.out (by omega) (by omega) (by simp; try omega) w.heap.size w ((below_quiet (Below.refl _ _) _).alloc (Nat.le_refl _) _) (Nat.le_refl _) ?_ rfl rfl rfl rfl))
          intro A2 c2 w2 hO2 hB2 hs2 _
          have hz2 := hB2.size
          have hO2 := hO2.eqv (ys := (l.take k).map (.int .i64)) (by simp)
          go_wp2_with (at_builtin; go_must (refine wpList_push _ (.tmp 30) (.tmp 32) 25 3 _ 1 8 Tryz.underlying25 Tryz.infoInt rfl (by omega) w.heap.size _ A2 _ c2 _ (hO2.alloc _) w2.heap.size 0 1 1 [.int .i64 n] rfl (one_new _ _ _) (one_cell rfl) (by omega) (by omega) (by simp; omega) w.heap.size w (hB2.alloc hz2 _) (Nat.le_refl _) ?_ rfl rfl rfl rfl))
          intro A3 c3 w3 hO3 hB3 hs3 _
          have HT2 : Hid (∀ (j : Nat) (u : Value), ((l.drop k).map (Value.int .i64))[j]? = some u → w3.cell? ⟨g, k + j, none⟩ = some u) := fun j u hj => by
            rw [hB3.cell (p := ⟨g, k + j, none⟩) hg2]
            rw [List.getElem?_map, List.getElem?_drop] at hj
            have hjl : k + j < l.length := by
              cases he : l[k + j]? with
              | none => rw [he] at hj; cases hj
              | some x => exact (List.getElem?_eq_some_iff.1 he).1
            rw [hO.cellAt _ (by omega), List.getElem?_map]
            exact hj
          have hz3 := hB3.size
          go_wp2_with (at_builtin; go_must (refine wpList_push _ (.tmp 34) (.tmp 37) 25 3 _ 1 8 Tryz.underlying25 Tryz.infoInt rfl (by omega) w.heap.size _ A3 _ c3 _ hO3 g k (l.length - k) (c - k) ((l.drop k).map (.int .i64)) (by simp) HT2.out HTW.out (by omega) (by omega) (by omega) w.heap.size w hB3 (Nat.le_refl _) ?_ rfl rfl rfl rfl))
          intro A4 c4 w4 hO4 hB4 hs4 _
          have hlen : (putI l n).length = k + 1 + (l.length - k) := by rw [HK.out]; simp; omega
          have hO5 : OwnR w4 w.heap.size w4.heap.size 3 1 A4 (putI l n).length c4 ((putI l n).map (.int .i64)) := hO4.eqn (by rw [hlen]) (by rw [HK.out]; simp)
          obtain ⟨g', rfl, _, _, _⟩ := hO5.some_ (by rw [hlen]; omega)
          have HO5 := hide (hO5.mono hlo (Nat.le_refl _))
          have HLE := hide hlen
          clear hO5 hlen hO4 hO3 hO2
          go_wp2
          go_ret
          exact ⟨g', c4, by rw [HLE.out]; rfl, HO5.out, hB4⟩
        · obtain rfl : k = 0 := by omega
          go_wp2_with (at_builtin; go_must (refine wpList_push _ (.tmp 25) (.tmp 28) 25 3 _ 1 8 Tryz.underlying25 Tryz.infoInt rfl (by omega) w.heap.size _ _ 0 0 [] HEM.out g 0 0 c ((l.take 0).map (.int .i64)) (by simp; try omega) (HT1.out _) HONE.out (by omega) (by omega) (by simp; try omega) w.heap.size w ((below_quiet (Below.refl _ _) _).alloc (Nat.le_refl _) _) (Nat.le_refl _) ?_ rfl rfl rfl rfl))
          intro A2 c2 w2 hO2 hB2 hs2 _
          have hz2 := hB2.size
          have hO2 := hO2.eqv (ys := (l.take 0).map (.int .i64)) (by simp)
          go_wp2_with (at_builtin; go_must (refine wpList_push _ (.tmp 30) (.tmp 32) 25 3 _ 1 8 Tryz.underlying25 Tryz.infoInt rfl (by omega) w.heap.size _ A2 _ c2 _ (hO2.alloc _) w2.heap.size 0 1 1 [.int .i64 n] rfl (one_new _ _ _) (one_cell rfl) (by omega) (by omega) (by simp; omega) w.heap.size w (hB2.alloc hz2 _) (Nat.le_refl _) ?_ rfl rfl rfl rfl))
          intro A3 c3 w3 hO3 hB3 hs3 _
          have HT2 : Hid (∀ (j : Nat) (u : Value), ((l.drop 0).map (Value.int .i64))[j]? = some u → w3.cell? ⟨g, 0 + j, none⟩ = some u) := fun j u hj => by
            rw [hB3.cell (p := ⟨g, 0 + j, none⟩) hg2]
            rw [List.getElem?_map, List.getElem?_drop] at hj
            have hjl : 0 + j < l.length := by
              cases he : l[0 + j]? with
              | none => rw [he] at hj; cases hj
              | some x => exact (List.getElem?_eq_some_iff.1 he).1
            rw [hO.cellAt _ (by omega), List.getElem?_map]
            exact hj
          have hz3 := hB3.size
          go_wp2_with (at_builtin; go_must (refine wpList_push _ (.tmp 34) (.tmp 37) 25 3 _ 1 8 Tryz.underlying25 Tryz.infoInt rfl (by omega) w.heap.size _ A3 _ c3 _ hO3 g 0 l.length c ((l.drop 0).map (.int .i64)) (by simp) HT2.out HTW.out (by omega) (by omega) (by omega) w.heap.size w hB3 (Nat.le_refl _) ?_ rfl rfl rfl rfl))
          intro A4 c4 w4 hO4 hB4 hs4 _
          have hlen : (putI l n).length = 1 + l.length := by rw [HK.out]; simp; try omega
          have hO5 : OwnR w4 w.heap.size w4.heap.size 3 1 A4 (putI l n).length c4 ((putI l n).map (.int .i64)) := hO4.eqn (by rw [hlen]) (by rw [HK.out]; simp)
          obtain ⟨g', rfl, _, _, _⟩ := hO5.some_ (by rw [hlen]; omega)
          have HO5 := hide (hO5.mono hlo (Nat.le_refl _))
          have HLE := hide hlen
          clear hO5 hlen hO4 hO3 hO2
          go_wp2
          go_ret
          exact ⟨g', c4, by rw [HLE.out]; rfl, HO5.out, hB4⟩
      · clear hgo
        by_cases hk0 : 0 < k
        · have hk1 : ¬ k = 0 := by omega
          by_cases hck : c = k
          · skip
            go_wp2_with (at_builtin; go_must (refine wpList_push _ (.tmp 25) (.tmp 28) 25 3 _ 1 8 Tryz.underlying25 Tryz.infoInt rfl (by omega) w.heap.size _ _ 0 0 [] HEM.out g 0 k k ((l.take k).map (.int .i64)) (by simp; try omega) (HT1.out _) HONE.out (by omega) (by omega) (by simp; try omega) w.heap.size w ((below_quiet (Below.refl _ _) _).alloc (Nat.le_refl _) _) (Nat.le_refl _) ?_ rfl rfl rfl rfl))
            intro A2 c2 w2 hO2 hB2 hs2 _
            have hz2 := hB2.size
            have hO2 := hO2.eqv (ys := (l.take k).map (.int .i64)) (by simp)
            go_wp2_with (at_builtin; go_must (refine wpList_push _ (.tmp 30) (.tmp 32) 25 3 _ 1 8 Tryz.underlying25 Tryz.infoInt rfl (by omega) w.heap.size _ A2 _ c2 _ (hO2.alloc _) w2.heap.size 0 1 1 [.int .i64 n] rfl (one_new _ _ _) (one_cell rfl) (by omega) (by omega) (by simp; omega) w.heap.size w (hB2.alloc hz2 _) (Nat.le_refl _) ?_ rfl rfl rfl rfl))
            intro A3 c3 w3 hO3 hB3 hs3 _
            have HT2 : Hid (∀ (j : Nat) (u : Value), ((l.drop k).map (Value.int .i64))[j]? = some u → w3.cell? ⟨g, k + j, none⟩ = some u) := fun j u hj => by
              rw [hB3.cell (p := ⟨g, k + j, none⟩) hg2]
              rw [List.getElem?_map, List.getElem?_drop] at hj
              have hjl : k + j < l.length := by
                cases he : l[k + j]? with
                | none => rw [he] at hj; cases hj
                | some x => exact (List.getElem?_eq_some_iff.1 he).1
              rw [hO.cellAt _ (by omega), List.getElem?_map]
              exact hj
            have HT3 : Hid (∀ (j : Nat) (u : Value), ((l.drop k).map (Value.int .i64))[j]? = some u → w3.cell? ⟨g, 0 + j, none⟩ = some u) := fun j u hj => by
              rw [List.drop_of_length_le (by omega)] at hj
              cases hj
            have hz3 := hB3.size
            go_wp2_with (at_builtin; go_must (refine wpList_push _ (.tmp 34) (.tmp 37) 25 3 _ 1 8 Tryz.underlying25 Tryz.infoInt rfl (by omega) w.heap.size _ A3 _ c3 _ hO3 g 0 (l.length - k) 0 ((l.drop k).map (.int .i64)) (by simp) HT3.out HTW.out (by omega) (by omega) (by omega) w.heap.size w hB3 (Nat.le_refl _) ?_ rfl rfl rfl rfl))
            intro A4 c4 w4 hO4 hB4 hs4 _
            have hlen : (putI l n).length = k + 1 + (l.length - k) := by rw [HK.out]; simp; omega
            have hO5 : OwnR w4 w.heap.size w4.heap.size 3 1 A4 (putI l n).length c4 ((putI l n).map (.int .i64)) := hO4.eqn (by rw [hlen]) (by rw [HK.out]; simp)
            obtain ⟨g', rfl, _, _, _⟩ := hO5.some_ (by rw [hlen]; omega)
            have HO5 := hide (hO5.mono hlo (Nat.le_refl _))
            have HLE := hide hlen
            clear hO5 hlen hO4 hO3 hO2
            go_wp2
            go_ret
            exact ⟨g', c4, by rw [HLE.out]; rfl, HO5.out, hB4⟩
          · skip
            go_wp2_with (at_builtin; go_must (refine wpList_push _ (.tmp 25) (.tmp 28) 25 3 _ 1 8 Tryz.underlying25 Tryz.infoInt rfl (by omega) w.heap.size _ _ 0 0 [] HEM.out g 0 k c ((l.take k).map (.int .i64)) (by simp; try omega) (HT1.out _) HONE.out (by omega) (by omega) (by simp; try omega) w.heap.size w ((below_quiet (Below.refl _ _) _).alloc (Nat.le_refl _) _) (Nat.le_refl _) ?_ rfl rfl rfl rfl))
            intro A2 c2 w2 hO2 hB2 hs2 _
            have hz2 := hB2.size
            have hO2 := hO2.eqv (ys := (l.take k).map (.int .i64)) (by simp)
            go_wp2_with (at_builtin; go_must (refine wpList_push _ (.tmp 30) (.tmp 32) 25 3 _ 1 8 Tryz.underlying25 Tryz.infoInt rfl (by omega) w.heap.size _ A2 _ c2 _ (hO2.alloc _) w2.heap.size 0 1 1 [.int .i64 n] rfl (one_new _ _ _) (one_cell rfl) (by omega) (by omega) (by simp; omega) w.heap.size w (hB2.alloc hz2 _) (Nat.le_refl _) ?_ rfl rfl rfl rfl))
            intro A3 c3 w3 hO3 hB3 hs3 _
            have HT2 : Hid (∀ (j : Nat) (u : Value), ((l.drop k).map (Value.int .i64))[j]? = some u → w3.cell? ⟨g, k + j, none⟩ = some u) := fun j u hj => by
              rw [hB3.cell (p := ⟨g, k + j, none⟩) hg2]
              rw [List.getElem?_map, List.getElem?_drop] at hj
              have hjl : k + j < l.length := by
                cases he : l[k + j]? with
                | none => rw [he] at hj; cases hj
                | some x => exact (List.getElem?_eq_some_iff.1 he).1
              rw [hO.cellAt _ (by omega), List.getElem?_map]
              exact hj
            have hz3 := hB3.size
            go_wp2_with (at_builtin; go_must (refine wpList_push _ (.tmp 34) (.tmp 37) 25 3 _ 1 8 Tryz.underlying25 Tryz.infoInt rfl (by omega) w.heap.size _ A3 _ c3 _ hO3 g k (l.length - k) (c - k) ((l.drop k).map (.int .i64)) (by simp) HT2.out HTW.out (by omega) (by omega) (by omega) w.heap.size w hB3 (Nat.le_refl _) ?_ rfl rfl rfl rfl))
            intro A4 c4 w4 hO4 hB4 hs4 _
            have hlen : (putI l n).length = k + 1 + (l.length - k) := by rw [HK.out]; simp; omega
            have hO5 : OwnR w4 w.heap.size w4.heap.size 3 1 A4 (putI l n).length c4 ((putI l n).map (.int .i64)) := hO4.eqn (by rw [hlen]) (by rw [HK.out]; simp)
            obtain ⟨g', rfl, _, _, _⟩ := hO5.some_ (by rw [hlen]; omega)
            have HO5 := hide (hO5.mono hlo (Nat.le_refl _))
            have HLE := hide hlen
            clear hO5 hlen hO4 hO3 hO2
            go_wp2
            go_ret
            exact ⟨g', c4, by rw [HLE.out]; rfl, HO5.out, hB4⟩
        · obtain rfl : k = 0 := by omega
          go_wp2_with (at_builtin; go_must (refine wpList_push _ (.tmp 25) (.tmp 28) 25 3 _ 1 8 Tryz.underlying25 Tryz.infoInt rfl (by omega) w.heap.size _ _ 0 0 [] HEM.out g 0 0 c ((l.take 0).map (.int .i64)) (by simp; try omega) (HT1.out _) HONE.out (by omega) (by omega) (by simp; try omega) w.heap.size w ((below_quiet (Below.refl _ _) _).alloc (Nat.le_refl _) _) (Nat.le_refl _) ?_ rfl rfl rfl rfl))
          intro A2 c2 w2 hO2 hB2 hs2 _
          have hz2 := hB2.size
          have hO2 := hO2.eqv (ys := (l.take 0).map (.int .i64)) (by simp)
          go_wp2_with (at_builtin; go_must (refine wpList_push _ (.tmp 30) (.tmp 32) 25 3 _ 1 8 Tryz.underlying25 Tryz.infoInt rfl (by omega) w.heap.size _ A2 _ c2 _ (hO2.alloc _) w2.heap.size 0 1 1 [.int .i64 n] rfl (one_new _ _ _) (one_cell rfl) (by omega) (by omega) (by simp; omega) w.heap.size w (hB2.alloc hz2 _) (Nat.le_refl _) ?_ rfl rfl rfl rfl))
          intro A3 c3 w3 hO3 hB3 hs3 _
          have HT2 : Hid (∀ (j : Nat) (u : Value), ((l.drop 0).map (Value.int .i64))[j]? = some u → w3.cell? ⟨g, 0 + j, none⟩ = some u) := fun j u hj => by
            rw [hB3.cell (p := ⟨g, 0 + j, none⟩) hg2]
            rw [List.getElem?_map, List.getElem?_drop] at hj
            have hjl : 0 + j < l.length := by
              cases he : l[0 + j]? with
              | none => rw [he] at hj; cases hj
              | some x => exact (List.getElem?_eq_some_iff.1 he).1
            rw [hO.cellAt _ (by omega), List.getElem?_map]
            exact hj
          have hz3 := hB3.size
          go_wp2_with (at_builtin; go_must (refine wpList_push _ (.tmp 34) (.tmp 37) 25 3 _ 1 8 Tryz.underlying25 Tryz.infoInt rfl (by omega) w.heap.size _ A3 _ c3 _ hO3 g 0 l.length c ((l.drop 0).map (.int .i64)) (by simp) HT2.out HTW.out (by omega) (by omega) (by omega) w.heap.size w hB3 (Nat.le_refl _) ?_ rfl rfl rfl rfl))
          intro A4 c4 w4 hO4 hB4 hs4 _
          have hlen : (putI l n).length = 1 + l.length := by rw [HK.out]; simp; try omega
          have hO5 : OwnR w4 w.heap.size w4.heap.size 3 1 A4 (putI l n).length c4 ((putI l n).map (.int .i64)) := hO4.eqn (by rw [hlen]) (by rw [HK.out]; simp)
          obtain ⟨g', rfl, _, _, _⟩ := hO5.some_ (by rw [hlen]; omega)
          have HO5 := hide (hO5.mono hlo (Nat.le_refl _))
          have HLE := hide hlen
          clear hO5 hlen hO4 hO3 hO2
          go_wp2
          go_ret
          exact ⟨g', c4, by rw [HLE.out]; rfl, HO5.out, hB4⟩
set_option maxHeartbeats 1600000 in
theorem specSetOf_any (A : Option Addr) (l : List Int) (c lo hi : Nat) (w : World) (hl : l.length ≤ 16777215) (ha : RdI w lo hi A l) (hhi : hi ≤ w.heap.size) :
    Calls Tryz.prog 138 #[.slice A l.length c] w fun e w' => ∃ g' c', e = .returned (.slice (some ⟨g', 0, none⟩) (setOf l).length c') ∧ OwnR w' w.heap.size w'.heap.size 3 1 (some ⟨g', 0, none⟩) (setOf l).length c' ((setOf l).map (.int .i64)) ∧ Below w.heap.size w w' := by
  have HO0 := hide (OwnR.made w w.heap.size 3 1 #[] 0 (Nat.le_refl _) (by unfold maxLen; omega) rfl)
  go_enter Tryz.func138, Tryz.ntmps138
  go_wp2
  go_loopw [3, 9] (fun v i wr => ∃ (k g' c' : Nat), k ≤ l.length ∧ i = .int .i64 k ∧ v = .slice (some ⟨g', 0, none⟩) (setTo l k).length c' ∧ OwnR wr w.heap.size wr.heap.size 3 1 (some ⟨g', 0, none⟩) (setTo l k).length c' ((setTo l k).map (.int .i64)) ∧ Below w.heap.size w wr) (fun _ i _ => l.length - (intOf i).toNat)
  case atStart => exact ⟨0, w.heap.size, 0, Nat.zero_le _, rfl, rfl, by simpa [setTo] using HO0.out, (Below.refl _ _).alloc (Nat.le_refl _) _⟩
  case round =>
    obtain ⟨k, g1, c1, hk, rfl, rfl, hO, hB⟩ := hrel
    clear HO0
    by_cases hlt : k < l.length
    · have hsz := hB.size
      obtain ⟨b, off, rfl, h1, h2, hc⟩ := ha (by omega)
      have q1 : wr.cell? ⟨b, off + k, none⟩ = some (.int .i64 (l.getD k 0)) := (hB.cell (p := ⟨b, off + k, none⟩) (by show b < _; omega)).trans (hc k hlt)
      have HX := hide (setTo_succ hlt)
      have HL := hide (setTo_len l k)
      clear hc ha
      generalize l.getD k 0 = X at q1 HX
      generalize setTo l k = S at hO HX HL
      have hS : S.length ≤ 16777215 := by have := HL.out; omega
      have HP := hide (l02Put_any g1 S c1 w.heap.size X wr hS hO hsz)
      go_wp2_with fail
      refine HP.out.mono ?_
      rintro e w1 ⟨g2, c2, rfl, hO2, hB2⟩
      have hB3 := hB.trans (hB2.mono hsz)
      clear HP hO hB hB2
      go_wp2
      go_roundw
      case rel => exact ⟨k + 1, g2, c2, by omega, by go_num, by rw [HX.out], by rw [HX.out]; exact hO2, hB3⟩
      case measure => simp [intOf]; omega
    · have HE := hide (setTo_all l (k := k) (by omega))
      go_wp2
      go_ret
      exact ⟨g1, c1, by rw [← HE.out]; rfl, by rw [← HE.out]; exact hO, hB⟩
def FormI (A : Option Addr) (n c : Nat) : Prop := (A = none ∧ n = 0 ∧ c = 0) ∨ ∃ g off, A = some ⟨g, off, none⟩
theorem OwnR.formI {w : World} {lo hi : Nat} {e : TypeId} {sz : Nat} {A : Option Addr} {n c : Nat} {xs : List Value} (h : OwnR w lo hi e sz A n c xs) : FormI A n c := by
  rcases h.form with h | ⟨g, h, _⟩
  · exact .inl h
  · exact .inr ⟨g, 0, h⟩
/-- append of a row that is read (it may be nil), onto a row of the call's own. -/
theorem wpList_pushI (w : World) {ops : Array Oper} {rest : List Oper} {o : Oper} {a : Act} {Q : Exit → Act → World → Prop} (s x : Operand)
    (lo hi : Nat) (A : Option Addr) (n c : Nat) (xs : List Value) (hown : OwnR w lo hi 3 1 A n c xs)
    (X : Option Addr) (c' lo2 hi2 : Nat) (ys : List Int) (hX : FormI X ys.length c') (hR : RdI w lo2 hi2 X ys)
    (h63 : n + ys.length ≤ 2147483648) (hbase : lo ≤ w.heap.size) (B : Nat) (w0 : World) (hbel : Below B w0 w) (hB : B ≤ lo)
    (h : ∀ A' c' w', OwnR w' lo w'.heap.size 3 1 A' (n + ys.length) c' (xs ++ ys.map (.int .i64)) → Below B w0 w' → w.heap.size ≤ w'.heap.size → wpList Tryz.prog ops Q rest (a.put o.dst (.slice A' (n + ys.length) c')) w')
    (hgd : o.guard = none) (ho : o.op = .call { callee := .builtin .append, args := #[s, x], argTypes := #[25, 25] }) (hs : a.eval s = .slice A n c) (hx : a.eval x = .slice X ys.length c') : wpList Tryz.prog ops Q (o :: rest) a w := by
  have hall : ∀ u ∈ ys.map (Value.int .i64), u.oneCell' = true := fun u hu => by
    obtain ⟨y, _, rfl⟩ := List.mem_map.1 hu
    rfl
  rcases hX with ⟨rfl, h0, rfl⟩ | ⟨g, off, rfl⟩
  · obtain rfl : ys = [] := List.length_eq_zero_iff.1 h0
    obtain ⟨i0, hi0, hz0, hz1, hz2⟩ := info_parts Tryz.infoInt
    refine wpList_append_own_none hgd s x 25 ho lo 3 i0 1 Tryz.underlying25 hi0 (.slice A n c) n xs hs hown.1 hx ?_
    have := h A c w (by simpa using OwnR.of_own hown.1) hbel (Nat.le_refl _)
    simpa using this
  · refine wpList_push w s x 25 3 _ 1 8 Tryz.underlying25 Tryz.infoInt rfl (by omega) lo hi A n c xs hown g off ys.length c' (ys.map (.int .i64)) (by simp) (fun j u hj => ?_) hall h63 (by omega) hbase B w0 hbel hB (fun A' c' w' h1 h2 h3 _ => h A' c' w' h1 h2 h3) hgd ho hs hx
    have hjl : j < ys.length := by simpa using (List.getElem?_eq_some_iff.1 hj).1
    obtain ⟨b, o', he, _, _, hc⟩ := hR (by omega)
    injection he with he
    injection he with e1 e2
    subst e1 e2
    rw [hc j hjl, ← hj]
    simp [hjl]
end Go.Proofs.YtcecgbjolngdbaaGreatDoor
