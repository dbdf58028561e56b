/- Marks of modes, activities, resources, links, projects that the call owns: how far they count, what stands there afterwards; and that marks are held. -/
import Derived.Test.YtcecgbjolngdbaaGreatDoorKitMk
import Derived.Test.YtcecgbjolngdbaaGreatDoorKitIn
import Derived.Test.YtcecgbjolngdbaaGreatDoorLawSt
import Derived.Test.YtcecgbjolngdbaaGreatDoorLawS
import Derived.Deep.RegionHeld3
namespace Go.Proofs.YtcecgbjolngdbaaGreatDoor
open Go.ChangeShapes Go.WideShapes Go.ChangeAt Go.RowKit
set_option linter.unusedVariables false
set_option linter.unusedSimpArgs false

/-! ## The mathematics of marks -/
def wtL {α : Type} (wt : α → Nat) (l : List α) : Nat := (l.map wt).sum
def mkL {α : Type} (wt : α → Nat) (f : Int → α → α) : Int → List α → List α
  | _, [] => []
  | k, a :: l => f k a :: mkL wt f (k + (wt a : Int)) l
section
variable {α : Type} (wt : α → Nat) (f : Int → α → α) (d : α) (k : Int)
theorem wtL_app (a b : List α) : wtL wt (a ++ b) = wtL wt a + wtL wt b := by simp [wtL]
theorem wtL_succ {l : List α} {j : Nat} (h : j < l.length) : wtL wt (l.take (j + 1)) = wtL wt (l.take j) + wt (l.getD j d) := by
  rw [take_snoc d h, wtL_app]; simp [wtL]
theorem wtL_le (l : List α) (j : Nat) : wtL wt (l.take j) ≤ wtL wt l := by
  conv => rhs; rw [← List.take_append_drop j l, wtL_app]
  omega
theorem mkL_len (l : List α) : ∀ k, (mkL wt f k l).length = l.length := by
  induction l with
  | nil => intro k; rfl
  | cons a l ih => intro k; rw [mkL, List.length_cons, List.length_cons, ih]
theorem mkL_app (a b : List α) : ∀ k, mkL wt f k (a ++ b) = mkL wt f k a ++ mkL wt f (k + (wtL wt a : Int)) b := by
  induction a with
  | nil => intro k; simp [mkL, wtL]
  | cons x a ih =>
    intro k
    rw [List.cons_append, mkL, mkL, ih, List.cons_append]
    congr 3
    simp [wtL]; omega
theorem mkL_getD {l : List α} {j : Nat} (h : j < l.length) : (mkL wt f k l).getD j d = f (k + (wtL wt (l.take j) : Int)) (l.getD j d) := by
  have e : l = l.take j ++ (l.getD j d :: l.drop (j + 1)) := by
    rw [getD_get d h, ← List.drop_eq_getElem_cons h, List.take_append_drop]
  have hl : (mkL wt f k (l.take j)).length = j := by rw [mkL_len, List.length_take]; omega
  conv => lhs; rw [e, mkL_app, mkL]
  rw [List.getD_eq_getElem?_getD, List.getElem?_append_right (by omega), hl, Nat.sub_self]
  rfl
/-- The first j elements are marked. -/
def mkTo (l : List α) (j : Nat) : List α := mkL wt f k (l.take j) ++ l.drop j
theorem mkTo_zero (l : List α) : mkTo wt f k l 0 = l := by simp [mkTo, mkL]
theorem mkTo_all (l : List α) : mkTo wt f k l l.length = mkL wt f k l := by simp [mkTo]
theorem mkTo_len (l : List α) (j : Nat) : (mkTo wt f k l j).length = l.length := by
  unfold mkTo; rw [List.length_append, mkL_len, List.length_take, List.length_drop]; omega
theorem mkTo_getD {l : List α} {j : Nat} (h : j < l.length) : (mkTo wt f k l j).getD j d = l.getD j d := by
  have hl : (mkL wt f k (l.take j)).length = j := by rw [mkL_len, List.length_take]; omega
  unfold mkTo
  rw [List.getD_eq_getElem?_getD, List.getElem?_append_right (by omega), hl, Nat.sub_self, List.getElem?_drop, Nat.add_zero, List.getD_eq_getElem?_getD]
theorem mkTo_set {l : List α} {j : Nat} (h : j < l.length) : (mkTo wt f k l j).set j (f (k + (wtL wt (l.take j) : Int)) (l.getD j d)) = mkTo wt f k l (j + 1) := by
  have hl : (mkL wt f k (l.take j)).length = j := by rw [mkL_len, List.length_take]; omega
  unfold mkTo
  rw [List.set_append_right _ _ (by omega), hl, Nat.sub_self, List.drop_eq_getElem_cons h, List.set_cons_zero, take_snoc d h, mkL_app, List.append_assoc]
  rfl
end
def mk3 (k : Int) : Bool := k % 3 == 0
def wtMd (m : Md) : Nat := 1 + m.use.length + m.con.length
def mkMd (k : Int) (m : Md) : Md := ⟨k, marks (k + 1) m.use.length, marks (k + 1 + m.use.length) m.con.length⟩
def wtII (r : List Int) : Nat := r.length
def mkII (k : Int) (r : List Int) : List Int := marks k r.length
def wtAc (a : Ac) : Nat := 2 + wtL wtMd a.modes
def mkAc (k : Int) (a : Ac) : Ac := ⟨markTxt k.toNat, k + 1, mkL wtMd mkMd (k + 1 + 1) a.modes⟩
def wtRs (r : Rs) : Nat := 2 * r.steps.length + wtL wtII r.setup
def mkRs (k : Int) (r : Rs) : Rs := ⟨markSt k r.steps.length, mkL wtII mkII (k + 2 * r.steps.length) r.setup⟩
def wtLk (_ : Lk) : Nat := 4
def mkLk (k : Int) (_ : Lk) : Lk := ⟨k, k + 1, mk3 (k + 1 + 1), k + 1 + 1 + 1⟩
def wtPj (p : Pj) : Nat := wtL wtAc p.acts + (wtL wtLk p.links + (wtL wtRs p.res + p.stocks.length))
theorem wtL_len {α : Type} {wt : α → Nat} (c : Nat) (l : List α) (h : ∀ a, c ≤ wt a) : c * l.length ≤ wtL wt l := by
  induction l with
  | nil => simp
  | cons a l ih => have := h a; simp only [wtL, List.map_cons, List.sum_cons, List.length_cons] at *; rw [Nat.mul_succ]; omega
theorem wtL_md (l : List Md) : l.length ≤ wtL wtMd l := by have := wtL_len 1 l (fun a => (by unfold wtMd; omega : 1 ≤ wtMd a)); omega
/-- What counts is bounded by what is owned. -/
theorem wtL_sz {α : Type} {wt sz : α → Nat} (c e : Nat) (h : ∀ a, wt a ≤ c + e * sz a) (l : List α) : wtL wt l ≤ c * l.length + e * (l.map sz).sum := by
  induction l with
  | nil => simp [wtL]
  | cons a l ih =>
    have := h a
    simp only [wtL, List.map_cons, List.sum_cons, List.length_cons] at *
    rw [Nat.mul_succ, Nat.mul_add]
    omega
theorem wtMd_sz (l : List Md) : wtL wtMd l ≤ szL szMd l := by
  have := wtL_sz (wt := wtMd) (sz := szMd) 1 1 (fun a => by unfold wtMd szMd; omega) l
  unfold szL; omega
theorem wtII_sz (l : List (List Int)) : wtL wtII l ≤ szL List.length l := by
  have := wtL_sz (wt := wtII) (sz := List.length) 0 1 (fun a => by unfold wtII; omega) l
  unfold szL; omega
theorem wtAc_sz (l : List Ac) : wtL wtAc l ≤ 2 * szL szAc l := by
  have := wtL_sz (wt := wtAc) (sz := szAc) 2 1 (fun a => by have := wtMd_sz a.modes; unfold wtAc szAc; omega) l
  unfold szL; omega
theorem wtRs_sz (l : List Rs) : wtL wtRs l ≤ 2 * szL szRs l := by
  have := wtL_sz (wt := wtRs) (sz := szRs) 0 2 (fun a => by have := wtII_sz a.setup; unfold wtRs szRs; omega) l
  unfold szL; omega
theorem wtLk_len (l : List Lk) : wtL wtLk l = 4 * l.length := by
  induction l with
  | nil => rfl
  | cons a l ih => simp only [wtL, List.map_cons, List.sum_cons, List.length_cons, wtLk] at *; omega
theorem wtPj_sz (p : Pj) : wtPj p ≤ 4 * szPj p := by
  have := wtAc_sz p.acts; have := wtRs_sz p.res; have := wtLk_len p.links
  unfold wtPj szPj; omega
theorem setup_sz (l : List Rs) (i : Nat) : (l.getD i rs0).setup.length ≤ szL szRs l := by
  by_cases h : i < l.length
  · have h1 := szL_at szRs rs0 h
    have h2 := szL_len List.length (l.getD i rs0).setup
    have h3 : szRs (l.getD i rs0) = (l.getD i rs0).steps.length + szL List.length (l.getD i rs0).setup := rfl
    omega
  · rw [List.getD_eq_getElem?_getD, List.getElem?_eq_none (by omega)]; simp [rs0]

theorem markIntS_blk (A : Option Addr) (l : List Int) (c : Nat) (bs : List Nat) (k : Int) (w : World) (hn : l.length ≤ 16777216) (hk : 0 ≤ k) (hk' : k ≤ 16777216) (h : RowB w 3 1 A l.length c (l.map (.int .i64)) bs) (hlt : ∀ b ∈ bs, b < w.heap.size) :
    Calls Tryz.prog 66 #[.slice A l.length c, .int .i64 k] w fun e w' => e = .returned (.int .i64 (k + (l.length : Int))) ∧ RowB w' 3 1 A l.length c ((marks k l.length).map (.int .i64)) bs ∧ OnlyIn bs w w' := by
  obtain ⟨lo, hi, hO, h1, h2⟩ := h.tight
  refine (markIntS_any A l.length c lo hi k l w hn hk hk' hO (h2 _ hlt)).mono ?_
  rintro e w' ⟨rfl, hO', hN⟩
  exact ⟨rfl, ⟨⟨lo, hi, hO'⟩, h.2⟩, (OnlyIn.refl bs w).only hN h1⟩
theorem markStepS_blk (A : Option Addr) (l : List (Int × Int)) (c : Nat) (bs : List Nat) (k : Int) (w : World) (hn : l.length ≤ 16777216) (hk : 0 ≤ k) (hk' : k ≤ 16777216) (h : RowB w 128 2 A l.length c (flatSt l) bs) (hlt : ∀ b ∈ bs, b < w.heap.size) :
    Calls Tryz.prog 124 #[.slice A l.length c, .int .i64 k] w fun e w' => e = .returned (.int .i64 (k + 2 * (l.length : Int))) ∧ RowB w' 128 2 A l.length c (flatSt (markSt k l.length)) bs ∧ OnlyIn bs w w' := by
  obtain ⟨lo, hi, hO, h1, h2⟩ := h.tight
  refine (markStepS_any A l.length c lo hi k l w hn hk hk' hO (h2 _ hlt)).mono ?_
  rintro e w' ⟨rfl, hO', hN⟩
  exact ⟨rfl, ⟨⟨lo, hi, hO'⟩, h.2⟩, (OnlyIn.refl bs w).only hN h1⟩
set_option maxHeartbeats 3200000 in
theorem markIntSS_blk (A : Option Addr) (l : List (List Int)) (c : Nat) (bs : List Nat) (k : Int) (w : World) (hl : l.length ≤ 16777216) (hk : 1 ≤ k) (hk' : k + (wtL wtII l : Int) ≤ 16777216) (h : OwG 1 25 OwII [] w A c l bs) (hn : bs.Nodup) (hlt : ∀ b ∈ bs, b < w.heap.size) :
    Calls Tryz.prog 125 #[.slice A l.length c, .int .i64 k] w fun e w' => e = .returned (.int .i64 (k + (wtL wtII l : Int))) ∧ OwG 1 25 OwII [] w' A c (mkL wtII mkII k l) bs ∧ OnlyIn bs w w' := by
  have HK := hide hk'; clear hk'
  go_enter Tryz.func125, Tryz.ntmps125
  go_wp2
  go_loopw [1, 5] (fun q i wr => ∃ j : Nat, j ≤ l.length ∧ i = .int .i64 j ∧ q = .int .i64 (k + (wtL wtII (l.take j) : Int)) ∧ Hid (OwG 1 25 OwII [] wr A c (mkTo wtII mkII k l j) bs) ∧ OnlyIn bs w wr) (fun _ i _ => l.length - (intOf i).toNat)
  case atStart => exact ⟨0, Nat.zero_le _, rfl, by simp [wtL], hide (by rw [mkTo_zero]; exact h), OnlyIn.refl _ _⟩
  case round =>
    obtain ⟨j, hj, rfl, rfl, HO, hB⟩ := hrel
    clear h
    by_cases hjl : j < l.length
    · have hjl' : j < (mkTo wtII mkII k l j).length := by rw [mkTo_len]; exact hjl
      obtain ⟨b0, xs, v, b, hrow, ho, hv, hbm, hb0m, hbd, hbn, hshut⟩ := OwG.open_ OwSS.keeps HO.out hn hjl'
      rw [mkTo_getD _ _ _ _ hjl] at ho
      rw [mkTo_len] at hrow hshut
      have HS := hide (wtL_succ wtII [] hjl)
      have HLE := hide (wtL_le wtII l (j + 1))
      have hW0 : (0 : Int) ≤ (wtL wtII (l.take j) : Int) := by omega
      have HT := hide (mkTo_set wtII mkII [] k hjl)
      generalize hM : l.getD j [] = m at ho HS HT
      obtain ⟨U, cu, rfl, hU⟩ := ho
      have HWT : Hid ((wtII m : Int) = (m.length : Int)) := hide (by unfold wtII; first | rfl | (push_cast; omega))
      obtain ⟨K, hK⟩ : ∃ K : Int, K = k + (wtL wtII (l.take j) : Int) := ⟨_, rfl⟩
      have hK1 : 1 ≤ K := by omega
      have hK2 : K + (wtII m : Int) ≤ 16777216 := by have := HK.out; have := HS.out; have := HLE.out; push_cast at *; omega
      rw [HWT.out] at hK2
      rw [← hK] at HT ⊢
      have HKK := hide hK; clear hK
      obtain ⟨g, rfl, rfl⟩ := hrow.at_ (by omega)
      have hgb : g ∉ b := fun hx => hbd g hx (by simp)
      have nd1 := hbn
      have hgl : g < wr.heap.size := hrow.lt g (by simp)
      have hbl : ∀ x ∈ b, x < wr.heap.size := fun x hx => by have := hlt x (hbm x hx); have := hB.size; omega
      have hxl : xs.length = l.length * 1 := hrow.len
      have OI := OnlyIn.refl ([g] ++ (b)) wr
      have HSH := hide hshut; clear hshut
      have HV := hide hv; clear hv
      have HBM := hide hbm; clear hbm
      have HB := hide hB
      have hsz0 := hB.size; clear hB
      have HBD := hide hbd; clear hbd hbn
      have p0 : wr.cell? ⟨g, j, none⟩ = some (.slice U m.length cu) := by
        rw [hrow.cellAt (j) (by omega)]; (try simp (disch := omega) only [List.getElem?_set_ne]); exact (by simpa using HV.out 0 (by omega))
      have HC := hide (markIntS_blk U m cu b (K) wr (by omega) (by omega) (by omega) hU (fun x hx => by have := hbl x hx; have := OI.size; omega))
      have hrow_ := hide hrow; clear hrow
      have hU_ := hide hU; clear hU
      have OI_ := hide OI; clear OI
      go_wp2_with fail
      refine HC.out.mono ?_
      rintro e w1 ⟨rfl, o_hU, r1⟩
      have z1 := r1.size
      clear HC p0
      have OI := OI_.out; clear OI_
      have hrow := RowB.keep hrow_.out (fun x hx => r1.block x (by simp at hx; subst hx; have := OI.size; omega) (fun hx' => hgb (by simp at hx; subst hx; exact hx'))); clear hrow_
      clear hU_
      have OI := OI.more r1 (fun x hx => List.mem_append_right _ hx); clear r1
      have o_hU_ := hide o_hU; clear o_hU
      have hrow_ := hide hrow; clear hrow
      have OI_ := hide OI; clear OI
      go_wp2
      go_roundw
      case rel =>
        refine ⟨j + 1, by omega, by go_num, val_int ?_, hide ?_, HB.out.trans (OI_.out.sub (fun x hx => ?_))⟩
        · have h1 := HS.out; have h2 := HWT.out; have h3 := HKK.out; omega
        · rw [← HT.out]
          refine HSH.out _ _ #[.slice U (marks (K) m.length).length cu] (mkII K m) hrow_.out (fun p hp => ?_) (fun q hq => ?_) ?_ (fun x hxm hx hx0 => OI_.out.block x (by have := hlt x hxm; omega) (fun hh => ?_))
          · first | rfl | (simp (disch := omega) only [List.getElem?_set_ne]; done)
          · match q, hq with
            | 0, _ => (try simp (disch := omega) only [List.getElem?_set_ne]); (refine Eq.trans (by simpa using HV.out 0 (by omega)) ?_); all_goals simp [marks_len]
          · exact ⟨U, cu, rfl, (by simp only [mkII, marks_len]; exact o_hU_.out)⟩
          · rcases List.mem_append.1 hh with h' | h'
            · exact hx0 h'
            · exact hx h'
        · rcases List.mem_append.1 hx with h' | h'
          · exact hb0m x h'
          · exact HBM.out x h'
      case measure => simp [intOf]; omega
    · obtain rfl : j = l.length := by omega
      go_wp2
      go_ret
      exact ⟨ret_int (by rw [List.take_length]), (mkTo_all wtII mkII k l) ▸ HO.out, hB⟩
set_option maxHeartbeats 3200000 in
theorem markModeS_blk (A : Option Addr) (l : List Md) (c : Nat) (bs : List Nat) (k : Int) (w : World) (hl : l.length ≤ 16777216) (hk : 1 ≤ k) (hk' : k + (wtL wtMd l : Int) ≤ 16777216) (h : OwG 3 53 OwM md0 w A c l bs) (hn : bs.Nodup) (hlt : ∀ b ∈ bs, b < w.heap.size) :
    Calls Tryz.prog 123 #[.slice A l.length c, .int .i64 k] w fun e w' => e = .returned (.int .i64 (k + (wtL wtMd l : Int))) ∧ OwG 3 53 OwM md0 w' A c (mkL wtMd mkMd k l) bs ∧ OnlyIn bs w w' := by
  have HK := hide hk'; clear hk'
  go_enter Tryz.func123, Tryz.ntmps123
  go_wp2
  go_loopw [1, 5] (fun q i wr => ∃ j : Nat, j ≤ l.length ∧ i = .int .i64 j ∧ q = .int .i64 (k + (wtL wtMd (l.take j) : Int)) ∧ Hid (OwG 3 53 OwM md0 wr A c (mkTo wtMd mkMd k l j) bs) ∧ OnlyIn bs w wr) (fun _ i _ => l.length - (intOf i).toNat)
  case atStart => exact ⟨0, Nat.zero_le _, rfl, by simp [wtL], hide (by rw [mkTo_zero]; exact h), OnlyIn.refl _ _⟩
  case round =>
    obtain ⟨j, hj, rfl, rfl, HO, hB⟩ := hrel
    clear h
    by_cases hjl : j < l.length
    · have hjl' : j < (mkTo wtMd mkMd k l j).length := by rw [mkTo_len]; exact hjl
      obtain ⟨b0, xs, v, b, hrow, ho, hv, hbm, hb0m, hbd, hbn, hshut⟩ := OwG.open_ OwMs.keeps HO.out hn hjl'
      rw [mkTo_getD _ _ _ _ hjl] at ho
      rw [mkTo_len] at hrow hshut
      have HS := hide (wtL_succ wtMd md0 hjl)
      have HLE := hide (wtL_le wtMd l (j + 1))
      have hW0 : (0 : Int) ≤ (wtL wtMd (l.take j) : Int) := by omega
      have HT := hide (mkTo_set wtMd mkMd md0 k hjl)
      generalize hM : l.getD j md0 = m at ho HS HT
      obtain ⟨U, cu, C, cc, b1, b2, rfl, hU, hC, rfl⟩ := ho
      have HWT : Hid ((wtMd m : Int) = 1 + (m.use.length : Int) + (m.con.length : Int)) := hide (by unfold wtMd; first | rfl | (push_cast; omega))
      obtain ⟨K, hK⟩ : ∃ K : Int, K = k + (wtL wtMd (l.take j) : Int) := ⟨_, rfl⟩
      have hK1 : 1 ≤ K := by omega
      have hK2 : K + (wtMd m : Int) ≤ 16777216 := by have := HK.out; have := HS.out; have := HLE.out; push_cast at *; omega
      rw [HWT.out] at hK2
      rw [← hK] at HT ⊢
      have HKK := hide hK; clear hK
      obtain ⟨g, rfl, rfl⟩ := hrow.at_ (by omega)
      have hgb : g ∉ b1 ++ b2 := fun hx => hbd g hx (by simp)
      obtain ⟨nd1, nd2, ndd⟩ := List.nodup_append.1 hbn
      have hdis : ∀ x ∈ b1, x ∉ b2 := fun x h1 h2 => ndd x h1 x h2 rfl
      have hgl : g < wr.heap.size := hrow.lt g (by simp)
      have hbl : ∀ x ∈ b1 ++ b2, x < wr.heap.size := fun x hx => by have := hlt x (hbm x hx); have := hB.size; omega
      have hxl : xs.length = l.length * 3 := hrow.len
      have OI := OnlyIn.refl ([g] ++ (b1 ++ b2)) wr
      have HSH := hide hshut; clear hshut
      have HV := hide hv; clear hv
      have HBM := hide hbm; clear hbm
      have HB := hide hB
      have hsz0 := hB.size; clear hB
      have HBD := hide hbd; clear hbd hbn
      obtain ⟨u0, e0⟩ := hrow.some_at (j * 3) (by omega)
      have fz0 := hrow.frozenAt (j * 3)
      have hrow := hrow.stored_ (j * 3) (.int .i64 (K))
      have hU := RowB.keep hU (fun x hx => Below.heap_setCell _ ⟨g, j * 3, none⟩ (.int .i64 (K)) x (by show x ≠ g; rintro rfl; exact hgb (List.mem_append_left _ hx)))
      have hC := RowB.keep hC (fun x hx => Below.heap_setCell _ ⟨g, j * 3, none⟩ (.int .i64 (K)) x (by show x ≠ g; rintro rfl; exact hgb (List.mem_append_right _ hx)))
      have OI := OI.set (p := ⟨g, j * 3, none⟩) (by simp) (.int .i64 (K))
      have p1 : (wr.setCell ⟨g, j * 3, none⟩ (.int .i64 (K))).cell? ⟨g, j * 3 + 1, none⟩ = some (.slice U m.use.length cu) := by
        rw [hrow.cellAt (j * 3 + 1) (by omega)]; (try simp (disch := omega) only [List.getElem?_set_ne]); exact (by simpa using HV.out 1 (by omega))
      have HC := hide (markIntS_blk U m.use cu b1 (K + 1) (wr.setCell ⟨g, j * 3, none⟩ (.int .i64 (K))) (by omega) (by omega) (by omega) hU (fun x hx => by have := hbl x (List.mem_append_left _ hx); have := OI.size; omega))
      have hrow_ := hide hrow; clear hrow
      have hU_ := hide hU; clear hU
      have hC_ := hide hC; clear hC
      have OI_ := hide OI; clear OI
      go_wp2_with fail
      refine HC.out.mono ?_
      rintro e w1 ⟨rfl, o_hU, r1⟩
      have z1 := r1.size
      clear HC p1
      try clear e0 fz0
      have OI := OI_.out; clear OI_
      have hrow := RowB.keep hrow_.out (fun x hx => r1.block x (by simp at hx; subst hx; have := OI.size; omega) (fun hx' => hgb (by simp at hx; subst hx; exact (List.mem_append_left _ hx')))); clear hrow_
      clear hU_
      have hC := RowB.keep hC_.out (fun x hx => r1.block x (by have := hbl x (List.mem_append_right _ hx); have := OI.size; omega) (fun h' => hdis x h' hx)); clear hC_
      have OI := OI.more r1 (fun x hx => List.mem_append_right _ (List.mem_append_left _ hx)); clear r1
      have p2 : w1.cell? ⟨g, j * 3 + 2, none⟩ = some (.slice C m.con.length cc) := by
        rw [hrow.cellAt (j * 3 + 2) (by omega)]; (try simp (disch := omega) only [List.getElem?_set_ne]); exact (by simpa using HV.out 2 (by omega))
      have HC := hide (markIntS_blk C m.con cc b2 (K + 1 + (m.use.length : Int)) w1 (by omega) (by omega) (by omega) hC (fun x hx => by have := hbl x (List.mem_append_right _ hx); have := OI.size; omega))
      have hrow_ := hide hrow; clear hrow
      have hC_ := hide hC; clear hC
      have OI_ := hide OI; clear OI
      go_wp2_with fail
      refine HC.out.mono ?_
      rintro e w2 ⟨rfl, o_hC, r2⟩
      have z2 := r2.size
      clear HC p2
      try clear e0 fz0
      have OI := OI_.out; clear OI_
      have hrow := RowB.keep hrow_.out (fun x hx => r2.block x (by simp at hx; subst hx; have := OI.size; omega) (fun hx' => hgb (by simp at hx; subst hx; exact (List.mem_append_right _ hx')))); clear hrow_
      clear hC_
      have o_hU := RowB.keep o_hU (fun x hx => r2.block x (by have := hbl x (List.mem_append_left _ hx); have := OI.size; omega) (hdis x hx))
      have OI := OI.more r2 (fun x hx => List.mem_append_right _ (List.mem_append_right _ hx)); clear r2
      have o_hU_ := hide o_hU; clear o_hU
      have o_hC_ := hide o_hC; clear o_hC
      have hrow_ := hide hrow; clear hrow
      have OI_ := hide OI; clear OI
      go_wp2
      go_roundw
      case rel =>
        refine ⟨j + 1, by omega, by go_num, val_int ?_, hide ?_, HB.out.trans (OI_.out.sub (fun x hx => ?_))⟩
        · have h1 := HS.out; have h2 := HWT.out; have h3 := HKK.out; omega
        · rw [← HT.out]
          refine HSH.out _ _ #[.int .i64 (K), .slice U (marks (K + 1) m.use.length).length cu, .slice C (marks (K + 1 + (m.use.length : Int)) m.con.length).length cc] (mkMd K m) hrow_.out (fun p hp => ?_) (fun q hq => ?_) ?_ (fun x hxm hx hx0 => OI_.out.block x (by have := hlt x hxm; omega) (fun hh => ?_))
          · first | rfl | (simp (disch := omega) only [List.getElem?_set_ne]; done)
          · match q, hq with
            | 0, _ => (try simp (disch := omega) only [Nat.add_zero, List.getElem?_set_ne]); rw [List.getElem?_set_self (by (try simp only [List.length_set]); omega)]; rfl
            | 1, _ => (try simp (disch := omega) only [List.getElem?_set_ne]); (refine Eq.trans (by simpa using HV.out 1 (by omega)) ?_); all_goals simp [marks_len]
            | 2, _ => (try simp (disch := omega) only [List.getElem?_set_ne]); (refine Eq.trans (by simpa using HV.out 2 (by omega)) ?_); all_goals simp [marks_len]
          · exact ⟨U, cu, C, cc, b1, b2, rfl, (by simp only [mkMd, marks_len]; exact o_hU_.out), (by simp only [mkMd, marks_len]; exact o_hC_.out), rfl⟩
          · rcases List.mem_append.1 hh with h' | h'
            · exact hx0 h'
            · exact hx h'
        · rcases List.mem_append.1 hx with h' | h'
          · exact hb0m x h'
          · exact HBM.out x h'
      case measure => simp [intOf]; omega
    · obtain rfl : j = l.length := by omega
      go_wp2
      go_ret
      exact ⟨ret_int (by rw [List.take_length]), (mkTo_all wtMd mkMd k l) ▸ HO.out, hB⟩
set_option maxHeartbeats 3200000 in
theorem markActivityS_blk (A : Option Addr) (l : List Ac) (c : Nat) (bs : List Nat) (k : Int) (w : World) (hl : l.length ≤ 16777216) (hk : 1 ≤ k) (hk' : k + (wtL wtAc l : Int) ≤ 16777216) (h : OwG 3 46 OwA ac0 w A c l bs) (hn : bs.Nodup) (hlt : ∀ b ∈ bs, b < w.heap.size) :
    Calls Tryz.prog 63 #[.slice A l.length c, .int .i64 k] w fun e w' => e = .returned (.int .i64 (k + (wtL wtAc l : Int))) ∧ OwG 3 46 OwA ac0 w' A c (mkL wtAc mkAc k l) bs ∧ OnlyIn bs w w' := by
  have HK := hide hk'; clear hk'
  go_enter Tryz.func63, Tryz.ntmps63
  go_wp2
  go_loopw [1, 5] (fun q i wr => ∃ j : Nat, j ≤ l.length ∧ i = .int .i64 j ∧ q = .int .i64 (k + (wtL wtAc (l.take j) : Int)) ∧ Hid (OwG 3 46 OwA ac0 wr A c (mkTo wtAc mkAc k l j) bs) ∧ OnlyIn bs w wr) (fun _ i _ => l.length - (intOf i).toNat)
  case atStart => exact ⟨0, Nat.zero_le _, rfl, by simp [wtL], hide (by rw [mkTo_zero]; exact h), OnlyIn.refl _ _⟩
  case round =>
    obtain ⟨j, hj, rfl, rfl, HO, hB⟩ := hrel
    clear h
    by_cases hjl : j < l.length
    · have hjl' : j < (mkTo wtAc mkAc k l j).length := by rw [mkTo_len]; exact hjl
      obtain ⟨b0, xs, v, b, hrow, ho, hv, hbm, hb0m, hbd, hbn, hshut⟩ := OwG.open_ OwAs.keeps HO.out hn hjl'
      rw [mkTo_getD _ _ _ _ hjl] at ho
      rw [mkTo_len] at hrow hshut
      have HS := hide (wtL_succ wtAc ac0 hjl)
      have HLE := hide (wtL_le wtAc l (j + 1))
      have hW0 : (0 : Int) ≤ (wtL wtAc (l.take j) : Int) := by omega
      have HT := hide (mkTo_set wtAc mkAc ac0 k hjl)
      generalize hM : l.getD j ac0 = m at ho HS HT
      obtain ⟨U, cu, rfl, hU⟩ := ho
      have HWT : Hid ((wtAc m : Int) = 2 + (wtL wtMd m.modes : Int)) := hide (by unfold wtAc; first | rfl | (push_cast; omega))
      obtain ⟨K, hK⟩ : ∃ K : Int, K = k + (wtL wtAc (l.take j) : Int) := ⟨_, rfl⟩
      have hK1 : 1 ≤ K := by omega
      have hK2 : K + (wtAc m : Int) ≤ 16777216 := by have := HK.out; have := HS.out; have := HLE.out; push_cast at *; omega
      have n_U : (0 : Int) ≤ (wtL wtMd m.modes : Int) := by omega
      have n2_U : m.modes.length ≤ 16777216 := by have := wtL_md m.modes; have := HWT.out; omega
      rw [HWT.out] at hK2
      rw [← hK] at HT ⊢
      have HKK := hide hK; clear hK
      obtain ⟨g, rfl, rfl⟩ := hrow.at_ (by omega)
      have hgb : g ∉ b := fun hx => hbd g hx (by simp)
      have nd1 := hbn
      have hgl : g < wr.heap.size := hrow.lt g (by simp)
      have hbl : ∀ x ∈ b, x < wr.heap.size := fun x hx => by have := hlt x (hbm x hx); have := hB.size; omega
      have hxl : xs.length = l.length * 3 := hrow.len
      have OI := OnlyIn.refl ([g] ++ (b)) wr
      have HSH := hide hshut; clear hshut
      have HV := hide hv; clear hv
      have HBM := hide hbm; clear hbm
      have HB := hide hB
      have hsz0 := hB.size; clear hB
      have HBD := hide hbd; clear hbd hbn
      go_wp2_with fail
      refine (markText_int (K) _ (by omega) (by omega)).mono ?_
      rintro e w1 ⟨rfl, r1⟩
      have z1 := r1.size
      have hrow := hrow.keep (fun x hx => r1.block x (by simp at hx; omega))
      have hU := OwG.keep_ OwMs.keeps hU (fun x hx => r1.block x (hbl x hx))
      have OI := OI.below r1 (Nat.le_refl _); clear r1
      obtain ⟨u0, e0⟩ := hrow.some_at (j * 3) (by omega)
      have fz0 := hrow.frozenAt (j * 3)
      obtain ⟨u1, e1⟩ := hrow.some_at (j * 3 + 1) (by omega)
      have fz1 := hrow.frozenAt (j * 3 + 1)
      have hrow := hrow.stored_ (j * 3) (.string (markTxt (K).toNat))
      have hU := OwG.keep_ OwMs.keeps hU (fun x hx => Below.heap_setCell _ ⟨g, j * 3, none⟩ (.string (markTxt (K).toNat)) x (by show x ≠ g; rintro rfl; exact hgb hx))
      have OI := OI.set (p := ⟨g, j * 3, none⟩) (by simp) (.string (markTxt (K).toNat))
      have hrow := hrow.stored_ (j * 3 + 1) (.int .i64 (K + 1))
      have hU := OwG.keep_ OwMs.keeps hU (fun x hx => Below.heap_setCell _ ⟨g, j * 3 + 1, none⟩ (.int .i64 (K + 1)) x (by show x ≠ g; rintro rfl; exact hgb hx))
      have OI := OI.set (p := ⟨g, j * 3 + 1, none⟩) (by simp) (.int .i64 (K + 1))
      have p2 : ((w1.setCell ⟨g, j * 3, none⟩ (.string (markTxt (K).toNat))).setCell ⟨g, j * 3 + 1, none⟩ (.int .i64 (K + 1))).cell? ⟨g, j * 3 + 2, none⟩ = some (.slice U m.modes.length cu) := by
        rw [hrow.cellAt (j * 3 + 2) (by omega)]; (try simp (disch := omega) only [List.getElem?_set_ne]); exact (by simpa using HV.out 2 (by omega))
      have HC := hide (markModeS_blk U m.modes cu b (K + 1 + 1) ((w1.setCell ⟨g, j * 3, none⟩ (.string (markTxt (K).toNat))).setCell ⟨g, j * 3 + 1, none⟩ (.int .i64 (K + 1))) (by omega) (by omega) (by omega) hU nd1 (fun x hx => by have := hbl x hx; have := OI.size; omega))
      have hrow_ := hide hrow; clear hrow
      have hU_ := hide hU; clear hU
      have OI_ := hide OI; clear OI
      go_wp2_with fail
      refine HC.out.mono ?_
      rintro e w2 ⟨rfl, o_hU, r2⟩
      have z2 := r2.size
      clear HC p2
      try clear e0 fz0
      try clear e1 fz1
      have OI := OI_.out; clear OI_
      have hrow := RowB.keep hrow_.out (fun x hx => r2.block x (by simp at hx; subst hx; have := OI.size; omega) (fun hx' => hgb (by simp at hx; subst hx; exact hx'))); clear hrow_
      clear hU_
      have OI := OI.more r2 (fun x hx => List.mem_append_right _ hx); clear r2
      have o_hU_ := hide o_hU; clear o_hU
      have hrow_ := hide hrow; clear hrow
      have OI_ := hide OI; clear OI
      go_wp2
      go_roundw
      case rel =>
        refine ⟨j + 1, by omega, by go_num, val_int ?_, hide ?_, HB.out.trans (OI_.out.sub (fun x hx => ?_))⟩
        · have h1 := HS.out; have h2 := HWT.out; have h3 := HKK.out; omega
        · rw [← HT.out]
          refine HSH.out _ _ #[.string (markTxt (K).toNat), .int .i64 (K + 1), .slice U (mkL wtMd mkMd (K + 1 + 1) m.modes).length cu] (mkAc K m) hrow_.out (fun p hp => ?_) (fun q hq => ?_) ?_ (fun x hxm hx hx0 => OI_.out.block x (by have := hlt x hxm; omega) (fun hh => ?_))
          · first | rfl | (simp (disch := omega) only [List.getElem?_set_ne]; done)
          · match q, hq with
            | 0, _ => (try simp (disch := omega) only [Nat.add_zero, List.getElem?_set_ne]); rw [List.getElem?_set_self (by (try simp only [List.length_set]); omega)]; rfl
            | 1, _ => (try simp (disch := omega) only [Nat.add_zero, List.getElem?_set_ne]); rw [List.getElem?_set_self (by (try simp only [List.length_set]); omega)]; rfl
            | 2, _ => (try simp (disch := omega) only [List.getElem?_set_ne]); (refine Eq.trans (by simpa using HV.out 2 (by omega)) ?_); all_goals simp [mkL_len]
          · exact ⟨U, cu, rfl, o_hU_.out⟩
          · rcases List.mem_append.1 hh with h' | h'
            · exact hx0 h'
            · exact hx h'
        · rcases List.mem_append.1 hx with h' | h'
          · exact hb0m x h'
          · exact HBM.out x h'
      case measure => simp [intOf]; omega
    · obtain rfl : j = l.length := by omega
      go_wp2
      go_ret
      exact ⟨ret_int (by rw [List.take_length]), (mkTo_all wtAc mkAc k l) ▸ HO.out, hB⟩
set_option maxHeartbeats 3200000 in
theorem markResourceS_blk (A : Option Addr) (l : List Rs) (c : Nat) (bs : List Nat) (k : Int) (w : World) (hl : l.length ≤ 16777216) (hside : ∀ i, (l.getD i rs0).setup.length ≤ 16777216) (hk : 1 ≤ k) (hk' : k + (wtL wtRs l : Int) ≤ 16777216) (h : OwG 2 71 OwRc rs0 w A c l bs) (hn : bs.Nodup) (hlt : ∀ b ∈ bs, b < w.heap.size) :
    Calls Tryz.prog 65 #[.slice A l.length c, .int .i64 k] w fun e w' => e = .returned (.int .i64 (k + (wtL wtRs l : Int))) ∧ OwG 2 71 OwRc rs0 w' A c (mkL wtRs mkRs k l) bs ∧ OnlyIn bs w w' := by
  have HK := hide hk'; clear hk'
  go_enter Tryz.func65, Tryz.ntmps65
  go_wp2
  go_loopw [1, 5] (fun q i wr => ∃ j : Nat, j ≤ l.length ∧ i = .int .i64 j ∧ q = .int .i64 (k + (wtL wtRs (l.take j) : Int)) ∧ Hid (OwG 2 71 OwRc rs0 wr A c (mkTo wtRs mkRs k l j) bs) ∧ OnlyIn bs w wr) (fun _ i _ => l.length - (intOf i).toNat)
  case atStart => exact ⟨0, Nat.zero_le _, rfl, by simp [wtL], hide (by rw [mkTo_zero]; exact h), OnlyIn.refl _ _⟩
  case round =>
    obtain ⟨j, hj, rfl, rfl, HO, hB⟩ := hrel
    clear h
    by_cases hjl : j < l.length
    · have hjl' : j < (mkTo wtRs mkRs k l j).length := by rw [mkTo_len]; exact hjl
      obtain ⟨b0, xs, v, b, hrow, ho, hv, hbm, hb0m, hbd, hbn, hshut⟩ := OwG.open_ OwRs.keeps HO.out hn hjl'
      rw [mkTo_getD _ _ _ _ hjl] at ho
      rw [mkTo_len] at hrow hshut
      have HS := hide (wtL_succ wtRs rs0 hjl)
      have HLE := hide (wtL_le wtRs l (j + 1))
      have hW0 : (0 : Int) ≤ (wtL wtRs (l.take j) : Int) := by omega
      have HT := hide (mkTo_set wtRs mkRs rs0 k hjl)
      have hsd := hside j
      generalize hM : l.getD j rs0 = m at ho HS HT hsd
      obtain ⟨U, cu, C, cc, b1, b2, rfl, hU, hC, rfl⟩ := ho
      have HWT : Hid ((wtRs m : Int) = 2 * (m.steps.length : Int) + (wtL wtII m.setup : Int)) := hide (by unfold wtRs; first | rfl | (push_cast; omega))
      obtain ⟨K, hK⟩ : ∃ K : Int, K = k + (wtL wtRs (l.take j) : Int) := ⟨_, rfl⟩
      have hK1 : 1 ≤ K := by omega
      have hK2 : K + (wtRs m : Int) ≤ 16777216 := by have := HK.out; have := HS.out; have := HLE.out; push_cast at *; omega
      have n_C : (0 : Int) ≤ (wtL wtII m.setup : Int) := by omega
      rw [HWT.out] at hK2
      rw [← hK] at HT ⊢
      have HKK := hide hK; clear hK
      obtain ⟨g, rfl, rfl⟩ := hrow.at_ (by omega)
      have hgb : g ∉ b1 ++ b2 := fun hx => hbd g hx (by simp)
      obtain ⟨nd1, nd2, ndd⟩ := List.nodup_append.1 hbn
      have hdis : ∀ x ∈ b1, x ∉ b2 := fun x h1 h2 => ndd x h1 x h2 rfl
      have hgl : g < wr.heap.size := hrow.lt g (by simp)
      have hbl : ∀ x ∈ b1 ++ b2, x < wr.heap.size := fun x hx => by have := hlt x (hbm x hx); have := hB.size; omega
      have hxl : xs.length = l.length * 2 := hrow.len
      have OI := OnlyIn.refl ([g] ++ (b1 ++ b2)) wr
      have HSH := hide hshut; clear hshut
      have HV := hide hv; clear hv
      have HBM := hide hbm; clear hbm
      have HB := hide hB
      have hsz0 := hB.size; clear hB
      have HBD := hide hbd; clear hbd hbn
      have p0 : wr.cell? ⟨g, j * 2, none⟩ = some (.slice U m.steps.length cu) := by
        rw [hrow.cellAt (j * 2) (by omega)]; (try simp (disch := omega) only [List.getElem?_set_ne]); exact (by simpa using HV.out 0 (by omega))
      have HC := hide (markStepS_blk U m.steps cu b1 (K) wr (by omega) (by omega) (by omega) hU (fun x hx => by have := hbl x (List.mem_append_left _ hx); have := OI.size; omega))
      have hrow_ := hide hrow; clear hrow
      have hU_ := hide hU; clear hU
      have hC_ := hide hC; clear hC
      have OI_ := hide OI; clear OI
      go_wp2_with fail
      refine HC.out.mono ?_
      rintro e w1 ⟨rfl, o_hU, r1⟩
      have z1 := r1.size
      clear HC p0
      have OI := OI_.out; clear OI_
      have hrow := RowB.keep hrow_.out (fun x hx => r1.block x (by simp at hx; subst hx; have := OI.size; omega) (fun hx' => hgb (by simp at hx; subst hx; exact (List.mem_append_left _ hx')))); clear hrow_
      clear hU_
      have hC := OwG.keep_ OwSS.keeps hC_.out (fun x hx => r1.block x (by have := hbl x (List.mem_append_right _ hx); have := OI.size; omega) (fun h' => hdis x h' hx)); clear hC_
      have OI := OI.more r1 (fun x hx => List.mem_append_right _ (List.mem_append_left _ hx)); clear r1
      have p1 : w1.cell? ⟨g, j * 2 + 1, none⟩ = some (.slice C m.setup.length cc) := by
        rw [hrow.cellAt (j * 2 + 1) (by omega)]; (try simp (disch := omega) only [List.getElem?_set_ne]); exact (by simpa using HV.out 1 (by omega))
      have HC := hide (markIntSS_blk C m.setup cc b2 (K + 2 * (m.steps.length : Int)) w1 (by omega) (by omega) (by omega) hC nd2 (fun x hx => by have := hbl x (List.mem_append_right _ hx); have := OI.size; omega))
      have hrow_ := hide hrow; clear hrow
      have hC_ := hide hC; clear hC
      have OI_ := hide OI; clear OI
      go_wp2_with fail
      refine HC.out.mono ?_
      rintro e w2 ⟨rfl, o_hC, r2⟩
      have z2 := r2.size
      clear HC p1
      have OI := OI_.out; clear OI_
      have hrow := RowB.keep hrow_.out (fun x hx => r2.block x (by simp at hx; subst hx; have := OI.size; omega) (fun hx' => hgb (by simp at hx; subst hx; exact (List.mem_append_right _ hx')))); clear hrow_
      clear hC_
      have o_hU := RowB.keep o_hU (fun x hx => r2.block x (by have := hbl x (List.mem_append_left _ hx); have := OI.size; omega) (hdis x hx))
      have OI := OI.more r2 (fun x hx => List.mem_append_right _ (List.mem_append_right _ hx)); clear r2
      have o_hU_ := hide o_hU; clear o_hU
      have o_hC_ := hide o_hC; clear o_hC
      have hrow_ := hide hrow; clear hrow
      have OI_ := hide OI; clear OI
      go_wp2
      go_roundw
      case rel =>
        refine ⟨j + 1, by omega, by go_num, val_int ?_, hide ?_, HB.out.trans (OI_.out.sub (fun x hx => ?_))⟩
        · have h1 := HS.out; have h2 := HWT.out; have h3 := HKK.out; omega
        · rw [← HT.out]
          refine HSH.out _ _ #[.slice U (markSt (K) m.steps.length).length cu, .slice C (mkL wtII mkII (K + 2 * (m.steps.length : Int)) m.setup).length cc] (mkRs K m) hrow_.out (fun p hp => ?_) (fun q hq => ?_) ?_ (fun x hxm hx hx0 => OI_.out.block x (by have := hlt x hxm; omega) (fun hh => ?_))
          · first | rfl | (simp (disch := omega) only [List.getElem?_set_ne]; done)
          · match q, hq with
            | 0, _ => (try simp (disch := omega) only [List.getElem?_set_ne]); (refine Eq.trans (by simpa using HV.out 0 (by omega)) ?_); all_goals simp [markSt_len]
            | 1, _ => (try simp (disch := omega) only [List.getElem?_set_ne]); (refine Eq.trans (by simpa using HV.out 1 (by omega)) ?_); all_goals simp [mkL_len]
          · exact ⟨U, cu, C, cc, b1, b2, rfl, (by simp only [mkRs, markSt_len]; exact o_hU_.out), o_hC_.out, rfl⟩
          · rcases List.mem_append.1 hh with h' | h'
            · exact hx0 h'
            · exact hx h'
        · rcases List.mem_append.1 hx with h' | h'
          · exact hb0m x h'
          · exact HBM.out x h'
      case measure => simp [intOf]; omega
    · obtain rfl : j = l.length := by omega
      go_wp2
      go_ret
      exact ⟨ret_int (by rw [List.take_length]), (mkTo_all wtRs mkRs k l) ▸ HO.out, hB⟩
set_option maxHeartbeats 3200000 in
theorem markLinkS_blk (A : Option Addr) (l : List Lk) (c : Nat) (bs : List Nat) (k : Int) (w : World) (hl : l.length ≤ 16777216) (hk : 1 ≤ k) (hk' : k + (wtL wtLk l : Int) ≤ 16777216) (h : OwG 4 75 OwLk lk0 w A c l bs) (hn : bs.Nodup) (hlt : ∀ b ∈ bs, b < w.heap.size) :
    Calls Tryz.prog 64 #[.slice A l.length c, .int .i64 k] w fun e w' => e = .returned (.int .i64 (k + (wtL wtLk l : Int))) ∧ OwG 4 75 OwLk lk0 w' A c (mkL wtLk mkLk k l) bs ∧ OnlyIn bs w w' := by
  have HK := hide hk'; clear hk'
  go_enter Tryz.func64, Tryz.ntmps64
  go_wp2
  go_loopw [1, 5] (fun q i wr => ∃ j : Nat, j ≤ l.length ∧ i = .int .i64 j ∧ q = .int .i64 (k + (wtL wtLk (l.take j) : Int)) ∧ Hid (OwG 4 75 OwLk lk0 wr A c (mkTo wtLk mkLk k l j) bs) ∧ OnlyIn bs w wr) (fun _ i _ => l.length - (intOf i).toNat)
  case atStart => exact ⟨0, Nat.zero_le _, rfl, by simp [wtL], hide (by rw [mkTo_zero]; exact h), OnlyIn.refl _ _⟩
  case round =>
    obtain ⟨j, hj, rfl, rfl, HO, hB⟩ := hrel
    clear h
    by_cases hjl : j < l.length
    · have hjl' : j < (mkTo wtLk mkLk k l j).length := by rw [mkTo_len]; exact hjl
      obtain ⟨b0, xs, v, b, hrow, ho, hv, hbm, hb0m, hbd, hbn, hshut⟩ := OwG.open_ OwLs.keeps HO.out hn hjl'
      rw [mkTo_getD _ _ _ _ hjl] at ho
      rw [mkTo_len] at hrow hshut
      have HS := hide (wtL_succ wtLk lk0 hjl)
      have HLE := hide (wtL_le wtLk l (j + 1))
      have hW0 : (0 : Int) ≤ (wtL wtLk (l.take j) : Int) := by omega
      have HT := hide (mkTo_set wtLk mkLk lk0 k hjl)
      generalize hM : l.getD j lk0 = m at ho HS HT
      obtain ⟨rfl, rfl⟩ := ho
      have HWT : Hid ((wtLk m : Int) = 4) := hide (by unfold wtLk; first | rfl | (push_cast; omega))
      obtain ⟨K, hK⟩ : ∃ K : Int, K = k + (wtL wtLk (l.take j) : Int) := ⟨_, rfl⟩
      have hK1 : 1 ≤ K := by omega
      have hK2 : K + (wtLk m : Int) ≤ 16777216 := by have := HK.out; have := HS.out; have := HLE.out; push_cast at *; omega
      rw [HWT.out] at hK2
      rw [← hK] at HT ⊢
      have HKK := hide hK; clear hK
      obtain ⟨g, rfl, rfl⟩ := hrow.at_ (by omega)
      have hgb : g ∉ [] := fun hx => hbd g hx (by simp)
      have hgl : g < wr.heap.size := hrow.lt g (by simp)
      have hbl : ∀ x ∈ [], x < wr.heap.size := fun x hx => by have := hlt x (hbm x hx); have := hB.size; omega
      have hxl : xs.length = l.length * 4 := hrow.len
      have OI := OnlyIn.refl ([g] ++ ([])) wr
      have HSH := hide hshut; clear hshut
      have HV := hide hv; clear hv
      have HBM := hide hbm; clear hbm
      have HB := hide hB
      have hsz0 := hB.size; clear hB
      have HBD := hide hbd; clear hbd hbn
      obtain ⟨u0, e0⟩ := hrow.some_at (j * 4) (by omega)
      have fz0 := hrow.frozenAt (j * 4)
      obtain ⟨u1, e1⟩ := hrow.some_at (j * 4 + 1) (by omega)
      have fz1 := hrow.frozenAt (j * 4 + 1)
      obtain ⟨u2, e2⟩ := hrow.some_at (j * 4 + 2) (by omega)
      have fz2 := hrow.frozenAt (j * 4 + 2)
      obtain ⟨u3, e3⟩ := hrow.some_at (j * 4 + 3) (by omega)
      have fz3 := hrow.frozenAt (j * 4 + 3)
      have hrow := hrow.stored_ (j * 4) (.int .i64 (K))
      have OI := OI.set (p := ⟨g, j * 4, none⟩) (by simp) (.int .i64 (K))
      have hrow := hrow.stored_ (j * 4 + 1) (.int .i64 (K + 1))
      have OI := OI.set (p := ⟨g, j * 4 + 1, none⟩) (by simp) (.int .i64 (K + 1))
      have hrow := hrow.stored_ (j * 4 + 2) (.bool (mk3 (K + 1 + 1)))
      have OI := OI.set (p := ⟨g, j * 4 + 2, none⟩) (by simp) (.bool (mk3 (K + 1 + 1)))
      have hrow := hrow.stored_ (j * 4 + 3) (.int .i64 (K + 1 + 1 + 1))
      have OI := OI.set (p := ⟨g, j * 4 + 3, none⟩) (by simp) (.int .i64 (K + 1 + 1 + 1))
      have hrow_ := hide hrow; clear hrow
      have OI_ := hide OI; clear OI
      go_wp2
      go_roundw
      case rel =>
        refine ⟨j + 1, by omega, by go_num, val_int ?_, hide ?_, HB.out.trans (OI_.out.sub (fun x hx => ?_))⟩
        · have h1 := HS.out; have h2 := HWT.out; have h3 := HKK.out; omega
        · rw [← HT.out]
          refine HSH.out _ _ #[.int .i64 (K), .int .i64 (K + 1), .bool (mk3 (K + 1 + 1)), .int .i64 (K + 1 + 1 + 1)] (mkLk K m) hrow_.out (fun p hp => ?_) (fun q hq => ?_) ?_ (fun x hxm hx hx0 => OI_.out.block x (by have := hlt x hxm; omega) (fun hh => ?_))
          · first | rfl | (simp (disch := omega) only [List.getElem?_set_ne]; done)
          · match q, hq with
            | 0, _ => (try simp (disch := omega) only [Nat.add_zero, List.getElem?_set_ne]); rw [List.getElem?_set_self (by (try simp only [List.length_set]); omega)]; rfl
            | 1, _ => (try simp (disch := omega) only [Nat.add_zero, List.getElem?_set_ne]); rw [List.getElem?_set_self (by (try simp only [List.length_set]); omega)]; rfl
            | 2, _ => (try simp (disch := omega) only [Nat.add_zero, List.getElem?_set_ne]); rw [List.getElem?_set_self (by (try simp only [List.length_set]); omega)]; rfl
            | 3, _ => (try simp (disch := omega) only [Nat.add_zero, List.getElem?_set_ne]); rw [List.getElem?_set_self (by (try simp only [List.length_set]); omega)]; rfl
          · exact ⟨rfl, rfl⟩
          · rcases List.mem_append.1 hh with h' | h'
            · exact hx0 h'
            · exact hx h'
        · rcases List.mem_append.1 hx with h' | h'
          · exact hb0m x h'
          · exact HBM.out x h'
      case measure => simp [intOf]; omega
    · obtain rfl : j = l.length := by omega
      go_wp2
      go_ret
      exact ⟨ret_int (by rw [List.take_length]), (mkTo_all wtLk mkLk k l) ▸ HO.out, hB⟩
set_option maxHeartbeats 3200000 in
theorem heldIntSS_any (A : Option Addr) (l : List (List Int)) (c lo hi : Nat) (k : Int) (w : World) (hl : l.length ≤ 16777216) (hk : 1 ≤ k) (hk' : k + (wtL wtII l : Int) ≤ 16777216) (ha : RdSS w lo hi A (mkL wtII mkII k l)) (hhi : hi ≤ w.heap.size) :
    Calls Tryz.prog 128 #[.slice A l.length c, .int .i64 k] w fun e w' => e = .returned (.int .i64 (k + (wtL wtII l : Int))) ∧ Below w.heap.size w w' := by
  have HK := hide hk'; clear hk'
  go_enter Tryz.func128, Tryz.ntmps128
  go_wp2
  go_loopw [1, 5] (fun q i wr => ∃ j : Nat, j ≤ l.length ∧ i = .int .i64 j ∧ q = .int .i64 (k + (wtL wtII (l.take j) : Int)) ∧ Below w.heap.size w wr) (fun _ i _ => l.length - (intOf i).toNat)
  case atStart => exact ⟨0, Nat.zero_le _, rfl, by simp [wtL], Below.refl _ _⟩
  case round =>
    obtain ⟨j, hj, rfl, rfl, hB⟩ := hrel
    by_cases hjl : j < l.length
    · have har := (ha.below hB hhi).at (k := j) (by rw [mkL_len]; exact hjl)
      have hhr : hi ≤ wr.heap.size := by have := hB.size; omega
      clear ha
      obtain ⟨b, off, U, cu, rfl, h1, h2, g0, f0⟩ := har
      rw [mkL_getD _ _ _ _ hjl] at g0 f0
      have HS := hide (wtL_succ wtII [] hjl)
      have HLE := hide (wtL_le wtII l (j + 1))
      have hW0 : (0 : Int) ≤ (wtL wtII (l.take j) : Int) := by omega
      generalize hM : l.getD j [] = m at g0 f0 HS
      have HWT : Hid ((wtII m : Int) = (m.length : Int)) := hide (by unfold wtII; first | rfl | (push_cast; omega))
      obtain ⟨K, hK⟩ : ∃ K : Int, K = k + (wtL wtII (l.take j) : Int) := ⟨_, rfl⟩
      have hK1 : 1 ≤ K := by omega
      have hK2 : K + (wtII m : Int) ≤ 16777216 := by have := HK.out; have := HS.out; have := HLE.out; push_cast at *; omega
      rw [HWT.out] at hK2
      rw [← hK] at g0 f0 ⊢
      have HKK := hide hK; clear hK
      simp only [mkII, marks_len, mkL_len, markSt_len] at g0 f0
      have hbb : b < wr.heap.size := by omega
      have HB := hide hB
      have hsz0 := hB.size; clear hB
      have BB := Below.refl wr.heap.size wr
      have HC := hide (heldIntS_any U m.length cu lo hi (K) _ (by omega) (by omega) (by omega) f0)
      go_wp2_with fail
      refine HC.out.mono ?_
      rintro e w10 ⟨rfl, r0⟩
      have r0 := Qt.below (Below.refl wr.heap.size _) r0
      have zz0 := r0.size
      clear HC f0 g0
      have BB := BB.trans (r0.mono (by omega))
      clear r0
      have hpos0 : ¬ (K + (m.length : Int) < 0) := by omega
      have BB_ := hide BB; clear BB
      go_wp2
      go_roundw
      case rel => exact ⟨j + 1, by omega, by go_num, val_int (by have h1 := HS.out; have h2 := HWT.out; have h3 := HKK.out; omega), HB.out.trans (BB_.out.mono (by omega))⟩
      case measure => simp [intOf]; omega
    · obtain rfl : j = l.length := by omega
      go_wp2
      go_ret
      exact ⟨ret_int (by rw [List.take_length]), hB⟩
set_option maxHeartbeats 3200000 in
theorem heldModeS_any (A : Option Addr) (l : List Md) (c lo hi : Nat) (k : Int) (w : World) (hl : l.length ≤ 16777216) (hk : 1 ≤ k) (hk' : k + (wtL wtMd l : Int) ≤ 16777216) (ha : RdMs w lo hi A (mkL wtMd mkMd k l)) (hhi : hi ≤ w.heap.size) :
    Calls Tryz.prog 126 #[.slice A l.length c, .int .i64 k] w fun e w' => e = .returned (.int .i64 (k + (wtL wtMd l : Int))) ∧ Below w.heap.size w w' := by
  have HK := hide hk'; clear hk'
  go_enter Tryz.func126, Tryz.ntmps126
  go_wp2
  go_loopw [1, 5] (fun q i wr => ∃ j : Nat, j ≤ l.length ∧ i = .int .i64 j ∧ q = .int .i64 (k + (wtL wtMd (l.take j) : Int)) ∧ Below w.heap.size w wr) (fun _ i _ => l.length - (intOf i).toNat)
  case atStart => exact ⟨0, Nat.zero_le _, rfl, by simp [wtL], Below.refl _ _⟩
  case round =>
    obtain ⟨j, hj, rfl, rfl, hB⟩ := hrel
    by_cases hjl : j < l.length
    · have har := (ha.below hB hhi).at (k := j) (by rw [mkL_len]; exact hjl)
      have hhr : hi ≤ wr.heap.size := by have := hB.size; omega
      clear ha
      obtain ⟨b, off, U, cu, C, cc, rfl, h1, h2, g0, g1, g2, f1, f2⟩ := har
      rw [mkL_getD _ _ _ _ hjl] at g0 g1 g2 f1 f2
      have HS := hide (wtL_succ wtMd md0 hjl)
      have HLE := hide (wtL_le wtMd l (j + 1))
      have hW0 : (0 : Int) ≤ (wtL wtMd (l.take j) : Int) := by omega
      generalize hM : l.getD j md0 = m at g0 g1 g2 f1 f2 HS
      have HWT : Hid ((wtMd m : Int) = 1 + (m.use.length : Int) + (m.con.length : Int)) := hide (by unfold wtMd; first | rfl | (push_cast; omega))
      obtain ⟨K, hK⟩ : ∃ K : Int, K = k + (wtL wtMd (l.take j) : Int) := ⟨_, rfl⟩
      have hK1 : 1 ≤ K := by omega
      have hK2 : K + (wtMd m : Int) ≤ 16777216 := by have := HK.out; have := HS.out; have := HLE.out; push_cast at *; omega
      rw [HWT.out] at hK2
      rw [← hK] at g0 g1 g2 f1 f2 ⊢
      have HKK := hide hK; clear hK
      simp only [mkMd, marks_len, mkL_len, markSt_len] at g0 g1 g2 f1 f2
      have hbb : b < wr.heap.size := by omega
      have HB := hide hB
      have hsz0 := hB.size; clear hB
      have BB := Below.refl wr.heap.size wr
      have HC := hide (heldIntS_any U m.use.length cu lo hi (K + 1) _ (by omega) (by omega) (by omega) f1)
      go_wp2_with fail
      refine HC.out.mono ?_
      rintro e w11 ⟨rfl, r1⟩
      have r1 := Qt.below (Below.refl wr.heap.size _) r1
      have zz1 := r1.size
      clear g0
      clear HC f1 g1
      have g2 := (r1.cell (p := ⟨b, off + j * 3 + 2, none⟩) (by show b < _; omega)).trans g2
      have f2 := f2.below r1 (by omega)
      have BB := BB.trans (r1.mono (by omega))
      clear r1
      have hpos1 : ¬ (K + 1 + (m.use.length : Int) < 0) := by omega
      have HC := hide (heldIntS_any C m.con.length cc lo hi (K + 1 + (m.use.length : Int)) _ (by omega) (by omega) (by omega) f2)
      go_wp2_with fail
      refine HC.out.mono ?_
      rintro e w12 ⟨rfl, r2⟩
      have r2 := Qt.below (Below.refl wr.heap.size _) r2
      have zz2 := r2.size
      clear HC f2 g2
      have BB := BB.trans (r2.mono (by omega))
      clear r2
      have hpos2 : ¬ (K + 1 + (m.use.length : Int) + (m.con.length : Int) < 0) := by omega
      have BB_ := hide BB; clear BB
      go_wp2
      go_roundw
      case rel => exact ⟨j + 1, by omega, by go_num, val_int (by have h1 := HS.out; have h2 := HWT.out; have h3 := HKK.out; omega), HB.out.trans (BB_.out.mono (by omega))⟩
      case measure => simp [intOf]; omega
    · obtain rfl : j = l.length := by omega
      go_wp2
      go_ret
      exact ⟨ret_int (by rw [List.take_length]), hB⟩
set_option maxHeartbeats 3200000 in
theorem heldActivityS_any (A : Option Addr) (l : List Ac) (c lo hi : Nat) (k : Int) (w : World) (hl : l.length ≤ 16777216) (hk : 1 ≤ k) (hk' : k + (wtL wtAc l : Int) ≤ 16777216) (ha : RdAs w lo hi A (mkL wtAc mkAc k l)) (hhi : hi ≤ w.heap.size) :
    Calls Tryz.prog 67 #[.slice A l.length c, .int .i64 k] w fun e w' => e = .returned (.int .i64 (k + (wtL wtAc l : Int))) ∧ Below w.heap.size w w' := by
  have HK := hide hk'; clear hk'
  go_enter Tryz.func67, Tryz.ntmps67
  go_wp2
  go_loopw [1, 5] (fun q i wr => ∃ j : Nat, j ≤ l.length ∧ i = .int .i64 j ∧ q = .int .i64 (k + (wtL wtAc (l.take j) : Int)) ∧ Below w.heap.size w wr) (fun _ i _ => l.length - (intOf i).toNat)
  case atStart => exact ⟨0, Nat.zero_le _, rfl, by simp [wtL], Below.refl _ _⟩
  case round =>
    obtain ⟨j, hj, rfl, rfl, hB⟩ := hrel
    by_cases hjl : j < l.length
    · have har := (ha.below hB hhi).at (k := j) (by rw [mkL_len]; exact hjl)
      have hhr : hi ≤ wr.heap.size := by have := hB.size; omega
      clear ha
      obtain ⟨b, off, U, cu, rfl, h1, h2, g0, g1, g2, f2⟩ := har
      rw [mkL_getD _ _ _ _ hjl] at g0 g1 g2 f2
      have HS := hide (wtL_succ wtAc ac0 hjl)
      have HLE := hide (wtL_le wtAc l (j + 1))
      have hW0 : (0 : Int) ≤ (wtL wtAc (l.take j) : Int) := by omega
      generalize hM : l.getD j ac0 = m at g0 g1 g2 f2 HS
      have HWT : Hid ((wtAc m : Int) = 2 + (wtL wtMd m.modes : Int)) := hide (by unfold wtAc; first | rfl | (push_cast; omega))
      obtain ⟨K, hK⟩ : ∃ K : Int, K = k + (wtL wtAc (l.take j) : Int) := ⟨_, rfl⟩
      have hK1 : 1 ≤ K := by omega
      have hK2 : K + (wtAc m : Int) ≤ 16777216 := by have := HK.out; have := HS.out; have := HLE.out; push_cast at *; omega
      have n_U : (0 : Int) ≤ (wtL wtMd m.modes : Int) := by omega
      have n2_U : m.modes.length ≤ 16777216 := by have := wtL_md m.modes; have := HWT.out; omega
      rw [HWT.out] at hK2
      rw [← hK] at g0 g1 g2 f2 ⊢
      have HKK := hide hK; clear hK
      simp only [mkAc, marks_len, mkL_len, markSt_len] at g0 g1 g2 f2
      have hbb : b < wr.heap.size := by omega
      have HB := hide hB
      have hsz0 := hB.size; clear hB
      have BB := Below.refl wr.heap.size wr
      have HM := hide (markText_int (K))
      generalize markTxt (K).toNat = T at g0 HM
      have hL : wr.heap.size ≤ wr.heap.size := Nat.le_refl _
      go_wp2_with fail
      go_region_held3 (fun w' => w'.cell? ⟨b, off + j * 3, none⟩ = some (.string T) ∧ Below wr.heap.size wr w' ∧ wr.heap.size ≤ w'.heap.size)
        (first | exact ⟨g0, (Below.refl _ _).drew, hL⟩ | (go_split_ands; exact ⟨(hb1.cell (p := ⟨b, off + j * 3, none⟩) (by show b < _; omega)).trans (by assumption), Below.trans (by assumption) (hb1.mono (by assumption)), Nat.le_trans (by assumption) hb1.size⟩))
        (first | (go_at_call 122; refine (HM.out _ (by omega) (by omega)).mono ?_; rintro e w' ⟨rfl, hb1⟩))
      rename_i hS
      have hb2 := hS.2.1
      have z1 := hb2.size
      clear hS hL
      have g1 := (hb2.cell (p := ⟨b, off + j * 3 + 1, none⟩) (by show b < _; omega)).trans g1
      have g2 := (hb2.cell (p := ⟨b, off + j * 3 + 2, none⟩) (by show b < _; omega)).trans g2
      have f2 := f2.below hb2 (by omega)
      have BB := BB.trans (hb2.mono (by omega))
      clear hb2 g0 HM
      have HC := hide (heldModeS_any U m.modes cu lo hi (K + 1 + 1) _ (by omega) (by omega) (by omega) f2 (by omega))
      go_wp2_with fail
      refine HC.out.mono ?_
      rintro e w12 ⟨rfl, r2⟩
      have zz2 := r2.size
      clear g1
      clear HC f2 g2
      have BB := BB.trans (r2.mono (by omega))
      clear r2
      have hpos2 : ¬ (K + 1 + 1 + (wtL wtMd m.modes : Int) < 0) := by omega
      have BB_ := hide BB; clear BB
      go_wp2
      go_roundw
      case rel => exact ⟨j + 1, by omega, by go_num, val_int (by have h1 := HS.out; have h2 := HWT.out; have h3 := HKK.out; omega), HB.out.trans (BB_.out.mono (by omega))⟩
      case measure => simp [intOf]; omega
    · obtain rfl : j = l.length := by omega
      go_wp2
      go_ret
      exact ⟨ret_int (by rw [List.take_length]), hB⟩
set_option maxHeartbeats 3200000 in
theorem heldResourceS_any (A : Option Addr) (l : List Rs) (c lo hi : Nat) (k : Int) (w : World) (hl : l.length ≤ 16777216) (hside : ∀ i, (l.getD i rs0).setup.length ≤ 16777216) (hk : 1 ≤ k) (hk' : k + (wtL wtRs l : Int) ≤ 16777216) (ha : RdRs w lo hi A (mkL wtRs mkRs k l)) (hhi : hi ≤ w.heap.size) :
    Calls Tryz.prog 69 #[.slice A l.length c, .int .i64 k] w fun e w' => e = .returned (.int .i64 (k + (wtL wtRs l : Int))) ∧ Below w.heap.size w w' := by
  have HK := hide hk'; clear hk'
  go_enter Tryz.func69, Tryz.ntmps69
  go_wp2
  go_loopw [1, 5] (fun q i wr => ∃ j : Nat, j ≤ l.length ∧ i = .int .i64 j ∧ q = .int .i64 (k + (wtL wtRs (l.take j) : Int)) ∧ Below w.heap.size w wr) (fun _ i _ => l.length - (intOf i).toNat)
  case atStart => exact ⟨0, Nat.zero_le _, rfl, by simp [wtL], Below.refl _ _⟩
  case round =>
    obtain ⟨j, hj, rfl, rfl, hB⟩ := hrel
    by_cases hjl : j < l.length
    · have har := (ha.below hB hhi).at (k := j) (by rw [mkL_len]; exact hjl)
      have hhr : hi ≤ wr.heap.size := by have := hB.size; omega
      clear ha
      obtain ⟨b, off, U, cu, C, cc, rfl, h1, h2, g0, g1, f0, f1⟩ := har
      rw [mkL_getD _ _ _ _ hjl] at g0 g1 f0 f1
      have HS := hide (wtL_succ wtRs rs0 hjl)
      have HLE := hide (wtL_le wtRs l (j + 1))
      have hW0 : (0 : Int) ≤ (wtL wtRs (l.take j) : Int) := by omega
      have hsd := hside j
      generalize hM : l.getD j rs0 = m at g0 g1 f0 f1 HS hsd
      have HWT : Hid ((wtRs m : Int) = 2 * (m.steps.length : Int) + (wtL wtII m.setup : Int)) := hide (by unfold wtRs; first | rfl | (push_cast; omega))
      obtain ⟨K, hK⟩ : ∃ K : Int, K = k + (wtL wtRs (l.take j) : Int) := ⟨_, rfl⟩
      have hK1 : 1 ≤ K := by omega
      have hK2 : K + (wtRs m : Int) ≤ 16777216 := by have := HK.out; have := HS.out; have := HLE.out; push_cast at *; omega
      have n_C : (0 : Int) ≤ (wtL wtII m.setup : Int) := by omega
      rw [HWT.out] at hK2
      rw [← hK] at g0 g1 f0 f1 ⊢
      have HKK := hide hK; clear hK
      simp only [mkRs, marks_len, mkL_len, markSt_len] at g0 g1 f0 f1
      have hbb : b < wr.heap.size := by omega
      have HB := hide hB
      have hsz0 := hB.size; clear hB
      have BB := Below.refl wr.heap.size wr
      have HC := hide (heldStepS_any U m.steps.length cu lo hi (K) _ (by omega) (by omega) (by omega) f0)
      go_wp2_with fail
      refine HC.out.mono ?_
      rintro e w10 ⟨rfl, r0⟩
      have r0 := Qt.below (Below.refl wr.heap.size _) r0
      have zz0 := r0.size
      clear HC f0 g0
      have g1 := (r0.cell (p := ⟨b, off + j * 2 + 1, none⟩) (by show b < _; omega)).trans g1
      have f1 := f1.below r0 (by omega)
      have BB := BB.trans (r0.mono (by omega))
      clear r0
      have hpos0 : ¬ (K + 2 * (m.steps.length : Int) < 0) := by omega
      have HC := hide (heldIntSS_any C m.setup cc lo hi (K + 2 * (m.steps.length : Int)) _ (by omega) (by omega) (by omega) f1 (by omega))
      go_wp2_with fail
      refine HC.out.mono ?_
      rintro e w11 ⟨rfl, r1⟩
      have zz1 := r1.size
      clear HC f1 g1
      have BB := BB.trans (r1.mono (by omega))
      clear r1
      have hpos1 : ¬ (K + 2 * (m.steps.length : Int) + (wtL wtII m.setup : Int) < 0) := by omega
      have BB_ := hide BB; clear BB
      go_wp2
      go_roundw
      case rel => exact ⟨j + 1, by omega, by go_num, val_int (by have h1 := HS.out; have h2 := HWT.out; have h3 := HKK.out; omega), HB.out.trans (BB_.out.mono (by omega))⟩
      case measure => simp [intOf]; omega
    · obtain rfl : j = l.length := by omega
      go_wp2
      go_ret
      exact ⟨ret_int (by rw [List.take_length]), hB⟩
set_option maxHeartbeats 3200000 in
theorem heldLinkS_any (A : Option Addr) (l : List Lk) (c lo hi : Nat) (k : Int) (w : World) (hl : l.length ≤ 16777216) (hk : 1 ≤ k) (hk' : k + (wtL wtLk l : Int) ≤ 16777216) (ha : RdLs w lo hi A (mkL wtLk mkLk k l)) (hhi : hi ≤ w.heap.size) :
    Calls Tryz.prog 68 #[.slice A l.length c, .int .i64 k] w fun e w' => e = .returned (.int .i64 (k + (wtL wtLk l : Int))) ∧ Below w.heap.size w w' := by
  have HK := hide hk'; clear hk'
  go_enter Tryz.func68, Tryz.ntmps68
  go_wp2
  go_loopw [1, 5] (fun q i wr => ∃ j : Nat, j ≤ l.length ∧ i = .int .i64 j ∧ q = .int .i64 (k + (wtL wtLk (l.take j) : Int)) ∧ Below w.heap.size w wr) (fun _ i _ => l.length - (intOf i).toNat)
  case atStart => exact ⟨0, Nat.zero_le _, rfl, by simp [wtL], Below.refl _ _⟩
  case round =>
    obtain ⟨j, hj, rfl, rfl, hB⟩ := hrel
    by_cases hjl : j < l.length
    · have har := (ha.below hB hhi).at (k := j) (by rw [mkL_len]; exact hjl)
      have hhr : hi ≤ wr.heap.size := by have := hB.size; omega
      clear ha
      obtain ⟨b, off, rfl, h1, h2, g0, g1, g2, g3⟩ := har
      rw [mkL_getD _ _ _ _ hjl] at g0 g1 g2 g3
      have HS := hide (wtL_succ wtLk lk0 hjl)
      have HLE := hide (wtL_le wtLk l (j + 1))
      have hW0 : (0 : Int) ≤ (wtL wtLk (l.take j) : Int) := by omega
      generalize hM : l.getD j lk0 = m at g0 g1 g2 g3 HS
      have HWT : Hid ((wtLk m : Int) = 4) := hide (by unfold wtLk; first | rfl | (push_cast; omega))
      obtain ⟨K, hK⟩ : ∃ K : Int, K = k + (wtL wtLk (l.take j) : Int) := ⟨_, rfl⟩
      have hK1 : 1 ≤ K := by omega
      have hK2 : K + (wtLk m : Int) ≤ 16777216 := by have := HK.out; have := HS.out; have := HLE.out; push_cast at *; omega
      rw [HWT.out] at hK2
      rw [← hK] at g0 g1 g2 g3 ⊢
      have HKK := hide hK; clear hK
      simp only [mkLk, marks_len, mkL_len, markSt_len] at g0 g1 g2 g3
      have hbb : b < wr.heap.size := by omega
      have HB := hide hB
      have hsz0 := hB.size; clear hB
      have BB := Below.refl wr.heap.size wr
      have BB_ := hide BB; clear BB
      have h3 : (!mk3 (K + 1 + 1) == ((K + 1 + 1) % 3 == 0)) = false := by unfold mk3; cases ((K + 1 + 1) % 3 == 0) <;> rfl
      go_wp2
      go_roundw
      case rel => exact ⟨j + 1, by omega, by go_num, val_int (by have h1 := HS.out; have h2 := HWT.out; have h3 := HKK.out; omega), HB.out.trans (BB_.out.mono (by omega))⟩
      case measure => simp [intOf]; omega
    · obtain rfl : j = l.length := by omega
      go_wp2
      go_ret
      exact ⟨ret_int (by rw [List.take_length]), hB⟩
theorem OwV.only_ {α : Type} {O : Owns α} (K : OKeeps O) {w w' : World} {lo hi lo' hi' : Nat} {v : Array Value} {a : α} (h : OwV O w lo hi v a) (hb : Only lo' hi' w w') (hs : hi ≤ w.heap.size) (hd : hi ≤ lo' ∨ hi' ≤ lo) : OwV O w' lo hi v a := by
  obtain ⟨bs, h1, h2⟩ := h
  exact ⟨bs, K _ _ _ _ _ (fun k hk => by have := h2.2 k hk; exact hb.block k (by omega) (by omega)) h1, h2⟩
def OwPV (w : World) (lo hi : Nat) (v : Array Value) (p : Pj) : Prop := OwV OwP w lo hi v p
theorem OwPV.only {w w' : World} {lo hi lo' hi' : Nat} {v : Array Value} {p : Pj} (h : OwPV w lo hi v p) (hb : Only lo' hi' w w') (hs : hi ≤ w.heap.size) (hd : hi ≤ lo' ∨ hi' ≤ lo) : OwPV w' lo hi v p := OwV.only_ OwPj.keeps h hb hs hd
def mkPj (k : Int) (p : Pj) : Pj := ⟨p.dead, mkL wtAc mkAc k p.acts, mkL wtLk mkLk (k + (wtL wtAc p.acts : Int)) p.links, mkL wtRs mkRs (k + (wtL wtAc p.acts : Int) + (wtL wtLk p.links : Int)) p.res, marks (k + (wtL wtAc p.acts : Int) + (wtL wtLk p.links : Int) + (wtL wtRs p.res : Int)) p.stocks.length⟩
set_option maxHeartbeats 3200000 in
theorem markProject_any (p : Pj) (A0 A1 A2 A3 : Option Addr) (c0 c1 c2 c3 lo hi : Nat) (k : Int) (w : World) (hs : szPj p ≤ 2097152) (hk : 1 ≤ k) (hk' : k ≤ 4194304) (h : OwPV w lo hi #[.int .i64 p.dead, .slice A0 p.acts.length c0, .slice A1 p.links.length c1, .slice A2 p.res.length c2, .slice A3 p.stocks.length c3] p) (hhi : hi ≤ w.heap.size) :
    Calls Tryz.prog 13 #[.agg #[.int .i64 p.dead, .slice A0 p.acts.length c0, .slice A1 p.links.length c1, .slice A2 p.res.length c2, .slice A3 p.stocks.length c3], .int .i64 k] w fun e w' => e = .returned (.int .i64 (k + (wtPj p : Int))) ∧ Only lo hi w w' ∧ RdAs w' lo hi A0 (mkPj k p).acts ∧ RdLs w' lo hi A1 (mkPj k p).links ∧ RdRs w' lo hi A2 (mkPj k p).res ∧ RdI w' lo hi A3 (mkPj k p).stocks := by
  obtain ⟨bs, ⟨A0', c0', A1', c1', A2', c2', A3', c3', b1, b2, b3, b4, e, g1, g2, g3, g4, rfl⟩, hN⟩ := h
  simp only [Array.mk.injEq, List.cons.injEq, Value.slice.injEq, and_true, true_and] at e
  obtain ⟨⟨rfl, rfl⟩, ⟨rfl, rfl⟩, ⟨rfl, rfl⟩, rfl, rfl⟩ := e
  have HZ := hide (wtPj_sz p)
  have HZ2 : Hid ((wtPj p : Int) = (wtL wtAc p.acts : Int) + ((wtL wtLk p.links : Int) + ((wtL wtRs p.res : Int) + (p.stocks.length : Int)))) := hide (by unfold wtPj; push_cast; rfl)
  have hb0 : (wtL wtAc p.acts : Int) + ((wtL wtLk p.links : Int) + ((wtL wtRs p.res : Int) + (p.stocks.length : Int))) ≤ 8388608 := by have := HZ.out; have := HZ2.out; omega
  have n0 : (0 : Int) ≤ (wtL wtAc p.acts : Int) := by omega
  have n1 : (0 : Int) ≤ (wtL wtLk p.links : Int) := by omega
  have n2 : (0 : Int) ≤ (wtL wtRs p.res : Int) := by omega
  have m0 : p.acts.length ≤ 16777216 ∧ p.links.length ≤ 16777216 ∧ p.res.length ≤ 16777216 ∧ p.stocks.length ≤ 16777216 := by (have e : szPj p = szL szAc p.acts + (p.links.length + (szL szRs p.res + p.stocks.length)) := rfl); (have := szL_len szAc p.acts); (have := szL_len szRs p.res); omega
  have hsd : ∀ i, (p.res.getD i rs0).setup.length ≤ 16777216 := fun i => by (have e : szPj p = szL szAc p.acts + (p.links.length + (szL szRs p.res + p.stocks.length)) := rfl); have := setup_sz p.res i; omega
  obtain ⟨m0, m1, m2, m3⟩ := m0
  obtain ⟨hnd, hlh⟩ := hN
  obtain ⟨nd1, nd', d1⟩ := List.nodup_append.1 hnd
  obtain ⟨nd2, nd'', d2⟩ := List.nodup_append.1 nd'
  obtain ⟨nd3, nd4, d3⟩ := List.nodup_append.1 nd''
  have HLH := hide hlh; clear hlh hnd nd' nd''
  have HSD := hide hsd; clear hsd
  have D1 := hide d1; have D2 := hide d2; have D3 := hide d3; clear d1 d2 d3
  have hl1 : ∀ x ∈ b1, lo ≤ x ∧ x < hi := fun x hx => HLH.out x (by simp [hx])
  have hl2 : ∀ x ∈ b2, lo ≤ x ∧ x < hi := fun x hx => HLH.out x (by simp [hx])
  have hl3 : ∀ x ∈ b3, lo ≤ x ∧ x < hi := fun x hx => HLH.out x (by simp [hx])
  have hl4 : ∀ x ∈ b4, lo ≤ x ∧ x < hi := fun x hx => HLH.out x (by simp [hx])
  have L1 := hide hl1; have L2 := hide hl2; have L3 := hide hl3; have L4 := hide hl4; clear hl1 hl2 hl3 hl4
  have G1 := hide g1; have G2 := hide g2; have G3 := hide g3; have G4 := hide g4; clear g1 g2 g3 g4
  go_enter Tryz.func13, Tryz.ntmps13
  go_wp2_with fail
  refine at_world fun V0 hW => ?_
  have z0 : V0.heap.size = w.heap.size + 1 := by rw [hW]; simp
  have k0 : Bk V0 w.heap.size 34 #[.int .i64 p.dead, .slice A0 p.acts.length c0, .slice A1 p.links.length c1, .slice A2 p.res.length c2, .slice A3 p.stocks.length c3] := by rw [hW]; exact Bk.made w _ _
  have B : Below w.heap.size w V0 := by rw [hW]; exact (Below.refl _ _).alloc (Nat.le_refl _) _
  clear hW
  have G1 := hide (OwG.keep_ OwAs.keeps G1.out fun b hb => B.block b (by have := L1.out b hb; omega))
  have G2 := hide (OwG.keep_ OwLs.keeps G2.out fun b hb => B.block b (by have := L2.out b hb; omega))
  have G3 := hide (OwG.keep_ OwRs.keeps G3.out fun b hb => B.block b (by have := L3.out b hb; omega))
  have G4 := hide (RowB.keep G4.out fun b hb => B.block b (by have := L4.out b hb; omega))
  have O := (Only.refl lo hi w).below B (Nat.le_refl _)
  clear B
  refine (markActivityS_blk A0 p.acts c0 b1 (k) V0 (by omega) (by omega) (by omega) G1.out nd1 (fun x hx => by have := L1.out x hx; omega)).mono ?_
  rintro e V1 ⟨rfl, g1, r⟩
  have z1 := r.size
  have k0 : Bk V1 w.heap.size 34 _ := (r.block w.heap.size (by omega) (fun h => by have := L1.out _ h; omega)).trans k0
  have G1 := hide g1; clear g1
  have G2 := hide (OwG.keep_ OwLs.keeps G2.out fun x hb => r.block x (by have := L2.out x hb; omega) (fun h => D1.out x h x (by simp [hb]) rfl))
  have G3 := hide (OwG.keep_ OwRs.keeps G3.out fun x hb => r.block x (by have := L3.out x hb; omega) (fun h => D1.out x h x (by simp [hb]) rfl))
  have G4 := hide (RowB.keep G4.out fun x hb => r.block x (by have := L4.out x hb; omega) (fun h => D1.out x h x (by simp [hb]) rfl))
  have O := O.trans (r.toOnly L1.out); clear r
  have q1 := k0.cell 2
  simp only [List.getElem?_toArray, List.getElem?_cons_succ, List.getElem?_cons_zero] at q1
  go_wp2_with fail
  clear q1
  refine (markLinkS_blk A1 p.links c1 b2 (k + (wtL wtAc p.acts : Int)) V1 (by omega) (by omega) (by omega) G2.out nd2 (fun x hx => by have := L2.out x hx; omega)).mono ?_
  rintro e V2 ⟨rfl, g2, r⟩
  have z2 := r.size
  have k0 : Bk V2 w.heap.size 34 _ := (r.block w.heap.size (by omega) (fun h => by have := L2.out _ h; omega)).trans k0
  have G2 := hide g2; clear g2
  have G1 := hide (OwG.keep_ OwAs.keeps G1.out fun x hb => r.block x (by have := L1.out x hb; omega) (fun h => D1.out x hb x (by simp [h]) rfl))
  have G3 := hide (OwG.keep_ OwRs.keeps G3.out fun x hb => r.block x (by have := L3.out x hb; omega) (fun h => D2.out x h x (by simp [hb]) rfl))
  have G4 := hide (RowB.keep G4.out fun x hb => r.block x (by have := L4.out x hb; omega) (fun h => D2.out x h x (by simp [hb]) rfl))
  have O := O.trans (r.toOnly L2.out); clear r
  have q1 := k0.cell 3
  simp only [List.getElem?_toArray, List.getElem?_cons_succ, List.getElem?_cons_zero] at q1
  go_wp2_with fail
  clear q1
  refine (markResourceS_blk A2 p.res c2 b3 (k + (wtL wtAc p.acts : Int) + (wtL wtLk p.links : Int)) V2 (by omega) HSD.out (by omega) (by omega) G3.out nd3 (fun x hx => by have := L3.out x hx; omega)).mono ?_
  rintro e V3 ⟨rfl, g3, r⟩
  have z3 := r.size
  have k0 : Bk V3 w.heap.size 34 _ := (r.block w.heap.size (by omega) (fun h => by have := L3.out _ h; omega)).trans k0
  have G3 := hide g3; clear g3
  have G1 := hide (OwG.keep_ OwAs.keeps G1.out fun x hb => r.block x (by have := L1.out x hb; omega) (fun h => D1.out x hb x (by simp [h]) rfl))
  have G2 := hide (OwG.keep_ OwLs.keeps G2.out fun x hb => r.block x (by have := L2.out x hb; omega) (fun h => D2.out x hb x (by simp [h]) rfl))
  have G4 := hide (RowB.keep G4.out fun x hb => r.block x (by have := L4.out x hb; omega) (fun h => D3.out x h x hb rfl))
  have O := O.trans (r.toOnly L3.out); clear r
  have q1 := k0.cell 4
  simp only [List.getElem?_toArray, List.getElem?_cons_succ, List.getElem?_cons_zero] at q1
  go_wp2_with fail
  clear q1
  refine (markIntS_blk A3 p.stocks c3 b4 (k + (wtL wtAc p.acts : Int) + (wtL wtLk p.links : Int) + (wtL wtRs p.res : Int)) V3 (by omega) (by omega) (by omega) G4.out (fun x hx => by have := L4.out x hx; omega)).mono ?_
  rintro e V4 ⟨rfl, g4, r⟩
  have z4 := r.size
  have k0 : Bk V4 w.heap.size 34 _ := (r.block w.heap.size (by omega) (fun h => by have := L4.out _ h; omega)).trans k0
  have G4 := hide g4; clear g4
  have G1 := hide (OwG.keep_ OwAs.keeps G1.out fun x hb => r.block x (by have := L1.out x hb; omega) (fun h => D1.out x hb x (by simp [h]) rfl))
  have G2 := hide (OwG.keep_ OwLs.keeps G2.out fun x hb => r.block x (by have := L2.out x hb; omega) (fun h => D2.out x hb x (by simp [h]) rfl))
  have G3 := hide (OwG.keep_ OwRs.keeps G3.out fun x hb => r.block x (by have := L3.out x hb; omega) (fun h => D3.out x hb x h rfl))
  have O := O.trans (r.toOnly L4.out); clear r
  go_wp2
  go_ret
  exact ⟨ret_int (by rw [HZ2.out]; omega), O, OwG.rd_ OwAs.ord G1.out L1.out, OwG.rd_ OwLs.ord G2.out L2.out, OwG.rd_ OwRs.ord G3.out L3.out, (G4.out.own L4.out).rdI⟩
theorem markProjectO_any (p : Pj) (A0 : Option Addr) (c0 : Nat) (A1 : Option Addr) (c1 : Nat) (A2 : Option Addr) (c2 : Nat) (A3 : Option Addr) (c3 lo hi : Nat) (k : Int) (w : World) (hs : szPj p ≤ 2097152) (hk : 1 ≤ k) (hk' : k ≤ 4194304) (h : OwPV w lo hi #[.int .i64 p.dead, .slice A0 p.acts.length c0, .slice A1 p.links.length c1, .slice A2 p.res.length c2, .slice A3 p.stocks.length c3] p) (hhi : hi ≤ w.heap.size) :
    Calls Tryz.prog 13 #[.agg #[.int .i64 p.dead, .slice A0 p.acts.length c0, .slice A1 p.links.length c1, .slice A2 p.res.length c2, .slice A3 p.stocks.length c3], .int .i64 k] w fun e w' => e = .returned (.int .i64 (k + (wtPj p : Int))) ∧ Only lo hi w w' :=
  (markProject_any p A0 A1 A2 A3 c0 c1 c2 c3 lo hi k w hs hk hk' h hhi).mono fun _ _ hh => ⟨hh.1, hh.2.1⟩
set_option maxHeartbeats 3200000 in
theorem heldProject_any (p : Pj) (A0 A1 A2 A3 : Option Addr) (c0 c1 c2 c3 lo hi : Nat) (k : Int) (w : World) (hs : szPj p ≤ 2097152) (hk : 1 ≤ k) (hk' : k ≤ 4194304) (f0 : RdAs w lo hi A0 (mkPj k p).acts) (f1 : RdLs w lo hi A1 (mkPj k p).links) (f2 : RdRs w lo hi A2 (mkPj k p).res) (f3 : RdI w lo hi A3 (mkPj k p).stocks) (hhi : hi ≤ w.heap.size) :
    Calls Tryz.prog 14 #[.agg #[.int .i64 p.dead, .slice A0 p.acts.length c0, .slice A1 p.links.length c1, .slice A2 p.res.length c2, .slice A3 p.stocks.length c3], .int .i64 k] w fun e w' => e = .returned (.int .i64 (k + (wtPj p : Int))) ∧ Below w.heap.size w w' := by
  have HZ := hide (wtPj_sz p)
  have HZ2 : Hid ((wtPj p : Int) = (wtL wtAc p.acts : Int) + ((wtL wtLk p.links : Int) + ((wtL wtRs p.res : Int) + (p.stocks.length : Int)))) := hide (by unfold wtPj; push_cast; rfl)
  have hb0 : (wtL wtAc p.acts : Int) + ((wtL wtLk p.links : Int) + ((wtL wtRs p.res : Int) + (p.stocks.length : Int))) ≤ 8388608 := by have := HZ.out; have := HZ2.out; omega
  have n0 : (0 : Int) ≤ (wtL wtAc p.acts : Int) := by omega
  have n1 : (0 : Int) ≤ (wtL wtLk p.links : Int) := by omega
  have n2 : (0 : Int) ≤ (wtL wtRs p.res : Int) := by omega
  have m0 : p.acts.length ≤ 16777216 ∧ p.links.length ≤ 16777216 ∧ p.res.length ≤ 16777216 ∧ p.stocks.length ≤ 16777216 := by (have e : szPj p = szL szAc p.acts + (p.links.length + (szL szRs p.res + p.stocks.length)) := rfl); (have := szL_len szAc p.acts); (have := szL_len szRs p.res); omega
  have hsd : ∀ i, (p.res.getD i rs0).setup.length ≤ 16777216 := fun i => by (have e : szPj p = szL szAc p.acts + (p.links.length + (szL szRs p.res + p.stocks.length)) := rfl); have := setup_sz p.res i; omega
  obtain ⟨m0, m1, m2, m3⟩ := m0
  have HSD := hide hsd; clear hsd
  have hh := hhi
  go_enter Tryz.func14, Tryz.ntmps14
  go_wp2_with fail
  refine at_world fun V0 hW => ?_
  have z0 : V0.heap.size = w.heap.size + 1 := by rw [hW]; simp
  have k0 : Bk V0 w.heap.size 34 #[.int .i64 p.dead, .slice A0 p.acts.length c0, .slice A1 p.links.length c1, .slice A2 p.res.length c2, .slice A3 p.stocks.length c3] := by rw [hW]; exact Bk.made w _ _
  have B : Below w.heap.size w V0 := by rw [hW]; exact (Below.refl _ _).alloc (Nat.le_refl _) _
  clear hW
  have f0 := f0.below B hhi
  have f1 := f1.below B hhi
  have f2 := f2.below B hhi
  have f3 := f3.below B hhi
  refine (heldActivityS_any A0 p.acts c0 lo hi (k) V0 (by omega) (by omega) (by omega) f0 (by omega)).mono ?_
  rintro e V1 ⟨rfl, r⟩
  have z1 := r.size
  have k0 := k0.below r (by omega)
  have f1 := f1.below r (by omega)
  have f2 := f2.below r (by omega)
  have f3 := f3.below r (by omega)
  have B := B.trans (r.mono (by omega)); clear r
  have hp0 : ¬ (k + (wtL wtAc p.acts : Int) < 0) := by omega
  have q1 := k0.cell 2
  simp only [List.getElem?_toArray, List.getElem?_cons_succ, List.getElem?_cons_zero] at q1
  go_wp2_with fail
  clear q1
  refine (heldLinkS_any A1 p.links c1 lo hi (k + (wtL wtAc p.acts : Int)) V1 (by omega) (by omega) (by omega) f1 (by omega)).mono ?_
  rintro e V2 ⟨rfl, r⟩
  have z2 := r.size
  have k0 := k0.below r (by omega)
  have f2 := f2.below r (by omega)
  have f3 := f3.below r (by omega)
  have B := B.trans (r.mono (by omega)); clear r
  have hp1 : ¬ (k + (wtL wtAc p.acts : Int) + (wtL wtLk p.links : Int) < 0) := by omega
  have q1 := k0.cell 3
  simp only [List.getElem?_toArray, List.getElem?_cons_succ, List.getElem?_cons_zero] at q1
  go_wp2_with fail
  clear q1
  refine (heldResourceS_any A2 p.res c2 lo hi (k + (wtL wtAc p.acts : Int) + (wtL wtLk p.links : Int)) V2 (by omega) HSD.out (by omega) (by omega) f2 (by omega)).mono ?_
  rintro e V3 ⟨rfl, r⟩
  have z3 := r.size
  have k0 := k0.below r (by omega)
  have f3 := f3.below r (by omega)
  have B := B.trans (r.mono (by omega)); clear r
  have hp2 : ¬ (k + (wtL wtAc p.acts : Int) + (wtL wtLk p.links : Int) + (wtL wtRs p.res : Int) < 0) := by omega
  have q1 := k0.cell 4
  simp only [List.getElem?_toArray, List.getElem?_cons_succ, List.getElem?_cons_zero] at q1
  go_wp2_with fail
  clear q1
  refine (heldIntS_any A3 p.stocks.length c3 lo hi (k + (wtL wtAc p.acts : Int) + (wtL wtLk p.links : Int) + (wtL wtRs p.res : Int)) V3 (by omega) (by omega) (by omega) f3).mono ?_
  rintro e V4 ⟨rfl, r⟩
  have r := Qt.below (Below.refl V3.heap.size _) r
  have z4 := r.size
  have k0 := k0.below r (by omega)
  have B := B.trans (r.mono (by omega)); clear r
  have hp3 : ¬ (k + (wtL wtAc p.acts : Int) + (wtL wtLk p.links : Int) + (wtL wtRs p.res : Int) + (p.stocks.length : Int) < 0) := by omega
  go_wp2
  go_ret
  exact ⟨ret_int (by rw [HZ2.out]; omega), B⟩
end Go.Proofs.YtcecgbjolngdbaaGreatDoor
