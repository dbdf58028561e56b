/- Marks of modes, activities, resources, links, projects that the call owns: how far they count, what stands there afterwards; and that marks are held. -/
import Derived.Test.YtjmdlobhbabbcaaDoorKitMk
import Derived.Test.YtjmdlobhbabbcaaDoorKitIn
import Derived.Test.YtjmdlobhbabbcaaDoorLawSt
import Derived.Test.YtjmdlobhbabbcaaDoorLawS
import Derived.Deep.RegionHeld3
namespace Go.Proofs.YtjmdlobhbabbcaaDoor
open Go.ChangeShapes Go.WideShapes Go.ChangeAt Go.RowKit
set_option linter.unusedVariables false
set_option linter.unusedSimpArgs false

/-! ## The mathematics of marks -/
def wtL {α : Type} (wt : α → Nat) (l : List α) : Nat := (l.map wt).sum
def mkL {α : Type} (wt : α → Nat) (f : Int → α → α) : Int → List α → List α
  | _, [] => []
  | k, a :: l => f k a :: mkL wt f (k + (wt a : Int)) l
section
variable {α : Type} (wt : α → Nat) (f : Int → α → α) (d : α) (k : Int)
theorem wtL_app (a b : List α) : wtL wt (a ++ b) = wtL wt a + wtL wt b := by simp [wtL]
theorem wtL_succ {l : List α} {j : Nat} (h : j < l.length) : wtL wt (l.take (j + 1)) = wtL wt (l.take j) + wt (l.getD j d) := by
  rw [take_snoc d h, wtL_app]; simp [wtL]
theorem wtL_le (l : List α) (j : Nat) : wtL wt (l.take j) ≤ wtL wt l := by
  conv => rhs; rw [← List.take_append_drop j l, wtL_app]
  omega
theorem mkL_len (l : List α) : ∀ k, (mkL wt f k l).length = l.length := by
  induction l with
  | nil => intro k; rfl
  | cons a l ih => intro k; rw [mkL, List.length_cons, List.length_cons, ih]
theorem mkL_app (a b : List α) : ∀ k, mkL wt f k (a ++ b) = mkL wt f k a ++ mkL wt f (k + (wtL wt a : Int)) b := by
  induction a with
  | nil => intro k; simp [mkL, wtL]
  | cons x a ih =>
    intro k
    rw [List.cons_append, mkL, mkL, ih, List.cons_append]
    congr 3
    simp [wtL]; omega
theorem mkL_getD {l : List α} {j : Nat} (h : j < l.length) : (mkL wt f k l).getD j d = f (k + (wtL wt (l.take j) : Int)) (l.getD j d) := by
  have e : l = l.take j ++ (l.getD j d :: l.drop (j + 1)) := by
    rw [getD_get d h, ← List.drop_eq_getElem_cons h, List.take_append_drop]
  have hl : (mkL wt f k (l.take j)).length = j := by rw [mkL_len, List.length_take]; omega
  conv => lhs; rw [e, mkL_app, mkL]
  rw [List.getD_eq_getElem?_getD, List.getElem?_append_right (by omega), hl, Nat.sub_self]
  rfl
/-- The first j elements are marked. -/
def mkTo (l : List α) (j : Nat) : List α := mkL wt f k (l.take j) ++ l.drop j
theorem mkTo_zero (l : List α) : mkTo wt f k l 0 = l := by simp [mkTo, mkL]
theorem mkTo_all (l : List α) : mkTo wt f k l l.length = mkL wt f k l := by simp [mkTo]
theorem mkTo_len (l : List α) (j : Nat) : (mkTo wt f k l j).length = l.length := by
  unfold mkTo; rw [List.length_append, mkL_len, List.length_take, List.length_drop]; omega
theorem mkTo_getD {l : List α} {j : Nat} (h : j < l.length) : (mkTo wt f k l j).getD j d = l.getD j d := by
  have hl : (mkL wt f k (l.take j)).length = j := by rw [mkL_len, List.length_take]; omega
  unfold mkTo
  rw [List.getD_eq_getElem?_getD, List.getElem?_append_right (by omega), hl, Nat.sub_self, List.getElem?_drop, Nat.add_zero, List.getD_eq_getElem?_getD]
theorem mkTo_set {l : List α} {j : Nat} (h : j < l.length) : (mkTo wt f k l j).set j (f (k + (wtL wt (l.take j) : Int)) (l.getD j d)) = mkTo wt f k l (j + 1) := by
  have hl : (mkL wt f k (l.take j)).length = j := by rw [mkL_len, List.length_take]; omega
  unfold mkTo
  rw [List.set_append_right _ _ (by omega), hl, Nat.sub_self, List.drop_eq_getElem_cons h, List.set_cons_zero, take_snoc d h, mkL_app, List.append_assoc]
  rfl
end
def mk3 (k : Int) : Bool := k % 3 == 0
def wtMd (m : Md) : Nat := 1 + m.use.length + m.con.length
def mkMd (k : Int) (m : Md) : Md := ⟨k, marks (k + 1) m.use.length, marks (k + 1 + m.use.length) m.con.length⟩
def wtII (r : List Int) : Nat := r.length
def mkII (k : Int) (r : List Int) : List Int := marks k r.length
def wtAc (a : Ac) : Nat := 2 + wtL wtMd a.modes
def mkAc (k : Int) (a : Ac) : Ac := ⟨markTxt k.toNat, k + 1, mkL wtMd mkMd (k + 1 + 1) a.modes⟩
def wtRs (r : Rs) : Nat := 2 * r.steps.length + wtL wtII r.setup
def mkRs (k : Int) (r : Rs) : Rs := ⟨markSt k r.steps.length, mkL wtII mkII (k + 2 * r.steps.length) r.setup⟩
def wtLk (_ : Lk) : Nat := 4
def mkLk (k : Int) (_ : Lk) : Lk := ⟨k, k + 1, mk3 (k + 1 + 1), k + 1 + 1 + 1⟩
def wtPj (p : Pj) : Nat := wtL wtAc p.acts + (wtL wtLk p.links + (wtL wtRs p.res + p.stocks.length))
theorem wtL_len {α : Type} {wt : α → Nat} (c : Nat) (l : List α) (h : ∀ a, c ≤ wt a) : c * l.length ≤ wtL wt l := by
  induction l with
  | nil => simp
  | cons a l ih => have := h a; simp only [wtL, List.map_cons, List.sum_cons, List.length_cons] at *; rw [Nat.mul_succ]; omega
theorem wtL_md (l : List Md) : l.length ≤ wtL wtMd l := by have := wtL_len 1 l (fun a => (by unfold wtMd; omega : 1 ≤ wtMd a)); omega
/-- What counts is bounded by what is owned. -/
theorem wtL_sz {α : Type} {wt sz : α → Nat} (c e : Nat) (h : ∀ a, wt a ≤ c + e * sz a) (l : List α) : wtL wt l ≤ c * l.length + e * (l.map sz).sum := by
  induction l with
  | nil => simp [wtL]
  | cons a l ih =>
    have := h a
    simp only [wtL, List.map_cons, List.sum_cons, List.length_cons] at *
    rw [Nat.mul_succ, Nat.mul_add]
    omega
theorem wtMd_sz (l : List Md) : wtL wtMd l ≤ szL szMd l := by
  have := wtL_sz (wt := wtMd) (sz := szMd) 1 1 (fun a => by unfold wtMd szMd; omega) l
  unfold szL; omega
theorem wtII_sz (l : List (List Int)) : wtL wtII l ≤ szL List.length l := by
  have := wtL_sz (wt := wtII) (sz := List.length) 0 1 (fun a => by unfold wtII; omega) l
  unfold szL; omega
theorem wtAc_sz (l : List Ac) : wtL wtAc l ≤ 2 * szL szAc l := by
  have := wtL_sz (wt := wtAc) (sz := szAc) 2 1 (fun a => by have := wtMd_sz a.modes; unfold wtAc szAc; omega) l
  unfold szL; omega
theorem wtRs_sz (l : List Rs) : wtL wtRs l ≤ 2 * szL szRs l := by
  have := wtL_sz (wt := wtRs) (sz := szRs) 0 2 (fun a => by have := wtII_sz a.setup; unfold wtRs szRs; omega) l
  unfold szL; omega
theorem wtLk_len (l : List Lk) : wtL wtLk l = 4 * l.length := by
  induction l with
  | nil => rfl
  | cons a l ih => simp only [wtL, List.map_cons, List.sum_cons, List.length_cons, wtLk] at *; omega
theorem wtPj_sz (p : Pj) : wtPj p ≤ 4 * szPj p := by
  have := wtAc_sz p.acts; have := wtRs_sz p.res; have := wtLk_len p.links
  unfold wtPj szPj; omega
theorem setup_sz (l : List Rs) (i : Nat) : (l.getD i rs0).setup.length ≤ szL szRs l := by
  by_cases h : i < l.length
  · have h1 := szL_at szRs rs0 h
    have h2 := szL_len List.length (l.getD i rs0).setup
    have h3 : szRs (l.getD i rs0) = (l.getD i rs0).steps.length + szL List.length (l.getD i rs0).setup := rfl
    omega
  · rw [List.getD_eq_getElem?_getD, List.getElem?_eq_none (by omega)]; simp [rs0]

theorem markIntS_blk (A : Option Addr) (l : List Int) (c : Nat) (bs : List Nat) (k : Int) (w : World) (hn : l.length ≤ 16777216) (hk : 0 ≤ k) (hk' : k ≤ 16777216) (h : RowB w 3 1 A l.length c (l.map (.int .i64)) bs) (hlt : ∀ b ∈ bs, b < w.heap.size) :
    Calls Tryd.prog 33 #[.slice A l.length c, .int .i64 k] w fun e w' => e = .returned (.int .i64 (k + (l.length : Int))) ∧ RowB w' 3 1 A l.length c ((marks k l.length).map (.int .i64)) bs ∧ OnlyIn bs w w' := by
  obtain ⟨lo, hi, hO, h1, h2⟩ := h.tight
  refine (markIntS_any A l.length c lo hi k l w hn hk hk' hO (h2 _ hlt)).mono ?_
  rintro e w' ⟨rfl, hO', hN⟩
  exact ⟨rfl, ⟨⟨lo, hi, hO'⟩, h.2⟩, (OnlyIn.refl bs w).only hN h1⟩
theorem markStepS_blk (A : Option Addr) (l : List (Int × Int)) (c : Nat) (bs : List Nat) (k : Int) (w : World) (hn : l.length ≤ 16777216) (hk : 0 ≤ k) (hk' : k ≤ 16777216) (h : RowB w 72 2 A l.length c (flatSt l) bs) (hlt : ∀ b ∈ bs, b < w.heap.size) :
    Calls Tryd.prog 41 #[.slice A l.length c, .int .i64 k] w fun e w' => e = .returned (.int .i64 (k + 2 * (l.length : Int))) ∧ RowB w' 72 2 A l.length c (flatSt (markSt k l.length)) bs ∧ OnlyIn bs w w' := by
  obtain ⟨lo, hi, hO, h1, h2⟩ := h.tight
  refine (markStepS_any A l.length c lo hi k l w hn hk hk' hO (h2 _ hlt)).mono ?_
  rintro e w' ⟨rfl, hO', hN⟩
  exact ⟨rfl, ⟨⟨lo, hi, hO'⟩, h.2⟩, (OnlyIn.refl bs w).only hN h1⟩
theorem OwV.only_ {α : Type} {O : Owns α} (K : OKeeps O) {w w' : World} {lo hi lo' hi' : Nat} {v : Array Value} {a : α} (h : OwV O w lo hi v a) (hb : Only lo' hi' w w') (hs : hi ≤ w.heap.size) (hd : hi ≤ lo' ∨ hi' ≤ lo) : OwV O w' lo hi v a := by
  obtain ⟨bs, h1, h2⟩ := h
  exact ⟨bs, K _ _ _ _ _ (fun k hk => by have := h2.2 k hk; exact hb.block k (by omega) (by omega)) h1, h2⟩
def OwMV (w : World) (lo hi : Nat) (v : Array Value) (m : Md) : Prop := OwV OwM w lo hi v m
theorem OwMV.only {w w' : World} {lo hi lo' hi' : Nat} {v : Array Value} {m : Md} (h : OwMV w lo hi v m) (hb : Only lo' hi' w w') (hs : hi ≤ w.heap.size) (hd : hi ≤ lo' ∨ hi' ≤ lo) : OwMV w' lo hi v m := OwV.only_ OwMs.keeps h hb hs hd
set_option maxHeartbeats 1600000 in
theorem markMode_any (m : Md) (U C : Option Addr) (cu cc lo hi : Nat) (k : Int) (w : World) (hs : szMd m ≤ 4194304) (hk : 1 ≤ k) (hk' : k ≤ 4194304) (h : OwV OwM w lo hi #[.int .i64 m.dur, .slice U m.use.length cu, .slice C m.con.length cc] m) (hhi : hi ≤ w.heap.size) :
    Calls Tryd.prog 37 #[.agg #[.int .i64 m.dur, .slice U m.use.length cu, .slice C m.con.length cc], .int .i64 k] w fun e w' => e = .returned (.int .i64 (k + (szMd m : Int))) ∧ Only lo hi w w' ∧ RdI w' lo hi U (marks k m.use.length) ∧ RdI w' lo hi C (marks (k + (m.use.length : Int)) m.con.length) := by
  obtain ⟨bs, ⟨U', cu', C', cc', b1, b2, e, g1, g2, rfl⟩, hnd, hlh⟩ := h
  simp only [Array.mk.injEq, List.cons.injEq, Value.slice.injEq, and_true, true_and] at e
  obtain ⟨⟨rfl, rfl⟩, rfl, rfl⟩ := e
  have HZ : Hid ((szMd m : Int) = (m.use.length : Int) + (m.con.length : Int)) := hide (by unfold szMd; push_cast; rfl)
  have hb0 : (m.use.length : Int) + (m.con.length : Int) ≤ 4194304 := by have := HZ.out; omega
  obtain ⟨nd1, nd2, d1⟩ := List.nodup_append.1 hnd
  have D1 := hide d1; clear d1
  have L1 : Hid (∀ x ∈ b1, lo ≤ x ∧ x < hi) := hide fun x hx => hlh x (by simp [hx])
  have L2 : Hid (∀ x ∈ b2, lo ≤ x ∧ x < hi) := hide fun x hx => hlh x (by simp [hx])
  clear hlh hnd
  have G1 := hide g1; have G2 := hide g2; clear g1 g2
  go_enter Tryd.func37, Tryd.ntmps37
  go_wp2_with fail
  refine at_world fun V0 hW => ?_
  have z0 : V0.heap.size = w.heap.size + 1 := by rw [hW]; simp
  have k0 : Bk V0 w.heap.size 40 #[.int .i64 m.dur, .slice U m.use.length cu, .slice C m.con.length cc] := by rw [hW]; exact Bk.made w _ _
  have B : Below w.heap.size w V0 := by rw [hW]; exact (Below.refl _ _).alloc (Nat.le_refl _) _
  clear hW
  have G1 := hide (RowB.keep G1.out fun b hb => B.block b (by have := L1.out b hb; omega))
  have G2 := hide (RowB.keep G2.out fun b hb => B.block b (by have := L2.out b hb; omega))
  have O := (Only.refl lo hi w).below B (Nat.le_refl _)
  clear B
  refine (markIntS_blk U m.use cu b1 k V0 (by omega) (by omega) (by omega) G1.out (fun x hx => by have := L1.out x hx; omega)).mono ?_
  rintro e V1 ⟨rfl, g1, r⟩
  have z1 := r.size
  have k0 : Bk V1 w.heap.size 40 _ := (r.block w.heap.size (by omega) (fun h => by have := L1.out _ h; omega)).trans k0
  have G1 := hide g1; clear g1
  have G2 := hide (RowB.keep G2.out fun x hb => r.block x (by have := L2.out x hb; omega) (fun h => D1.out x h x hb rfl))
  have O := O.trans (r.toOnly L1.out); clear r
  have q1 := k0.cell 2
  simp only [List.getElem?_toArray, List.getElem?_cons_succ, List.getElem?_cons_zero] at q1
  go_wp2_with fail
  clear q1
  refine (markIntS_blk C m.con cc b2 (k + (m.use.length : Int)) V1 (by omega) (by omega) (by omega) G2.out (fun x hx => by have := L2.out x hx; omega)).mono ?_
  rintro e V2 ⟨rfl, g2, r⟩
  have z2 := r.size
  have G2 := hide g2; clear g2
  have G1 := hide (RowB.keep G1.out fun x hb => r.block x (by have := L1.out x hb; omega) (fun h => D1.out x hb x h rfl))
  have O := O.trans (r.toOnly L2.out); clear r
  go_wp2
  go_ret
  exact ⟨ret_int (by rw [HZ.out]; omega), O, (G1.out.own L1.out).rdI, (G2.out.own L2.out).rdI⟩
set_option maxHeartbeats 1600000 in
theorem heldMode_any (m : Md) (U C : Option Addr) (cu cc lo hi : Nat) (k : Int) (w : World) (hs : szMd m ≤ 4194304) (hk : 1 ≤ k) (hk' : k ≤ 4194304) (f0 : RdI w lo hi U (marks k m.use.length)) (f1 : RdI w lo hi C (marks (k + (m.use.length : Int)) m.con.length)) (hhi : hi ≤ w.heap.size) :
    Calls Tryd.prog 38 #[.agg #[.int .i64 m.dur, .slice U m.use.length cu, .slice C m.con.length cc], .int .i64 k] w fun e w' => e = .returned (.int .i64 (k + (szMd m : Int))) ∧ Below w.heap.size w w' := by
  have HZ : Hid ((szMd m : Int) = (m.use.length : Int) + (m.con.length : Int)) := hide (by unfold szMd; push_cast; rfl)
  have hb0 : (m.use.length : Int) + (m.con.length : Int) ≤ 4194304 := by have := HZ.out; omega
  go_enter Tryd.func38, Tryd.ntmps38
  go_wp2_with fail
  refine at_world fun V0 hW => ?_
  have z0 : V0.heap.size = w.heap.size + 1 := by rw [hW]; simp
  have k0 : Bk V0 w.heap.size 40 #[.int .i64 m.dur, .slice U m.use.length cu, .slice C m.con.length cc] := by rw [hW]; exact Bk.made w _ _
  have B : Below w.heap.size w V0 := by rw [hW]; exact (Below.refl _ _).alloc (Nat.le_refl _) _
  clear hW
  have f0 := f0.below B hhi
  have f1 := f1.below B hhi
  refine (heldIntS_any U m.use.length cu lo hi k V0 (by omega) (by omega) (by omega) f0).mono ?_
  rintro e V1 ⟨rfl, r⟩
  have r := Qt.below (Below.refl V0.heap.size _) r
  have z1 := r.size
  have k0 := k0.below r (by omega)
  have f1 := f1.below r (by omega)
  have B := B.trans (r.mono (by omega)); clear r
  have q1 := k0.cell 2
  simp only [List.getElem?_toArray, List.getElem?_cons_succ, List.getElem?_cons_zero] at q1
  have hp0 : ¬ (k + (m.use.length : Int) < 0) := by omega
  go_wp2_with fail
  clear q1
  refine (heldIntS_any C m.con.length cc lo hi (k + (m.use.length : Int)) V1 (by omega) (by omega) (by omega) f1).mono ?_
  rintro e V2 ⟨rfl, r⟩
  have r := Qt.below (Below.refl V1.heap.size _) r
  have B := B.trans (r.mono (by omega)); clear r
  have hp1 : ¬ (k + (m.use.length : Int) + (m.con.length : Int) < 0) := by omega
  go_wp2
  go_ret
  exact ⟨ret_int (by rw [HZ.out]; omega), B⟩
end Go.Proofs.YtjmdlobhbabbcaaDoor
