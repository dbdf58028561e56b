/- Activities are drawn. -/
import Derived.Test.YtcecgbjolngdbaaGreatDoorCur
import Derived.Test.YtcecgbjolngdbaaGreatDoorDraw1
import Derived.Test.YtcecgbjolngdbaaGreatDoorKitPv
import Derived.Test.YtcecgbjolngdbaaGreatDoorPlainAs
import Derived.Test.YtcecgbjolngdbaaGreatDoorLawAc
import Derived.Test.YtcecgbjolngdbaaGreatDoorFmt5
import Derived.Deep.RegionLaw
import Derived.Deep.DrawnRows
namespace Go.Proofs.YtcecgbjolngdbaaGreatDoor
open Go.ChangeShapes Go.WideShapes Go.ChangeAt Go.RowKit
set_option linter.unusedVariables false
set_option linter.unusedSimpArgs false
attribute [local go_sem ↓] Go.wp_at_zero Go.wp_at_succ

/-- The length of the slice that lies in a cell. -/
def lenAt (w : World) (g i : Nat) : Nat := match w.cell? ⟨g, i, none⟩ with | some (.slice _ n _) => n | _ => 0
theorem lenAt_of {w : World} {g i : Nat} {A : Option Addr} {n c : Nat} (h : w.cell? ⟨g, i, none⟩ = some (.slice A n c)) : lenAt w g i = n := by unfold lenAt; rw [h]
theorem only_new {lo hi : Nat} {a w : World} (h : Only lo hi a w) {p : Addr} (hp : a.heap.size ≤ p.block) (u : Value) : Only lo hi a (w.setCell p u) :=
  ⟨h.os, h.tape, h.output, by rw [set_size]; exact h.size, fun k hk hn => (Below.heap_setCell w p u k (by rintro rfl; omega)).trans (h.block k hk hn)⟩
theorem CurN.set {w : World} {g : Nat} {A : Option Addr} {n c : Nat} (h : CurN w g A n c) {p : Addr} (hp : g ≠ p.block) (u : Value) : CurN (w.setCell p u) g A n c := h.keep (Below.heap_setCell w p u g hp)
theorem CurN.qt {w : World} {g : Nat} {A : Option Addr} {n c : Nat} (h : CurN w g A n c) (d : Nat) : CurN (w.drewN d) g A n c := h
theorem RdB.keep {w w' : World} {lo hi : Nat} {A : Option Addr} {n : Nat} (h : RdB w lo hi A n) (hk : ∀ k, lo ≤ k → k < hi → w'.heap[k]? = w.heap[k]?) : RdB w' lo hi A n := fun h0 => by
  obtain ⟨b, off, e, h1, h2, hc⟩ := h h0
  refine ⟨b, off, e, h1, h2, fun j hj => ?_⟩
  obtain ⟨x, x0, x1, hx⟩ := hc j hj
  exact ⟨x, x0, x1, (World.cell?_of_block (a := ⟨b, off + j, none⟩) (hk b h1 h2)).trans hx⟩
theorem RdB.alloc {w : World} {lo hi : Nat} {A : Option Addr} {n : Nat} (h : RdB w lo hi A n) (hs : hi ≤ w.heap.size) (o : Obj) : RdB (w.alloc o) lo hi A n := h.keep fun k _ hk => Below.heap_alloc w o k (by omega)
theorem RdB.qt {w : World} {lo hi : Nat} {A : Option Addr} {n : Nat} (h : RdB w lo hi A n) (d : Nat) : RdB (w.drewN d) lo hi A n := h.keep fun _ _ _ => rfl
theorem mem_snoc {p : Int → Prop} {l : List Int} {x : Int} (h : ∀ y ∈ l, p y) (hx : p x) : ∀ y ∈ l ++ [x], p y := fun y hy => by
  rcases List.mem_append.1 hy with hy | hy
  · exact h y hy
  · simp only [List.mem_singleton] at hy; subst hy; exact hx
theorem three_new3 (w : World) (x y z : Value) (t : TypeId) : ∀ j u, [x, y, z][j]? = some u → (w.alloc (.cells #[x, y, z] t)).cell? ⟨w.heap.size, 0 + j, none⟩ = some u := three_new w x y z t
theorem keep4 {g gm : Nat} {a w2 w3 : World} {bs : List Nat} {o : Obj} {u : Value} {i q : Nat} (h2 : Only g (g + 1) a w2) (h3 : OnlyIn bs (w2.alloc o) w3) (hq : q < a.heap.size) (hg : q ≠ g) (hm : q ≠ gm) (hb : q ∉ bs) : (w3.setCell ⟨gm, i, none⟩ u).heap[q]? = a.heap[q]? :=
  (Below.heap_setCell w3 _ u q hm).trans ((h3.block q (by have := h2.size; simp; omega) hb).trans ((Below.heap_alloc w2 o q (by have := h2.size; omega)).trans (h2.block q hq (by omega))))
set_option maxHeartbeats 3200000 in
theorem l04Name_any (g : Nat) (i : Nat) (hi : i ≤ 5) (w : World) :
    Calls Tryz.prog 164 #[.pointer (some ⟨g, 0, none⟩), .int .i64 i] w fun e w' => ∃ nm, e = .returned (.string nm) ∧ isNm nm = true ∧ Below w.heap.size w w' := by
  have hcs : i = 0 ∨ i = 1 ∨ i = 2 ∨ i = 3 ∨ i = 4 ∨ i = 5 := by omega
  rcases hcs with rfl | rfl | rfl | rfl | rfl | rfl
  all_goals
    go_enter Tryz.func164, Tryz.ntmps164
    go_wp2
    go_ret
    exact ⟨_, rfl, by decide +kernel, (Below.refl _ _).alloc (Nat.le_refl _) _⟩
set_option maxRecDepth 20000 in
set_option maxHeartbeats 6400000 in
theorem l04Draw_any (g : Nat) (A : Option Addr) (n c : Nat) (i r s : Nat) (hi5 : i ≤ 5) (hr : r ≤ 2) (hs : s ≤ 1) (lo hi : Nat) (w : World) (hn : n ≤ 16777216) (hC : CurN w g A n c) (hA : RdB w lo hi A n) (hd : hi ≤ g) :
    Calls Tryz.prog 133 #[.pointer (some ⟨g, 0, none⟩), .int .i64 i, .int .i64 r, .int .i64 s] w fun e w' => ∃ (a : Ac) (M : Option Addr) (cm : Nat) (bs : List Nat), e = .returned (.agg #[.string a.name, .int .i64 a.fam, .slice M a.modes.length cm]) ∧ acOkB a r s = true ∧ a.modes.length ≤ 2 ∧ OwA w' #[.string a.name, .int .i64 a.fam, .slice M a.modes.length cm] a bs ∧ Nd bs w.heap.size w'.heap.size ∧ CurN w' g A n c ∧ Only g (g + 1) w w' := by
  have hg := hC.lt
  go_enter Tryz.func133, Tryz.ntmps133
  go_wp2_with fail
  refine at_world fun V0 hW => ?_
  have z0 : V0.heap.size = w.heap.size + 1 := by rw [hW]; simp
  have k0 : Bk V0 w.heap.size 46 #[.string ⟨#[]⟩, .int .i64 0, .slice none 0 0] := by rw [hW]; exact Bk.made w _ _
  have hO : Only g (g + 1) w V0 := by rw [hW]; exact (Only.refl _ _ _).alloc _
  have hC0 : CurN V0 g A n c := by rw [hW]; exact hC.alloc _
  have hA0 : RdB V0 lo hi A n := by rw [hW]; exact hA.alloc (by omega) _
  clear hW hC
  refine (l04Name_any g i hi5 V0).mono ?_
  rintro e V1 ⟨nm, rfl, hnm, r1⟩
  have z1 := r1.size
  have k0 := k0.below r1 (by omega)
  have hO := hO.trans ((Only.refl g (g + 1) V0).below r1 (Nat.le_refl _))
  have hC1 := hC0.below r1 (by omega)
  have hA1 := hA0.below r1 (by omega)
  have HNM := hide hnm
  clear hC0 hA0 r1 hnm
  go_wp2_with fail
  refine (l01BelowN_any g A n c 2 lo hi V1 hn hC1 hA1 hd (by omega)).mono ?_
  rintro e V2 ⟨fam, rfl, hf0, hf1, _, hC2, hO2⟩
  have hf1 := hf1 (by decide)
  have z2 := hO2.size
  have k0 := k0.only hO2 (by omega)
  have hA2 := hA1.only hO2 (by omega) (by omega)
  have hO := hO.trans hO2
  clear hC1 hA1 hO2
  go_wp2_with fail
  refine at_world fun V3 hW => ?_
  have z3 : V3.heap.size = V2.heap.size + 1 := by rw [hW]; simp
  have k1 : Bk V3 V2.heap.size 46 #[.string nm, .int .i64 fam, .slice none 0 0] := by rw [hW]; exact Bk.made V2 _ _
  have k0 : Bk V3 w.heap.size 46 #[.string ⟨#[]⟩, .int .i64 0, .slice none 0 0] := by rw [hW]; exact k0.alloc _
  have hO : Only g (g + 1) w V3 := by rw [hW]; exact hO.alloc _
  have hC3 : CurN V3 g A n c := by rw [hW]; exact hC2.alloc _
  have hA3 : RdB V3 lo hi A n := by rw [hW]; exact hA2.alloc (by omega) _
  clear hW hC2 hA2
  obtain ⟨ga, hga⟩ : ∃ ga, ga = V2.heap.size := ⟨_, rfl⟩
  rw [← hga] at k1 z3 ⊢
  have hgw : w.heap.size < ga := by omega
  refine (l01BelowN_any g A n c 4 lo hi V3 hn hC3 hA3 hd (by omega)).mono ?_
  rintro e V4 ⟨k2, rfl, hj0, hj1, _, hC4, hO4⟩
  have hj1 := hj1 (by decide)
  have z4 := hO4.size
  have k0 := k0.only hO4 (by omega)
  have k1 := k1.only hO4 (by omega)
  have hO := hO.trans hO4
  obtain ⟨kk, rfl⟩ : ∃ k : Nat, k2 = k := ⟨k2.toNat, by omega⟩
  have K0 := hide k0; have K1 := hide k1; have HO0 := hide hO
  clear hC3 hA3 hO4 k0 k1 hO
  have hAw : Hid (∀ W, Only g (g + 1) w W → RdB W lo hi A n) := hide fun W hW => hA.only hW (by omega) (by omega)
  clear hA hga z0 z1 z2
  go_wp2
  go_loopw [10] (fun v wr => ∃ (k : Nat) (l : List Md) (M : Option Addr) (cm : Nat) (bM : List Nat), 1 ≤ l.length + k ∧ l.length + k ≤ 2 ∧ v = .int .i64 k ∧ Hid (∀ m ∈ l, mdOkB m r s = true) ∧ Bk wr ga 46 #[.string nm, .int .i64 fam, .slice M l.length cm] ∧ Hid (Bk wr w.heap.size 46 #[.string ⟨#[]⟩, .int .i64 0, .slice none 0 0]) ∧ Hid (OwG 3 53 OwM md0 wr M cm l bM ∧ Nd bM (ga + 1) wr.heap.size) ∧ CurN wr g A n c ∧ Only g (g + 1) w wr) (fun v _ => (intOf v).toNat)
  case atStart => exact ⟨1 + kk / 2, [], none, 0, [], by simp, by simp; omega, val_int (by omega), hide (fun m hm => by cases hm), K1.out, K0, hide ⟨OwG.nil_ _ _ _ _ _, Nd.nil _ _⟩, hC4, HO0.out⟩
  case round =>
    clear K0 K1 HO0 hC4
    obtain ⟨k, l, M, cm, bM, hk1, hk2, rfl, HL, kr, K0, HG, hCr, hB⟩ := hrel
    have hsz := hB.size
    have hgs := kr.lt
    by_cases hlt : 0 < k
    · go_wp2_with fail
      refine (l01BelowN_any g A n c 4 lo hi wr hn hCr (hAw.out _ hB) hd (by omega)).mono ?_
      rintro e w1 ⟨d, rfl, hd0, hd1, _, hC1, hO1⟩
      have hd1 := hd1 (by decide)
      have y1 := hO1.size
      have HKR := hide (kr.only hO1 (by omega))
      have K0 := hide (K0.out.only hO1 (by omega))
      have HG := hide (show OwG 3 53 OwM md0 w1 M cm l bM ∧ Nd bM (ga + 1) w1.heap.size from ⟨OwG.keep_ OwMs.keeps HG.out.1 fun q hq => hO1.block q (HG.out.2.2 q hq).2 (by have := HG.out.2.2 q hq; omega), HG.out.2.mono (Nat.le_refl _) y1⟩)
      have hBw := hB.trans hO1
      have hO1x := hide hO1
      obtain ⟨gm, hgm⟩ : ∃ gm, gm = w1.heap.size := ⟨_, rfl⟩
      have mk : Bk (w1.alloc (.cells #[.int .i64 (1 + d), .slice none 0 0, .slice none 0 0] 53)) gm 53 #[.int .i64 (1 + d), .slice none 0 0, .slice none 0 0] := by rw [hgm]; exact Bk.made w1 _ _
      have MK := hide mk
      have HC2 := hide (hC1.alloc (.cells #[.int .i64 (1 + d), .slice none 0 0, .slice none 0 0] 53))
      have HO2 : Hid (Only g (g + 1) w1 (w1.alloc (.cells #[.int .i64 (1 + d), .slice none 0 0, .slice none 0 0] 53))) := hide ((Only.refl _ _ _).alloc _)
      have HB := hide hB
      clear kr hCr hB hO1 hC1 mk
      go_wp2
      rw [← hgm]
      have hgmw : ga < gm := by omega
      have HGM := hide hgm
      have hgm1 : w1.heap.size ≤ gm := by omega
      have hgm2 : gm ≤ w1.heap.size := by omega
      clear hgm
      go_loopw [] (fun wq => ∃ (u : List Int) (U : Option Addr) (cu : Nat) (bU : List Nat), u.length ≤ r ∧ Hid (∀ x ∈ u, 0 ≤ x ∧ x ≤ 20) ∧ Bk wq gm 53 #[.int .i64 (1 + d), .slice U u.length cu, .slice none 0 0] ∧ Hid (RowB wq 3 1 U u.length cu (u.map (.int .i64)) bU ∧ Nd bU (gm + 1) wq.heap.size) ∧ CurN wq g A n c ∧ Only g (g + 1) w1 wq) (fun wq => r - lenAt wq gm 1)
      case atStart => exact ⟨[], none, 0, [], Nat.zero_le _, hide (fun x hx => by cases hx), MK.out, hide ⟨RowB.nil_ _ _ _, Nd.nil _ _⟩, HC2.out, HO2.out⟩
      case round =>
        obtain ⟨wq, rfl⟩ : ∃ wq : World, wq = wr := ⟨_, rfl⟩
        clear MK HC2 HO2
        obtain ⟨u, U, cu, bU, hu, HU, kq, HRU, hCq, hBq⟩ := hrel
        have hqs := hBq.size
        have hgq := kq.lt
        have c1 := kq.cell 1
        simp only [List.getElem?_toArray, List.getElem?_cons_succ, List.getElem?_cons_zero] at c1
        have hln := lenAt_of c1
        by_cases hltu : u.length < r
        · have hx1 : (u.length : Int) < (r : Int) := by omega
          have HLN := hide hln
          clear hln
          go_wp2_with fail
          go_region_law (first | (go_simp; go_at_call 129; refine (l01BelowN_any g A n c 3 lo hi _ hn (hCq.qt 1) ((hAw.out _ (hBw.trans hBq)).qt 1) hd (by omega)).mono ?_; rintro e w2 ⟨x, rfl, hx0, hx3, _, hC2, hO2⟩; have hx3 := hx3 (by decide); have hO2 := ((Only.refl g (g + 1) wq).drewN 1).trans hO2; have y2 := hO2.size; have kq2 := kq.only hO2 (by omega); have HR2 := hide (HRU.out.1.keep fun q hq => hO2.block q (HRU.out.2.2 q hq).2 (by have := HRU.out.2.2 q hq; omega)); have c1 := kq2.cell 1; have ac1 := fun o => (kq2.alloc o).cell 1; simp only [List.getElem?_toArray, List.getElem?_cons_succ, List.getElem?_cons_zero] at c1 ac1; have HC2 := hide hC2; have HO2 := hide hO2; have HKQ := hide kq2; clear hC2 hO2 kq2) | (refine step_pushB (by rfl) (.tmp 36) (.tmp 39) 25 (by rfl) 3 _ 1 8 Tryz.underlying25 Tryz.infoInt rfl (by omega) U u.length cu _ bU (by rfl) (HR2.out.allocd (fun q hq => HR2.out.lt q hq) _) _ 0 1 1 [.int .i64 x] (by rfl) (by omega) rfl (one_new _ _ _) (one_cell rfl) (by omega) (by omega) ?_; intro A3 c3 bs3 w3 hR3 hb3 hO3; have y3 := hO3.size; have kq3 := (hO3.block gm (by simp; omega) (fun hm => by have := (HRU.out.2.2 _ hm).1; omega)).trans (HKQ.out.alloc _); have c1 := Bk.cell kq3 1; have f1 := Bk.frozen kq3 1; simp only [List.getElem?_toArray, List.getElem?_cons_succ, List.getElem?_cons_zero] at c1; have HR3 := hide hR3; have HB3 := hide hb3; have HO3 := hide hO3; clear hR3 hb3 hO3))
          all_goals go_wp2
          all_goals go_roundw
          all_goals first
            | (have := Bk.set kq3 1 (.slice A3 (u.length + 1) c3)
               have e1 := lenAt_of (this.cell 1)
               rw [e1, HLN.out]
               omega)
            | (simp only [World.size_alloc] at y3
               have hg3 : g ∉ bU := fun hm => by have := (HRU.out.2.2 _ hm).1; omega
               have hm3 : ∀ q ∈ bs3, gm + 1 ≤ q := fun q hq => by
                 rcases HB3.out with h | h
                 · rw [h] at hq; exact (HRU.out.2.2 q hq).1
                 · rw [h] at hq; simp at hq; omega
               have hnd : bs3.Nodup := by
                 rcases HB3.out with h | h
                 · rw [h]; exact HRU.out.2.1
                 · rw [h]; simp
               refine ⟨u ++ [x], A3, c3, bs3, by simp; omega, hide (mem_snoc HU.out ⟨by omega, by omega⟩), ?_, hide ⟨?_, hnd, fun q hq => ⟨hm3 q hq, by rw [set_size]; exact HR3.out.lt q hq⟩⟩, ((CurN.alloc HC2.out _).onlyIn HO3.out hg3).set (by show g ≠ gm; omega) _, only_new (((hBq.trans HO2.out).alloc _).thenIn HO3.out (fun q hq => .inr (by have := (HRU.out.2.2 q hq).1; omega))) (by show w1.heap.size ≤ gm; omega) _⟩
               · have := Bk.set kq3 1 (.slice A3 (u.length + 1) c3)
                 rw [show (u ++ [x]).length = u.length + 1 from by simp]
                 exact this
               · refine ((HR3.out.eqn (by simp) (by simp)).keep fun q hq => Below.heap_setCell w3 _ _ q ?_)
                 have := hm3 q hq
                 show q ≠ gm
                 omega)
        · have hul : u.length = r := by omega
          have e2 : ¬ (u.length : Int) < (r : Int) := by omega
          have HUL := hide hul
          have HKQ := hide kq
          have HCQ := hide hCq
          have HBQ := hide hBq
          clear hln hltu hul kq hCq hBq
          go_wp2
          go_loopw [] (fun ws => ∃ (v : List Int) (V : Option Addr) (cv : Nat) (bV : List Nat), v.length ≤ s ∧ Hid (∀ x ∈ v, 0 ≤ x ∧ x ≤ 20) ∧ Bk ws gm 53 #[.int .i64 (1 + d), .slice U u.length cu, .slice V v.length cv] ∧ Hid (RowB ws 3 1 U u.length cu (u.map (.int .i64)) bU) ∧ Hid (RowB ws 3 1 V v.length cv (v.map (.int .i64)) bV ∧ Nd bV wq.heap.size ws.heap.size) ∧ CurN ws g A n c ∧ Only g (g + 1) w1 ws ∧ wq.heap.size ≤ ws.heap.size) (fun ws => s - lenAt ws gm 2)
          case atStart => exact ⟨[], none, 0, [], Nat.zero_le _, hide (fun x hx => by cases hx), HKQ.out, hide HRU.out.1, hide ⟨RowB.nil_ _ _ _, Nd.nil _ _⟩, HCQ.out, HBQ.out, Nat.le_refl _⟩
          case round =>
            obtain ⟨ws, rfl⟩ : ∃ ws : World, ws = wr := ⟨_, rfl⟩
            clear HKQ HCQ c1
            obtain ⟨v, V, cv, bV, hv, HV, ks, HRW, HRV, hCs, hBs, hqs2⟩ := hrel
            have hss := hBs.size
            have hgs2 := ks.lt
            have c2 := ks.cell 2
            simp only [List.getElem?_toArray, List.getElem?_cons_succ, List.getElem?_cons_zero] at c2
            have hln := lenAt_of c2
            by_cases hlts : v.length < s
            · have hx1 : (v.length : Int) < (s : Int) := by omega
              have HLN := hide hln
              clear hln
              go_wp2_with fail
              go_region_law (first | (go_simp; go_at_call 129; refine (l01BelowN_any g A n c 3 lo hi _ hn (hCs.qt 1) ((hAw.out _ (hBw.trans hBs)).qt 1) hd (by omega)).mono ?_; rintro e w2 ⟨x, rfl, hx0, hx3, _, hC2, hO2⟩; have hx3 := hx3 (by decide); have hO2 := ((Only.refl g (g + 1) ws).drewN 1).trans hO2; have y2 := hO2.size; have kq2 := ks.only hO2 (by omega); have HR2 := hide (HRV.out.1.keep fun q hq => hO2.block q (HRV.out.2.2 q hq).2 (by have := HRV.out.2.2 q hq; omega)); have c2 := kq2.cell 2; have ac2 := fun o => (kq2.alloc o).cell 2; simp only [List.getElem?_toArray, List.getElem?_cons_succ, List.getElem?_cons_zero] at c2 ac2; have HC2 := hide hC2; have HO2 := hide hO2; have HKQ := hide kq2; clear hC2 hO2 kq2) | (refine step_pushB (by rfl) (.tmp 48) (.tmp 51) 25 (by rfl) 3 _ 1 8 Tryz.underlying25 Tryz.infoInt rfl (by omega) V v.length cv _ bV (by rfl) (HR2.out.allocd (fun q hq => HR2.out.lt q hq) _) _ 0 1 1 [.int .i64 x] (by rfl) (by omega) rfl (one_new _ _ _) (one_cell rfl) (by omega) (by omega) ?_; intro A3 c3 bs3 w3 hR3 hb3 hO3; have y3 := hO3.size; have kq3 := (hO3.block gm (by simp; omega) (fun hm => by have := (HRV.out.2.2 _ hm).1; omega)).trans (HKQ.out.alloc _); have c2 := Bk.cell kq3 2; have f2 := Bk.frozen kq3 2; simp only [List.getElem?_toArray, List.getElem?_cons_succ, List.getElem?_cons_zero] at c2; have HR3 := hide hR3; have HB3 := hide hb3; have HO3 := hide hO3; clear hR3 hb3 hO3))
              all_goals go_wp2
              all_goals go_roundw
              all_goals first
                | (have := Bk.set kq3 2 (.slice A3 (v.length + 1) c3)
                   have e1 := lenAt_of (this.cell 2)
                   rw [e1, HLN.out]
                   omega)
                | (simp only [World.size_alloc] at y3
                   have hg3 : g ∉ bV := fun hm => by have := (HRV.out.2.2 _ hm).1; omega
                   have hm3 : ∀ q ∈ bs3, wq.heap.size ≤ q := fun q hq => by
                     rcases HB3.out with h | h
                     · rw [h] at hq; exact (HRV.out.2.2 q hq).1
                     · rw [h] at hq; simp at hq; omega
                   have hnd : bs3.Nodup := by
                     rcases HB3.out with h | h
                     · rw [h]; exact HRV.out.2.1
                     · rw [h]; simp
                   refine ⟨v ++ [x], A3, c3, bs3, by simp; omega, hide (mem_snoc HV.out ⟨by omega, by omega⟩), ?_, hide (HRW.out.keep fun q hq => ?_), hide ⟨?_, hnd, fun q hq => ⟨hm3 q hq, by rw [set_size]; exact HR3.out.lt q hq⟩⟩, ((CurN.alloc HC2.out _).onlyIn HO3.out hg3).set (by show g ≠ gm; omega) _, only_new (((hBs.trans HO2.out).alloc _).thenIn HO3.out (fun q hq => .inr (by have := (HRV.out.2.2 q hq).1; omega))) (by show w1.heap.size ≤ gm; omega) _, by rw [set_size]; omega⟩
                   · have := Bk.set kq3 2 (.slice A3 (v.length + 1) c3)
                     rw [show (v ++ [x]).length = v.length + 1 from by simp]
                     exact this
                   · have := HRU.out.2.2 q hq
                     exact keep4 HO2.out HO3.out (by omega) (by omega) (by omega) (fun hm => by have := (HRV.out.2.2 _ hm).1; omega)
                   · refine ((HR3.out.eqn (by simp) (by simp)).keep fun q hq => Below.heap_setCell w3 _ _ q ?_)
                     have := hm3 q hq
                     show q ≠ gm
                     omega)
            · have hvl : v.length = s := by omega
              have e3 : ¬ (v.length : Int) < (s : Int) := by omega
              have kA := HKR.out.only hBs (by omega)
              have a2 := fun o => (kA.alloc o).cell 2
              have m0 := ks.cell 0
              have m1 := ks.cell 1
              simp only [List.getElem?_toArray, List.getElem?_cons_succ, List.getElem?_cons_zero] at a2 m0 m1
              have a2' := kA.cell 2
              simp only [List.getElem?_toArray, List.getElem?_cons_succ, List.getElem?_cons_zero] at a2'
              obtain ⟨MM, hMM⟩ : ∃ MM : Md, MM = ⟨1 + d, u, v⟩ := ⟨_, rfl⟩
              have HMM := hide hMM
              have HALL : Hid (∀ o, OwG 3 53 OwM md0 (ws.alloc o) M cm l bM ∧ OwM (ws.alloc o) #[.int .i64 (1 + d), .slice U u.length cu, .slice V v.length cv] MM (bU ++ bV) ∧ Nd (bM ++ (bU ++ bV)) (ga + 1) (ws.alloc o).heap.size) := by
                refine hide fun o => ⟨OwG.keep_ OwMs.keeps HG.out.1 fun q hq => ?_, ⟨U, cu, V, cv, bU, bV, by rw [hMM], ?_, ?_, rfl⟩, ?_⟩
                · have := HG.out.2.2 q hq
                  exact (Below.heap_alloc ws o q (by omega)).trans (hBs.block q this.2 (by omega))
                · rw [hMM]; exact HRW.out.allocd (fun q hq => HRW.out.lt q hq) o
                · rw [hMM]; exact HRV.out.1.allocd (fun q hq => HRV.out.1.lt q hq) o
                · refine Nd.app HG.out.2 (Nd.app (HRU.out.2.mono (show gm ≤ gm + 1 by omega) (Nat.le_refl _)) (HRV.out.2.mono (Nat.le_refl _) (by simp : ws.heap.size ≤ (ws.alloc o).heap.size)) (Nat.le_refl _) (by omega) (by simp; omega)) (by omega) (by omega) (by simp; omega)
              have HMO : Hid (mdOkB MM r s = true) := hide (by
                rw [hMM, mdOk_iff]
                exact ⟨⟨⟨by show (1 : Int) ≤ 1 + d; omega, by show 1 + d ≤ 12; omega⟩, HU.out, by show (u.length : Int) = _; rw [HUL.out]⟩, HV.out, by show (v.length : Int) = _; rw [hvl]⟩)
              have HBS := hide hBs
              have HCS := hide hCs
              have HKA := hide kA
              have HKS := hide ks
              clear hMM hlts hvl hln hBs hCs kA ks
              go_wp2_with (at_builtin; go_must (refine wpList_pushN OwMs.keeps _ (.tmp 55) (.tmp 57) 44 53 _ 3 56 Tryz.underlying44 Tryz.infoMd rfl (by omega) M l.length cm l bM (ga + 1) rfl MM #[.int .i64 (1 + d), .slice U u.length cu, .slice V v.length cv] (bU ++ bV) (HALL.out _) rfl ws.heap.size 0 1 (three_new _ _ _ _ _) (three_cell rfl rfl rfl) (by omega) (by omega) ?_ rfl rfl rfl rfl (by simp; omega)))
              intro A2 ce bs2 w2 hG2 hN2 hb2 hO2
              have y2 := hO2.size
              simp only [World.size_alloc] at y2
              have kr2 := (hO2.block ga (by simp; omega) (fun hm => by have := (HG.out.2.2 _ hm).1; omega)).trans (HKA.out.alloc _)
              have c2' := Bk.cell kr2 2
              have f2' := Bk.frozen kr2 2
              simp only [List.getElem?_toArray, List.getElem?_cons_succ, List.getElem?_cons_zero] at c2'
              clear a2 a2' m0 m1 c2
              go_wp2
              go_roundw
              case rel =>
                have hg2 : g ∉ bM := fun hm => by have := (HG.out.2.2 _ hm).1; omega
                refine ⟨k - 1, l ++ [MM], A2, ce, bs2, by simp; omega, by simp; omega, val_int (by omega), hide ?_, ?_, hide ?_, hide ⟨?_, by rw [set_size]; exact hN2⟩, ((CurN.alloc HCS.out _).onlyIn hO2 hg2).set (by show g ≠ ga; omega) _, only_new (((HB.out.trans (hO1x.out.trans HBS.out)).alloc _).thenIn hO2 (fun q hq => .inr (by have := (HG.out.2.2 q hq).1; omega))) (by show w.heap.size ≤ ga; omega) _⟩
                · intro m hm
                  rcases List.mem_append.1 hm with hm | hm
                  · exact HL.out m hm
                  · simp only [List.mem_singleton] at hm; subst hm; exact HMO.out
                · have := Bk.set kr2 2 (.slice A2 (l.length + 1) ce)
                  rw [show (l ++ [MM]).length = l.length + 1 from by simp]
                  exact this
                · exact (keep4 (gm := ga) (i := 2) (u := .slice A2 (l.length + 1) ce) HBS.out hO2 (by have := K0.out.lt; omega) (by omega) (by omega) (fun hm => by have := (HG.out.2.2 _ hm).1; omega)).trans K0.out
                · exact OwG.keep_ OwMs.keeps hG2 (fun q hq => Below.heap_setCell w2 _ _ q (by have := (hN2.2 q hq).1; show q ≠ ga; omega))
              case measure => simp [intOf]; omega
    · obtain rfl : k = 0 := by omega
      have hl1 : 1 ≤ l.length := by omega
      have k0 := K0.out
      have HK1 := hide kr
      have d0 := kr.cell 0
      have d1 := kr.cell 1
      have d2 := kr.cell 2
      have c0 := k0.cell 0
      have c1 := k0.cell 1
      have c2 := k0.cell 2
      have f0 := k0.frozen 0
      have f1 := k0.frozen 1
      have f2 := k0.frozen 2
      simp only [List.getElem?_toArray, List.getElem?_cons_succ, List.getElem?_cons_zero] at c0 c1 c2 d0 d1 d2
      have HB := hide hB
      have HCR := hide hCr
      clear hB hCr kr k0 K0 hlt
      go_wp2
      refine bodyPost_ret (v := .agg #[.string nm, .int .i64 fam, .slice M l.length cm]) ?_ rfl ⟨⟨nm, fam, l⟩, M, cm, bM, rfl, ?_, hk2, ⟨M, cm, rfl, ?_⟩, ?_, ?_, ?_⟩
      · simp [results, Tryz.results133, go_sem, *]
      · rw [acOk_iff]
        exact ⟨HL.out, ⟨HNM.out, by show 0 ≤ fam; omega, by show fam ≤ 3; omega⟩, hl1, by show l.length ≤ 3; omega⟩
      · refine OwG.keep_ OwMs.keeps HG.out.1 fun q hq => (only3 wr w.heap.size _ _ _).block q ?_ ?_
        · have := HG.out.2.2 q hq; omega
        · have := HG.out.2.2 q hq; omega
      · refine HG.out.2.mono (by omega) ?_
        rw [set_size, set_size, set_size]
        exact Nat.le_refl _
      · exact ((HCR.out.set (by show g ≠ w.heap.size; omega) _).set (by show g ≠ w.heap.size; omega) _).set (by show g ≠ w.heap.size; omega) _
      · exact only_new (only_new (only_new HB.out (Nat.le_refl _) _) (Nat.le_refl _) _) (Nat.le_refl _) _
end Go.Proofs.YtcecgbjolngdbaaGreatDoor
