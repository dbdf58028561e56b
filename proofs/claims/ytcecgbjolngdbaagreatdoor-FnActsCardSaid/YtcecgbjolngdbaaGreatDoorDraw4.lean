/- Projects are drawn: what the law FnActs asks of them (the project itself). -/
import Derived.Test.YtcecgbjolngdbaaGreatDoorDraw3
import Derived.Test.YtcecgbjolngdbaaGreatDoorKitTo
import Derived.Test.YtcecgbjolngdbaaGreatDoorLawPj
namespace Go.Proofs.YtcecgbjolngdbaaGreatDoor
open Go.ChangeShapes Go.WideShapes Go.ChangeAt Go.RowKit
set_option linter.unusedVariables false
set_option linter.unusedSimpArgs false
attribute [local go_sem ↓] Go.wp_at_zero Go.wp_at_succ

theorem el_only {α : Type} {O : Owns α} {d : α} (K : OKeeps O) {sz g : Nat} {e : TypeId} {w w2 : World} {A : Option Addr} {c lo : Nat} {l : List α} {a : α} {v : Array Value} {bs bQ : List Nat} (hG : OwG sz e O d w A c l bs) (hn : Nd bs lo w.heap.size) (hB : Only g (g + 1) w w2) (hg : g < lo) (hO : O w2 v a bQ) (hnQ : Nd bQ w.heap.size w2.heap.size) (hlo : lo ≤ w.heap.size) (o : Obj) :
    OwG sz e O d (w2.alloc o) A c l bs ∧ O (w2.alloc o) v a bQ ∧ Nd (bs ++ bQ) lo (w2.alloc o).heap.size := by
  have hs := hB.size
  have ha : w2.heap.size ≤ (w2.alloc o).heap.size := by simp
  refine ⟨OwG.keep_ K hG fun b hb => ?_, K _ _ _ _ _ (fun b hb => Below.heap_alloc w2 o b (hnQ.2 b hb).2) hO, (Nd.app hn hnQ (Nat.le_refl _) hlo hs).mono (Nat.le_refl _) ha⟩
  have := hn.2 b hb
  exact (Below.heap_alloc w2 o b (by omega)).trans (hB.block b this.2 (by omega))
theorem far_push {k gp i : Nat} {u : Value} {w2 w3 : World} {o : Obj} {bs : List Nat} (h3 : OnlyIn bs (w2.alloc o) w3) (hk : k < w2.heap.size) (hb : k ∉ bs) (hg : k ≠ gp) : (w3.setCell ⟨gp, i, none⟩ u).heap[k]? = w2.heap[k]? :=
  (Below.heap_setCell w3 _ u k hg).trans ((h3.block k (by simp; omega) hb).trans (Below.heap_alloc w2 o k hk))
theorem only_push2 {g gp i : Nat} {u : Value} {a w2 w3 : World} {o : Obj} {bs : List Nat} (h : Only g (g + 1) a w2) (h3 : OnlyIn bs (w2.alloc o) w3) (hb : ∀ q ∈ bs, a.heap.size ≤ q) (hg : a.heap.size ≤ gp) : Only g (g + 1) a (w3.setCell ⟨gp, i, none⟩ u) := only_new (only_push h h3 hb) hg u
theorem curN_push2 {g gp i : Nat} {u : Value} {A : Option Addr} {n c : Nat} {w2 w3 : World} {o : Obj} {bs : List Nat} (h : CurN w2 g A n c) (h3 : OnlyIn bs (w2.alloc o) w3) {m : Nat} (hb : ∀ q ∈ bs, m ≤ q) (hg : g < m) (hp : g ≠ gp) : CurN (w3.setCell ⟨gp, i, none⟩ u) g A n c := (curN_push h h3 hb hg).set hp u
theorem rowB_set {gp i : Nat} {u : Value} {w : World} {e : TypeId} {sz : Nat} {A : Option Addr} {n c : Nat} {xs : List Value} {bs : List Nat} (h : RowB w e sz A n c xs bs) (hg : gp ∉ bs) : RowB (w.setCell ⟨gp, i, none⟩ u) e sz A n c xs bs := h.keep fun q hq => Below.heap_setCell w _ u q (by rintro rfl; exact hg hq)
theorem four_newD (w : World) (x y z u : Value) (t : TypeId) : ∀ j v, [x, y, z, u][j]? = some v → (w.alloc (.cells #[x, y, z, u] t)).cell? ⟨w.heap.size, 0 + j, none⟩ = some v := by
  intro j v hj
  rw [World.cell?_alloc_at _ _ _ _ rfl, Nat.zero_add]
  match j, hj with
  | 0, hj => exact hj
  | 1, hj => exact hj
  | 2, hj => exact hj
  | 3, hj => exact hj
theorem four_newS (w W : World) (hW : W.heap.size = w.heap.size) (x y z u : Value) (t : TypeId) : ∀ j v, [x, y, z, u][j]? = some v → (W.alloc (.cells #[x, y, z, u] t)).cell? ⟨w.heap.size, 0 + j, none⟩ = some v := by
  rw [← hW]; exact four_newD W x y z u t
theorem four_cellD {x y z u : Value} (h : x.oneCell' = true) (h' : y.oneCell' = true) (h'' : z.oneCell' = true) (h3 : u.oneCell' = true) : ∀ v ∈ [x, y, z, u], v.oneCell' = true := by
  intro v hv
  simp at hv
  rcases hv with rfl | rfl | rfl | rfl
  · exact h
  · exact h'
  · exact h''
  · exact h3
abbrev zPj : Array Value := #[.int .i64 0, .slice none 0 0, .slice none 0 0, .slice none 0 0, .slice none 0 0]
/-- What stands while the links are drawn. -/
structure DrB (g gp lo5 : Nat) (w0 : World) (A : Option Addr) (n c : Nat) (cs : Array Value) (M : Option Addr) (cm : Nat) (l : List Ac) (bM : List Nat) (L : Option Addr) (nl cl : Nat) (xs : List Value) (bL : List Nat) (W : World) : Prop where
  kp : Bk W gp 34 cs
  k0 : Bk W w0.heap.size 34 zPj
  acts : OwG 3 46 OwA ac0 W M cm l bM
  nd : Nd bM (gp + 1) lo5
  row : RowB W 75 4 L nl cl xs bL
  low : ∀ b ∈ bL, lo5 ≤ b
  cur : CurN W g A n c
  only : Only g (g + 1) w0 W
  g0 : g < w0.heap.size
  gp0 : w0.heap.size < gp
  lo : gp < lo5
  sz : lo5 ≤ W.heap.size
section
variable {g gp lo5 : Nat} {w0 : World} {A : Option Addr} {n c : Nat} {cs : Array Value} {M : Option Addr} {cm : Nat} {l : List Ac} {bM : List Nat} {L : Option Addr} {nl cl : Nat} {xs : List Value} {bL : List Nat} {W W' : World}
theorem DrB.next (h : DrB g gp lo5 w0 A n c cs M cm l bM L nl cl xs bL W) (hC : CurN W' g A n c) (hO : Only g (g + 1) W W') : DrB g gp lo5 w0 A n c cs M cm l bM L nl cl xs bL W' := by
  have g1 := h.g0; have g2 := h.gp0; have g3 := h.lo; have g4 := h.sz
  exact ⟨h.kp.only hO (by omega), h.k0.only hO (by omega), OwG.keep_ OwAs.keeps h.acts fun q hq => hO.block q (by have := h.nd.2 q hq; omega) (by have := h.nd.2 q hq; omega), h.nd, h.row.keep fun q hq => hO.block q (h.row.lt q hq) (by have := h.low q hq; omega), h.low, hC, h.only.trans hO, g1, g2, g3, Nat.le_trans g4 hO.size⟩
theorem DrB.alloc (h : DrB g gp lo5 w0 A n c cs M cm l bM L nl cl xs bL W) (o : Obj) : DrB g gp lo5 w0 A n c cs M cm l bM L nl cl xs bL (W.alloc o) := h.next (h.cur.alloc o) ((Only.refl _ _ _).alloc o)
theorem DrB.set (h : DrB g gp lo5 w0 A n c cs M cm l bM L nl cl xs bL W) {gx i : Nat} {u : Value} (hx : lo5 ≤ gx) (hn : gx ∉ bL) : DrB g gp lo5 w0 A n c cs M cm l bM L nl cl xs bL (W.setCell ⟨gx, i, none⟩ u) := by
  have g1 := h.g0; have g2 := h.gp0; have g3 := h.lo; have g4 := h.sz
  exact ⟨h.kp.far (p := ⟨gx, i, none⟩) (by show gp ≠ gx; omega) u, h.k0.far (p := ⟨gx, i, none⟩) (by show w0.heap.size ≠ gx; omega) u, OwG.keep_ OwAs.keeps h.acts fun q hq => Below.heap_setCell W _ _ q (by have := h.nd.2 q hq; show q ≠ gx; omega), h.nd, rowB_set h.row hn, h.low, h.cur.set (p := ⟨gx, i, none⟩) (by show g ≠ gx; omega) u, only_new h.only (p := ⟨gx, i, none⟩) (by show w0.heap.size ≤ gx; omega) u, g1, g2, g3, by rw [set_size]; exact g4⟩
theorem DrB.push (h : DrB g gp lo5 w0 A n c cs M cm l bM L nl cl xs bL W) {o : Obj} {w3 : World} {L' : Option Addr} {cl' : Nat} {ys : List Value} {bs3 : List Nat} {u : Value} (hR : RowB w3 75 4 L' (nl + 1) cl' ys bs3) (hb : bs3 = bL ∨ bs3 = [W.heap.size + 1]) (hO : OnlyIn bL (W.alloc o) w3) :
    DrB g gp lo5 w0 A n c (cs.setIfInBounds 2 u) M cm l bM L' (nl + 1) cl' ys bs3 (w3.setCell ⟨gp, 2, none⟩ u) := by
  have g1 := h.g0; have g2 := h.gp0; have g3 := h.lo; have g4 := h.sz
  have hl := h.low
  have hl3 : ∀ b ∈ bs3, lo5 ≤ b := new_low hl hb (by omega)
  have hz := hO.size
  rw [World.size_alloc] at hz
  exact ⟨Bk.set (bk_push h.kp hO fun hm => by have := hl _ hm; omega) 2 u, (far_push hO h.k0.lt (fun hm => by have := hl _ hm; omega) (by omega)).trans h.k0,
    OwG.keep_ OwAs.keeps h.acts fun q hq => far_push hO (by have := h.nd.2 q hq; omega) (fun hm => by have := hl _ hm; have := h.nd.2 q hq; omega) (by have := h.nd.2 q hq; omega), h.nd,
    rowB_set hR (fun hm => by have := hl3 _ hm; omega), hl3, curN_push2 h.cur hO hl (by omega) (by omega), only_push2 h.only hO (fun q hq => by have := hl q hq; omega) (by omega), g1, g2, g3, by rw [set_size]; omega⟩
end
theorem two_newS (w : World) (p : Addr) (u x y : Value) (t : TypeId) : ∀ j v, [x, y][j]? = some v → ((w.setCell p u).alloc (.cells #[x, y] t)).cell? ⟨w.heap.size, 0 + j, none⟩ = some v := by
  have := two_new (w.setCell p u) x y t
  rwa [set_size] at this
theorem only5D (w : World) (g : Nat) (v1 v2 v3 v4 v5 : Value) : Only g (g + 1) w (((((w.setCell ⟨g, 0, none⟩ v1).setCell ⟨g, 1, none⟩ v2).setCell ⟨g, 2, none⟩ v3).setCell ⟨g, 3, none⟩ v4).setCell ⟨g, 4, none⟩ v5) :=
  ((only3 w g v1 v2 v3).setCell ⟨by dsimp only; omega, by dsimp only; omega⟩ _).setCell ⟨by dsimp only; omega, by dsimp only; omega⟩ _
/-- A project that is drawn. -/
def DrPost (g : Nat) (w : World) (e : Ending) (w' : World) : Prop :=
  ∃ (dd : Int) (l : List Ac) (M : Option Addr) (cm : Nat) (bs : List Nat) (L R S : Option Addr) (nl cl nr cr ns cs : Nat), e = .returned (.agg #[.int .i64 dd, .slice M l.length cm, .slice L nl cl, .slice R nr cr, .slice S ns cs]) ∧ 1 ≤ l.length ∧ (1 ≤ nr ∧ nr ≤ 2) ∧ ns ≤ 1 ∧ (∀ a ∈ l, acOkB a nr ns = true) ∧ OwG 3 46 OwA ac0 w' M cm l bs ∧ Nd bs w.heap.size w'.heap.size ∧ Only g (g + 1) w w'
set_option maxRecDepth 20000 in
set_option maxHeartbeats 12800000 in
theorem l05Draw_any (g : Nat) (A : Option Addr) (n c lo hi : Nat) (w : World) (hn : n ≤ 16777216) (hC : CurN w g A n c) (hA : RdB w lo hi A n) (hd : hi ≤ g) :
    Calls Tryz.prog 72 #[.pointer (some ⟨g, 0, none⟩), .int .i64 3] w (DrPost g w) := by
  have hg := hC.lt
  go_enter Tryz.func72, Tryz.ntmps72
  go_wp2_with fail
  refine at_world fun V0 hW => ?_
  have z0 : V0.heap.size = w.heap.size + 1 := by rw [hW]; simp
  have k0 : Bk V0 w.heap.size 34 #[.int .i64 0, .slice none 0 0, .slice none 0 0, .slice none 0 0, .slice none 0 0] := by rw [hW]; exact Bk.made w _ _
  have hO : Only g (g + 1) w V0 := by rw [hW]; exact (Only.refl _ _ _).alloc _
  have hC0 : CurN V0 g A n c := by rw [hW]; exact hC.alloc _
  have hA0 : RdB V0 lo hi A n := by rw [hW]; exact hA.alloc (by omega) _
  clear hW hC
  refine (l01BelowN_any g A n c 12 lo hi V0 hn hC0 hA0 hd (by omega)).mono ?_
  rintro e V1 ⟨dd, rfl, hd0, hd1, _, hC1, hO1⟩
  have hd1 := hd1 (by decide)
  have z1 := hO1.size
  have k0 := k0.only hO1 (by omega)
  have hA1 := hA0.only hO1 (by omega) (by omega)
  have hO := hO.trans hO1
  clear hC0 hA0 hO1
  go_wp2_with fail
  refine at_world fun V2 hW => ?_
  have z2 : V2.heap.size = V1.heap.size + 1 := by rw [hW]; simp
  have k1 : Bk V2 V1.heap.size 34 #[.int .i64 (12 + dd), .slice none 0 0, .slice none 0 0, .slice none 0 0, .slice none 0 0] := by rw [hW]; exact Bk.made V1 _ _
  have k0 : Bk V2 w.heap.size 34 #[.int .i64 0, .slice none 0 0, .slice none 0 0, .slice none 0 0, .slice none 0 0] := by rw [hW]; exact k0.alloc _
  have hO : Only g (g + 1) w V2 := by rw [hW]; exact hO.alloc _
  have hC2 : CurN V2 g A n c := by rw [hW]; exact hC1.alloc _
  have hA2 : RdB V2 lo hi A n := by rw [hW]; exact hA1.alloc (by omega) _
  clear hW hC1 hA1
  obtain ⟨gp, hgp⟩ : ∃ gp, gp = V1.heap.size := ⟨_, rfl⟩
  rw [← hgp] at k1 z2 ⊢
  have hgw : w.heap.size < gp := by omega
  refine (l01BelowN_any g A n c 4 lo hi V2 hn hC2 hA2 hd (by omega)).mono ?_
  rintro e V3 ⟨k2, rfl, hj0, hj1, _, hC3, hO3⟩
  have hj1 := hj1 (by decide)
  have z3 := hO3.size
  have k0 := k0.only hO3 (by omega)
  have k1 := k1.only hO3 (by omega)
  have hO := hO.trans hO3
  obtain ⟨kk, rfl⟩ : ∃ k : Nat, k2 = k := ⟨k2.toNat, by omega⟩
  have K0 := hide k0; have K1 := hide k1; have HO0 := hide hO
  clear hC2 hA2 hO3 k0 k1 hO
  have hAw : Hid (∀ W, Only g (g + 1) w W → RdB W lo hi A n) := hide fun W hW => hA.only hW (by omega) (by omega)
  clear hA hgp z0 z1 z2
  go_wp2
  go_loopw [6] (fun v wr => ∃ (k nr : Nat) (R : Option Addr) (cr : Nat) (xs : List Value) (bR : List Nat), 1 ≤ nr + k ∧ nr + k ≤ 2 ∧ v = .int .i64 k ∧ Bk wr gp 34 #[.int .i64 (12 + dd), .slice none 0 0, .slice none 0 0, .slice R nr cr, .slice none 0 0] ∧ Hid (Bk wr w.heap.size 34 #[.int .i64 0, .slice none 0 0, .slice none 0 0, .slice none 0 0, .slice none 0 0]) ∧ Hid (RowB wr 71 2 R nr cr xs bR ∧ ∀ b ∈ bR, gp + 1 ≤ b) ∧ CurN wr g A n c ∧ Only g (g + 1) w wr) (fun v _ => (intOf v).toNat)
  case atStart => exact ⟨1 + kk / 2, 0, none, 0, [], [], by omega, by omega, val_int (by omega), K1.out, K0, hide ⟨RowB.nil_ _ _ _, fun b hb => by cases hb⟩, hC3, HO0.out⟩
  case round =>
    clear K0 K1 HO0 hC3
    obtain ⟨k, nr, R, cr, xs, bR, hk1, hk2, rfl, kr, K0, HR, hCr, hB⟩ := hrel
    have hsz := hB.size
    have hgs := kr.lt
    by_cases hlt : 0 < k
    · go_wp2_with fail
      refine (l03Draw_any g A n c lo hi wr hn hCr (hAw.out _ hB) hd).mono ?_
      rintro e w1 ⟨Ast, cst, st, rfl, _, _, _, hC1, hO1⟩
      generalize st.length = nst
      have y1 := hO1.size
      have HKR := hide (kr.only hO1 (by omega))
      have HK0 := hide (K0.out.only hO1 (by omega))
      have HR1 := hide (HR.out.1.keep fun q hq => hO1.block q (HR.out.1.lt q hq) (by have := HR.out.2 q hq; omega))
      have HRL := hide HR.out.2
      have hB1 := hB.trans hO1
      clear kr K0 HR hCr hO1 hB
      go_wp2_with fail
      refine at_world fun w2 hW => ?_
      obtain ⟨gx, hgx⟩ : ∃ gx, gx = w1.heap.size := ⟨_, rfl⟩
      have kx : Bk w2 gx 71 #[.slice Ast nst cst, .slice none 0 0] := by rw [hW, hgx]; exact Bk.made _ _ _
      have kp : Bk w2 gp 34 #[.int .i64 (12 + dd), .slice none 0 0, .slice none 0 0, .slice R nr cr, .slice none 0 0] := by rw [hW]; exact HKR.out.alloc _
      have k0 : Bk w2 w.heap.size 34 #[.int .i64 0, .slice none 0 0, .slice none 0 0, .slice none 0 0, .slice none 0 0] := by rw [hW]; exact HK0.out.alloc _
      have hR2 : RowB w2 71 2 R nr cr xs bR := by rw [hW]; exact HR1.out.allocd (fun q hq => HR1.out.lt q hq) _
      have hC2 : CurN w2 g A n c := by rw [hW]; exact hC1.alloc _
      have hO2 : Only g (g + 1) w w2 := by rw [hW]; exact hB1.alloc _
      have y2 : w1.heap.size + 1 ≤ w2.heap.size := by rw [hW]; simp
      rw [← hgx]
      have hgxp : gp + 1 ≤ gx := by omega
      have hgxw : ∀ q ∈ bR, q < gx := fun q hq => by have := HR1.out.lt q hq; omega
      have HGX := hide hgxw
      clear hW hC1 hB1 HKR HK0 HR1 hgx hgxw
      refine (l01OnceN_any g A n c 3 lo hi w2 hn hC2 (hAw.out _ hO2) hd (by omega)).mono ?_
      rintro e w3 ⟨b, rfl, hC3, hO3⟩
      have y3 := hO3.size
      have kx := kx.only hO3 (by omega)
      have kp := kp.only hO3 (by omega)
      have k0 := k0.only hO3 (by omega)
      have hR3 : RowB w3 71 2 R nr cr xs bR := hR2.keep fun q hq => hO3.block q (hR2.lt q hq) (by have := HRL.out q hq; omega)
      have hO3 := hO2.trans hO3
      clear hC2 hO2 hR2
      cases b
      · have HKX := hide kx; have HKP := hide kp; have HK0 := hide k0; have HRX := hide hR3; have HCX := hide hC3; have HOX := hide hO3
        clear kx kp k0 hR3 hC3 hO3
        have kx0 := HKX.out.cell 0
        have kx1 := HKX.out.cell 1
        have kp3 := HKP.out.cell 3
        simp only [List.getElem?_toArray, List.getElem?_cons_succ, List.getElem?_cons_zero] at kx0 kx1 kp3
        go_wp2_with (at_builtin; go_must (refine wpList_pushB _ (.tmp 34) (.tmp 36) 32 71 _ 2 48 Tryz.underlying32 Tryz.infoRs rfl (by omega) R nr cr xs bR (HRX.out.allocd (fun q hq => HRX.out.lt q hq) _) w3.heap.size 0 1 1 [.slice Ast nst cst, .slice none 0 0] (by omega) rfl (two_new _ _ _ _) (two_cell rfl rfl) (by omega) (by omega) ?_ rfl rfl rfl rfl))
        intro A5 c5 bs5 w5 hR5 hb5 hO5
        have hlow := new_low HRL.out hb5 (by first | omega | (simp only [World.size_alloc, set_size]; omega))
        have kp5 := bk_push HKP.out hO5 (fun hm => by have := HRL.out _ hm; omega)
        have kc5 := kp5.cell 3
        have kf5 := kp5.frozen 3
        simp only [List.getElem?_toArray, List.getElem?_cons_succ, List.getElem?_cons_zero] at kc5
        have HR5 := hide hR5; have HO5 := hide hO5; have HL5 := hide hlow; have HK5 := hide kp5
        clear hR5 hb5 hO5 hlow kp5 kx0 kx1 kp3
        go_wp2
        go_roundw
        case rel => exact ⟨k - 1, nr + 1, A5, c5, _, bs5, by omega, by omega, val_int (by omega), Bk.set HK5.out 3 (.slice A5 (nr + 1) c5), hide ((far_push HO5.out HK0.out.lt (fun hm => by have := HRL.out _ hm; omega) (by omega)).trans HK0.out), hide ⟨rowB_set HR5.out (fun hm => by have := HL5.out _ hm; omega), HL5.out⟩, curN_push2 HCX.out HO5.out HRL.out (by omega) (by omega), only_push2 HOX.out HO5.out (fun q hq => by have := HRL.out q hq; omega) (by omega)⟩
        case measure => simp [intOf]; omega
      · go_wp2_with fail
        refine (l05Setup_any g A n c lo hi w3 hn hC3 (hAw.out _ hO3) hd).mono ?_
        rintro e w4 ⟨Tst, ntt, ctt, rfl, hC4, hO4⟩
        have y4 := hO4.size
        have kx := kx.only hO4 (by omega)
        have kp := kp.only hO4 (by omega)
        have k0 := k0.only hO4 (by omega)
        have hR4 : RowB w4 71 2 R nr cr xs bR := hR3.keep fun q hq => hO4.block q (hR3.lt q hq) (by have := HRL.out q hq; omega)
        have hO4 := hO3.trans hO4
        have d1 := kx.cell 1
        have d1f := kx.frozen 1
        simp only [List.getElem?_toArray, List.getElem?_cons_succ, List.getElem?_cons_zero] at d1
        have HKX : Hid (Bk (w4.setCell ⟨gx, 1, none⟩ (.slice Tst ntt ctt)) gx 71 #[.slice Ast nst cst, .slice Tst ntt ctt]) := hide (kx.set 1 _)
        have HKP := hide (kp.far (p := ⟨gx, 1, none⟩) (by show gp ≠ gx; omega) (.slice Tst ntt ctt))
        have HK0 := hide (k0.far (p := ⟨gx, 1, none⟩) (by show w.heap.size ≠ gx; omega) (.slice Tst ntt ctt))
        have HRX := hide (rowB_set (i := 1) (u := .slice Tst ntt ctt) hR4 (gp := gx) (fun hm => by have := HGX.out _ hm; omega))
        have HCX := hide (hC4.set (p := ⟨gx, 1, none⟩) (by show g ≠ gx; omega) (.slice Tst ntt ctt))
        have HOX := hide (only_new hO4 (p := ⟨gx, 1, none⟩) (by show w.heap.size ≤ gx; omega) (.slice Tst ntt ctt))
        clear kx kp k0 hR3 hR4 hC3 hC4 hO3 hO4
        have kx0 := HKX.out.cell 0
        have kx1 := HKX.out.cell 1
        have kp3 := HKP.out.cell 3
        simp only [List.getElem?_toArray, List.getElem?_cons_succ, List.getElem?_cons_zero] at kx0 kx1 kp3
        go_wp2_with (at_builtin; go_must (refine wpList_pushB _ (.tmp 34) (.tmp 36) 32 71 _ 2 48 Tryz.underlying32 Tryz.infoRs rfl (by omega) R nr cr xs bR (HRX.out.allocd (fun q hq => HRX.out.lt q hq) _) w4.heap.size 0 1 1 [.slice Ast nst cst, .slice Tst ntt ctt] (by omega) rfl (two_newS _ _ _ _ _ _) (two_cell rfl rfl) (by omega) (by omega) ?_ rfl rfl rfl rfl))
        intro A5 c5 bs5 w5 hR5 hb5 hO5
        have hlow := new_low HRL.out hb5 (by first | omega | (simp only [World.size_alloc, set_size]; omega))
        have kp5 := bk_push HKP.out hO5 (fun hm => by have := HRL.out _ hm; omega)
        have kc5 := kp5.cell 3
        have kf5 := kp5.frozen 3
        simp only [List.getElem?_toArray, List.getElem?_cons_succ, List.getElem?_cons_zero] at kc5
        have HR5 := hide hR5; have HO5 := hide hO5; have HL5 := hide hlow; have HK5 := hide kp5
        clear hR5 hb5 hO5 hlow kp5 kx0 kx1 kp3
        go_wp2
        go_roundw
        case rel => exact ⟨k - 1, nr + 1, A5, c5, _, bs5, by omega, by omega, val_int (by omega), Bk.set HK5.out 3 (.slice A5 (nr + 1) c5), hide ((far_push HO5.out HK0.out.lt (fun hm => by have := HRL.out _ hm; omega) (by omega)).trans HK0.out), hide ⟨rowB_set HR5.out (fun hm => by have := HL5.out _ hm; omega), HL5.out⟩, curN_push2 HCX.out HO5.out HRL.out (by omega) (by omega), only_push2 HOX.out HO5.out (fun q hq => by have := HRL.out q hq; omega) (by omega)⟩
        case measure => simp [intOf]; omega
    · obtain rfl : k = 0 := by omega
      have hnr1 : 1 ≤ nr := by omega
      have hnr2 : nr ≤ 2 := by omega
      obtain ⟨wp, rfl⟩ : ∃ wp : World, wp = wr := ⟨_, rfl⟩
      have hBo := hB
      clear HR hk1 hk2
      go_wp2_with fail
      refine (l01OnceN_any g A n c 3 lo hi wp hn hCr (hAw.out _ hB) hd (by omega)).mono ?_
      rintro e w1 ⟨b, rfl, hC1, hO1⟩
      have y1 := hO1.size
      have kp := kr.only hO1 (by omega)
      have k0 := K0.out.only hO1 (by omega)
      have hO1 := hB.trans hO1
      clear kr K0 hB hBo hCr
      cases b
      · go_wp2_with fail
        have hCW := hC1
        have hOW := hO1
        clear hC1 hO1
        refine (l01BelowN_any g A n c 3 lo hi w1 hn hCW (hAw.out _ hOW) hd (by omega)).mono ?_
        rintro e w7 ⟨k3, rfl, hm0, hm1, _, hC7, hO7⟩
        have hm1 := hm1 (by decide)
        have y7 := hO7.size
        have KP := hide (kp.only hO7 (by omega))
        have K0 := hide (k0.only hO7 (by omega))
        have HO7 := hide (hOW.trans hO7)
        obtain ⟨k3, rfl⟩ : ∃ k : Nat, k3 = k := ⟨k3.toNat, by omega⟩
        have hz7 := HO7.out.size
        clear hCW hOW kp k0 hO7
        go_wp2
        go_loopw [8] (fun v wr => ∃ (k : Nat) (l : List Ac) (M : Option Addr) (cm : Nat) (bM : List Nat), 1 ≤ l.length + k ∧ l.length + k ≤ 3 ∧ v = .int .i64 k ∧ Hid (∀ a ∈ l, acOkB a nr 0 = true) ∧ Bk wr gp 34 #[.int .i64 (12 + dd), .slice M l.length cm, .slice none 0 0, .slice R nr cr, .slice none 0 0] ∧ Hid (Bk wr w.heap.size 34 zPj) ∧ Hid (OwG 3 46 OwA ac0 wr M cm l bM ∧ Nd bM (gp + 1) wr.heap.size) ∧ CurN wr g A n c ∧ Only g (g + 1) w wr) (fun v _ => (intOf v).toNat)
        case atStart => exact ⟨1 + k3, [], none, 0, [], by simp, by simp; omega, val_int (by omega), hide (fun a ha => by cases ha), KP.out, K0, hide ⟨OwG.nil_ _ _ _ _ _, Nd.nil _ _⟩, hC7, HO7.out⟩
        case round =>
          obtain ⟨wa, rfl⟩ : ∃ wa : World, wa = wr := ⟨_, rfl⟩
          clear KP K0 HO7 hC7
          obtain ⟨k, l, M, cm, bM, hk1, hk2, rfl, HL, kr, K0, HG, hCr, hB⟩ := hrel
          have hsz := hB.size
          have hgs := kr.lt
          by_cases hlt : 0 < k
          · skip
            have HKR := hide kr
            have hSd : Bk wa.drew gp 34 #[.int .i64 (12 + dd), .slice M l.length cm, .slice none 0 0, .slice R nr cr, .slice none 0 0] := kr
            have HB := hide hB
            have HC := hide hCr
            clear kr hB hCr
            go_wp2_with fail
            refine region_to (fun W => Bk W gp 34 #[.int .i64 (12 + dd), .slice M l.length cm, .slice none 0 0, .slice R nr cr, .slice none 0 0]) 16 (by kernel_rfl) ?_
            refine AnyTo.take (i := 0) (v := ?_) rfl (by kernel_rfl) (by kernel_rfl) (by kernel_rfl) (by kernel_rfl) (fun _ _ _ h => h) (Or.inl ⟨by rfl, ?_⟩) hSd ?_
            rotate_left
            · intro W hS
              have l0 := Bk.cell hS 0
              have l1 := Bk.cell hS 1
              have l3 := Bk.cell hS 3
              have l4 := Bk.cell hS 4
              simp only [List.getElem?_toArray, List.getElem?_cons_succ, List.getElem?_cons_zero] at l0 l1 l3 l4
              go_simp
              try with_reducible rfl
            try simp only [Act.put, List.setIfInBounds_toArray, List.set_cons_zero, List.set_cons_succ]
            refine AnyTo.take (i := 1) (v := ?_) rfl (by kernel_rfl) (by kernel_rfl) (by kernel_rfl) (by kernel_rfl) (fun _ _ _ h => h) (Or.inl ⟨by rfl, ?_⟩) hSd ?_
            rotate_left
            · intro W hS
              have l0 := Bk.cell hS 0
              have l1 := Bk.cell hS 1
              have l3 := Bk.cell hS 3
              have l4 := Bk.cell hS 4
              simp only [List.getElem?_toArray, List.getElem?_cons_succ, List.getElem?_cons_zero] at l0 l1 l3 l4
              go_simp
              try with_reducible rfl
            try simp only [Act.put, List.setIfInBounds_toArray, List.set_cons_zero, List.set_cons_succ]
            refine AnyTo.take (i := 2) (v := ?_) rfl (by kernel_rfl) (by kernel_rfl) (by kernel_rfl) (by kernel_rfl) (fun _ _ _ h => h) (Or.inl ⟨by rfl, ?_⟩) hSd ?_
            rotate_left
            · intro W hS
              have l0 := Bk.cell hS 0
              have l1 := Bk.cell hS 1
              have l3 := Bk.cell hS 3
              have l4 := Bk.cell hS 4
              simp only [List.getElem?_toArray, List.getElem?_cons_succ, List.getElem?_cons_zero] at l0 l1 l3 l4
              go_simp
              try with_reducible rfl
            try simp only [Act.put, List.setIfInBounds_toArray, List.set_cons_zero, List.set_cons_succ]
            refine AnyTo.take (i := 3) (v := ?_) rfl (by kernel_rfl) (by kernel_rfl) (by kernel_rfl) (by kernel_rfl) (fun _ _ _ h => h) (Or.inl ⟨by rfl, ?_⟩) hSd ?_
            rotate_left
            · intro W hS
              have l0 := Bk.cell hS 0
              have l1 := Bk.cell hS 1
              have l3 := Bk.cell hS 3
              have l4 := Bk.cell hS 4
              simp only [List.getElem?_toArray, List.getElem?_cons_succ, List.getElem?_cons_zero] at l0 l1 l3 l4
              go_simp
              try with_reducible rfl
            try simp only [Act.put, List.setIfInBounds_toArray, List.set_cons_zero, List.set_cons_succ]
            refine AnyTo.take (i := 4) (v := ?_) rfl (by kernel_rfl) (by kernel_rfl) (by kernel_rfl) (by kernel_rfl) (fun _ _ _ h => h) (Or.inl ⟨by rfl, ?_⟩) hSd ?_
            rotate_left
            · intro W hS
              have l0 := Bk.cell hS 0
              have l1 := Bk.cell hS 1
              have l3 := Bk.cell hS 3
              have l4 := Bk.cell hS 4
              simp only [List.getElem?_toArray, List.getElem?_cons_succ, List.getElem?_cons_zero] at l0 l1 l3 l4
              go_simp
              try with_reducible rfl
            try simp only [Act.put, List.setIfInBounds_toArray, List.set_cons_zero, List.set_cons_succ]
            refine AnyTo.take (i := 5) (v := ?_) rfl (by kernel_rfl) (by kernel_rfl) (by kernel_rfl) (by kernel_rfl) (fun _ _ _ h => h) (Or.inl ⟨by rfl, ?_⟩) hSd ?_
            rotate_left
            · intro W hS
              have l0 := Bk.cell hS 0
              have l1 := Bk.cell hS 1
              have l3 := Bk.cell hS 3
              have l4 := Bk.cell hS 4
              simp only [List.getElem?_toArray, List.getElem?_cons_succ, List.getElem?_cons_zero] at l0 l1 l3 l4
              go_simp
              try with_reducible rfl
            try simp only [Act.put, List.setIfInBounds_toArray, List.set_cons_zero, List.set_cons_succ]
            refine AnyTo.take (i := 6) (v := ?_) rfl (by kernel_rfl) (by kernel_rfl) (by kernel_rfl) (by kernel_rfl) (fun _ _ _ h => h) (Or.inl ⟨by rfl, ?_⟩) hSd ?_
            rotate_left
            · intro W hS
              have l0 := Bk.cell hS 0
              have l1 := Bk.cell hS 1
              have l3 := Bk.cell hS 3
              have l4 := Bk.cell hS 4
              simp only [List.getElem?_toArray, List.getElem?_cons_succ, List.getElem?_cons_zero] at l0 l1 l3 l4
              go_simp
              try with_reducible rfl
            try simp only [Act.put, List.setIfInBounds_toArray, List.set_cons_zero, List.set_cons_succ]
            refine AnyTo.take (i := 7) (v := ?_) rfl (by kernel_rfl) (by kernel_rfl) (by kernel_rfl) (by kernel_rfl) (fun _ _ _ h => h) (Or.inl ⟨by rfl, ?_⟩) hSd ?_
            rotate_left
            · intro W hS
              have l0 := Bk.cell hS 0
              have l1 := Bk.cell hS 1
              have l3 := Bk.cell hS 3
              have l4 := Bk.cell hS 4
              simp only [List.getElem?_toArray, List.getElem?_cons_succ, List.getElem?_cons_zero] at l0 l1 l3 l4
              go_simp
              try with_reducible rfl
            try simp only [Act.put, List.setIfInBounds_toArray, List.set_cons_zero, List.set_cons_succ]
            refine AnyTo.take (i := 8) (v := ?_) rfl (by kernel_rfl) (by kernel_rfl) (by kernel_rfl) (by kernel_rfl) (fun _ _ _ h => h) (Or.inl ⟨by rfl, ?_⟩) hSd ?_
            rotate_left
            · intro W hS
              have l0 := Bk.cell hS 0
              have l1 := Bk.cell hS 1
              have l3 := Bk.cell hS 3
              have l4 := Bk.cell hS 4
              simp only [List.getElem?_toArray, List.getElem?_cons_succ, List.getElem?_cons_zero] at l0 l1 l3 l4
              go_simp
              try with_reducible rfl
            try simp only [Act.put, List.setIfInBounds_toArray, List.set_cons_zero, List.set_cons_succ]
            refine AnyTo.take (i := 9) (v := ?_) rfl (by kernel_rfl) (by kernel_rfl) (by kernel_rfl) (by kernel_rfl) (fun _ _ _ h => h) (Or.inl ⟨by rfl, ?_⟩) hSd ?_
            rotate_left
            · intro W hS
              have l0 := Bk.cell hS 0
              have l1 := Bk.cell hS 1
              have l3 := Bk.cell hS 3
              have l4 := Bk.cell hS 4
              simp only [List.getElem?_toArray, List.getElem?_cons_succ, List.getElem?_cons_zero] at l0 l1 l3 l4
              go_simp
              try with_reducible rfl
            try simp only [Act.put, List.setIfInBounds_toArray, List.set_cons_zero, List.set_cons_succ]
            refine AnyTo.take (i := 10) (v := ?_) rfl (by kernel_rfl) (by kernel_rfl) (by kernel_rfl) (by kernel_rfl) (fun _ _ _ h => h) (Or.inl ⟨by rfl, ?_⟩) hSd ?_
            rotate_left
            · intro W hS
              have l0 := Bk.cell hS 0
              have l1 := Bk.cell hS 1
              have l3 := Bk.cell hS 3
              have l4 := Bk.cell hS 4
              simp only [List.getElem?_toArray, List.getElem?_cons_succ, List.getElem?_cons_zero] at l0 l1 l3 l4
              go_simp
              try with_reducible rfl
            try simp only [Act.put, List.setIfInBounds_toArray, List.set_cons_zero, List.set_cons_succ]
            refine AnyTo.take (i := 11) (v := ?_) rfl (by kernel_rfl) (by kernel_rfl) (by kernel_rfl) (by kernel_rfl) (fun _ _ _ h => h) (Or.inl ⟨by rfl, ?_⟩) hSd ?_
            rotate_left
            · intro W hS
              have l0 := Bk.cell hS 0
              have l1 := Bk.cell hS 1
              have l3 := Bk.cell hS 3
              have l4 := Bk.cell hS 4
              simp only [List.getElem?_toArray, List.getElem?_cons_succ, List.getElem?_cons_zero] at l0 l1 l3 l4
              go_simp
              try with_reducible rfl
            try simp only [Act.put, List.setIfInBounds_toArray, List.set_cons_zero, List.set_cons_succ]
            refine AnyTo.step (i := 12) (by kernel_rfl) rfl (fun K hK => ?_)
            go_simp
            go_at_call 133
            refine (l04Draw_any g A n c l.length nr 0 (by omega) (by omega) (by omega) lo hi wa.drew hn (HC.out.qt 1) ((hAw.out _ HB.out).qt 1) hd).mono ?_
            rintro e w2 ⟨a, Ma, cma, ba, rfl, hok, hml, hOA, hNA, hC2, hO2⟩
            have hO2 : Only g (g + 1) wa w2 := ((Only.refl g (g + 1) wa).drewN 1).trans hO2
            have hNA : Nd ba wa.heap.size w2.heap.size := hNA
            have y2 := hO2.size
            have kq2 := HKR.out.only hO2 (by omega)
            have HEL := hide (fun o => el_only OwAs.keeps HG.out.1 HG.out.2 hO2 (by omega) hOA hNA (by omega) o)
            have HC2 := hide hC2; have HO2 := hide hO2; have HKQ := hide kq2; have HOK := hide hok
            clear hC2 hO2 kq2 hok hOA hNA hml
            refine hK.out _ _ (fun _ => HKQ.out) (fun _ => ?_)
            clear hK K
            try simp only [Act.put, List.setIfInBounds_toArray, List.set_cons_zero, List.set_cons_succ]
            refine AnyTo.step (i := 13) (by kernel_rfl) rfl (fun K hK => ?_)
            go_simp
            refine hK.out _ _ (fun _ => HKQ.out.alloc _) (fun _ => ?_)
            clear hK K
            try simp only [Act.put, List.setIfInBounds_toArray, List.set_cons_zero, List.set_cons_succ]
            refine AnyTo.step (i := 14) (by kernel_rfl) rfl (fun K hK => ?_)
            refine step_pushN OwAs.keeps (by rfl) (.tmp 54) (.tmp 66) 30 (by rfl) 46 _ 3 48 Tryz.underlying30 Tryz.infoAc rfl (by omega) M l.length cm l bM (gp + 1) rfl (by rfl) a #[.string a.name, .int .i64 a.fam, .slice Ma a.modes.length cma] ba (HEL.out _) rfl w2.heap.size 0 1 (by rfl) (three_new _ _ _ _ _) (three_cell rfl rfl rfl) (by omega) (by omega) (by simp; omega) ?_
            intro A3 c3 bs3 w3 hG3 hN3 hb3 hO3
            have hg3 : g ∉ bM := fun hm => by have := (HG.out.2.2 _ hm).1; omega
            have hp3 : gp ∉ bM := fun hm => by have := (HG.out.2.2 _ hm).1; omega
            have hw3 : w.heap.size ∉ bM := fun hm => by have := (HG.out.2.2 _ hm).1; omega
            have hl3 : ∀ q ∈ bM, w.heap.size ≤ q := fun q hq => by have := (HG.out.2.2 q hq).1; omega
            have kq3 := bk_push HKQ.out hO3 hp3
            have HG3 := hide hG3; have HN3 := hide hN3; have HO3 := hide hO3; have HK3 := hide kq3; have HLW := hide hl3; have HGW := hide hw3
            clear hG3 hN3 hb3 hO3 hg3 hp3 hl3 hw3 kq3
            refine hK.out _ _ (fun _ => HK3.out) (fun _ => ?_)
            clear hK K
            try simp only [Act.put, List.setIfInBounds_toArray, List.set_cons_zero, List.set_cons_succ]
            refine AnyTo.take (i := 15) (v := ?_) rfl (by kernel_rfl) (by kernel_rfl) (by kernel_rfl) (by kernel_rfl) (fun _ _ _ h => h) (Or.inl ⟨by rfl, ?_⟩) HK3.out ?_
            rotate_left
            · intro W hS
              have l0 := Bk.cell hS 0
              have l1 := Bk.cell hS 1
              have l3 := Bk.cell hS 3
              have l4 := Bk.cell hS 4
              simp only [List.getElem?_toArray, List.getElem?_cons_succ, List.getElem?_cons_zero] at l0 l1 l3 l4
              go_simp
              try with_reducible rfl
            try simp only [Act.put, List.setIfInBounds_toArray, List.set_cons_zero, List.set_cons_succ]
            have d1 := HK3.out.cell 1
            have f1 := HK3.out.frozen 1
            simp only [List.getElem?_toArray, List.getElem?_cons_succ, List.getElem?_cons_zero] at d1
            refine AnyTo.step (i := 16) (by kernel_rfl) rfl (fun K hK => ?_)
            go_simp
            refine hK.out _ _ (fun h => absurd rfl h) (fun _ => ?_)
            clear hK K
            try simp only [Act.put, List.setIfInBounds_toArray, List.set_cons_zero, List.set_cons_succ]
            refine AnyTo.done (by kernel_rfl) ?_ _
            clear d1 f1
            go_wp2
            go_roundw
            case rel =>
              refine ⟨k - 1, l ++ [a], A3, c3, bs3, by simp; omega, by simp; omega, val_int (by omega), hide ?_, ?_, hide ((far_push HO3.out (by have := K0.out.lt; omega) HGW.out (by omega)).trans ((HO2.out.block w.heap.size K0.out.lt (by omega)).trans K0.out)), hide ⟨OwG.keep_ OwAs.keeps HG3.out fun q hq => Below.heap_setCell w3 _ _ q (by have := (HN3.out.2 q hq).1; show q ≠ gp; omega), by rw [set_size]; exact HN3.out⟩, curN_push2 HC2.out HO3.out HLW.out hg (by omega), only_push2 (HB.out.trans HO2.out) HO3.out HLW.out (by omega)⟩
              · intro x hx
                rcases List.mem_append.1 hx with hx | hx
                · exact HL.out x hx
                · simp only [List.mem_singleton] at hx; subst hx; exact HOK.out
              · have := Bk.set HK3.out 1 (.slice A3 (l.length + 1) c3)
                rw [show (l ++ [a]).length = l.length + 1 from by simp]
                exact this
            case measure => simp [intOf]; omega
          · skip
            obtain rfl : k = 0 := by omega
            have hl1 : 1 ≤ l.length := by omega
            have hl3 : l.length ≤ 3 := by omega
            have c1 := kr.cell 1
            simp only [List.getElem?_toArray, List.getElem?_cons_succ, List.getElem?_cons_zero] at c1
            clear hk1 hk2 hlt
            go_wp2_with fail
            refine (l01BelowN_any g A n c 4 lo hi wa hn hCr (hAw.out _ hB) hd (by omega)).mono ?_
            rintro e w8 ⟨k4, rfl, hp0, hp1, _, hC8, hO8⟩
            have hp1 := hp1 (by decide)
            have y8 := hO8.size
            have HD8 : Hid (DrB g gp w8.heap.size w A n c #[.int .i64 (12 + dd), .slice M l.length cm, .slice none 0 0, .slice R nr cr, .slice none 0 0] M cm l bM none 0 0 [] [] w8) := hide ⟨kr.only hO8 (by omega), K0.out.only hO8 (by omega), OwG.keep_ OwAs.keeps HG.out.1 (fun q hq => hO8.block q (HG.out.2.2 q hq).2 (by have := (HG.out.2.2 q hq).1; omega)), HG.out.2.mono (Nat.le_refl _) y8, RowB.nil_ _ _ _, (fun b hb => by cases hb), hC8, hB.trans hO8, hg, hgw, by omega, Nat.le_refl _⟩
            obtain ⟨k4, rfl⟩ : ∃ k : Nat, k4 = k := ⟨k4.toNat, by omega⟩
            clear kr hB hCr hC8 hO8 K0 HG c1
            go_wp2
            go_loopw [10] (fun v wr => ∃ (k nl : Nat) (L : Option Addr) (cl : Nat) (xs : List Value) (bL : List Nat), nl + k ≤ 3 ∧ v = .int .i64 k ∧ Hid (DrB g gp w8.heap.size w A n c #[.int .i64 (12 + dd), .slice M l.length cm, .slice L nl cl, .slice R nr cr, .slice none 0 0] M cm l bM L nl cl xs bL wr)) (fun v _ => (intOf v).toNat)
            case atStart => exact ⟨k4, 0, none, 0, [], [], by omega, rfl, HD8⟩
            case round =>
              obtain ⟨wl, rfl⟩ : ∃ wl : World, wl = wr := ⟨_, rfl⟩
              clear HD8
              obtain ⟨k, nl, L, cl, xs, bL, hk3, rfl, HD⟩ := hrel
              have hgl := HD.out.sz
              by_cases hk0 : 0 < k
              case neg =>
                have kp := HD.out.kp
                have k0 := HD.out.k0
                have p0 := kp.cell 0
                have p1 := kp.cell 1
                have p2 := kp.cell 2
                have p3 := kp.cell 3
                have p4 := kp.cell 4
                have x0 := k0.cell 0
                have x1 := k0.cell 1
                have x2 := k0.cell 2
                have x3 := k0.cell 3
                have x4 := k0.cell 4
                have f0 := k0.frozen 0
                have f1 := k0.frozen 1
                have f2 := k0.frozen 2
                have f3 := k0.frozen 3
                have f4 := k0.frozen 4
                simp only [List.getElem?_toArray, List.getElem?_cons_succ, List.getElem?_cons_zero] at p0 p1 p2 p3 p4 x0 x1 x2 x3 x4
                have hkl := k0.lt
                clear kp k0
                go_wp2
                refine bodyPost_ret (v := .agg #[.int .i64 (12 + dd), .slice M l.length cm, .slice L nl cl, .slice R nr cr, .slice none 0 0]) ?_ rfl ?_
                · simp [results, Tryz.results72, go_sem, *]
                unfold DrPost
                refine ⟨12 + dd, l, M, cm, bM, L, R, none, nl, cl, nr, cr, 0, 0, rfl, hl1, ⟨hnr1, hnr2⟩, by omega, HL.out, ?_, ?_, ?_⟩
                · refine OwG.keep_ OwAs.keeps HD.out.acts fun q hq => (only5D wl w.heap.size _ _ _ _ _).block q ?_ ?_
                  · have := HD.out.nd.2 q hq; omega
                  · have := HD.out.nd.2 q hq; omega
                · refine HD.out.nd.mono (by omega) ?_
                  rw [set_size, set_size, set_size, set_size, set_size]
                  exact HD.out.sz
                · exact only_new (only_new (only_new (only_new (only_new HD.out.only (Nat.le_refl _) _) (Nat.le_refl _) _) (Nat.le_refl _) _) (Nat.le_refl _) _) (Nat.le_refl _) _
              by_cases hl2 : 1 < l.length
              case neg =>
                have hl2i : ¬ (1 : Int) < (l.length : Int) := by omega
                have kp := HD.out.kp
                have k0 := HD.out.k0
                have p0 := kp.cell 0
                have p1 := kp.cell 1
                have p2 := kp.cell 2
                have p3 := kp.cell 3
                have p4 := kp.cell 4
                have x0 := k0.cell 0
                have x1 := k0.cell 1
                have x2 := k0.cell 2
                have x3 := k0.cell 3
                have x4 := k0.cell 4
                have f0 := k0.frozen 0
                have f1 := k0.frozen 1
                have f2 := k0.frozen 2
                have f3 := k0.frozen 3
                have f4 := k0.frozen 4
                simp only [List.getElem?_toArray, List.getElem?_cons_succ, List.getElem?_cons_zero] at p0 p1 p2 p3 p4 x0 x1 x2 x3 x4
                have hkl := k0.lt
                clear kp k0
                go_wp2
                refine bodyPost_ret (v := .agg #[.int .i64 (12 + dd), .slice M l.length cm, .slice L nl cl, .slice R nr cr, .slice none 0 0]) ?_ rfl ?_
                · simp [results, Tryz.results72, go_sem, *]
                unfold DrPost
                refine ⟨12 + dd, l, M, cm, bM, L, R, none, nl, cl, nr, cr, 0, 0, rfl, hl1, ⟨hnr1, hnr2⟩, by omega, HL.out, ?_, ?_, ?_⟩
                · refine OwG.keep_ OwAs.keeps HD.out.acts fun q hq => (only5D wl w.heap.size _ _ _ _ _).block q ?_ ?_
                  · have := HD.out.nd.2 q hq; omega
                  · have := HD.out.nd.2 q hq; omega
                · refine HD.out.nd.mono (by omega) ?_
                  rw [set_size, set_size, set_size, set_size, set_size]
                  exact HD.out.sz
                · exact only_new (only_new (only_new (only_new (only_new HD.out.only (Nat.le_refl _) _) (Nat.le_refl _) _) (Nat.le_refl _) _) (Nat.le_refl _) _) (Nat.le_refl _) _
              case pos =>
                  have hl2i : (1 : Int) < (l.length : Int) := by omega
                  go_wp2_with fail
                  refine (l01BelowN_any g A n c _ lo hi wl hn HD.out.cur (hAw.out _ HD.out.only) hd (by omega)).mono ?_
                  rintro e v1 ⟨x1, rfl, hx0, hx1, _, hC1, hO1⟩
                  have hx1 := hx1 (by omega)
                  have HD := hide (HD.out.next hC1 hO1)
                  clear hC1 hO1
                  go_wp2_with fail
                  refine (l01BelowN_any g A n c _ lo hi v1 hn HD.out.cur (hAw.out _ HD.out.only) hd (by omega)).mono ?_
                  rintro e v2 ⟨x2, rfl, hy0, hy1, hy2, hC1, hO1⟩
                  have hx2 : x2 ≤ 3 := by
                    by_cases h : 0 < (l.length : Int) - 1 - x1
                    · have := hy1 h; omega
                    · have := hy2 (by omega); omega
                  have HD := hide (HD.out.next hC1 hO1)
                  clear hC1 hO1 hy1 hy2
                  go_wp2_with fail
                  refine (l01OnceN_any g A n c 3 lo hi v2 hn HD.out.cur (hAw.out _ HD.out.only) hd (by omega)).mono ?_
                  rintro e v3 ⟨b3, rfl, hC1, hO1⟩
                  have HD := hide (HD.out.next hC1 hO1)
                  clear hC1 hO1
                  go_wp2_with fail
                  refine (l01BelowN_any g A n c 3 lo hi v3 hn HD.out.cur (hAw.out _ HD.out.only) hd (by omega)).mono ?_
                  rintro e v4 ⟨x3, rfl, hz0, hz1, _, hC1, hO1⟩
                  have hz1 := hz1 (by decide)
                  have HD := hide (HD.out.next hC1 hO1)
                  clear hC1 hO1
                  go_wp2_with fail
                  refine at_world fun v5 hW => ?_
                  obtain ⟨gx, hgx⟩ : ∃ gx, gx = v4.heap.size := ⟨_, rfl⟩
                  have kx : Bk v5 gx 75 #[.int .i64 x1, .int .i64 (x1 + 1 + x2), .bool (!b3), .int .i64 x3] := by rw [hW, hgx]; exact Bk.made _ _ _
                  have HD5 := hide (show DrB g gp w8.heap.size w A n c #[.int .i64 (12 + dd), .slice M l.length cm, .slice L nl cl, .slice R nr cr, .slice none 0 0] M cm l bM L nl cl xs bL v5 from by rw [hW]; exact HD.out.alloc _)
                  have hgxl : w8.heap.size ≤ gx := by have := HD.out.sz; omega
                  have hgxb : gx ∉ bL := fun hm => by have := HD.out.row.lt gx hm; omega
                  have hgxg : g < gx := by have := HD.out.g0; have := HD.out.gp0; have := HD.out.lo; omega
                  have HGX := hide hgxb
                  rw [← hgx]
                  clear hW hgx HD hgxb
                  refine (l01OnceN_any g A n c 6 lo hi v5 hn HD5.out.cur (hAw.out _ HD5.out.only) hd (by omega)).mono ?_
                  rintro e v6 ⟨b6, rfl, hC1, hO1⟩
                  have HKX := hide (kx.only hO1 (by omega))
                  have HD := hide (HD5.out.next hC1 hO1)
                  clear hC1 hO1 kx HD5
                  cases b6
                  · skip
                    have kx0 := HKX.out.cell 0
                    have kx1 := HKX.out.cell 1
                    have kx2 := HKX.out.cell 2
                    have kx3 := HKX.out.cell 3
                    have kp2 := HD.out.kp.cell 2
                    simp only [List.getElem?_toArray, List.getElem?_cons_succ, List.getElem?_cons_zero] at kx0 kx1 kx2 kx3 kp2
                    have HRX := hide HD.out.row
                    go_wp2_with (at_builtin; go_must (refine wpList_pushB _ (.tmp 113) (.tmp 115) 31 75 _ 4 32 Tryz.underlying31 Tryz.infoLk rfl (by omega) L nl cl xs bL (HRX.out.allocd (fun q hq => HRX.out.lt q hq) _) v6.heap.size 0 1 1 [.int .i64 x1, .int .i64 (x1 + 1 + x2), .bool (!b3), .int .i64 x3] (by omega) rfl (four_newD _ _ _ _ _ _) (four_cellD rfl rfl rfl rfl) (by omega) (by omega) ?_ rfl rfl rfl rfl))
                    intro A9 c9 bs9 w9 hR9 hb9 hO9
                    have HD9 := hide (fun u => HD.out.push (u := u) hR9 hb9 hO9)
                    have kp9 := bk_push HD.out.kp hO9 (fun hm => by have := HD.out.low _ hm; have := HD.out.lo; omega)
                    have kc9 := kp9.cell 2
                    have kf9 := kp9.frozen 2
                    simp only [List.getElem?_toArray, List.getElem?_cons_succ, List.getElem?_cons_zero] at kc9
                    clear hR9 hb9 hO9 kp9 kx0 kx1 kx2 kx3 kp2
                    go_wp2
                    go_roundw
                    case rel => exact ⟨k - 1, nl + 1, A9, c9, _, bs9, by omega, val_int (by omega), hide (HD9.out _)⟩
                    case measure => simp [intOf]; omega
                  · have hSd : Bk v6.drew gx 75 #[.int .i64 x1, .int .i64 (x1 + 1 + x2), .bool (!b3), .int .i64 x3] := HKX.out
                    go_wp2_with fail
                    refine region_to (fun W => Bk W gx 75 #[.int .i64 x1, .int .i64 (x1 + 1 + x2), .bool (!b3), .int .i64 x3]) 8 (by kernel_rfl) ?_
                    refine AnyTo.take (i := 0) (v := ?_) rfl (by kernel_rfl) (by kernel_rfl) (by kernel_rfl) (by kernel_rfl) (fun _ _ _ h => h) (Or.inl ⟨by rfl, ?_⟩) hSd ?_
                    rotate_left
                    · intro W hS
                      have l0 := Bk.cell hS 0
                      have l1 := Bk.cell hS 1
                      simp only [List.getElem?_toArray, List.getElem?_cons_succ, List.getElem?_cons_zero] at l0 l1
                      go_simp
                      try with_reducible rfl
                    try simp only [Act.put, List.setIfInBounds_toArray, List.set_cons_zero, List.set_cons_succ]
                    refine AnyTo.take (i := 1) (v := ?_) rfl (by kernel_rfl) (by kernel_rfl) (by kernel_rfl) (by kernel_rfl) (fun _ _ _ h => h) (Or.inl ⟨by rfl, ?_⟩) hSd ?_
                    rotate_left
                    · intro W hS
                      have l0 := Bk.cell hS 0
                      have l1 := Bk.cell hS 1
                      simp only [List.getElem?_toArray, List.getElem?_cons_succ, List.getElem?_cons_zero] at l0 l1
                      go_simp
                      try with_reducible rfl
                    try simp only [Act.put, List.setIfInBounds_toArray, List.set_cons_zero, List.set_cons_succ]
                    refine AnyTo.take (i := 2) (v := ?_) rfl (by kernel_rfl) (by kernel_rfl) (by kernel_rfl) (by kernel_rfl) (fun _ _ _ h => h) (Or.inl ⟨by rfl, ?_⟩) hSd ?_
                    rotate_left
                    · intro W hS
                      have l0 := Bk.cell hS 0
                      have l1 := Bk.cell hS 1
                      simp only [List.getElem?_toArray, List.getElem?_cons_succ, List.getElem?_cons_zero] at l0 l1
                      go_simp
                      try with_reducible rfl
                    try simp only [Act.put, List.setIfInBounds_toArray, List.set_cons_zero, List.set_cons_succ]
                    refine AnyTo.take (i := 3) (v := ?_) rfl (by kernel_rfl) (by kernel_rfl) (by kernel_rfl) (by kernel_rfl) (fun _ _ _ h => h) (Or.inl ⟨by rfl, ?_⟩) hSd ?_
                    rotate_left
                    · intro W hS
                      have l0 := Bk.cell hS 0
                      have l1 := Bk.cell hS 1
                      simp only [List.getElem?_toArray, List.getElem?_cons_succ, List.getElem?_cons_zero] at l0 l1
                      go_simp
                      try with_reducible rfl
                    try simp only [Act.put, List.setIfInBounds_toArray, List.set_cons_zero, List.set_cons_succ]
                    refine AnyTo.take (i := 4) (v := ?_) rfl (by kernel_rfl) (by kernel_rfl) (by kernel_rfl) (by kernel_rfl) (fun _ _ _ h => h) (Or.inl ⟨by rfl, ?_⟩) hSd ?_
                    rotate_left
                    · intro W hS
                      have l0 := Bk.cell hS 0
                      have l1 := Bk.cell hS 1
                      simp only [List.getElem?_toArray, List.getElem?_cons_succ, List.getElem?_cons_zero] at l0 l1
                      go_simp
                      try with_reducible rfl
                    try simp only [Act.put, List.setIfInBounds_toArray, List.set_cons_zero, List.set_cons_succ]
                    refine AnyTo.step (i := 5) (by kernel_rfl) rfl (fun K hK => ?_)
                    go_simp
                    go_at_call 129
                    refine (l01BelowN_any g A n c 9 lo hi v6.drew hn (HD.out.cur.qt 1) ((hAw.out _ HD.out.only).qt 1) hd (by omega)).mono ?_
                    rintro e v7 ⟨x4, rfl, hq0, hq1, _, hC1, hO1⟩
                    have hq1 := hq1 (by decide)
                    have hO1 : Only g (g + 1) v6 v7 := ((Only.refl g (g + 1) v6).drewN 1).trans hO1
                    have HKX := hide (HKX.out.only hO1 (by omega))
                    have HD := hide (HD.out.next hC1 hO1)
                    clear hC1 hO1
                    have hw4 : IntKind.i64.wrap (-4 - x4) = -4 - x4 := IntWalk.i64_in _ (by omega)
                    have hSk := HKX.out
                    refine hK.out _ _ (fun _ => hSk) (fun _ => ?_)
                    clear hK K
                    try simp only [Act.put, List.setIfInBounds_toArray, List.set_cons_zero, List.set_cons_succ]
                    refine AnyTo.take (i := 6) (v := ?_) rfl (by kernel_rfl) (by kernel_rfl) (by kernel_rfl) (by kernel_rfl) (fun _ _ _ h => h) (Or.inl ⟨by rfl, ?_⟩) hSk ?_
                    rotate_left
                    · intro W hS
                      have l0 := Bk.cell hS 0
                      have l1 := Bk.cell hS 1
                      simp only [List.getElem?_toArray, List.getElem?_cons_succ, List.getElem?_cons_zero] at l0 l1
                      go_simp
                      try with_reducible rfl
                    try simp only [Act.put, List.setIfInBounds_toArray, List.set_cons_zero, List.set_cons_succ]
                    refine AnyTo.take (i := 7) (v := ?_) rfl (by kernel_rfl) (by kernel_rfl) (by kernel_rfl) (by kernel_rfl) (fun _ _ _ h => h) (Or.inl ⟨by rfl, ?_⟩) hSk ?_
                    rotate_left
                    · intro W hS
                      have l0 := Bk.cell hS 0
                      have l1 := Bk.cell hS 1
                      simp only [List.getElem?_toArray, List.getElem?_cons_succ, List.getElem?_cons_zero] at l0 l1
                      go_simp
                      try with_reducible rfl
                    try simp only [Act.put, List.setIfInBounds_toArray, List.set_cons_zero, List.set_cons_succ]
                    have q0 := hSk.cell 0
                    have q1 := hSk.cell 1
                    have q2 := hSk.cell 2
                    have q3 := hSk.cell 3
                    have r0 := hSk.frozen 0
                    have r1 := hSk.frozen 1
                    have r2 := hSk.frozen 2
                    have r3 := hSk.frozen 3
                    simp only [List.getElem?_toArray, List.getElem?_cons_succ, List.getElem?_cons_zero] at q0 q1 q2 q3
                    obtain ⟨v8, hv8⟩ : ∃ v, v = (((v7.setCell ⟨gx, 0, none⟩ (.int .i64 (x1 + 1 + x2))).setCell ⟨gx, 1, none⟩ (.int .i64 x1)).setCell ⟨gx, 2, none⟩ (.bool false)).setCell ⟨gx, 3, none⟩ (.int .i64 (-4 - x4)) := ⟨_, rfl⟩
                    have HKX : Hid (Bk v8 gx 75 #[.int .i64 (x1 + 1 + x2), .int .i64 x1, .bool false, .int .i64 (-4 - x4)]) := hide (by rw [hv8]; exact (((hSk.set 0 _).set 1 _).set 2 _).set 3 _)
                    have HD := hide (show DrB g gp w8.heap.size w A n c #[.int .i64 (12 + dd), .slice M l.length cm, .slice L nl cl, .slice R nr cr, .slice none 0 0] M cm l bM L nl cl xs bL v8 from by rw [hv8]; exact (((HD.out.set hgxl HGX.out).set hgxl HGX.out).set hgxl HGX.out).set hgxl HGX.out)
                    have HV8 := hide hv8
                    clear hv8 hSd
                    refine AnyTo.step (i := 8) (by kernel_rfl) rfl (fun K hK => ?_)
                    go_simp
                    rw [← HV8.out]
                    refine hK.out _ _ (fun h => absurd rfl h) (fun _ => ?_)
                    clear hK K
                    try simp only [Act.put, List.setIfInBounds_toArray, List.set_cons_zero, List.set_cons_succ]
                    refine AnyTo.done (by kernel_rfl) ?_ _
                    clear q0 q1 q2 q3 r0 r1 r2 r3 hw4 hSk HV8
                    have kx0 := HKX.out.cell 0
                    have kx1 := HKX.out.cell 1
                    have kx2 := HKX.out.cell 2
                    have kx3 := HKX.out.cell 3
                    have kp2 := HD.out.kp.cell 2
                    simp only [List.getElem?_toArray, List.getElem?_cons_succ, List.getElem?_cons_zero] at kx0 kx1 kx2 kx3 kp2
                    have HRX := hide HD.out.row
                    go_wp2_with (at_builtin; go_must (refine wpList_pushB _ (.tmp 113) (.tmp 115) 31 75 _ 4 32 Tryz.underlying31 Tryz.infoLk rfl (by omega) L nl cl xs bL (HRX.out.allocd (fun q hq => HRX.out.lt q hq) _) v8.heap.size 0 1 1 [.int .i64 (x1 + 1 + x2), .int .i64 x1, .bool false, .int .i64 (-4 - x4)] (by omega) rfl (four_newD _ _ _ _ _ _) (four_cellD rfl rfl rfl rfl) (by omega) (by omega) ?_ rfl rfl rfl rfl))
                    intro A9 c9 bs9 w9 hR9 hb9 hO9
                    have HD9 := hide (fun u => HD.out.push (u := u) hR9 hb9 hO9)
                    have kp9 := bk_push HD.out.kp hO9 (fun hm => by have := HD.out.low _ hm; have := HD.out.lo; omega)
                    have kc9 := kp9.cell 2
                    have kf9 := kp9.frozen 2
                    simp only [List.getElem?_toArray, List.getElem?_cons_succ, List.getElem?_cons_zero] at kc9
                    clear hR9 hb9 hO9 kp9 kx0 kx1 kx2 kx3 kp2
                    go_wp2
                    go_roundw
                    case rel => exact ⟨k - 1, nl + 1, A9, c9, _, bs9, by omega, val_int (by omega), hide (HD9.out _)⟩
                    case measure => simp [intOf]; omega
      · go_wp2_with fail
        refine (l01BelowN_any g A n c 6 lo hi w1 hn hC1 (hAw.out _ hO1) hd (by omega)).mono ?_
        rintro e w2 ⟨x, rfl, _, _, _, hC2, hO2⟩
        have y2 := hO2.size
        have kp := kp.only hO2 (by omega)
        have k0 := k0.only hO2 (by omega)
        have hO2 := hO1.trans hO2
        have kpa := fun o => kp.alloc o
        have d4 := fun o => (kp.alloc o).cell 4
        have f4 := fun o => (kp.alloc o).frozen 4
        simp only [List.getElem?_toArray, List.getElem?_cons_succ, List.getElem?_cons_zero] at d4
        have HKP := hide kp; have HK0 := hide k0; have HC2 := hide hC2; have HO2 := hide hO2
        clear kp k0 hC2 hO2 hC1 hO1 kpa
        go_wp2_with fail
        refine at_world fun W hW => ?_
        have kp : Bk W gp 34 #[.int .i64 (12 + dd), .slice none 0 0, .slice none 0 0, .slice R nr cr, .slice (some ⟨w2.heap.size, 0, none⟩) 1 1] := by rw [hW]; exact (HKP.out.alloc _).set 4 _
        have k0 : Bk W w.heap.size 34 zPj := by rw [hW]; exact (HK0.out.alloc _).far (p := ⟨gp, 4, none⟩) (by show w.heap.size ≠ gp; omega) _
        have hCW : CurN W g A n c := by rw [hW]; exact (HC2.out.alloc _).set (p := ⟨gp, 4, none⟩) (by show g ≠ gp; omega) _
        have hOW : Only g (g + 1) w W := by rw [hW]; exact only_new (HO2.out.alloc _) (p := ⟨gp, 4, none⟩) (by show w.heap.size ≤ gp; omega) _
        have yW := hOW.size
        clear hW HKP HK0 HC2 HO2 d4 f4
        refine (l01BelowN_any g A n c 3 lo hi W hn hCW (hAw.out _ hOW) hd (by omega)).mono ?_
        rintro e w7 ⟨k3, rfl, hm0, hm1, _, hC7, hO7⟩
        have hm1 := hm1 (by decide)
        have y7 := hO7.size
        have KP := hide (kp.only hO7 (by omega))
        have K0 := hide (k0.only hO7 (by omega))
        have HO7 := hide (hOW.trans hO7)
        obtain ⟨k3, rfl⟩ : ∃ k : Nat, k3 = k := ⟨k3.toNat, by omega⟩
        have hz7 := HO7.out.size
        clear hCW hOW kp k0 hO7
        go_wp2
        go_loopw [8] (fun v wr => ∃ (k : Nat) (l : List Ac) (M : Option Addr) (cm : Nat) (bM : List Nat), 1 ≤ l.length + k ∧ l.length + k ≤ 3 ∧ v = .int .i64 k ∧ Hid (∀ a ∈ l, acOkB a nr 1 = true) ∧ Bk wr gp 34 #[.int .i64 (12 + dd), .slice M l.length cm, .slice none 0 0, .slice R nr cr, .slice (some ⟨w2.heap.size, 0, none⟩) 1 1] ∧ Hid (Bk wr w.heap.size 34 zPj) ∧ Hid (OwG 3 46 OwA ac0 wr M cm l bM ∧ Nd bM (gp + 1) wr.heap.size) ∧ CurN wr g A n c ∧ Only g (g + 1) w wr) (fun v _ => (intOf v).toNat)
        case atStart => exact ⟨1 + k3, [], none, 0, [], by simp, by simp; omega, val_int (by omega), hide (fun a ha => by cases ha), KP.out, K0, hide ⟨OwG.nil_ _ _ _ _ _, Nd.nil _ _⟩, hC7, HO7.out⟩
        case round =>
          obtain ⟨wa, rfl⟩ : ∃ wa : World, wa = wr := ⟨_, rfl⟩
          clear KP K0 HO7 hC7
          obtain ⟨k, l, M, cm, bM, hk1, hk2, rfl, HL, kr, K0, HG, hCr, hB⟩ := hrel
          have hsz := hB.size
          have hgs := kr.lt
          by_cases hlt : 0 < k
          · skip
            have HKR := hide kr
            have hSd : Bk wa.drew gp 34 #[.int .i64 (12 + dd), .slice M l.length cm, .slice none 0 0, .slice R nr cr, .slice (some ⟨w2.heap.size, 0, none⟩) 1 1] := kr
            have HB := hide hB
            have HC := hide hCr
            clear kr hB hCr
            go_wp2_with fail
            refine region_to (fun W => Bk W gp 34 #[.int .i64 (12 + dd), .slice M l.length cm, .slice none 0 0, .slice R nr cr, .slice (some ⟨w2.heap.size, 0, none⟩) 1 1]) 16 (by kernel_rfl) ?_
            refine AnyTo.take (i := 0) (v := ?_) rfl (by kernel_rfl) (by kernel_rfl) (by kernel_rfl) (by kernel_rfl) (fun _ _ _ h => h) (Or.inl ⟨by rfl, ?_⟩) hSd ?_
            rotate_left
            · intro W hS
              have l0 := Bk.cell hS 0
              have l1 := Bk.cell hS 1
              have l3 := Bk.cell hS 3
              have l4 := Bk.cell hS 4
              simp only [List.getElem?_toArray, List.getElem?_cons_succ, List.getElem?_cons_zero] at l0 l1 l3 l4
              go_simp
              try with_reducible rfl
            try simp only [Act.put, List.setIfInBounds_toArray, List.set_cons_zero, List.set_cons_succ]
            refine AnyTo.take (i := 1) (v := ?_) rfl (by kernel_rfl) (by kernel_rfl) (by kernel_rfl) (by kernel_rfl) (fun _ _ _ h => h) (Or.inl ⟨by rfl, ?_⟩) hSd ?_
            rotate_left
            · intro W hS
              have l0 := Bk.cell hS 0
              have l1 := Bk.cell hS 1
              have l3 := Bk.cell hS 3
              have l4 := Bk.cell hS 4
              simp only [List.getElem?_toArray, List.getElem?_cons_succ, List.getElem?_cons_zero] at l0 l1 l3 l4
              go_simp
              try with_reducible rfl
            try simp only [Act.put, List.setIfInBounds_toArray, List.set_cons_zero, List.set_cons_succ]
            refine AnyTo.take (i := 2) (v := ?_) rfl (by kernel_rfl) (by kernel_rfl) (by kernel_rfl) (by kernel_rfl) (fun _ _ _ h => h) (Or.inl ⟨by rfl, ?_⟩) hSd ?_
            rotate_left
            · intro W hS
              have l0 := Bk.cell hS 0
              have l1 := Bk.cell hS 1
              have l3 := Bk.cell hS 3
              have l4 := Bk.cell hS 4
              simp only [List.getElem?_toArray, List.getElem?_cons_succ, List.getElem?_cons_zero] at l0 l1 l3 l4
              go_simp
              try with_reducible rfl
            try simp only [Act.put, List.setIfInBounds_toArray, List.set_cons_zero, List.set_cons_succ]
            refine AnyTo.take (i := 3) (v := ?_) rfl (by kernel_rfl) (by kernel_rfl) (by kernel_rfl) (by kernel_rfl) (fun _ _ _ h => h) (Or.inl ⟨by rfl, ?_⟩) hSd ?_
            rotate_left
            · intro W hS
              have l0 := Bk.cell hS 0
              have l1 := Bk.cell hS 1
              have l3 := Bk.cell hS 3
              have l4 := Bk.cell hS 4
              simp only [List.getElem?_toArray, List.getElem?_cons_succ, List.getElem?_cons_zero] at l0 l1 l3 l4
              go_simp
              try with_reducible rfl
            try simp only [Act.put, List.setIfInBounds_toArray, List.set_cons_zero, List.set_cons_succ]
            refine AnyTo.take (i := 4) (v := ?_) rfl (by kernel_rfl) (by kernel_rfl) (by kernel_rfl) (by kernel_rfl) (fun _ _ _ h => h) (Or.inl ⟨by rfl, ?_⟩) hSd ?_
            rotate_left
            · intro W hS
              have l0 := Bk.cell hS 0
              have l1 := Bk.cell hS 1
              have l3 := Bk.cell hS 3
              have l4 := Bk.cell hS 4
              simp only [List.getElem?_toArray, List.getElem?_cons_succ, List.getElem?_cons_zero] at l0 l1 l3 l4
              go_simp
              try with_reducible rfl
            try simp only [Act.put, List.setIfInBounds_toArray, List.set_cons_zero, List.set_cons_succ]
            refine AnyTo.take (i := 5) (v := ?_) rfl (by kernel_rfl) (by kernel_rfl) (by kernel_rfl) (by kernel_rfl) (fun _ _ _ h => h) (Or.inl ⟨by rfl, ?_⟩) hSd ?_
            rotate_left
            · intro W hS
              have l0 := Bk.cell hS 0
              have l1 := Bk.cell hS 1
              have l3 := Bk.cell hS 3
              have l4 := Bk.cell hS 4
              simp only [List.getElem?_toArray, List.getElem?_cons_succ, List.getElem?_cons_zero] at l0 l1 l3 l4
              go_simp
              try with_reducible rfl
            try simp only [Act.put, List.setIfInBounds_toArray, List.set_cons_zero, List.set_cons_succ]
            refine AnyTo.take (i := 6) (v := ?_) rfl (by kernel_rfl) (by kernel_rfl) (by kernel_rfl) (by kernel_rfl) (fun _ _ _ h => h) (Or.inl ⟨by rfl, ?_⟩) hSd ?_
            rotate_left
            · intro W hS
              have l0 := Bk.cell hS 0
              have l1 := Bk.cell hS 1
              have l3 := Bk.cell hS 3
              have l4 := Bk.cell hS 4
              simp only [List.getElem?_toArray, List.getElem?_cons_succ, List.getElem?_cons_zero] at l0 l1 l3 l4
              go_simp
              try with_reducible rfl
            try simp only [Act.put, List.setIfInBounds_toArray, List.set_cons_zero, List.set_cons_succ]
            refine AnyTo.take (i := 7) (v := ?_) rfl (by kernel_rfl) (by kernel_rfl) (by kernel_rfl) (by kernel_rfl) (fun _ _ _ h => h) (Or.inl ⟨by rfl, ?_⟩) hSd ?_
            rotate_left
            · intro W hS
              have l0 := Bk.cell hS 0
              have l1 := Bk.cell hS 1
              have l3 := Bk.cell hS 3
              have l4 := Bk.cell hS 4
              simp only [List.getElem?_toArray, List.getElem?_cons_succ, List.getElem?_cons_zero] at l0 l1 l3 l4
              go_simp
              try with_reducible rfl
            try simp only [Act.put, List.setIfInBounds_toArray, List.set_cons_zero, List.set_cons_succ]
            refine AnyTo.take (i := 8) (v := ?_) rfl (by kernel_rfl) (by kernel_rfl) (by kernel_rfl) (by kernel_rfl) (fun _ _ _ h => h) (Or.inl ⟨by rfl, ?_⟩) hSd ?_
            rotate_left
            · intro W hS
              have l0 := Bk.cell hS 0
              have l1 := Bk.cell hS 1
              have l3 := Bk.cell hS 3
              have l4 := Bk.cell hS 4
              simp only [List.getElem?_toArray, List.getElem?_cons_succ, List.getElem?_cons_zero] at l0 l1 l3 l4
              go_simp
              try with_reducible rfl
            try simp only [Act.put, List.setIfInBounds_toArray, List.set_cons_zero, List.set_cons_succ]
            refine AnyTo.take (i := 9) (v := ?_) rfl (by kernel_rfl) (by kernel_rfl) (by kernel_rfl) (by kernel_rfl) (fun _ _ _ h => h) (Or.inl ⟨by rfl, ?_⟩) hSd ?_
            rotate_left
            · intro W hS
              have l0 := Bk.cell hS 0
              have l1 := Bk.cell hS 1
              have l3 := Bk.cell hS 3
              have l4 := Bk.cell hS 4
              simp only [List.getElem?_toArray, List.getElem?_cons_succ, List.getElem?_cons_zero] at l0 l1 l3 l4
              go_simp
              try with_reducible rfl
            try simp only [Act.put, List.setIfInBounds_toArray, List.set_cons_zero, List.set_cons_succ]
            refine AnyTo.take (i := 10) (v := ?_) rfl (by kernel_rfl) (by kernel_rfl) (by kernel_rfl) (by kernel_rfl) (fun _ _ _ h => h) (Or.inl ⟨by rfl, ?_⟩) hSd ?_
            rotate_left
            · intro W hS
              have l0 := Bk.cell hS 0
              have l1 := Bk.cell hS 1
              have l3 := Bk.cell hS 3
              have l4 := Bk.cell hS 4
              simp only [List.getElem?_toArray, List.getElem?_cons_succ, List.getElem?_cons_zero] at l0 l1 l3 l4
              go_simp
              try with_reducible rfl
            try simp only [Act.put, List.setIfInBounds_toArray, List.set_cons_zero, List.set_cons_succ]
            refine AnyTo.take (i := 11) (v := ?_) rfl (by kernel_rfl) (by kernel_rfl) (by kernel_rfl) (by kernel_rfl) (fun _ _ _ h => h) (Or.inl ⟨by rfl, ?_⟩) hSd ?_
            rotate_left
            · intro W hS
              have l0 := Bk.cell hS 0
              have l1 := Bk.cell hS 1
              have l3 := Bk.cell hS 3
              have l4 := Bk.cell hS 4
              simp only [List.getElem?_toArray, List.getElem?_cons_succ, List.getElem?_cons_zero] at l0 l1 l3 l4
              go_simp
              try with_reducible rfl
            try simp only [Act.put, List.setIfInBounds_toArray, List.set_cons_zero, List.set_cons_succ]
            refine AnyTo.step (i := 12) (by kernel_rfl) rfl (fun K hK => ?_)
            go_simp
            go_at_call 133
            refine (l04Draw_any g A n c l.length nr 1 (by omega) (by omega) (by omega) lo hi wa.drew hn (HC.out.qt 1) ((hAw.out _ HB.out).qt 1) hd).mono ?_
            rintro e w2 ⟨a, Ma, cma, ba, rfl, hok, hml, hOA, hNA, hC2, hO2⟩
            have hO2 : Only g (g + 1) wa w2 := ((Only.refl g (g + 1) wa).drewN 1).trans hO2
            have hNA : Nd ba wa.heap.size w2.heap.size := hNA
            have y2 := hO2.size
            have kq2 := HKR.out.only hO2 (by omega)
            have HEL := hide (fun o => el_only OwAs.keeps HG.out.1 HG.out.2 hO2 (by omega) hOA hNA (by omega) o)
            have HC2 := hide hC2; have HO2 := hide hO2; have HKQ := hide kq2; have HOK := hide hok
            clear hC2 hO2 kq2 hok hOA hNA hml
            refine hK.out _ _ (fun _ => HKQ.out) (fun _ => ?_)
            clear hK K
            try simp only [Act.put, List.setIfInBounds_toArray, List.set_cons_zero, List.set_cons_succ]
            refine AnyTo.step (i := 13) (by kernel_rfl) rfl (fun K hK => ?_)
            go_simp
            refine hK.out _ _ (fun _ => HKQ.out.alloc _) (fun _ => ?_)
            clear hK K
            try simp only [Act.put, List.setIfInBounds_toArray, List.set_cons_zero, List.set_cons_succ]
            refine AnyTo.step (i := 14) (by kernel_rfl) rfl (fun K hK => ?_)
            refine step_pushN OwAs.keeps (by rfl) (.tmp 54) (.tmp 66) 30 (by rfl) 46 _ 3 48 Tryz.underlying30 Tryz.infoAc rfl (by omega) M l.length cm l bM (gp + 1) rfl (by rfl) a #[.string a.name, .int .i64 a.fam, .slice Ma a.modes.length cma] ba (HEL.out _) rfl w2.heap.size 0 1 (by rfl) (three_new _ _ _ _ _) (three_cell rfl rfl rfl) (by omega) (by omega) (by simp; omega) ?_
            intro A3 c3 bs3 w3 hG3 hN3 hb3 hO3
            have hg3 : g ∉ bM := fun hm => by have := (HG.out.2.2 _ hm).1; omega
            have hp3 : gp ∉ bM := fun hm => by have := (HG.out.2.2 _ hm).1; omega
            have hw3 : w.heap.size ∉ bM := fun hm => by have := (HG.out.2.2 _ hm).1; omega
            have hl3 : ∀ q ∈ bM, w.heap.size ≤ q := fun q hq => by have := (HG.out.2.2 q hq).1; omega
            have kq3 := bk_push HKQ.out hO3 hp3
            have HG3 := hide hG3; have HN3 := hide hN3; have HO3 := hide hO3; have HK3 := hide kq3; have HLW := hide hl3; have HGW := hide hw3
            clear hG3 hN3 hb3 hO3 hg3 hp3 hl3 hw3 kq3
            refine hK.out _ _ (fun _ => HK3.out) (fun _ => ?_)
            clear hK K
            try simp only [Act.put, List.setIfInBounds_toArray, List.set_cons_zero, List.set_cons_succ]
            refine AnyTo.take (i := 15) (v := ?_) rfl (by kernel_rfl) (by kernel_rfl) (by kernel_rfl) (by kernel_rfl) (fun _ _ _ h => h) (Or.inl ⟨by rfl, ?_⟩) HK3.out ?_
            rotate_left
            · intro W hS
              have l0 := Bk.cell hS 0
              have l1 := Bk.cell hS 1
              have l3 := Bk.cell hS 3
              have l4 := Bk.cell hS 4
              simp only [List.getElem?_toArray, List.getElem?_cons_succ, List.getElem?_cons_zero] at l0 l1 l3 l4
              go_simp
              try with_reducible rfl
            try simp only [Act.put, List.setIfInBounds_toArray, List.set_cons_zero, List.set_cons_succ]
            have d1 := HK3.out.cell 1
            have f1 := HK3.out.frozen 1
            simp only [List.getElem?_toArray, List.getElem?_cons_succ, List.getElem?_cons_zero] at d1
            refine AnyTo.step (i := 16) (by kernel_rfl) rfl (fun K hK => ?_)
            go_simp
            refine hK.out _ _ (fun h => absurd rfl h) (fun _ => ?_)
            clear hK K
            try simp only [Act.put, List.setIfInBounds_toArray, List.set_cons_zero, List.set_cons_succ]
            refine AnyTo.done (by kernel_rfl) ?_ _
            clear d1 f1
            go_wp2
            go_roundw
            case rel =>
              refine ⟨k - 1, l ++ [a], A3, c3, bs3, by simp; omega, by simp; omega, val_int (by omega), hide ?_, ?_, hide ((far_push HO3.out (by have := K0.out.lt; omega) HGW.out (by omega)).trans ((HO2.out.block w.heap.size K0.out.lt (by omega)).trans K0.out)), hide ⟨OwG.keep_ OwAs.keeps HG3.out fun q hq => Below.heap_setCell w3 _ _ q (by have := (HN3.out.2 q hq).1; show q ≠ gp; omega), by rw [set_size]; exact HN3.out⟩, curN_push2 HC2.out HO3.out HLW.out hg (by omega), only_push2 (HB.out.trans HO2.out) HO3.out HLW.out (by omega)⟩
              · intro x hx
                rcases List.mem_append.1 hx with hx | hx
                · exact HL.out x hx
                · simp only [List.mem_singleton] at hx; subst hx; exact HOK.out
              · have := Bk.set HK3.out 1 (.slice A3 (l.length + 1) c3)
                rw [show (l ++ [a]).length = l.length + 1 from by simp]
                exact this
            case measure => simp [intOf]; omega
          · skip
            obtain rfl : k = 0 := by omega
            have hl1 : 1 ≤ l.length := by omega
            have hl3 : l.length ≤ 3 := by omega
            have c1 := kr.cell 1
            simp only [List.getElem?_toArray, List.getElem?_cons_succ, List.getElem?_cons_zero] at c1
            clear hk1 hk2 hlt
            go_wp2_with fail
            refine (l01BelowN_any g A n c 4 lo hi wa hn hCr (hAw.out _ hB) hd (by omega)).mono ?_
            rintro e w8 ⟨k4, rfl, hp0, hp1, _, hC8, hO8⟩
            have hp1 := hp1 (by decide)
            have y8 := hO8.size
            have HD8 : Hid (DrB g gp w8.heap.size w A n c #[.int .i64 (12 + dd), .slice M l.length cm, .slice none 0 0, .slice R nr cr, .slice (some ⟨w2.heap.size, 0, none⟩) 1 1] M cm l bM none 0 0 [] [] w8) := hide ⟨kr.only hO8 (by omega), K0.out.only hO8 (by omega), OwG.keep_ OwAs.keeps HG.out.1 (fun q hq => hO8.block q (HG.out.2.2 q hq).2 (by have := (HG.out.2.2 q hq).1; omega)), HG.out.2.mono (Nat.le_refl _) y8, RowB.nil_ _ _ _, (fun b hb => by cases hb), hC8, hB.trans hO8, hg, hgw, by omega, Nat.le_refl _⟩
            obtain ⟨k4, rfl⟩ : ∃ k : Nat, k4 = k := ⟨k4.toNat, by omega⟩
            clear kr hB hCr hC8 hO8 K0 HG c1
            go_wp2
            go_loopw [10] (fun v wr => ∃ (k nl : Nat) (L : Option Addr) (cl : Nat) (xs : List Value) (bL : List Nat), nl + k ≤ 3 ∧ v = .int .i64 k ∧ Hid (DrB g gp w8.heap.size w A n c #[.int .i64 (12 + dd), .slice M l.length cm, .slice L nl cl, .slice R nr cr, .slice (some ⟨w2.heap.size, 0, none⟩) 1 1] M cm l bM L nl cl xs bL wr)) (fun v _ => (intOf v).toNat)
            case atStart => exact ⟨k4, 0, none, 0, [], [], by omega, rfl, HD8⟩
            case round =>
              obtain ⟨wl, rfl⟩ : ∃ wl : World, wl = wr := ⟨_, rfl⟩
              clear HD8
              obtain ⟨k, nl, L, cl, xs, bL, hk3, rfl, HD⟩ := hrel
              have hgl := HD.out.sz
              by_cases hk0 : 0 < k
              case neg =>
                have kp := HD.out.kp
                have k0 := HD.out.k0
                have p0 := kp.cell 0
                have p1 := kp.cell 1
                have p2 := kp.cell 2
                have p3 := kp.cell 3
                have p4 := kp.cell 4
                have x0 := k0.cell 0
                have x1 := k0.cell 1
                have x2 := k0.cell 2
                have x3 := k0.cell 3
                have x4 := k0.cell 4
                have f0 := k0.frozen 0
                have f1 := k0.frozen 1
                have f2 := k0.frozen 2
                have f3 := k0.frozen 3
                have f4 := k0.frozen 4
                simp only [List.getElem?_toArray, List.getElem?_cons_succ, List.getElem?_cons_zero] at p0 p1 p2 p3 p4 x0 x1 x2 x3 x4
                have hkl := k0.lt
                clear kp k0
                go_wp2
                refine bodyPost_ret (v := .agg #[.int .i64 (12 + dd), .slice M l.length cm, .slice L nl cl, .slice R nr cr, .slice (some ⟨w2.heap.size, 0, none⟩) 1 1]) ?_ rfl ?_
                · simp [results, Tryz.results72, go_sem, *]
                unfold DrPost
                refine ⟨12 + dd, l, M, cm, bM, L, R, (some ⟨w2.heap.size, 0, none⟩), nl, cl, nr, cr, 1, 1, rfl, hl1, ⟨hnr1, hnr2⟩, by omega, HL.out, ?_, ?_, ?_⟩
                · refine OwG.keep_ OwAs.keeps HD.out.acts fun q hq => (only5D wl w.heap.size _ _ _ _ _).block q ?_ ?_
                  · have := HD.out.nd.2 q hq; omega
                  · have := HD.out.nd.2 q hq; omega
                · refine HD.out.nd.mono (by omega) ?_
                  rw [set_size, set_size, set_size, set_size, set_size]
                  exact HD.out.sz
                · exact only_new (only_new (only_new (only_new (only_new HD.out.only (Nat.le_refl _) _) (Nat.le_refl _) _) (Nat.le_refl _) _) (Nat.le_refl _) _) (Nat.le_refl _) _
              by_cases hl2 : 1 < l.length
              case neg =>
                have hl2i : ¬ (1 : Int) < (l.length : Int) := by omega
                have kp := HD.out.kp
                have k0 := HD.out.k0
                have p0 := kp.cell 0
                have p1 := kp.cell 1
                have p2 := kp.cell 2
                have p3 := kp.cell 3
                have p4 := kp.cell 4
                have x0 := k0.cell 0
                have x1 := k0.cell 1
                have x2 := k0.cell 2
                have x3 := k0.cell 3
                have x4 := k0.cell 4
                have f0 := k0.frozen 0
                have f1 := k0.frozen 1
                have f2 := k0.frozen 2
                have f3 := k0.frozen 3
                have f4 := k0.frozen 4
                simp only [List.getElem?_toArray, List.getElem?_cons_succ, List.getElem?_cons_zero] at p0 p1 p2 p3 p4 x0 x1 x2 x3 x4
                have hkl := k0.lt
                clear kp k0
                go_wp2
                refine bodyPost_ret (v := .agg #[.int .i64 (12 + dd), .slice M l.length cm, .slice L nl cl, .slice R nr cr, .slice (some ⟨w2.heap.size, 0, none⟩) 1 1]) ?_ rfl ?_
                · simp [results, Tryz.results72, go_sem, *]
                unfold DrPost
                refine ⟨12 + dd, l, M, cm, bM, L, R, (some ⟨w2.heap.size, 0, none⟩), nl, cl, nr, cr, 1, 1, rfl, hl1, ⟨hnr1, hnr2⟩, by omega, HL.out, ?_, ?_, ?_⟩
                · refine OwG.keep_ OwAs.keeps HD.out.acts fun q hq => (only5D wl w.heap.size _ _ _ _ _).block q ?_ ?_
                  · have := HD.out.nd.2 q hq; omega
                  · have := HD.out.nd.2 q hq; omega
                · refine HD.out.nd.mono (by omega) ?_
                  rw [set_size, set_size, set_size, set_size, set_size]
                  exact HD.out.sz
                · exact only_new (only_new (only_new (only_new (only_new HD.out.only (Nat.le_refl _) _) (Nat.le_refl _) _) (Nat.le_refl _) _) (Nat.le_refl _) _) (Nat.le_refl _) _
              case pos =>
                  have hl2i : (1 : Int) < (l.length : Int) := by omega
                  go_wp2_with fail
                  refine (l01BelowN_any g A n c _ lo hi wl hn HD.out.cur (hAw.out _ HD.out.only) hd (by omega)).mono ?_
                  rintro e v1 ⟨x1, rfl, hx0, hx1, _, hC1, hO1⟩
                  have hx1 := hx1 (by omega)
                  have HD := hide (HD.out.next hC1 hO1)
                  clear hC1 hO1
                  go_wp2_with fail
                  refine (l01BelowN_any g A n c _ lo hi v1 hn HD.out.cur (hAw.out _ HD.out.only) hd (by omega)).mono ?_
                  rintro e v2 ⟨x2, rfl, hy0, hy1, hy2, hC1, hO1⟩
                  have hx2 : x2 ≤ 3 := by
                    by_cases h : 0 < (l.length : Int) - 1 - x1
                    · have := hy1 h; omega
                    · have := hy2 (by omega); omega
                  have HD := hide (HD.out.next hC1 hO1)
                  clear hC1 hO1 hy1 hy2
                  go_wp2_with fail
                  refine (l01OnceN_any g A n c 3 lo hi v2 hn HD.out.cur (hAw.out _ HD.out.only) hd (by omega)).mono ?_
                  rintro e v3 ⟨b3, rfl, hC1, hO1⟩
                  have HD := hide (HD.out.next hC1 hO1)
                  clear hC1 hO1
                  go_wp2_with fail
                  refine (l01BelowN_any g A n c 3 lo hi v3 hn HD.out.cur (hAw.out _ HD.out.only) hd (by omega)).mono ?_
                  rintro e v4 ⟨x3, rfl, hz0, hz1, _, hC1, hO1⟩
                  have hz1 := hz1 (by decide)
                  have HD := hide (HD.out.next hC1 hO1)
                  clear hC1 hO1
                  go_wp2_with fail
                  refine at_world fun v5 hW => ?_
                  obtain ⟨gx, hgx⟩ : ∃ gx, gx = v4.heap.size := ⟨_, rfl⟩
                  have kx : Bk v5 gx 75 #[.int .i64 x1, .int .i64 (x1 + 1 + x2), .bool (!b3), .int .i64 x3] := by rw [hW, hgx]; exact Bk.made _ _ _
                  have HD5 := hide (show DrB g gp w8.heap.size w A n c #[.int .i64 (12 + dd), .slice M l.length cm, .slice L nl cl, .slice R nr cr, .slice (some ⟨w2.heap.size, 0, none⟩) 1 1] M cm l bM L nl cl xs bL v5 from by rw [hW]; exact HD.out.alloc _)
                  have hgxl : w8.heap.size ≤ gx := by have := HD.out.sz; omega
                  have hgxb : gx ∉ bL := fun hm => by have := HD.out.row.lt gx hm; omega
                  have hgxg : g < gx := by have := HD.out.g0; have := HD.out.gp0; have := HD.out.lo; omega
                  have HGX := hide hgxb
                  rw [← hgx]
                  clear hW hgx HD hgxb
                  refine (l01OnceN_any g A n c 6 lo hi v5 hn HD5.out.cur (hAw.out _ HD5.out.only) hd (by omega)).mono ?_
                  rintro e v6 ⟨b6, rfl, hC1, hO1⟩
                  have HKX := hide (kx.only hO1 (by omega))
                  have HD := hide (HD5.out.next hC1 hO1)
                  clear hC1 hO1 kx HD5
                  cases b6
                  · skip
                    have kx0 := HKX.out.cell 0
                    have kx1 := HKX.out.cell 1
                    have kx2 := HKX.out.cell 2
                    have kx3 := HKX.out.cell 3
                    have kp2 := HD.out.kp.cell 2
                    simp only [List.getElem?_toArray, List.getElem?_cons_succ, List.getElem?_cons_zero] at kx0 kx1 kx2 kx3 kp2
                    have HRX := hide HD.out.row
                    go_wp2_with (at_builtin; go_must (refine wpList_pushB _ (.tmp 113) (.tmp 115) 31 75 _ 4 32 Tryz.underlying31 Tryz.infoLk rfl (by omega) L nl cl xs bL (HRX.out.allocd (fun q hq => HRX.out.lt q hq) _) v6.heap.size 0 1 1 [.int .i64 x1, .int .i64 (x1 + 1 + x2), .bool (!b3), .int .i64 x3] (by omega) rfl (four_newD _ _ _ _ _ _) (four_cellD rfl rfl rfl rfl) (by omega) (by omega) ?_ rfl rfl rfl rfl))
                    intro A9 c9 bs9 w9 hR9 hb9 hO9
                    have HD9 := hide (fun u => HD.out.push (u := u) hR9 hb9 hO9)
                    have kp9 := bk_push HD.out.kp hO9 (fun hm => by have := HD.out.low _ hm; have := HD.out.lo; omega)
                    have kc9 := kp9.cell 2
                    have kf9 := kp9.frozen 2
                    simp only [List.getElem?_toArray, List.getElem?_cons_succ, List.getElem?_cons_zero] at kc9
                    clear hR9 hb9 hO9 kp9 kx0 kx1 kx2 kx3 kp2
                    go_wp2
                    go_roundw
                    case rel => exact ⟨k - 1, nl + 1, A9, c9, _, bs9, by omega, val_int (by omega), hide (HD9.out _)⟩
                    case measure => simp [intOf]; omega
                  · have hSd : Bk v6.drew gx 75 #[.int .i64 x1, .int .i64 (x1 + 1 + x2), .bool (!b3), .int .i64 x3] := HKX.out
                    go_wp2_with fail
                    refine region_to (fun W => Bk W gx 75 #[.int .i64 x1, .int .i64 (x1 + 1 + x2), .bool (!b3), .int .i64 x3]) 8 (by kernel_rfl) ?_
                    refine AnyTo.take (i := 0) (v := ?_) rfl (by kernel_rfl) (by kernel_rfl) (by kernel_rfl) (by kernel_rfl) (fun _ _ _ h => h) (Or.inl ⟨by rfl, ?_⟩) hSd ?_
                    rotate_left
                    · intro W hS
                      have l0 := Bk.cell hS 0
                      have l1 := Bk.cell hS 1
                      simp only [List.getElem?_toArray, List.getElem?_cons_succ, List.getElem?_cons_zero] at l0 l1
                      go_simp
                      try with_reducible rfl
                    try simp only [Act.put, List.setIfInBounds_toArray, List.set_cons_zero, List.set_cons_succ]
                    refine AnyTo.take (i := 1) (v := ?_) rfl (by kernel_rfl) (by kernel_rfl) (by kernel_rfl) (by kernel_rfl) (fun _ _ _ h => h) (Or.inl ⟨by rfl, ?_⟩) hSd ?_
                    rotate_left
                    · intro W hS
                      have l0 := Bk.cell hS 0
                      have l1 := Bk.cell hS 1
                      simp only [List.getElem?_toArray, List.getElem?_cons_succ, List.getElem?_cons_zero] at l0 l1
                      go_simp
                      try with_reducible rfl
                    try simp only [Act.put, List.setIfInBounds_toArray, List.set_cons_zero, List.set_cons_succ]
                    refine AnyTo.take (i := 2) (v := ?_) rfl (by kernel_rfl) (by kernel_rfl) (by kernel_rfl) (by kernel_rfl) (fun _ _ _ h => h) (Or.inl ⟨by rfl, ?_⟩) hSd ?_
                    rotate_left
                    · intro W hS
                      have l0 := Bk.cell hS 0
                      have l1 := Bk.cell hS 1
                      simp only [List.getElem?_toArray, List.getElem?_cons_succ, List.getElem?_cons_zero] at l0 l1
                      go_simp
                      try with_reducible rfl
                    try simp only [Act.put, List.setIfInBounds_toArray, List.set_cons_zero, List.set_cons_succ]
                    refine AnyTo.take (i := 3) (v := ?_) rfl (by kernel_rfl) (by kernel_rfl) (by kernel_rfl) (by kernel_rfl) (fun _ _ _ h => h) (Or.inl ⟨by rfl, ?_⟩) hSd ?_
                    rotate_left
                    · intro W hS
                      have l0 := Bk.cell hS 0
                      have l1 := Bk.cell hS 1
                      simp only [List.getElem?_toArray, List.getElem?_cons_succ, List.getElem?_cons_zero] at l0 l1
                      go_simp
                      try with_reducible rfl
                    try simp only [Act.put, List.setIfInBounds_toArray, List.set_cons_zero, List.set_cons_succ]
                    refine AnyTo.take (i := 4) (v := ?_) rfl (by kernel_rfl) (by kernel_rfl) (by kernel_rfl) (by kernel_rfl) (fun _ _ _ h => h) (Or.inl ⟨by rfl, ?_⟩) hSd ?_
                    rotate_left
                    · intro W hS
                      have l0 := Bk.cell hS 0
                      have l1 := Bk.cell hS 1
                      simp only [List.getElem?_toArray, List.getElem?_cons_succ, List.getElem?_cons_zero] at l0 l1
                      go_simp
                      try with_reducible rfl
                    try simp only [Act.put, List.setIfInBounds_toArray, List.set_cons_zero, List.set_cons_succ]
                    refine AnyTo.step (i := 5) (by kernel_rfl) rfl (fun K hK => ?_)
                    go_simp
                    go_at_call 129
                    refine (l01BelowN_any g A n c 9 lo hi v6.drew hn (HD.out.cur.qt 1) ((hAw.out _ HD.out.only).qt 1) hd (by omega)).mono ?_
                    rintro e v7 ⟨x4, rfl, hq0, hq1, _, hC1, hO1⟩
                    have hq1 := hq1 (by decide)
                    have hO1 : Only g (g + 1) v6 v7 := ((Only.refl g (g + 1) v6).drewN 1).trans hO1
                    have HKX := hide (HKX.out.only hO1 (by omega))
                    have HD := hide (HD.out.next hC1 hO1)
                    clear hC1 hO1
                    have hw4 : IntKind.i64.wrap (-4 - x4) = -4 - x4 := IntWalk.i64_in _ (by omega)
                    have hSk := HKX.out
                    refine hK.out _ _ (fun _ => hSk) (fun _ => ?_)
                    clear hK K
                    try simp only [Act.put, List.setIfInBounds_toArray, List.set_cons_zero, List.set_cons_succ]
                    refine AnyTo.take (i := 6) (v := ?_) rfl (by kernel_rfl) (by kernel_rfl) (by kernel_rfl) (by kernel_rfl) (fun _ _ _ h => h) (Or.inl ⟨by rfl, ?_⟩) hSk ?_
                    rotate_left
                    · intro W hS
                      have l0 := Bk.cell hS 0
                      have l1 := Bk.cell hS 1
                      simp only [List.getElem?_toArray, List.getElem?_cons_succ, List.getElem?_cons_zero] at l0 l1
                      go_simp
                      try with_reducible rfl
                    try simp only [Act.put, List.setIfInBounds_toArray, List.set_cons_zero, List.set_cons_succ]
                    refine AnyTo.take (i := 7) (v := ?_) rfl (by kernel_rfl) (by kernel_rfl) (by kernel_rfl) (by kernel_rfl) (fun _ _ _ h => h) (Or.inl ⟨by rfl, ?_⟩) hSk ?_
                    rotate_left
                    · intro W hS
                      have l0 := Bk.cell hS 0
                      have l1 := Bk.cell hS 1
                      simp only [List.getElem?_toArray, List.getElem?_cons_succ, List.getElem?_cons_zero] at l0 l1
                      go_simp
                      try with_reducible rfl
                    try simp only [Act.put, List.setIfInBounds_toArray, List.set_cons_zero, List.set_cons_succ]
                    have q0 := hSk.cell 0
                    have q1 := hSk.cell 1
                    have q2 := hSk.cell 2
                    have q3 := hSk.cell 3
                    have r0 := hSk.frozen 0
                    have r1 := hSk.frozen 1
                    have r2 := hSk.frozen 2
                    have r3 := hSk.frozen 3
                    simp only [List.getElem?_toArray, List.getElem?_cons_succ, List.getElem?_cons_zero] at q0 q1 q2 q3
                    obtain ⟨v8, hv8⟩ : ∃ v, v = (((v7.setCell ⟨gx, 0, none⟩ (.int .i64 (x1 + 1 + x2))).setCell ⟨gx, 1, none⟩ (.int .i64 x1)).setCell ⟨gx, 2, none⟩ (.bool false)).setCell ⟨gx, 3, none⟩ (.int .i64 (-4 - x4)) := ⟨_, rfl⟩
                    have HKX : Hid (Bk v8 gx 75 #[.int .i64 (x1 + 1 + x2), .int .i64 x1, .bool false, .int .i64 (-4 - x4)]) := hide (by rw [hv8]; exact (((hSk.set 0 _).set 1 _).set 2 _).set 3 _)
                    have HD := hide (show DrB g gp w8.heap.size w A n c #[.int .i64 (12 + dd), .slice M l.length cm, .slice L nl cl, .slice R nr cr, .slice (some ⟨w2.heap.size, 0, none⟩) 1 1] M cm l bM L nl cl xs bL v8 from by rw [hv8]; exact (((HD.out.set hgxl HGX.out).set hgxl HGX.out).set hgxl HGX.out).set hgxl HGX.out)
                    have HV8 := hide hv8
                    clear hv8 hSd
                    refine AnyTo.step (i := 8) (by kernel_rfl) rfl (fun K hK => ?_)
                    go_simp
                    rw [← HV8.out]
                    refine hK.out _ _ (fun h => absurd rfl h) (fun _ => ?_)
                    clear hK K
                    try simp only [Act.put, List.setIfInBounds_toArray, List.set_cons_zero, List.set_cons_succ]
                    refine AnyTo.done (by kernel_rfl) ?_ _
                    clear q0 q1 q2 q3 r0 r1 r2 r3 hw4 hSk HV8
                    have kx0 := HKX.out.cell 0
                    have kx1 := HKX.out.cell 1
                    have kx2 := HKX.out.cell 2
                    have kx3 := HKX.out.cell 3
                    have kp2 := HD.out.kp.cell 2
                    simp only [List.getElem?_toArray, List.getElem?_cons_succ, List.getElem?_cons_zero] at kx0 kx1 kx2 kx3 kp2
                    have HRX := hide HD.out.row
                    go_wp2_with (at_builtin; go_must (refine wpList_pushB _ (.tmp 113) (.tmp 115) 31 75 _ 4 32 Tryz.underlying31 Tryz.infoLk rfl (by omega) L nl cl xs bL (HRX.out.allocd (fun q hq => HRX.out.lt q hq) _) v8.heap.size 0 1 1 [.int .i64 (x1 + 1 + x2), .int .i64 x1, .bool false, .int .i64 (-4 - x4)] (by omega) rfl (four_newD _ _ _ _ _ _) (four_cellD rfl rfl rfl rfl) (by omega) (by omega) ?_ rfl rfl rfl rfl))
                    intro A9 c9 bs9 w9 hR9 hb9 hO9
                    have HD9 := hide (fun u => HD.out.push (u := u) hR9 hb9 hO9)
                    have kp9 := bk_push HD.out.kp hO9 (fun hm => by have := HD.out.low _ hm; have := HD.out.lo; omega)
                    have kc9 := kp9.cell 2
                    have kf9 := kp9.frozen 2
                    simp only [List.getElem?_toArray, List.getElem?_cons_succ, List.getElem?_cons_zero] at kc9
                    clear hR9 hb9 hO9 kp9 kx0 kx1 kx2 kx3 kp2
                    go_wp2
                    go_roundw
                    case rel => exact ⟨k - 1, nl + 1, A9, c9, _, bs9, by omega, val_int (by omega), hide (HD9.out _)⟩
                    case measure => simp [intOf]; omega
end Go.Proofs.YtcecgbjolngdbaaGreatDoor
