/- What the laws' own helpers do with modes: copies with what is owned. -/
import Derived.Test.YtcecgbjolngdbaaGreatDoorKitOw
import Derived.Test.YtcecgbjolngdbaaGreatDoorLaw
import Derived.Test.YtcecgbjolngdbaaGreatDoorLawMd
import Derived.Deep.RegionHeld3
namespace Go.Proofs.YtcecgbjolngdbaaGreatDoor
open Go.ChangeShapes Go.WideShapes Go.ChangeAt Go.RowKit
set_option linter.unusedVariables false

theorem ownMode_mk {w : World} {m : Md} {lo hi l0 h0 l1 h1 : Nat} {A0 A1 : Option Addr} {c0 c1 : Nat} (hc : lo ≤ l0 ∧ h0 ≤ l1 ∧ l0 ≤ h0 ∧ l1 ≤ h1) (o0 : OwnR w l0 h0 3 1 A0 m.use.length c0 (m.use.map (.int .i64))) (o1 : OwnR w l1 h1 3 1 A1 m.con.length c1 (m.con.map (.int .i64))) (hlo : lo ≤ hi) (hhi : h1 ≤ hi) :
    OwV OwM w lo hi #[.int .i64 m.dur, .slice A0 m.use.length c0, .slice A1 m.con.length c1] m := by
  obtain ⟨b0, q0, n0⟩ := RowB.of o0
  obtain ⟨b1, q1, n1⟩ := RowB.of o1
  exact ⟨b0 ++ b1, ⟨A0, c0, A1, c1, b0, b1, rfl, q0, q1, rfl⟩, (n0.app n1 (by omega) (by omega) (by omega)).mono (by omega) (by omega)⟩
theorem ownMode_parts {w : World} {m : Md} {lo hi : Nat} {d0 : Value} {A0 A1 : Option Addr} {n0 c0 n1 c1 : Nat} (h : OwV OwM w lo hi #[d0, .slice A0 n0 c0, .slice A1 n1 c1] m) : RdI w lo hi A0 m.use ∧ RdI w lo hi A1 m.con := by
  obtain ⟨bs, h1, h2⟩ := h
  obtain ⟨A0', c0', A1', c1', e, f0, f1⟩ := OwMs.ord _ _ _ _ _ _ h2.2 h1
  simp only [Array.mk.injEq, List.cons.injEq, Value.slice.injEq, and_true] at e
  obtain ⟨_, ⟨rfl, _, _⟩, ⟨rfl, _, _⟩⟩ := e
  exact ⟨f0, f1⟩
theorem only_cMode (w : World) (g : Nat) (v0 v1 v2 v3 : Value) : Only g (g + 3) w ((((w.setCell ⟨g + 1 + 1, 2, none⟩ v0).setCell ⟨g + 1, 0, none⟩ v1).setCell ⟨g + 1, 1, none⟩ v2).setCell ⟨g + 1, 2, none⟩ v3) :=
  ((((Only.refl _ _ _).setCell ⟨by dsimp only; omega, by dsimp only; omega⟩ _).setCell ⟨by dsimp only; omega, by dsimp only; omega⟩ _).setCell ⟨by dsimp only; omega, by dsimp only; omega⟩ _).setCell ⟨by dsimp only; omega, by dsimp only; omega⟩ _
set_option maxHeartbeats 3200000 in
theorem toModeO_any (m : Md) (A0 A1 : Option Addr) (c0 c1 lo hi : Nat) (w : World) (hs : szMd m ≤ 16777216) (f0 : RdI w lo hi A0 m.use) (f1 : RdI w lo hi A1 m.con) (hhi : hi ≤ w.heap.size) :
    Calls Tryz.prog 174 #[.agg #[.int .i64 m.dur, .slice A0 m.use.length c0, .slice A1 m.con.length c1]] w fun e w' => ∃ A0' c0' A1' c1', e = .returned (.agg #[.int .i64 m.dur, .slice A0' m.use.length c0', .slice A1' m.con.length c1']) ∧
      OwV OwM w' w.heap.size w'.heap.size #[.int .i64 m.dur, .slice A0' m.use.length c0', .slice A1' m.con.length c1'] m ∧ Below w.heap.size w w' := by
  unfold szMd at hs
  have HS := hide hs; clear hs
  go_enter Tryz.func174, Tryz.ntmps174
  go_wp2_with fail
  refine at_world fun V0 hW => ?_
  have z0 : V0.heap.size = w.heap.size + 3 := by rw [hW]; simp
  have k0 : Bk V0 w.heap.size 185 #[.int .i64 m.dur, .slice A0 m.use.length c0, .slice A1 m.con.length c1] := by
    rw [hW]; exact ((Bk.made w _ _).alloc _).alloc _
  have k1 : Bk V0 (w.heap.size + 1) 53 #[.int .i64 0, .slice none 0 0, .slice none 0 0] := by
    rw [hW]
    have := (Bk.made (w.alloc (.cells #[.int .i64 m.dur, .slice A0 m.use.length c0, .slice A1 m.con.length c1] 185)) 53 #[.int .i64 0, .slice none 0 0, .slice none 0 0]).alloc (.cells #[.int .i64 m.dur, .slice none 0 0, .slice none 0 0] 53)
    simpa using this
  have k2 : Bk V0 (w.heap.size + 2) 53 #[.int .i64 m.dur, .slice none 0 0, .slice none 0 0] := by
    rw [hW]
    have := Bk.made ((w.alloc (.cells #[.int .i64 m.dur, .slice A0 m.use.length c0, .slice A1 m.con.length c1] 185)).alloc (.cells #[.int .i64 0, .slice none 0 0, .slice none 0 0] 53)) 53 #[.int .i64 m.dur, .slice none 0 0, .slice none 0 0]
    simpa using this
  have B : Below w.heap.size w V0 := by
    rw [hW]; exact (((Below.refl _ _).alloc (Nat.le_refl _) _).alloc (by simp) _).alloc (by simp; omega) _
  clear hW
  refine (toIntS_any A0 m.use c0 lo hi V0 (by have := HS.out; omega) (f0.below B hhi) (by omega)).mono ?_
  rintro e U0 ⟨A0', c0', rfl, o0, r⟩
  have y0 := r.size
  have k0 := k0.below r (by omega)
  have k1 := k1.below r (by omega)
  have k2 := k2.below r (by omega)
  have B := B.trans (r.mono (by omega))
  clear r f0
  have n1 := k0.cell 2
  have n2 := k2.cell 1
  have n3 := k2.frozen 1
  simp only [List.getElem?_toArray, List.getElem?_cons_succ, List.getElem?_cons_zero] at n1 n2
  go_wp2_with fail
  refine at_world fun V1 hW => ?_
  clear n1 n2 n3
  have z1 : V1.heap.size = U0.heap.size := by rw [hW]; simp [World.setCell]
  have k0 : Bk V1 w.heap.size 185 #[.int .i64 m.dur, .slice A0 m.use.length c0, .slice A1 m.con.length c1] := by rw [hW]; exact k0.far (by show w.heap.size ≠ w.heap.size + 2; omega) _
  have k1 : Bk V1 (w.heap.size + 1) 53 #[.int .i64 0, .slice none 0 0, .slice none 0 0] := by rw [hW]; exact k1.far (by show w.heap.size + 1 ≠ w.heap.size + 2; omega) _
  have k2 : Bk V1 (w.heap.size + 2) 53 #[.int .i64 m.dur, .slice A0' m.use.length c0', .slice none 0 0] := by rw [hW]; exact k2.set 1 _
  have B : Below w.heap.size w V1 := by rw [hW]; exact B.setCell (by show w.heap.size ≤ w.heap.size + 2; omega) _
  have o0 : OwnR V1 V0.heap.size U0.heap.size 3 1 A0' m.use.length c0' (m.use.map (.int .i64)) := by
    rw [hW]; exact o0.keep fun k hk _ => Below.heap_setCell _ _ _ _ (by show k ≠ w.heap.size + 2; omega)
  clear hW
  refine (toIntS_any A1 m.con c1 lo hi V1 (by have := HS.out; omega) (f1.below B hhi) (by omega)).mono ?_
  rintro e U1 ⟨A1', c1', rfl, o1, r⟩
  have y1 := r.size
  have k0 := k0.below r (by omega)
  have k1 := k1.below r (by omega)
  have k2 := k2.below r (by omega)
  have B := B.trans (r.mono (by omega))
  have o0 := o0.below r (by omega)
  clear r f1
  have p0 := k2.cell 0
  have p1 := k2.cell 1
  have p2 := k2.cell 2
  have d0 := k2.frozen 2
  have e0 := k1.cell 0
  have g0 := k1.frozen 0
  have e1 := k1.cell 1
  have g1 := k1.frozen 1
  have e2 := k1.cell 2
  have g2 := k1.frozen 2
  simp only [List.getElem?_toArray, List.getElem?_cons_succ, List.getElem?_cons_zero] at p0 e0 p1 e1 p2 e2
  go_wp2
  refine bodyPost_ret (v := .agg #[.int .i64 m.dur, .slice A0' m.use.length c0', .slice A1' m.con.length c1']) ?_ rfl ⟨A0', c0', A1', c1', rfl, ?_, ?_⟩
  · simp [results, Tryz.results174, go_sem, *]
  · refine ownMode_mk ?_ (o0.only (only_cMode U1 w.heap.size _ _ _ _) (by omega) (by omega)) (o1.only (only_cMode U1 w.heap.size _ _ _ _) (by omega) (by omega)) (by simp [World.setCell]; omega) (by simp [World.setCell])
    omega
  · exact below_only B (only_cMode U1 w.heap.size _ _ _ _) (Nat.le_refl _) (by omega)
theorem szModeV_any (m : Md) (A0 A1 : Option Addr) (c0 c1 lo hi : Nat) (q : Int) (w : World) (hw : WfMd m) (hq0 : 0 ≤ q) (hq : q ≤ 16777216) (f0 : RdI w lo hi A0 m.use) (f1 : RdI w lo hi A1 m.con) (hhi : hi ≤ w.heap.size) :
    Calls Tryz.prog 172 #[.agg #[.int .i64 m.dur, .slice A0 m.use.length c0, .slice A1 m.con.length c1], .int .i64 q] w fun e w' => ∃ r, e = .returned (.int .i64 r) ∧ (r = -1 ∨ (0 ≤ r ∧ r ≤ q ∧ (szMd m : Int) + r = q)) ∧ Below w.heap.size w w' :=
  (szMode_any m.dur A0 A1 m.use.length m.con.length c0 c1 q w hw.1 hw.2 hq0 hq).mono fun e w' ⟨r, he, hr, hb⟩ => ⟨r, he, hr.imp (fun h => h) (fun ⟨a, b, c⟩ => ⟨a, b, by (have e : szMd m = m.use.length + m.con.length := rfl); omega⟩), hb⟩
theorem eqModeV_same (m : Md) (A0 A0' A1 A1' : Option Addr) (c0 c0' c1 c1' lo hi lo' hi' : Nat) (w : World) (hs : szMd m ≤ 16777216) (f0 : RdI w lo hi A0 m.use) (f1 : RdI w lo hi A1 m.con) (f0' : RdI w lo' hi' A0' m.use) (f1' : RdI w lo' hi' A1' m.con) (hhi : hi ≤ w.heap.size) (hhi' : hi' ≤ w.heap.size) :
    Calls Tryz.prog 179 #[.agg #[.int .i64 m.dur, .slice A0 m.use.length c0, .slice A1 m.con.length c1], .agg #[.int .i64 m.dur, .slice A0' m.use.length c0', .slice A1' m.con.length c1']] w fun e w' => e = .returned (.bool true) ∧ Below w.heap.size w w' :=
  eqMode_same m A0 A1 A0' A1' c0 c1 c0' c1' lo hi lo' hi' w (by unfold szMd at hs; omega) (by unfold szMd at hs; omega) f0 f1 f0' f1' hhi hhi'
end Go.Proofs.YtcecgbjolngdbaaGreatDoor
