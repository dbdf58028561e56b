/- For every input the law FnExactParseProject returns true and its arguments read as before. No condition. -/
import Derived.Test.YtcecgbjolngdbaaGreatDoorRows
import Derived.Test.YtcecgbjolngdbaaGreatDoorOpen
import Derived.Test.YtcecgbjolngdbaaGreatDoorLaw
import Derived.Test.YtcecgbjolngdbaaGreatDoorLawPj
import Derived.Test.YtcecgbjolngdbaaGreatDoorMark
import Derived.Test.YtcecgbjolngdbaaGreatDoorOpenTy
import Derived.Test.YtcecgbjolngdbaaGreatDoorSets
import Derived.Test.YtcecgbjolngdbaaGreatDoorParP6
import Derived.Test.YtcecgbjolngdbaaGreatDoorLaidW
import Derived.Deep.RegionHeld3
import Derived.SevenTiedAt
namespace Go.Proofs.YtcecgbjolngdbaaGreatDoor.fnExactParseProject
open Go.ChangeShapes Go.WideShapes Go.ChangeAt Go.RowKit
open Go.ChangeMaps (open_string shut_string)
set_option linter.unusedVariables false

theorem own : ownKnob Tryz.prog.godebug = none := by kernel_rfl
theorem laidOut : laidOutB Tryz.prog = true := by kernel_rfl

set_option maxHeartbeats 1600000 in
theorem walk (x0 : ByteArray) (w : World) (ld : LdC w w.heap.size) :
    Calls Tryz.prog 4 #[.string x0] w fun e w' => e = .returned (.bool true) ∧ Below w.heap.size w w' := by
  by_cases g_x0 : x0.size ≤ 1048576
  case neg =>
    go_enter Tryz.func4, Tryz.ntmps4
    go_wp2
    go_ret
    exact ⟨rfl, by repeat' (first | exact Below.refl _ _ | refine Below.alloc ?_ (by simp) _)⟩
  have HS0 : ∃ m b, (szPj m ≤ 1000 ∧ m = parPj x0 ∧ b = parPjB x0) ∧ ∀ W, Calls Tryz.prog 11 #[.string x0] W fun e w' => ∃ A0_v c0_v A1_v c1_v A2_v c2_v A3_v c3_v, e = .returned (.tuple #[.agg #[.int .i64 m.dead, .slice A0_v m.acts.length c0_v, .slice A1_v m.links.length c1_v, .slice A2_v m.res.length c2_v, .slice A3_v m.stocks.length c3_v], .bool b]) ∧ OwV OwP w' W.heap.size w'.heap.size #[.int .i64 m.dead, .slice A0_v m.acts.length c0_v, .slice A1_v m.links.length c1_v, .slice A2_v m.res.length c2_v, .slice A3_v m.stocks.length c3_v] m ∧ Below W.heap.size W w' := ⟨parPj x0, parPjB x0, ⟨parPj_le x0, rfl, rfl⟩, fun W => specParseProject_any x0 W g_x0⟩
  have HI0 : ∃ m b, (szPj m ≤ 1000 ∧ m = parPj x0 ∧ b = parPjB x0) ∧ ∀ W, LdC W w.heap.size → w.heap.size ≤ W.heap.size → Calls Tryz.prog 12 #[.string x0] W fun e w' => ∃ A0_v c0_v A1_v c1_v A2_v c2_v A3_v c3_v, e = .returned (.tuple #[.agg #[.int .i64 m.dead, .slice A0_v m.acts.length c0_v, .slice A1_v m.links.length c1_v, .slice A2_v m.res.length c2_v, .slice A3_v m.stocks.length c3_v], .bool b]) ∧ OwV OwP w' W.heap.size w'.heap.size #[.int .i64 m.dead, .slice A0_v m.acts.length c0_v, .slice A1_v m.links.length c1_v, .slice A2_v m.res.length c2_v, .slice A3_v m.stocks.length c3_v] m ∧ Below W.heap.size W w' := ⟨parPj x0, parPjB x0, ⟨parPj_le x0, rfl, rfl⟩, fun W h1 h2 => implParseProject_any x0 W g_x0 _ h1 h2⟩
  obtain ⟨m, b, ⟨hsz, hm, hb⟩, hS⟩ := HS0
  obtain ⟨m', b', ⟨_, hm', hb'⟩, hI⟩ := HI0
  obtain rfl : m' = m := hm'.trans hm.symm
  obtain rfl : b' = b := hb'.trans hb.symm
  have HS := hide hS; have HI := hide hI; clear hS hI hm hb hm' hb'
  have bel := Below.refl w.heap.size w
  go_enter Tryz.func4, Tryz.ntmps4
  go_wp2_with fail
  refine at_world fun w1 hW => ?_
  have rW : Only w.heap.size w.heap.size w w1 := by rw [hW]; (repeat' (first | exact Only.refl _ _ _ | refine Only.alloc ?_ _))
  have z1 := rW.size
  have ld := ld.only rW (by omega) (by omega)
  have bel := below_only bel rW (by omega) (by omega)
  clear hW rW
  refine (HS.out _).mono ?_
  rintro e w2 ⟨A0_w, c0_w, A1_w, c1_w, A2_w, c2_w, A3_w, c3_w, rfl, v_w, r2⟩
  have r2 := only_below r2
  have z2 := r2.size
  have bel := below_only bel r2 (by first | exact Nat.le_refl _ | omega) (by omega)
  have ld := ld.only r2 (by omega) (by omega)
  clear r2
  obtain ⟨f0_w, f1_w, f2_w, f3_w⟩ := ownProject_parts v_w
  clear v_w
  go_wp2_with fail
  refine at_world fun w3 hW => ?_
  have rW : Only w2.heap.size w2.heap.size w2 w3 := by rw [hW]; (repeat' (first | exact Only.refl _ _ _ | refine Only.alloc ?_ _))
  have z3 := rW.size
  have ld := ld.only rW (by omega) (by omega)
  have f0_w := f0_w.only rW (by omega) (by omega)
  have f1_w := f1_w.only rW (by omega) (by omega)
  have f2_w := f2_w.only rW (by omega) (by omega)
  have f3_w := f3_w.only rW (by omega) (by omega)
  have kb_w : Bk w3 w2.heap.size 34 #[.int .i64 m'.dead, .slice A0_w m'.acts.length c0_w, .slice A1_w m'.links.length c1_w, .slice A2_w m'.res.length c2_w, .slice A3_w m'.stocks.length c3_w] := by rw [hW]; exact Bk.made _ _ _
  have zk_kb_w := kb_w.lt
  have bel := below_only bel rW (by omega) (by omega)
  clear hW rW
  refine (HI.out _ (by exact ld) (by omega)).mono ?_
  rintro e w4 ⟨A0_g, c0_g, A1_g, c1_g, A2_g, c2_g, A3_g, c3_g, rfl, v_g, r4⟩
  have r4 := only_below r4
  have z4 := r4.size
  have bel := below_only bel r4 (by first | exact Nat.le_refl _ | omega) (by omega)
  have ld := ld.only r4 (by omega) (by omega)
  have f0_w := f0_w.only r4 (by omega) (by omega)
  have f1_w := f1_w.only r4 (by omega) (by omega)
  have f2_w := f2_w.only r4 (by omega) (by omega)
  have f3_w := f3_w.only r4 (by omega) (by omega)
  have kb_w := kb_w.only r4 (by omega)
  clear r4
  have q0_kb_w := kb_w.cell 0
  have aq0_kb_w := fun o => (World.cell?_alloc_lt w4 o ⟨w2.heap.size, 0, none⟩ kb_w.lt).trans q0_kb_w
  have q1_kb_w := kb_w.cell 1
  have aq1_kb_w := fun o => (World.cell?_alloc_lt w4 o ⟨w2.heap.size, 1, none⟩ kb_w.lt).trans q1_kb_w
  have q2_kb_w := kb_w.cell 2
  have aq2_kb_w := fun o => (World.cell?_alloc_lt w4 o ⟨w2.heap.size, 2, none⟩ kb_w.lt).trans q2_kb_w
  have q3_kb_w := kb_w.cell 3
  have aq3_kb_w := fun o => (World.cell?_alloc_lt w4 o ⟨w2.heap.size, 3, none⟩ kb_w.lt).trans q3_kb_w
  have q4_kb_w := kb_w.cell 4
  have aq4_kb_w := fun o => (World.cell?_alloc_lt w4 o ⟨w2.heap.size, 4, none⟩ kb_w.lt).trans q4_kb_w
  simp only [List.getElem?_toArray, List.getElem?_cons_succ, List.getElem?_cons_zero] at q0_kb_w aq0_kb_w q1_kb_w aq1_kb_w q2_kb_w aq2_kb_w q3_kb_w aq3_kb_w q4_kb_w aq4_kb_w
  obtain ⟨f0_g, f1_g, f2_g, f3_g⟩ := ownProject_parts v_g
  have ow_g : OwPV _ _ _ _ m' := v_g; clear v_g
  go_wp2_with fail
  refine at_world fun w5 hW => ?_
  have rW : Only w4.heap.size w4.heap.size w4 w5 := by rw [hW]; (repeat' (first | exact Only.refl _ _ _ | refine Only.alloc ?_ _))
  have z5 := rW.size
  clear q0_kb_w aq0_kb_w q1_kb_w aq1_kb_w q2_kb_w aq2_kb_w q3_kb_w aq3_kb_w q4_kb_w aq4_kb_w
  have ld := ld.only rW (by omega) (by omega)
  have f0_w := f0_w.only rW (by omega) (by omega)
  have f1_w := f1_w.only rW (by omega) (by omega)
  have f2_w := f2_w.only rW (by omega) (by omega)
  have f3_w := f3_w.only rW (by omega) (by omega)
  have f0_g := f0_g.only rW (by omega) (by omega)
  have f1_g := f1_g.only rW (by omega) (by omega)
  have f2_g := f2_g.only rW (by omega) (by omega)
  have f3_g := f3_g.only rW (by omega) (by omega)
  have ow_g := ow_g.only rW (by omega) (by omega)
  have kb_w := kb_w.only rW (by omega)
  have kb_g : Bk w5 w4.heap.size 34 #[.int .i64 m'.dead, .slice A0_g m'.acts.length c0_g, .slice A1_g m'.links.length c1_g, .slice A2_g m'.res.length c2_g, .slice A3_g m'.stocks.length c3_g] := by rw [hW]; exact Bk.made _ _ _
  have zk_kb_g := kb_g.lt
  have bel := below_only bel rW (by omega) (by omega)
  clear hW rW
  refine (eqProject_same m' _ _ _ _ _ _ _ _ _ _ _ _ _ _ _ _ _ _ _ _ _ (by omega) (by exact f0_g) (by exact f1_g) (by exact f2_g) (by exact f3_g) (by exact f0_w) (by exact f1_w) (by exact f2_w) (by exact f3_w) (by omega) (by omega)).mono ?_
  rintro e w6 ⟨rfl, r6⟩
  have r6 := only_below r6
  have z6 := r6.size
  have bel := below_only bel r6 (by first | exact Nat.le_refl _ | omega) (by omega)
  have ld := ld.only r6 (by omega) (by omega)
  have f0_w := f0_w.only r6 (by omega) (by omega)
  have f1_w := f1_w.only r6 (by omega) (by omega)
  have f2_w := f2_w.only r6 (by omega) (by omega)
  have f3_w := f3_w.only r6 (by omega) (by omega)
  have f0_g := f0_g.only r6 (by omega) (by omega)
  have f1_g := f1_g.only r6 (by omega) (by omega)
  have f2_g := f2_g.only r6 (by omega) (by omega)
  have f3_g := f3_g.only r6 (by omega) (by omega)
  have ow_g := ow_g.only r6 (by omega) (by omega)
  have kb_w := kb_w.only r6 (by omega)
  have kb_g := kb_g.only r6 (by omega)
  clear r6
  have q0_kb_w := kb_w.cell 0
  have aq0_kb_w := fun o => (World.cell?_alloc_lt w6 o ⟨w2.heap.size, 0, none⟩ kb_w.lt).trans q0_kb_w
  have q1_kb_w := kb_w.cell 1
  have aq1_kb_w := fun o => (World.cell?_alloc_lt w6 o ⟨w2.heap.size, 1, none⟩ kb_w.lt).trans q1_kb_w
  have q2_kb_w := kb_w.cell 2
  have aq2_kb_w := fun o => (World.cell?_alloc_lt w6 o ⟨w2.heap.size, 2, none⟩ kb_w.lt).trans q2_kb_w
  have q3_kb_w := kb_w.cell 3
  have aq3_kb_w := fun o => (World.cell?_alloc_lt w6 o ⟨w2.heap.size, 3, none⟩ kb_w.lt).trans q3_kb_w
  have q4_kb_w := kb_w.cell 4
  have aq4_kb_w := fun o => (World.cell?_alloc_lt w6 o ⟨w2.heap.size, 4, none⟩ kb_w.lt).trans q4_kb_w
  have q0_kb_g := kb_g.cell 0
  have aq0_kb_g := fun o => (World.cell?_alloc_lt w6 o ⟨w4.heap.size, 0, none⟩ kb_g.lt).trans q0_kb_g
  have q1_kb_g := kb_g.cell 1
  have aq1_kb_g := fun o => (World.cell?_alloc_lt w6 o ⟨w4.heap.size, 1, none⟩ kb_g.lt).trans q1_kb_g
  have q2_kb_g := kb_g.cell 2
  have aq2_kb_g := fun o => (World.cell?_alloc_lt w6 o ⟨w4.heap.size, 2, none⟩ kb_g.lt).trans q2_kb_g
  have q3_kb_g := kb_g.cell 3
  have aq3_kb_g := fun o => (World.cell?_alloc_lt w6 o ⟨w4.heap.size, 3, none⟩ kb_g.lt).trans q3_kb_g
  have q4_kb_g := kb_g.cell 4
  have aq4_kb_g := fun o => (World.cell?_alloc_lt w6 o ⟨w4.heap.size, 4, none⟩ kb_g.lt).trans q4_kb_g
  simp only [List.getElem?_toArray, List.getElem?_cons_succ, List.getElem?_cons_zero] at q0_kb_w aq0_kb_w q1_kb_w aq1_kb_w q2_kb_w aq2_kb_w q3_kb_w aq3_kb_w q4_kb_w aq4_kb_w q0_kb_g aq0_kb_g q1_kb_g aq1_kb_g q2_kb_g aq2_kb_g q3_kb_g aq3_kb_g q4_kb_g aq4_kb_g
  clear f0_g
  clear f1_g
  clear f2_g
  clear f3_g
  go_wp2_with fail
  refine at_world fun w7 hW => ?_
  have rW : Only w6.heap.size w6.heap.size w6 w7 := by rw [hW]; (repeat' (first | exact Only.refl _ _ _ | refine Only.alloc ?_ _))
  have z7 := rW.size
  clear q0_kb_w aq0_kb_w q1_kb_w aq1_kb_w q2_kb_w aq2_kb_w q3_kb_w aq3_kb_w q4_kb_w aq4_kb_w q0_kb_g aq0_kb_g q1_kb_g aq1_kb_g q2_kb_g aq2_kb_g q3_kb_g aq3_kb_g q4_kb_g aq4_kb_g
  have ld := ld.only rW (by omega) (by omega)
  have f0_w := f0_w.only rW (by omega) (by omega)
  have f1_w := f1_w.only rW (by omega) (by omega)
  have f2_w := f2_w.only rW (by omega) (by omega)
  have f3_w := f3_w.only rW (by omega) (by omega)
  have ow_g := ow_g.only rW (by omega) (by omega)
  have kb_w := kb_w.only rW (by omega)
  have kb_g := kb_g.only rW (by omega)
  have bel := below_only bel rW (by omega) (by omega)
  clear hW rW
  refine (markProject_any m' _ _ _ _ _ _ _ _ _ _ (1) _ (by omega) (by omega) (by omega) ow_g (by omega)).mono ?_
  rintro e w8 ⟨rfl, r8, f0_g, f1_g, f2_g, f3_g⟩
  have z8 := r8.size
  have bel := below_only bel r8 (by first | exact Nat.le_refl _ | omega) (by omega)
  have ld := ld.only r8 (by omega) (by omega)
  have f0_w := f0_w.only r8 (by omega) (by omega)
  have f1_w := f1_w.only r8 (by omega) (by omega)
  have f2_w := f2_w.only r8 (by omega) (by omega)
  have f3_w := f3_w.only r8 (by omega) (by omega)
  have kb_w := kb_w.only r8 (by omega)
  have kb_g := kb_g.only r8 (by omega)
  clear r8
  have q0_kb_w := kb_w.cell 0
  have aq0_kb_w := fun o => (World.cell?_alloc_lt w8 o ⟨w2.heap.size, 0, none⟩ kb_w.lt).trans q0_kb_w
  have q1_kb_w := kb_w.cell 1
  have aq1_kb_w := fun o => (World.cell?_alloc_lt w8 o ⟨w2.heap.size, 1, none⟩ kb_w.lt).trans q1_kb_w
  have q2_kb_w := kb_w.cell 2
  have aq2_kb_w := fun o => (World.cell?_alloc_lt w8 o ⟨w2.heap.size, 2, none⟩ kb_w.lt).trans q2_kb_w
  have q3_kb_w := kb_w.cell 3
  have aq3_kb_w := fun o => (World.cell?_alloc_lt w8 o ⟨w2.heap.size, 3, none⟩ kb_w.lt).trans q3_kb_w
  have q4_kb_w := kb_w.cell 4
  have aq4_kb_w := fun o => (World.cell?_alloc_lt w8 o ⟨w2.heap.size, 4, none⟩ kb_w.lt).trans q4_kb_w
  have q0_kb_g := kb_g.cell 0
  have aq0_kb_g := fun o => (World.cell?_alloc_lt w8 o ⟨w4.heap.size, 0, none⟩ kb_g.lt).trans q0_kb_g
  have q1_kb_g := kb_g.cell 1
  have aq1_kb_g := fun o => (World.cell?_alloc_lt w8 o ⟨w4.heap.size, 1, none⟩ kb_g.lt).trans q1_kb_g
  have q2_kb_g := kb_g.cell 2
  have aq2_kb_g := fun o => (World.cell?_alloc_lt w8 o ⟨w4.heap.size, 2, none⟩ kb_g.lt).trans q2_kb_g
  have q3_kb_g := kb_g.cell 3
  have aq3_kb_g := fun o => (World.cell?_alloc_lt w8 o ⟨w4.heap.size, 3, none⟩ kb_g.lt).trans q3_kb_g
  have q4_kb_g := kb_g.cell 4
  have aq4_kb_g := fun o => (World.cell?_alloc_lt w8 o ⟨w4.heap.size, 4, none⟩ kb_g.lt).trans q4_kb_g
  simp only [List.getElem?_toArray, List.getElem?_cons_succ, List.getElem?_cons_zero] at q0_kb_w aq0_kb_w q1_kb_w aq1_kb_w q2_kb_w aq2_kb_w q3_kb_w aq3_kb_w q4_kb_w aq4_kb_w q0_kb_g aq0_kb_g q1_kb_g aq1_kb_g q2_kb_g aq2_kb_g q3_kb_g aq3_kb_g q4_kb_g aq4_kb_g
  clear ow_g
  have hkp : ¬ ((1 : Int) + (wtPj m' : Int) < 0) := by omega
  go_wp2_with fail
  refine at_world fun w9 hW => ?_
  have rW : Only w8.heap.size w8.heap.size w8 w9 := by rw [hW]; (repeat' (first | exact Only.refl _ _ _ | refine Only.alloc ?_ _))
  have z9 := rW.size
  clear q0_kb_w aq0_kb_w q1_kb_w aq1_kb_w q2_kb_w aq2_kb_w q3_kb_w aq3_kb_w q4_kb_w aq4_kb_w q0_kb_g aq0_kb_g q1_kb_g aq1_kb_g q2_kb_g aq2_kb_g q3_kb_g aq3_kb_g q4_kb_g aq4_kb_g
  have ld := ld.only rW (by omega) (by omega)
  have f0_w := f0_w.only rW (by omega) (by omega)
  have f1_w := f1_w.only rW (by omega) (by omega)
  have f2_w := f2_w.only rW (by omega) (by omega)
  have f3_w := f3_w.only rW (by omega) (by omega)
  have f0_g := f0_g.only rW (by omega) (by omega)
  have f1_g := f1_g.only rW (by omega) (by omega)
  have f2_g := f2_g.only rW (by omega) (by omega)
  have f3_g := f3_g.only rW (by omega) (by omega)
  have kb_w := kb_w.only rW (by omega)
  have kb_g := kb_g.only rW (by omega)
  have bel := below_only bel rW (by omega) (by omega)
  clear hW rW
  refine (heldProject_any m' _ _ _ _ _ _ _ _ _ _ (1) _ (by omega) (by omega) (by omega) (by exact f0_g) (by exact f1_g) (by exact f2_g) (by exact f3_g) (by omega)).mono ?_
  rintro e w10 ⟨rfl, r10⟩
  have r10 := only_below r10
  have z10 := r10.size
  have bel := below_only bel r10 (by first | exact Nat.le_refl _ | omega) (by omega)
  have ld := ld.only r10 (by omega) (by omega)
  have f0_w := f0_w.only r10 (by omega) (by omega)
  have f1_w := f1_w.only r10 (by omega) (by omega)
  have f2_w := f2_w.only r10 (by omega) (by omega)
  have f3_w := f3_w.only r10 (by omega) (by omega)
  have f0_g := f0_g.only r10 (by omega) (by omega)
  have f1_g := f1_g.only r10 (by omega) (by omega)
  have f2_g := f2_g.only r10 (by omega) (by omega)
  have f3_g := f3_g.only r10 (by omega) (by omega)
  have kb_w := kb_w.only r10 (by omega)
  have kb_g := kb_g.only r10 (by omega)
  clear r10
  have q0_kb_w := kb_w.cell 0
  have aq0_kb_w := fun o => (World.cell?_alloc_lt w10 o ⟨w2.heap.size, 0, none⟩ kb_w.lt).trans q0_kb_w
  have q1_kb_w := kb_w.cell 1
  have aq1_kb_w := fun o => (World.cell?_alloc_lt w10 o ⟨w2.heap.size, 1, none⟩ kb_w.lt).trans q1_kb_w
  have q2_kb_w := kb_w.cell 2
  have aq2_kb_w := fun o => (World.cell?_alloc_lt w10 o ⟨w2.heap.size, 2, none⟩ kb_w.lt).trans q2_kb_w
  have q3_kb_w := kb_w.cell 3
  have aq3_kb_w := fun o => (World.cell?_alloc_lt w10 o ⟨w2.heap.size, 3, none⟩ kb_w.lt).trans q3_kb_w
  have q4_kb_w := kb_w.cell 4
  have aq4_kb_w := fun o => (World.cell?_alloc_lt w10 o ⟨w2.heap.size, 4, none⟩ kb_w.lt).trans q4_kb_w
  have q0_kb_g := kb_g.cell 0
  have aq0_kb_g := fun o => (World.cell?_alloc_lt w10 o ⟨w4.heap.size, 0, none⟩ kb_g.lt).trans q0_kb_g
  have q1_kb_g := kb_g.cell 1
  have aq1_kb_g := fun o => (World.cell?_alloc_lt w10 o ⟨w4.heap.size, 1, none⟩ kb_g.lt).trans q1_kb_g
  have q2_kb_g := kb_g.cell 2
  have aq2_kb_g := fun o => (World.cell?_alloc_lt w10 o ⟨w4.heap.size, 2, none⟩ kb_g.lt).trans q2_kb_g
  have q3_kb_g := kb_g.cell 3
  have aq3_kb_g := fun o => (World.cell?_alloc_lt w10 o ⟨w4.heap.size, 3, none⟩ kb_g.lt).trans q3_kb_g
  have q4_kb_g := kb_g.cell 4
  have aq4_kb_g := fun o => (World.cell?_alloc_lt w10 o ⟨w4.heap.size, 4, none⟩ kb_g.lt).trans q4_kb_g
  simp only [List.getElem?_toArray, List.getElem?_cons_succ, List.getElem?_cons_zero] at q0_kb_w aq0_kb_w q1_kb_w aq1_kb_w q2_kb_w aq2_kb_w q3_kb_w aq3_kb_w q4_kb_w aq4_kb_w q0_kb_g aq0_kb_g q1_kb_g aq1_kb_g q2_kb_g aq2_kb_g q3_kb_g aq3_kb_g q4_kb_g aq4_kb_g
  go_wp2_with fail
  refine at_world fun w11 hW => ?_
  have rW : Only w10.heap.size w10.heap.size w10 w11 := by rw [hW]; (repeat' (first | exact Only.refl _ _ _ | refine Only.alloc ?_ _))
  have z11 := rW.size
  clear q0_kb_w aq0_kb_w q1_kb_w aq1_kb_w q2_kb_w aq2_kb_w q3_kb_w aq3_kb_w q4_kb_w aq4_kb_w q0_kb_g aq0_kb_g q1_kb_g aq1_kb_g q2_kb_g aq2_kb_g q3_kb_g aq3_kb_g q4_kb_g aq4_kb_g
  have ld := ld.only rW (by omega) (by omega)
  have f0_w := f0_w.only rW (by omega) (by omega)
  have f1_w := f1_w.only rW (by omega) (by omega)
  have f2_w := f2_w.only rW (by omega) (by omega)
  have f3_w := f3_w.only rW (by omega) (by omega)
  have f0_g := f0_g.only rW (by omega) (by omega)
  have f1_g := f1_g.only rW (by omega) (by omega)
  have f2_g := f2_g.only rW (by omega) (by omega)
  have f3_g := f3_g.only rW (by omega) (by omega)
  have kb_w := kb_w.only rW (by omega)
  have kb_g := kb_g.only rW (by omega)
  have bel := below_only bel rW (by omega) (by omega)
  clear hW rW
  refine (HI.out _ (by exact ld) (by omega)).mono ?_
  rintro e w12 ⟨A0_h, c0_h, A1_h, c1_h, A2_h, c2_h, A3_h, c3_h, rfl, v_h, r12⟩
  have r12 := only_below r12
  have z12 := r12.size
  have bel := below_only bel r12 (by first | exact Nat.le_refl _ | omega) (by omega)
  have ld := ld.only r12 (by omega) (by omega)
  have f0_w := f0_w.only r12 (by omega) (by omega)
  have f1_w := f1_w.only r12 (by omega) (by omega)
  have f2_w := f2_w.only r12 (by omega) (by omega)
  have f3_w := f3_w.only r12 (by omega) (by omega)
  have f0_g := f0_g.only r12 (by omega) (by omega)
  have f1_g := f1_g.only r12 (by omega) (by omega)
  have f2_g := f2_g.only r12 (by omega) (by omega)
  have f3_g := f3_g.only r12 (by omega) (by omega)
  have kb_w := kb_w.only r12 (by omega)
  have kb_g := kb_g.only r12 (by omega)
  clear r12
  have q0_kb_w := kb_w.cell 0
  have aq0_kb_w := fun o => (World.cell?_alloc_lt w12 o ⟨w2.heap.size, 0, none⟩ kb_w.lt).trans q0_kb_w
  have q1_kb_w := kb_w.cell 1
  have aq1_kb_w := fun o => (World.cell?_alloc_lt w12 o ⟨w2.heap.size, 1, none⟩ kb_w.lt).trans q1_kb_w
  have q2_kb_w := kb_w.cell 2
  have aq2_kb_w := fun o => (World.cell?_alloc_lt w12 o ⟨w2.heap.size, 2, none⟩ kb_w.lt).trans q2_kb_w
  have q3_kb_w := kb_w.cell 3
  have aq3_kb_w := fun o => (World.cell?_alloc_lt w12 o ⟨w2.heap.size, 3, none⟩ kb_w.lt).trans q3_kb_w
  have q4_kb_w := kb_w.cell 4
  have aq4_kb_w := fun o => (World.cell?_alloc_lt w12 o ⟨w2.heap.size, 4, none⟩ kb_w.lt).trans q4_kb_w
  have q0_kb_g := kb_g.cell 0
  have aq0_kb_g := fun o => (World.cell?_alloc_lt w12 o ⟨w4.heap.size, 0, none⟩ kb_g.lt).trans q0_kb_g
  have q1_kb_g := kb_g.cell 1
  have aq1_kb_g := fun o => (World.cell?_alloc_lt w12 o ⟨w4.heap.size, 1, none⟩ kb_g.lt).trans q1_kb_g
  have q2_kb_g := kb_g.cell 2
  have aq2_kb_g := fun o => (World.cell?_alloc_lt w12 o ⟨w4.heap.size, 2, none⟩ kb_g.lt).trans q2_kb_g
  have q3_kb_g := kb_g.cell 3
  have aq3_kb_g := fun o => (World.cell?_alloc_lt w12 o ⟨w4.heap.size, 3, none⟩ kb_g.lt).trans q3_kb_g
  have q4_kb_g := kb_g.cell 4
  have aq4_kb_g := fun o => (World.cell?_alloc_lt w12 o ⟨w4.heap.size, 4, none⟩ kb_g.lt).trans q4_kb_g
  simp only [List.getElem?_toArray, List.getElem?_cons_succ, List.getElem?_cons_zero] at q0_kb_w aq0_kb_w q1_kb_w aq1_kb_w q2_kb_w aq2_kb_w q3_kb_w aq3_kb_w q4_kb_w aq4_kb_w q0_kb_g aq0_kb_g q1_kb_g aq1_kb_g q2_kb_g aq2_kb_g q3_kb_g aq3_kb_g q4_kb_g aq4_kb_g
  obtain ⟨f0_h, f1_h, f2_h, f3_h⟩ := ownProject_parts v_h
  clear v_h
  go_wp2_with fail
  refine at_world fun w13 hW => ?_
  have rW : Only w12.heap.size w12.heap.size w12 w13 := by rw [hW]; (repeat' (first | exact Only.refl _ _ _ | refine Only.alloc ?_ _))
  have z13 := rW.size
  clear q0_kb_w aq0_kb_w q1_kb_w aq1_kb_w q2_kb_w aq2_kb_w q3_kb_w aq3_kb_w q4_kb_w aq4_kb_w q0_kb_g aq0_kb_g q1_kb_g aq1_kb_g q2_kb_g aq2_kb_g q3_kb_g aq3_kb_g q4_kb_g aq4_kb_g
  have ld := ld.only rW (by omega) (by omega)
  have f0_w := f0_w.only rW (by omega) (by omega)
  have f1_w := f1_w.only rW (by omega) (by omega)
  have f2_w := f2_w.only rW (by omega) (by omega)
  have f3_w := f3_w.only rW (by omega) (by omega)
  have f0_g := f0_g.only rW (by omega) (by omega)
  have f1_g := f1_g.only rW (by omega) (by omega)
  have f2_g := f2_g.only rW (by omega) (by omega)
  have f3_g := f3_g.only rW (by omega) (by omega)
  have f0_h := f0_h.only rW (by omega) (by omega)
  have f1_h := f1_h.only rW (by omega) (by omega)
  have f2_h := f2_h.only rW (by omega) (by omega)
  have f3_h := f3_h.only rW (by omega) (by omega)
  have kb_w := kb_w.only rW (by omega)
  have kb_g := kb_g.only rW (by omega)
  have kb_h : Bk w13 w12.heap.size 34 #[.int .i64 m'.dead, .slice A0_h m'.acts.length c0_h, .slice A1_h m'.links.length c1_h, .slice A2_h m'.res.length c2_h, .slice A3_h m'.stocks.length c3_h] := by rw [hW]; exact Bk.made _ _ _
  have zk_kb_h := kb_h.lt
  have bel := below_only bel rW (by omega) (by omega)
  clear hW rW
  refine (eqProject_same m' _ _ _ _ _ _ _ _ _ _ _ _ _ _ _ _ _ _ _ _ _ (by omega) (by exact f0_h) (by exact f1_h) (by exact f2_h) (by exact f3_h) (by exact f0_w) (by exact f1_w) (by exact f2_w) (by exact f3_w) (by omega) (by omega)).mono ?_
  rintro e w14 ⟨rfl, r14⟩
  have r14 := only_below r14
  have z14 := r14.size
  have bel := below_only bel r14 (by first | exact Nat.le_refl _ | omega) (by omega)
  have ld := ld.only r14 (by omega) (by omega)
  have f0_w := f0_w.only r14 (by omega) (by omega)
  have f1_w := f1_w.only r14 (by omega) (by omega)
  have f2_w := f2_w.only r14 (by omega) (by omega)
  have f3_w := f3_w.only r14 (by omega) (by omega)
  have f0_g := f0_g.only r14 (by omega) (by omega)
  have f1_g := f1_g.only r14 (by omega) (by omega)
  have f2_g := f2_g.only r14 (by omega) (by omega)
  have f3_g := f3_g.only r14 (by omega) (by omega)
  have f0_h := f0_h.only r14 (by omega) (by omega)
  have f1_h := f1_h.only r14 (by omega) (by omega)
  have f2_h := f2_h.only r14 (by omega) (by omega)
  have f3_h := f3_h.only r14 (by omega) (by omega)
  have kb_w := kb_w.only r14 (by omega)
  have kb_g := kb_g.only r14 (by omega)
  have kb_h := kb_h.only r14 (by omega)
  clear r14
  have q0_kb_w := kb_w.cell 0
  have aq0_kb_w := fun o => (World.cell?_alloc_lt w14 o ⟨w2.heap.size, 0, none⟩ kb_w.lt).trans q0_kb_w
  have q1_kb_w := kb_w.cell 1
  have aq1_kb_w := fun o => (World.cell?_alloc_lt w14 o ⟨w2.heap.size, 1, none⟩ kb_w.lt).trans q1_kb_w
  have q2_kb_w := kb_w.cell 2
  have aq2_kb_w := fun o => (World.cell?_alloc_lt w14 o ⟨w2.heap.size, 2, none⟩ kb_w.lt).trans q2_kb_w
  have q3_kb_w := kb_w.cell 3
  have aq3_kb_w := fun o => (World.cell?_alloc_lt w14 o ⟨w2.heap.size, 3, none⟩ kb_w.lt).trans q3_kb_w
  have q4_kb_w := kb_w.cell 4
  have aq4_kb_w := fun o => (World.cell?_alloc_lt w14 o ⟨w2.heap.size, 4, none⟩ kb_w.lt).trans q4_kb_w
  have q0_kb_g := kb_g.cell 0
  have aq0_kb_g := fun o => (World.cell?_alloc_lt w14 o ⟨w4.heap.size, 0, none⟩ kb_g.lt).trans q0_kb_g
  have q1_kb_g := kb_g.cell 1
  have aq1_kb_g := fun o => (World.cell?_alloc_lt w14 o ⟨w4.heap.size, 1, none⟩ kb_g.lt).trans q1_kb_g
  have q2_kb_g := kb_g.cell 2
  have aq2_kb_g := fun o => (World.cell?_alloc_lt w14 o ⟨w4.heap.size, 2, none⟩ kb_g.lt).trans q2_kb_g
  have q3_kb_g := kb_g.cell 3
  have aq3_kb_g := fun o => (World.cell?_alloc_lt w14 o ⟨w4.heap.size, 3, none⟩ kb_g.lt).trans q3_kb_g
  have q4_kb_g := kb_g.cell 4
  have aq4_kb_g := fun o => (World.cell?_alloc_lt w14 o ⟨w4.heap.size, 4, none⟩ kb_g.lt).trans q4_kb_g
  have q0_kb_h := kb_h.cell 0
  have aq0_kb_h := fun o => (World.cell?_alloc_lt w14 o ⟨w12.heap.size, 0, none⟩ kb_h.lt).trans q0_kb_h
  have q1_kb_h := kb_h.cell 1
  have aq1_kb_h := fun o => (World.cell?_alloc_lt w14 o ⟨w12.heap.size, 1, none⟩ kb_h.lt).trans q1_kb_h
  have q2_kb_h := kb_h.cell 2
  have aq2_kb_h := fun o => (World.cell?_alloc_lt w14 o ⟨w12.heap.size, 2, none⟩ kb_h.lt).trans q2_kb_h
  have q3_kb_h := kb_h.cell 3
  have aq3_kb_h := fun o => (World.cell?_alloc_lt w14 o ⟨w12.heap.size, 3, none⟩ kb_h.lt).trans q3_kb_h
  have q4_kb_h := kb_h.cell 4
  have aq4_kb_h := fun o => (World.cell?_alloc_lt w14 o ⟨w12.heap.size, 4, none⟩ kb_h.lt).trans q4_kb_h
  simp only [List.getElem?_toArray, List.getElem?_cons_succ, List.getElem?_cons_zero] at q0_kb_w aq0_kb_w q1_kb_w aq1_kb_w q2_kb_w aq2_kb_w q3_kb_w aq3_kb_w q4_kb_w aq4_kb_w q0_kb_g aq0_kb_g q1_kb_g aq1_kb_g q2_kb_g aq2_kb_g q3_kb_g aq3_kb_g q4_kb_g aq4_kb_g q0_kb_h aq0_kb_h q1_kb_h aq1_kb_h q2_kb_h aq2_kb_h q3_kb_h aq3_kb_h q4_kb_h aq4_kb_h
  go_wp2_with fail
  refine at_world fun w15 hW => ?_
  have rW : Only w14.heap.size w14.heap.size w14 w15 := by rw [hW]; (repeat' (first | exact Only.refl _ _ _ | refine Only.alloc ?_ _))
  have z15 := rW.size
  clear q0_kb_w aq0_kb_w q1_kb_w aq1_kb_w q2_kb_w aq2_kb_w q3_kb_w aq3_kb_w q4_kb_w aq4_kb_w q0_kb_g aq0_kb_g q1_kb_g aq1_kb_g q2_kb_g aq2_kb_g q3_kb_g aq3_kb_g q4_kb_g aq4_kb_g q0_kb_h aq0_kb_h q1_kb_h aq1_kb_h q2_kb_h aq2_kb_h q3_kb_h aq3_kb_h q4_kb_h aq4_kb_h
  have ld := ld.only rW (by omega) (by omega)
  have f0_w := f0_w.only rW (by omega) (by omega)
  have f1_w := f1_w.only rW (by omega) (by omega)
  have f2_w := f2_w.only rW (by omega) (by omega)
  have f3_w := f3_w.only rW (by omega) (by omega)
  have f0_g := f0_g.only rW (by omega) (by omega)
  have f1_g := f1_g.only rW (by omega) (by omega)
  have f2_g := f2_g.only rW (by omega) (by omega)
  have f3_g := f3_g.only rW (by omega) (by omega)
  have f0_h := f0_h.only rW (by omega) (by omega)
  have f1_h := f1_h.only rW (by omega) (by omega)
  have f2_h := f2_h.only rW (by omega) (by omega)
  have f3_h := f3_h.only rW (by omega) (by omega)
  have kb_w := kb_w.only rW (by omega)
  have kb_g := kb_g.only rW (by omega)
  have kb_h := kb_h.only rW (by omega)
  have bel := below_only bel rW (by omega) (by omega)
  clear hW rW
  refine (heldProject_any m' _ _ _ _ _ _ _ _ _ _ (1) _ (by omega) (by omega) (by omega) (by exact f0_g) (by exact f1_g) (by exact f2_g) (by exact f3_g) (by omega)).mono ?_
  rintro e w16 ⟨rfl, r16⟩
  have r16 := only_below r16
  have z16 := r16.size
  have bel := below_only bel r16 (by first | exact Nat.le_refl _ | omega) (by omega)
  have ld := ld.only r16 (by omega) (by omega)
  have f0_w := f0_w.only r16 (by omega) (by omega)
  have f1_w := f1_w.only r16 (by omega) (by omega)
  have f2_w := f2_w.only r16 (by omega) (by omega)
  have f3_w := f3_w.only r16 (by omega) (by omega)
  have f0_g := f0_g.only r16 (by omega) (by omega)
  have f1_g := f1_g.only r16 (by omega) (by omega)
  have f2_g := f2_g.only r16 (by omega) (by omega)
  have f3_g := f3_g.only r16 (by omega) (by omega)
  have f0_h := f0_h.only r16 (by omega) (by omega)
  have f1_h := f1_h.only r16 (by omega) (by omega)
  have f2_h := f2_h.only r16 (by omega) (by omega)
  have f3_h := f3_h.only r16 (by omega) (by omega)
  have kb_w := kb_w.only r16 (by omega)
  have kb_g := kb_g.only r16 (by omega)
  have kb_h := kb_h.only r16 (by omega)
  clear r16
  have q0_kb_w := kb_w.cell 0
  have aq0_kb_w := fun o => (World.cell?_alloc_lt w16 o ⟨w2.heap.size, 0, none⟩ kb_w.lt).trans q0_kb_w
  have q1_kb_w := kb_w.cell 1
  have aq1_kb_w := fun o => (World.cell?_alloc_lt w16 o ⟨w2.heap.size, 1, none⟩ kb_w.lt).trans q1_kb_w
  have q2_kb_w := kb_w.cell 2
  have aq2_kb_w := fun o => (World.cell?_alloc_lt w16 o ⟨w2.heap.size, 2, none⟩ kb_w.lt).trans q2_kb_w
  have q3_kb_w := kb_w.cell 3
  have aq3_kb_w := fun o => (World.cell?_alloc_lt w16 o ⟨w2.heap.size, 3, none⟩ kb_w.lt).trans q3_kb_w
  have q4_kb_w := kb_w.cell 4
  have aq4_kb_w := fun o => (World.cell?_alloc_lt w16 o ⟨w2.heap.size, 4, none⟩ kb_w.lt).trans q4_kb_w
  have q0_kb_g := kb_g.cell 0
  have aq0_kb_g := fun o => (World.cell?_alloc_lt w16 o ⟨w4.heap.size, 0, none⟩ kb_g.lt).trans q0_kb_g
  have q1_kb_g := kb_g.cell 1
  have aq1_kb_g := fun o => (World.cell?_alloc_lt w16 o ⟨w4.heap.size, 1, none⟩ kb_g.lt).trans q1_kb_g
  have q2_kb_g := kb_g.cell 2
  have aq2_kb_g := fun o => (World.cell?_alloc_lt w16 o ⟨w4.heap.size, 2, none⟩ kb_g.lt).trans q2_kb_g
  have q3_kb_g := kb_g.cell 3
  have aq3_kb_g := fun o => (World.cell?_alloc_lt w16 o ⟨w4.heap.size, 3, none⟩ kb_g.lt).trans q3_kb_g
  have q4_kb_g := kb_g.cell 4
  have aq4_kb_g := fun o => (World.cell?_alloc_lt w16 o ⟨w4.heap.size, 4, none⟩ kb_g.lt).trans q4_kb_g
  have q0_kb_h := kb_h.cell 0
  have aq0_kb_h := fun o => (World.cell?_alloc_lt w16 o ⟨w12.heap.size, 0, none⟩ kb_h.lt).trans q0_kb_h
  have q1_kb_h := kb_h.cell 1
  have aq1_kb_h := fun o => (World.cell?_alloc_lt w16 o ⟨w12.heap.size, 1, none⟩ kb_h.lt).trans q1_kb_h
  have q2_kb_h := kb_h.cell 2
  have aq2_kb_h := fun o => (World.cell?_alloc_lt w16 o ⟨w12.heap.size, 2, none⟩ kb_h.lt).trans q2_kb_h
  have q3_kb_h := kb_h.cell 3
  have aq3_kb_h := fun o => (World.cell?_alloc_lt w16 o ⟨w12.heap.size, 3, none⟩ kb_h.lt).trans q3_kb_h
  have q4_kb_h := kb_h.cell 4
  have aq4_kb_h := fun o => (World.cell?_alloc_lt w16 o ⟨w12.heap.size, 4, none⟩ kb_h.lt).trans q4_kb_h
  simp only [List.getElem?_toArray, List.getElem?_cons_succ, List.getElem?_cons_zero] at q0_kb_w aq0_kb_w q1_kb_w aq1_kb_w q2_kb_w aq2_kb_w q3_kb_w aq3_kb_w q4_kb_w aq4_kb_w q0_kb_g aq0_kb_g q1_kb_g aq1_kb_g q2_kb_g aq2_kb_g q3_kb_g aq3_kb_g q4_kb_g aq4_kb_g q0_kb_h aq0_kb_h q1_kb_h aq1_kb_h q2_kb_h aq2_kb_h q3_kb_h aq3_kb_h q4_kb_h aq4_kb_h
  go_wp2
  go_ret
  exact ⟨rfl, bel⟩

theorem reads (os : Os) {H : Type} (enc : TypeId × Value → H) : ∃ x, DataW.whole enc Tryz.prog ((laidWorldE os).forCall (fun _ _ => 0) ⟨#[], #[.string ByteArray.empty], []⟩).memory Tryz.f4.params.toList Rows.fnExactParseProjectSpec.vars false #[(.string ByteArray.empty : Value)].toList 8 = some x := by
  have h : (DataW.whole enc Tryz.prog ((laidWorldE os).forCall (fun _ _ => 0) ⟨#[], #[.string ByteArray.empty], []⟩).memory Tryz.f4.params.toList Rows.fnExactParseProjectSpec.vars false #[(.string ByteArray.empty : Value)].toList 8).isSome = true := by kernel_rfl
  exact Option.isSome_iff_exists.1 h
set_option maxRecDepth 100000 in
theorem lifted (os : Os) (started : os.Started) (H : Type) (enc : TypeId × Value → H) (F : Stop.Interp) :
    ReturnsInHanded {} Tryz.checked os 4 .any ((OpenSpec.ofChange Rows.fnExactParseProjectSpec).preRow enc Tryz.prog Tryz.f4 Rows.fnExactParseProjectRow.domain false Rows.fnExactParseProjectRow.laid) (((OpenSpec.ofChange Rows.fnExactParseProjectSpec).at F).post enc Tryz.prog Tryz.f4 false true false false) := by
  obtain ⟨x, hx⟩ := reads os enc
  refine returnsInHanded_of_row (C := Tryz.checked) (s := OpenSpec.ofChange Rows.fnExactParseProjectSpec) ownP started (by kernel_rfl) Tryz.func4
    (witness_row_at (enc := enc) (C := Tryz.checked) false (laidWorldE os) #[.string ByteArray.empty] rfl (by kernel_rfl) (by kernel_rfl) (by kernel_rfl)
      (OpenSpec.preRow_of_cond 8 hx rfl (fun k hk => by cases hk) (by kernel_rfl) (laid_metE os _))) ?_
  intro W base args ds gs before hval0 hW _ _ _ hL hSh _
  have hval : ∀ (j : Nat) t v, Tryz.f4.params[j]? = some t → args[j]? = some v → Value.okWide Tryz.prog W .any base t v := hval0
  have hW' := hW
  obtain ⟨p, q, hA0, hV, rfl, hfz, hnd⟩ := hW
  have hA : DataW.TrodAll enc Tryz.prog W 0 (fun _ => true) true Tryz.f4.params.toList args.toList ds p := hA0
  rw [Tryz.params4] at hA hval
  obtain ⟨v0, vs0, d0, ds0, p0, q0, hargs, rfl, rfl, h0, r0⟩ := trodAll_cons hA
  obtain ⟨rfl, rfl, rfl⟩ := trodAll_nil r0
  obtain rfl : args = #[v0] := by cases args; simp_all
  obtain ⟨rfl, rfl⟩ := trodVars_none hV
  obtain ⟨x0, rfl, rfl, rfl, i0⟩ := open_string Tryz.underlying9 (hval 0 9 v0 rfl rfl) h0
  clear hA0 hval0
  refine (walk x0 W (ldC_of hL hSh)).mono fun e W' ⟨he, bel⟩ => ?_
  subst he
  exact ⟨_, rfl, _, _, _, [], _, [], hW', trodAll_mk1 (shut_bool Tryz.underlying4 _), (trodAll_cons_mk (shut_string Tryz.underlying9 i0) trodAll_mk0), rfl, bel.frame _, fun h => by cases h⟩
theorem over : Rows.FnExactParseProjectSaid :=
  OpenClaim.holds_of_cond 4 Tryz.f4 rfl rfl rfl rfl rfl rfl rfl ⟨rfl, rfl, rfl, rfl, rfl⟩ rfl rfl rfl rfl rfl (by kernel_rfl) Tryz.func4 (by kernel_rfl)
    (of_decide_eq_true (by kernel_rfl)) (by unfold Func.isWrapper; first | (rw [if_pos (by decide +kernel)]; kernel_rfl) | (rw [if_neg (by decide +kernel)]; exact ⟨rfl, rfl⟩))
    (fun os started H enc _ F => by rw [OpenClaim.pre_eq_preRow]; exact lifted os started H enc F)
theorem plain (f : FuncId) (fn : Func) (hf : Tryz.pinned.checked.prog.funcNamed Rows.fnExactParseProjectRow.func = some f) (hfn : Tryz.pinned.checked.prog.funcs[f]? = some fn) :
    true = Tryz.pinned.checked.prog.looks [] ∧ ∀ (j : Nat) t, fn.params[j]? = some t → Tryz.pinned.checked.prog.wantsStandIn t = false := by
  obtain rfl : f = 4 := Option.some.inj ((show Tryz.prog.funcNamed Rows.fnExactParseProjectRow.func = some 4 by kernel_rfl).symm.trans hf) |>.symm
  obtain rfl : fn = Tryz.f4 := (Option.some.inj (Tryz.func4.symm.trans hfn)).symm
  refine ⟨by kernel_rfl, fun j t ht => ?_⟩
  rw [Tryz.params4] at ht
  have ht2 := Array.mem_of_getElem? ht
  simp only [List.mem_toArray, List.mem_cons, List.not_mem_nil, or_false] at ht2
  rcases ht2 with rfl
  · exact (show Tryz.prog.wantsStandIn 9 = false by kernel_rfl)
theorem proved : Rows.FnExactParseProjectCardSaid :=
  Claim7.holds_tied_plain_at .later [] _ _ _ _ over (fun _ h => by cases h) (by kernel_rfl) (fun _ h => by cases h) fnExactParseProject_row_tie rfl ⟨rfl, rfl⟩ (by kernel_rfl) rfl plain (by kernel_rfl)
end Go.Proofs.YtcecgbjolngdbaaGreatDoor.fnExactParseProject
