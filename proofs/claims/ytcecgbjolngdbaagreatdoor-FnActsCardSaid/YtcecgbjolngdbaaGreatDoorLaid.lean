/- What the listed package variables hold, carried through the walks. -/
import Derived.Test.YtcecgbjolngdbaaGreatDoorKit
import Derived.Test.YtcecgbjolngdbaaGreatDoorChecked
import Derived.Lib.LaidTab
import Derived.Lib.ItoaNum
namespace Go.Proofs.YtcecgbjolngdbaaGreatDoor
open Go.ChangeShapes Go.WideShapes Go.ChangeAt Go.RowKit
set_option linter.unusedVariables false

theorem var_block {P : Program} {w w' : World} {n : String} {g : Nat} (hg : P.globalNamed n = some g) (hb : w'.heap[g]? = w.heap[g]?) : w'.var? P n = w.var? P n := by
  unfold World.var?
  rw [hg]
  simp only [Option.bind_some, hb]
theorem var_lt {P : Program} {w : World} {n : String} {g : Nat} {cs : Array Value} (hg : P.globalNamed n = some g) (h : w.var? P n = some cs) : g < w.heap.size := by
  unfold World.var? at h
  rw [hg] at h
  simp only [Option.bind_some] at h
  cases e : w.heap[g]? with
  | none => rw [e] at h; cases h
  | some o => exact (Array.getElem?_eq_some_iff.1 e).1
theorem gPow : Tryz.prog.globalNamed "internal/strconv.uint64pow10" = some 3 := by kernel_rfl
/-- The table of powers stands below hi. -/
def LdT (w : World) (hi : Nat) : Prop := Lib.TabIs Tryz.prog w "internal/strconv.uint64pow10" .u64 Lib.pow10Tab ∧ 3 < hi
section
variable {w w' : World} {hi : Nat}
theorem LdT.tab (h : LdT w hi) : Lib.TabIs Tryz.prog w "internal/strconv.uint64pow10" .u64 Lib.pow10Tab := h.1
theorem LdT.below {B : Nat} (h : LdT w hi) (hb : Below B w w') (hB : hi ≤ B) : LdT w' hi := ⟨(var_block gPow (hb.block _ (Nat.lt_of_lt_of_le h.2 hB))).trans h.1, h.2⟩
theorem LdT.only {lo' hi' : Nat} (h : LdT w hi) (hb : Only lo' hi' w w') (hs : hi ≤ w.heap.size) (hd : hi ≤ lo' ∨ hi' ≤ 0) : LdT w' hi := ⟨(var_block gPow (hb.block _ (Nat.lt_of_lt_of_le h.2 hs) (by have := h.2; omega))).trans h.1, h.2⟩
theorem LdT.mono {hi' : Nat} (h : LdT w hi) (h1 : hi ≤ hi') : LdT w hi' := ⟨h.1, Nat.lt_of_lt_of_le h.2 h1⟩
theorem LdT.of (h : Lib.TabIs Tryz.prog w "internal/strconv.uint64pow10" .u64 Lib.pow10Tab) : LdT w w.heap.size := ⟨h, var_lt gPow h⟩
end
theorem gSyn : Tryz.prog.globalNamed "strconv.ErrSyntax" = some 1 := by kernel_rfl
theorem gRng : Tryz.prog.globalNamed "strconv.ErrRange" = some 2 := by kernel_rfl
/-- The table and the two errors stand below hi. -/
def LdE (w : World) (hi : Nat) : Prop := LdT w hi ∧ (∃ tp p, w.var? Tryz.prog "strconv.ErrSyntax" = some #[.iface tp p]) ∧ (∃ tp p, w.var? Tryz.prog "strconv.ErrRange" = some #[.iface tp p]) ∧ 1 < hi ∧ 2 < hi
section
variable {w w' : World} {hi : Nat}
theorem LdE.t (h : LdE w hi) : LdT w hi := h.1
theorem LdE.below {B : Nat} (h : LdE w hi) (hb : Below B w w') (hB : hi ≤ B) : LdE w' hi := by
  obtain ⟨h1, ⟨t1, p1, h2⟩, ⟨t2, p2, h3⟩, h4, h5⟩ := h
  exact ⟨h1.below hb hB, ⟨t1, p1, (var_block gSyn (hb.block _ (Nat.lt_of_lt_of_le h4 hB))).trans h2⟩, ⟨t2, p2, (var_block gRng (hb.block _ (Nat.lt_of_lt_of_le h5 hB))).trans h3⟩, h4, h5⟩
theorem LdE.only {lo' hi' : Nat} (h : LdE w hi) (hb : Only lo' hi' w w') (hs : hi ≤ w.heap.size) (hd : hi ≤ lo' ∨ hi' ≤ 0) : LdE w' hi := by
  obtain ⟨h1, ⟨t1, p1, h2⟩, ⟨t2, p2, h3⟩, h4, h5⟩ := h
  exact ⟨h1.only hb hs hd, ⟨t1, p1, (var_block gSyn (hb.block _ (Nat.lt_of_lt_of_le h4 hs) (by omega))).trans h2⟩, ⟨t2, p2, (var_block gRng (hb.block _ (Nat.lt_of_lt_of_le h5 hs) (by omega))).trans h3⟩, h4, h5⟩
theorem LdE.of (h : LdT w w.heap.size) {t1 t2 : TypeId} {p1 p2 : Value} (h1 : w.var? Tryz.prog "strconv.ErrSyntax" = some #[.iface t1 p1]) (h2 : w.var? Tryz.prog "strconv.ErrRange" = some #[.iface t2 p2]) : LdE w w.heap.size :=
  ⟨h, ⟨_, _, h1⟩, ⟨_, _, h2⟩, var_lt gSyn h1, var_lt gRng h2⟩
end
/-- Besides, the library's greatest length for a quick search is an int. -/
def LdC (w : World) (hi : Nat) : Prop := LdE w hi ∧ (∃ m, w.cell? ⟨0, 0, none⟩ = some (.int .i64 m)) ∧ 0 < hi
section
variable {w w' : World} {hi : Nat}
theorem LdC.e (h : LdC w hi) : LdE w hi := h.1
theorem LdC.below {B : Nat} (h : LdC w hi) (hb : Below B w w') (hB : hi ≤ B) : LdC w' hi := by
  obtain ⟨h1, ⟨m, h2⟩, h3⟩ := h
  exact ⟨h1.below hb hB, ⟨m, (World.cell?_of_block (a := ⟨0, 0, none⟩) (hb.block _ (Nat.lt_of_lt_of_le h3 hB))).trans h2⟩, h3⟩
theorem LdC.only {lo' hi' : Nat} (h : LdC w hi) (hb : Only lo' hi' w w') (hs : hi ≤ w.heap.size) (hd : hi ≤ lo' ∨ hi' ≤ 0) : LdC w' hi := by
  obtain ⟨h1, ⟨m, h2⟩, h3⟩ := h
  exact ⟨h1.only hb hs hd, ⟨m, (World.cell?_of_block (a := ⟨0, 0, none⟩) (hb.block _ (Nat.lt_of_lt_of_le h3 hs) (by show ¬ (lo' ≤ 0 ∧ 0 < hi'); omega))).trans h2⟩, h3⟩
end
end Go.Proofs.YtcecgbjolngdbaaGreatDoor
