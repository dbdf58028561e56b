/- Words of our own for memory (rows that are read, rows that the call owns, frames) and small lemmas; nothing here speaks of a program. -/
import Derived.WalkKit
import Derived.ProofKit
import Derived.OpenShut
import Derived.ShutString
import Derived.ChangeOld
import Derived.Below
import Derived.Lib.Hide
import Derived.Deep.QuietTactic
import Derived.BigQuiet
import Derived.OwnWalk
import Derived.Laws.OwnMore
import Derived.Maps.AppendAt
import Derived.Deep.Draws
import Derived.Deep.OwnRows
import Derived.Laws.IdiomStrings
import Derived.IntWalk
import Derived.Deep.DeepMust
import Derived.Deep.DeepFit
namespace Go.Proofs.YtcecgbjolngdbaaGreatDoor
open Go.ChangeShapes Go.WideShapes Go.ChangeAt Go.RowKit

theorem ret_bool {a b : Bool} (h : a = b) : Ending.returned (.bool a) = .returned (.bool b) := by rw [h]
theorem ret_int {k : IntKind} {a b : Int} (h : a = b) : Ending.returned (.int k a) = .returned (.int k b) := by rw [h]
theorem ret_str {a b : ByteArray} (h : a = b) : Ending.returned (.string a) = .returned (.string b) := by rw [h]
theorem hide {p : Prop} (h : p) : Hid p := h
theorem val_int {k : IntKind} {a b : Int} (h : a = b) : Value.int k a = .int k b := by rw [h]

theorem wrap_nat (m : Nat) (h : m ≤ 16777216) : IntKind.i64.wrap (m : Int) = (m : Int) := IntWalk.i64_in _ (by omega)
theorem take_succ_eq {α : Type} [Inhabited α] {xs ys : List α} {k : Nat} {d : α} (h : xs.take k = ys.take k) (h1 : k < xs.length) (h2 : k < ys.length) (he : xs.getD k d = ys.getD k d) : xs.take (k + 1) = ys.take (k + 1) := by
  rw [List.take_succ_eq_append_getElem h1, List.take_succ_eq_append_getElem h2, h]
  simp only [List.getD_eq_getElem?_getD, List.getElem?_eq_getElem h1, List.getElem?_eq_getElem h2, Option.getD_some] at he
  rw [he]
theorem take_snoc {α : Type} {xs : List α} {k : Nat} (d : α) (h : k < xs.length) : xs.take (k + 1) = xs.take k ++ [xs.getD k d] := by
  rw [List.take_succ_eq_append_getElem h]
  simp only [List.getD_eq_getElem?_getD, List.getElem?_eq_getElem h, Option.getD_some]
theorem getD_get {α : Type} {xs : List α} {k : Nat} (d : α) (h : k < xs.length) : xs.getD k d = xs[k] := by
  simp only [List.getD_eq_getElem?_getD, List.getElem?_eq_getElem h, Option.getD_some]

theorem fill_get {α : Type} (xs : List α) (n k : Nat) (z : α) (hx : xs.length = k) (hk : k < n) : (xs ++ List.replicate (n - k) z)[k]? = some z := by
  rw [List.getElem?_append_right (by omega), List.getElem?_replicate, if_pos (by omega)]
theorem fill_set {α : Type} (xs : List α) (n k : Nat) (z u : α) (hx : xs.length = k) (hk : k < n) : (xs ++ List.replicate (n - k) z).set k u = xs ++ [u] ++ List.replicate (n - (k + 1)) z := by
  subst hx
  rw [List.set_append_right _ _ (Nat.le_refl _), show n - xs.length = (n - (xs.length + 1)) + 1 from by omega]
  simp [List.replicate_succ]

theorem fill_set2 {α : Type} (xs : List α) (n k : Nat) (z x y : α) (hx : xs.length = k * 2) (hk : k < n) : ((xs ++ List.replicate ((n - k) * 2) z).set (k * 2) x).set (k * 2 + 1) y = xs ++ [x, y] ++ List.replicate ((n - (k + 1)) * 2) z := by
  rw [List.set_append_right _ _ (by omega), List.set_append_right _ _ (by omega), hx, Nat.sub_self, show k * 2 + 1 - k * 2 = 1 from by omega, show (n - k) * 2 = (n - (k + 1)) * 2 + 1 + 1 from by omega]
  simp [List.replicate_succ]
theorem flat_len {α β : Type} (f : α → List β) (sz : Nat) (hf : ∀ a, (f a).length = sz) (l : List α) : (l.flatMap f).length = l.length * sz := by
  induction l with
  | nil => simp
  | cons a l ih => rw [List.flatMap_cons, List.length_append, hf, ih, List.length_cons, Nat.succ_mul]; omega
theorem flat_get {α β : Type} (f : α → List β) (sz : Nat) (hf : ∀ a, (f a).length = sz) (l : List α) (d : α) (j i : Nat) (hj : j < l.length) (hi : i < sz) : (l.flatMap f)[j * sz + i]? = (f (l.getD j d))[i]? := by
  induction l generalizing j with
  | nil => simp at hj
  | cons a l ih =>
    rw [List.flatMap_cons]
    cases j with
    | zero =>
      rw [Nat.zero_mul, Nat.zero_add, List.getElem?_append_left (by rw [hf]; exact hi)]
      rfl
    | succ j =>
      have e : (j + 1) * sz + i = (f a).length + (j * sz + i) := by rw [hf, Nat.succ_mul]; omega
      rw [e, List.getElem?_append_right (by omega), Nat.add_sub_cancel_left]
      have hj' : j < l.length := by simpa using hj
      rw [ih j hj']
      rfl

/-! ## Frames -/
/-- Of the blocks that were there, only those from lo on and below hi may have turned. -/
structure Only (lo hi : Nat) (w w' : World) : Prop where
  os : w'.os = w.os
  tape : w'.tape = w.tape
  output : w'.output = w.output
  size : w.heap.size ≤ w'.heap.size
  block : ∀ k, k < w.heap.size → ¬ (lo ≤ k ∧ k < hi) → w'.heap[k]? = w.heap[k]?

theorem Only.refl (lo hi : Nat) (w : World) : Only lo hi w w := ⟨rfl, rfl, rfl, Nat.le_refl _, fun _ _ _ => rfl⟩
theorem Only.trans {lo hi : Nat} {a b c : World} (h : Only lo hi a b) (k : Only lo hi b c) : Only lo hi a c :=
  ⟨k.os.trans h.os, k.tape.trans h.tape, k.output.trans h.output, Nat.le_trans h.size k.size, fun i hi hn => (k.block i (Nat.lt_of_lt_of_le hi h.size) hn).trans (h.block i hi hn)⟩
theorem Only.drewN {lo hi : Nat} {a w : World} (h : Only lo hi a w) (n : Nat) : Only lo hi a (w.drewN n) := ⟨h.os, h.tape, h.output, h.size, h.block⟩
theorem Only.drew {lo hi : Nat} {a w : World} (h : Only lo hi a w) : Only lo hi a w.drew := ⟨h.os, h.tape, h.output, h.size, h.block⟩
theorem Only.alloc {lo hi : Nat} {a w : World} (h : Only lo hi a w) (o : Obj) : Only lo hi a (w.alloc o) :=
  ⟨h.os, h.tape, h.output, Nat.le_trans h.size (by simp), fun i hi hne => (Below.heap_alloc w o i (Nat.lt_of_lt_of_le hi h.size)).trans (h.block i hi hne)⟩
theorem Only.setCell {lo hi : Nat} {a w : World} (h : Only lo hi a w) {p : Addr} (hp : lo ≤ p.block ∧ p.block < hi) (u : Value) : Only lo hi a (w.setCell p u) :=
  ⟨h.os, h.tape, h.output, by simpa [World.setCell] using h.size, fun i hi hne => (Below.heap_setCell w p u i (by rintro rfl; exact hne hp)).trans (h.block i hi hne)⟩
theorem Only.below {lo hi B : Nat} {a w w' : World} (h : Only lo hi a w) (hb : Below B w w') (hB : a.heap.size ≤ B) : Only lo hi a w' :=
  ⟨hb.os.trans h.os, hb.tape.trans h.tape, hb.output.trans h.output, Nat.le_trans h.size hb.size, fun i hi hne => (hb.block i (by omega)).trans (h.block i hi hne)⟩
theorem Only.mono {lo hi lo' hi' : Nat} {w w' : World} (h : Only lo hi w w') (h1 : lo' ≤ lo) (h2 : hi ≤ hi') : Only lo' hi' w w' :=
  ⟨h.os, h.tape, h.output, h.size, fun k hk hn => h.block k hk (by omega)⟩
/-- What turned only from B on leaves what is below B. -/
theorem below_only {lo hi B : Nat} {a w w' : World} (h : Below B a w) (ho : Only lo hi w w') (hB : B ≤ lo) (hs : B ≤ w.heap.size) : Below B a w' :=
  h.trans ⟨ho.os, ho.tape, ho.output, ho.size, fun k hk => ho.block k (by omega) (by omega)⟩

theorem below_quiet {B : Nat} {a w : World} (h : Below B a w) (n : Nat) : Below B a (w.drewN n) := ⟨h.os, h.tape, h.output, h.size, h.block⟩
theorem only_below {w w' : World} (h : Below w.heap.size w w') : Only w.heap.size w.heap.size w w' := ⟨h.os, h.tape, h.output, h.size, fun k hk _ => h.block k hk⟩
/-- The world has drawn, and no more. -/
def Qt (w w' : World) : Prop := ∃ d, w' = w.drewN d
theorem Qt.refl (w : World) : Qt w w := ⟨0, rfl⟩
theorem Qt.drewN {a w : World} (h : Qt a w) (n : Nat) : Qt a (w.drewN n) := by obtain ⟨d, rfl⟩ := h; exact ⟨d + n, World.drewN_drewN _ _ _⟩
theorem Qt.drew {a w : World} (h : Qt a w) : Qt a w.drew := Qt.drewN h 1
theorem Qt.trans {a b c : World} (h : Qt a b) (k : Qt b c) : Qt a c := by obtain ⟨d, rfl⟩ := k; exact h.drewN d
theorem Qt.below {a w w' : World} {B : Nat} (h : Below B a w) (k : Qt w w') : Below B a w' := by obtain ⟨d, rfl⟩ := k; exact below_quiet h d

theorem only_qt {w w' : World} (h : Qt w w') : Only w.heap.size w.heap.size w w' := by obtain ⟨d, rfl⟩ := h; exact ⟨rfl, rfl, rfl, Nat.le_refl _, fun _ _ _ => rfl⟩

/-- A contract that leaves the world alone, met inside a region that reads. -/
theorem qeq {P : Program} {f : FuncId} {args : Array Value} {W : World} {g : Nat → World} {n : Nat} {v : Value} (hW : W = g n) (h : Calls P f args W fun e w' => e = .returned v ∧ W = w') :
    Calls P f args W fun e w' => e = .returned v ∧ ∃ m, w' = g m := h.mono fun _ _ hh => ⟨hh.1, n, hh.2 ▸ hW⟩

/-! ## A row that is read -/
/-- The slice at A has the integers l; its cells lie in blocks from lo on and below hi. -/
def RdI (w : World) (lo hi : Nat) (A : Option Addr) (l : List Int) : Prop :=
  0 < l.length → ∃ b off, A = some ⟨b, off, none⟩ ∧ lo ≤ b ∧ b < hi ∧ ∀ j, j < l.length → w.cell? ⟨b, off + j, none⟩ = some (.int .i64 (l.getD j 0))
def RdS (w : World) (lo hi : Nat) (A : Option Addr) (l : List ByteArray) : Prop :=
  0 < l.length → ∃ b off, A = some ⟨b, off, none⟩ ∧ lo ≤ b ∧ b < hi ∧ ∀ j, j < l.length → w.cell? ⟨b, off + j, none⟩ = some (.string (l.getD j ByteArray.empty))

section
variable {w w' : World} {lo hi : Nat} {A : Option Addr}
theorem RdI.nil_ {l : List Int} (h : l.length = 0) : RdI w lo hi A l := fun h' => absurd h' (by omega)
theorem RdI.keep {l : List Int} (h : RdI w lo hi A l) (hk : ∀ k, lo ≤ k → k < hi → w'.heap[k]? = w.heap[k]?) : RdI w' lo hi A l := fun h0 => by
  obtain ⟨b, off, hA, h1, h2, hc⟩ := h h0
  exact ⟨b, off, hA, h1, h2, fun j hj => (World.cell?_of_block (a := ⟨b, off + j, none⟩) (hk b h1 h2)).trans (hc j hj)⟩
theorem RdI.mono {lo' hi' : Nat} {l : List Int} (h : RdI w lo hi A l) (h1 : lo' ≤ lo) (h2 : hi ≤ hi') : RdI w lo' hi' A l := fun h0 => by
  obtain ⟨b, off, hA, h3, h4, hc⟩ := h h0
  exact ⟨b, off, hA, by omega, by omega, hc⟩
theorem RdI.drewN {l : List Int} (h : RdI w lo hi A l) (d : Nat) : RdI (w.drewN d) lo hi A l := h
theorem RdI.below {l : List Int} {B : Nat} (h : RdI w lo hi A l) (hb : Below B w w') (hB : hi ≤ B) : RdI w' lo hi A l := h.keep fun k _ hk => hb.block k (by omega)
theorem RdI.only {l : List Int} {lo' hi' : Nat} (h : RdI w lo hi A l) (hb : Only lo' hi' w w') (hs : hi ≤ w.heap.size) (hd : hi ≤ lo' ∨ hi' ≤ lo) : RdI w' lo hi A l := h.keep fun k _ hk => hb.block k (by omega) (by omega)
theorem RdS.keep {l : List ByteArray} (h : RdS w lo hi A l) (hk : ∀ k, lo ≤ k → k < hi → w'.heap[k]? = w.heap[k]?) : RdS w' lo hi A l := fun h0 => by
  obtain ⟨b, off, hA, h1, h2, hc⟩ := h h0
  exact ⟨b, off, hA, h1, h2, fun j hj => (World.cell?_of_block (a := ⟨b, off + j, none⟩) (hk b h1 h2)).trans (hc j hj)⟩
theorem RdS.mono {lo' hi' : Nat} {l : List ByteArray} (h : RdS w lo hi A l) (h1 : lo' ≤ lo) (h2 : hi ≤ hi') : RdS w lo' hi' A l := fun h0 => by
  obtain ⟨b, off, hA, h3, h4, hc⟩ := h h0
  exact ⟨b, off, hA, by omega, by omega, hc⟩
theorem RdS.drewN {l : List ByteArray} (h : RdS w lo hi A l) (d : Nat) : RdS (w.drewN d) lo hi A l := h
theorem RdS.below {l : List ByteArray} {B : Nat} (h : RdS w lo hi A l) (hb : Below B w w') (hB : hi ≤ B) : RdS w' lo hi A l := h.keep fun k _ hk => hb.block k (by omega)
theorem RdS.only {l : List ByteArray} {lo' hi' : Nat} (h : RdS w lo hi A l) (hb : Only lo' hi' w w') (hs : hi ≤ w.heap.size) (hd : hi ≤ lo' ∨ hi' ≤ lo) : RdS w' lo hi A l := h.keep fun k _ hk => hb.block k (by omega) (by omega)
end

/-- The slice at A has the steps l (two numbers each). -/
def RdSt (w : World) (lo hi : Nat) (A : Option Addr) (l : List (Int × Int)) : Prop :=
  0 < l.length → ∃ b off, A = some ⟨b, off, none⟩ ∧ lo ≤ b ∧ b < hi ∧ ∀ j, j < l.length → w.cell? ⟨b, off + j * 2, none⟩ = some (.int .i64 (l.getD j (0, 0)).1) ∧ w.cell? ⟨b, off + j * 2 + 1, none⟩ = some (.int .i64 (l.getD j (0, 0)).2)
section
variable {w w' : World} {lo hi : Nat} {A : Option Addr} {l : List (Int × Int)}
theorem RdSt.keep (h : RdSt w lo hi A l) (hk : ∀ k, lo ≤ k → k < hi → w'.heap[k]? = w.heap[k]?) : RdSt w' lo hi A l := fun h0 => by
  obtain ⟨b, off, hA, h1, h2, hc⟩ := h h0
  exact ⟨b, off, hA, h1, h2, fun j hj => ⟨(World.cell?_of_block (a := ⟨b, off + j * 2, none⟩) (hk b h1 h2)).trans (hc j hj).1, (World.cell?_of_block (a := ⟨b, off + j * 2 + 1, none⟩) (hk b h1 h2)).trans (hc j hj).2⟩⟩
theorem RdSt.mono {lo' hi' : Nat} (h : RdSt w lo hi A l) (h1 : lo' ≤ lo) (h2 : hi ≤ hi') : RdSt w lo' hi' A l := fun h0 => by
  obtain ⟨b, off, hA, h3, h4, hc⟩ := h h0
  exact ⟨b, off, hA, by omega, by omega, hc⟩
theorem RdSt.drewN (h : RdSt w lo hi A l) (d : Nat) : RdSt (w.drewN d) lo hi A l := h
theorem RdSt.below {B : Nat} (h : RdSt w lo hi A l) (hb : Below B w w') (hB : hi ≤ B) : RdSt w' lo hi A l := h.keep fun k _ hk => hb.block k (by omega)
theorem RdSt.only {lo' hi' : Nat} (h : RdSt w lo hi A l) (hb : Only lo' hi' w w') (hs : hi ≤ w.heap.size) (hd : hi ≤ lo' ∨ hi' ≤ lo) : RdSt w' lo hi A l := h.keep fun k _ hk => hb.block k (by omega) (by omega)
end

/-! ## A row that the call owns -/
/-- The slice at A of n elements of type e (sz cells each) owns the cells xs: it is nil, or stands at the head of a block from lo on and below hi. -/
def OwnR (w : World) (lo hi : Nat) (e : TypeId) (sz : Nat) (A : Option Addr) (n c : Nat) (xs : List Value) : Prop :=
  w.ownsRow lo e sz (.slice A n c) n xs ∧ ∀ a, A = some a → a.block < hi

section
variable {w w' : World} {lo hi : Nat} {e : TypeId} {sz : Nat} {A : Option Addr} {n c : Nat} {xs : List Value}
theorem OwnR.len (h : OwnR w lo hi e sz A n c xs) : xs.length = n * sz := h.1.1
theorem OwnR.form (h : OwnR w lo hi e sz A n c xs) : (A = none ∧ n = 0 ∧ c = 0) ∨ ∃ g, A = some ⟨g, 0, none⟩ ∧ lo ≤ g ∧ g < hi ∧ g < w.heap.size := by
  rcases h.1.2 with ⟨hv, hn⟩ | ⟨g, cap, cur, hv, hg, hh, _⟩
  · simp at hv
    exact .inl ⟨hv.1, hv.2.1, hv.2.2⟩
  · simp at hv
    refine .inr ⟨g, hv.1, hg, h.2 _ hv.1, ?_⟩
    obtain ⟨hlt, _⟩ := Array.getElem?_eq_some_iff.1 hh
    exact hlt
theorem OwnR.some_ (h : OwnR w lo hi e sz A n c xs) (hn : 0 < n) : ∃ g, A = some ⟨g, 0, none⟩ ∧ lo ≤ g ∧ g < hi ∧ g < w.heap.size := by
  rcases h.form with ⟨_, h0, _⟩ | h1
  · omega
  · exact h1
theorem OwnR.cellAt {g : Nat} (h : OwnR w lo hi e sz (some ⟨g, 0, none⟩) n c xs) (j : Nat) (hj : j < n * sz) : w.cell? ⟨g, j, none⟩ = xs[j]? := h.1.cellAt j hj
theorem OwnR.frozenAt {g : Nat} (h : OwnR w lo hi e sz (some ⟨g, 0, none⟩) n c xs) (j : Nat) : w.frozen? ⟨g, j, none⟩ = false := h.1.frozenAt j
theorem OwnR.keep (h : OwnR w lo hi e sz A n c xs) (hk : ∀ k, lo ≤ k → k < hi → w'.heap[k]? = w.heap[k]?) : OwnR w' lo hi e sz A n c xs := by
  obtain ⟨⟨hl, h1⟩, h2⟩ := h
  refine ⟨⟨hl, ?_⟩, h2⟩
  rcases h1 with h1 | ⟨g, cap, cur, hv, hg, hh, r⟩
  · exact .inl h1
  · refine .inr ⟨g, cap, cur, hv, hg, ?_, r⟩
    simp at hv
    rw [hk g hg (h2 _ hv.1)]
    exact hh
theorem OwnR.mono {lo' hi' : Nat} (h : OwnR w lo hi e sz A n c xs) (h1 : lo' ≤ lo) (h2 : hi ≤ hi') : OwnR w lo' hi' e sz A n c xs := by
  obtain ⟨⟨hl, h3⟩, h4⟩ := h
  refine ⟨⟨hl, ?_⟩, fun a ha => Nat.lt_of_lt_of_le (h4 a ha) h2⟩
  rcases h3 with h3 | ⟨g, cap, cur, hv, hg, r⟩
  · exact .inl h3
  · exact .inr ⟨g, cap, cur, hv, by omega, r⟩
theorem OwnR.drewN (h : OwnR w lo hi e sz A n c xs) (d : Nat) : OwnR (w.drewN d) lo hi e sz A n c xs := h
theorem OwnR.qt (h : OwnR w lo w.heap.size e sz A n c xs) (d : Nat) : OwnR (w.drewN d) lo (w.drewN d).heap.size e sz A n c xs := h
theorem OwnR.below {B : Nat} (h : OwnR w lo hi e sz A n c xs) (hb : Below B w w') (hB : hi ≤ B) : OwnR w' lo hi e sz A n c xs := h.keep fun k _ hk => hb.block k (by omega)
theorem OwnR.only {lo' hi' : Nat} (h : OwnR w lo hi e sz A n c xs) (hb : Only lo' hi' w w') (hs : hi ≤ w.heap.size) (hd : hi ≤ lo' ∨ hi' ≤ lo) : OwnR w' lo hi e sz A n c xs := h.keep fun k _ hk => hb.block k (by omega) (by omega)
theorem OwnR.alloc (h : OwnR w lo hi e sz A n c xs) (o : Obj) : OwnR (w.alloc o) lo hi e sz A n c xs := by
  obtain ⟨⟨hl, h1⟩, h2⟩ := h
  refine ⟨⟨hl, ?_⟩, h2⟩
  rcases h1 with h1 | ⟨g, cap, cur, hv, hg, hh, r⟩
  · exact .inl h1
  · refine .inr ⟨g, cap, cur, hv, hg, ?_, r⟩
    obtain ⟨hlt, _⟩ := Array.getElem?_eq_some_iff.1 hh
    rw [Below.heap_alloc w o g hlt]
    exact hh
/-- What was just made lies below the heap's end. -/
theorem OwnR.of_own (h : w.ownsRow lo e sz (.slice A n c) n xs) : OwnR w lo w.heap.size e sz A n c xs := by
  refine ⟨h, fun a ha => ?_⟩
  subst ha
  exact (h.lt a.block rfl).2
theorem own_shape {v : Value} (h : w.ownsRow lo e sz v n xs) : ∃ A c, v = .slice A n c := by
  rcases h.2 with ⟨rfl, rfl⟩ | ⟨g, cap, cur, rfl, _⟩
  · exact ⟨_, _, rfl⟩
  · exact ⟨_, _, rfl⟩
theorem own_cap (h : OwnR w lo hi e sz A n c xs) : n ≤ c := by
  rcases h.1.2 with ⟨hv, hn⟩ | ⟨g, cap, cur, hv, _, _, hnc, _⟩
  · omega
  · simp at hv
    omega
theorem OwnR.empty (w : World) (lo hi : Nat) (e : TypeId) (sz : Nat) : OwnR w lo hi e sz none 0 0 [] := ⟨World.ownsRow_nil w lo e sz, fun a ha => by cases ha⟩

theorem OwnR.rdI {l : List Int} (h : OwnR w lo hi e 1 A n c (l.map (.int .i64))) : RdI w lo hi A l := fun h0 => by
  have hl := h.len
  simp at hl
  obtain ⟨g, rfl, h1, h2, _⟩ := h.some_ (by omega)
  refine ⟨g, 0, rfl, h1, h2, fun j hj => ?_⟩
  rw [Nat.zero_add, h.cellAt j (by omega)]
  simp [hj]
theorem OwnR.rdS {l : List ByteArray} (h : OwnR w lo hi e 1 A n c (l.map .string)) : RdS w lo hi A l := fun h0 => by
  have hl := h.len
  simp at hl
  obtain ⟨g, rfl, h1, h2, _⟩ := h.some_ (by omega)
  refine ⟨g, 0, rfl, h1, h2, fun j hj => ?_⟩
  rw [Nat.zero_add, h.cellAt j (by omega)]
  simp [hj]

def flatSt (l : List (Int × Int)) : List Value := l.flatMap fun s => [.int .i64 s.1, .int .i64 s.2]
theorem flatSt_len (l : List (Int × Int)) : (flatSt l).length = l.length * 2 := flat_len _ 2 (fun _ => rfl) l
theorem flatSt_app (a b : List (Int × Int)) : flatSt (a ++ b) = flatSt a ++ flatSt b := by simp [flatSt]
theorem OwnR.rdSt {l : List (Int × Int)} (h : OwnR w lo hi e 2 A n c (flatSt l)) : RdSt w lo hi A l := fun h0 => by
  have hl := h.len
  rw [flatSt_len] at hl
  obtain ⟨g, rfl, h1, h2, _⟩ := h.some_ (by omega)
  refine ⟨g, 0, rfl, h1, h2, fun j hj => ⟨?_, ?_⟩⟩
  · rw [Nat.zero_add, h.cellAt _ (by omega)]
    exact (flat_get (fun s : Int × Int => [Value.int .i64 s.1, Value.int .i64 s.2]) 2 (fun _ => rfl) l (0, 0) j 0 hj (by omega))
  · rw [Nat.zero_add, h.cellAt _ (by omega)]
    exact (flat_get (fun s : Int × Int => [Value.int .i64 s.1, Value.int .i64 s.2]) 2 (fun _ => rfl) l (0, 0) j 1 hj (by omega))
/-- A store into an owned row. -/
theorem OwnR.stored {g : Nat} (h : OwnR w lo hi e sz (some ⟨g, 0, none⟩) n c xs) (j : Nat) (u : Value) : OwnR (w.setCell ⟨g, j, none⟩ u) lo hi e sz (some ⟨g, 0, none⟩) n c (xs.set j u) :=
  ⟨(h.1.stored j u).1, h.2⟩
theorem OwnR.eqv {ys : List Value} (h : OwnR w lo hi e sz A n c xs) (hx : xs = ys) : OwnR w lo hi e sz A n c ys := hx ▸ h
theorem OwnR.eqn {m : Nat} {ys : List Value} (h : OwnR w lo hi e sz A n c xs) (hn : n = m) (hx : xs = ys) : OwnR w lo hi e sz A m c ys := hn ▸ hx ▸ h
/-- A shorter cut of an owned row from its head. -/
theorem OwnR.cut (h : OwnR w lo hi e sz A n c xs) {m : Nat} (hm : m ≤ n) : OwnR w lo hi e sz A m c (xs.take (m * sz)) := by
  obtain ⟨⟨hl, h1⟩, h2⟩ := h
  have hmn : m * sz ≤ n * sz := Nat.mul_le_mul_right _ hm
  refine ⟨⟨by rw [List.length_take, hl]; omega, ?_⟩, h2⟩
  rcases h1 with ⟨hv, hn⟩ | ⟨g, cap, cur, hv, hg, hh, hnc, hcm, hcs, ht⟩
  · simp at hv
    obtain ⟨rfl, rfl, rfl⟩ := hv
    obtain rfl : m = 0 := by omega
    exact .inl ⟨rfl, rfl⟩
  · simp at hv
    obtain ⟨rfl, rfl⟩ := hv
    refine .inr ⟨g, c, cur, rfl, hg, hh, by omega, hcm, hcs, ?_⟩
    rw [← ht, List.take_take]
    congr 1
    omega
end

section
variable {P : Program} (w : World)

/-- A make of n elements of sz cells each. -/
theorem make_sz {P : Program} {t e : TypeId} {i : TypeInfo} {z : Value} {sz : Nat} (ht : P.underlying t = some (.slice e)) (hi : P.info? e = some i) (hz : i.zero = some z) (hsz : i.size = sz) (n : Nat) (hn : n ≤ 16777216) (hb : i.bytes ≤ 4096) (w : World) :
    (Instr.makeSlice t (.int .i64 (n : Int)) (.int .i64 (n : Int))).run P w = .ok (.slice (some ⟨w.heap.size, 0, none⟩) n n) (w.alloc (.cells (madeCells z.cells (n * sz)) e)) := by
  subst hsz
  have hm : i.bytes * n ≤ 4096 * 16777216 := Nat.mul_le_mul hb hn
  have hi' : ((i.bytes * n : Nat) : Int) ≤ 281474976710656 := by omega
  rw [Int.natCast_mul] at hi'
  have hr := run_make (P := P) w t e i z ht hi hz .i64 .i64 n n (by omega) (Int.le_refl _) hi' (by omega)
  rw [Int.toNat_natCast] at hr
  exact hr
theorem made_zero (sz n : Nat) : (madeCells (Array.replicate sz (Value.int .i64 0)) (n * sz)).toList = List.replicate (n * sz) (Value.int .i64 0) := by
  apply List.ext_getElem?
  intro j
  by_cases hj : j < n * sz
  · have hsz : 0 < sz := by
      rcases Nat.eq_zero_or_pos sz with h | h
      · subst h; simp at hj
      · exact h
    simp [madeCells, hj, Nat.mod_lt _ hsz]
  · simp [madeCells, hj]
/-- The row of a new make. -/
theorem OwnR.made (lo : Nat) (e : TypeId) (sz : Nat) (cs : Array Value) (n : Nat) (hb : lo ≤ w.heap.size) (hm : n ≤ maxLen) (hs : cs.size = n * sz) :
    OwnR (w.alloc (.cells cs e)) lo (w.heap.size + 1) e sz (some ⟨w.heap.size, 0, none⟩) n n cs.toList :=
  ⟨World.ownsRow_lit w cs n hb hm hs, fun a ha => by injection ha with ha; subst ha; show w.heap.size < _; omega⟩

theorem one_new (x : Value) (t : TypeId) : ∀ j u, [x][j]? = some u → (w.alloc (.cells #[x] t)).cell? ⟨w.heap.size, 0 + j, none⟩ = some u := by
  intro j u hj
  match j, hj with
  | 0, hj => simp at hj; subst hj; rw [World.cell?_alloc_at _ _ _ _ rfl]; rfl
theorem one_cell {x : Value} (h : x.oneCell' = true) : ∀ u ∈ [x], u.oneCell' = true := by
  intro u hu
  simp at hu
  subst hu
  exact h
/-- append of m elements that lie at ad, onto a row of the call's own: the walk's law in our words. -/
theorem wpList_push {ops : Array Oper} {rest : List Oper} {o : Oper} {a : Act} {Q : Exit → Act → World → Prop} (s x : Operand) (t : TypeId)
    (e : TypeId) (z : Value) (size bytes : Nat) (ht : P.underlying t = some (.slice e)) (hinfo : (P.info? e).map (fun i => (i.zero, i.size, i.bytes)) = some (some z, size, bytes))
    (hzs : z.cells.size = size) (hsz : 0 < size)
    (lo hi : Nat) (A : Option Addr) (n c : Nat) (xs : List Value) (hown : OwnR w lo hi e size A n c xs)
    (g : Nat) (off : Nat) (m c' : Nat) (news : List Value) (hl : news.length = m * size) (hnews : ∀ j u, news[j]? = some u → w.cell? ⟨g, off + j, none⟩ = some u) (h1 : ∀ u ∈ news, u.oneCell' = true)
    (h63 : n + m ≤ 2147483648) (hbytes : bytes ≤ 4096) (hbase : lo ≤ w.heap.size)
    (B : Nat) (w0 : World) (hbel : Below B w0 w) (hB : B ≤ lo)
    (h : ∀ A' c' w', OwnR w' lo w'.heap.size e size A' (n + m) c' (xs ++ news) → Below B w0 w' → w.heap.size ≤ w'.heap.size → w.grownBy w' (Value.ownBlock (.slice A n c)) → wpList P ops Q rest (a.put o.dst (.slice A' (n + m) c')) w')
    (hgd : o.guard = none) (ho : o.op = .call { callee := .builtin .append, args := #[s, x], argTypes := #[t, t] }) (hs : a.eval s = .slice A n c) (hx : a.eval x = .slice (some ⟨g, off, none⟩) m c') :
    wpList P ops Q (o :: rest) a w := by
  obtain ⟨i, hi, hz0, hz1, hz2⟩ := info_parts hinfo
  refine wpList_append_own_at w hgd s x t ho lo e i z size bytes ht hi hz0 hz1 hz2 hzs hsz (.slice A n c) n xs hs hown.1 ⟨g, off, none⟩ m c' news hx hl ?_ h1 (by unfold maxLen; omega) ?_ hbase ?_
  · intro j u hj
    have := hnews j u hj
    unfold Addr.add
    by_cases hj0 : j = 0
    · subst hj0; simpa using this
    · simpa [hj0] using this
  · have : (n + m) * bytes ≤ 2147483648 * 4096 := Nat.mul_le_mul h63 hbytes
    omega
  · intro v' w' hown' hg _ hat
    obtain ⟨A', c'', rfl⟩ := own_shape hown'
    refine h A' c'' w' (OwnR.of_own hown') (hbel.grown hg (by omega) ?_) hg.size hg
    intro k hk
    have := hown.1.lt k hk
    omega
end

/-- 'string([]byte{n})'. -/
theorem conv_one {P : Program} (w : World) (src dst e : TypeId) (hs : P.underlying src = some (.slice e)) (he : P.underlying e = some (.int .u8)) (hd : P.underlying dst = some .string) (n : Int) (h0 : 0 ≤ n) (h1 : n < 256) :
    (convert src dst (.slice (some ⟨w.heap.size, 0, none⟩) 1 1)).run P (w.alloc (.cells #[.int .u8 n] e)) = .ok (.string ⟨[UInt8.ofNat n.toNat].toArray⟩) (w.alloc (.cells #[.int .u8 n] e)) := by
  refine run_convert_bytes_back (w.alloc (.cells #[.int .u8 n] e)) src dst e ⟨w.heap.size, 0, none⟩ 1 [UInt8.ofNat n.toNat] hs he hd ?_
  intro j hj
  simp at hj
  subst hj
  have e1 : ((UInt8.ofNat n.toNat).toNat : Int) = n := by
    rw [UInt8.toNat_ofNat_of_lt' (by show n.toNat < 256; omega)]
    omega
  simp only [List.getElem_cons_zero, e1]
  show (w.alloc _).cell? ⟨w.heap.size, 0, none⟩ = _
  rw [World.cell?_alloc_at _ _ _ _ rfl]
  rfl
/-- A call of a function that has a Go body: it is entered. -/
theorem run_enter {P : Program} {f : FuncId} {fn : Func} {c : Code} (hf : P.funcs[f]? = some fn) (hname : (fn.name == "runtime.NumGoroutine") = false) (hb : fn.body = some c) (args : Array Value) (w : World) :
    (callFunc f args).run P w = .ok (.enter f args) w := by
  have h1 : fn.name ≠ "runtime.NumGoroutine" := by simpa using hname
  simp [callFunc, hf, h1, hb]
/-- The call's world under a name. -/
theorem at_world {P : Program} {f : FuncId} {args : Array Value} {W : World} {R : Ending → World → Prop} (h : ∀ V, V = W → Calls P f args V R) : Calls P f args W R := h W rfl
/-- Block g is just these cells, none frozen. -/
def Bk (w : World) (g : Nat) (t : TypeId) (cs : Array Value) : Prop := w.heap[g]? = some (.cells cs t (0, 0))
section
variable {w w' : World} {g : Nat} {t : TypeId} {cs : Array Value}
theorem Bk.lt (h : Bk w g t cs) : g < w.heap.size := (Array.getElem?_eq_some_iff.1 h).1
theorem Bk.cell (h : Bk w g t cs) (i : Nat) : w.cell? ⟨g, i, none⟩ = cs[i]? := cell_of_row w g i cs t (0, 0) h
theorem Bk.frozen (h : Bk w g t cs) (i : Nat) : w.frozen? ⟨g, i, none⟩ = false := frozen_of_row w g i cs t h
theorem Bk.made (w : World) (t : TypeId) (cs : Array Value) : Bk (w.alloc (.cells cs t)) w.heap.size t cs := heap_alloc_new w _
theorem Bk.alloc (h : Bk w g t cs) (o : Obj) : Bk (w.alloc o) g t cs := (Below.heap_alloc w o g h.lt).trans h
theorem Bk.below {B : Nat} (h : Bk w g t cs) (hb : Below B w w') (hg : g < B) : Bk w' g t cs := (hb.block g hg).trans h
theorem Bk.only {lo hi : Nat} (h : Bk w g t cs) (hb : Only lo hi w w') (hd : g < lo ∨ hi ≤ g) : Bk w' g t cs := (hb.block g h.lt (by omega)).trans h
theorem Bk.qt (h : Bk w g t cs) (hq : Qt w w') : Bk w' g t cs := by obtain ⟨d, rfl⟩ := hq; exact h
theorem Bk.set (h : Bk w g t cs) (i : Nat) (u : Value) : Bk (w.setCell ⟨g, i, none⟩ u) g t (cs.setIfInBounds i u) := heap_setCell_same w g i cs t u h
theorem Bk.far {p : Addr} (h : Bk w g t cs) (hp : g ≠ p.block) (u : Value) : Bk (w.setCell p u) g t cs := (Below.heap_setCell w p u g hp).trans h
end
theorem only_grow {a : Nat} {w w1 w2 : World} (h : Only a a w w1) (r : Below w1.heap.size w1 w2) : Only a a w w2 := h.trans ⟨r.os, r.tape, r.output, r.size, fun k hk _ => r.block k hk⟩
theorem only_cell {a : Nat} {w w1 : World} (h : Only a a w w1) {b o : Nat} {v : Value} (hc : w.cell? ⟨b, o, none⟩ = some v) : w1.cell? ⟨b, o, none⟩ = some v :=
  (World.cell?_of_block (a := ⟨b, o, none⟩) (h.block b (World.block_lt_of_cell? _ _ hc) (by omega))).trans hc
/-- 64 bits are enough for each number of a list. -/
def I64s (l : List Int) : Prop := ∀ n ∈ l, (Lit.int .i64 n).wf = true
end Go.Proofs.YtcecgbjolngdbaaGreatDoor
