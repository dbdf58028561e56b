/- Modes, activities, resources, links, projects that the call owns. -/
import Derived.Test.YtebfijjcmmlbjaaDoorKitMd
import Derived.Test.YtebfijjcmmlbjaaDoorChecked
namespace Go.Proofs.YtebfijjcmmlbjaaDoor
open Go.ChangeShapes Go.WideShapes Go.ChangeAt Go.RowKit

/-- Setting some cells in a row. -/
def sets (xs : List Value) (b : Nat) : List Value → List Value
  | [] => xs
  | v :: r => sets (xs.set b v) (b + 1) r
theorem sets_len (vs : List Value) : ∀ (xs : List Value) (b : Nat), (sets xs b vs).length = xs.length := by
  induction vs with
  | nil => intro xs b; rfl
  | cons v r ih => intro xs b; rw [sets, ih]; simp
theorem sets_low (vs : List Value) : ∀ (xs : List Value) (b m : Nat), m < b → (sets xs b vs)[m]? = xs[m]? := by
  induction vs with
  | nil => intro xs b m _; rfl
  | cons v r ih => intro xs b m h; rw [sets, ih _ _ _ (by omega), List.getElem?_set_ne (by omega)]
theorem sets_at (vs : List Value) : ∀ (xs : List Value) (b i : Nat), i < vs.length → b + vs.length ≤ xs.length → (sets xs b vs)[b + i]? = vs[i]? := by
  induction vs with
  | nil => intro xs b i h; simp at h
  | cons v r ih =>
    intro xs b i hi hl
    rw [List.length_cons] at hi hl
    rw [sets]
    cases i with
    | zero =>
      show (sets (xs.set b v) (b + 1) r)[b]? = some v
      rw [sets_low r (xs.set b v) (b + 1) b (by omega)]
      exact List.getElem?_set_self (by omega)
    | succ i =>
      rw [show b + (i + 1) = (b + 1) + i from by omega, ih _ _ _ (by omega) (by simp; omega)]
      rfl
theorem OwnR.some_at {w : World} {lo hi : Nat} {e : TypeId} {sz : Nat} {g n c : Nat} {xs : List Value} (h : OwnR w lo hi e sz (some ⟨g, 0, none⟩) n c xs) (j : Nat) (hj : j < n * sz) : ∃ u, w.cell? ⟨g, j, none⟩ = some u := by
  have hl := h.len
  rw [h.cellAt j hj]
  exact ⟨_, List.getElem?_eq_getElem (by omega)⟩
def OwV {α : Type} (O : Owns α) (w : World) (lo hi : Nat) (v : Array Value) (a : α) : Prop := ∃ bs, O w v a bs ∧ Nd bs lo hi

def OwII : Owns (List Int) := fun w v r bs => ∃ A c, v = #[.slice A r.length c] ∧ RowB w 3 1 A r.length c (r.map (.int .i64)) bs
def OwSS (w : World) (lo hi : Nat) (A : Option Addr) (c : Nat) (l : List (List Int)) : Prop := OwN 1 24 OwII [] w lo hi A c l
theorem OwSS.keeps : OKeeps OwII := by
  rintro w w' v m bs hk ⟨U, cu, e, h1⟩
  exact ⟨U, cu, e, h1.keep hk⟩
theorem OwSS.ord : ORd OwII RdII := by
  rintro w v m bs lo hi hb ⟨U, cu, e, h1⟩
  exact ⟨U, cu, e, (h1.own hb).rdI⟩
section
variable {w w' : World} {lo hi : Nat} {A : Option Addr} {c : Nat} {l : List (List Int)}
theorem OwSS.keep (h : OwSS w lo hi A c l) (hk : ∀ k, lo ≤ k → k < hi → w'.heap[k]? = w.heap[k]?) : OwSS w' lo hi A c l := OwN.keep_ OwSS.keeps h hk
theorem OwSS.mono {lo' hi' : Nat} (h : OwSS w lo hi A c l) (h1 : lo' ≤ lo) (h2 : hi ≤ hi') : OwSS w lo' hi' A c l := by
  obtain ⟨bs, g1, g2⟩ := h
  exact ⟨bs, g1, g2.mono h1 h2⟩
theorem OwSS.below {B : Nat} (h : OwSS w lo hi A c l) (hb : Below B w w') (hB : hi ≤ B) : OwSS w' lo hi A c l := h.keep fun k _ hk => hb.block k (by omega)
theorem OwSS.only {lo' hi' : Nat} (h : OwSS w lo hi A c l) (hb : Only lo' hi' w w') (hs : hi ≤ w.heap.size) (hd : hi ≤ lo' ∨ hi' ≤ lo) : OwSS w' lo hi A c l := h.keep fun k _ hk => hb.block k (by omega) (by omega)
theorem OwSS.rd (h : OwSS w lo hi A c l) : RdSS w lo hi A l := by
  obtain ⟨bs, g1, g2⟩ := h
  exact OwG.rd_ OwSS.ord g1 g2.2
end
end Go.Proofs.YtebfijjcmmlbjaaDoor
