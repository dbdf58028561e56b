/- Modes, activities, resources, links, projects that the call owns. -/
import Derived.Test.YtcecgbjolngdbaaGreatDoorKitMd
import Derived.Test.YtcecgbjolngdbaaGreatDoorChecked
namespace Go.Proofs.YtcecgbjolngdbaaGreatDoor
open Go.ChangeShapes Go.WideShapes Go.ChangeAt Go.RowKit

/-- Setting some cells in a row. -/
def sets (xs : List Value) (b : Nat) : List Value → List Value
  | [] => xs
  | v :: r => sets (xs.set b v) (b + 1) r
theorem sets_len (vs : List Value) : ∀ (xs : List Value) (b : Nat), (sets xs b vs).length = xs.length := by
  induction vs with
  | nil => intro xs b; rfl
  | cons v r ih => intro xs b; rw [sets, ih]; simp
theorem sets_low (vs : List Value) : ∀ (xs : List Value) (b m : Nat), m < b → (sets xs b vs)[m]? = xs[m]? := by
  induction vs with
  | nil => intro xs b m _; rfl
  | cons v r ih => intro xs b m h; rw [sets, ih _ _ _ (by omega), List.getElem?_set_ne (by omega)]
theorem sets_at (vs : List Value) : ∀ (xs : List Value) (b i : Nat), i < vs.length → b + vs.length ≤ xs.length → (sets xs b vs)[b + i]? = vs[i]? := by
  induction vs with
  | nil => intro xs b i h; simp at h
  | cons v r ih =>
    intro xs b i hi hl
    rw [List.length_cons] at hi hl
    rw [sets]
    cases i with
    | zero =>
      show (sets (xs.set b v) (b + 1) r)[b]? = some v
      rw [sets_low r (xs.set b v) (b + 1) b (by omega)]
      exact List.getElem?_set_self (by omega)
    | succ i =>
      rw [show b + (i + 1) = (b + 1) + i from by omega, ih _ _ _ (by omega) (by simp; omega)]
      rfl
theorem OwnR.some_at {w : World} {lo hi : Nat} {e : TypeId} {sz : Nat} {g n c : Nat} {xs : List Value} (h : OwnR w lo hi e sz (some ⟨g, 0, none⟩) n c xs) (j : Nat) (hj : j < n * sz) : ∃ u, w.cell? ⟨g, j, none⟩ = some u := by
  have hl := h.len
  rw [h.cellAt j hj]
  exact ⟨_, List.getElem?_eq_getElem (by omega)⟩
def OwV {α : Type} (O : Owns α) (w : World) (lo hi : Nat) (v : Array Value) (a : α) : Prop := ∃ bs, O w v a bs ∧ Nd bs lo hi

def OwM : Owns Md := fun w v m bs => ∃ U cu C cc b1 b2, v = #[.int .i64 m.dur, .slice U m.use.length cu, .slice C m.con.length cc] ∧ RowB w 3 1 U m.use.length cu (m.use.map (.int .i64)) b1 ∧ RowB w 3 1 C m.con.length cc (m.con.map (.int .i64)) b2 ∧ bs = b1 ++ b2
def OwMs (w : World) (lo hi : Nat) (A : Option Addr) (c : Nat) (l : List Md) : Prop := OwN 3 53 OwM md0 w lo hi A c l
theorem OwMs.keeps : OKeeps OwM := by
  rintro w w' v m bs hk ⟨U, cu, C, cc, b1, b2, e, h1, h2, rfl⟩
  exact ⟨U, cu, C, cc, b1, b2, e, h1.keep fun b hb => hk b (List.mem_append_left _ hb), h2.keep fun b hb => hk b (List.mem_append_right _ hb), rfl⟩
theorem OwMs.ord : ORd OwM RdM := by
  rintro w v m bs lo hi hb ⟨U, cu, C, cc, b1, b2, e, h1, h2, rfl⟩
  exact ⟨U, cu, C, cc, e, (h1.own fun b h => hb b (List.mem_append_left _ h)).rdI, (h2.own fun b h => hb b (List.mem_append_right _ h)).rdI⟩
section
variable {w w' : World} {lo hi : Nat} {A : Option Addr} {c : Nat} {l : List Md}
theorem OwMs.keep (h : OwMs w lo hi A c l) (hk : ∀ k, lo ≤ k → k < hi → w'.heap[k]? = w.heap[k]?) : OwMs w' lo hi A c l := OwN.keep_ OwMs.keeps h hk
theorem OwMs.mono {lo' hi' : Nat} (h : OwMs w lo hi A c l) (h1 : lo' ≤ lo) (h2 : hi ≤ hi') : OwMs w lo' hi' A c l := by
  obtain ⟨bs, g1, g2⟩ := h
  exact ⟨bs, g1, g2.mono h1 h2⟩
theorem OwMs.below {B : Nat} (h : OwMs w lo hi A c l) (hb : Below B w w') (hB : hi ≤ B) : OwMs w' lo hi A c l := h.keep fun k _ hk => hb.block k (by omega)
theorem OwMs.only {lo' hi' : Nat} (h : OwMs w lo hi A c l) (hb : Only lo' hi' w w') (hs : hi ≤ w.heap.size) (hd : hi ≤ lo' ∨ hi' ≤ lo) : OwMs w' lo hi A c l := h.keep fun k _ hk => hb.block k (by omega) (by omega)
theorem OwMs.rd (h : OwMs w lo hi A c l) : RdMs w lo hi A l := by
  obtain ⟨bs, g1, g2⟩ := h
  exact OwG.rd_ OwMs.ord g1 g2.2
end
theorem OwM.parts {w : World} {lo hi : Nat} {m : Md} {d : Value} {U C : Option Addr} {n k cu cc : Nat} (h : OwV OwM w lo hi #[d, .slice U n cu, .slice C k cc] m) : RdI w lo hi U m.use ∧ RdI w lo hi C m.con := by
  obtain ⟨bs, h1, h2⟩ := h
  obtain ⟨U', cu', C', cc', e, f1, f2⟩ := OwMs.ord _ _ _ _ _ _ h2.2 h1
  simp at e
  obtain ⟨_, ⟨rfl, _⟩, ⟨rfl, _⟩⟩ := e
  exact ⟨f1, f2⟩
def OwA : Owns Ac := fun w v a bs => ∃ M cm, v = #[.string a.name, .int .i64 a.fam, .slice M a.modes.length cm] ∧ OwG 3 53 OwM md0 w M cm a.modes bs
def OwAs (w : World) (lo hi : Nat) (A : Option Addr) (c : Nat) (l : List Ac) : Prop := OwN 3 46 OwA ac0 w lo hi A c l
theorem OwAs.keeps : OKeeps OwA := by
  rintro w w' v m bs hk ⟨U, cu, e, h1⟩
  exact ⟨U, cu, e, OwG.keep_ OwMs.keeps h1 hk⟩
theorem OwAs.ord : ORd OwA RdA := by
  rintro w v m bs lo hi hb ⟨U, cu, e, h1⟩
  exact ⟨U, cu, e, OwG.rd_ OwMs.ord h1 hb⟩
section
variable {w w' : World} {lo hi : Nat} {A : Option Addr} {c : Nat} {l : List Ac}
theorem OwAs.keep (h : OwAs w lo hi A c l) (hk : ∀ k, lo ≤ k → k < hi → w'.heap[k]? = w.heap[k]?) : OwAs w' lo hi A c l := OwN.keep_ OwAs.keeps h hk
theorem OwAs.mono {lo' hi' : Nat} (h : OwAs w lo hi A c l) (h1 : lo' ≤ lo) (h2 : hi ≤ hi') : OwAs w lo' hi' A c l := by
  obtain ⟨bs, g1, g2⟩ := h
  exact ⟨bs, g1, g2.mono h1 h2⟩
theorem OwAs.below {B : Nat} (h : OwAs w lo hi A c l) (hb : Below B w w') (hB : hi ≤ B) : OwAs w' lo hi A c l := h.keep fun k _ hk => hb.block k (by omega)
theorem OwAs.only {lo' hi' : Nat} (h : OwAs w lo hi A c l) (hb : Only lo' hi' w w') (hs : hi ≤ w.heap.size) (hd : hi ≤ lo' ∨ hi' ≤ lo) : OwAs w' lo hi A c l := h.keep fun k _ hk => hb.block k (by omega) (by omega)
theorem OwAs.rd (h : OwAs w lo hi A c l) : RdAs w lo hi A l := by
  obtain ⟨bs, g1, g2⟩ := h
  exact OwG.rd_ OwAs.ord g1 g2.2
end
def OwII : Owns (List Int) := fun w v r bs => ∃ A c, v = #[.slice A r.length c] ∧ RowB w 3 1 A r.length c (r.map (.int .i64)) bs
def OwSS (w : World) (lo hi : Nat) (A : Option Addr) (c : Nat) (l : List (List Int)) : Prop := OwN 1 25 OwII [] w lo hi A c l
theorem OwSS.keeps : OKeeps OwII := by
  rintro w w' v m bs hk ⟨U, cu, e, h1⟩
  exact ⟨U, cu, e, h1.keep hk⟩
theorem OwSS.ord : ORd OwII RdII := by
  rintro w v m bs lo hi hb ⟨U, cu, e, h1⟩
  exact ⟨U, cu, e, (h1.own hb).rdI⟩
section
variable {w w' : World} {lo hi : Nat} {A : Option Addr} {c : Nat} {l : List (List Int)}
theorem OwSS.keep (h : OwSS w lo hi A c l) (hk : ∀ k, lo ≤ k → k < hi → w'.heap[k]? = w.heap[k]?) : OwSS w' lo hi A c l := OwN.keep_ OwSS.keeps h hk
theorem OwSS.mono {lo' hi' : Nat} (h : OwSS w lo hi A c l) (h1 : lo' ≤ lo) (h2 : hi ≤ hi') : OwSS w lo' hi' A c l := by
  obtain ⟨bs, g1, g2⟩ := h
  exact ⟨bs, g1, g2.mono h1 h2⟩
theorem OwSS.below {B : Nat} (h : OwSS w lo hi A c l) (hb : Below B w w') (hB : hi ≤ B) : OwSS w' lo hi A c l := h.keep fun k _ hk => hb.block k (by omega)
theorem OwSS.only {lo' hi' : Nat} (h : OwSS w lo hi A c l) (hb : Only lo' hi' w w') (hs : hi ≤ w.heap.size) (hd : hi ≤ lo' ∨ hi' ≤ lo) : OwSS w' lo hi A c l := h.keep fun k _ hk => hb.block k (by omega) (by omega)
theorem OwSS.rd (h : OwSS w lo hi A c l) : RdSS w lo hi A l := by
  obtain ⟨bs, g1, g2⟩ := h
  exact OwG.rd_ OwSS.ord g1 g2.2
end
def OwRc : Owns Rs := fun w v r bs => ∃ S cs T ct b1 b2, v = #[.slice S r.steps.length cs, .slice T r.setup.length ct] ∧ RowB w 128 2 S r.steps.length cs (flatSt r.steps) b1 ∧ OwG 1 25 OwII [] w T ct r.setup b2 ∧ bs = b1 ++ b2
def OwRs (w : World) (lo hi : Nat) (A : Option Addr) (c : Nat) (l : List Rs) : Prop := OwN 2 71 OwRc rs0 w lo hi A c l
theorem OwRs.keeps : OKeeps OwRc := by
  rintro w w' v m bs hk ⟨U, cu, C, cc, b1, b2, e, h1, h2, rfl⟩
  exact ⟨U, cu, C, cc, b1, b2, e, h1.keep fun b hb => hk b (List.mem_append_left _ hb), OwG.keep_ OwSS.keeps h2 fun b hb => hk b (List.mem_append_right _ hb), rfl⟩
theorem OwRs.ord : ORd OwRc RdR := by
  rintro w v m bs lo hi hb ⟨U, cu, C, cc, b1, b2, e, h1, h2, rfl⟩
  exact ⟨U, cu, C, cc, e, (h1.own fun b h => hb b (List.mem_append_left _ h)).rdSt, OwG.rd_ OwSS.ord h2 fun b h => hb b (List.mem_append_right _ h)⟩
section
variable {w w' : World} {lo hi : Nat} {A : Option Addr} {c : Nat} {l : List Rs}
theorem OwRs.keep (h : OwRs w lo hi A c l) (hk : ∀ k, lo ≤ k → k < hi → w'.heap[k]? = w.heap[k]?) : OwRs w' lo hi A c l := OwN.keep_ OwRs.keeps h hk
theorem OwRs.mono {lo' hi' : Nat} (h : OwRs w lo hi A c l) (h1 : lo' ≤ lo) (h2 : hi ≤ hi') : OwRs w lo' hi' A c l := by
  obtain ⟨bs, g1, g2⟩ := h
  exact ⟨bs, g1, g2.mono h1 h2⟩
theorem OwRs.below {B : Nat} (h : OwRs w lo hi A c l) (hb : Below B w w') (hB : hi ≤ B) : OwRs w' lo hi A c l := h.keep fun k _ hk => hb.block k (by omega)
theorem OwRs.only {lo' hi' : Nat} (h : OwRs w lo hi A c l) (hb : Only lo' hi' w w') (hs : hi ≤ w.heap.size) (hd : hi ≤ lo' ∨ hi' ≤ lo) : OwRs w' lo hi A c l := h.keep fun k _ hk => hb.block k (by omega) (by omega)
theorem OwRs.rd (h : OwRs w lo hi A c l) : RdRs w lo hi A l := by
  obtain ⟨bs, g1, g2⟩ := h
  exact OwG.rd_ OwRs.ord g1 g2.2
end
def OwLk : Owns Lk := fun _ v k bs => v = #[.int .i64 k.src, .int .i64 k.dst, .bool k.fe, .int .i64 k.lag] ∧ bs = []
def OwLs (w : World) (lo hi : Nat) (A : Option Addr) (c : Nat) (l : List Lk) : Prop := OwN 4 75 OwLk lk0 w lo hi A c l
theorem OwLs.keeps : OKeeps OwLk := fun _ _ _ _ _ _ h => h
theorem OwLs.ord : ORd OwLk RdL := fun _ _ _ _ _ _ _ h => h.1
section
variable {w w' : World} {lo hi : Nat} {A : Option Addr} {c : Nat} {l : List Lk}
theorem OwLs.keep (h : OwLs w lo hi A c l) (hk : ∀ k, lo ≤ k → k < hi → w'.heap[k]? = w.heap[k]?) : OwLs w' lo hi A c l := OwN.keep_ OwLs.keeps h hk
theorem OwLs.mono {lo' hi' : Nat} (h : OwLs w lo hi A c l) (h1 : lo' ≤ lo) (h2 : hi ≤ hi') : OwLs w lo' hi' A c l := by
  obtain ⟨bs, g1, g2⟩ := h
  exact ⟨bs, g1, g2.mono h1 h2⟩
theorem OwLs.below {B : Nat} (h : OwLs w lo hi A c l) (hb : Below B w w') (hB : hi ≤ B) : OwLs w' lo hi A c l := h.keep fun k _ hk => hb.block k (by omega)
theorem OwLs.only {lo' hi' : Nat} (h : OwLs w lo hi A c l) (hb : Only lo' hi' w w') (hs : hi ≤ w.heap.size) (hd : hi ≤ lo' ∨ hi' ≤ lo) : OwLs w' lo hi A c l := h.keep fun k _ hk => hb.block k (by omega) (by omega)
theorem OwLs.rd (h : OwLs w lo hi A c l) : RdLs w lo hi A l := by
  obtain ⟨bs, g1, g2⟩ := h
  exact OwG.rd_ OwLs.ord g1 g2.2
end
def OwP : Owns Pj := fun w v p bs => ∃ A ca L cl R cr S cs b1 b2 b3 b4, v = #[.int .i64 p.dead, .slice A p.acts.length ca, .slice L p.links.length cl, .slice R p.res.length cr, .slice S p.stocks.length cs] ∧
  OwG 3 46 OwA ac0 w A ca p.acts b1 ∧ OwG 4 75 OwLk lk0 w L cl p.links b2 ∧ OwG 2 71 OwRc rs0 w R cr p.res b3 ∧ RowB w 3 1 S p.stocks.length cs (p.stocks.map (.int .i64)) b4 ∧ bs = b1 ++ (b2 ++ (b3 ++ b4))
theorem OwPj.keeps : OKeeps OwP := by
  rintro w w' v m bs hk ⟨A, ca, L, cl, R, cr, S, cs, b1, b2, b3, b4, e, h1, h2, h3, h4, rfl⟩
  exact ⟨A, ca, L, cl, R, cr, S, cs, b1, b2, b3, b4, e, OwG.keep_ OwAs.keeps h1 fun b hb => hk b (List.mem_append_left _ hb), OwG.keep_ OwLs.keeps h2 fun b hb => hk b (List.mem_append_right _ (List.mem_append_left _ hb)),
    OwG.keep_ OwRs.keeps h3 fun b hb => hk b (List.mem_append_right _ (List.mem_append_right _ (List.mem_append_left _ hb))), h4.keep fun b hb => hk b (List.mem_append_right _ (List.mem_append_right _ (List.mem_append_right _ hb))), rfl⟩
theorem OwPj.ord : ORd OwP RdP := by
  rintro w v m bs lo hi hb ⟨A, ca, L, cl, R, cr, S, cs, b1, b2, b3, b4, e, h1, h2, h3, h4, rfl⟩
  exact ⟨A, ca, L, cl, R, cr, S, cs, e, OwG.rd_ OwAs.ord h1 fun b h => hb b (List.mem_append_left _ h), OwG.rd_ OwLs.ord h2 fun b h => hb b (List.mem_append_right _ (List.mem_append_left _ h)),
    OwG.rd_ OwRs.ord h3 fun b h => hb b (List.mem_append_right _ (List.mem_append_right _ (List.mem_append_left _ h))), (h4.own fun b h => hb b (List.mem_append_right _ (List.mem_append_right _ (List.mem_append_right _ h)))).rdI⟩
end Go.Proofs.YtcecgbjolngdbaaGreatDoor
