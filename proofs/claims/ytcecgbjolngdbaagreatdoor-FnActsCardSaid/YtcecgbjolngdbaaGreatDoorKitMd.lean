/- Rows of structs in memory: what is read, what the call owns (block by block); nothing here speaks of a program. -/
import Derived.Test.YtcecgbjolngdbaaGreatDoorKit
import Derived.Test.YtcecgbjolngdbaaGreatDoorPlainMd
namespace Go.Proofs.YtcecgbjolngdbaaGreatDoor
open Go.ChangeShapes Go.WideShapes Go.ChangeAt Go.RowKit

theorem only_growq {a : Nat} {w w1 w2 : World} (h : Only a a w w1) (r : Qt w1 w2) : Only a a w w2 := by obtain ⟨d, rfl⟩ := r; exact h.drewN d
/-! ## Reading -/
section
variable {α : Type}
abbrev Reads (α : Type) : Type := World → Nat → Nat → Array Value → α → Prop
abbrev Owns (α : Type) : Type := World → Array Value → α → List Nat → Prop
/-- The row at A has the elements l, each of sz cells that R reads. -/
def RdG (sz : Nat) (R : Reads α) (d : α) (w : World) (lo hi : Nat) (A : Option Addr) (l : List α) : Prop :=
  0 < l.length → ∃ b off, A = some ⟨b, off, none⟩ ∧ lo ≤ b ∧ b < hi ∧ ∀ j, j < l.length → ∃ v : Array Value, R w lo hi v (l.getD j d) ∧ ∀ i, i < sz → w.cell? ⟨b, off + (j * sz + i), none⟩ = v[i]?
def Keeps (R : Reads α) : Prop := ∀ w w' lo hi v a, (∀ k, lo ≤ k → k < hi → w'.heap[k]? = w.heap[k]?) → R w lo hi v a → R w' lo hi v a
def Monos (R : Reads α) : Prop := ∀ w lo hi lo' hi' v a, lo' ≤ lo → hi ≤ hi' → R w lo hi v a → R w lo' hi' v a
variable {sz : Nat} {R : Reads α} {d : α} {w w' : World} {lo hi : Nat} {A : Option Addr} {l : List α}
theorem RdG.keep_ (K : Keeps R) (h : RdG sz R d w lo hi A l) (hk : ∀ k, lo ≤ k → k < hi → w'.heap[k]? = w.heap[k]?) : RdG sz R d w' lo hi A l := fun h0 => by
  obtain ⟨b, off, hA, h1, h2, hc⟩ := h h0
  refine ⟨b, off, hA, h1, h2, fun j hj => ?_⟩
  obtain ⟨v, hv, hcs⟩ := hc j hj
  exact ⟨v, K _ _ _ _ _ _ hk hv, fun i hi => (World.cell?_of_block (a := ⟨b, off + (j * sz + i), none⟩) (hk b h1 h2)).trans (hcs i hi)⟩
theorem RdG.mono_ (K : Monos R) {lo' hi' : Nat} (h : RdG sz R d w lo hi A l) (h1 : lo' ≤ lo) (h2 : hi ≤ hi') : RdG sz R d w lo' hi' A l := fun h0 => by
  obtain ⟨b, off, hA, h3, h4, hc⟩ := h h0
  refine ⟨b, off, hA, by omega, by omega, fun j hj => ?_⟩
  obtain ⟨v, hv, hcs⟩ := hc j hj
  exact ⟨v, K _ _ _ _ _ _ _ h1 h2 hv, hcs⟩
theorem RdG.at_ (h : RdG sz R d w lo hi A l) {k : Nat} (hk : k < l.length) : ∃ b off v, A = some ⟨b, off, none⟩ ∧ lo ≤ b ∧ b < hi ∧ R w lo hi v (l.getD k d) ∧ ∀ i, i < sz → w.cell? ⟨b, off + (k * sz + i), none⟩ = v[i]? := by
  obtain ⟨b, off, hA, h1, h2, hc⟩ := h (by omega)
  obtain ⟨v, hv, hcs⟩ := hc k hk
  exact ⟨b, off, v, hA, h1, h2, hv, hcs⟩
theorem RdG.nil_ (h : l.length = 0) : RdG sz R d w lo hi A l := fun h' => absurd h' (by omega)
end


/-! ### Modes -/
def RdM : Reads Md := fun w lo hi v m => ∃ U cu C cc, v = #[.int .i64 m.dur, .slice U m.use.length cu, .slice C m.con.length cc] ∧ RdI w lo hi U m.use ∧ RdI w lo hi C m.con
def RdMs : World → Nat → Nat → Option Addr → List Md → Prop := RdG 3 RdM md0
theorem RdMs.keeps : Keeps RdM := fun _ _ _ _ _ _ hk ⟨U, cu, C, cc, e, h1, h2⟩ => ⟨U, cu, C, cc, e, h1.keep hk, h2.keep hk⟩
theorem RdMs.monos : Monos RdM := fun _ _ _ _ _ _ _ g1 g2 ⟨U, cu, C, cc, e, h1, h2⟩ => ⟨U, cu, C, cc, e, h1.mono g1 g2, h2.mono g1 g2⟩
section
variable {w w' : World} {lo hi : Nat} {A : Option Addr} {l : List Md}
theorem RdMs.keep (h : RdMs w lo hi A l) (hk : ∀ k, lo ≤ k → k < hi → w'.heap[k]? = w.heap[k]?) : RdMs w' lo hi A l := RdG.keep_ RdMs.keeps h hk
theorem RdMs.mono {lo' hi' : Nat} (h : RdMs w lo hi A l) (h1 : lo' ≤ lo) (h2 : hi ≤ hi') : RdMs w lo' hi' A l := RdG.mono_ RdMs.monos h h1 h2
theorem RdMs.drewN (h : RdMs w lo hi A l) (d : Nat) : RdMs (w.drewN d) lo hi A l := h.keep fun _ _ _ => rfl
theorem RdMs.below {B : Nat} (h : RdMs w lo hi A l) (hb : Below B w w') (hB : hi ≤ B) : RdMs w' lo hi A l := h.keep fun k _ hk => hb.block k (by omega)
theorem RdMs.only {lo' hi' : Nat} (h : RdMs w lo hi A l) (hb : Only lo' hi' w w') (hs : hi ≤ w.heap.size) (hd : hi ≤ lo' ∨ hi' ≤ lo) : RdMs w' lo hi A l := h.keep fun k _ hk => hb.block k (by omega) (by omega)
end
theorem RdMs.at {w : World} {lo hi : Nat} {A : Option Addr} {l : List Md} (h : RdMs w lo hi A l) {k : Nat} (hk : k < l.length) : ∃ b off U cu C cc, A = some ⟨b, off, none⟩ ∧ lo ≤ b ∧ b < hi ∧
    w.cell? ⟨b, off + k * 3, none⟩ = some (.int .i64 (l.getD k md0).dur) ∧ w.cell? ⟨b, off + k * 3 + 1, none⟩ = some (.slice U (l.getD k md0).use.length cu) ∧ w.cell? ⟨b, off + k * 3 + 2, none⟩ = some (.slice C (l.getD k md0).con.length cc) ∧
    RdI w lo hi U (l.getD k md0).use ∧ RdI w lo hi C (l.getD k md0).con := by
  obtain ⟨b, off, v, hA, h1, h2, ⟨U, cu, C, cc, rfl, fU, fC⟩, hc⟩ := RdG.at_ h hk
  exact ⟨b, off, U, cu, C, cc, hA, h1, h2, hc 0 (by omega), hc 1 (by omega), hc 2 (by omega), fU, fC⟩
/-! ### Activities -/
def RdA : Reads Ac := fun w lo hi v a => ∃ M cm, v = #[.string a.name, .int .i64 a.fam, .slice M a.modes.length cm] ∧ RdMs w lo hi M a.modes
def RdAs : World → Nat → Nat → Option Addr → List Ac → Prop := RdG 3 RdA ac0
theorem RdAs.keeps : Keeps RdA := fun _ _ _ _ _ _ hk ⟨U, cu, e, h1⟩ => ⟨U, cu, e, h1.keep hk⟩
theorem RdAs.monos : Monos RdA := fun _ _ _ _ _ _ _ g1 g2 ⟨U, cu, e, h1⟩ => ⟨U, cu, e, h1.mono g1 g2⟩
section
variable {w w' : World} {lo hi : Nat} {A : Option Addr} {l : List Ac}
theorem RdAs.keep (h : RdAs w lo hi A l) (hk : ∀ k, lo ≤ k → k < hi → w'.heap[k]? = w.heap[k]?) : RdAs w' lo hi A l := RdG.keep_ RdAs.keeps h hk
theorem RdAs.mono {lo' hi' : Nat} (h : RdAs w lo hi A l) (h1 : lo' ≤ lo) (h2 : hi ≤ hi') : RdAs w lo' hi' A l := RdG.mono_ RdAs.monos h h1 h2
theorem RdAs.drewN (h : RdAs w lo hi A l) (d : Nat) : RdAs (w.drewN d) lo hi A l := h.keep fun _ _ _ => rfl
theorem RdAs.below {B : Nat} (h : RdAs w lo hi A l) (hb : Below B w w') (hB : hi ≤ B) : RdAs w' lo hi A l := h.keep fun k _ hk => hb.block k (by omega)
theorem RdAs.only {lo' hi' : Nat} (h : RdAs w lo hi A l) (hb : Only lo' hi' w w') (hs : hi ≤ w.heap.size) (hd : hi ≤ lo' ∨ hi' ≤ lo) : RdAs w' lo hi A l := h.keep fun k _ hk => hb.block k (by omega) (by omega)
end
theorem RdAs.at {w : World} {lo hi : Nat} {A : Option Addr} {l : List Ac} (h : RdAs w lo hi A l) {k : Nat} (hk : k < l.length) : ∃ b off M cm, A = some ⟨b, off, none⟩ ∧ lo ≤ b ∧ b < hi ∧
    w.cell? ⟨b, off + k * 3, none⟩ = some (.string (l.getD k ac0).name) ∧ w.cell? ⟨b, off + k * 3 + 1, none⟩ = some (.int .i64 (l.getD k ac0).fam) ∧ w.cell? ⟨b, off + k * 3 + 2, none⟩ = some (.slice M (l.getD k ac0).modes.length cm) ∧
    RdMs w lo hi M (l.getD k ac0).modes := by
  obtain ⟨b, off, v, hA, h1, h2, ⟨M, cm, rfl, fM⟩, hc⟩ := RdG.at_ h hk
  exact ⟨b, off, M, cm, hA, h1, h2, hc 0 (by omega), hc 1 (by omega), hc 2 (by omega), fM⟩
/-! ### Rows of rows -/
def RdII : Reads (List Int) := fun w lo hi v r => ∃ A c, v = #[.slice A r.length c] ∧ RdI w lo hi A r
def RdSS : World → Nat → Nat → Option Addr → List (List Int) → Prop := RdG 1 RdII []
theorem RdSS.keeps : Keeps RdII := fun _ _ _ _ _ _ hk ⟨U, cu, e, h1⟩ => ⟨U, cu, e, h1.keep hk⟩
theorem RdSS.monos : Monos RdII := fun _ _ _ _ _ _ _ g1 g2 ⟨U, cu, e, h1⟩ => ⟨U, cu, e, h1.mono g1 g2⟩
section
variable {w w' : World} {lo hi : Nat} {A : Option Addr} {l : List (List Int)}
theorem RdSS.keep (h : RdSS w lo hi A l) (hk : ∀ k, lo ≤ k → k < hi → w'.heap[k]? = w.heap[k]?) : RdSS w' lo hi A l := RdG.keep_ RdSS.keeps h hk
theorem RdSS.mono {lo' hi' : Nat} (h : RdSS w lo hi A l) (h1 : lo' ≤ lo) (h2 : hi ≤ hi') : RdSS w lo' hi' A l := RdG.mono_ RdSS.monos h h1 h2
theorem RdSS.drewN (h : RdSS w lo hi A l) (d : Nat) : RdSS (w.drewN d) lo hi A l := h.keep fun _ _ _ => rfl
theorem RdSS.below {B : Nat} (h : RdSS w lo hi A l) (hb : Below B w w') (hB : hi ≤ B) : RdSS w' lo hi A l := h.keep fun k _ hk => hb.block k (by omega)
theorem RdSS.only {lo' hi' : Nat} (h : RdSS w lo hi A l) (hb : Only lo' hi' w w') (hs : hi ≤ w.heap.size) (hd : hi ≤ lo' ∨ hi' ≤ lo) : RdSS w' lo hi A l := h.keep fun k _ hk => hb.block k (by omega) (by omega)
end
theorem RdSS.at {w : World} {lo hi : Nat} {A : Option Addr} {l : List (List Int)} (h : RdSS w lo hi A l) {k : Nat} (hk : k < l.length) : ∃ b off R cr, A = some ⟨b, off, none⟩ ∧ lo ≤ b ∧ b < hi ∧
    w.cell? ⟨b, off + k, none⟩ = some (.slice R (l.getD k []).length cr) ∧ RdI w lo hi R (l.getD k []) := by
  obtain ⟨b, off, v, hA, h1, h2, ⟨M, cm, rfl, fM⟩, hc⟩ := RdG.at_ h hk
  have := hc 0 (by omega)
  rw [Nat.mul_one, Nat.add_zero] at this
  exact ⟨b, off, M, cm, hA, h1, h2, this, fM⟩
/-! ### Resources -/
def RdR : Reads Rs := fun w lo hi v r => ∃ S cs T ct, v = #[.slice S r.steps.length cs, .slice T r.setup.length ct] ∧ RdSt w lo hi S r.steps ∧ RdSS w lo hi T r.setup
def RdRs : World → Nat → Nat → Option Addr → List Rs → Prop := RdG 2 RdR rs0
theorem RdRs.keeps : Keeps RdR := fun _ _ _ _ _ _ hk ⟨U, cu, C, cc, e, h1, h2⟩ => ⟨U, cu, C, cc, e, h1.keep hk, h2.keep hk⟩
theorem RdRs.monos : Monos RdR := fun _ _ _ _ _ _ _ g1 g2 ⟨U, cu, C, cc, e, h1, h2⟩ => ⟨U, cu, C, cc, e, h1.mono g1 g2, h2.mono g1 g2⟩
section
variable {w w' : World} {lo hi : Nat} {A : Option Addr} {l : List Rs}
theorem RdRs.keep (h : RdRs w lo hi A l) (hk : ∀ k, lo ≤ k → k < hi → w'.heap[k]? = w.heap[k]?) : RdRs w' lo hi A l := RdG.keep_ RdRs.keeps h hk
theorem RdRs.mono {lo' hi' : Nat} (h : RdRs w lo hi A l) (h1 : lo' ≤ lo) (h2 : hi ≤ hi') : RdRs w lo' hi' A l := RdG.mono_ RdRs.monos h h1 h2
theorem RdRs.drewN (h : RdRs w lo hi A l) (d : Nat) : RdRs (w.drewN d) lo hi A l := h.keep fun _ _ _ => rfl
theorem RdRs.below {B : Nat} (h : RdRs w lo hi A l) (hb : Below B w w') (hB : hi ≤ B) : RdRs w' lo hi A l := h.keep fun k _ hk => hb.block k (by omega)
theorem RdRs.only {lo' hi' : Nat} (h : RdRs w lo hi A l) (hb : Only lo' hi' w w') (hs : hi ≤ w.heap.size) (hd : hi ≤ lo' ∨ hi' ≤ lo) : RdRs w' lo hi A l := h.keep fun k _ hk => hb.block k (by omega) (by omega)
end
theorem RdRs.at {w : World} {lo hi : Nat} {A : Option Addr} {l : List Rs} (h : RdRs w lo hi A l) {k : Nat} (hk : k < l.length) : ∃ b off S cs T ct, A = some ⟨b, off, none⟩ ∧ lo ≤ b ∧ b < hi ∧
    w.cell? ⟨b, off + k * 2, none⟩ = some (.slice S (l.getD k rs0).steps.length cs) ∧ w.cell? ⟨b, off + k * 2 + 1, none⟩ = some (.slice T (l.getD k rs0).setup.length ct) ∧
    RdSt w lo hi S (l.getD k rs0).steps ∧ RdSS w lo hi T (l.getD k rs0).setup := by
  obtain ⟨b, off, v, hA, h1, h2, ⟨U, cu, C, cc, rfl, fU, fC⟩, hc⟩ := RdG.at_ h hk
  exact ⟨b, off, U, cu, C, cc, hA, h1, h2, hc 0 (by omega), hc 1 (by omega), fU, fC⟩
/-! ### Links -/
def RdL : Reads Lk := fun _ _ _ v k => v = #[.int .i64 k.src, .int .i64 k.dst, .bool k.fe, .int .i64 k.lag]
def RdLs : World → Nat → Nat → Option Addr → List Lk → Prop := RdG 4 RdL lk0
theorem RdLs.keeps : Keeps RdL := fun _ _ _ _ _ _ _ h => h
theorem RdLs.monos : Monos RdL := fun _ _ _ _ _ _ _ _ _ h => h
section
variable {w w' : World} {lo hi : Nat} {A : Option Addr} {l : List Lk}
theorem RdLs.keep (h : RdLs w lo hi A l) (hk : ∀ k, lo ≤ k → k < hi → w'.heap[k]? = w.heap[k]?) : RdLs w' lo hi A l := RdG.keep_ RdLs.keeps h hk
theorem RdLs.mono {lo' hi' : Nat} (h : RdLs w lo hi A l) (h1 : lo' ≤ lo) (h2 : hi ≤ hi') : RdLs w lo' hi' A l := RdG.mono_ RdLs.monos h h1 h2
theorem RdLs.drewN (h : RdLs w lo hi A l) (d : Nat) : RdLs (w.drewN d) lo hi A l := h.keep fun _ _ _ => rfl
theorem RdLs.below {B : Nat} (h : RdLs w lo hi A l) (hb : Below B w w') (hB : hi ≤ B) : RdLs w' lo hi A l := h.keep fun k _ hk => hb.block k (by omega)
theorem RdLs.only {lo' hi' : Nat} (h : RdLs w lo hi A l) (hb : Only lo' hi' w w') (hs : hi ≤ w.heap.size) (hd : hi ≤ lo' ∨ hi' ≤ lo) : RdLs w' lo hi A l := h.keep fun k _ hk => hb.block k (by omega) (by omega)
end
theorem RdLs.at {w : World} {lo hi : Nat} {A : Option Addr} {l : List Lk} (h : RdLs w lo hi A l) {k : Nat} (hk : k < l.length) : ∃ b off, A = some ⟨b, off, none⟩ ∧ lo ≤ b ∧ b < hi ∧
    w.cell? ⟨b, off + k * 4, none⟩ = some (.int .i64 (l.getD k lk0).src) ∧ w.cell? ⟨b, off + k * 4 + 1, none⟩ = some (.int .i64 (l.getD k lk0).dst) ∧ w.cell? ⟨b, off + k * 4 + 2, none⟩ = some (.bool (l.getD k lk0).fe) ∧ w.cell? ⟨b, off + k * 4 + 3, none⟩ = some (.int .i64 (l.getD k lk0).lag) := by
  obtain ⟨b, off, v, hA, h1, h2, rfl, hc⟩ := RdG.at_ h hk
  exact ⟨b, off, hA, h1, h2, hc 0 (by omega), hc 1 (by omega), hc 2 (by omega), hc 3 (by omega)⟩

theorem three_new (w : World) (x y z : Value) (t : TypeId) : ∀ j u, [x, y, z][j]? = some u → (w.alloc (.cells #[x, y, z] t)).cell? ⟨w.heap.size, 0 + j, none⟩ = some u := by
  intro j u hj
  rw [World.cell?_alloc_at _ _ _ _ rfl, Nat.zero_add]
  match j, hj with
  | 0, hj => exact hj
  | 1, hj => exact hj
  | 2, hj => exact hj
theorem three_cell {x y z : Value} (h : x.oneCell' = true) (h' : y.oneCell' = true) (h'' : z.oneCell' = true) : ∀ u ∈ [x, y, z], u.oneCell' = true := by
  intro u hu
  simp at hu
  rcases hu with rfl | rfl | rfl
  · exact h
  · exact h'
  · exact h''
/-! ### Projects -/
def RdP : Reads Pj := fun w lo hi v p => ∃ A ca L cl R cr S cs, v = #[.int .i64 p.dead, .slice A p.acts.length ca, .slice L p.links.length cl, .slice R p.res.length cr, .slice S p.stocks.length cs] ∧ RdAs w lo hi A p.acts ∧ RdLs w lo hi L p.links ∧ RdRs w lo hi R p.res ∧ RdI w lo hi S p.stocks

/-! ## Owning, block by block -/
/-- No block twice, all from lo on and below hi. -/
def Nd (bs : List Nat) (lo hi : Nat) : Prop := bs.Nodup ∧ ∀ b ∈ bs, lo ≤ b ∧ b < hi
theorem Nd.nil (lo hi : Nat) : Nd [] lo hi := ⟨List.nodup_nil, fun _ h => by cases h⟩
theorem Nd.one {g lo hi : Nat} (h1 : lo ≤ g) (h2 : g < hi) : Nd [g] lo hi := ⟨by simp, fun b hb => by simp at hb; omega⟩
theorem Nd.mono {bs : List Nat} {lo hi lo' hi' : Nat} (h : Nd bs lo hi) (h1 : lo' ≤ lo) (h2 : hi ≤ hi') : Nd bs lo' hi' := ⟨h.1, fun b hb => by have := h.2 b hb; omega⟩
theorem Nd.app {a b : List Nat} {lo m m' hi : Nat} (ha : Nd a lo m) (hb : Nd b m' hi) (hm : m ≤ m') (h1 : lo ≤ m') (h2 : m ≤ hi) : Nd (a ++ b) lo hi := by
  refine ⟨List.nodup_append.2 ⟨ha.1, hb.1, fun x hx y hy e => ?_⟩, fun x hx => ?_⟩
  · have := ha.2 x hx; have := hb.2 y hy; omega
  · rcases List.mem_append.1 hx with h | h
    · have := ha.2 x h; omega
    · have := hb.2 x h; omega
def RowB (w : World) (e : TypeId) (sz : Nat) (A : Option Addr) (n c : Nat) (xs : List Value) (bs : List Nat) : Prop :=
  (∃ lo hi, OwnR w lo hi e sz A n c xs) ∧ ((A = none ∧ bs = []) ∨ ∃ g, A = some ⟨g, 0, none⟩ ∧ bs = [g])
section
variable {w w' : World} {e : TypeId} {sz : Nat} {A : Option Addr} {n c : Nat} {xs : List Value} {bs : List Nat}
theorem RowB.own (h : RowB w e sz A n c xs bs) {lo hi : Nat} (hb : ∀ b ∈ bs, lo ≤ b ∧ b < hi) : OwnR w lo hi e sz A n c xs := by
  obtain ⟨⟨lo', hi', ⟨hl, h1⟩, h2⟩, h3⟩ := h
  rcases h3 with ⟨rfl, rfl⟩ | ⟨g, rfl, rfl⟩
  · exact ⟨⟨hl, h1.imp (fun h => h) (fun ⟨g, cap, cur, hv, _⟩ => by cases hv)⟩, fun a ha => by cases ha⟩
  · have hg := hb g (by simp)
    refine ⟨⟨hl, ?_⟩, fun a ha => by injection ha with ha; subst ha; exact hg.2⟩
    rcases h1 with h1 | ⟨g', cap, cur, hv, _, r⟩
    · exact .inl h1
    · refine .inr ⟨g', cap, cur, hv, ?_, r⟩
      simp at hv
      omega
theorem RowB.of {lo hi : Nat} (h : OwnR w lo hi e sz A n c xs) : ∃ bs, RowB w e sz A n c xs bs ∧ Nd bs lo hi := by
  rcases h.form with ⟨rfl, _, _⟩ | ⟨g, rfl, h1, h2, _⟩
  · exact ⟨[], ⟨⟨lo, hi, h⟩, .inl ⟨rfl, rfl⟩⟩, Nd.nil _ _⟩
  · exact ⟨[g], ⟨⟨lo, hi, h⟩, .inr ⟨g, rfl, rfl⟩⟩, Nd.one h1 h2⟩
theorem RowB.of_some {lo hi g : Nat} (h : OwnR w lo hi e sz (some ⟨g, 0, none⟩) n c xs) : RowB w e sz (some ⟨g, 0, none⟩) n c xs [g] := ⟨⟨lo, hi, h⟩, .inr ⟨g, rfl, rfl⟩⟩
theorem RowB.keep (h : RowB w e sz A n c xs bs) (hk : ∀ k ∈ bs, w'.heap[k]? = w.heap[k]?) : RowB w' e sz A n c xs bs := by
  obtain ⟨⟨lo, hi, ho⟩, h3⟩ := h
  rcases h3 with ⟨rfl, rfl⟩ | ⟨g, rfl, rfl⟩
  · obtain ⟨⟨hl, h1⟩, h2⟩ := ho
    exact ⟨⟨lo, hi, ⟨hl, h1.imp (fun h => h) (fun ⟨g, cap, cur, hv, _⟩ => by cases hv)⟩, h2⟩, .inl ⟨rfl, rfl⟩⟩
  · have ho' : OwnR w g (g + 1) e sz (some ⟨g, 0, none⟩) n c xs := RowB.own ⟨⟨lo, hi, ho⟩, .inr ⟨g, rfl, rfl⟩⟩ (fun b hb => by simp at hb; omega)
    exact ⟨⟨g, g + 1, ho'.keep fun k h1 h2 => by obtain rfl : k = g := by omega
                                                 exact hk k (by simp)⟩, .inr ⟨g, rfl, rfl⟩⟩
theorem RowB.eqv {ys : List Value} (h : RowB w e sz A n c xs bs) (hx : xs = ys) : RowB w e sz A n c ys bs := hx ▸ h
end
section
variable {α : Type}
def OKeeps (O : Owns α) : Prop := ∀ w w' v a bs, (∀ k ∈ bs, w'.heap[k]? = w.heap[k]?) → O w v a bs → O w' v a bs
def ORd (O : Owns α) (R : Reads α) : Prop := ∀ w v a bs lo hi, (∀ b ∈ bs, lo ≤ b ∧ b < hi) → O w v a bs → R w lo hi v a
theorem flatMap_same {l : List Nat} {f g : Nat → List Nat} (h : ∀ x ∈ l, f x = g x) : l.flatMap f = l.flatMap g := by
  induction l with
  | nil => rfl
  | cons a l ih => rw [List.flatMap_cons, List.flatMap_cons, h a (by simp), ih fun x hx => h x (by simp [hx])]
/-- Of the row xs, the first k elements are those of l; their own blocks are bs, in order. -/
def Part (sz : Nat) (O : Owns α) (d : α) (w : World) (xs : List Value) (l : List α) (k : Nat) (bs : List Nat) : Prop :=
  ∃ (vs : Nat → Array Value) (bss : Nat → List Nat), bs = (List.range k).flatMap bss ∧ ∀ j, j < k → (∀ i, i < sz → xs[j * sz + i]? = (vs j)[i]?) ∧ O w (vs j) (l.getD j d) (bss j)
def OwG (sz : Nat) (e : TypeId) (O : Owns α) (d : α) (w : World) (A : Option Addr) (c : Nat) (l : List α) (bs : List Nat) : Prop :=
  ∃ (b0 b1 : List Nat) (xs : List Value), RowB w e sz A l.length c xs b0 ∧ Part sz O d w xs l l.length b1 ∧ bs = b0 ++ b1
variable {sz : Nat} {e : TypeId} {O : Owns α} {R : Reads α} {d : α} {w w' : World} {xs xs' : List Value} {l : List α} {k : Nat} {bs : List Nat} {A : Option Addr} {c : Nat}
theorem Part.nil_ : Part sz O d w xs l 0 [] := ⟨fun _ => #[], fun _ => [], rfl, fun j hj => absurd hj (by omega)⟩
theorem Part.keep_ (K : OKeeps O) (h : Part sz O d w xs l k bs) (hk : ∀ b ∈ bs, w'.heap[b]? = w.heap[b]?) : Part sz O d w' xs l k bs := by
  obtain ⟨vs, bss, rfl, h⟩ := h
  refine ⟨vs, bss, rfl, fun j hj => ⟨(h j hj).1, K _ _ _ _ _ (fun b hb => hk b ?_) (h j hj).2⟩⟩
  exact List.mem_flatMap.2 ⟨j, List.mem_range.2 hj, hb⟩
theorem Part.snoc_ (h : Part sz O d w xs l k bs) {v : Array Value} {b : List Nat} (hx : ∀ m, m < k * sz → xs'[m]? = xs[m]?) (hn : ∀ i, i < sz → xs'[k * sz + i]? = v[i]?) (ho : O w v (l.getD k d) b) : Part sz O d w xs' l (k + 1) (bs ++ b) := by
  obtain ⟨vs, bss, rfl, h⟩ := h
  refine ⟨fun j => if j = k then v else vs j, fun j => if j = k then b else bss j, ?_, fun j hj => ?_⟩
  · rw [List.range_succ, List.flatMap_append]
    congr 1
    · apply flatMap_same
      intro j hj
      rw [List.mem_range] at hj
      rw [if_neg (by omega)]
    · simp
  · dsimp only
    by_cases e : j = k
    · subst e
      rw [if_pos rfl, if_pos rfl]
      exact ⟨hn, ho⟩
    · rw [if_neg e, if_neg e]
      refine ⟨fun i hi => ?_, (h j (by omega)).2⟩
      rw [← (h j (by omega)).1 i hi]
      apply hx
      have : (j + 1) * sz ≤ k * sz := Nat.mul_le_mul_right _ (by omega)
      rw [Nat.succ_mul] at this
      omega
theorem Part.list_ {l' : List α} (h : Part sz O d w xs l k bs) (hl : ∀ j, j < k → l'.getD j d = l.getD j d) : Part sz O d w xs l' k bs := by
  obtain ⟨vs, bss, e, h⟩ := h
  exact ⟨vs, bss, e, fun j hj => ⟨(h j hj).1, by rw [hl j hj]; exact (h j hj).2⟩⟩
theorem Part.imp_ {O' : Owns α} {w' : World} (hO : ∀ v a bs, O w v a bs → O' w' v a bs) (h : Part sz O d w xs l k bs) : Part sz O' d w' xs l k bs := by
  obtain ⟨vs, bss, e, h⟩ := h
  exact ⟨vs, bss, e, fun j hj => ⟨(h j hj).1, hO _ _ _ (h j hj).2⟩⟩
theorem Part.push_ (h : Part sz O d w xs l l.length bs) (hl : xs.length = l.length * sz) {v : Array Value} {a : α} {b : List Nat} (_hv : v.size = sz) (ho : O w v a b) : Part sz O d w (xs ++ v.toList) (l ++ [a]) (l ++ [a]).length (bs ++ b) := by
  have h1 : Part sz O d w xs (l ++ [a]) l.length bs := h.list_ fun j hj => by
    simp only [List.getD_eq_getElem?_getD, List.getElem?_append_left hj]
  rw [List.length_append, List.length_singleton]
  refine h1.snoc_ (v := v) (fun m hm => ?_) (fun i hi => ?_) ?_
  · rw [List.getElem?_append_left (by omega)]
  · rw [List.getElem?_append_right (by omega), hl, Nat.add_sub_cancel_left]
    simp
  · have : (l ++ [a]).getD l.length d = a := by simp
    rw [this]
    exact ho
/-- A row whose elements only read what lies elsewhere. -/
def Lent (R : Reads α) (lo hi : Nat) : Owns α := fun w v a bs => R w lo hi v a ∧ bs = []
theorem lent_rd (K : Monos R) {lo hi lo1 hi1 lo2 hi2 : Nat} (hO : OwnR w lo1 hi1 e sz A l.length c xs) (hP : Part sz (Lent R lo hi) d w xs l l.length bs) (h1 : lo2 ≤ lo1) (h2 : hi1 ≤ hi2) (h3 : lo2 ≤ lo) (h4 : hi ≤ hi2) : RdG sz R d w lo2 hi2 A l := fun h0 => by
  obtain ⟨vs, bss, _, h⟩ := hP
  obtain ⟨g, rfl, g1, g2, _⟩ := hO.some_ h0
  refine ⟨g, 0, rfl, by omega, by omega, fun j hj => ⟨vs j, K _ _ _ _ _ _ _ h3 h4 (h j hj).2.1, fun i hi => ?_⟩⟩
  rw [Nat.zero_add, ← (h j hj).1 i hi]
  refine hO.cellAt _ ?_
  have : (j + 1) * sz ≤ l.length * sz := Nat.mul_le_mul_right _ (by omega)
  rw [Nat.succ_mul] at this
  omega
theorem OwG.keep_ (K : OKeeps O) (h : OwG sz e O d w A c l bs) (hk : ∀ b ∈ bs, w'.heap[b]? = w.heap[b]?) : OwG sz e O d w' A c l bs := by
  obtain ⟨b0, b1, xs, h1, h2, rfl⟩ := h
  exact ⟨b0, b1, xs, h1.keep fun b hb => hk b (List.mem_append_left _ hb), h2.keep_ K fun b hb => hk b (List.mem_append_right _ hb), rfl⟩
theorem OwG.rd_ (K : ORd O R) (h : OwG sz e O d w A c l bs) {lo hi : Nat} (hb : ∀ b ∈ bs, lo ≤ b ∧ b < hi) : RdG sz R d w lo hi A l := fun h0 => by
  obtain ⟨b0, b1, xs, h1, ⟨vs, bss, rfl, h2⟩, rfl⟩ := h
  have ho := h1.own (lo := lo) (hi := hi) fun b h => hb b (List.mem_append_left _ h)
  obtain ⟨g, rfl, g1, g2, _⟩ := ho.some_ h0
  refine ⟨g, 0, rfl, g1, g2, fun j hj => ⟨vs j, K _ _ _ _ _ _ (fun b h => hb b (List.mem_append_right _ (List.mem_flatMap.2 ⟨j, List.mem_range.2 hj, h⟩))) (h2 j hj).2, fun i hi => ?_⟩⟩
  rw [Nat.zero_add, ← (h2 j hj).1 i hi]
  refine ho.cellAt _ ?_
  have : (j + 1) * sz ≤ l.length * sz := Nat.mul_le_mul_right _ (by omega)
  rw [Nat.succ_mul] at this
  omega
/-- The call owns the row and all that it leads to. -/
def OwN (sz : Nat) (e : TypeId) (O : Owns α) (d : α) (w : World) (lo hi : Nat) (A : Option Addr) (c : Nat) (l : List α) : Prop := ∃ bs, OwG sz e O d w A c l bs ∧ Nd bs lo hi
theorem OwN.keep_ (K : OKeeps O) {lo hi : Nat} (h : OwN sz e O d w lo hi A c l) (hk : ∀ k, lo ≤ k → k < hi → w'.heap[k]? = w.heap[k]?) : OwN sz e O d w' lo hi A c l := by
  obtain ⟨bs, h1, h2⟩ := h
  exact ⟨bs, h1.keep_ K fun b hb => hk b (h2.2 b hb).1 (h2.2 b hb).2, h2⟩
end
end Go.Proofs.YtcecgbjolngdbaaGreatDoor
