/- An element that the call owns is appended to a row of its kind that it owns; a project in a box. -/
import Derived.Test.YtcecgbjolngdbaaGreatDoorKitIn
import Derived.Test.YtcecgbjolngdbaaGreatDoorKitOw
namespace Go.Proofs.YtcecgbjolngdbaaGreatDoor
open Go.ChangeShapes Go.WideShapes Go.ChangeAt Go.RowKit

section
variable {α : Type} {O : Owns α} {d : α}
theorem OwG.pushed (K : OKeeps O) {sz : Nat} {e : TypeId} {w w' : World} {l : List α} {b0 b1 b0' b : List Nat} {A' : Option Addr} {c' : Nat} {xs : List Value} {a : α} {v : Array Value}
    (hP : Part sz O d w xs l l.length b1) (hl : xs.length = l.length * sz) (ho : O w v a b) (hv : v.size = sz) (hR : RowB w' e sz A' (l.length + 1) c' (xs ++ v.toList) b0') (hN : OnlyIn b0 w w')
    (h1 : ∀ x ∈ b1 ++ b, x < w.heap.size ∧ x ∉ b0) : OwG sz e O d w' A' c' (l ++ [a]) (b0' ++ (b1 ++ b)) := by
  refine ⟨b0', b1 ++ b, xs ++ v.toList, by rw [List.length_append]; exact hR, ?_, rfl⟩
  exact ((hP.push_ hl hv ho).keep_ K fun x hx => hN.block x (h1 x hx).1 (h1 x hx).2)
theorem nd_app {a b : List Nat} {lo hi : Nat} (h : Nd (a ++ b) lo hi) : Nd a lo hi ∧ Nd b lo hi ∧ ∀ x ∈ a, x ∉ b := by
  obtain ⟨h1, h2, h3⟩ := List.nodup_append.1 h.1
  exact ⟨⟨h1, fun x hx => h.2 x (List.mem_append_left _ hx)⟩, ⟨h2, fun x hx => h.2 x (List.mem_append_right _ hx)⟩, fun x hx hb => h3 x hx x hb rfl⟩
theorem nd_mk {a b : List Nat} {lo hi : Nat} (ha : Nd a lo hi) (hb : Nd b lo hi) (h : ∀ x ∈ a, x ∉ b) : Nd (a ++ b) lo hi :=
  ⟨List.nodup_append.2 ⟨ha.1, hb.1, fun x hx y hy e => h x hx (e ▸ hy)⟩, fun x hx => by
    rcases List.mem_append.1 hx with hx | hx
    · exact ha.2 x hx
    · exact hb.2 x hx⟩
/-- A part in the middle is taken for another that holds its own blocks and new ones. -/
theorem nd_swap {x m y m' : List Nat} {lo hi hi' : Nat} (h : Nd (x ++ (m ++ y)) lo hi) (hm : Nd m' lo hi') (hh : hi ≤ hi') (hs : ∀ k ∈ m', k ∈ m ∨ hi ≤ k) : Nd (x ++ (m' ++ y)) lo hi' := by
  obtain ⟨h1, h2, h3⟩ := nd_app h
  obtain ⟨h4, h5, h6⟩ := nd_app h2
  refine nd_mk (h1.mono (Nat.le_refl _) hh) (nd_mk hm (h5.mono (Nat.le_refl _) hh) fun k hk hy => ?_) fun k hk hb => ?_
  · rcases hs k hk with hk | hk
    · exact h6 k hk hy
    · have := (h5.2 k hy).2; omega
  · rcases List.mem_append.1 hb with hb | hb
    · rcases hs k hb with hb | hb
      · exact h3 k hk (List.mem_append_left _ hb)
      · have := (h1.2 k hk).2; omega
    · exact h3 k hk (List.mem_append_right _ hb)
theorem wpList_pushG {P : Program} {ops : Array Oper} {rest : List Oper} {o : Oper} {a : Act} {Q : Exit → Act → World → Prop} (K : OKeeps O) (w : World) (s x : Operand) (t : TypeId)
    (e : TypeId) (z : Value) (size bytes : Nat) (ht : P.underlying t = some (.slice e)) (hinfo : (P.info? e).map (fun i => (i.zero, i.size, i.bytes)) = some (some z, size, bytes))
    (hzs : z.cells.size = size) (hsz : 0 < size)
    (A : Option Addr) (c : Nat) (l : List α) (bs : List Nat) (lo : Nat) (hown : OwG size e O d w A c l bs) (el : α) (v : Array Value) (b : List Nat) (ho : O w v el b) (hv : v.size = size) (hn : Nd (bs ++ b) lo w.heap.size)
    (g : Nat) (off : Nat) (c' : Nat) (hnews : ∀ j u, v.toList[j]? = some u → w.cell? ⟨g, off + j, none⟩ = some u) (h1 : ∀ u ∈ v.toList, u.oneCell' = true)
    (h63 : l.length + 1 ≤ 2147483648) (hbytes : bytes ≤ 4096)
    (h : ∀ A' c' bs' w', OwG size e O d w' A' c' (l ++ [el]) bs' → Nd bs' lo w'.heap.size → (∀ k ∈ bs', k ∈ bs ∨ k ∈ b ∨ k = w.heap.size) → OnlyIn bs w w' → wpList P ops Q rest (a.put o.dst (.slice A' (l.length + 1) c')) w')
    (hgd : o.guard = none) (hop : o.op = .call { callee := .builtin .append, args := #[s, x], argTypes := #[t, t] }) (hs : a.eval s = .slice A l.length c) (hx : a.eval x = .slice (some ⟨g, off, none⟩) 1 c') (hlo : lo ≤ w.heap.size) :
    wpList P ops Q (o :: rest) a w := by
  obtain ⟨b0, b1, xs, hR, hP, rfl⟩ := hown
  refine wpList_pushB w s x t e z size bytes ht hinfo hzs hsz A l.length c xs b0 hR g off 1 c' v.toList (by omega) (by rw [Array.length_toList, hv, Nat.one_mul]) hnews h1 h63 hbytes ?_ hgd hop hs hx
  intro A' c1 b0' w' hR' hb' hN
  obtain ⟨h5, h6, h7⟩ := nd_app hn
  obtain ⟨h8, h9, h10⟩ := nd_app h5
  have hin : ∀ y ∈ b1 ++ b, y < w.heap.size ∧ y ∉ b0 := fun y hy => by
    rcases List.mem_append.1 hy with hy | hy
    · exact ⟨(h9.2 y hy).2, fun h => h10 y h hy⟩
    · exact ⟨(h6.2 y hy).2, fun h => h7 y (List.mem_append_left _ h) hy⟩
  have hz := hN.size
  refine h A' c1 _ w' (OwG.pushed K hP hR.len ho hv hR' hN hin) ?_ ?_ (hN.sub fun y hy => List.mem_append_left _ hy)
  · refine nd_mk ?_ (nd_mk (h9.mono (Nat.le_refl _) hz) (h6.mono (Nat.le_refl _) hz) fun y hy hb => h7 y (List.mem_append_right _ hy) hb) ?_
    · rcases hb' with rfl | rfl
      · exact h8.mono (Nat.le_refl _) hz
      · have := hR'.lt w.heap.size (by simp)
        exact Nd.one hlo this
    · intro y hy hb
      rcases hb' with rfl | rfl
      · exact (hin y hb).2 hy
      · have := (hin y hb).1
        simp at hy; omega
  · intro k hk
    rcases List.mem_append.1 hk with hk | hk
    · rcases hb' with rfl | rfl
      · exact .inl (List.mem_append_left _ hk)
      · simp at hk; exact .inr (.inr hk)
    · rcases List.mem_append.1 hk with hk | hk
      · exact .inl (List.mem_append_right _ hk)
      · exact .inr (.inl hk)
theorem OwG.nil_ (w : World) (sz : Nat) (e : TypeId) (O : Owns α) (d : α) : OwG sz e O d w none 0 [] [] := ⟨[], [], [], RowB.nil_ w e sz, Part.nil_, rfl⟩
end
theorem OnlyIn.below_in {bs : List Nat} {a w w' : World} {B : Nat} (h : Below B a w) (r : OnlyIn bs w w') (hb : ∀ x ∈ bs, B ≤ x) (hB : B ≤ w.heap.size) : Below B a w' := OnlyIn.belowB h r hb hB

/-- A project whose box is g. -/
def PjAt (w : World) (g : Nat) (p : Pj) (bs : List Nat) : Prop := ∃ v, Bk w g 34 v ∧ OwP w v p bs
theorem PjAt.keep {w w' : World} {g : Nat} {p : Pj} {bs : List Nat} (h : PjAt w g p bs) (hk : ∀ k, k = g ∨ k ∈ bs → w'.heap[k]? = w.heap[k]?) : PjAt w' g p bs := by
  obtain ⟨v, h1, h2⟩ := h
  exact ⟨v, (hk g (.inl rfl)).trans h1, OwPj.keeps _ _ _ _ _ (fun k hm => hk k (.inr hm)) h2⟩
theorem PjAt.below {w w' : World} {g : Nat} {p : Pj} {bs : List Nat} {B : Nat} (h : PjAt w g p bs) (hb : Below B w w') (hg : g < B) (hB : ∀ b ∈ bs, b < B) : PjAt w' g p bs :=
  h.keep fun k hk => hb.block k (by rcases hk with rfl | hk; exact hg; exact hB k hk)
end Go.Proofs.YtcecgbjolngdbaaGreatDoor
