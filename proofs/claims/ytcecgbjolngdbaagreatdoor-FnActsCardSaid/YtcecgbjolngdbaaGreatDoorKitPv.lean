/- An element that the call owns is appended at a step of a region that draws its order; a field of a project in a box is stored. -/
import Derived.Test.YtcecgbjolngdbaaGreatDoorKitPu
import Derived.Test.YtcecgbjolngdbaaGreatDoorPlainPj
import Derived.Test.YtcecgbjolngdbaaGreatDoorKitOw
namespace Go.Proofs.YtcecgbjolngdbaaGreatDoor
open Go.ChangeShapes Go.WideShapes Go.ChangeAt Go.RowKit
set_option linter.unusedVariables false

section
variable {α : Type} {O : Owns α} {d : α}
theorem pushG_facts (K : OKeeps O) {size : Nat} {e : TypeId} {w w' : World} {l : List α} {b0 b1 b0' b : List Nat} {lo : Nat} {A A' : Option Addr} {c c' : Nat} {xs : List Value} {el : α} {v : Array Value}
    (hR : RowB w e size A l.length c xs b0) (hP : Part size O d w xs l l.length b1) (ho : O w v el b) (hv : v.size = size) (hn : Nd ((b0 ++ b1) ++ b) lo w.heap.size)
    (hR' : RowB w' e size A' (l.length + 1) c' (xs ++ v.toList) b0') (hb' : b0' = b0 ∨ b0' = [w.heap.size]) (hN : OnlyIn b0 w w') (hlo : lo ≤ w.heap.size) :
    OwG size e O d w' A' c' (l ++ [el]) (b0' ++ (b1 ++ b)) ∧ Nd (b0' ++ (b1 ++ b)) lo w'.heap.size ∧ (∀ k ∈ b0' ++ (b1 ++ b), k ∈ b0 ++ b1 ∨ k ∈ b ∨ k = w.heap.size) ∧ OnlyIn (b0 ++ b1) w w' := by
  obtain ⟨h5, h6, h7⟩ := nd_app hn
  obtain ⟨h8, h9, h10⟩ := nd_app h5
  have hin : ∀ y ∈ b1 ++ b, y < w.heap.size ∧ y ∉ b0 := fun y hy => by
    rcases List.mem_append.1 hy with hy | hy
    · exact ⟨(h9.2 y hy).2, fun h => h10 y h hy⟩
    · exact ⟨(h6.2 y hy).2, fun h => h7 y (List.mem_append_left _ h) hy⟩
  have hz := hN.size
  refine ⟨OwG.pushed K hP hR.len ho hv hR' hN hin, ?_, ?_, hN.sub fun y hy => List.mem_append_left _ hy⟩
  · refine nd_mk ?_ (nd_mk (h9.mono (Nat.le_refl _) hz) (h6.mono (Nat.le_refl _) hz) fun y hy hb => h7 y (List.mem_append_right _ hy) hb) ?_
    · rcases hb' with rfl | rfl
      · exact h8.mono (Nat.le_refl _) hz
      · have := hR'.lt w.heap.size (by simp)
        exact Nd.one hlo this
    · intro y hy hb
      rcases hb' with rfl | rfl
      · exact (hin y hb).2 hy
      · have := (hin y hb).1
        simp at hy; omega
  · intro k hk
    rcases List.mem_append.1 hk with hk | hk
    · rcases hb' with rfl | rfl
      · exact .inl (List.mem_append_left _ hk)
      · simp at hk; exact .inr (.inr hk)
    · rcases List.mem_append.1 hk with hk | hk
      · exact .inl (List.mem_append_right _ hk)
      · exact .inr (.inl hk)
theorem step_pushG {P : Program} {w : World} {ops : Array Oper} {o : Oper} {a : Act} {K : Act → World → Prop} {Q : Exit → Act → World → Prop} {E : Prop} (hK : OKeeps O) (hgd : o.guard = none) (s x : Operand) (t : TypeId)
    (hop : o.op = .call { callee := .builtin .append, args := #[s, x], argTypes := #[t, t] })
    (e : TypeId) (z : Value) (size bytes : Nat) (ht : P.underlying t = some (.slice e)) (hinfo : (P.info? e).map (fun i => (i.zero, i.size, i.bytes)) = some (some z, size, bytes))
    (hzs : z.cells.size = size) (hsz : 0 < size)
    (A : Option Addr) (c : Nat) (l : List α) (bs : List Nat) (lo : Nat) (hs : a.eval s = .slice A l.length c) (hown : OwG size e O d w A c l bs) (el : α) (v : Array Value) (b : List Nat) (ho : O w v el b) (hv : v.size = size) (hn : Nd (bs ++ b) lo w.heap.size)
    (g : Nat) (off : Nat) (c' : Nat) (hx : a.eval x = .slice (some ⟨g, off, none⟩) 1 c') (hnews : ∀ j u, v.toList[j]? = some u → w.cell? ⟨g, off + j, none⟩ = some u) (h1 : ∀ u ∈ v.toList, u.oneCell' = true)
    (h63 : l.length + 1 ≤ 2147483648) (hbytes : bytes ≤ 4096) (hlo : lo ≤ w.heap.size)
    (h : ∀ A' c' bs' w', OwG size e O d w' A' c' (l ++ [el]) bs' → Nd bs' lo w'.heap.size → (∀ k ∈ bs', k ∈ bs ∨ k ∈ b ∨ k = w.heap.size) → OnlyIn bs w w' → K (a.put o.dst (.slice A' (l.length + 1) c')) w') :
    if Region.wanted o (yielded ops a.tmps) = true then Oper.wp P o a w K Q else E := by
  obtain ⟨b0, b1, xs, hR, hP, rfl⟩ := hown
  refine step_pushB hgd s x t hop e z size bytes ht hinfo hzs hsz A l.length c xs b0 hs hR g off 1 c' v.toList hx (by omega) (by rw [Array.length_toList, hv, Nat.one_mul]) hnews h1 h63 hbytes ?_
  intro A' c1 b0' w' hR' hb' hN
  obtain ⟨r1, r2, r3, r4⟩ := pushG_facts hK hR hP ho hv hn hR' hb' hN hlo
  exact h A' c1 _ w' r1 r2 r3 r4
theorem step_pushN {P : Program} {w : World} {ops : Array Oper} {o : Oper} {a : Act} {K : Act → World → Prop} {Q : Exit → Act → World → Prop} {E : Prop} (hK : OKeeps O) (hgd : o.guard = none) (s x : Operand) (t : TypeId)
    (hop : o.op = .call { callee := .builtin .append, args := #[s, x], argTypes := #[t, t] })
    (e : TypeId) (z : Value) (size bytes : Nat) (ht : P.underlying t = some (.slice e)) (hinfo : (P.info? e).map (fun i => (i.zero, i.size, i.bytes)) = some (some z, size, bytes))
    (hzs : z.cells.size = size) (hsz : 0 < size)
    (A : Option Addr) (n c : Nat) (l : List α) (bs : List Nat) (lo : Nat) (hnl : l.length = n) (hs : a.eval s = .slice A n c) (el : α) (v : Array Value) (b : List Nat) (hall : OwG size e O d w A c l bs ∧ O w v el b ∧ Nd (bs ++ b) lo w.heap.size) (hv : v.size = size)
    (g : Nat) (off : Nat) (c' : Nat) (hx : a.eval x = .slice (some ⟨g, off, none⟩) 1 c') (hnews : ∀ j u, v.toList[j]? = some u → w.cell? ⟨g, off + j, none⟩ = some u) (h1 : ∀ u ∈ v.toList, u.oneCell' = true)
    (h63 : n + 1 ≤ 2147483648) (hbytes : bytes ≤ 4096) (hlo : lo ≤ w.heap.size)
    (h : ∀ A' c' bs' w', OwG size e O d w' A' c' (l ++ [el]) bs' → Nd bs' lo w'.heap.size → (∀ k ∈ bs', k ∈ bs ∨ k ∈ b ∨ k = w.heap.size) → OnlyIn bs w w' → K (a.put o.dst (.slice A' (n + 1) c')) w') :
    if Region.wanted o (yielded ops a.tmps) = true then Oper.wp P o a w K Q else E := by
  subst hnl
  exact step_pushG hK hgd s x t hop e z size bytes ht hinfo hzs hsz A c l bs lo hs hall.1 el v b hall.2.1 hv hall.2.2 g off c' hx hnews h1 h63 hbytes hlo h
theorem wpList_pushN {P : Program} {ops : Array Oper} {rest : List Oper} {o : Oper} {a : Act} {Q : Exit → Act → World → Prop} (hK : OKeeps O) (w : World) (s x : Operand) (t : TypeId)
    (e : TypeId) (z : Value) (size bytes : Nat) (ht : P.underlying t = some (.slice e)) (hinfo : (P.info? e).map (fun i => (i.zero, i.size, i.bytes)) = some (some z, size, bytes))
    (hzs : z.cells.size = size) (hsz : 0 < size)
    (A : Option Addr) (n c : Nat) (l : List α) (bs : List Nat) (lo : Nat) (hnl : l.length = n) (el : α) (v : Array Value) (b : List Nat) (hall : OwG size e O d w A c l bs ∧ O w v el b ∧ Nd (bs ++ b) lo w.heap.size) (hv : v.size = size)
    (g : Nat) (off : Nat) (c' : Nat) (hnews : ∀ j u, v.toList[j]? = some u → w.cell? ⟨g, off + j, none⟩ = some u) (h1 : ∀ u ∈ v.toList, u.oneCell' = true)
    (h63 : n + 1 ≤ 2147483648) (hbytes : bytes ≤ 4096)
    (h : ∀ A' c' bs' w', OwG size e O d w' A' c' (l ++ [el]) bs' → Nd bs' lo w'.heap.size → (∀ k ∈ bs', k ∈ bs ∨ k ∈ b ∨ k = w.heap.size) → OnlyIn bs w w' → wpList P ops Q rest (a.put o.dst (.slice A' (n + 1) c')) w')
    (hgd : o.guard = none) (hop : o.op = .call { callee := .builtin .append, args := #[s, x], argTypes := #[t, t] }) (hs : a.eval s = .slice A n c) (hx : a.eval x = .slice (some ⟨g, off, none⟩) 1 c') (hlo : lo ≤ w.heap.size) :
    wpList P ops Q (o :: rest) a w := by
  subst hnl
  exact wpList_pushG hK w s x t e z size bytes ht hinfo hzs hsz A c l bs lo hall.1 el v b hall.2.1 hv hall.2.2 g off c' hnews h1 h63 hbytes h hgd hop hs hx hlo
theorem el_ready (K : OKeeps O) {sz : Nat} {e : TypeId} {w w1 W : World} {A : Option Addr} {c lo : Nat} {l : List α} {a : α} {v : Array Value} {bs bQ : List Nat} (hG : OwG sz e O d w A c l bs) (hn : Nd bs lo w.heap.size) (hB : Below w.heap.size w w1) (hO : O w1 v a bQ) (hnQ : Nd bQ w.heap.size w1.heap.size) (hlo : lo ≤ w.heap.size) (hW : Below w1.heap.size w1 W) :
    OwG sz e O d W A c l bs ∧ O W v a bQ ∧ Nd (bs ++ bQ) lo W.heap.size := by
  have hs := hB.size
  refine ⟨OwG.keep_ K hG fun b hb => ?_, K _ _ _ _ _ (fun b hb => hW.block b (hnQ.2 b hb).2) hO, (Nd.app hn hnQ (Nat.le_refl _) hlo hs).mono (Nat.le_refl _) hW.size⟩
  have := (hn.2 b hb).2
  exact (hW.block b (by omega)).trans (hB.block b this)
theorem OwG.lt {sz : Nat} {e : TypeId} {w : World} {A : Option Addr} {c : Nat} {l : List α} {bs : List Nat} {lo : Nat} (hn : Nd bs lo w.heap.size) : ∀ b ∈ bs, b < w.heap.size := fun b hb => (hn.2 b hb).2
end
theorem set_size (w : World) (p : Addr) (u : Value) : (w.setCell p u).heap.size = w.heap.size := by simp [World.setCell]

/-- What a project in a box leads to. -/
structure PjB (w : World) (g lo : Nat) (p : Pj) (A L R S : Option Addr) (ca cl cr cs : Nat) (b1 b2 b3 b4 : List Nat) : Prop where
  box : Bk w g 34 #[.int .i64 p.dead, .slice A p.acts.length ca, .slice L p.links.length cl, .slice R p.res.length cr, .slice S p.stocks.length cs]
  acts : OwG 3 46 OwA ac0 w A ca p.acts b1
  links : OwG 4 75 OwLk lk0 w L cl p.links b2
  res : OwG 2 71 OwRc rs0 w R cr p.res b3
  stocks : RowB w 3 1 S p.stocks.length cs (p.stocks.map (.int .i64)) b4
  nd : Nd (b1 ++ (b2 ++ (b3 ++ b4))) lo w.heap.size
  low : g < lo
/-- A project in box g; the call owns what it leads to, from lo on. -/
def PjG (w : World) (g lo : Nat) (p : Pj) : Prop := ∃ A L R S ca cl cr cs b1 b2 b3 b4, PjB w g lo p A L R S ca cl cr cs b1 b2 b3 b4
/-- Of the blocks that were there, only g and those from lo on may have turned. -/
structure Fr (g lo : Nat) (w w' : World) : Prop where
  os : w'.os = w.os
  tape : w'.tape = w.tape
  output : w'.output = w.output
  size : w.heap.size ≤ w'.heap.size
  block : ∀ k, k < w.heap.size → k < lo → k ≠ g → w'.heap[k]? = w.heap[k]?
theorem Fr.refl (g lo : Nat) (w : World) : Fr g lo w w := ⟨rfl, rfl, rfl, Nat.le_refl _, fun _ _ _ _ => rfl⟩
theorem Fr.trans {g lo : Nat} {a b c : World} (h : Fr g lo a b) (k : Fr g lo b c) : Fr g lo a c := ⟨k.os.trans h.os, k.tape.trans h.tape, k.output.trans h.output, Nat.le_trans h.size k.size, fun i h1 h2 h3 => (k.block i (Nat.lt_of_lt_of_le h1 h.size) h2 h3).trans (h.block i h1 h2 h3)⟩
theorem Fr.below {g lo B : Nat} {w w' : World} (h : Fr g lo w w') (h1 : B ≤ g) (h2 : B ≤ lo) (h3 : B ≤ w.heap.size) : Below B w w' := ⟨h.os, h.tape, h.output, h.size, fun k hk => h.block k (by omega) (by omega) (by omega)⟩
theorem Fr.of_below {g lo B : Nat} {w w' : World} (h : Below B w w') (hB : lo ≤ B) : Fr g lo w w' := ⟨h.os, h.tape, h.output, h.size, fun k _ h2 _ => h.block k (by omega)⟩
theorem Fr.of_only {g lo : Nat} {bs : List Nat} {w w' : World} (h : OnlyIn bs w w') (hb : ∀ x ∈ bs, x = g ∨ lo ≤ x) : Fr g lo w w' := ⟨h.os, h.tape, h.output, h.size, fun k h1 h2 h3 => h.block k h1 fun hm => by rcases hb k hm with h | h <;> omega⟩
theorem Fr.set {g lo : Nat} {a w : World} (h : Fr g lo a w) (i : Nat) (u : Value) : Fr g lo a (w.setCell ⟨g, i, none⟩ u) := ⟨h.os, h.tape, h.output, by rw [set_size]; exact h.size, fun k h1 h2 h3 => (Below.heap_setCell w _ u k (by rintro rfl; exact h3 rfl)).trans (h.block k h1 h2 h3)⟩
theorem Fr.qt {g lo : Nat} {a w : World} (h : Fr g lo a w) (n : Nat) : Fr g lo a (w.drewN n) := ⟨h.os, h.tape, h.output, h.size, h.block⟩
theorem Fr.alloc {g lo : Nat} {a w : World} (h : Fr g lo a w) (o : Obj) : Fr g lo a (w.alloc o) := ⟨h.os, h.tape, h.output, Nat.le_trans h.size (by simp), fun k h1 h2 h3 => (Below.heap_alloc w o k (Nat.lt_of_lt_of_le h1 h.size)).trans (h.block k h1 h2 h3)⟩
section
variable {w w' : World} {g lo : Nat} {p : Pj} {A L R S : Option Addr} {ca cl cr cs : Nat} {b1 b2 b3 b4 : List Nat}
theorem PjB.lt (h : PjB w g lo p A L R S ca cl cr cs b1 b2 b3 b4) : g < w.heap.size := h.box.lt
theorem PjB.below {B : Nat} (h : PjB w g lo p A L R S ca cl cr cs b1 b2 b3 b4) (hb : Below B w w') (hB : w.heap.size ≤ B) : PjB w' g lo p A L R S ca cl cr cs b1 b2 b3 b4 := by
  have hk : ∀ b ∈ b1 ++ (b2 ++ (b3 ++ b4)), w'.heap[b]? = w.heap[b]? := fun b hm => hb.block b (by have := (h.nd.2 b hm).2; omega)
  exact ⟨h.box.below hb (by have := h.lt; omega), OwG.keep_ OwAs.keeps h.acts fun b hm => hk b (by simp [hm]), OwG.keep_ OwLs.keeps h.links fun b hm => hk b (by simp [hm]), OwG.keep_ OwRs.keeps h.res fun b hm => hk b (by simp [hm]), h.stocks.keep fun b hm => hk b (by simp [hm]), h.nd.mono (Nat.le_refl _) hb.size, h.low⟩
theorem PjB.qt (h : PjB w g lo p A L R S ca cl cr cs b1 b2 b3 b4) (n : Nat) : PjB (w.drewN n) g lo p A L R S ca cl cr cs b1 b2 b3 b4 := h.below (below_quiet (Below.refl w.heap.size w) n) (Nat.le_refl _)
theorem PjB.drew (h : PjB w g lo p A L R S ca cl cr cs b1 b2 b3 b4) : PjB w.drew g lo p A L R S ca cl cr cs b1 b2 b3 b4 := h.qt 1
theorem PjB.alloc (h : PjB w g lo p A L R S ca cl cr cs b1 b2 b3 b4) (o : Obj) : PjB (w.alloc o) g lo p A L R S ca cl cr cs b1 b2 b3 b4 := h.below ((Below.refl w.heap.size w).alloc (Nat.le_refl _) o) (Nat.le_refl _)
theorem PjB.mono {lo' : Nat} (h : PjB w g lo p A L R S ca cl cr cs b1 b2 b3 b4) (h1 : lo' ≤ lo) (h2 : g < lo') : PjB w g lo' p A L R S ca cl cr cs b1 b2 b3 b4 := ⟨h.box, h.acts, h.links, h.res, h.stocks, h.nd.mono h1 (Nat.le_refl _), h2⟩
theorem PjB.rdA (h : PjB w g lo p A L R S ca cl cr cs b1 b2 b3 b4) : RdAs w lo w.heap.size A p.acts := OwG.rd_ OwAs.ord h.acts fun b hm => h.nd.2 b (by simp [hm])
theorem PjB.rdL (h : PjB w g lo p A L R S ca cl cr cs b1 b2 b3 b4) : RdLs w lo w.heap.size L p.links := OwG.rd_ OwLs.ord h.links fun b hm => h.nd.2 b (by simp [hm])
theorem PjB.rdR (h : PjB w g lo p A L R S ca cl cr cs b1 b2 b3 b4) : RdRs w lo w.heap.size R p.res := OwG.rd_ OwRs.ord h.res fun b hm => h.nd.2 b (by simp [hm])
theorem PjB.rdS (h : PjB w g lo p A L R S ca cl cr cs b1 b2 b3 b4) : RdI w lo w.heap.size S p.stocks := (h.stocks.own fun b hm => h.nd.2 b (by simp [hm])).rdI
theorem PjB.own (h : PjB w g lo p A L R S ca cl cr cs b1 b2 b3 b4) : OwV OwP w lo w.heap.size #[.int .i64 p.dead, .slice A p.acts.length ca, .slice L p.links.length cl, .slice R p.res.length cr, .slice S p.stocks.length cs] p :=
  ⟨_, ⟨A, ca, L, cl, R, cr, S, cs, b1, b2, b3, b4, rfl, h.acts, h.links, h.res, h.stocks, rfl⟩, h.nd⟩
/-- What is kept when one of the four rows turns and its field is stored. -/
theorem keep_set {bs : List Nat} {i : Nat} {u : Value} (hN : OnlyIn bs w w') {b : Nat} (hlt : b < w.heap.size) (hg : b ≠ g) (hm : b ∉ bs) : (w'.setCell ⟨g, i, none⟩ u).heap[b]? = w.heap[b]? :=
  (Below.heap_setCell w' _ u b hg).trans (hN.block b hlt hm)
theorem PjB.setDead (h : PjB w g lo p A L R S ca cl cr cs b1 b2 b3 b4) (n : Int) : PjB (w.setCell ⟨g, 0, none⟩ (.int .i64 n)) g lo { p with dead := n } A L R S ca cl cr cs b1 b2 b3 b4 := by
  have hk : ∀ b ∈ b1 ++ (b2 ++ (b3 ++ b4)), (w.setCell ⟨g, 0, none⟩ (.int .i64 n)).heap[b]? = w.heap[b]? := fun b hm => Below.heap_setCell w _ _ b (by have := (h.nd.2 b hm).1; have := h.low; show b ≠ g; omega)
  exact ⟨h.box.set 0 _, OwG.keep_ OwAs.keeps h.acts fun b hm => hk b (by simp [hm]), OwG.keep_ OwLs.keeps h.links fun b hm => hk b (by simp [hm]), OwG.keep_ OwRs.keeps h.res fun b hm => hk b (by simp [hm]), h.stocks.keep fun b hm => hk b (by simp [hm]), by rw [set_size]; exact h.nd, h.low⟩
theorem PjB.setActs (h : PjB w g lo p A L R S ca cl cr cs b1 b2 b3 b4) {x : Ac} {A' : Option Addr} {c' : Nat} {b' : List Nat} (hN : OnlyIn b1 w w') (h' : OwG 3 46 OwA ac0 w' A' c' (p.acts ++ [x]) b') (hn : Nd b' lo w'.heap.size) (hb : ∀ k ∈ b', k ∈ b1 ∨ w.heap.size ≤ k) :
    PjB (w'.setCell ⟨g, 1, none⟩ (.slice A' (p.acts.length + 1) c')) g lo { p with acts := p.acts ++ [x] } A' L R S c' cl cr cs b' b2 b3 b4 := by
  have hlow := h.low
  have hlt := h.lt
  have hmem : ∀ b ∈ b1 ++ (b2 ++ (b3 ++ b4)), b < w.heap.size ∧ b ≠ g := fun b hm => by have := h.nd.2 b hm; omega
  obtain ⟨n1, n2, n3⟩ := nd_app h.nd
  have hk : ∀ b ∈ b2 ++ (b3 ++ b4), (w'.setCell ⟨g, 1, none⟩ (.slice A' (p.acts.length + 1) c')).heap[b]? = w.heap[b]? := fun b hm => keep_set hN (hmem b (by simp only [List.mem_append] at hm ⊢; exact .inr hm)).1 (hmem b (by simp only [List.mem_append] at hm ⊢; exact .inr hm)).2 fun hx => n3 b hx hm
  have hg1 : g ∉ b1 := fun hm => (hmem g (by simp [hm])).2 rfl
  have hbx : Bk w' g 34 #[.int .i64 p.dead, .slice A p.acts.length ca, .slice L p.links.length cl, .slice R p.res.length cr, .slice S p.stocks.length cs] := (hN.block g hlt hg1).trans h.box
  have e : (p.acts ++ [x]).length = p.acts.length + 1 := by simp
  refine ⟨?_, ?_, OwG.keep_ OwLs.keeps h.links fun b hm => hk b (by simp [hm]), OwG.keep_ OwRs.keeps h.res fun b hm => hk b (by simp [hm]), h.stocks.keep fun b hm => hk b (by simp [hm]), ?_, hlow⟩
  · show Bk _ g _ #[_, .slice A' (p.acts ++ [x]).length c', _, _, _]
    rw [e]; exact hbx.set 1 _
  · exact OwG.keep_ OwAs.keeps h' fun b hm => Below.heap_setCell w' _ _ b (by have := (hn.2 b hm).1; show b ≠ g; omega)
  · rw [set_size]
    have := nd_swap (x := []) h.nd hn hN.size hb
    exact this
theorem PjB.setLinks (h : PjB w g lo p A L R S ca cl cr cs b1 b2 b3 b4) {x : Lk} {A' : Option Addr} {c' : Nat} {b' : List Nat} (hN : OnlyIn b2 w w') (h' : OwG 4 75 OwLk lk0 w' A' c' (p.links ++ [x]) b') (hn : Nd b' lo w'.heap.size) (hb : ∀ k ∈ b', k ∈ b2 ∨ w.heap.size ≤ k) :
    PjB (w'.setCell ⟨g, 2, none⟩ (.slice A' (p.links.length + 1) c')) g lo { p with links := p.links ++ [x] } A A' R S ca c' cr cs b1 b' b3 b4 := by
  have hlow := h.low
  have hlt := h.lt
  have hmem : ∀ b ∈ b1 ++ (b2 ++ (b3 ++ b4)), b < w.heap.size ∧ b ≠ g := fun b hm => by have := h.nd.2 b hm; omega
  obtain ⟨n1, n2, n3⟩ := nd_app h.nd
  obtain ⟨n4, n5, n6⟩ := nd_app n2
  have hk : ∀ b, b ∈ b1 ∨ b ∈ b3 ++ b4 → (w'.setCell ⟨g, 2, none⟩ (.slice A' (p.links.length + 1) c')).heap[b]? = w.heap[b]? := fun b hm => keep_set hN (hmem b (by simp only [List.mem_append] at hm ⊢; rcases hm with h | h <;> simp [h])).1 (hmem b (by simp only [List.mem_append] at hm ⊢; rcases hm with h | h <;> simp [h])).2 fun hx => by
    rcases hm with hm | hm
    · exact n3 b hm (List.mem_append_left _ hx)
    · exact n6 b hx hm
  have hg1 : g ∉ b2 := fun hm => (hmem g (by simp [hm])).2 rfl
  have hbx : Bk w' g 34 #[.int .i64 p.dead, .slice A p.acts.length ca, .slice L p.links.length cl, .slice R p.res.length cr, .slice S p.stocks.length cs] := (hN.block g hlt hg1).trans h.box
  have e : (p.links ++ [x]).length = p.links.length + 1 := by simp
  refine ⟨?_, OwG.keep_ OwAs.keeps h.acts fun b hm => hk b (.inl hm), ?_, OwG.keep_ OwRs.keeps h.res fun b hm => hk b (by simp [hm]), h.stocks.keep fun b hm => hk b (by simp [hm]), ?_, hlow⟩
  · show Bk _ g _ #[_, _, .slice A' (p.links ++ [x]).length c', _, _]
    rw [e]; exact hbx.set 2 _
  · exact OwG.keep_ OwLs.keeps h' fun b hm => Below.heap_setCell w' _ _ b (by have := (hn.2 b hm).1; show b ≠ g; omega)
  · rw [set_size]
    exact nd_swap h.nd hn hN.size hb
theorem PjB.setRes (h : PjB w g lo p A L R S ca cl cr cs b1 b2 b3 b4) {x : Rs} {A' : Option Addr} {c' : Nat} {b' : List Nat} (hN : OnlyIn b3 w w') (h' : OwG 2 71 OwRc rs0 w' A' c' (p.res ++ [x]) b') (hn : Nd b' lo w'.heap.size) (hb : ∀ k ∈ b', k ∈ b3 ∨ w.heap.size ≤ k) :
    PjB (w'.setCell ⟨g, 3, none⟩ (.slice A' (p.res.length + 1) c')) g lo { p with res := p.res ++ [x] } A L A' S ca cl c' cs b1 b2 b' b4 := by
  have hlow := h.low
  have hlt := h.lt
  have hmem : ∀ b ∈ b1 ++ (b2 ++ (b3 ++ b4)), b < w.heap.size ∧ b ≠ g := fun b hm => by have := h.nd.2 b hm; omega
  have hnd2 : Nd ((b1 ++ b2) ++ (b3 ++ b4)) lo w.heap.size := by rw [List.append_assoc]; exact h.nd
  obtain ⟨n1, n2, n3⟩ := nd_app hnd2
  obtain ⟨n4, n5, n6⟩ := nd_app n2
  have hk : ∀ b, b ∈ b1 ++ b2 ∨ b ∈ b4 → (w'.setCell ⟨g, 3, none⟩ (.slice A' (p.res.length + 1) c')).heap[b]? = w.heap[b]? := fun b hm => keep_set hN (hmem b (by simp only [List.mem_append] at hm ⊢; rcases hm with (h | h) | h <;> simp [h])).1 (hmem b (by simp only [List.mem_append] at hm ⊢; rcases hm with (h | h) | h <;> simp [h])).2 fun hx => by
    rcases hm with hm | hm
    · exact n3 b hm (List.mem_append_left _ hx)
    · exact n6 b hx hm
  have hg1 : g ∉ b3 := fun hm => (hmem g (by simp [hm])).2 rfl
  have hbx : Bk w' g 34 #[.int .i64 p.dead, .slice A p.acts.length ca, .slice L p.links.length cl, .slice R p.res.length cr, .slice S p.stocks.length cs] := (hN.block g hlt hg1).trans h.box
  have e : (p.res ++ [x]).length = p.res.length + 1 := by simp
  refine ⟨?_, OwG.keep_ OwAs.keeps h.acts fun b hm => hk b (.inl (by simp [hm])), OwG.keep_ OwLs.keeps h.links fun b hm => hk b (.inl (by simp [hm])), ?_, h.stocks.keep fun b hm => hk b (.inr hm), ?_, hlow⟩
  · show Bk _ g _ #[_, _, _, .slice A' (p.res ++ [x]).length c', _]
    rw [e]; exact hbx.set 3 _
  · exact OwG.keep_ OwRs.keeps h' fun b hm => Below.heap_setCell w' _ _ b (by have := (hn.2 b hm).1; show b ≠ g; omega)
  · rw [set_size]
    have := nd_swap hnd2 hn hN.size hb
    rwa [List.append_assoc] at this
theorem PjB.setStocks (h : PjB w g lo p A L R S ca cl cr cs b1 b2 b3 b4) {x : Int} {A' : Option Addr} {c' : Nat} {b' : List Nat} (hN : OnlyIn b4 w w') (h' : RowB w' 3 1 A' (p.stocks.length + 1) c' (p.stocks.map (.int .i64) ++ [.int .i64 x]) b') (hb : b' = b4 ∨ b' = [w.heap.size]) (hlo : lo ≤ w.heap.size) :
    PjB (w'.setCell ⟨g, 4, none⟩ (.slice A' (p.stocks.length + 1) c')) g lo { p with stocks := p.stocks ++ [x] } A L R A' ca cl cr c' b1 b2 b3 b' := by
  have hlow := h.low
  have hlt := h.lt
  have hmem : ∀ b ∈ b1 ++ (b2 ++ (b3 ++ b4)), b < w.heap.size ∧ b ≠ g := fun b hm => by have := h.nd.2 b hm; omega
  have hnd2 : Nd ((b1 ++ (b2 ++ b3)) ++ (b4 ++ [])) lo w.heap.size := by
    have := h.nd
    simpa [List.append_assoc] using this
  have hnd3 : Nd ((b1 ++ (b2 ++ b3)) ++ b4) lo w.heap.size := by simpa using hnd2
  obtain ⟨n1, n2, n3⟩ := nd_app hnd3
  have hk : ∀ b, b ∈ b1 ++ (b2 ++ b3) → (w'.setCell ⟨g, 4, none⟩ (.slice A' (p.stocks.length + 1) c')).heap[b]? = w.heap[b]? := fun b hm => keep_set hN (hmem b (by simp only [List.mem_append] at hm ⊢; rcases hm with h | h | h <;> simp [h])).1 (hmem b (by simp only [List.mem_append] at hm ⊢; rcases hm with h | h | h <;> simp [h])).2 fun hx => n3 b hm hx
  have hg1 : g ∉ b4 := fun hm => (hmem g (by simp [hm])).2 rfl
  have hbx : Bk w' g 34 #[.int .i64 p.dead, .slice A p.acts.length ca, .slice L p.links.length cl, .slice R p.res.length cr, .slice S p.stocks.length cs] := (hN.block g hlt hg1).trans h.box
  have e : (p.stocks ++ [x]).length = p.stocks.length + 1 := by simp
  have hn' : Nd b' lo w'.heap.size := by
    rcases hb with rfl | rfl
    · exact n2.mono (Nat.le_refl _) hN.size
    · exact Nd.one hlo (h'.lt _ (by simp))
  have hb2 : ∀ k ∈ b', k ∈ b4 ∨ w.heap.size ≤ k := fun k hm => by
    rcases hb with rfl | rfl
    · exact .inl hm
    · simp at hm; exact .inr (by omega)
  refine ⟨?_, OwG.keep_ OwAs.keeps h.acts fun b hm => hk b (by simp [hm]), OwG.keep_ OwLs.keeps h.links fun b hm => hk b (by simp [hm]), OwG.keep_ OwRs.keeps h.res fun b hm => hk b (by simp [hm]), ?_, ?_, hlow⟩
  · show Bk _ g _ #[_, _, _, _, .slice A' (p.stocks ++ [x]).length c']
    rw [e]; exact hbx.set 4 _
  · show RowB _ 3 1 A' (p.stocks ++ [x]).length c' ((p.stocks ++ [x]).map (.int .i64)) b'
    exact (h'.keep fun b hm => Below.heap_setCell w' _ _ b (by have := (hn'.2 b hm).1; show b ≠ g; omega)).eqn e.symm (by simp)
  · rw [set_size]
    have := nd_swap hnd2 hn' hN.size hb2
    simpa [List.append_assoc] using this
end
theorem PjB.zero {w : World} {g lo : Nat} (h : Bk w g 34 #[.int .i64 0, .slice none 0 0, .slice none 0 0, .slice none 0 0, .slice none 0 0]) (hg : g < lo) : PjB w g lo pj0 none none none none 0 0 0 0 [] [] [] [] :=
  ⟨h, OwG.nil_ _ _ _ _ _, OwG.nil_ _ _ _ _ _, OwG.nil_ _ _ _ _ _, RowB.nil_ _ _ _, Nd.nil _ _, hg⟩
end Go.Proofs.YtcecgbjolngdbaaGreatDoor
