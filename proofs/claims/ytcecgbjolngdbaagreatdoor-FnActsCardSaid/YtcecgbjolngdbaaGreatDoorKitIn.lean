/- Frames block by block; rows that the call owns, block by block: stores and appends. Nothing here speaks of a program. -/
import Derived.Test.YtcecgbjolngdbaaGreatDoorKitMd
import Derived.Deep.AppendLies
namespace Go.Proofs.YtcecgbjolngdbaaGreatDoor
open Go.ChangeShapes Go.WideShapes Go.ChangeAt Go.RowKit

theorem OwnR.some_cell {w : World} {lo hi : Nat} {e : TypeId} {sz : Nat} {g n c : Nat} {xs : List Value} (h : OwnR w lo hi e sz (some ⟨g, 0, none⟩) n c xs) (j : Nat) (hj : j < n * sz) : ∃ u, w.cell? ⟨g, j, none⟩ = some u := by
  have hl := h.len
  rw [h.cellAt j hj]
  exact ⟨_, List.getElem?_eq_getElem (by omega)⟩
/-- Only the blocks listed may have turned. -/
structure OnlyIn (bs : List Nat) (w w' : World) : Prop where
  os : w'.os = w.os
  tape : w'.tape = w.tape
  output : w'.output = w.output
  size : w.heap.size ≤ w'.heap.size
  block : ∀ k, k < w.heap.size → k ∉ bs → w'.heap[k]? = w.heap[k]?
theorem OnlyIn.refl (bs : List Nat) (w : World) : OnlyIn bs w w := ⟨rfl, rfl, rfl, Nat.le_refl _, fun _ _ _ => rfl⟩
theorem OnlyIn.trans {bs : List Nat} {a b c : World} (h : OnlyIn bs a b) (k : OnlyIn bs b c) : OnlyIn bs a c :=
  ⟨k.os.trans h.os, k.tape.trans h.tape, k.output.trans h.output, Nat.le_trans h.size k.size, fun i hi hn => (k.block i (Nat.lt_of_lt_of_le hi h.size) hn).trans (h.block i hi hn)⟩
theorem OnlyIn.only {bs : List Nat} {a w w' : World} (h : OnlyIn bs a w) {lo hi : Nat} (k : Only lo hi w w') (hb : ∀ x, lo ≤ x → x < hi → x ∈ bs) : OnlyIn bs a w' :=
  h.trans ⟨k.os, k.tape, k.output, k.size, fun i hi hn => k.block i hi (fun hh => hn (hb i hh.1 hh.2))⟩
theorem OnlyIn.set {bs : List Nat} {a w : World} (h : OnlyIn bs a w) {p : Addr} (hp : p.block ∈ bs) (u : Value) : OnlyIn bs a (w.setCell p u) :=
  h.trans ⟨rfl, rfl, rfl, by simp [World.setCell], fun i hi hn => Below.heap_setCell w p u i (by rintro rfl; exact hn hp)⟩
theorem OnlyIn.toOnly {bs : List Nat} {w w' : World} (h : OnlyIn bs w w') {lo hi : Nat} (hb : ∀ x ∈ bs, lo ≤ x ∧ x < hi) : Only lo hi w w' :=
  ⟨h.os, h.tape, h.output, h.size, fun k hk hn => h.block k hk (fun hm => hn (hb k hm))⟩
theorem OnlyIn.sub {bs bs' : List Nat} {w w' : World} (h : OnlyIn bs w w') (hb : ∀ x ∈ bs, x ∈ bs') : OnlyIn bs' w w' := ⟨h.os, h.tape, h.output, h.size, fun k hk hn => h.block k hk fun hx => hn (hb k hx)⟩
theorem OnlyIn.more {bs bs' : List Nat} {a w w' : World} (h : OnlyIn bs a w) (r : OnlyIn bs' w w') (hb : ∀ x ∈ bs', x ∈ bs) : OnlyIn bs a w' := h.trans (r.sub hb)
theorem OnlyIn.below {bs : List Nat} {a w w' : World} {B : Nat} (h : OnlyIn bs a w) (r : Below B w w') (hB : a.heap.size ≤ B) : OnlyIn bs a w' :=
  ⟨r.os.trans h.os, r.tape.trans h.tape, r.output.trans h.output, Nat.le_trans h.size r.size, fun k hk hn => (r.block k (by omega)).trans (h.block k hk hn)⟩
section
variable {w : World} {e : TypeId} {sz n c g : Nat} {A : Option Addr} {xs : List Value} {bs : List Nat}
theorem RowB.at_ (h : RowB w e sz A n c xs bs) (hn : 0 < n) : ∃ g, A = some ⟨g, 0, none⟩ ∧ bs = [g] := by
  obtain ⟨⟨lo, hi, ho⟩, h3⟩ := h
  rcases h3 with ⟨rfl, rfl⟩ | h3
  · obtain ⟨g, hg, _⟩ := ho.some_ hn; cases hg
  · exact h3
theorem RowB.lt (h : RowB w e sz A n c xs bs) (b : Nat) (hb : b ∈ bs) : b < w.heap.size := by
  obtain ⟨⟨lo, hi, ho⟩, h3⟩ := h
  rcases h3 with ⟨rfl, rfl⟩ | ⟨g, rfl, rfl⟩
  · cases hb
  · simp at hb; subst hb
    rcases ho.form with ⟨h, _⟩ | ⟨g', h, _, _, h4⟩
    · cases h
    · simp at h; omega
theorem RowB.len (h : RowB w e sz A n c xs bs) : xs.length = n * sz := by obtain ⟨⟨lo, hi, ho⟩, _⟩ := h; exact ho.len
theorem RowB.cellAt (h : RowB w e sz (some ⟨g, 0, none⟩) n c xs bs) (j : Nat) (hj : j < n * sz) : w.cell? ⟨g, j, none⟩ = xs[j]? := by obtain ⟨⟨lo, hi, ho⟩, _⟩ := h; exact ho.cellAt j hj
theorem RowB.some_at (h : RowB w e sz (some ⟨g, 0, none⟩) n c xs bs) (j : Nat) (hj : j < n * sz) : ∃ u, w.cell? ⟨g, j, none⟩ = some u := by obtain ⟨⟨lo, hi, ho⟩, _⟩ := h; exact ho.some_cell j hj
theorem RowB.frozenAt (h : RowB w e sz (some ⟨g, 0, none⟩) n c xs bs) (j : Nat) : w.frozen? ⟨g, j, none⟩ = false := by obtain ⟨⟨lo, hi, ho⟩, _⟩ := h; exact ho.frozenAt j
theorem RowB.stored_ (h : RowB w e sz (some ⟨g, 0, none⟩) n c xs bs) (j : Nat) (u : Value) : RowB (w.setCell ⟨g, j, none⟩ u) e sz (some ⟨g, 0, none⟩) n c (xs.set j u) bs := by
  obtain ⟨⟨lo, hi, ho⟩, h3⟩ := h; exact ⟨⟨lo, hi, ho.stored j u⟩, h3⟩
end

theorem OnlyIn.belowB {bs : List Nat} {a w w' : World} {B : Nat} (h : Below B a w) (r : OnlyIn bs w w') (hb : ∀ x ∈ bs, B ≤ x) (hB : B ≤ w.heap.size) : Below B a w' :=
  h.trans ⟨r.os, r.tape, r.output, r.size, fun k hk => r.block k (by omega) (fun hm => by have := hb k hm; omega)⟩
theorem OnlyIn.of_below {w w' : World} (h : Below w.heap.size w w') : OnlyIn [] w w' := ⟨h.os, h.tape, h.output, h.size, fun k hk _ => h.block k hk⟩
theorem OnlyIn.of_qt {bs : List Nat} {a w w' : World} (h : OnlyIn bs a w) (q : Qt w w') : OnlyIn bs a w' := by obtain ⟨d, rfl⟩ := q; exact ⟨h.os, h.tape, h.output, h.size, h.block⟩
/-- Of the blocks listed none lies from lo on and below hi. -/
def Off (bs : List Nat) (lo hi : Nat) : Prop := ∀ b ∈ bs, ¬ (lo ≤ b ∧ b < hi)
theorem OnlyIn.at_off {bs : List Nat} {w w' : World} (h : OnlyIn bs w w') {lo hi : Nat} (hf : Off bs lo hi) (hs : hi ≤ w.heap.size) : ∀ k, lo ≤ k → k < hi → w'.heap[k]? = w.heap[k]? :=
  fun k h1 h2 => h.block k (by omega) (fun hm => hf k hm ⟨h1, h2⟩)
section
variable {P : Program} {w : World}
theorem RowB.grown {e : TypeId} {size n m c : Nat} {A : Option Addr} {xs news : List Value} {bs : List Nat} {v' : Value} {w' : World} (hown : RowB w e size A n c xs bs) (hm : 0 < n + m)
    (h2 : w'.ownsRow 0 e size v' (n + m) (xs ++ news)) (h3 : w.grownBy w' (Value.ownBlock (.slice A n c))) (h5 : v'.ownBlock = Value.ownBlock (.slice A n c) ∨ v'.ownBlock = some w.heap.size) :
    ∃ A' c' bs', v' = .slice A' (n + m) c' ∧ RowB w' e size A' (n + m) c' (xs ++ news) bs' ∧ (bs' = bs ∨ bs' = [w.heap.size]) ∧ OnlyIn bs w w' := by
  obtain ⟨A', c', rfl⟩ := own_shape h2
  have hR := OwnR.of_own h2
  obtain ⟨g, rfl, g1, g2, _⟩ := hR.some_ hm
  have hO : OnlyIn bs w w' := ⟨h3.os, h3.tape, h3.output, h3.size, fun k hk hn => h3.block k hk (by
    rcases hown.2 with ⟨rfl, rfl⟩ | ⟨g0, rfl, rfl⟩
    · simp [Value.ownBlock]
    · simp only [Value.ownBlock, ne_eq, Option.some.injEq]
      intro e; exact hn (by simp [e]))⟩
  refine ⟨_, c', [g], rfl, ⟨⟨0, _, hR⟩, .inr ⟨g, rfl, rfl⟩⟩, ?_, hO⟩
  rcases h5 with h5 | h5
  · left
    rcases hown.2 with ⟨rfl, rfl⟩ | ⟨g0, rfl, rfl⟩
    · simp [Value.ownBlock] at h5
    · simp only [Value.ownBlock, Option.some.injEq] at h5
      rw [h5]
  · right
    simp only [Value.ownBlock, Option.some.injEq] at h5
    rw [h5]
theorem RowB.base0 {e : TypeId} {size n c : Nat} {A : Option Addr} {xs : List Value} {bs : List Nat} (hown : RowB w e size A n c xs bs) : w.ownsRow 0 e size (.slice A n c) n xs := by
  obtain ⟨⟨lo, hi, ho⟩, _⟩ := hown
  exact (ho.mono (Nat.zero_le lo) (Nat.le_refl hi)).1
/-- append onto a row that the call owns: what lies where. -/
theorem wpList_pushB {ops : Array Oper} {rest : List Oper} {o : Oper} {a : Act} {Q : Exit → Act → World → Prop} (w : World) (s x : Operand) (t : TypeId)
    (e : TypeId) (z : Value) (size bytes : Nat) (ht : P.underlying t = some (.slice e)) (hinfo : (P.info? e).map (fun i => (i.zero, i.size, i.bytes)) = some (some z, size, bytes))
    (hzs : z.cells.size = size) (hsz : 0 < size)
    (A : Option Addr) (n c : Nat) (xs : List Value) (bs : List Nat) (hown : RowB w e size A n c xs bs)
    (g : Nat) (off : Nat) (m c' : Nat) (news : List Value) (hm : 0 < m) (hl : news.length = m * size) (hnews : ∀ j u, news[j]? = some u → w.cell? ⟨g, off + j, none⟩ = some u) (h1 : ∀ u ∈ news, u.oneCell' = true)
    (h63 : n + m ≤ 2147483648) (hbytes : bytes ≤ 4096)
    (h : ∀ A' c' bs' w', RowB w' e size A' (n + m) c' (xs ++ news) bs' → (bs' = bs ∨ bs' = [w.heap.size]) → OnlyIn bs w w' → wpList P ops Q rest (a.put o.dst (.slice A' (n + m) c')) w')
    (hgd : o.guard = none) (ho : o.op = .call { callee := .builtin .append, args := #[s, x], argTypes := #[t, t] }) (hs : a.eval s = .slice A n c) (hx : a.eval x = .slice (some ⟨g, off, none⟩) m c') :
    wpList P ops Q (o :: rest) a w := by
  obtain ⟨i, hi, hz0, hz1, hz2⟩ := info_parts hinfo
  refine wpList_append_own_at w hgd s x t ho 0 e i z size bytes ht hi hz0 hz1 hz2 hzs hsz (.slice A n c) n xs hs hown.base0 ⟨g, off, none⟩ m c' news hx hl ?_ h1 (by unfold maxLen; omega) ?_ (Nat.zero_le _) ?_
  · intro j u hj
    have := hnews j u hj
    unfold Addr.add
    by_cases hj0 : j = 0
    · subst hj0; simpa using this
    · simpa [hj0] using this
  · have : (n + m) * bytes ≤ 2147483648 * 4096 := Nat.mul_le_mul h63 hbytes
    omega
  · intro v' w' h2 h3 _ h5
    obtain ⟨A', c'', bs', rfl, r1, r2, r3⟩ := hown.grown (by omega) h2 h3 h5
    exact h A' c'' bs' w' r1 r2 r3
end
theorem RowB.drewN {w : World} {e : TypeId} {sz : Nat} {A : Option Addr} {n c : Nat} {xs : List Value} {bs : List Nat} (h : RowB w e sz A n c xs bs) (d : Nat) : RowB (w.drewN d) e sz A n c xs bs := h
theorem RowB.allocd {w : World} {e : TypeId} {sz : Nat} {A : Option Addr} {n c : Nat} {xs : List Value} {bs : List Nat} (h : RowB w e sz A n c xs bs) (hl : ∀ b ∈ bs, b < w.heap.size) (o : Obj) : RowB (w.alloc o) e sz A n c xs bs := h.keep fun k hk => Below.heap_alloc w o k (hl k hk)
/-- The same at a step of a region that draws its order. -/
theorem step_pushB {P : Program} {w : World} {ops : Array Oper} {o : Oper} {a : Act} {K : Act → World → Prop} {Q : Exit → Act → World → Prop} {E : Prop} (hgd : o.guard = none) (s x : Operand) (t : TypeId)
    (ho : o.op = .call { callee := .builtin .append, args := #[s, x], argTypes := #[t, t] })
    (e : TypeId) (z : Value) (size bytes : Nat) (ht : P.underlying t = some (.slice e)) (hinfo : (P.info? e).map (fun i => (i.zero, i.size, i.bytes)) = some (some z, size, bytes))
    (hzs : z.cells.size = size) (hsz : 0 < size)
    (A : Option Addr) (n c : Nat) (xs : List Value) (bs : List Nat) (hs : a.eval s = .slice A n c) (hown : RowB w e size A n c xs bs)
    (g : Nat) (off : Nat) (m c' : Nat) (news : List Value) (hx : a.eval x = .slice (some ⟨g, off, none⟩) m c') (hm : 0 < m) (hl : news.length = m * size) (hnews : ∀ j u, news[j]? = some u → w.cell? ⟨g, off + j, none⟩ = some u) (h1 : ∀ u ∈ news, u.oneCell' = true)
    (h63 : n + m ≤ 2147483648) (hbytes : bytes ≤ 4096)
    (h : ∀ A' c' bs' w', RowB w' e size A' (n + m) c' (xs ++ news) bs' → (bs' = bs ∨ bs' = [w.heap.size]) → OnlyIn bs w w' → K (a.put o.dst (.slice A' (n + m) c')) w') :
    if Region.wanted o (yielded ops a.tmps) = true then Oper.wp P o a w K Q else E := by
  obtain ⟨i, hi, hz0, hz1, hz2⟩ := info_parts hinfo
  refine step_append_lies w hgd s x t ho 0 e i z size bytes ht hi hz0 hz1 hz2 hzs hsz (.slice A n c) n xs hs hown.base0 ⟨g, off, none⟩ m c' news hx hl ?_ h1 hm (by unfold maxLen; omega) ?_ (Nat.zero_le _) w.heap.size rfl ?_
  · intro j u hj
    have := hnews j u hj
    unfold Addr.add
    by_cases hj0 : j = 0
    · subst hj0; simpa using this
    · simpa [hj0] using this
  · have : (n + m) * bytes ≤ 2147483648 * 4096 := Nat.mul_le_mul h63 hbytes
    omega
  · intro g' cap w' h2 h3 h5 _
    obtain ⟨A', c'', bs', e', r1, r2, r3⟩ := hown.grown (by omega) h2 h3 (by
      rcases h5 with h5 | h5
      · left; rw [h5]; rfl
      · right; rw [← h5]; rfl)
    injection e' with e1 e2 e3
    subst e1; subst e3
    exact h _ _ bs' w' r1 r2 r3
theorem RowB.made (w : World) (e : TypeId) (sz : Nat) (cs : Array Value) (n : Nat) (hm : n ≤ maxLen) (hs : cs.size = n * sz) : RowB (w.alloc (.cells cs e)) e sz (some ⟨w.heap.size, 0, none⟩) n n cs.toList [w.heap.size] :=
  ⟨⟨0, w.heap.size + 1, OwnR.made w 0 e sz cs n (Nat.zero_le _) hm hs⟩, .inr ⟨_, rfl, rfl⟩⟩
theorem RowB.nil_ (w : World) (e : TypeId) (sz : Nat) : RowB w e sz none 0 0 [] [] := ⟨⟨0, 0, OwnR.empty w 0 0 e sz⟩, .inl ⟨rfl, rfl⟩⟩
theorem RowB.below {w w' : World} {e : TypeId} {sz : Nat} {A : Option Addr} {n c : Nat} {xs : List Value} {bs : List Nat} {B : Nat} (h : RowB w e sz A n c xs bs) (hb : Below B w w') (hB : ∀ b ∈ bs, b < B) : RowB w' e sz A n c xs bs := h.keep fun k hk => hb.block k (hB k hk)
theorem RowB.eqn {w : World} {e : TypeId} {sz : Nat} {A : Option Addr} {n m c : Nat} {xs ys : List Value} {bs : List Nat} (h : RowB w e sz A n c xs bs) (hn : n = m) (hx : xs = ys) : RowB w e sz A m c ys bs := hn ▸ hx ▸ h
/-- The blocks listed are there, as they were. -/
def Kp (bs : List Nat) (wr W : World) : Prop := ∀ b ∈ bs, b < W.heap.size ∧ W.heap[b]? = wr.heap[b]?
theorem Kp.refl {bs : List Nat} {w : World} (h : ∀ b ∈ bs, b < w.heap.size) : Kp bs w w := fun b hb => ⟨h b hb, rfl⟩
theorem Kp.allocd {bs : List Nat} {w W : World} (h : Kp bs w W) (o : Obj) : Kp bs w (W.alloc o) := fun b hb => ⟨by have := (h b hb).1; simp; omega, (Below.heap_alloc W o b (h b hb).1).trans (h b hb).2⟩
theorem Kp.belowd {bs : List Nat} {w W W' : World} (hb : Below W.heap.size W W') (h : Kp bs w W) : Kp bs w W' := fun b hm => ⟨Nat.lt_of_lt_of_le (h b hm).1 hb.size, (hb.block b (h b hm).1).trans (h b hm).2⟩
theorem Kp.drewN {bs : List Nat} {w W : World} (h : Kp bs w W) (d : Nat) : Kp bs w (W.drewN d) := h
theorem Kp.rowB {bs : List Nat} {w W : World} (h : Kp bs w W) {e : TypeId} {sz : Nat} {A : Option Addr} {n c : Nat} {xs : List Value} (hr : RowB w e sz A n c xs bs) : RowB W e sz A n c xs bs := hr.keep fun b hb => (h b hb).2
end Go.Proofs.YtcecgbjolngdbaaGreatDoor
