/- append onto a row that the call owns, and the elder slice reads as before. Nothing here speaks of a program. -/
import Derived.Test.YtcecgbjolngdbaaGreatDoorKit
import Derived.Test.YtcecgbjolngdbaaGreatDoorKitIn
import Derived.ArgAppend
import Derived.Deep.DeepAppendRoom
import Derived.Deep.RegionLawGrows
namespace Go.Proofs.YtcecgbjolngdbaaGreatDoor
open Go.ChangeShapes Go.WideShapes Go.ChangeAt Go.RowKit

theorem wpList_pushK {P : Program} {ops : Array Oper} {rest : List Oper} {o : Oper} {a : Act} {Q : Exit → Act → World → Prop} (w : World) (s x : Operand) (t : TypeId)
    (e : TypeId) (z : Value) (size bytes : Nat) (ht : P.underlying t = some (.slice e)) (hinfo : (P.info? e).map (fun i => (i.zero, i.size, i.bytes)) = some (some z, size, bytes))
    (hzs : z.cells.size = size) (hsz : 0 < size)
    (lo hi : Nat) (A : Option Addr) (n c : Nat) (xs : List Value) (hown : OwnR w lo hi e size A n c xs) (hhi : hi ≤ w.heap.size)
    (g : Nat) (off : Nat) (m c' : Nat) (news : List Value) (hm : 0 < m) (hl : news.length = m * size) (hnews : ∀ j u, news[j]? = some u → w.cell? ⟨g, off + j, none⟩ = some u) (h1 : ∀ u ∈ news, u.oneCell' = true)
    (h63 : n + m ≤ 2147483648) (hbytes : bytes ≤ 4096) (hbase : lo ≤ w.heap.size)
    (h : ∀ A' c' w', OwnR w' lo w'.heap.size e size A' (n + m) c' (xs ++ news) → Only lo hi w w' → OwnR w' lo hi e size A n c xs → wpList P ops Q rest (a.put o.dst (.slice A' (n + m) c')) w')
    (hgd : o.guard = none) (ho : o.op = .call { callee := .builtin .append, args := #[s, x], argTypes := #[t, t] }) (hs : a.eval s = .slice A n c) (hx : a.eval x = .slice (some ⟨g, off, none⟩) m c') :
    wpList P ops Q (o :: rest) a w := by
  obtain ⟨i, hi', hz0, hz1, hz2⟩ := info_parts hinfo
  have hnews' : ∀ j u, news[j]? = some u → w.cell? ((⟨g, off, none⟩ : Addr).add j) = some u := by
    intro j u hj
    have := hnews j u hj
    unfold Addr.add
    by_cases hj0 : j = 0
    · subst hj0; simpa using this
    · simpa [hj0] using this
  by_cases hroom : n + m ≤ c ∧ A ≠ none
  · obtain ⟨hroom, hA⟩ := hroom
    rcases hown.form with ⟨rfl, _⟩ | ⟨b, rfl, b1, b2, b3⟩
    · exact absurd rfl hA
    · refine wpList_append_fits w hgd s x t ho lo e i size ht hi' hz1 b n c xs hs hown.1 ⟨g, off, none⟩ m c' news hx hl hnews' h1 hroom ?_
      intro w' hown' hg
      have hO : OwnR w' lo hi e size (some ⟨b, 0, none⟩) (n + m) c (xs ++ news) := ⟨hown', fun a ha => by injection ha with ha; subst ha; exact b2⟩
      refine h _ c w' (hO.mono (Nat.le_refl _) (Nat.le_trans hhi hg.size)) ⟨hg.os, hg.tape, hg.output, hg.size, fun k hk hn => hg.block k hk (by intro hb; injection hb with hb; omega)⟩ ?_
      have hc := hO.cut (m := n) (by omega)
      rwa [List.take_left' hown.len] at hc
  · have hfull : c < n + m ∨ A = none := by
      by_cases h1 : n + m ≤ c
      · right
        apply Decidable.byContradiction
        intro h2
        exact hroom ⟨h1, h2⟩
      · left; omega
    have hfull : c < n + m ∨ (n + m = 0) := by
      rcases hfull with h | h
      · exact .inl h
      · subst h
        rcases hown.form with ⟨_, rfl, rfl⟩ | ⟨b, hb, _⟩
        · omega
        · cases hb
    by_cases hm0 : c < n + m
    · refine wpList_append_grows w hgd s x t ho e i z size bytes ht hi' hz0 hz1 hz2 hzs hsz A n c xs hs (fun hA => ?_) hown.len (fun b hb j u hj => ?_) ⟨g, off, none⟩ m c' news hx hl hnews' h1 hm0 (by unfold maxLen; omega) ?_ ?_
      · subst hA
        rcases hown.form with ⟨_, h2, h3⟩ | ⟨b, hb, _⟩
        · exact ⟨h2, h3⟩
        · cases hb
      · rcases hown.form with ⟨h2, _⟩ | ⟨b', hb', _⟩
        · rw [h2] at hb; cases hb
        · rw [hb'] at hb; injection hb with hb; subst hb; subst hb'
          have hl2 := hown.len
          have hj2 : j < n * size := by
            have := (List.getElem?_eq_some_iff.1 hj).1
            omega
          have := (hown.cellAt j hj2).trans hj
          unfold Addr.add
          by_cases hj0 : j = 0
          · subst hj0; simpa using this
          · simpa [hj0] using this
      · have : (n + m) * bytes ≤ 2147483648 * 4096 := Nat.mul_le_mul h63 hbytes
        omega
      · intro v' w' hown' hg
        obtain ⟨A', c'', rfl⟩ := own_shape hown'
        refine h A' c'' w' ((OwnR.of_own hown').mono hbase (Nat.le_refl _)) ⟨hg.os, hg.tape, hg.output, hg.size, fun k hk hn => hg.block k hk (by simp)⟩ ?_
        exact hown.keep fun k _ hk => hg.block k (by omega) (by simp)
    · omega
/-- The same at a step of a region that draws its order, of a row that is not empty. -/
theorem step_pushK {P : Program} {w : World} {ops : Array Oper} {o : Oper} {a : Act} {K : Act → World → Prop} {Q : Exit → Act → World → Prop} {E : Prop} (hgd : o.guard = none) (s x : Operand) (t : TypeId)
    (ho : o.op = .call { callee := .builtin .append, args := #[s, x], argTypes := #[t, t] })
    (e : TypeId) (z : Value) (size bytes : Nat) (ht : P.underlying t = some (.slice e)) (hinfo : (P.info? e).map (fun i => (i.zero, i.size, i.bytes)) = some (some z, size, bytes))
    (hzs : z.cells.size = size) (hsz : 0 < size)
    (b n c : Nat) (xs : List Value) (hs : a.eval s = .slice (some ⟨b, 0, none⟩) n c) (hown : RowB w e size (some ⟨b, 0, none⟩) n c xs [b])
    (g : Nat) (off : Nat) (m c' : Nat) (news : List Value) (hx : a.eval x = .slice (some ⟨g, off, none⟩) m c') (hm : 0 < m) (hl : news.length = m * size) (hnews : ∀ j u, news[j]? = some u → w.cell? ⟨g, off + j, none⟩ = some u) (h1 : ∀ u ∈ news, u.oneCell' = true)
    (h63 : n + m ≤ 2147483648) (hbytes : bytes ≤ 4096)
    (h : ∀ A' c' bs' w', RowB w' e size A' (n + m) c' (xs ++ news) bs' → (bs' = [b] ∨ ∃ g', bs' = [g'] ∧ w.heap.size ≤ g') → OnlyIn [b] w w' → RowB w' e size (some ⟨b, 0, none⟩) n c xs [b] → K (a.put o.dst (.slice A' (n + m) c')) w') :
    if Region.wanted o (yielded ops a.tmps) = true then Oper.wp P o a w K Q else E := by
  obtain ⟨i, hi, hz0, hz1, hz2⟩ := info_parts hinfo
  have hnews' : ∀ j u, news[j]? = some u → w.cell? ((⟨g, off, none⟩ : Addr).add j) = some u := by
    intro j u hj
    have := hnews j u hj
    unfold Addr.add
    by_cases hj0 : j = 0
    · subst hj0; simpa using this
    · simpa [hj0] using this
  have hbl := hown.lt b (by simp)
  have hO := hown.own (lo := b) (hi := b + 1) (fun x hx => by simp at hx; omega)
  by_cases hroom : n + m ≤ c
  · have hw : Region.wanted o (yielded ops a.tmps) = true := by simp [Region.wanted, hgd]
    rw [if_pos hw]
    refine wp_append_own_spare w s x t ho b e i size ht hi hz1 b n c xs hs hO.1 ⟨g, off, none⟩ m c' news hx hl hnews' h1 hroom ?_
    intro w' hown' hg
    have hN : OwnR w' b (b + 1) e size (some ⟨b, 0, none⟩) (n + m) c (xs ++ news) := ⟨hown', fun a ha => by injection ha with ha; subst ha; show b < b + 1; omega⟩
    refine h _ c [b] w' (RowB.of_some hN) (.inl rfl) ⟨hg.os, hg.tape, hg.output, hg.size, fun k hk hn => hg.block k hk (by intro hb; injection hb with hb; exact hn (by simp [hb]))⟩ ?_
    have hc := hN.cut (m := n) (by omega)
    rw [List.take_left' hown.len] at hc
    exact RowB.of_some hc
  · refine step_append_grows hgd s x t ho e i z size bytes ht hi hz0 hz1 hz2 hzs hsz (some ⟨b, 0, none⟩) n c xs hs (fun hA => by cases hA) hown.len (fun b' hb' j u hj => ?_) ⟨g, off, none⟩ m c' news hx hl hnews' h1 (by omega) (by unfold maxLen; omega) ?_ ?_
    · injection hb' with hb'; subst hb'
      have hl2 := hown.len
      have hj2 : j < n * size := by
        have := (List.getElem?_eq_some_iff.1 hj).1
        omega
      have := (hown.cellAt j hj2).trans hj
      unfold Addr.add
      by_cases hj0 : j = 0
      · subst hj0; simpa using this
      · simpa [hj0] using this
    · have : (n + m) * bytes ≤ 2147483648 * 4096 := Nat.mul_le_mul h63 hbytes
      omega
    · intro v' w' hown' hg
      obtain ⟨A', c'', rfl⟩ := own_shape hown'
      have hN := OwnR.of_own hown'
      obtain ⟨g', rfl, hg1, hg2, _⟩ := hN.some_ (by omega)
      have hold : RowB w' e size (some ⟨b, 0, none⟩) n c xs [b] := hown.keep fun k hk => hg.block k (by simp at hk; omega) (by simp)
      have hO2 : OnlyIn [b] w w' := ⟨hg.os, hg.tape, hg.output, hg.size, fun k hk hn => hg.block k hk (by simp)⟩
      exact h _ _ [g'] w' (RowB.of_some hN) (.inr ⟨g', rfl, hg1⟩) hO2 hold
end Go.Proofs.YtcecgbjolngdbaaGreatDoor
