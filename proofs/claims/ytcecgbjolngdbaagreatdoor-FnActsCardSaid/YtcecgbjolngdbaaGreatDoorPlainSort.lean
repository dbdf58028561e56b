/- Sets as rising lists, plainly; nothing here speaks of a program. -/
import Derived.Test.YtcecgbjolngdbaaGreatDoorPlain
namespace Go.Proofs.YtcecgbjolngdbaaGreatDoor

abbrev SS (l : List Int) : Prop := l.Pairwise (· < ·)
theorem ss_unique : ∀ {a b : List Int}, SS a → SS b → (∀ x, x ∈ a ↔ x ∈ b) → a = b
  | [], [], _, _, _ => rfl
  | [], y :: b, _, _, h => absurd ((h y).2 (by simp)) (by simp)
  | x :: a, [], _, _, h => absurd ((h x).1 (by simp)) (by simp)
  | x :: a, y :: b, ha, hb, h => by
    rw [SS, List.pairwise_cons] at ha hb
    have hxy : x = y := by
      have h1 := (h x).1 (by simp)
      have h2 := (h y).2 (by simp)
      rw [List.mem_cons] at h1 h2
      rcases h1 with h1 | h1
      · exact h1
      · rcases h2 with h2 | h2
        · exact h2.symm
        · have := hb.1 x h1
          have := ha.1 y h2
          omega
    subst hxy
    rw [ss_unique ha.2 hb.2 (fun z => ?_)]
    have hz := h z
    rw [List.mem_cons, List.mem_cons] at hz
    constructor
    · intro hm
      rcases hz.1 (.inr hm) with e | hm'
      · have := ha.1 z hm; omega
      · exact hm'
    · intro hm
      rcases hz.2 (.inr hm) with e | hm'
      · have := hb.1 z hm; omega
      · exact hm'

/-- n is put where it belongs, if it is not there. -/
def putAt (l : List Int) (n : Int) : Nat := (l.takeWhile (fun x => decide (x < n))).length
def putI (l : List Int) (n : Int) : List Int := if hasB l n then l else l.take (putAt l n) ++ [n] ++ l.drop (putAt l n)
theorem putI_mem (l : List Int) (n x : Int) : x ∈ putI l n ↔ x = n ∨ x ∈ l := by
  unfold putI
  split
  · rename_i h
    unfold hasB at h
    rw [decide_eq_true_eq] at h
    constructor
    · exact .inr
    · rintro (rfl | h')
      · exact h
      · exact h'
  · constructor
    · intro hx
      simp only [List.append_assoc, List.mem_append, List.mem_singleton] at hx
      rcases hx with hx | hx | hx
      · exact .inr (List.mem_of_mem_take hx)
      · exact .inl hx
      · exact .inr (List.mem_of_mem_drop hx)
    · intro hx
      simp only [List.append_assoc, List.mem_append, List.mem_singleton]
      rcases hx with hx | hx
      · exact .inr (.inl hx)
      · rw [← List.take_append_drop (putAt l n) l, List.mem_append] at hx
        rcases hx with hx | hx
        · exact .inl hx
        · exact .inr (.inr hx)
theorem putAt_split (l : List Int) (n : Int) (hs : SS l) : (∀ x ∈ l.take (putAt l n), x < n) ∧ (∀ x ∈ l.drop (putAt l n), n ≤ x) := by
  induction l with
  | nil => simp [putAt]
  | cons a l ih =>
    rw [SS, List.pairwise_cons] at hs
    by_cases h : a < n
    · have e : putAt (a :: l) n = putAt l n + 1 := by simp [putAt, h]
      rw [e, List.take_succ_cons, List.drop_succ_cons]
      obtain ⟨h1, h2⟩ := ih hs.2
      refine ⟨fun x hx => ?_, h2⟩
      rw [List.mem_cons] at hx
      rcases hx with rfl | hx
      · exact h
      · exact h1 x hx
    · have e : putAt (a :: l) n = 0 := by simp [putAt, h]
      rw [e, List.take_zero, List.drop_zero]
      refine ⟨by simp, fun x hx => ?_⟩
      rw [List.mem_cons] at hx
      rcases hx with rfl | hx
      · omega
      · have := hs.1 x hx; omega
theorem putI_ss {l : List Int} {n : Int} (hs : SS l) : SS (putI l n) := by
  unfold putI
  split
  · exact hs
  · rename_i h
    obtain ⟨h1, h2⟩ := putAt_split l n hs
    have hn : n ∉ l := by
      intro hm
      exact h (by unfold hasB; rw [decide_eq_true_eq]; exact hm)
    have h2' : ∀ x ∈ l.drop (putAt l n), n < x := by
      intro x hx
      have := h2 x hx
      have : x ≠ n := fun e => hn (e ▸ List.mem_of_mem_drop hx)
      omega
    rw [SS, List.append_assoc, List.pairwise_append]
    refine ⟨hs.sublist (List.take_sublist _ _), ?_, ?_⟩
    · rw [List.singleton_append, List.pairwise_cons]
      exact ⟨h2', hs.sublist (List.drop_sublist _ _)⟩
    · intro x hx y hy
      rw [List.singleton_append, List.mem_cons] at hy
      have := h1 x hx
      rcases hy with rfl | hy
      · omega
      · have := h2' y hy; omega
theorem putI_len (l : List Int) (n : Int) : (putI l n).length ≤ l.length + 1 := by
  unfold putI
  split
  · omega
  · simp; omega
theorem putAt_le (l : List Int) (n : Int) : putAt l n ≤ l.length := (List.takeWhile_sublist _).length_le

def setTo (l : List Int) (k : Nat) : List Int := (l.take k).foldl putI []
def setOf (l : List Int) : List Int := l.foldl putI []
theorem setTo_succ {l : List Int} {k : Nat} (h : k < l.length) : setTo l (k + 1) = putI (setTo l k) (l.getD k 0) := by
  unfold setTo
  rw [take_snoc 0 h, List.foldl_append]
  rfl
theorem setTo_all (l : List Int) {k : Nat} (h : l.length ≤ k) : setTo l k = setOf l := by unfold setTo setOf; rw [List.take_of_length_le h]
theorem setTo_len (l : List Int) (k : Nat) : (setTo l k).length ≤ k := by
  induction k with
  | zero => simp [setTo]
  | succ k ih =>
    by_cases h : k < l.length
    · rw [setTo_succ h]
      have := putI_len (setTo l k) (l.getD k 0)
      omega
    · have e : setTo l (k + 1) = setTo l k := by rw [setTo_all l (by omega), setTo_all l (by omega)]
      rw [e]; omega
theorem fold_ss (l s : List Int) (hs : SS s) : SS (l.foldl putI s) ∧ ∀ x, x ∈ l.foldl putI s ↔ x ∈ l ∨ x ∈ s := by
  induction l generalizing s with
  | nil => exact ⟨hs, by simp⟩
  | cons a l ih =>
    obtain ⟨h1, h2⟩ := ih (putI s a) (putI_ss hs)
    refine ⟨h1, fun x => ?_⟩
    rw [List.foldl_cons, h2 x, putI_mem, List.mem_cons]
    constructor
    · rintro (h | h | h)
      · exact .inl (.inr h)
      · exact .inl (.inl h)
      · exact .inr h
    · rintro ((h | h) | h)
      · exact .inr (.inl h)
      · exact .inl h
      · exact .inr (.inr h)
theorem setOf_ss (l : List Int) : SS (setOf l) := (fold_ss l [] List.Pairwise.nil).1
theorem setOf_mem (l : List Int) (x : Int) : x ∈ setOf l ↔ x ∈ l := by
  have := (fold_ss l [] List.Pairwise.nil).2 x
  simpa [setOf] using this
theorem setOf_len (l : List Int) : (setOf l).length ≤ l.length := by rw [← setTo_all l (Nat.le_refl _)]; exact setTo_len l _
/-- A rising list with the members of l is the set of l. -/
theorem setOf_of {l s : List Int} (hs : SS s) (hm : ∀ x, x ∈ s ↔ x ∈ l) : s = setOf l := ss_unique hs (setOf_ss l) (fun x => by rw [hm, setOf_mem])
theorem setOf_self {s : List Int} (hs : SS s) : setOf s = s := (setOf_of hs (fun _ => Iff.rfl)).symm
end Go.Proofs.YtcecgbjolngdbaaGreatDoor
