/- A region that draws its order: what is read stays as it is up to the last operation, for which all others wait. Nothing here speaks of a program. -/
import Derived.Test.YtcecgbjolngdbaaGreatDoorKitPv
import Derived.Deep.RegionHeld3
import Derived.StillTail
namespace Go.Proofs.YtcecgbjolngdbaaGreatDoor
open Go.ChangeShapes Go.WideShapes Go.ChangeAt Go.RowKit
set_option linter.unusedVariables false

section
variable {P : Program} {ops : Array Oper} {Q : Exit → Act → World → Prop} {md : Region.Mode} {S : World → Prop} {n : Nat}
/-- In whatever order: and S holds behind every operation but number n. -/
def AnyTo (P : Program) (md : Region.Mode) (ops : Array Oper) (Q : Exit → Act → World → Prop) (S : World → Prop) (n : Nat) : Nat → Array Bool → Act → World → Prop
  | 0, ls, a, w => Region.ready md ops ls = [] ∧ Q .normal a w
  | f + 1, ls, a, w => (Region.ready md ops ls = [] → Q .normal a w) ∧ ∀ i ∈ Region.ready md ops ls, wpOp P ops Q i (fun a' w' => (i ≠ n → S w') ∧ AnyTo P md ops Q S n f (ls.setIfInBounds i true) a' w') a w
theorem AnyTo.any : ∀ (f : Nat) (ls : Array Bool) (a : Act) (w : World), AnyTo P md ops Q S n f ls a w → wpAny P md ops Q f ls a w
  | 0, _, _, _, h => h
  | f + 1, ls, a, w, h => ⟨h.1, fun i hi => wpOp_mono (fun a' w' r => AnyTo.any f _ a' w' r.2) (h.2 i hi)⟩
theorem waits_not {i : Nat} {ls : Array Bool} (hw : Region.waitsFor md ops n i = true) (hu : ls.getD i true = false) : n ∉ Region.ready md ops ls := fun hr => by
  obtain ⟨on, ho, e, he, hb, hi⟩ := Region.waitsFor_spec hw
  obtain ⟨_, on', ho', hall⟩ := mem_ready.1 hr
  obtain rfl : on = on' := Option.some.inj (ho.symm.trans ho')
  have := hall e he hb
  rw [hi, getD_both hu] at this
  cases this
theorem AnyTo.first {i : Nat} {oi : Oper} {v : Value} (hi : ops[i]? = some oi) (hsel : ∀ (j : Nat) (o : Oper) cs b, ops[j]? = some o → o.op ≠ .select cs b) (hw : Region.waitsFor md ops n i = true)
    (hQ : ∀ c a w, Q (.panic c) (a.put oi.dst v) w → Q (.panic c) a w) : ∀ (f : Nat) (ls : Array Bool) (a : Act) (w : World),
      (∀ j oj, ops[j]? = some oj → j ≠ i → ls.getD j true = false → (∀ e ∈ oj.after, Region.binds md e = true → e.on ≠ i) → oi.apart ops oj = true) →
      i ∈ Region.ready md ops ls → YieldsIf P ops S oi v a → S w → AnyTo P md ops Q S n f (ls.setIfInBounds i true) (a.put oi.dst v) w → AnyTo P md ops Q S n (f + 1) ls a w
  | 0, ls, a, w, _, hr, hy, hS, H => ⟨fun h => (by rw [h] at hr; cases hr), fun j hj => by
      by_cases e : j = i
      · subst e; exact hy.wpOp hi hS ⟨fun _ => hS, H⟩
      · have := ready_mono hj e
        rw [H.1] at this
        cases this⟩
  | f + 1, ls, a, w, hfree, hr, hy, hS, H => ⟨fun h => (by rw [h] at hr; cases hr), fun j hj => by
      by_cases e : j = i
      · subst e; exact hy.wpOp hi hS ⟨fun _ => hS, H⟩
      · have hu := (mem_ready.1 hr).1
        have hjn : j ≠ n := by rintro rfl; exact waits_not hw hu hj
        have H1 := H.2 j (ready_mono hj e)
        obtain ⟨hju, oj, hoj, hall⟩ := mem_ready.1 hj
        have hno : ∀ x ∈ oj.after, Region.binds md x = true → x.on ≠ i := fun x hx hb hxi => by
          have := hall x hx hb
          rw [hxi, getD_both hu] at this
          cases this
        have H2 := wpOp_putIf hoj (hfree j oj hoj e hju hno) (fun cs b => hsel i oi cs b hi) (fun cs b => hsel j oj cs b hoj) hQ hy H1
        refine wpOp_mono (fun a' w' r => ⟨r.2.1, AnyTo.first hi hsel hw hQ f (ls.setIfInBounds j true) a' w' (fun k ok hk hki hku hkn => hfree k ok hk hki ?_ hkn) (ready_mono hr (Ne.symm e)) r.1 (r.2.1 hjn) ?_⟩) H2
        · by_cases hjk : j = k
          · subst hjk; exact hju
          · rwa [getD_set_ne true hjk] at hku
        · rw [Array.setIfInBounds_comm _ _ e]
          exact r.2.2⟩
theorem AnyTo.take {i : Nat} {oi : Oper} {v : Value} {f : Nat} {ls : Array Bool} {a : Act} {w : World} (hi : ops[i]? = some oi) (hs : Region.noSelect ops = true) (hf : Region.free md ops ls i = true)
    (hr : (Region.ready md ops ls).contains i = true) (hw : Region.waitsFor md ops n i = true) (hQ : ∀ c a w, Q (.panic c) (a.put oi.dst v) w → Q (.panic c) a w) (hy : YieldsIf P ops S oi v a) (hS : S w)
    (h : AnyTo P md ops Q S n f (ls.setIfInBounds i true) (a.put oi.dst v) w) : AnyTo P md ops Q S n (f + 1) ls a w :=
  AnyTo.first hi (Region.noSelect_spec hs) hw hQ f ls a w (Region.free_spec hi hf) (by simpa using hr) hy hS h
theorem AnyTo.step {i : Nat} {o : Oper} {f : Nat} {ls : Array Bool} {a : Act} {w : World} (hr : Region.ready md ops ls = [i]) (ho : ops[i]? = some o)
    (h : ∀ K : Act → World → Prop, Shut (∀ a w, (i ≠ n → S w) → ((i ≠ n → S w) → AnyTo P md ops Q S n f (ls.setIfInBounds i true) a w) → K a w) → if Region.wanted o (yielded ops a.tmps) = true then Oper.wp P o a w K Q else K (a.put o.dst undef) w) : AnyTo P md ops Q S n (f + 1) ls a w := by
  refine ⟨fun h0 => (by rw [hr] at h0; cases h0), fun j hj => ?_⟩
  rw [hr] at hj
  obtain rfl : j = i := by simpa using hj
  exact wpOp_step ho (fun K hK => h K (fun a w hS hW => hK a w ⟨hS, hW hS⟩))
theorem AnyTo.done {ls : Array Bool} {a : Act} {w : World} (hr : Region.ready md ops ls = []) (h : Q .normal a w) : ∀ f, AnyTo P md ops Q S n f ls a w
  | 0 => ⟨hr, h⟩
  | _ + 1 => ⟨fun _ => h, by rw [hr]; simp⟩
theorem region_to {id : Nat} {a : Act} {w : World} (S : World → Prop) (n : Nat) (hm : P.follows .mixedOrders = true) (h : AnyTo P .any ops Q S n ops.size (Array.replicate ops.size false) a w.drew) : (Code.region id ops true).wp P Q a w :=
  wp_region_any hm (AnyTo.any _ _ _ _ h)
end
end Go.Proofs.YtcecgbjolngdbaaGreatDoor
