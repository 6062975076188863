/- How many stand ahead. -/
import Derived.Test.YteaanagljmcidaaKeys2
import Derived.Test.YteaanagljmcidaaOrder
namespace Go.Proofs.Yteaanagljmcidaa
open Go.RowKit

/-- How many are ahead. -/
def aheadN (es : List Ent) (k : Key) : Nat := (es.filter fun e => kless e.key k).length
/-- Of a list in order: what is ahead stands in front. -/
theorem take_filter {α : Type} (p : α → Bool) : ∀ {l : List α}, l.Pairwise (fun a b => p b = true → p a = true) → l.take (l.filter p).length = l.filter p ∧ l.drop (l.filter p).length = l.filter fun x => !p x
  | [], _ => by simp
  | x :: l, h => by
    obtain ⟨h1, h2⟩ := List.pairwise_cons.1 h
    obtain ⟨i1, i2⟩ := take_filter p h2
    by_cases hp : p x = true
    · simp only [List.filter_cons, hp, if_true, List.length_cons, List.take_succ_cons, List.drop_succ_cons, i1, i2]; simp
    · have hn : l.filter p = [] := List.filter_eq_nil_iff.2 fun y hy hpy => hp (h1 y hy hpy)
      have ha : l.filter (fun x => !p x) = l := List.filter_eq_self.2 fun y hy => by
        have : ¬ p y = true := fun hpy => hp (h1 y hy hpy)
        simpa using this
      simp only [List.filter_cons, hp]
      simp [hn, ha]
theorem aheadN_le (es : List Ent) (k : Key) : aheadN es k ≤ es.length := List.length_filter_le _ _
theorem aheadN_succ {es : List Ent} {i : Nat} (h : i < es.length) (k : Key) : aheadN (es.take (i + 1)) k = aheadN (es.take i) k + if kless es[i].key k = true then 1 else 0 := by
  unfold aheadN
  rw [List.take_succ_eq_append_getElem h, List.filter_append, List.length_append]
  by_cases hc : kless es[i].key k = true <;> simp [hc]
end Go.Proofs.Yteaanagljmcidaa
