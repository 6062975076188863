/- law15: numbers of an argument, cut; what is kept of what the laws look at. -/
import Derived.Test.YteaanagljmcidaaPkJ
namespace Go.Proofs.Yteaanagljmcidaa
open Go.RowKit

theorem u64_ofA {w : World} {F : Nat → Prop} {A : Option Addr} {n cap : Nat} {l : List UInt64} (h : Sl u64CA w F (.slice A n cap) l) (k : Nat) (hk : k ≤ l.length) (hk8 : k ≤ 8) : Sl u64C w F (.slice A k cap) (l.take k) := by
  have h1 := h.take k hk
  obtain ⟨A', cap', hv, g1, g2, g3, g4, g5⟩ := h1
  have hl : (l.take k).length = k := List.length_take_of_le hk
  exact ⟨A', cap', hv, g1, g2, by rw [hl]; show k ≤ 140737488355328; omega, g4, g5⟩
end Go.Proofs.Yteaanagljmcidaa
