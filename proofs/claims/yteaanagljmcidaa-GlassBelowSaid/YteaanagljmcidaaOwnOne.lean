/- A list of one, as a literal is laid. -/
import Derived.Test.YteaanagljmcidaaPkA
namespace Go.Proofs.Yteaanagljmcidaa
open Go.RowKit

/-- A list of one, as a literal is laid, is owned. -/
theorem own_oneG {α : Type} {c : Codec α} {e : TypeId} {w : World} {B g : Nat} {F : Nat → Prop} {cs : Array Value} (hb : w.heap[g]? = some (.cells cs e)) (hB : B ≤ g) (hsz : cs.size = c.size) (y : α) (hr : c.rep w (fun b => F b ∧ b ≠ g) cs.toList y) : Own c e w B F (.slice (some ⟨g, 0, none⟩) 1 1) [y] := by
  refine ⟨cs.toList, ⟨by simp [hsz], .inr ⟨g, 1, cs, rfl, hB, hb, Nat.le_refl _, by unfold maxLen; omega, by rw [hsz, Nat.one_mul], by rw [List.length_singleton, Nat.one_mul, List.take_of_length_le (by simp [hsz])]⟩⟩, fun i hi => ?_⟩
  obtain rfl : i = 0 := by simp only [List.length_singleton] at hi; omega
  refine ⟨cs.toList, fun j _ => by rw [Nat.zero_mul, Nat.zero_add], ?_⟩
  exact c.mono hr fun b hb _ => ⟨hb.1, fun e => hb.2 (by injection e with e; exact e.symm)⟩
end Go.Proofs.Yteaanagljmcidaa
