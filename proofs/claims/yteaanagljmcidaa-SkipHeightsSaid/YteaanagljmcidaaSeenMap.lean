/- A map[string]bool that holds the names that have been seen. -/
import Derived.Test.YteaanagljmcidaaLeaf2
import Derived.Maps.OwnOps
import Derived.Maps.OwnSet
import Derived.Maps.Views
namespace Go.Proofs.Yteaanagljmcidaa
open Go.RowKit
open Go.Maps (Keyed string_keyed)
set_option maxRecDepth 100000

def Seen (w : World) (b : Nat) (names : List (List UInt8)) : Prop :=
  ∃ D : DataW Unit, w.ownsMap Try.prog 9 (plainElem (H := Unit) Try.prog 4) b names.length D ∧ ∀ s, D.atKey (.string s) (.lit (.bool false)) = .lit (.bool (decide (s ∈ names)))

theorem seen_make (w : World) : Seen (w.alloc (.map #[] 0)) w.heap.size [] :=
  ⟨.map [], World.ownsMap_made w _ _ _, fun s => by simp [DataW.atKey]⟩

theorem Seen.out {w w' : World} {S : Nat → Prop} {b : Nat} {names : List (List UInt8)} (h : Seen w b names) (ho : Out S w w') (hs : ¬ S b) : Seen w' b names := by
  obtain ⟨D, ⟨es, clock, hb, hr⟩, hD⟩ := h
  exact ⟨D, ⟨es, clock, ho.blk hb hs, hr⟩, hD⟩
theorem Seen.ext {w w' : World} {b : Nat} {names : List (List UInt8)} (h : Seen w b names) (ho : Ext w w') : Seen w' b names := h.out ho fun f => f
theorem Seen.lt {w : World} {b : Nat} {names : List (List UInt8)} (h : Seen w b names) : b < w.heap.size := by
  obtain ⟨D, ⟨es, clock, hb, hr⟩, hD⟩ := h
  exact blk_lt hb

theorem key_of (s : List UInt8) (hs : s.length ≤ 1000) : keyOf Try.prog 9 (.string (strOf s)) = some (.string s) := by
  have h1 : (strOf s).size ≤ maxLen := by
    have : (strOf s).size = s.length := by simp [strOf, ByteArray.size]
    rw [this]; unfold maxLen; omega
  rw [keyOf_string Try.underlying9]
  simp [mapKey, Try.underlying9, strOf]
  exact h1

theorem bool_inv {v : Value} {x : Bool} {ps : List MemPlace} (h : plainElem (H := Unit) Try.prog 4 v = some (.lit (.bool x), ps)) : v = .bool x := by
  unfold plainElem at h
  rw [Try.underlying4] at h
  cases v <;> simp at h
  exact congrArg Value.bool h.1

theorem zero4 (w : World) : (zeroValue 4).run Try.prog w = .ok (.bool false) w := by kernel_rfl

theorem Seen.look {w : World} {b : Nat} {names : List (List UInt8)} (h : Seen w b names) (s : List UInt8) (hs : s.length ≤ 1000) : (Instr.lookup 42 (.map (some b)) (.string (strOf s)) false).run Try.prog w = .ok (.bool (decide (s ∈ names))) w := by
  obtain ⟨D, ho, hD⟩ := h
  obtain ⟨v, ps, hr, hv⟩ := ho.lookup (string_keyed Try.underlying9) Try.underlying42 (zero4 w) (plainElem_bool Try.underlying4 false) (key_of s hs)
  rw [hD s] at hv
  rw [hr, bool_inv hv]

theorem Seen.put {w : World} {b : Nat} {names : List (List UInt8)} (h : Seen w b names) (s : List UInt8) (hs : s.length ≤ 1000) (hn : names.length < 1000) : ∃ w', (Instr.mapUpdate 42 (.map (some b)) (.string (strOf s)) (.bool true)).run Try.prog w = .ok () w' ∧ Seen w' b (s :: names) ∧ Out (fun k => k = b) w w' := by
  obtain ⟨D, ho, hD⟩ := h
  obtain ⟨w', hr, h1, h2⟩ := ho.update (string_keyed Try.underlying9) Try.underlying42 (by unfold maxLen; omega) (key_of s hs) (plainElem_bool Try.underlying4 true)
  refine ⟨w', hr, ⟨_, h1, fun t => ?_⟩, ⟨h2.os, h2.tape, h2.output, h2.size, fun k hk hne => h2.block k hk (fun e => hne (by injection e))⟩⟩
  by_cases ht : t = s
  · subst ht
    rw [Maps.atKey_put_same ho.isMap (by simp [WideAt.IsKeyLit])]; simp
  · rw [Maps.atKey_put_other (by simpa using ht), hD t]
    simp [ht]
end Go.Proofs.Yteaanagljmcidaa
