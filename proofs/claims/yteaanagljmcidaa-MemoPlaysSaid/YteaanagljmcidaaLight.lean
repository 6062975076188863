/- What merge's texts take from the skip list's, under names of their own. -/
import Derived.Test.YteaanagljmcidaaMem2
import Derived.Test.YteaanagljmcidaaKeys
namespace Go.Proofs.Yteaanagljmcidaa
open Go.RowKit

theorem Own.baseM {α : Type} {c : Codec α} {e : TypeId} {w : World} {B B' : Nat} {G : Nat → Prop} {v : Value} {l : List α} (h : Own c e w B G v l) (hB : B' ≤ B) : Own c e w B' G v l := by
  obtain ⟨xs, ⟨h1, h2⟩, he⟩ := h
  refine ⟨xs, ⟨h1, ?_⟩, he⟩
  rcases h2 with h2 | ⟨g, cap, cur, h3, h4, h5⟩
  · exact .inl h2
  · exact .inr ⟨g, cap, cur, h3, Nat.le_trans hB h4, h5⟩
/-- A list of the call's own comes back. -/
def OwnedM {α : Type} (c : Codec α) (e : TypeId) (w : World) (l : List α) (x : Ending) (w' : World) : Prop := ∃ v, x = .returned v ∧ Ext w w' ∧ Own c e w' w.heap.size (fun b => w.heap.size ≤ b) v l
def zeroM : Ent := ⟨⟨[], 0, 0⟩, []⟩
/-- An entry of its own comes back, or none. -/
def ToldM (w : World) (o : Option Ent) (x : Ending) (w' : World) : Prop :=
  ∃ u v, x = .returned (.tuple #[.agg #[u, u64V (o.getD zeroM).key.seq, byteV (o.getD zeroM).key.kind, v], .bool o.isSome]) ∧ Ext w w' ∧ Bs w' (fun b => w.heap.size ≤ b) u (o.getD zeroM).key.user ∧ Bs w' (fun b => w.heap.size ≤ b) v (o.getD zeroM).value
theorem toldM_none (w w' : World) (h : Ext w w') : ToldM w none (.returned (.tuple #[.agg #[.slice none 0 0, .int .u64 0, .int .u8 0, .slice none 0 0], .bool false])) w' :=
  ⟨_, _, rfl, h, Sl.nil _ _ _, Sl.nil _ _ _⟩
theorem Sl.belowM {α : Type} {c : Codec α} {w : World} {F : Nat → Prop} {v : Value} {l : List α} (h : Sl c w F v l) (hs : 0 < c.size) : Sl c w (fun b => F b ∧ b < w.heap.size) v l := h.mono (fun _ hb hl => ⟨hb, hl⟩) (.inl hs)
theorem Sl.dropM {α : Type} {c : Codec α} {w : World} {F : Nat → Prop} {A : Option Addr} {n cap : Nat} {l : List α} (h : Sl c w F (.slice A n cap) l) (k : Nat) (hk : k ≤ l.length) : Sl c w F (.slice (if cap = k then A else A.map (·.add (k * c.size))) (n - k) (cap - k)) (l.drop k) := by
  obtain ⟨A', cap', hv, h1, h2, h3, h4, h5⟩ := h
  injection hv with e1 e2 e3
  subst e1 e2 e3
  refine ⟨_, _, by rw [List.length_drop], by rw [List.length_drop]; omega, by omega, by rw [List.length_drop]; omega, fun hn => ?_, fun i hi => ?_⟩
  · by_cases he : cap = k
    · omega
    · rw [if_neg he] at hn
      have := h4 (Option.map_eq_none_iff.1 hn); omega
  · rw [List.length_drop] at hi
    obtain ⟨b, off, cs, hA, hb, hat, hr⟩ := h5 (k + i) (by omega)
    refine ⟨b, off + k * c.size, cs, ?_, hb, ?_, by rw [List.getElem_drop]; exact hr⟩
    · rw [if_neg (by omega), hA]; simp [Addr.add]
    · have e : off + k * c.size + i * c.size = off + (k + i) * c.size := by rw [Nat.add_mul, Nat.add_assoc]
      rw [e]; exact hat
def icheckM (k : Key) : Int := icheckI k.seq.toNat k.kind.toNat k.user.length
theorem key_checkM (w : World) {F : Nat → Prop} {u : Value} (k : Key) (hu : Bs w F u k.user) : Calls Try.prog 102 #[.agg #[u, u64V k.seq, byteV k.kind]] w fun e w' => e = .returned (.int .i64 (icheckM k)) ∧ Ext w w' := by
  obtain ⟨A, cap, rfl, _⟩ := hu.form
  exact r3_checkI w A k.user.length cap k.seq.toNat k.kind.toNat (by omega)
end Go.Proofs.Yteaanagljmcidaa
