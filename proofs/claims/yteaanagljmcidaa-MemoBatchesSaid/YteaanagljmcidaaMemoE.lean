/- memo: what a memo tells, by what it holds. -/
import Derived.Test.YteaanagljmcidaaMemoD
namespace Go.Proofs.Yteaanagljmcidaa
open Go.RowKit

section
variable {w w' : World} {Foot G H : Nat → Prop} {M : Nat} {s : MS}
def ToldL {α : Type} (c : Codec α) (w : World) (l : List α) (x : Ending) (w' : World) : Prop := ∃ v, x = .returned v ∧ Ext w w' ∧ Sl c w' (fun b => w.heap.size ≤ b) v l
theorem OwnedM.told {α : Type} {c : Codec α} {e : TypeId} {l : List α} {x : Ending} (h : OwnedM c e w l x w') (hs : 0 < c.size) (hl : l.length ≤ c.bound) : ToldL c w l x w' := by
  obtain ⟨v, hv, hx, ho⟩ := h
  exact ⟨v, hv, hx, ho.sl hs hl (fun _ hb _ => hb) (fun _ hb _ => hb)⟩
theorem memo_entriesE (h : MmS w Foot M s) {E : List Ent} (he : s.m.map (·.1) = E) (hE : E.length ≤ 1000000) : Calls Try.prog 89 #[.pointer (some ⟨M, 0, none⟩)] w (ToldL entC w E) := by
  subst he
  exact (memo_entries h).mono fun _ _ h => h.told (by decide) (by show _ ≤ 140737488355328; omega)
theorem memo_spansE (h : MmS w Foot M s) {l : List SpanE} (he : s.l = l) (hl : l.length ≤ 1000000) : Calls Try.prog 90 #[.pointer (some ⟨M, 0, none⟩)] w (ToldL spanC w l) := by
  subst he
  exact (memo_spans h hl).mono fun _ _ h => h.told (by decide) (by show _ ≤ 140737488355328; omega)
theorem memo_sizeE (h : MmS w Foot M s) {z : Int} (he : s.sz = z) : Calls Try.prog 84 #[.pointer (some ⟨M, 0, none⟩)] w fun e w' => e = .returned (.int .i64 z) ∧ w = w' := by
  subst he; exact memo_size h
theorem memo_lastE (h : MmS w Foot M s) {n : Nat} (he : s.last = n) : Calls Try.prog 76 #[.pointer (some ⟨M, 0, none⟩)] w fun e w' => e = .returned (.int .u64 (n : Int)) ∧ w = w' := by
  subst he; exact memo_last h
theorem r3_sameEq (w : World) {F G : Nat → Prop} {x y : Value} (a : List Ent) (hx : Sl entC w F x a) (hy : Sl entC w G y a) :
    Calls Try.prog 32 #[x, y] w fun e w' => e = .returned (.bool true) ∧ Ext w w' := by
  have := r3_sameEntries w a a hx hy
  rwa [decide_eq_true rfl] at this
end
end Go.Proofs.Yteaanagljmcidaa
