/- A list cut into four parts. -/
import Derived.Test.YteaanagljmcidaaMergeSelfP
namespace Go.Proofs.Yteaanagljmcidaa
open Go.RowKit

theorem sorted_ext : ∀ {a b : List Ent}, SortedE a → SortedE b → (∀ x, x ∈ a ↔ x ∈ b) → a = b
  | [], [], _, _, _ => rfl
  | [], y :: b, _, _, h => absurd ((h y).2 List.mem_cons_self) (by simp)
  | x :: a, [], _, _, h => absurd ((h x).1 List.mem_cons_self) (by simp)
  | x :: a, y :: b, ha, hb, h => by
    obtain ⟨ha1, ha2⟩ := List.pairwise_cons.1 ha
    obtain ⟨hb1, hb2⟩ := List.pairwise_cons.1 hb
    have hxy : x = y := by
      rcases List.mem_cons.1 ((h x).1 List.mem_cons_self) with e | hx
      · exact e
      · rcases List.mem_cons.1 ((h y).2 List.mem_cons_self) with e | hy
        · exact e.symm
        · exact absurd (kcmp_trans (ha1 y hy) (hb1 x hx)) (kcmp_irrefl _)
    subst hxy
    congr 1
    refine sorted_ext ha2 hb2 fun z => ⟨fun hz => ?_, fun hz => ?_⟩
    · rcases List.mem_cons.1 ((h z).1 (List.mem_cons_of_mem _ hz)) with e | hz'
      · subst e; exact absurd (ha1 z hz) (kcmp_irrefl _)
      · exact hz'
    · rcases List.mem_cons.1 ((h z).2 (List.mem_cons_of_mem _ hz)) with e | hz'
      · subst e; exact absurd (hb1 z hz) (kcmp_irrefl _)
      · exact hz'

/-- Part k of the first i. -/
def part (S : List Ent) (f : Nat → Nat) : Nat → Nat → List Ent
  | 0, _ => []
  | i + 1, k => if h : i < S.length then (if f i = k then part S f i k ++ [S[i]] else part S f i k) else part S f i k
theorem part_sub (S : List Ent) (f : Nat → Nat) (k : Nat) : ∀ i, (part S f i k).Sublist (S.take i)
  | 0 => by simp [part]
  | i + 1 => by
    have ih := part_sub S f k i
    unfold part
    by_cases h : i < S.length
    · rw [dif_pos h, List.take_succ_eq_append_getElem h]
      split
      · exact List.Sublist.append ih (List.Sublist.refl _)
      · exact ih.trans (List.sublist_append_left _ _)
    · rw [dif_neg h]
      have : S.take (i + 1) = S.take i := by rw [List.take_of_length_le (by omega), List.take_of_length_le (by omega)]
      rw [this]; exact ih
theorem part_sorted {S : List Ent} (h : SortedE S) (f : Nat → Nat) (i k : Nat) : SortedE (part S f i k) := (List.Pairwise.sublist (List.take_sublist i S) h).sublist (part_sub S f k i)
theorem part_le (S : List Ent) (f : Nat → Nat) (i k : Nat) : (part S f i k).length ≤ S.length := by
  have h1 := (part_sub S f k i).length_le
  rw [List.length_take] at h1; omega
theorem part_mem (S : List Ent) (f : Nat → Nat) : ∀ i j (hj : j < S.length), j < i → S[j] ∈ part S f i (f j)
  | 0, _, _, h => absurd h (by omega)
  | i + 1, j, hj, h => by
    unfold part
    by_cases hi : i < S.length
    · rw [dif_pos hi]
      by_cases e : j = i
      · subst e; rw [if_pos rfl]; simp
      · have ih := part_mem S f i j hj (by omega)
        split
        · exact List.mem_append_left _ ih
        · exact ih
    · rw [dif_neg hi]; exact part_mem S f i j hj (by omega)
def parts4 (S : List Ent) (f : Nat → Nat) (i : Nat) : List (List Ent) := [part S f i 0, part S f i 1, part S f i 2, part S f i 3]
theorem parts4_mem {S : List Ent} {f : Nat → Nat} {i : Nat} {l : List Ent} (h : l ∈ parts4 S f i) : ∃ k, l = part S f i k := by
  simp only [parts4, List.mem_cons, List.not_mem_nil, or_false] at h
  rcases h with h | h | h | h
  · exact ⟨0, h⟩
  · exact ⟨1, h⟩
  · exact ⟨2, h⟩
  · exact ⟨3, h⟩
theorem mem_parts4 {S : List Ent} {f : Nat → Nat} {i k : Nat} (hk : k < 4) : part S f i k ∈ parts4 S f i := by
  rcases (show k = 0 ∨ k = 1 ∨ k = 2 ∨ k = 3 by omega) with rfl | rfl | rfl | rfl <;> simp [parts4]
theorem allE_parts {S : List Ent} (h : SortedE S) (f : Nat → Nat) (hf : ∀ j, f j < 4) : allE (parts4 S f S.length) = S := by
  have hin : ∀ x, x ∈ allE (parts4 S f S.length) → x ∈ S := fun x hx => by
    obtain ⟨l, hl, hxl⟩ := mem_allE hx
    obtain ⟨k, rfl⟩ := parts4_mem hl
    exact List.mem_of_mem_take ((part_sub S f k _).subset hxl)
  refine sorted_ext (allE_sorted _) h fun x => ⟨hin x, fun hx => ?_⟩
  obtain ⟨j, hj, rfl⟩ := List.mem_iff_getElem.1 hx
  obtain ⟨y, hy, hk⟩ := (keys_allE (parts4 S f S.length) S[j].key).2 ⟨_, mem_parts4 (hf j), S[j], part_mem S f _ j hj hj, rfl⟩
  obtain ⟨j', hj', rfl⟩ := List.mem_iff_getElem.1 (hin y hy)
  have : j' = j := by
    rcases Nat.lt_trichotomy j' j with h1 | h1 | h1
    · have := h.lt hj' hj h1; rw [hk] at this; exact absurd this (kcmp_irrefl _)
    · exact h1
    · have := h.lt hj hj' h1; rw [hk] at this; exact absurd this (kcmp_irrefl _)
  subst this
  exact hy
end Go.Proofs.Yteaanagljmcidaa
