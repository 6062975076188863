/- A list put together with itself. -/
import Derived.Test.YteaanagljmcidaaMePure
namespace Go.Proofs.Yteaanagljmcidaa
open Go.RowKit

theorem addE_there {P : List Ent} {e : Ent} (h : ∃ x ∈ P, x.key = e.key) : addE P e = P := by unfold addE; rw [if_pos (any_hasK.2 h)]
theorem addAll_there : ∀ {L P : List Ent}, (∀ e ∈ L, ∃ x ∈ P, x.key = e.key) → addAll P L = P
  | [], _, _ => rfl
  | e :: L, P, h => by
    show addAll (addE P e) L = P
    rw [addE_there (h e List.mem_cons_self)]
    exact addAll_there fun x hx => h x (List.mem_cons_of_mem _ hx)
theorem addE_last {P : List Ent} {e : Ent} (h : ∀ x ∈ P, kcmp x.key e.key < 0) : addE P e = P ++ [e] := by
  have hn : ¬ P.any (hasK e.key) = true := fun hh => by
    obtain ⟨x, hx, hk⟩ := any_hasK.1 hh
    exact kcmp_irrefl e.key (hk ▸ h x hx)
  have ha : aheadN P e.key = P.length := by
    unfold aheadN
    rw [List.filter_eq_self.2 fun x hx => by rw [kless_eq]; simpa using h x hx]
  unfold addE
  rw [if_neg hn, ha, List.take_length, List.drop_length]
theorem addAll_sortedL : ∀ {L P : List Ent}, SortedE (P ++ L) → addAll P L = P ++ L
  | [], P, _ => by simp [addAll]
  | e :: L, P, h => by
    show addAll (addE P e) L = _
    have h1 : ∀ x ∈ P, kcmp x.key e.key < 0 := fun x hx => (List.pairwise_append.1 h).2.2 x hx e List.mem_cons_self
    rw [addE_last h1]
    have e2 : P ++ e :: L = (P ++ [e]) ++ L := by simp
    rw [e2] at h ⊢
    exact addAll_sortedL h
theorem allE_one {S : List Ent} (h : SortedE S) : addAll [] S = S := by have := addAll_sortedL (P := []) (L := S) (by simpa using h); simpa using this
/-- n times a list and nothing. -/
def selfs (S : List Ent) : Nat → List (List Ent)
  | 0 => []
  | n + 1 => selfs S n ++ [S, []]
theorem selfs_length (S : List Ent) : ∀ n, (selfs S n).length = 2 * n
  | 0 => rfl
  | n + 1 => by show (selfs S n ++ [S, []]).length = _; rw [List.length_append, selfs_length S n]; simp; omega
theorem selfs_mem {S l : List Ent} : ∀ {n : Nat}, l ∈ selfs S n → l = S ∨ l = []
  | 0, h => absurd h (by simp [selfs])
  | n + 1, h => by
    rcases List.mem_append.1 h with h | h
    · exact selfs_mem h
    · simpa using h
theorem allE_selfs {S : List Ent} (h : SortedE S) : ∀ n, allE (selfs S (n + 1)) = S
  | 0 => by
    show allE ([] ++ [S, []]) = S
    have : allE [S, []] = addAll (addAll [] S) [] := by unfold allE; simp [addAll]
    rw [List.nil_append, this, allE_one h]; rfl
  | n + 1 => by
    have e : selfs S (n + 1 + 1) = (selfs S (n + 1) ++ [S]) ++ [[]] := by show selfs S (n + 1) ++ [S, []] = _; simp
    rw [e, allE_snoc, allE_snoc, allE_selfs h n]
    show addAll S S = S
    exact addAll_there fun e he => ⟨e, he, rfl⟩
theorem sum_leM {ls : List (List Ent)} {n : Nat} (h : ∀ l ∈ ls, l.length ≤ n) : ls.flatten.length ≤ ls.length * n := by
  induction ls with
  | nil => simp
  | cons l ls ih =>
    have h1 := h l List.mem_cons_self
    have h2 := ih fun x hx => h x (List.mem_cons_of_mem _ hx)
    simp only [List.flatten_cons, List.length_append, List.length_cons, Nat.add_mul, Nat.one_mul] at h2 ⊢
    omega
end Go.Proofs.Yteaanagljmcidaa
