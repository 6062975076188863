/- merge: the steps, by the place in the one list. -/
import Derived.Test.YteaanagljmcidaaMeNew
namespace Go.Proofs.Yteaanagljmcidaa
open Go.RowKit

/-- At a place of the one list; below 0 or behind its end: nowhere. -/
def atI (ls : List (List Ent)) (i : Int) : Option Key := if i < 0 then none else keyIx ls i.toNat
variable {w w' : World} {F G : Nat → Prop} {C : Nat} {v : Value} {ls : List (List Ent)} {o : Option Key} {k : Key}
theorem atI_nat (ls : List (List Ent)) (i : Nat) : atI ls i = keyIx ls i := by unfold atI; rw [if_neg (by omega), Int.toNat_natCast]
theorem atI_neg (ls : List (List Ent)) {i : Int} (h : i < 0) : atI ls i = none := by unfold atI; rw [if_pos h]
theorem atI_pred (ls : List (List Ent)) (n : Nat) : (if n = 0 then none else keyIx ls (n - 1)) = atI ls ((n : Int) - 1) := by
  by_cases h : n = 0
  · rw [if_pos h, atI_neg _ (by omega)]
  · rw [if_neg h]; unfold atI; rw [if_neg (by omega)]; congr 1; omega
theorem atI_some (ls : List (List Ent)) (i : Int) : (atI ls i).isSome = decide (0 ≤ i ∧ i < (allE ls).length) := by
  unfold atI
  split
  · simp; omega
  · rw [keyIx_some]; rw [decide_eq_decide]; omega
/-- A step's answer and what it leaves. -/
def Stepped (w : World) (F : Nat → Prop) (C : Nat) (v : Value) (ls : List (List Ent)) (i : Int) (e : Ending) (w' : World) : Prop :=
  e = .returned (.bool (decide (0 ≤ i ∧ i < (allE ls).length))) ∧ Out (hot C v) w w' ∧ Cur w' F C v ls (atI ls i)
theorem at_first (hs : ∀ l ∈ ls, SortedE l) (h : Cur w F C v ls o) : Calls Try.prog 50 #[.pointer (some ⟨C, 0, none⟩)] w (Stepped w F C v ls 0) := by
  have := me_first h hs
  rw [from_first, show keyIx ls 0 = atI ls 0 from (atI_nat ls 0).symm, atI_some] at this
  exact this
theorem at_last (hs : ∀ l ∈ ls, SortedE l) (h : Cur w F C v ls o) : Calls Try.prog 51 #[.pointer (some ⟨C, 0, none⟩)] w (Stepped w F C v ls ((allE ls).length - 1)) := by
  have := me_last h hs
  rw [ahead_last, atI_pred, atI_some] at this
  exact this
theorem at_from (hs : ∀ l ∈ ls, SortedE l) (h : Cur w F C v ls o) {x : Value} (hu : Bs w G x k.user) (hG : ∀ b, v.ownBlock = some b → ¬ G b) : Calls Try.prog 52 #[.pointer (some ⟨C, 0, none⟩), .agg #[x, u64V k.seq, byteV k.kind]] w (Stepped w F C v ls (aheadN (allE ls) k)) := by
  have := me_from h hs hu hG
  rw [from_at, ← atI_nat, atI_some] at this
  exact this
theorem at_before (hs : ∀ l ∈ ls, SortedE l) (h : Cur w F C v ls o) {x : Value} (hu : Bs w G x k.user) (hG : ∀ b, v.ownBlock = some b → ¬ G b) : Calls Try.prog 54 #[.pointer (some ⟨C, 0, none⟩), .agg #[x, u64V k.seq, byteV k.kind]] w (Stepped w F C v ls ((aheadN (allE ls) k : Int) - 1)) := by
  have := me_before h hs hu hG
  rw [ahead_at, atI_pred, atI_some] at this
  exact this
theorem at_next (hs : ∀ l ∈ ls, SortedE l) {i : Nat} (hi : i < (allE ls).length) (h : Cur w F C v ls (atI ls i)) : Calls Try.prog 55 #[.pointer (some ⟨C, 0, none⟩)] w (Stepped w F C v ls (i + 1)) := by
  rw [atI_nat, keyIx_lt hi] at h
  have := me_next h hs
  rw [from_next hi, ← atI_nat, atI_some, show ((i + 1 : Nat) : Int) = (i : Int) + 1 by omega] at this
  exact this
theorem at_prev (hs : ∀ l ∈ ls, SortedE l) {i : Nat} (hi : i < (allE ls).length) (h : Cur w F C v ls (atI ls i)) : Calls Try.prog 56 #[.pointer (some ⟨C, 0, none⟩)] w (Stepped w F C v ls ((i : Int) - 1)) := by
  rw [atI_nat, keyIx_lt hi] at h
  have := me_prev h hs
  rw [ahead_prev hi, atI_pred, atI_some] at this
  exact this
theorem at_here (hs : ∀ l ∈ ls, SortedE l) {i : Nat} (hi : i < (allE ls).length) (h : Cur w F C v ls (atI ls i)) : Calls Try.prog 57 #[.pointer (some ⟨C, 0, none⟩)] w (ToldM w (some (allE ls)[i])) := by
  rw [atI_nat] at h; exact me_hereAt hs hi h
theorem atI_out {i : Int} (h : i < 0 ∨ (allE ls).length ≤ i) : atI ls i = none := by
  rcases h with h | h
  · exact atI_neg _ h
  · unfold atI; rw [if_neg (by omega)]; exact keyIx_ge (by omega)
theorem at_hereNo {i : Int} (hi : i < 0 ∨ (allE ls).length ≤ i) (h : Cur w F C v ls (atI ls i)) : Calls Try.prog 57 #[.pointer (some ⟨C, 0, none⟩)] w (ToldM w none) := by
  rw [atI_out hi] at h; exact me_hereNo h
theorem at_nextNo {i : Int} (hi : i < 0 ∨ (allE ls).length ≤ i) (h : Cur w F C v ls (atI ls i)) : Calls Try.prog 55 #[.pointer (some ⟨C, 0, none⟩)] w fun e w' => e = .returned (.bool false) ∧ w' = w := by
  rw [atI_out hi] at h; exact me_nextNo h
theorem at_prevNo {i : Int} (hi : i < 0 ∨ (allE ls).length ≤ i) (h : Cur w F C v ls (atI ls i)) : Calls Try.prog 56 #[.pointer (some ⟨C, 0, none⟩)] w fun e w' => e = .returned (.bool false) ∧ w' = w := by
  rw [atI_out hi] at h; exact me_prevNo h
theorem Stepped.yes {i : Int} {e : Ending} (h : Stepped w F C v ls i e w') (hi : 0 ≤ i ∧ i < (allE ls).length) : e = .returned (.bool true) ∧ Out (hot C v) w w' ∧ Cur w' F C v ls (atI ls i) := by
  obtain ⟨h1, h2, h3⟩ := h
  rw [decide_eq_true hi] at h1
  exact ⟨h1, h2, h3⟩
theorem Stepped.no {i : Int} {e : Ending} (h : Stepped w F C v ls i e w') (hi : ¬ (0 ≤ i ∧ i < (allE ls).length)) : e = .returned (.bool false) ∧ Out (hot C v) w w' ∧ Cur w' F C v ls (atI ls i) := by
  obtain ⟨h1, h2, h3⟩ := h
  rw [decide_eq_false hi] at h1
  exact ⟨h1, h2, h3⟩
theorem at_hereE (hs : ∀ l ∈ ls, SortedE l) {i : Nat} {e : Ent} (he : (allE ls)[i]? = some e) (h : Cur w F C v ls (atI ls i)) : Calls Try.prog 57 #[.pointer (some ⟨C, 0, none⟩)] w (ToldM w (some e)) := by
  obtain ⟨hi, rfl⟩ := List.getElem?_eq_some_iff.1 he
  exact at_here hs hi h
/-- A new cursor, of lists in order. -/
theorem new_ok {x : Value} (hx : Sl lstC w F x ls) (hls : ls.length ≤ 1000) (hll : ∀ l ∈ ls, l.length ≤ 1000) (hs : ∀ l ∈ ls, SortedE l) :
    Calls Try.prog 47 #[x] w fun e w' => Ext w w' ∧ ∃ C v, e = .returned (.tuple #[.pointer (some ⟨C, 0, none⟩), .int .i64 0]) ∧ Cur w' (fun b => w.heap.size ≤ b ∧ b ≠ C ∧ v.ownBlock ≠ some b) C v ls none ∧ (∀ b, hot C v b → w.heap.size ≤ b) :=
  (me_new hx hls hll).mono fun e w' h => ⟨h.1, h.2.1 hs⟩
end Go.Proofs.Yteaanagljmcidaa
