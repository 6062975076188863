/- The order of versions. -/
import Derived.Test.YteaanagljmcidaaKeys2
namespace Go.Proofs.Yteaanagljmcidaa

theorem bcmp_swap : ∀ a b, bcmp b a = - bcmp a b
  | [], [] => by simp [bcmp]
  | [], _ :: _ => by simp [bcmp]
  | _ :: _, [] => by simp [bcmp]
  | a :: x, b :: y => by
    have ih := bcmp_swap x y
    unfold bcmp
    by_cases h : a < b
    · have h' : ¬ b < a := fun h2 => UInt8.lt_irrefl _ (UInt8.lt_trans h h2)
      simp [h, h']
    · by_cases h2 : b < a
      · simp [h, h2]
      · simp [h, h2, ih]

theorem bcmp_trans : ∀ a b c, bcmp a b < 0 → bcmp b c < 0 → bcmp a c < 0
  | [], [], c => by simp [bcmp]
  | [], _ :: _, [] => by simp [bcmp]
  | [], _ :: _, _ :: _ => by simp [bcmp]
  | _ :: _, [], _ => by simp [bcmp]
  | _ :: _, _ :: _, [] => by simp [bcmp]
  | a :: x, b :: y, c :: z => by
    intro h1 h2
    have ih := bcmp_trans x y z
    unfold bcmp at h1 h2 ⊢
    simp only [UInt8.lt_iff_toNat_lt] at *
    split at h1
    · split at h2
      · rw [if_pos (by omega)]; omega
      · split at h2
        · omega
        · rw [if_pos (by omega)]; omega
    · split at h1
      · omega
      · split at h2
        · rw [if_pos (by omega)]; omega
        · split at h2
          · omega
          · rw [if_neg (by omega), if_neg (by omega)]; exact ih h1 h2

theorem kcmp_neg {a b : Key} : kcmp a b < 0 ↔ bcmp a.user b.user < 0 ∨ a.user = b.user ∧ (b.seq.toNat < a.seq.toNat ∨ a.seq = b.seq ∧ b.kind.toNat < a.kind.toNat) := by
  have h0 := bcmp_zero a.user b.user
  unfold kcmp or3 ncmp
  rw [← UInt64.toNat_inj]
  generalize bcmp a.user b.user = x at *
  generalize a.seq.toNat = p at *
  generalize b.seq.toNat = q at *
  generalize a.kind.toNat = r at *
  generalize b.kind.toNat = t at *
  by_cases hu : a.user = b.user
  · have hx := h0.2 hu
    subst hx
    simp only [hu, true_and, ne_eq, not_true_eq_false, if_false]
    (repeat' split) <;> omega
  · have hx : x ≠ 0 := fun e => hu (h0.1 e)
    simp [hu, hx]

theorem kcmp_zero {a b : Key} : kcmp a b = 0 ↔ a = b := by
  have h0 := bcmp_zero a.user b.user
  have h1 : a = b ↔ a.user = b.user ∧ a.seq.toNat = b.seq.toNat ∧ a.kind.toNat = b.kind.toNat := by
    cases a; cases b; simp [UInt64.toNat_inj, UInt8.toNat_inj]
  rw [h1]
  unfold kcmp or3 ncmp
  generalize bcmp a.user b.user = x at *
  generalize a.seq.toNat = p at *
  generalize b.seq.toNat = q at *
  generalize a.kind.toNat = r at *
  generalize b.kind.toNat = t at *
  by_cases hu : a.user = b.user
  · have hx := h0.2 hu
    subst hx
    simp only [hu, true_and, ne_eq, not_true_eq_false, if_false]
    (repeat' split) <;> omega
  · have hx : x ≠ 0 := fun e => hu (h0.1 e)
    simp [hu, hx]

theorem ncmp_swap (a b : Nat) : ncmp b a = - ncmp a b := by unfold ncmp; split <;> split <;> first | omega | (split <;> omega)

theorem kcmp_swap (a b : Key) : kcmp b a = - kcmp a b := by
  unfold kcmp or3
  rw [bcmp_swap a.user b.user, ncmp_swap b.seq.toNat a.seq.toNat, ncmp_swap b.kind.toNat a.kind.toNat]
  by_cases h : bcmp a.user b.user = 0
  · by_cases h2 : ncmp b.seq.toNat a.seq.toNat = 0
    · simp [h, h2]
    · simp [h, h2]
  · simp [h]

theorem kcmp_trans {a b c : Key} (h1 : kcmp a b < 0) (h2 : kcmp b c < 0) : kcmp a c < 0 := by
  rw [kcmp_neg] at *
  rcases h1 with h1 | ⟨e1, h1⟩
  · rcases h2 with h2 | ⟨e2, h2⟩
    · exact .inl (bcmp_trans _ _ _ h1 h2)
    · exact .inl (by rw [← e2]; exact h1)
  · rcases h2 with h2 | ⟨e2, h2⟩
    · exact .inl (by rw [e1]; exact h2)
    · refine .inr ⟨e1.trans e2, ?_⟩
      rcases h1 with h1 | ⟨f1, h1⟩
      · rcases h2 with h2 | ⟨f2, h2⟩
        · exact .inl (by omega)
        · exact .inl (by rw [← f2]; exact h1)
      · rcases h2 with h2 | ⟨f2, h2⟩
        · exact .inl (by rw [f1]; exact h2)
        · exact .inr ⟨f1.trans f2, by omega⟩

theorem kcmp_total (a b : Key) : kcmp a b < 0 ∨ a = b ∨ kcmp b a < 0 := by
  have h := kcmp_swap a b
  by_cases h0 : kcmp a b = 0
  · exact .inr (.inl (kcmp_zero.1 h0))
  · rcases Int.lt_or_lt_of_ne h0 with h1 | h1
    · exact .inl h1
    · exact .inr (.inr (by omega))

theorem kcmp_irrefl (a : Key) : ¬ kcmp a a < 0 := by rw [kcmp_zero.2 rfl]; omega

theorem kless_eq (a b : Key) : kless a b = decide (kcmp a b < 0) := by
  have h0 := bcmp_zero a.user b.user
  rw [Bool.eq_iff_iff, decide_eq_true_eq, kcmp_neg]
  unfold kless
  rw [← bcmp_neg]
  generalize bcmp a.user b.user = x at *
  by_cases h : a.user = b.user
  · have hx := h0.2 h
    subst hx
    by_cases hs : a.seq = b.seq
    · simp [h, hs]
    · simp [h, hs]
  · simp [h]

end Go.Proofs.Yteaanagljmcidaa
