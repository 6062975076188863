/- The map that ops make, in plain Lean. -/
import Derived.Test.YteaanagljmcidaaTombB
import Derived.Test.YteaanagljmcidaaOpsA
namespace Go.Proofs.Yteaanagljmcidaa

def coversO (o : OpE) (key : List UInt8) : Bool := if o.kind.toNat = 3 then coversB ⟨o.key, o.val, 0⟩ key else o.key == key
/-! ### the map -/
structure PairE where
  key : List UInt8
  val : List UInt8
  deriving DecidableEq, Inhabited
def newP (o : OpE) : PairE := ⟨o.key, o.val⟩
def applyStep (o : OpE) (a : List PairE × Bool) (x : PairE) : List PairE × Bool :=
  let b := if a.2 = false ∧ Op.bytesLess o.key x.key = true then (a.1 ++ [newP o], true) else a
  if coversO o x.key = true then b else (b.1 ++ [x], b.2)
def applyF (o : OpE) (m : List PairE) : List PairE × Bool := m.foldl (applyStep o) ([], decide (o.kind.toNat ≠ 2))
theorem applyF_succ {l : List PairE} {i : Nat} (hi : i < l.length) (o : OpE) : applyF o (l.take (i + 1)) = applyStep o (applyF o (l.take i)) l[i] := by
  unfold applyF
  rw [List.take_succ_eq_append_getElem hi, List.foldl_append]; rfl
/-- What a map is behind an op. -/
def applyE (m : List PairE) (o : OpE) : List PairE := if (applyF o m).2 = true then (applyF o m).1 else (applyF o m).1 ++ [newP o]
def applyAllE (m : List PairE) (l : List OpE) : List PairE := l.foldl applyE m
theorem applyAllE_succ {l : List OpE} {i : Nat} (hi : i < l.length) (m : List PairE) : applyAllE m (l.take (i + 1)) = applyE (applyAllE m (l.take i)) l[i] := by
  unfold applyAllE
  rw [List.take_succ_eq_append_getElem hi, List.foldl_append]; rfl
theorem applyStep_length (o : OpE) (a : List PairE × Bool) (x : PairE) : (applyStep o a x).1.length + (if (applyStep o a x).2 then 0 else 1) ≤ a.1.length + (if a.2 then 0 else 1) + 1 := by
  unfold applyStep
  obtain ⟨a1, a2⟩ := a
  cases a2 <;> cases Op.bytesLess o.key x.key <;> cases coversO o x.key <;> simp
theorem applyF_length (o : OpE) : ∀ (m : List PairE) (a : List PairE × Bool), (m.foldl (applyStep o) a).1.length + (if (m.foldl (applyStep o) a).2 then 0 else 1) ≤ a.1.length + (if a.2 then 0 else 1) + m.length
  | [], _ => Nat.le_refl _
  | x :: m, a => by
    have h1 := applyF_length o m (applyStep o a x)
    have h2 := applyStep_length o a x
    rw [List.foldl_cons, List.length_cons]
    omega
theorem applyE_length (m : List PairE) (o : OpE) : (applyE m o).length ≤ m.length + 1 := by
  have h := applyF_length o m ([], decide (o.kind.toNat ≠ 2))
  unfold applyE
  have h0 : ([] : List PairE).length = 0 := rfl
  change (applyF o m).1.length + _ ≤ _ at h
  have h3 : (if (decide (o.kind.toNat ≠ 2)) = true then 0 else 1) ≤ 1 := by split <;> omega
  simp only [h0] at h
  split
  · omega
  · rename_i hn
    change (applyF o m).1.length + (if (applyF o m).2 = true then 0 else 1) ≤ _ at h
    rw [if_neg hn] at h
    rw [List.length_append, List.length_singleton]; omega
theorem applyAllE_length : ∀ (l : List OpE) (m : List PairE), (applyAllE m l).length ≤ m.length + l.length
  | [], m => by simp [applyAllE]
  | o :: l, m => by
    have h1 := applyAllE_length l (applyE m o)
    have h2 := applyE_length m o
    show (applyAllE (applyE m o) l).length ≤ _
    rw [List.length_cons]; omega

theorem mem_applyF (o : OpE) (p : PairE) : ∀ (m : List PairE) (a : List PairE × Bool), (a.2 = true → (m.foldl (applyStep o) a).2 = true) ∧
    (p ∈ (m.foldl (applyStep o) a).1 ↔ p ∈ a.1 ∨ (p ∈ m ∧ coversO o p.key = false) ∨ (p = newP o ∧ a.2 = false ∧ (m.foldl (applyStep o) a).2 = true))
  | [], a => by
    refine ⟨id, ?_⟩
    simp only [List.foldl_nil, List.not_mem_nil, false_and, false_or]
    constructor
    · exact .inl
    · rintro (h | ⟨-, h1, h2⟩)
      · exact h
      · rw [h1] at h2; cases h2
  | x :: m, a => by
    obtain ⟨h1, h2⟩ := mem_applyF o p m (applyStep o a x)
    rw [List.foldl_cons]
    generalize hr : m.foldl (applyStep o) (applyStep o a x) = r at *
    have hcase : (applyStep o a x = if coversO o x.key = true then a else (a.1 ++ [x], a.2)) ∨ (a.2 = false ∧ applyStep o a x = if coversO o x.key = true then (a.1 ++ [newP o], true) else (a.1 ++ [newP o] ++ [x], true)) := by
      unfold applyStep
      by_cases hc : a.2 = false ∧ Op.bytesLess o.key x.key = true
      · right; refine ⟨hc.1, ?_⟩; simp only [if_pos hc]
      · left; simp only [if_neg hc]
    rcases hcase with hs | ⟨ha, hs⟩
    · rw [hs] at h1 h2
      by_cases hc : coversO o x.key = true
      · rw [if_pos hc] at h1 h2
        refine ⟨h1, h2.trans ?_⟩
        rw [List.mem_cons]
        constructor
        · rintro (h | ⟨h, h'⟩ | h)
          · exact .inl h
          · exact .inr (.inl ⟨.inr h, h'⟩)
          · exact .inr (.inr h)
        · rintro (h | ⟨rfl | h, h'⟩ | h)
          · exact .inl h
          · rw [hc] at h'; cases h'
          · exact .inr (.inl ⟨h, h'⟩)
          · exact .inr (.inr h)
      · rw [if_neg hc] at h1 h2
        refine ⟨h1, h2.trans ?_⟩
        rw [List.mem_cons, List.mem_append, List.mem_singleton]
        constructor
        · rintro ((h | rfl) | ⟨h, h'⟩ | h)
          · exact .inl h
          · exact .inr (.inl ⟨.inl rfl, by simpa using hc⟩)
          · exact .inr (.inl ⟨.inr h, h'⟩)
          · exact .inr (.inr h)
        · rintro (h | ⟨rfl | h, h'⟩ | h)
          · exact .inl (.inl h)
          · exact .inl (.inr rfl)
          · exact .inr (.inl ⟨h, h'⟩)
          · exact .inr (.inr h)
    · rw [hs] at h1 h2
      by_cases hc : coversO o x.key = true
      · rw [if_pos hc] at h1 h2
        have h3 := h1 rfl
        refine ⟨fun _ => h3, h2.trans ?_⟩
        rw [List.mem_cons, List.mem_append, List.mem_singleton]
        constructor
        · rintro ((h | h) | ⟨h, h'⟩ | ⟨-, h, -⟩)
          · exact .inl h
          · exact .inr (.inr ⟨h, ha, h3⟩)
          · exact .inr (.inl ⟨.inr h, h'⟩)
          · cases h
        · rintro (h | ⟨rfl | h, h'⟩ | ⟨h, -⟩)
          · exact .inl (.inl h)
          · rw [hc] at h'; cases h'
          · exact .inr (.inl ⟨h, h'⟩)
          · exact .inl (.inr h)
      · rw [if_neg hc] at h1 h2
        have h3 := h1 rfl
        refine ⟨fun _ => h3, h2.trans ?_⟩
        rw [List.mem_cons, List.mem_append, List.mem_append, List.mem_singleton, List.mem_singleton]
        constructor
        · rintro (((h | h) | rfl) | ⟨h, h'⟩ | ⟨-, h, -⟩)
          · exact .inl h
          · exact .inr (.inr ⟨h, ha, h3⟩)
          · exact .inr (.inl ⟨.inl rfl, by simpa using hc⟩)
          · exact .inr (.inl ⟨.inr h, h'⟩)
          · cases h
        · rintro (h | ⟨rfl | h, h'⟩ | ⟨h, -⟩)
          · exact .inl (.inl (.inl h))
          · exact .inl (.inr rfl)
          · exact .inr (.inl ⟨h, h'⟩)
          · exact .inl (.inl (.inr h))
theorem mem_applyE {m : List PairE} {o : OpE} {p : PairE} : p ∈ applyE m o ↔ (p = newP o ∧ o.kind.toNat = 2) ∨ (p ∈ m ∧ coversO o p.key = false) := by
  obtain ⟨h1, h2⟩ := mem_applyF o p m ([], decide (o.kind.toNat ≠ 2))
  change _ → (applyF o m).2 = true at h1
  change p ∈ (applyF o m).1 ↔ _ ∨ _ ∨ (p = newP o ∧ _ ∧ (applyF o m).2 = true) at h2
  unfold applyE
  simp only [List.not_mem_nil, false_or, decide_eq_false_iff_not, Decidable.not_not, decide_eq_true_eq] at h1 h2
  split
  · rename_i hd
    rw [h2]
    constructor
    · rintro (h | ⟨h, h', -⟩)
      · exact .inr h
      · exact .inl ⟨h, h'⟩
    · rintro (⟨h, h'⟩ | h)
      · exact .inr ⟨h, h', hd⟩
      · exact .inl h
  · rename_i hd
    rw [List.mem_append, List.mem_singleton, h2]
    have hk : o.kind.toNat = 2 := Decidable.byContradiction fun hk => hd (h1 hk)
    constructor
    · rintro ((h | ⟨-, -, h⟩) | h)
      · exact .inr h
      · exact absurd h hd
      · exact .inl ⟨h, hk⟩
    · rintro (⟨h, -⟩ | h)
      · exact .inr h
      · exact .inl (.inl h)

end Go.Proofs.Yteaanagljmcidaa
