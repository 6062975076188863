/- memo, in plain Lean: a batch, op by op. -/
import Derived.Test.YteaanagljmcidaaMemoP
namespace Go.Proofs.Yteaanagljmcidaa
open Go.RowKit

def seqX (x : XL) (ops : List OpE) (q : Nat) : Nat → XL
  | 0 => x
  | i + 1 => match ops[i]? with
    | none => seqX x ops q i
    | some o => seqX x ops q i ++ [(o, q + i)]
theorem seqX_succ {x : XL} {ops : List OpE} {q i : Nat} (hi : i < ops.length) : seqX x ops q (i + 1) = seqX x ops q i ++ [(ops[i], q + i)] := by
  rw [seqX, List.getElem?_eq_getElem hi]
theorem seqX_len (x : XL) (ops : List OpE) (q : Nat) : ∀ i, i ≤ ops.length → (seqX x ops q i).length = x.length + i
  | 0, _ => rfl
  | i + 1, hi => by rw [seqX_succ (by omega), List.length_append, seqX_len x ops q i (by omega)]; simp; omega
theorem batR_ok {last : Nat} {l : List OpE} {q : Nat} {hs : List Int} (h : batR last l q hs = 0) : (∀ o ∈ l, ocheck o = 0) ∧ l.length ≤ 64 ∧ 1 ≤ q ∧ q ≤ 72057594037927935 ∧ (∀ i, i < l.length → q + i ≤ 72057594037927935) ∧ tallL l.length hs ∧ last < q := by
  unfold batR at h
  have h1 : bcheck l = 0 := by
    apply Classical.byContradiction; intro hc; rw [if_pos hc] at h; exact hc h
  rw [if_neg (by simpa using h1)] at h
  have h2 : ¬ (q = 0 ∨ 72057594037927935 < q ∨ 72057594037927935 < q + (max l.length 1 - 1)) := fun hc => by rw [if_pos hc] at h; cases h
  rw [if_neg h2] at h
  have h3 : tallL l.length hs := by
    apply Classical.byContradiction; intro hc; rw [if_pos hc] at h; cases h
  rw [if_neg (by simpa using h3)] at h
  have h4 : ¬ q ≤ last := fun hc => by rw [if_pos hc] at h; cases h
  have h5 : l.length ≤ 64 := by
    apply Classical.byContradiction; intro hc; unfold bcheck at h1; rw [if_pos (by omega)] at h1; cases h1
  refine ⟨?_, h5, by omega, by omega, fun i hi => by omega, h3, by omega⟩
  unfold bcheck at h1
  rw [if_neg (by omega)] at h1
  exact bcheckL_ok h1
theorem doR_ok {last : Nat} {o : OpE} {q : Nat} {ht : Int} (h : doR last o q ht = 0) : ocheck o = 0 ∧ 1 ≤ q ∧ q ≤ 72057594037927935 ∧ 1 ≤ ht ∧ ht ≤ 8 ∧ last < q := by
  unfold doR at h
  have h1 : ocheck o = 0 := by
    apply Classical.byContradiction; intro hc; rw [if_pos hc] at h; exact hc h
  rw [if_neg (by simpa using h1)] at h
  have h2 : ¬ (q = 0 ∨ 72057594037927935 < q) := fun hc => by rw [if_pos hc] at h; cases h
  rw [if_neg h2] at h
  have h3 : ¬ (ht < 1 ∨ 8 < ht) := fun hc => by rw [if_pos hc] at h; cases h
  rw [if_neg h3] at h
  have h4 : ¬ q ≤ last := fun hc => by rw [if_pos hc] at h; cases h
  exact ⟨h1, by omega, by omega, by omega, by omega, by omega⟩
theorem doR_good {last : Nat} {o : OpE} {q : Nat} {ht : Int} (h1 : ocheck o = 0) (h2 : 1 ≤ q) (h3 : q ≤ 72057594037927935) (h4 : 1 ≤ ht) (h5 : ht ≤ 8) (h6 : last < q) : doR last o q ht = 0 := by
  unfold doR
  rw [if_neg (by simpa using h1), if_neg (by omega), if_neg (by omega), if_neg (by omega)]
theorem rel_do {s : MS} {x : XL} (hr : RelX s x) (hg : GoodX x) {o : OpE} {q : Nat} {ht : Int} (hc : doR s.last o q ht = 0) : GoodX (x ++ [(o, q)]) ∧ RelX (s.put o q ht) (x ++ [(o, q)]) := by
  obtain ⟨h1, h2, h3, h4, h5, h6⟩ := doR_ok hc
  rw [hr.last] at h6
  exact ⟨hg.snoc h1 h2 h3 h6, hr.put hg h1 h2 h3 h6 h4 h5⟩
/-- A batch, on both. -/
theorem rel_bat {s : MS} {x : XL} (hr : RelX s x) (hg : GoodX x) {ops : List OpE} {q : Nat} (ho : ∀ o ∈ ops, ocheck o = 0) (h1 : 1 ≤ q) (h2 : ∀ i, i < ops.length → q + i ≤ 72057594037927935) (h3 : s.last < q) {hs : List Int} (ht : tallL ops.length hs) : ∀ i, i ≤ ops.length → GoodX (seqX x ops q i) ∧ RelX (batN s ops q hs i) (seqX x ops q i) ∧ lastX (seqX x ops q i) < q + i
  | 0, _ => ⟨hg, hr, by show lastX x < q; rw [← hr.last]; exact h3⟩
  | i + 1, hi => by
    obtain ⟨g1, g2, g3⟩ := rel_bat hr hg ho h1 h2 h3 ht i (by omega)
    have hlt : i < ops.length := by omega
    have hoi := ho _ (List.getElem_mem hlt)
    have hh : 1 ≤ hs[i]?.getD 1 ∧ hs[i]?.getD 1 ≤ 8 := by
      by_cases hih : i < hs.length
      · rw [List.getElem?_eq_getElem hih]; exact ht i hlt hih
      · rw [List.getElem?_eq_none (by omega)]; decide
    rw [seqX_succ hlt, batN_succ hlt]
    refine ⟨g1.snoc hoi (by omega) (h2 i hlt) g3, g2.put g1 hoi (by omega) (h2 i hlt) g3 hh.1 hh.2, ?_⟩
    rw [lastX_snoc]
    show q + i < q + (i + 1)
    omega
theorem tallL_nil (n : Nat) : tallL n [] := fun i _ hi => absurd hi (by simp)
theorem tallL_of {n : Nat} {hs : List Int} (h : ∀ x ∈ hs, 1 ≤ x ∧ x ≤ 8) : tallL n hs := fun i _ hi => h _ (List.getElem_mem hi)

/-! ### what a batch is -/
theorem bat_same {l : List OpE} {q : Nat} {hs : List Int} (hc : batR 0 l q hs = 0) :
    (∀ i (hi : i < l.length), doR (batN ⟨[], [], 0, 0⟩ l q [] i).last l[i] (q + i) 1 = 0) ∧
      (batN ⟨[], [], 0, 0⟩ l q hs l.length).m.map (·.1) = (batN ⟨[], [], 0, 0⟩ l q [] l.length).m.map (·.1) ∧ (batN ⟨[], [], 0, 0⟩ l q hs l.length).l = (batN ⟨[], [], 0, 0⟩ l q [] l.length).l ∧
      (batN ⟨[], [], 0, 0⟩ l q hs l.length).sz = (batN ⟨[], [], 0, 0⟩ l q [] l.length).sz ∧ (batN ⟨[], [], 0, 0⟩ l q hs l.length).last = (batN ⟨[], [], 0, 0⟩ l q [] l.length).last := by
  obtain ⟨h1, h2, h3, h4, h5, h6, h7⟩ := batR_ok hc
  have A := rel_bat RelX.nil GoodX.nil h1 h3 h5 h7 h6 l.length (Nat.le_refl _)
  have B := rel_bat RelX.nil GoodX.nil h1 h3 h5 h7 (tallL_nil l.length)
  obtain ⟨-, B1, -⟩ := B l.length (Nat.le_refl _)
  obtain ⟨-, A1, -⟩ := A
  refine ⟨fun i hi => ?_, by rw [A1.m, B1.m], by rw [A1.l, B1.l], by rw [A1.sz, B1.sz], by rw [A1.last, B1.last]⟩
  obtain ⟨C1, C2, C3⟩ := B i (by omega)
  exact doR_good (h1 _ (List.getElem_mem hi)) (by omega) (h5 i hi) (by decide) (by decide) (by rw [C2.last]; exact C3)
end Go.Proofs.Yteaanagljmcidaa
