/- What is found among versions and spans, in plain Lean. The map that ops make, in plain Lean. memo, in plain Lean: ops with their numbers; what a memo of them tells. memo, in plain Lean: what is found among versions and spans; the map that ops make; what stays. memo, in plain Lean: a batch, op by op. -/
import Derived.Test.YteaanagljmcidaaTombs
import Derived.Test.YteaanagljmcidaaMePure
import Derived.Test.YteaanagljmcidaaOps
import Derived.Test.YteaanagljmcidaaMemoCDE
namespace Go.Proofs.Yteaanagljmcidaa

/-! ### Find -/
def findStep (key : List UInt8) (q : Nat) (a : Nat × List UInt8 × Int) (e : Ent) : Nat × List UInt8 × Int :=
  if e.key.user = key ∧ e.key.seq.toNat ≤ q ∧ (a.2.2 = 0 ∨ a.1 < e.key.seq.toNat) then (e.key.seq.toNat, if e.key.kind.toNat = 1 then ([], 2) else (e.value, 1)) else a
def findF (E : List Ent) (key : List UInt8) (q : Nat) : Nat × List UInt8 × Int := E.foldl (findStep key q) (0, [], 0)
theorem findF_succ {l : List Ent} {i : Nat} (hi : i < l.length) (key : List UInt8) (q : Nat) : findF (l.take (i + 1)) key q = findStep key q (findF (l.take i) key q) l[i] := by
  unfold findF
  rw [List.take_succ_eq_append_getElem hi, List.foldl_append]; rfl
/-- What is found among versions and spans. -/
def findE (E : List Ent) (L : List SpanE) (key : List UInt8) (q : Nat) : List UInt8 × Int :=
  if (findF E key q).1 < coverE L key q ∨ 0 < coverE L key q ∧ (findF E key q).2.2 = 0 then ([], 2) else (findF E key q).2
def fitsK (key : List UInt8) (q : Nat) (e : Ent) : Bool := decide (e.key.user = key ∧ e.key.seq.toNat ≤ q)
def tellF : Option Ent → Nat × List UInt8 × Int
  | none => (0, [], 0)
  | some e => (e.key.seq.toNat, if e.key.kind.toNat = 1 then ([], 2) else (e.value, 1))
theorem findStep_keep {key : List UInt8} {q : Nat} {a : Nat × List UInt8 × Int} {e : Ent} (h : fitsK key q e = true → a.2.2 ≠ 0 ∧ e.key.seq.toNat ≤ a.1) : findStep key q a e = a := by
  unfold findStep
  rw [if_neg]
  rintro ⟨h1, h2, h3⟩
  obtain ⟨h4, h5⟩ := h (by simp [fitsK, h1, h2])
  rcases h3 with h3 | h3
  · exact h4 h3
  · omega
theorem foldl_keep {key : List UInt8} {q : Nat} {a : Nat × List UInt8 × Int} : ∀ {l : List Ent}, (∀ e ∈ l, fitsK key q e = true → a.2.2 ≠ 0 ∧ e.key.seq.toNat ≤ a.1) → l.foldl (findStep key q) a = a
  | [], _ => rfl
  | e :: l, h => by
    rw [List.foldl_cons, findStep_keep (h e List.mem_cons_self)]
    exact foldl_keep fun y hy => h y (List.mem_cons_of_mem _ hy)
theorem findF_sorted {E : List Ent} (h : SortedE E) (key : List UInt8) (q : Nat) : findF E key q = tellF (E.find? (fitsK key q)) := by
  unfold findF
  cases hf : E.find? (fitsK key q) with
  | none => exact foldl_keep fun e he h1 => absurd h1 (List.find?_eq_none.1 hf e he)
  | some e =>
    rw [List.find?_eq_some_iff_append] at hf
    obtain ⟨h1, a, b, rfl, ha⟩ := hf
    obtain ⟨hu, hs⟩ : e.key.user = key ∧ e.key.seq.toNat ≤ q := by simpa [fitsK] using h1
    have hka : a.foldl (findStep key q) (0, [], 0) = (0, [], 0) := foldl_keep fun y hy h2 => absurd h2 (by simpa using ha y hy)
    rw [List.foldl_append, hka, List.foldl_cons]
    have hst : findStep key q (0, [], 0) e = tellF (some e) := by
      unfold findStep tellF
      rw [if_pos ⟨hu, hs, .inl rfl⟩]
    rw [hst]
    refine foldl_keep fun y hy h2 => ⟨?_, ?_⟩
    · unfold tellF; simp only; split <;> simp
    · have h3 := (List.pairwise_cons.1 (List.pairwise_append.1 h).2.1).1 y hy
      obtain ⟨hyu, -⟩ : y.key.user = key ∧ y.key.seq.toNat ≤ q := by simpa [fitsK] using h2
      rw [kcmp_neg] at h3
      show y.key.seq.toNat ≤ e.key.seq.toNat
      rcases h3 with h3 | ⟨-, h3 | ⟨h3, -⟩⟩
      · rw [hu, hyu, (bcmp_zero key key).2 rfl] at h3; omega
      · omega
      · have := congrArg UInt64.toNat h3; omega
theorem find_is {E : List Ent} (h : SortedE E) {key : List UInt8} {q : Nat} {e : Ent} (he : e ∈ E) (hf : fitsK key q e = true) (hl : ∀ y ∈ E, fitsK key q y = true → y = e ∨ y.key.seq.toNat < e.key.seq.toNat) : E.find? (fitsK key q) = some e := by
  obtain ⟨a, b, rfl⟩ := List.append_of_mem he
  rw [List.find?_eq_some_iff_append]
  refine ⟨hf, a, b, rfl, fun y hy => ?_⟩
  have h1 := (List.pairwise_append.1 h).2.2 y hy e List.mem_cons_self
  cases hfy : fitsK key q y with
  | false => rfl
  | true =>
    exfalso
    obtain ⟨hu, -⟩ : e.key.user = key ∧ e.key.seq.toNat ≤ q := by simpa [fitsK] using hf
    obtain ⟨hyu, -⟩ : y.key.user = key ∧ y.key.seq.toNat ≤ q := by simpa [fitsK] using hfy
    rcases hl y (List.mem_append_left _ hy) hfy with rfl | h2
    · exact kcmp_irrefl _ h1
    · exact kcmp_irrefl _ (kcmp_trans h1 (kcmp_neg.2 (.inr ⟨by rw [hu, hyu], .inl h2⟩)))

end Go.Proofs.Yteaanagljmcidaa
namespace Go.Proofs.Yteaanagljmcidaa

def coversO (o : OpE) (key : List UInt8) : Bool := if o.kind.toNat = 3 then coversB ⟨o.key, o.val, 0⟩ key else o.key == key
/-! ### the map -/
structure PairE where
  key : List UInt8
  val : List UInt8
  deriving DecidableEq, Inhabited
def newP (o : OpE) : PairE := ⟨o.key, o.val⟩
def applyStep (o : OpE) (a : List PairE × Bool) (x : PairE) : List PairE × Bool :=
  let b := if a.2 = false ∧ Op.bytesLess o.key x.key = true then (a.1 ++ [newP o], true) else a
  if coversO o x.key = true then b else (b.1 ++ [x], b.2)
def applyF (o : OpE) (m : List PairE) : List PairE × Bool := m.foldl (applyStep o) ([], decide (o.kind.toNat ≠ 2))
theorem applyF_succ {l : List PairE} {i : Nat} (hi : i < l.length) (o : OpE) : applyF o (l.take (i + 1)) = applyStep o (applyF o (l.take i)) l[i] := by
  unfold applyF
  rw [List.take_succ_eq_append_getElem hi, List.foldl_append]; rfl
/-- What a map is behind an op. -/
def applyE (m : List PairE) (o : OpE) : List PairE := if (applyF o m).2 = true then (applyF o m).1 else (applyF o m).1 ++ [newP o]
def applyAllE (m : List PairE) (l : List OpE) : List PairE := l.foldl applyE m
theorem applyAllE_succ {l : List OpE} {i : Nat} (hi : i < l.length) (m : List PairE) : applyAllE m (l.take (i + 1)) = applyE (applyAllE m (l.take i)) l[i] := by
  unfold applyAllE
  rw [List.take_succ_eq_append_getElem hi, List.foldl_append]; rfl
theorem applyStep_length (o : OpE) (a : List PairE × Bool) (x : PairE) : (applyStep o a x).1.length + (if (applyStep o a x).2 then 0 else 1) ≤ a.1.length + (if a.2 then 0 else 1) + 1 := by
  unfold applyStep
  obtain ⟨a1, a2⟩ := a
  cases a2 <;> cases Op.bytesLess o.key x.key <;> cases coversO o x.key <;> simp
theorem applyF_length (o : OpE) : ∀ (m : List PairE) (a : List PairE × Bool), (m.foldl (applyStep o) a).1.length + (if (m.foldl (applyStep o) a).2 then 0 else 1) ≤ a.1.length + (if a.2 then 0 else 1) + m.length
  | [], _ => Nat.le_refl _
  | x :: m, a => by
    have h1 := applyF_length o m (applyStep o a x)
    have h2 := applyStep_length o a x
    rw [List.foldl_cons, List.length_cons]
    omega
theorem applyE_length (m : List PairE) (o : OpE) : (applyE m o).length ≤ m.length + 1 := by
  have h := applyF_length o m ([], decide (o.kind.toNat ≠ 2))
  unfold applyE
  have h0 : ([] : List PairE).length = 0 := rfl
  change (applyF o m).1.length + _ ≤ _ at h
  have h3 : (if (decide (o.kind.toNat ≠ 2)) = true then 0 else 1) ≤ 1 := by split <;> omega
  simp only [h0] at h
  split
  · omega
  · rename_i hn
    change (applyF o m).1.length + (if (applyF o m).2 = true then 0 else 1) ≤ _ at h
    rw [if_neg hn] at h
    rw [List.length_append, List.length_singleton]; omega
theorem applyAllE_length : ∀ (l : List OpE) (m : List PairE), (applyAllE m l).length ≤ m.length + l.length
  | [], m => by simp [applyAllE]
  | o :: l, m => by
    have h1 := applyAllE_length l (applyE m o)
    have h2 := applyE_length m o
    show (applyAllE (applyE m o) l).length ≤ _
    rw [List.length_cons]; omega

theorem mem_applyF (o : OpE) (p : PairE) : ∀ (m : List PairE) (a : List PairE × Bool), (a.2 = true → (m.foldl (applyStep o) a).2 = true) ∧
    (p ∈ (m.foldl (applyStep o) a).1 ↔ p ∈ a.1 ∨ (p ∈ m ∧ coversO o p.key = false) ∨ (p = newP o ∧ a.2 = false ∧ (m.foldl (applyStep o) a).2 = true))
  | [], a => by
    refine ⟨id, ?_⟩
    simp only [List.foldl_nil, List.not_mem_nil, false_and, false_or]
    constructor
    · exact .inl
    · rintro (h | ⟨-, h1, h2⟩)
      · exact h
      · rw [h1] at h2; cases h2
  | x :: m, a => by
    obtain ⟨h1, h2⟩ := mem_applyF o p m (applyStep o a x)
    rw [List.foldl_cons]
    generalize hr : m.foldl (applyStep o) (applyStep o a x) = r at *
    have hcase : (applyStep o a x = if coversO o x.key = true then a else (a.1 ++ [x], a.2)) ∨ (a.2 = false ∧ applyStep o a x = if coversO o x.key = true then (a.1 ++ [newP o], true) else (a.1 ++ [newP o] ++ [x], true)) := by
      unfold applyStep
      by_cases hc : a.2 = false ∧ Op.bytesLess o.key x.key = true
      · right; refine ⟨hc.1, ?_⟩; simp only [if_pos hc]
      · left; simp only [if_neg hc]
    rcases hcase with hs | ⟨ha, hs⟩
    · rw [hs] at h1 h2
      by_cases hc : coversO o x.key = true
      · rw [if_pos hc] at h1 h2
        refine ⟨h1, h2.trans ?_⟩
        rw [List.mem_cons]
        constructor
        · rintro (h | ⟨h, h'⟩ | h)
          · exact .inl h
          · exact .inr (.inl ⟨.inr h, h'⟩)
          · exact .inr (.inr h)
        · rintro (h | ⟨rfl | h, h'⟩ | h)
          · exact .inl h
          · rw [hc] at h'; cases h'
          · exact .inr (.inl ⟨h, h'⟩)
          · exact .inr (.inr h)
      · rw [if_neg hc] at h1 h2
        refine ⟨h1, h2.trans ?_⟩
        rw [List.mem_cons, List.mem_append, List.mem_singleton]
        constructor
        · rintro ((h | rfl) | ⟨h, h'⟩ | h)
          · exact .inl h
          · exact .inr (.inl ⟨.inl rfl, by simpa using hc⟩)
          · exact .inr (.inl ⟨.inr h, h'⟩)
          · exact .inr (.inr h)
        · rintro (h | ⟨rfl | h, h'⟩ | h)
          · exact .inl (.inl h)
          · exact .inl (.inr rfl)
          · exact .inr (.inl ⟨h, h'⟩)
          · exact .inr (.inr h)
    · rw [hs] at h1 h2
      by_cases hc : coversO o x.key = true
      · rw [if_pos hc] at h1 h2
        have h3 := h1 rfl
        refine ⟨fun _ => h3, h2.trans ?_⟩
        rw [List.mem_cons, List.mem_append, List.mem_singleton]
        constructor
        · rintro ((h | h) | ⟨h, h'⟩ | ⟨-, h, -⟩)
          · exact .inl h
          · exact .inr (.inr ⟨h, ha, h3⟩)
          · exact .inr (.inl ⟨.inr h, h'⟩)
          · cases h
        · rintro (h | ⟨rfl | h, h'⟩ | ⟨h, -⟩)
          · exact .inl (.inl h)
          · rw [hc] at h'; cases h'
          · exact .inr (.inl ⟨h, h'⟩)
          · exact .inl (.inr h)
      · rw [if_neg hc] at h1 h2
        have h3 := h1 rfl
        refine ⟨fun _ => h3, h2.trans ?_⟩
        rw [List.mem_cons, List.mem_append, List.mem_append, List.mem_singleton, List.mem_singleton]
        constructor
        · rintro (((h | h) | rfl) | ⟨h, h'⟩ | ⟨-, h, -⟩)
          · exact .inl h
          · exact .inr (.inr ⟨h, ha, h3⟩)
          · exact .inr (.inl ⟨.inl rfl, by simpa using hc⟩)
          · exact .inr (.inl ⟨.inr h, h'⟩)
          · cases h
        · rintro (h | ⟨rfl | h, h'⟩ | ⟨h, -⟩)
          · exact .inl (.inl (.inl h))
          · exact .inl (.inr rfl)
          · exact .inr (.inl ⟨h, h'⟩)
          · exact .inl (.inl (.inr h))
theorem mem_applyE {m : List PairE} {o : OpE} {p : PairE} : p ∈ applyE m o ↔ (p = newP o ∧ o.kind.toNat = 2) ∨ (p ∈ m ∧ coversO o p.key = false) := by
  obtain ⟨h1, h2⟩ := mem_applyF o p m ([], decide (o.kind.toNat ≠ 2))
  change _ → (applyF o m).2 = true at h1
  change p ∈ (applyF o m).1 ↔ _ ∨ _ ∨ (p = newP o ∧ _ ∧ (applyF o m).2 = true) at h2
  unfold applyE
  simp only [List.not_mem_nil, false_or, decide_eq_false_iff_not, Decidable.not_not, decide_eq_true_eq] at h1 h2
  split
  · rename_i hd
    rw [h2]
    constructor
    · rintro (h | ⟨h, h', -⟩)
      · exact .inr h
      · exact .inl ⟨h, h'⟩
    · rintro (⟨h, h'⟩ | h)
      · exact .inr ⟨h, h', hd⟩
      · exact .inl h
  · rename_i hd
    rw [List.mem_append, List.mem_singleton, h2]
    have hk : o.kind.toNat = 2 := Decidable.byContradiction fun hk => hd (h1 hk)
    constructor
    · rintro ((h | ⟨-, -, h⟩) | h)
      · exact .inr h
      · exact absurd h hd
      · exact .inl ⟨h, hk⟩
    · rintro (⟨h, -⟩ | h)
      · exact .inr h
      · exact .inl (.inl h)

end Go.Proofs.Yteaanagljmcidaa
namespace Go.Proofs.Yteaanagljmcidaa
open Go.RowKit

/-- Ops with their numbers. -/
abbrev XL := List (OpE × Nat)
def lastX (x : XL) : Nat := (x.getLast?.map (·.2)).getD 0
def isR (o : OpE) : Bool := decide (o.kind.toNat = 3)
def entO (p : OpE × Nat) : Ent := ⟨⟨p.1.key, UInt64.ofNat p.2, p.1.kind⟩, p.1.val⟩
def spanO (p : OpE × Nat) : SpanE := ⟨p.1.key, p.1.val, UInt64.ofNat p.2⟩
def spansX (x : XL) : List SpanE := (x.filter fun p => isR p.1).map spanO
/-- One more, in order. -/
def insF (out : List Ent) (e : Ent) : List Ent := (out.filter fun y => decide (kcmp y.key e.key < 0)) ++ e :: out.filter fun y => !decide (kcmp y.key e.key < 0)
def entsX (x : XL) : List Ent := ((x.filter fun p => !isR p.1).map entO).foldl insF []
def sizeX (x : XL) : Int := (x.map fun p => opW p.1).sum

def GoodX (x : XL) : Prop := x.Pairwise (fun a b => a.2 < b.2) ∧ ∀ p ∈ x, ocheck p.1 = 0 ∧ 1 ≤ p.2 ∧ p.2 ≤ 72057594037927935
structure RelX (s : MS) (x : XL) : Prop where
  l : s.l = spansX x
  m : s.m.map (·.1) = entsX x
  sz : s.sz = sizeX x
  last : s.last = lastX x

theorem lastX_snoc (x : XL) (p : OpE × Nat) : lastX (x ++ [p]) = p.2 := by simp [lastX]
theorem lastX_nil : lastX [] = 0 := rfl
theorem GoodX.nil : GoodX [] := ⟨.nil, fun _ h => by cases h⟩
theorem RelX.nil : RelX ⟨[], [], 0, 0⟩ [] := ⟨rfl, rfl, rfl, rfl⟩
theorem GoodX.le_last {x : XL} (h : GoodX x) {p : OpE × Nat} (hp : p ∈ x) : p.2 ≤ lastX x := by
  rcases List.eq_nil_or_concat x with rfl | ⟨y, z, rfl⟩
  · cases hp
  · rw [List.concat_eq_append] at *
    rw [lastX_snoc]
    rcases List.mem_append.1 hp with h1 | h1
    · have := (List.pairwise_append.1 h.1).2.2 p h1 z (by simp); omega
    · rw [List.mem_singleton.1 h1]; exact Nat.le_refl _
theorem GoodX.last_le {x : XL} (h : GoodX x) : lastX x ≤ 72057594037927935 := by
  rcases List.eq_nil_or_concat x with rfl | ⟨y, z, rfl⟩
  · rw [lastX_nil]; omega
  · rw [List.concat_eq_append] at *
    rw [lastX_snoc]; exact (h.2 z (by simp)).2.2
theorem GoodX.snoc {x : XL} (h : GoodX x) {o : OpE} {q : Nat} (ho : ocheck o = 0) (h1 : 1 ≤ q) (h2 : q ≤ 72057594037927935) (h3 : lastX x < q) : GoodX (x ++ [(o, q)]) := by
  refine ⟨List.pairwise_append.2 ⟨h.1, List.pairwise_singleton _ _, fun a ha b hb => ?_⟩, fun p hp => ?_⟩
  · rw [List.mem_singleton.1 hb]
    have := h.le_last ha
    show a.2 < q; omega
  · rcases List.mem_append.1 hp with hp | hp
    · exact h.2 p hp
    · rw [List.mem_singleton.1 hp]; exact ⟨ho, h1, h2⟩
theorem spansX_snoc (x : XL) (p : OpE × Nat) : spansX (x ++ [p]) = if isR p.1 then spansX x ++ [spanO p] else spansX x := by
  unfold spansX
  rw [List.filter_append]
  by_cases h : isR p.1 = true <;> simp [h]
theorem entsX_snoc (x : XL) (p : OpE × Nat) : entsX (x ++ [p]) = if isR p.1 then entsX x else insF (entsX x) (entO p) := by
  unfold entsX
  rw [List.filter_append]
  by_cases h : isR p.1 = true <;> simp [h]
theorem sizeX_snoc (x : XL) (p : OpE × Nat) : sizeX (x ++ [p]) = sizeX x + opW p.1 := by
  unfold sizeX; rw [List.map_append, List.sum_append]; simp
theorem mem_insF {out : List Ent} {e y : Ent} : y ∈ insF out e ↔ y = e ∨ y ∈ out := by
  unfold insF
  simp only [List.mem_append, List.mem_cons, List.mem_filter, decide_eq_true_eq, Bool.not_eq_true', decide_eq_false_iff_not]
  by_cases h : kcmp y.key e.key < 0
  · simp only [h, and_true, not_true_eq_false, and_false, or_false]; exact or_comm
  · simp only [h, and_false, not_false_eq_true, and_true, false_or]
theorem mem_foldl_insF : ∀ {l : List Ent} {out : List Ent} {y : Ent}, y ∈ l.foldl insF out ↔ y ∈ out ∨ y ∈ l
  | [], out, y => by simp
  | e :: l, out, y => by
    rw [List.foldl_cons, mem_foldl_insF, mem_insF, List.mem_cons]
    constructor
    · rintro ((h | h) | h)
      · exact .inr (.inl h)
      · exact .inl h
      · exact .inr (.inr h)
    · rintro (h | h | h)
      · exact .inl (.inr h)
      · exact .inl (.inl h)
      · exact .inr h
theorem mem_entsX {x : XL} {e : Ent} : e ∈ entsX x ↔ ∃ p ∈ x, isR p.1 = false ∧ entO p = e := by
  unfold entsX
  rw [mem_foldl_insF]
  simp only [List.not_mem_nil, false_or, List.mem_map, List.mem_filter, Bool.not_eq_true']
  constructor
  · rintro ⟨p, ⟨h1, h2⟩, h3⟩; exact ⟨p, h1, h2, h3⟩
  · rintro ⟨p, h1, h2, h3⟩; exact ⟨p, ⟨h1, h2⟩, h3⟩
theorem mem_spansX {x : XL} {e : SpanE} : e ∈ spansX x ↔ ∃ p ∈ x, isR p.1 = true ∧ spanO p = e := by
  unfold spansX
  simp only [List.mem_map, List.mem_filter]
  constructor
  · rintro ⟨p, ⟨h1, h2⟩, h3⟩; exact ⟨p, h1, h2, h3⟩
  · rintro ⟨p, h1, h2, h3⟩; exact ⟨p, ⟨h1, h2⟩, h3⟩
theorem sorted_insF {out : List Ent} {e : Ent} (h : SortedE out) (hn : ∀ y ∈ out, y.key ≠ e.key) : SortedE (insF out e) := by
  unfold SortedE insF at *
  rw [List.pairwise_append]
  refine ⟨h.filter _, List.pairwise_cons.2 ⟨fun y hy => ?_, h.filter _⟩, fun a ha b hb => ?_⟩
  · simp only [List.mem_filter, Bool.not_eq_true', decide_eq_false_iff_not] at hy
    rcases kcmp_total y.key e.key with h1 | h1 | h1
    · exact absurd h1 hy.2
    · exact absurd h1 (hn y hy.1)
    · exact h1
  · simp only [List.mem_filter, decide_eq_true_eq] at ha
    rcases List.mem_cons.1 hb with rfl | hb
    · exact ha.2
    · simp only [List.mem_filter, Bool.not_eq_true', decide_eq_false_iff_not] at hb
      rcases kcmp_total b.key e.key with h1 | h1 | h1
      · exact absurd h1 hb.2
      · exact absurd h1 (hn b hb.1)
      · exact kcmp_trans ha.2 h1
theorem seqO {q : Nat} (h : q ≤ 72057594037927935) : (UInt64.ofNat q).toNat = q := UInt64.toNat_ofNat_of_lt' (show q < 18446744073709551616 by omega)
theorem GoodX.fresh {x : XL} (h : GoodX x) {o : OpE} {q : Nat} (h2 : q ≤ 72057594037927935) (h3 : lastX x < q) : ∀ y ∈ entsX x, y.key ≠ (entO (o, q)).key := by
  intro y hy he
  obtain ⟨p, hp, -, rfl⟩ := mem_entsX.1 hy
  have h4 : (UInt64.ofNat p.2) = UInt64.ofNat q := congrArg Key.seq he
  have h5 := congrArg UInt64.toNat h4
  rw [seqO (h.2 p hp).2.2, seqO h2] at h5
  have := h.le_last hp
  omega
theorem GoodX.front {x : XL} {p : OpE × Nat} (h : GoodX (x ++ [p])) : GoodX x ∧ ocheck p.1 = 0 ∧ 1 ≤ p.2 ∧ p.2 ≤ 72057594037927935 ∧ lastX x < p.2 := by
  have h1 := List.pairwise_append.1 h.1
  have hx : GoodX x := ⟨h1.1, fun y hy => h.2 y (List.mem_append_left _ hy)⟩
  obtain ⟨h2, h3, h4⟩ := h.2 p (by simp)
  refine ⟨hx, h2, h3, h4, ?_⟩
  rcases List.eq_nil_or_concat x with rfl | ⟨y, z, rfl⟩
  · rw [lastX_nil]; omega
  · rw [List.concat_eq_append] at *
    rw [lastX_snoc]
    exact h1.2.2 z (by simp) p (by simp)
theorem GoodX.ind {P : XL → Prop} (h0 : P []) (h1 : ∀ x o q, GoodX x → ocheck o = 0 → 1 ≤ q → q ≤ 72057594037927935 → lastX x < q → P x → P (x ++ [(o, q)])) : ∀ n x, x.length = n → GoodX x → P x
  | 0, x, hn, _ => by rw [List.eq_nil_of_length_eq_zero hn]; exact h0
  | n + 1, x, hn, h => by
    rcases List.eq_nil_or_concat x with rfl | ⟨y, z, rfl⟩
    · simp at hn
    · rw [List.concat_eq_append] at *
      obtain ⟨g1, g2, g3, g4, g5⟩ := h.front
      exact h1 y z.1 z.2 g1 g2 g3 g4 g5 (GoodX.ind h0 h1 n y (by simpa using hn) g1)
theorem GoodX.sorted {x : XL} (h : GoodX x) : SortedE (entsX x) :=
  GoodX.ind (P := fun x => SortedE (entsX x)) (by unfold entsX SortedE; simp) (fun x o q hx _ _ h2 h3 ih => by
    rw [entsX_snoc]
    split
    · exact ih
    · exact sorted_insF ih (hx.fresh h2 h3)) _ x rfl h

theorem icheck_op {o : OpE} {q : Nat} (ho : ocheck o = 0) (h2 : q ≤ 72057594037927935) (hr : isR o = false) : icheck (entO (o, q)).key = 0 := by
  obtain ⟨h3, h4, h5, -⟩ := ocheck_ok ho
  have hr' : ¬ o.kind.toNat = 3 := by simpa [isR] using hr
  unfold icheck icheckI
  show (if (72057594037927935 : Int) < ((UInt64.ofNat q).toNat : Int) ∨ (((o.kind.toNat : Nat) : Int) ≠ 1 ∧ ((o.kind.toNat : Nat) : Int) ≠ 2) then (1 : Int) else if ((o.key.length : Nat) : Int) = 0 then 2 else if (64 : Int) < (o.key.length : Nat) then 3 else 0) = 0
  rw [seqO h2, if_neg (by omega), if_neg (by omega), if_neg (by omega)]
theorem insM_fst (m : List (Ent × Nat)) (e : Ent) (h : Nat) : (insM m e h).map (·.1) = insF (m.map (·.1)) e := by
  unfold insM insF
  rw [List.map_append, List.map_cons, List.filter_map, List.filter_map]
  rfl
/-- An op that is let in. -/
theorem RelX.put {s : MS} {x : XL} (hr : RelX s x) (h : GoodX x) {o : OpE} {q : Nat} (ho : ocheck o = 0) (h1 : 1 ≤ q) (h2 : q ≤ 72057594037927935) (h3 : lastX x < q) {ht : Int} (ht1 : 1 ≤ ht) (ht2 : ht ≤ 8) : RelX (s.put o q ht) (x ++ [(o, q)]) := by
  refine ⟨?_, ?_, ?_, ?_⟩
  · show putL s.l o q = _
    rw [spansX_snoc]
    unfold putL isR
    by_cases hk : o.kind.toNat = 3 <;> simp [hk, hr.l, spanO]
  · show (putM s.m o q ht).map (·.1) = _
    rw [entsX_snoc]
    unfold putM
    by_cases hk : o.kind.toNat = 3
    · rw [if_pos hk, if_pos (by simpa [isR] using hk)]; exact hr.m
    · have hR : isR o = false := by simpa [isR] using hk
      rw [if_neg hk, if_neg (by simpa [isR] using hk)]
      obtain ⟨-, -, -, h4, -⟩ := ocheck_ok ho
      have hi : insR s.m ⟨⟨o.key, UInt64.ofNat q, o.kind⟩, o.val⟩ ht = 0 := by
        unfold insR
        have hc : icheck (⟨o.key, UInt64.ofNat q, o.kind⟩ : Key) = 0 := icheck_op ho h2 hR
        rw [if_neg (by simpa using hc), if_neg (by omega), if_neg (by show ¬ 512 < o.val.length; omega), if_neg]
        rintro ⟨y, hy, hk⟩
        have : y.1 ∈ entsX x := by rw [← hr.m]; exact List.mem_map_of_mem hy
        exact h.fresh (o := o) h2 h3 y.1 this hk
      unfold insN
      rw [if_pos hi, insM_fst, hr.m]; rfl
  · show s.sz + opW o = _
    rw [sizeX_snoc, hr.sz]
  · show q = _
    rw [lastX_snoc]

/-! ### what Get tells -/
def qualX (key : List UInt8) (q : Nat) (p : OpE × Nat) : Bool := decide (p.2 ≤ q) && coversO p.1 key
def tellX : Option (OpE × Nat) → List UInt8 × Int
  | none => ([], 0)
  | some p => if p.1.kind.toNat = 2 then (p.1.val, 1) else ([], 2)
/-- What the last op of at most that number that is of the key makes of it. -/
def getX (x : XL) (key : List UInt8) (q : Nat) : List UInt8 × Int := tellX (x.reverse.find? (qualX key q))

theorem coverE_append (a b : List SpanE) (k : List UInt8) (q : Nat) : coverE (a ++ b) k q = b.foldl (coverStep k q) (coverE a k q) := List.foldl_append ..
theorem coverE_lt {k : List UInt8} {q n : Nat} (hn : 0 < n) : ∀ {l : List SpanE}, (∀ s ∈ l, s.seq.toNat ≤ q → coversB s k = true → s.seq.toNat < n) → coverE l k q < n := by
  intro l
  unfold coverE
  suffices ∀ (l : List SpanE) (c : Nat), c < n → (∀ s ∈ l, s.seq.toNat ≤ q → coversB s k = true → s.seq.toNat < n) → l.foldl (coverStep k q) c < n from this l 0 hn
  intro l
  induction l with
  | nil => intro c hc _; exact hc
  | cons s l ih =>
    intro c hc h
    rw [List.foldl_cons]
    refine ih _ ?_ fun y hy => h y (List.mem_cons_of_mem _ hy)
    unfold coverStep
    split
    · rename_i hs
      have := h s List.mem_cons_self hs.1 hs.2
      omega
    · exact hc
theorem coverE_ge {k : List UInt8} {q : Nat} : ∀ {l : List SpanE} {s : SpanE}, s ∈ l → s.seq.toNat ≤ q → coversB s k = true → s.seq.toNat ≤ coverE l k q := by
  intro l
  unfold coverE
  have mono : ∀ (l : List SpanE) (c : Nat), c ≤ l.foldl (coverStep k q) c := by
    intro l
    induction l with
    | nil => intro c; exact Nat.le_refl _
    | cons s l ih =>
      intro c
      rw [List.foldl_cons]
      refine Nat.le_trans ?_ (ih _)
      unfold coverStep; split <;> omega
  suffices ∀ (l : List SpanE) (c : Nat) (s : SpanE), s ∈ l → s.seq.toNat ≤ q → coversB s k = true → s.seq.toNat ≤ l.foldl (coverStep k q) c from fun {s} h => this l 0 s h
  intro l
  induction l with
  | nil => intro c s hs; cases hs
  | cons y l ih =>
    intro c s hs h1 h2
    rw [List.foldl_cons]
    rcases List.mem_cons.1 hs with rfl | hs
    · refine Nat.le_trans ?_ (mono l _)
      unfold coverStep; rw [if_pos ⟨h1, h2⟩]; omega
    · exact ih _ s hs h1 h2
theorem coverE_zero {k : List UInt8} {q : Nat} {l : List SpanE} (h : ∀ s ∈ l, s.seq.toNat ≤ q → coversB s k = false) : coverE l k q = 0 := by
  have := coverE_lt (k := k) (q := q) (n := 1) (by omega) (l := l) fun s hs h1 h2 => by rw [h s hs h1] at h2; cases h2
  omega

theorem fromE_is {E : List Ent} (h : SortedE E) {k : Key} {e : Ent} (he : e ∈ E) (hk : ¬ kcmp e.key k < 0) (hl : ∀ e' ∈ E, kcmp e'.key e.key < 0 → kcmp e'.key k < 0) : fromE E k = some e := by
  obtain ⟨a, b, rfl⟩ := List.append_of_mem he
  unfold fromE
  rw [List.find?_eq_some_iff_append]
  refine ⟨by simpa using hk, a, b, rfl, fun y hy => ?_⟩
  have h1 := (List.pairwise_append.1 h).2.2 y hy e List.mem_cons_self
  simpa using hl y (List.mem_append_left _ hy) h1
theorem fromE_mem {E : List Ent} {k : Key} {e : Ent} (h : fromE E k = some e) : e ∈ E ∧ ¬ kcmp e.key k < 0 := by
  unfold fromE at h
  have h1 := List.mem_of_find?_eq_some h
  have h2 := List.find?_some h
  exact ⟨h1, by simpa using h2⟩

theorem last_qual {x : XL} (h : GoodX x) {key : List UInt8} {q : Nat} {p : OpE × Nat} (hf : x.reverse.find? (qualX key q) = some p) : p ∈ x ∧ qualX key q p = true ∧ ∀ y ∈ x, qualX key q y = true → y = p ∨ y.2 < p.2 := by
  rw [List.find?_eq_some_iff_append] at hf
  obtain ⟨h1, a, b, hx, ha⟩ := hf
  have hx2 : x = b.reverse ++ p :: a.reverse := by
    have := congrArg List.reverse hx
    simpa using this
  refine ⟨by rw [hx2]; simp, h1, fun y hy hq => ?_⟩
  rw [hx2] at hy
  rcases List.mem_append.1 hy with hy | hy
  · have h2 := h.1
    rw [hx2] at h2
    exact .inr ((List.pairwise_append.1 h2).2.2 y hy p List.mem_cons_self)
  · rcases List.mem_cons.1 hy with rfl | hy
    · exact .inl rfl
    · have := ha y (by simpa using hy)
      rw [hq] at this; cases this
theorem isR_kind {o : OpE} : isR o = true ↔ o.kind.toNat = 3 := by simp [isR]
theorem coversB_seq (a b : List UInt8) (n m : UInt64) (k : List UInt8) : coversB ⟨a, b, n⟩ k = coversB ⟨a, b, m⟩ k := rfl
theorem qual_ent {x : XL} (h : GoodX x) {p : OpE × Nat} (hp : p ∈ x) (hR : isR p.1 = false) {key : List UInt8} {q : Nat} : qualX key q p = true ↔ (entO p).key.user = key ∧ (entO p).key.seq.toNat ≤ q := by
  have h1 := (h.2 p hp).2.2
  have hR' : ¬ p.1.kind.toNat = 3 := fun hk => by rw [isR_kind.2 hk] at hR; cases hR
  unfold qualX coversO
  rw [if_neg hR']
  show _ ↔ p.1.key = key ∧ (UInt64.ofNat p.2).toNat ≤ q
  rw [seqO h1]
  simp [and_comm]
theorem qual_span {x : XL} (h : GoodX x) {p : OpE × Nat} (hp : p ∈ x) (hR : isR p.1 = true) {key : List UInt8} {q : Nat} : qualX key q p = true ↔ (spanO p).seq.toNat ≤ q ∧ coversB (spanO p) key = true := by
  have h1 := (h.2 p hp).2.2
  unfold qualX coversO
  rw [if_pos (isR_kind.1 hR)]
  show _ ↔ (UInt64.ofNat p.2).toNat ≤ q ∧ _
  rw [seqO h1]
  simp [spanO, coversB_seq p.1.key p.1.val _ 0]
/-- Of the spans: below what the last one is, or it. -/
theorem cover_below {x : XL} (h : GoodX x) {key : List UInt8} {q n : Nat} (hn : 0 < n) (hall : ∀ y ∈ x, isR y.1 = true → qualX key q y = true → y.2 < n) : coverE (spansX x) key q < n :=
  coverE_lt hn fun s hs h1 h2 => by
    obtain ⟨p, hp, hR, rfl⟩ := mem_spansX.1 hs
    have := hall p hp hR ((qual_span h hp hR).2 ⟨h1, h2⟩)
    show (UInt64.ofNat p.2).toNat < n
    rw [seqO (h.2 p hp).2.2]; exact this
theorem cover_is {x : XL} (h : GoodX x) {key : List UInt8} {q : Nat} {p : OpE × Nat} (hp : p ∈ x) (hR : isR p.1 = true) (hq : qualX key q p = true) (hall : ∀ y ∈ x, qualX key q y = true → y = p ∨ y.2 < p.2) : coverE (spansX x) key q = p.2 := by
  have h1 := coverE_ge (mem_spansX.2 ⟨p, hp, hR, rfl⟩) ((qual_span h hp hR).1 hq).1 ((qual_span h hp hR).1 hq).2
  have h2 : (spanO p).seq.toNat = p.2 := seqO (h.2 p hp).2.2
  have h3 := cover_below h (key := key) (q := q) (n := p.2 + 1) (by omega) fun y hy _ hq => by
    rcases hall y hy hq with rfl | h <;> omega
  omega

theorem get_rel {s : MS} {x : XL} (hr : RelX s x) (h : GoodX x) (key : List UInt8) (q : Nat) : getE s key q = getX x key q := by
  have hmin : (UInt64.ofNat (min q 72057594037927935)).toNat = min q 72057594037927935 := seqO (by omega)
  have told : ∀ e, toldE s key q = some e → e.key.user = key → ∃ p ∈ x, isR p.1 = false ∧ entO p = e ∧ qualX key q p = true := by
    intro e he hu
    unfold toldE at he
    rw [hr.m] at he
    obtain ⟨h1, h2⟩ := fromE_mem he
    obtain ⟨p, hp, hR, rfl⟩ := mem_entsX.1 h1
    refine ⟨p, hp, hR, rfl, (qual_ent h hp hR).2 ⟨hu, ?_⟩⟩
    rw [kcmp_neg] at h2
    have h3 : ¬ (UInt64.ofNat (min q 72057594037927935)).toNat < (entO p).key.seq.toNat := fun h3 => h2 (.inr ⟨hu, .inl h3⟩)
    omega
  unfold getE getX
  rw [hr.l]
  cases hf : x.reverse.find? (qualX key q) with
  | none =>
    have hno : ∀ y ∈ x, qualX key q y = false := fun y hy => by
      have := List.find?_eq_none.1 hf y (by simpa using hy)
      simpa using this
    have hc : coverE (spansX x) key q = 0 := by
      have := cover_below h (key := key) (q := q) (n := 1) (by omega) fun y hy _ hq => by rw [hno y hy] at hq; cases hq
      omega
    unfold getV tellX
    rw [if_neg, if_pos hc]
    rintro ⟨h1, h2⟩
    obtain ⟨e, he⟩ := Option.isSome_iff_exists.1 h1
    rw [he] at h2
    obtain ⟨p, hp, -, -, hq⟩ := told e he (by simpa using h2)
    rw [hno p hp] at hq; cases hq
  | some p =>
    obtain ⟨hp, hq, hall⟩ := last_qual h hf
    have hp1 := (h.2 p hp).2.1
    have hp2 := (h.2 p hp).2.2
    have hk := (ocheck_ok (h.2 p hp).1).1
    cases hR : isR p.1 with
    | true =>
      have hk3 := isR_kind.1 hR
      have hc := cover_is h hp hR hq hall
      rw [hc]
      unfold getV tellX
      simp only
      rw [if_neg (show ¬ p.1.kind.toNat = 2 by omega)]
      split
      · rename_i hh
        obtain ⟨h1, h2⟩ := hh
        obtain ⟨e, he⟩ := Option.isSome_iff_exists.1 h1
        rw [he] at h2 ⊢
        obtain ⟨y, hy, hyR, rfl, hyq⟩ := told e he (by simpa using h2)
        rw [if_pos]
        refine .inl ?_
        rcases hall y hy hyq with rfl | hlt
        · rw [hR] at hyR; cases hyR
        · show (UInt64.ofNat y.2).toNat < p.2
          rw [seqO (h.2 y hy).2.2]; exact hlt
      · rw [if_neg (by omega)]
    | false =>
      have hk3 : ¬ p.1.kind.toNat = 3 := fun hk => by rw [isR_kind.2 hk] at hR; cases hR
      obtain ⟨hu, hs⟩ := (qual_ent h hp hR).1 hq
      have hse : (entO p).key.seq.toNat = p.2 := seqO hp2
      have ht : toldE s key q = some (entO p) := by
        unfold toldE
        rw [hr.m]
        refine fromE_is h.sorted (mem_entsX.2 ⟨p, hp, hR, rfl⟩) (fun hlt => ?_) fun e' he' hlt => ?_
        · rw [kcmp_neg] at hlt
          rcases hlt with hlt | ⟨-, hlt | ⟨-, hlt⟩⟩
          · rw [hu, (bcmp_zero key key).2 rfl] at hlt; omega
          · have : (UInt64.ofNat (min q 72057594037927935)).toNat < (entO p).key.seq.toNat := hlt
            omega
          · have h4 : (2 : Nat) < p.1.kind.toNat := hlt
            omega
        · obtain ⟨y, hy, hyR, rfl⟩ := mem_entsX.1 he'
          rw [kcmp_neg] at hlt ⊢
          rcases hlt with hlt | ⟨hu', hlt⟩
          · rw [hu] at hlt; exact .inl hlt
          · refine .inr ⟨by rw [hu', hu], .inl ?_⟩
            show (UInt64.ofNat (min q 72057594037927935)).toNat < (entO y).key.seq.toNat
            have hys : (entO y).key.seq.toNat = y.2 := seqO (h.2 y hy).2.2
            have hnq : ¬ (entO y).key.seq.toNat ≤ q := fun hle => by
              rcases hall y hy ((qual_ent h hy hyR).2 ⟨by rw [hu', hu], hle⟩) with rfl | hlt2
              · rcases hlt with hlt | ⟨-, hlt⟩ <;> omega
              · rcases hlt with hlt | ⟨hlt, -⟩
                · omega
                · have := congrArg UInt64.toNat hlt; omega
            omega
      have hc : coverE (spansX x) key q < p.2 := cover_below h (by omega) fun y hy hyR hyq => by
        rcases hall y hy hyq with rfl | hlt
        · rw [hR] at hyR; cases hyR
        · exact hlt
      rw [ht]
      unfold getV tellX
      simp only [Option.isSome_some, Option.getD_some, true_and]
      rw [if_pos (by simpa using hu)]
      by_cases h2 : p.1.kind.toNat = 2
      · rw [if_neg, if_pos h2]; rfl
        rintro (h3 | h3)
        · omega
        · have : p.1.kind.toNat = 1 := h3
          omega
      · rw [if_pos (.inr (by show p.1.kind.toNat = 1; omega)), if_neg h2]
end Go.Proofs.Yteaanagljmcidaa
namespace Go.Proofs.Yteaanagljmcidaa
open Go.RowKit

theorem getX_snoc (x : XL) (p : OpE × Nat) (key : List UInt8) (q : Nat) : getX (x ++ [p]) key q = if qualX key q p then tellX (some p) else getX x key q := by
  unfold getX
  rw [List.reverse_append, List.reverse_singleton, List.singleton_append, List.find?_cons]
  cases qualX key q p <;> rfl
theorem getX_nil (key : List UInt8) (q : Nat) : getX [] key q = ([], 0) := rfl
/-- What was found as of a number stays. -/
theorem getX_stays (x : XL) {key : List UInt8} {q : Nat} : ∀ y : XL, (∀ p ∈ y, q < p.2) → getX (x ++ y) key q = getX x key q := by
  intro y h
  unfold getX
  rw [List.reverse_append, List.find?_append]
  have : y.reverse.find? (qualX key q) = none := List.find?_eq_none.2 fun p hp => by
    have := h p (by simpa using hp)
    unfold qualX
    simp; omega
  rw [this]; rfl

theorem find_x {x : XL} (h : GoodX x) (key : List UInt8) (q : Nat) : findE (entsX x) (spansX x) key q = getX x key q := by
  have fit : ∀ {p}, p ∈ x → isR p.1 = false → (fitsK key q (entO p) = true ↔ qualX key q p = true) := fun hp hR => by
    rw [qual_ent h hp hR]; simp [fitsK]
  unfold findE getX
  rw [findF_sorted h.sorted]
  cases hf : x.reverse.find? (qualX key q) with
  | none =>
    have hno : ∀ y ∈ x, qualX key q y = false := fun y hy => by
      have := List.find?_eq_none.1 hf y (by simpa using hy)
      simpa using this
    have hc : coverE (spansX x) key q = 0 := by
      have := cover_below h (key := key) (q := q) (n := 1) (by omega) fun y hy _ hq => by rw [hno y hy] at hq; cases hq
      omega
    have hn : (entsX x).find? (fitsK key q) = none := List.find?_eq_none.2 fun e he h1 => by
      obtain ⟨p, hp, hR, rfl⟩ := mem_entsX.1 he
      have := (fit hp hR).1 h1
      rw [hno p hp] at this; cases this
    rw [hn, hc]
    rfl
  | some p =>
    obtain ⟨hp, hq, hall⟩ := last_qual h hf
    have hp1 := (h.2 p hp).2.1
    have hp2 := (h.2 p hp).2.2
    have hk := (ocheck_ok (h.2 p hp).1).1
    cases hR : isR p.1 with
    | true =>
      have hk3 := isR_kind.1 hR
      have hc := cover_is h hp hR hq hall
      rw [hc]
      unfold tellX
      simp only
      rw [if_neg (show ¬ p.1.kind.toNat = 2 by omega), if_pos]
      cases he : (entsX x).find? (fitsK key q) with
      | none => exact .inl (by show 0 < p.2; omega)
      | some e =>
        have h1 := List.mem_of_find?_eq_some he
        have h2 := List.find?_some he
        obtain ⟨y, hy, hyR, rfl⟩ := mem_entsX.1 h1
        rcases hall y hy ((fit hy hyR).1 h2) with rfl | hlt
        · rw [hR] at hyR; cases hyR
        · refine .inl ?_
          show (UInt64.ofNat y.2).toNat < p.2
          rw [seqO (h.2 y hy).2.2]; exact hlt
    | false =>
      have hk3 : ¬ p.1.kind.toNat = 3 := fun hk => by rw [isR_kind.2 hk] at hR; cases hR
      have hse : (entO p).key.seq.toNat = p.2 := seqO hp2
      have hc : coverE (spansX x) key q < p.2 := cover_below h (by omega) fun y hy hyR hyq => by
        rcases hall y hy hyq with rfl | hlt
        · rw [hR] at hyR; cases hyR
        · exact hlt
      have hs := find_is h.sorted (mem_entsX.2 ⟨p, hp, hR, rfl⟩) ((fit hp hR).2 hq) fun e he h1 => by
        obtain ⟨y, hy, hyR, rfl⟩ := mem_entsX.1 he
        rcases hall y hy ((fit hy hyR).1 h1) with rfl | hlt
        · exact .inl rfl
        · right
          show (UInt64.ofNat y.2).toNat < _
          rw [seqO (h.2 y hy).2.2, hse]; exact hlt
      rw [hs]
      unfold tellF tellX
      simp only
      rw [if_neg]
      · by_cases h2 : p.1.kind.toNat = 2
        · rw [if_pos h2, if_neg (show ¬ (entO p).key.kind.toNat = 1 from by show ¬ p.1.kind.toNat = 1; omega)]; rfl
        · rw [if_neg h2, if_pos (show (entO p).key.kind.toNat = 1 from by show p.1.kind.toNat = 1; omega)]
      · rintro (h1 | ⟨-, h1⟩)
        · omega
        · revert h1; split <;> simp

def opsX (x : XL) : List OpE := x.map (·.1)
theorem mem_map {x : XL} (h : GoodX x) : ∀ p : PairE, p ∈ applyAllE [] (opsX x) ↔ getX x p.key 72057594037927935 = (p.val, 1) :=
  GoodX.ind (P := fun x => ∀ p : PairE, p ∈ applyAllE [] (opsX x) ↔ getX x p.key 72057594037927935 = (p.val, 1)) (fun p => by simp [applyAllE, opsX, getX_nil]) (fun x o q hx ho _ h2 h3 ih p => by
    have hk := (ocheck_ok ho).1
    have he : applyAllE [] (opsX (x ++ [(o, q)])) = applyE (applyAllE [] (opsX x)) o := by
      unfold applyAllE opsX
      rw [List.map_append, List.foldl_append]; rfl
    have hq : qualX p.key 72057594037927935 (o, q) = coversO o p.key := by unfold qualX; simp [h2]
    rw [he, mem_applyE, getX_snoc, hq, ih p]
    cases hc : coversO o p.key with
    | true =>
      simp only [if_true, Bool.true_eq_false, and_false, or_false]
      unfold tellX
      simp only
      by_cases h2 : o.kind.toNat = 2
      · rw [if_pos h2]
        have hkey : o.key = p.key := by unfold coversO at hc; rw [if_neg (by omega)] at hc; simpa using hc
        constructor
        · rintro ⟨rfl, -⟩; rfl
        · intro h4
          refine ⟨?_, h2⟩
          cases p
          simp only [Prod.mk.injEq, and_true] at h4
          simp only at hkey
          simp [newP, h4, hkey]
      · rw [if_neg h2]
        simp [h2]
    | false =>
      simp only [Bool.false_eq_true, if_false, and_true]
      constructor
      · rintro (⟨rfl, h4⟩ | h)
        · exfalso
          unfold coversO newP at hc
          rw [if_neg (by omega)] at hc
          simp at hc
        · exact h
      · exact .inr) _ x rfl h
theorem map_has {x : XL} (h : GoodX x) (key : List UInt8) : (∃ p ∈ applyAllE [] (opsX x), p.key = key) ↔ (getX x key 72057594037927935).2 = 1 := by
  constructor
  · rintro ⟨p, hp, rfl⟩
    rw [(mem_map h p).1 hp]
  · intro h1
    refine ⟨⟨key, (getX x key 72057594037927935).1⟩, (mem_map h _).2 ?_, rfl⟩
    rw [← h1]
/-- A key of an op isn't unknown. -/
theorem map_known {x : XL} (h : GoodX x) {p : OpE × Nat} (hp : p ∈ x) : (getX x p.1.key 72057594037927935).2 ≠ 0 := by
  obtain ⟨h1, h2, h3, h4, h5, h6⟩ := ocheck_ok (h.2 p hp).1
  have hq : qualX p.1.key 72057594037927935 p = true := by
    unfold qualX
    have hc : coversO p.1 p.1.key = true := by
      unfold coversO
      split
      · rename_i hk
        unfold coversB
        have : Op.bytesLess p.1.key p.1.key = false := by
          rw [← bcmp_neg, (bcmp_zero _ _).2 rfl]; rfl
        simp [this, (h5 hk).2]
      · simp
    simp [(h.2 p hp).2.2, hc]
  unfold getX
  cases hf : x.reverse.find? (qualX p.1.key 72057594037927935) with
  | none => exact absurd hq (List.find?_eq_none.1 hf p (by simpa using hp))
  | some y => unfold tellX; simp only; split <;> simp
end Go.Proofs.Yteaanagljmcidaa
namespace Go.Proofs.Yteaanagljmcidaa
open Go.RowKit

def seqX (x : XL) (ops : List OpE) (q : Nat) : Nat → XL
  | 0 => x
  | i + 1 => match ops[i]? with
    | none => seqX x ops q i
    | some o => seqX x ops q i ++ [(o, q + i)]
theorem seqX_succ {x : XL} {ops : List OpE} {q i : Nat} (hi : i < ops.length) : seqX x ops q (i + 1) = seqX x ops q i ++ [(ops[i], q + i)] := by
  rw [seqX, List.getElem?_eq_getElem hi]
theorem seqX_len (x : XL) (ops : List OpE) (q : Nat) : ∀ i, i ≤ ops.length → (seqX x ops q i).length = x.length + i
  | 0, _ => rfl
  | i + 1, hi => by rw [seqX_succ (by omega), List.length_append, seqX_len x ops q i (by omega)]; simp; omega
theorem batR_ok {last : Nat} {l : List OpE} {q : Nat} {hs : List Int} (h : batR last l q hs = 0) : (∀ o ∈ l, ocheck o = 0) ∧ l.length ≤ 64 ∧ 1 ≤ q ∧ q ≤ 72057594037927935 ∧ (∀ i, i < l.length → q + i ≤ 72057594037927935) ∧ tallL l.length hs ∧ last < q := by
  unfold batR at h
  have h1 : bcheck l = 0 := by
    apply Classical.byContradiction; intro hc; rw [if_pos hc] at h; exact hc h
  rw [if_neg (by simpa using h1)] at h
  have h2 : ¬ (q = 0 ∨ 72057594037927935 < q ∨ 72057594037927935 < q + (max l.length 1 - 1)) := fun hc => by rw [if_pos hc] at h; cases h
  rw [if_neg h2] at h
  have h3 : tallL l.length hs := by
    apply Classical.byContradiction; intro hc; rw [if_pos hc] at h; cases h
  rw [if_neg (by simpa using h3)] at h
  have h4 : ¬ q ≤ last := fun hc => by rw [if_pos hc] at h; cases h
  have h5 : l.length ≤ 64 := by
    apply Classical.byContradiction; intro hc; unfold bcheck at h1; rw [if_pos (by omega)] at h1; cases h1
  refine ⟨?_, h5, by omega, by omega, fun i hi => by omega, h3, by omega⟩
  unfold bcheck at h1
  rw [if_neg (by omega)] at h1
  exact bcheckL_ok h1
theorem doR_ok {last : Nat} {o : OpE} {q : Nat} {ht : Int} (h : doR last o q ht = 0) : ocheck o = 0 ∧ 1 ≤ q ∧ q ≤ 72057594037927935 ∧ 1 ≤ ht ∧ ht ≤ 8 ∧ last < q := by
  unfold doR at h
  have h1 : ocheck o = 0 := by
    apply Classical.byContradiction; intro hc; rw [if_pos hc] at h; exact hc h
  rw [if_neg (by simpa using h1)] at h
  have h2 : ¬ (q = 0 ∨ 72057594037927935 < q) := fun hc => by rw [if_pos hc] at h; cases h
  rw [if_neg h2] at h
  have h3 : ¬ (ht < 1 ∨ 8 < ht) := fun hc => by rw [if_pos hc] at h; cases h
  rw [if_neg h3] at h
  have h4 : ¬ q ≤ last := fun hc => by rw [if_pos hc] at h; cases h
  exact ⟨h1, by omega, by omega, by omega, by omega, by omega⟩
theorem doR_good {last : Nat} {o : OpE} {q : Nat} {ht : Int} (h1 : ocheck o = 0) (h2 : 1 ≤ q) (h3 : q ≤ 72057594037927935) (h4 : 1 ≤ ht) (h5 : ht ≤ 8) (h6 : last < q) : doR last o q ht = 0 := by
  unfold doR
  rw [if_neg (by simpa using h1), if_neg (by omega), if_neg (by omega), if_neg (by omega)]
theorem rel_do {s : MS} {x : XL} (hr : RelX s x) (hg : GoodX x) {o : OpE} {q : Nat} {ht : Int} (hc : doR s.last o q ht = 0) : GoodX (x ++ [(o, q)]) ∧ RelX (s.put o q ht) (x ++ [(o, q)]) := by
  obtain ⟨h1, h2, h3, h4, h5, h6⟩ := doR_ok hc
  rw [hr.last] at h6
  exact ⟨hg.snoc h1 h2 h3 h6, hr.put hg h1 h2 h3 h6 h4 h5⟩
/-- A batch, on both. -/
theorem rel_bat {s : MS} {x : XL} (hr : RelX s x) (hg : GoodX x) {ops : List OpE} {q : Nat} (ho : ∀ o ∈ ops, ocheck o = 0) (h1 : 1 ≤ q) (h2 : ∀ i, i < ops.length → q + i ≤ 72057594037927935) (h3 : s.last < q) {hs : List Int} (ht : tallL ops.length hs) : ∀ i, i ≤ ops.length → GoodX (seqX x ops q i) ∧ RelX (batN s ops q hs i) (seqX x ops q i) ∧ lastX (seqX x ops q i) < q + i
  | 0, _ => ⟨hg, hr, by show lastX x < q; rw [← hr.last]; exact h3⟩
  | i + 1, hi => by
    obtain ⟨g1, g2, g3⟩ := rel_bat hr hg ho h1 h2 h3 ht i (by omega)
    have hlt : i < ops.length := by omega
    have hoi := ho _ (List.getElem_mem hlt)
    have hh : 1 ≤ hs[i]?.getD 1 ∧ hs[i]?.getD 1 ≤ 8 := by
      by_cases hih : i < hs.length
      · rw [List.getElem?_eq_getElem hih]; exact ht i hlt hih
      · rw [List.getElem?_eq_none (by omega)]; decide
    rw [seqX_succ hlt, batN_succ hlt]
    refine ⟨g1.snoc hoi (by omega) (h2 i hlt) g3, g2.put g1 hoi (by omega) (h2 i hlt) g3 hh.1 hh.2, ?_⟩
    rw [lastX_snoc]
    show q + i < q + (i + 1)
    omega
theorem tallL_nil (n : Nat) : tallL n [] := fun i _ hi => absurd hi (by simp)
theorem tallL_of {n : Nat} {hs : List Int} (h : ∀ x ∈ hs, 1 ≤ x ∧ x ≤ 8) : tallL n hs := fun i _ hi => h _ (List.getElem_mem hi)

/-! ### what a batch is -/
theorem bat_same {l : List OpE} {q : Nat} {hs : List Int} (hc : batR 0 l q hs = 0) :
    (∀ i (hi : i < l.length), doR (batN ⟨[], [], 0, 0⟩ l q [] i).last l[i] (q + i) 1 = 0) ∧
      (batN ⟨[], [], 0, 0⟩ l q hs l.length).m.map (·.1) = (batN ⟨[], [], 0, 0⟩ l q [] l.length).m.map (·.1) ∧ (batN ⟨[], [], 0, 0⟩ l q hs l.length).l = (batN ⟨[], [], 0, 0⟩ l q [] l.length).l ∧
      (batN ⟨[], [], 0, 0⟩ l q hs l.length).sz = (batN ⟨[], [], 0, 0⟩ l q [] l.length).sz ∧ (batN ⟨[], [], 0, 0⟩ l q hs l.length).last = (batN ⟨[], [], 0, 0⟩ l q [] l.length).last := by
  obtain ⟨h1, h2, h3, h4, h5, h6, h7⟩ := batR_ok hc
  have A := rel_bat RelX.nil GoodX.nil h1 h3 h5 h7 h6 l.length (Nat.le_refl _)
  have B := rel_bat RelX.nil GoodX.nil h1 h3 h5 h7 (tallL_nil l.length)
  obtain ⟨-, B1, -⟩ := B l.length (Nat.le_refl _)
  obtain ⟨-, A1, -⟩ := A
  refine ⟨fun i hi => ?_, by rw [A1.m, B1.m], by rw [A1.l, B1.l], by rw [A1.sz, B1.sz], by rw [A1.last, B1.last]⟩
  obtain ⟨C1, C2, C3⟩ := B i (by omega)
  exact doR_good (h1 _ (List.getElem_mem hi)) (by omega) (h5 i hi) (by decide) (by decide) (by rw [C2.last]; exact C3)
end Go.Proofs.Yteaanagljmcidaa
