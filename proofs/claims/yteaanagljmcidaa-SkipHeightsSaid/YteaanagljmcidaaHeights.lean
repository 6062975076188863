/- law08: heights play no part: plain data. -/
import Derived.Test.YteaanagljmcidaaSkM
namespace Go.Proofs.Yteaanagljmcidaa

def SortedE (l : List Ent) : Prop := l.Pairwise fun a b => kcmp a.key b.key < 0
theorem sortedE_of {m : List (Ent × Nat)} (h : SortedM m) : SortedE (m.map (·.1)) := by
  unfold SortedE; rw [List.pairwise_map]; exact h

/-- Two lists in order that have the same members are one. -/
theorem sorted_eq : ∀ {a b : List Ent}, SortedE a → SortedE b → (∀ x, x ∈ a ↔ x ∈ b) → a = b
  | [], [], _, _, _ => rfl
  | [], y :: b, _, _, h => absurd ((h y).2 List.mem_cons_self) (by simp)
  | x :: a, [], _, _, h => absurd ((h x).1 List.mem_cons_self) (by simp)
  | x :: a, y :: b, ha, hb, h => by
    have ha' := List.pairwise_cons.1 ha
    have hb' := List.pairwise_cons.1 hb
    have hxy : x = y := by
      rcases List.mem_cons.1 ((h x).1 List.mem_cons_self) with e | hx
      · exact e
      rcases List.mem_cons.1 ((h y).2 List.mem_cons_self) with e | hy
      · exact e.symm
      exact absurd (kcmp_trans (hb'.1 x hx) (ha'.1 y hy)) (kcmp_irrefl _)
    subst hxy
    have hirr : ∀ {l : List Ent}, (∀ z ∈ l, kcmp x.key z.key < 0) → x ∉ l := fun hl hx => kcmp_irrefl _ (hl x hx)
    rw [sorted_eq ha'.2 hb'.2 fun z => ?_]
    constructor
    · intro hz
      rcases List.mem_cons.1 ((h z).1 (List.mem_cons_of_mem _ hz)) with e | hz'
      · subst e; exact absurd hz (hirr ha'.1)
      · exact hz'
    · intro hz
      rcases List.mem_cons.1 ((h z).2 (List.mem_cons_of_mem _ hz)) with e | hz'
      · subst e; exact absurd hz (hirr hb'.1)
      · exact hz'

def Valid (e : Ent) : Prop := icheck e.key = 0 ∧ e.value.length ≤ 512

theorem insR_zero {m : List (Ent × Nat)} {e : Ent} {h : Int} (h1 : 1 ≤ h) (h8 : h ≤ 8) : insR m e h = 0 ↔ Valid e ∧ ∀ x ∈ m, x.1.key ≠ e.key := by
  unfold insR Valid
  by_cases hc : icheck e.key = 0
  · rw [if_neg (by simpa using hc), if_neg (by omega)]
    by_cases hl : 512 < e.value.length
    · rw [if_pos hl]
      constructor
      · intro h; cases h
      · intro h; omega
    · rw [if_neg hl]
      by_cases he : ∃ x ∈ m, x.1.key = e.key
      · rw [if_pos he]
        obtain ⟨x, hx, hk⟩ := he
        constructor
        · intro h; cases h
        · intro h; exact absurd hk (h.2 x hx)
      · rw [if_neg he]
        simp only [true_iff]
        exact ⟨⟨hc, by omega⟩, fun x hx hk => he ⟨x, hx, hk⟩⟩
  · rw [if_pos hc]
    constructor
    · intro h; exact absurd h hc
    · intro h; exact absurd h.1.1 hc

theorem mem_insM {m : List (Ent × Nat)} {e : Ent} {h : Nat} {x : Ent} : x ∈ (insM m e h).map (·.1) ↔ x = e ∨ x ∈ m.map (·.1) := by
  unfold insM
  simp only [List.map_append, List.map_cons, List.mem_append, List.mem_cons, List.mem_map, List.mem_filter]
  constructor
  · rintro (⟨y, hy, rfl⟩ | rfl | ⟨y, hy, rfl⟩)
    · exact .inr ⟨y, hy.1, rfl⟩
    · exact .inl rfl
    · exact .inr ⟨y, hy.1, rfl⟩
  · rintro (rfl | ⟨y, hy, rfl⟩)
    · exact .inr (.inl rfl)
    · by_cases hp : aheadM e.key y = true
      · exact .inl ⟨y, ⟨hy, hp⟩, rfl⟩
      · exact .inr (.inr ⟨y, ⟨hy, by simpa using hp⟩, rfl⟩)

/-- Of entries whose keys differ, whatever the heights and the order: just the valid ones stand there. -/
def Holds (m : List (Ent × Nat)) (es : List Ent) : Prop := ∀ x, x ∈ m.map (·.1) ↔ x ∈ es ∧ Valid x
theorem Holds.ins {m : List (Ent × Nat)} {es : List Ent} (h : Holds m es) {e : Ent} (hk : ∀ x ∈ es, x.key ≠ e.key) {t : Int} (h1 : 1 ≤ t) (h8 : t ≤ 8) : Holds (insN m e t) (es ++ [e]) := by
  intro x
  have hno : ∀ y ∈ m, y.1.key ≠ e.key := fun y hy => hk _ ((h y.1).1 (List.mem_map.2 ⟨y, hy, rfl⟩)).1
  have hz := insR_zero (m := m) (e := e) h1 h8
  unfold insN
  by_cases hv : Valid e
  · rw [if_pos (hz.2 ⟨hv, hno⟩), mem_insM, h x]
    simp only [List.mem_append, List.mem_singleton]
    constructor
    · rintro (rfl | ⟨ha, hb⟩)
      · exact ⟨.inr rfl, hv⟩
      · exact ⟨.inl ha, hb⟩
    · rintro ⟨ha | rfl, hb⟩
      · exact .inr ⟨ha, hb⟩
      · exact .inl rfl
  · rw [if_neg (fun hh => hv (hz.1 hh).1), h x]
    simp only [List.mem_append, List.mem_singleton]
    constructor
    · rintro ⟨ha, hb⟩
      exact ⟨.inl ha, hb⟩
    · rintro ⟨ha | rfl, hb⟩
      · exact ⟨ha, hb⟩
      · exact absurd hb hv
theorem Holds.nil : Holds [] [] := fun x => by simp

theorem sizeM_fst : ∀ {a b : List (Ent × Nat)}, a.map (·.1) = b.map (·.1) → sizeM a = sizeM b
  | [], [], _ => rfl
  | [], _ :: _, h => by simp at h
  | _ :: _, [], h => by simp at h
  | x :: a, y :: b, h => by
    simp only [List.map_cons, List.cons.injEq] at h
    rw [sizeM, sizeM, h.1, sizeM_fst h.2]

/-- The name of a version, as the law makes it. -/
def nameOf (k : Key) : List UInt8 := k.user ++ [0, UInt8.ofNat k.seq.toNat, UInt8.ofNat (k.seq.toNat / 256), k.kind]
end Go.Proofs.Yteaanagljmcidaa
