/- merge, in plain Lean: one list of all; the least and the greatest of what sources stand at. -/
import Derived.Test.YteaanagljmcidaaAhead
namespace Go.Proofs.Yteaanagljmcidaa
open Go.RowKit

def SortedE (l : List Ent) : Prop := l.Pairwise fun a b => kcmp a.key b.key < 0

/-- Does one stand there of this version? -/
def hasK (k : Key) (e : Ent) : Bool := decide (e.key = k)

/-- One more, where none of its version stands. -/
def addE (out : List Ent) (e : Ent) : List Ent := if out.any (hasK e.key) then out else out.take (aheadN out e.key) ++ e :: out.drop (aheadN out e.key)
def addAll (out : List Ent) (l : List Ent) : List Ent := l.foldl addE out
/-- One list of all. -/
def allE (ls : List (List Ent)) : List Ent := addAll [] ls.flatten

theorem addAll_append (o a b : List Ent) : addAll o (a ++ b) = addAll (addAll o a) b := List.foldl_append ..
theorem allE_snoc (ls : List (List Ent)) (l : List Ent) : allE (ls ++ [l]) = addAll (allE ls) l := by
  unfold allE; rw [List.flatten_append, addAll_append]; simp
theorem addAll_snoc (o a : List Ent) (e : Ent) : addAll o (a ++ [e]) = addE (addAll o a) e := by rw [addAll_append]; rfl

theorem any_hasK {l : List Ent} {k : Key} : l.any (hasK k) = true ↔ ∃ x ∈ l, x.key = k := by simp [hasK]

theorem find_addE (out : List Ent) (e : Ent) (k : Key) : (addE out e).find? (hasK k) = (out ++ [e]).find? (hasK k) := by
  unfold addE
  split
  · rename_i h
    obtain ⟨x, hx, hk⟩ := any_hasK.1 h
    rw [List.find?_append]
    cases hf : out.find? (hasK k) with
    | some y => simp
    | none =>
      have : ¬ e.key = k := fun he => by
        have := List.find?_eq_none.1 hf x hx
        simp [hasK, hk, he] at this
      simp [hasK, this]
  · rename_i h
    by_cases he : e.key = k
    · have h0 : out.find? (hasK k) = none := List.find?_eq_none.2 fun x hx hk => h (any_hasK.2 ⟨x, hx, by rw [he]; simpa [hasK] using hk⟩)
      have h1 : (out.take (aheadN out e.key)).find? (hasK k) = none := List.find?_eq_none.2 fun x hx => List.find?_eq_none.1 h0 x (List.mem_of_mem_take hx)
      rw [List.find?_append, List.find?_append, h0, h1]
      simp [hasK, he]
    · have hk : hasK k e = false := by simp [hasK, he]
      rw [List.find?_append, List.find?_cons, hk, List.find?_append]
      conv => rhs; rw [← List.take_append_drop (aheadN out e.key) out, List.find?_append]
      simp [hk, Option.or_assoc]
theorem find_addAll : ∀ (l out : List Ent) (k : Key), (addAll out l).find? (hasK k) = (out ++ l).find? (hasK k)
  | [], out, k => by simp [addAll]
  | e :: l, out, k => by
    show (addAll (addE out e) l).find? _ = _
    rw [find_addAll l, List.find?_append, find_addE, ← List.find?_append, List.append_assoc]; rfl
/-- Who stands there of a version: the first one that came. -/
theorem find_allE (ls : List (List Ent)) (k : Key) : (allE ls).find? (hasK k) = ls.flatten.find? (hasK k) := find_addAll _ [] k

theorem mem_find {l : List Ent} {k : Key} : (∃ e ∈ l, e.key = k) ↔ (l.find? (hasK k)).isSome = true := by
  rw [List.find?_isSome]; simp [hasK]
theorem keys_allE (ls : List (List Ent)) (k : Key) : (∃ e ∈ allE ls, e.key = k) ↔ ∃ l ∈ ls, ∃ e ∈ l, e.key = k := by
  rw [mem_find, find_allE, ← mem_find]
  constructor
  · rintro ⟨e, he, hk⟩; obtain ⟨l, hl, he⟩ := List.mem_flatten.1 he; exact ⟨l, hl, e, he, hk⟩
  · rintro ⟨l, hl, e, he, hk⟩; exact ⟨e, List.mem_flatten.2 ⟨l, hl, he⟩, hk⟩
theorem mem_addE {out : List Ent} {e x : Ent} (h : x ∈ addE out e) : x ∈ out ∨ x = e := by
  unfold addE at h
  split at h
  · exact .inl h
  · rcases List.mem_append.1 h with h | h
    · exact .inl (List.mem_of_mem_take h)
    · rcases List.mem_cons.1 h with h | h
      · exact .inr h
      · exact .inl (List.mem_of_mem_drop h)
theorem mem_addAll : ∀ {l out : List Ent} {x : Ent}, x ∈ addAll out l → x ∈ out ∨ x ∈ l
  | [], _, _, h => .inl h
  | e :: l, out, x, h => by
    rcases mem_addAll (l := l) (out := addE out e) h with h | h
    · exact (mem_addE h).imp id fun h => by rw [h]; exact List.mem_cons_self
    · exact .inr (List.mem_cons_of_mem _ h)
theorem mem_allE {ls : List (List Ent)} {x : Ent} (h : x ∈ allE ls) : ∃ l ∈ ls, x ∈ l := by
  rcases mem_addAll h with h | h
  · cases h
  · exact List.mem_flatten.1 h
theorem addE_length (out : List Ent) (e : Ent) : (addE out e).length ≤ out.length + 1 := by
  unfold addE; split
  · omega
  · simp; omega
theorem addAll_length : ∀ (l out : List Ent), (addAll out l).length ≤ out.length + l.length
  | [], out => by simp [addAll]
  | e :: l, out => by
    have h1 := addAll_length l (addE out e)
    have h2 := addE_length out e
    show (addAll (addE out e) l).length ≤ _
    simp; omega
theorem allE_length (ls : List (List Ent)) : (allE ls).length ≤ ls.flatten.length := by have := addAll_length ls.flatten []; simpa [allE] using this

/-- A property of versions that whatever stands ahead has, too. -/
def Down (d : Key → Bool) : Prop := ∀ a b, kcmp a b < 0 → d b = true → d a = true
def cut (d : Key → Bool) (l : List Ent) : Nat := (l.filter fun e => d e.key).length
theorem down_ahead (k : Key) : Down fun j => decide (kcmp j k < 0) := fun a b h hb => by
  simp only [decide_eq_true_eq] at *; exact kcmp_trans h hb
theorem down_upto (k : Key) : Down fun j => !decide (kcmp k j < 0) := fun a b h hb => by
  simp only [Bool.not_eq_true', decide_eq_false_iff_not] at *
  exact fun h2 => hb (kcmp_trans h2 h)
theorem down_none : Down fun _ => false := fun _ _ _ h => h
theorem down_all : Down fun _ => true := fun _ _ _ h => h
theorem cut_ahead (l : List Ent) (k : Key) : cut (fun j => decide (kcmp j k < 0)) l = aheadN l k := by
  unfold cut aheadN; congr 2; funext x; rw [kless_eq]
theorem cut_none (l : List Ent) : cut (fun _ => false) l = 0 := by unfold cut; simp
theorem cut_all (l : List Ent) : cut (fun _ => true) l = l.length := by unfold cut; simp
theorem cut_le (d : Key → Bool) (l : List Ent) : cut d l ≤ l.length := List.length_filter_le _ _

theorem SortedE.split {l : List Ent} (h : SortedE l) {d : Key → Bool} (hd : Down d) : l.take (cut d l) = l.filter (fun e => d e.key) ∧ l.drop (cut d l) = l.filter fun e => !d e.key :=
  take_filter _ (h.imp fun hab hb => hd _ _ hab hb)
theorem SortedE.lt {l : List Ent} (h : SortedE l) {i j : Nat} (hi : i < l.length) (hj : j < l.length) (hij : i < j) : kcmp l[i].key l[j].key < 0 := List.pairwise_iff_getElem.1 h i j hi hj hij
theorem SortedE.has {l : List Ent} (h : SortedE l) {d : Key → Bool} (hd : Down d) {i : Nat} (hi : i < l.length) : d l[i].key = true ↔ i < cut d l := by
  obtain ⟨h1, h2⟩ := h.split hd
  constructor
  · intro hdi
    apply Nat.lt_of_not_le
    intro hle
    have hm : l[i] ∈ l.drop (cut d l) := List.mem_iff_getElem.2 ⟨i - cut d l, by simp; omega, by simp; congr 1; omega⟩
    rw [h2] at hm
    have := (List.mem_filter.1 hm).2
    rw [hdi] at this; cases this
  · intro hlt
    have hm : l[i] ∈ l.take (cut d l) := List.mem_iff_getElem.2 ⟨i, by simp; omega, by simp⟩
    rw [h1] at hm
    exact (List.mem_filter.1 hm).2
theorem addE_sorted {out : List Ent} (h : SortedE out) (e : Ent) : SortedE (addE out e) := by
  unfold addE
  split
  · exact h
  · rename_i hn
    obtain ⟨h1, h2⟩ := h.split (down_ahead e.key)
    rw [cut_ahead] at h1 h2
    rw [h1, h2]
    unfold SortedE
    rw [List.pairwise_append, List.pairwise_cons]
    have hgt : ∀ y ∈ out.filter (fun x => !decide (kcmp x.key e.key < 0)), kcmp e.key y.key < 0 := fun y hy => by
      obtain ⟨hy1, hy2⟩ := List.mem_filter.1 hy
      rcases kcmp_total e.key y.key with h | h | h
      · exact h
      · exact absurd (any_hasK.2 ⟨y, hy1, h.symm⟩) hn
      · simp [h] at hy2
    refine ⟨List.Pairwise.filter _ h, ⟨hgt, List.Pairwise.filter _ h⟩, fun a ha b hb => ?_⟩
    have ha' : kcmp a.key e.key < 0 := by simpa using (List.mem_filter.1 ha).2
    rcases List.mem_cons.1 hb with rfl | hb
    · exact ha'
    · exact kcmp_trans ha' (hgt b hb)
theorem addAll_sorted : ∀ {l out : List Ent}, SortedE out → SortedE (addAll out l)
  | [], _, h => h
  | e :: l, _, h => by
    show SortedE (addAll (addE _ e) l)
    exact addAll_sorted (addE_sorted h e)
theorem allE_sorted (ls : List (List Ent)) : SortedE (allE ls) := addAll_sorted .nil

/-- The least, the greatest that has a property; or none has it. -/
def Least (p : Key → Prop) : Option Key → Prop
  | none => ∀ k, ¬ p k
  | some k => p k ∧ ∀ j, p j → ¬ kcmp j k < 0
def Greatest (p : Key → Prop) : Option Key → Prop
  | none => ∀ k, ¬ p k
  | some k => p k ∧ ∀ j, p j → ¬ kcmp k j < 0
theorem Least.uniq {p q : Key → Prop} (hpq : ∀ k, p k ↔ q k) : ∀ {a b : Option Key}, Least p a → Least q b → a = b
  | none, none, _, _ => rfl
  | none, some k, h, h2 => absurd ((hpq k).2 h2.1) (h k)
  | some k, none, h, h2 => absurd ((hpq k).1 h.1) (h2 k)
  | some a, some b, h, h2 => by
    have h3 := h.2 b ((hpq b).2 h2.1)
    have h4 := h2.2 a ((hpq a).1 h.1)
    rcases kcmp_total a b with h | h | h
    · exact absurd h h4
    · rw [h]
    · exact absurd h h3
theorem Greatest.uniq {p q : Key → Prop} (hpq : ∀ k, p k ↔ q k) : ∀ {a b : Option Key}, Greatest p a → Greatest q b → a = b
  | none, none, _, _ => rfl
  | none, some k, h, h2 => absurd ((hpq k).2 h2.1) (h k)
  | some k, none, h, h2 => absurd ((hpq k).1 h.1) (h2 k)
  | some a, some b, h, h2 => by
    have h3 := h.2 b ((hpq b).2 h2.1)
    have h4 := h2.2 a ((hpq a).1 h.1)
    rcases kcmp_total a b with h | h | h
    · exact absurd h h3
    · rw [h]
    · exact absurd h h4

/-- A step: what one more source stands at. -/
def lessK (acc : Option Key) (o : Option Key) : Option Key := match o, acc with
  | none, acc => acc
  | some k, none => some k
  | some k, some h => if kcmp k h < 0 then some k else some h
def moreK (acc : Option Key) (o : Option Key) : Option Key := match o, acc with
  | none, acc => acc
  | some k, none => some k
  | some k, some h => if 0 < kcmp k h then some k else some h
theorem lessK_spec {p q : Key → Prop} : ∀ {a o : Option Key}, Least p a → Least q o → Least (fun k => p k ∨ q k) (lessK a o)
  | none, none, h, h2 => fun k hk => hk.elim (h k) (h2 k)
  | some k, none, h, h2 => ⟨.inl h.1, fun j hj => hj.elim (h.2 j) fun hj => absurd hj (h2 j)⟩
  | none, some k, h, h2 => ⟨.inr h2.1, fun j hj => hj.elim (fun hj => absurd hj (h j)) (h2.2 j)⟩
  | some a, some k, h, h2 => by
    show Least _ (if kcmp k a < 0 then some k else some a)
    by_cases hk : kcmp k a < 0
    · rw [if_pos hk]
      exact ⟨.inr h2.1, fun j hj => hj.elim (fun hj hl => h.2 j hj (kcmp_trans hl hk)) (h2.2 j)⟩
    · rw [if_neg hk]
      refine ⟨.inl h.1, fun j hj => hj.elim (h.2 j) fun hj hl => ?_⟩
      have h3 := h2.2 j hj
      rcases kcmp_total k a with h4 | h4 | h4
      · exact hk h4
      · exact h3 (h4 ▸ hl)
      · exact h3 (kcmp_trans hl h4)
theorem kcmp_pos (a b : Key) : 0 < kcmp a b ↔ kcmp b a < 0 := by rw [kcmp_swap a b]; omega
theorem moreK_spec {p q : Key → Prop} : ∀ {a o : Option Key}, Greatest p a → Greatest q o → Greatest (fun k => p k ∨ q k) (moreK a o)
  | none, none, h, h2 => fun k hk => hk.elim (h k) (h2 k)
  | some k, none, h, h2 => ⟨.inl h.1, fun j hj => hj.elim (h.2 j) fun hj => absurd hj (h2 j)⟩
  | none, some k, h, h2 => ⟨.inr h2.1, fun j hj => hj.elim (fun hj => absurd hj (h j)) (h2.2 j)⟩
  | some a, some k, h, h2 => by
    show Greatest _ (if 0 < kcmp k a then some k else some a)
    by_cases hk : kcmp a k < 0
    · rw [if_pos ((kcmp_pos _ _).2 hk)]
      exact ⟨.inr h2.1, fun j hj => hj.elim (fun hj hl => h.2 j hj (kcmp_trans hk hl)) (h2.2 j)⟩
    · rw [if_neg fun h => hk ((kcmp_pos _ _).1 h)]
      refine ⟨.inl h.1, fun j hj => hj.elim (h.2 j) fun hj hl => ?_⟩
      have h3 := h2.2 j hj
      rcases kcmp_total a k with h4 | h4 | h4
      · exact hk h4
      · exact h3 (h4 ▸ hl)
      · exact h3 (kcmp_trans h4 hl)

/-- What a source stands at; what stands right ahead of it. -/
def atK (s : List Ent × Int) : Option Key := if s.2 < 0 then none else (s.1[s.2.toNat]?).map (·.key)
def priorK (s : List Ent × Int) : Option Key := if s.2 < 1 then none else (s.1[s.2.toNat - 1]?).map (·.key)
def leastK (ss : List (List Ent × Int)) : Option Key := (ss.map atK).foldl lessK none
def greatestK (ss : List (List Ent × Int)) : Option Key := (ss.map priorK).foldl moreK none

theorem foldl_less {α : Type} {f : α → Option Key} {p : α → Key → Prop} : ∀ (l : List α) {acc : Option Key} {q : Key → Prop}, Least q acc → (∀ x ∈ l, Least (p x) (f x)) → Least (fun k => q k ∨ ∃ x ∈ l, p x k) ((l.map f).foldl lessK acc)
  | [], acc, q, h, _ => by
    have : (fun k => q k ∨ ∃ x ∈ ([] : List α), p x k) = q := by funext k; simp
    rw [this]; exact h
  | x :: l, acc, q, h, hx => by
    have h1 := foldl_less l (lessK_spec h (hx x List.mem_cons_self)) fun y hy => hx y (List.mem_cons_of_mem _ hy)
    have : (fun k => q k ∨ ∃ y ∈ x :: l, p y k) = fun k => (q k ∨ p x k) ∨ ∃ y ∈ l, p y k := by funext k; simp [or_assoc]
    rw [this]; exact h1
theorem foldl_more {α : Type} {f : α → Option Key} {p : α → Key → Prop} : ∀ (l : List α) {acc : Option Key} {q : Key → Prop}, Greatest q acc → (∀ x ∈ l, Greatest (p x) (f x)) → Greatest (fun k => q k ∨ ∃ x ∈ l, p x k) ((l.map f).foldl moreK acc)
  | [], acc, q, h, _ => by
    have : (fun k => q k ∨ ∃ x ∈ ([] : List α), p x k) = q := by funext k; simp
    rw [this]; exact h
  | x :: l, acc, q, h, hx => by
    have h1 := foldl_more l (moreK_spec h (hx x List.mem_cons_self)) fun y hy => hx y (List.mem_cons_of_mem _ hy)
    have : (fun k => q k ∨ ∃ y ∈ x :: l, p y k) = fun k => (q k ∨ p x k) ∨ ∃ y ∈ l, p y k := by funext k; simp [or_assoc]
    rw [this]; exact h1

/-- Of a list in order: the least that a property doesn't hold of, the greatest that it holds of. -/
theorem SortedE.least {l : List Ent} (h : SortedE l) {d : Key → Bool} (hd : Down d) : Least (fun k => (∃ e ∈ l, e.key = k) ∧ d k = false) ((l[cut d l]?).map (·.key)) := by
  by_cases hc : cut d l < l.length
  · rw [List.getElem?_eq_getElem hc]
    refine ⟨⟨⟨_, List.getElem_mem hc, rfl⟩, ?_⟩, ?_⟩
    · cases he : d l[cut d l].key with
      | false => rfl
      | true => have := (h.has hd hc).1 he; omega
    · rintro _ ⟨⟨e, he, rfl⟩, hk⟩ hlt
      obtain ⟨i, hi, rfl⟩ := List.mem_iff_getElem.1 he
      have h1 : ¬ i < cut d l := fun h1 => by rw [(h.has hd hi).2 h1] at hk; cases hk
      rcases Nat.lt_or_ge (cut d l) i with h2 | h2
      · exact kcmp_irrefl _ (kcmp_trans hlt (h.lt hc hi h2))
      · obtain rfl : i = cut d l := by omega
        exact kcmp_irrefl _ hlt
  · rw [List.getElem?_eq_none (by omega)]
    rintro k ⟨⟨e, he, rfl⟩, hk⟩
    obtain ⟨i, hi, rfl⟩ := List.mem_iff_getElem.1 he
    rw [(h.has hd hi).2 (by omega)] at hk
    cases hk
theorem SortedE.greatest {l : List Ent} (h : SortedE l) {d : Key → Bool} (hd : Down d) : Greatest (fun k => (∃ e ∈ l, e.key = k) ∧ d k = true) (if cut d l = 0 then none else (l[cut d l - 1]?).map (·.key)) := by
  have hle := cut_le d l
  by_cases hc : cut d l = 0
  · rw [if_pos hc]
    rintro k ⟨⟨e, he, rfl⟩, hk⟩
    obtain ⟨i, hi, rfl⟩ := List.mem_iff_getElem.1 he
    have := (h.has hd hi).1 hk
    omega
  · have hi0 : cut d l - 1 < l.length := by omega
    rw [if_neg hc, List.getElem?_eq_getElem hi0]
    refine ⟨⟨⟨_, List.getElem_mem hi0, rfl⟩, (h.has hd hi0).2 (by omega)⟩, ?_⟩
    rintro _ ⟨⟨e, he, rfl⟩, hk⟩ hlt
    obtain ⟨i, hi, rfl⟩ := List.mem_iff_getElem.1 he
    have h1 := (h.has hd hi).1 hk
    rcases Nat.lt_or_ge i (cut d l - 1) with h2 | h2
    · exact kcmp_irrefl _ (kcmp_trans hlt (h.lt hi hi0 h2))
    · obtain rfl : i = cut d l - 1 := by omega
      exact kcmp_irrefl _ hlt

/-- All sources stand where a property ends. -/
def stand (d : Key → Bool) (ls : List (List Ent)) : List (List Ent × Int) := ls.map fun l => (l, (cut d l : Int))
theorem least_all {ls : List (List Ent)} (h : ∀ l ∈ ls, SortedE l) {d : Key → Bool} (hd : Down d) : leastK (stand d ls) = ((allE ls)[cut d (allE ls)]?).map (·.key) := by
  unfold leastK stand
  rw [List.map_map]
  have h1 := foldl_less (f := atK ∘ fun l => (l, (cut d l : Int))) (p := fun l k => (∃ e ∈ l, e.key = k) ∧ d k = false) ls (acc := none) (q := fun _ => False) (fun _ h => h) fun l hl => by
    have : (atK ∘ fun l => (l, (cut d l : Int))) l = (l[cut d l]?).map (·.key) := by simp [atK]; intro h; omega
    rw [this]; exact (h l hl).least hd
  refine h1.uniq (fun k => ?_) ((allE_sorted ls).least hd)
  rw [keys_allE]
  constructor
  · rintro (h | ⟨l, hl, he, hk⟩)
    · exact h.elim
    · exact ⟨⟨l, hl, he⟩, hk⟩
  · rintro ⟨⟨l, hl, he⟩, hk⟩; exact .inr ⟨l, hl, he, hk⟩
theorem greatest_all {ls : List (List Ent)} (h : ∀ l ∈ ls, SortedE l) {d : Key → Bool} (hd : Down d) : greatestK (stand d ls) = if cut d (allE ls) = 0 then none else ((allE ls)[cut d (allE ls) - 1]?).map (·.key) := by
  unfold greatestK stand
  rw [List.map_map]
  have h1 := foldl_more (f := priorK ∘ fun l => (l, (cut d l : Int))) (p := fun l k => (∃ e ∈ l, e.key = k) ∧ d k = true) ls (acc := none) (q := fun _ => False) (fun _ h => h) fun l hl => by
    have : (priorK ∘ fun l => (l, (cut d l : Int))) l = if cut d l = 0 then none else (l[cut d l - 1]?).map (·.key) := by
      simp only [priorK, Function.comp, Int.toNat_natCast]
      by_cases h0 : cut d l = 0
      · rw [if_pos (by omega), if_pos h0]
      · rw [if_neg (by omega), if_neg h0]
    rw [this]; exact (h l hl).greatest hd
  refine h1.uniq (fun k => ?_) ((allE_sorted ls).greatest hd)
  rw [keys_allE]
  constructor
  · rintro (h | ⟨l, hl, he, hk⟩)
    · exact h.elim
    · exact ⟨⟨l, hl, he⟩, hk⟩
  · rintro ⟨⟨l, hl, he⟩, hk⟩; exact .inr ⟨l, hl, he, hk⟩

/-- Where one stands: from, and upto. -/
theorem SortedE.cut_at {l : List Ent} (h : SortedE l) {i : Nat} (hi : i < l.length) : cut (fun j => decide (kcmp j l[i].key < 0)) l = i := by
  have h1 := fun {j} (hj : j < l.length) => h.has (down_ahead l[i].key) hj
  have hle := cut_le (fun j => decide (kcmp j l[i].key < 0)) l
  rcases Nat.lt_trichotomy (cut (fun j => decide (kcmp j l[i].key < 0)) l) i with hc | hc | hc
  · have h2 := (h1 (j := cut (fun j => decide (kcmp j l[i].key < 0)) l) (by omega)).1 (by simpa using h.lt (by omega) hi hc)
    omega
  · exact hc
  · have h2 := (h1 hi).2 hc
    simp only [decide_eq_true_eq] at h2
    exact absurd h2 (kcmp_irrefl _)
theorem SortedE.cut_upto {l : List Ent} (h : SortedE l) {i : Nat} (hi : i < l.length) : cut (fun j => !decide (kcmp l[i].key j < 0)) l = i + 1 := by
  have h1 := fun {j} (hj : j < l.length) => h.has (down_upto l[i].key) hj
  have hle := cut_le (fun j => !decide (kcmp l[i].key j < 0)) l
  rcases Nat.lt_trichotomy (cut (fun j => !decide (kcmp l[i].key j < 0)) l) (i + 1) with hc | hc | hc
  · have h2 := (h1 hi).1 (by simpa using kcmp_irrefl _)
    omega
  · exact hc
  · have h2 := (h1 (j := i + 1) (by omega)).2 hc
    simp only [Bool.not_eq_true', decide_eq_false_iff_not] at h2
    exact absurd (h.lt hi (by omega) (Nat.lt_succ_self _)) h2
/-- Behind one's own version: one further, if it stands there. -/
theorem SortedE.upto {l : List Ent} (h : SortedE l) (k : Key) : cut (fun j => !decide (kcmp k j < 0)) l = if (l[aheadN l k]?).map (·.key) = some k then aheadN l k + 1 else aheadN l k := by
  have hd := cut_ahead l k
  have hle := cut_le (fun j => !decide (kcmp k j < 0)) l
  have hle' := cut_le (fun j => decide (kcmp j k < 0)) l
  split
  · rename_i hk
    rw [Option.map_eq_some_iff] at hk
    obtain ⟨e, he, rfl⟩ := hk
    obtain ⟨hi, he'⟩ := List.getElem?_eq_some_iff.1 he
    have h3 := h.cut_upto hi
    rwa [he'] at h3
  · rename_i hk
    have h1 := fun {j} (hj : j < l.length) => h.has (down_upto k) hj
    have h2 := fun {j} (hj : j < l.length) => h.has (down_ahead k) hj
    rw [← hd]
    rw [← hd] at hk
    rcases Nat.lt_trichotomy (cut (fun j => !decide (kcmp k j < 0)) l) (cut (fun j => decide (kcmp j k < 0)) l) with hc | hc | hc
    · exfalso
      have h3 := (h2 (j := cut (fun j => !decide (kcmp k j < 0)) l) (by omega)).2 hc
      have h4 := mt (h1 (j := cut (fun j => !decide (kcmp k j < 0)) l) (by omega)).1 (Nat.lt_irrefl _)
      simp only [decide_eq_true_eq, Bool.not_eq_true', decide_eq_false_iff_not, Decidable.not_not] at h3 h4
      exact kcmp_irrefl _ (kcmp_trans h3 h4)
    · exact hc
    · exfalso
      have hlt : cut (fun j => decide (kcmp j k < 0)) l < l.length := by omega
      have h3 := (h1 hlt).2 hc
      have h4 := mt (h2 hlt).1 (Nat.lt_irrefl _)
      simp only [decide_eq_true_eq, Bool.not_eq_true', decide_eq_false_iff_not] at h3 h4
      rcases kcmp_total l[cut (fun j => decide (kcmp j k < 0)) l].key k with h5 | h5 | h5
      · exact h4 h5
      · exact hk (by rw [List.getElem?_eq_getElem hlt]; simpa using h5)
      · exact h3 h5
/-- Who stands there of a version, in a list in order. -/
theorem SortedE.find {l : List Ent} (h : SortedE l) (k : Key) : l.find? (hasK k) = if (l[aheadN l k]?).map (·.key) = some k then l[aheadN l k]? else none := by
  split
  · rename_i hk
    rw [Option.map_eq_some_iff] at hk
    obtain ⟨e, he, rfl⟩ := hk
    rw [he]
    obtain ⟨hi, he'⟩ := List.getElem?_eq_some_iff.1 he
    refine List.find?_eq_some_iff_append.2 ⟨by simp [hasK], l.take (aheadN l e.key), l.drop (aheadN l e.key + 1), ?_, fun x hx => ?_⟩
    · have h3 := List.drop_eq_getElem_cons hi
      rw [he'] at h3
      rw [← h3, List.take_append_drop]
    · obtain ⟨j, hj, rfl⟩ := List.mem_iff_getElem.1 hx
      simp only [List.length_take] at hj
      have h3 := (h.has (down_ahead e.key) (i := j) (by omega)).2 (by rw [cut_ahead]; omega)
      simp only [decide_eq_true_eq] at h3
      simp only [List.getElem_take, hasK, Bool.not_eq_true', decide_eq_false_iff_not]
      intro h4
      rw [h4] at h3
      exact kcmp_irrefl _ h3
  · rename_i hk
    refine List.find?_eq_none.2 fun x hx hxk => hk ?_
    obtain ⟨i, hi, rfl⟩ := List.mem_iff_getElem.1 hx
    have hxk' : l[i].key = k := by simpa [hasK] using hxk
    have h2 := h.cut_at hi
    rw [cut_ahead, hxk'] at h2
    rw [h2, List.getElem?_eq_getElem hi]
    simp [hxk']
/-- In order so far: one more. -/
theorem SortedE.snoc {l : List Ent} {i : Nat} (hi : i < l.length) (h : SortedE (l.take i)) (h0 : ∀ _ : 0 < i, kcmp (l[i - 1]'(by omega)).key l[i].key < 0) : SortedE (l.take (i + 1)) := by
  rw [List.take_succ_eq_append_getElem hi]
  unfold SortedE
  rw [List.pairwise_append]
  refine ⟨h, List.pairwise_singleton _ _, fun a ha b hb => ?_⟩
  obtain rfl := List.mem_singleton.1 hb
  obtain ⟨j, hj, rfl⟩ := List.mem_iff_getElem.1 ha
  have hj2 : j < i := by simp at hj; omega
  have hi1 : i - 1 < l.length := by omega
  rw [List.getElem_take]
  rcases Nat.lt_or_ge j (i - 1) with h1 | h1
  · have h2 := h.lt (i := j) (j := i - 1) hj (by simp; omega) h1
    rw [List.getElem_take, List.getElem_take] at h2
    exact kcmp_trans h2 (h0 (by omega))
  · obtain rfl : j = i - 1 := by omega
    exact h0 (by omega)
theorem SortedE.adj {l : List Ent} (h : SortedE l) {i : Nat} (hi : i < l.length) (h0 : 0 < i) : kcmp (l[i - 1]'(by omega)).key l[i].key < 0 := h.lt _ _ (by omega)
end Go.Proofs.Yteaanagljmcidaa
