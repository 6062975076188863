/- The skip list as plain data: links, and the way to a place. -/
import Derived.Test.YteaanagljmcidaaOrder
import Derived.Test.YteaanagljmcidaaSkMem
namespace Go.Proofs.Yteaanagljmcidaa

/-- nx goes through c, from 0 to 0. -/
def Linked (nx : Nat → Nat) (c : List Nat) : Prop := nx 0 = c.headD 0 ∧ ∀ xs a ys, c = xs ++ a :: ys → nx a = ys.headD 0

theorem Linked.at_ {nx : Nat → Nat} {p q : List Nat} (h : Linked nx (p ++ q)) : nx (p.getLastD 0) = q.headD 0 := by
  rcases List.eq_nil_or_concat p with rfl | ⟨p', a, rfl⟩
  · simpa using h.1
  · have := h.2 p' a q (by simp)
    rw [List.concat_eq_append, List.getLastD_concat]; exact this

/-- Next of tower i in row r. -/
def nxt (ts : List Tw) (r i : Nat) : Nat := ((ts[i]?).bind fun t => t.nx[r]?).getD 0
def keyAt (ts : List Tw) (i : Nat) : Key := ((ts[i]?).map fun t => t.e.key).getD default
def hgt (ts : List Tw) (i : Nat) : Nat := ((ts[i]?).map fun t => t.nx.length).getD 0

/-- Those of the order that have row r. -/
def chain (ts : List Tw) (ord : List Nat) (r : Nat) : List Nat := ord.filter fun i => decide (r < hgt ts i)

/-- The towers stand in order: 'ord' has all but the first, by rising keys; each row goes through those that are tall enough. -/
structure Good (ts : List Tw) (ord : List Nat) : Prop where
  head : hgt ts 0 = 8
  pos : 0 < ts.length
  mem : ∀ i, i ∈ ord ↔ 0 < i ∧ i < ts.length
  nodup : ord.Nodup
  tall : ∀ i ∈ ord, 1 ≤ hgt ts i ∧ hgt ts i ≤ 8
  sorted : ord.Pairwise fun i j => kcmp (keyAt ts i) (keyAt ts j) < 0
  link : ∀ r, r < 8 → Linked (nxt ts r) (chain ts ord r)

/-- Those ahead of a version. -/
def ahead (ts : List Tw) (ord : List Nat) (k : Key) : List Nat := ord.filter fun i => decide (kcmp (keyAt ts i) k < 0)
def behind (ts : List Tw) (ord : List Nat) (k : Key) : List Nat := ord.filter fun i => !decide (kcmp (keyAt ts i) k < 0)
/-- Of row r the last one ahead. -/
def pathAt (ts : List Tw) (ord : List Nat) (k : Key) (r : Nat) : Nat := (chain ts (ahead ts ord k) r).getLastD 0


theorem split_mono {α : Type} {p : α → Bool} : ∀ {l : List α}, l.Pairwise (fun i j => p j = true → p i = true) → l = l.filter p ++ l.filter (fun i => !p i)
  | [], _ => rfl
  | a :: l, h => by
    rw [List.pairwise_cons] at h
    have ih := split_mono h.2
    by_cases hp : p a = true
    · rw [List.filter_cons_of_pos hp, List.filter_cons_of_neg (by simp [hp]), List.cons_append, ← ih]
    · have hall : ∀ x ∈ l, ¬ p x = true := fun x hx hpx => hp (h.1 x hx hpx)
      have e1 : l.filter p = [] := List.filter_eq_nil_iff.2 hall
      have e2 : l.filter (fun i => !p i) = l := List.filter_eq_self.2 fun x hx => by simpa using hall x hx
      rw [List.filter_cons_of_neg hp, List.filter_cons_of_pos (by simp [hp]), e1, e2, List.nil_append]

variable {ts : List Tw} {ord : List Nat} {k : Key}

theorem Good.split (h : Good ts ord) (k : Key) : ord = ahead ts ord k ++ behind ts ord k :=
  split_mono (h.sorted.imp fun {i j} hij hj => by
    rw [decide_eq_true_eq] at *
    exact kcmp_trans hij hj)

theorem chain_append (a b : List Nat) (r : Nat) : chain ts (a ++ b) r = chain ts a r ++ chain ts b r := List.filter_append ..

theorem Good.chain (h : Good ts ord) (k : Key) (r : Nat) : chain ts ord r = _root_.Go.Proofs.Yteaanagljmcidaa.chain ts (ahead ts ord k) r ++ _root_.Go.Proofs.Yteaanagljmcidaa.chain ts (behind ts ord k) r := by
  rw [← chain_append, ← h.split k]

theorem mem_chain {l : List Nat} {r i : Nat} : i ∈ chain ts l r ↔ i ∈ l ∧ r < hgt ts i := by simp [chain]
theorem mem_ahead {i : Nat} : i ∈ ahead ts ord k ↔ i ∈ ord ∧ kcmp (keyAt ts i) k < 0 := by simp [ahead]
theorem mem_behind {i : Nat} : i ∈ behind ts ord k ↔ i ∈ ord ∧ ¬ kcmp (keyAt ts i) k < 0 := by simp [behind]

theorem chain_chain {l : List Nat} {r : Nat} : chain ts l (r + 1) = chain ts (chain ts l r) (r + 1) := by
  unfold chain
  rw [List.filter_filter]
  apply List.filter_congr
  intro x _
  rw [Bool.eq_iff_iff]
  simp
  omega

/-- On the way along row r: at is the last of what has been passed. -/
def OnWay (ts : List Tw) (ord : List Nat) (k : Key) (r at_ : Nat) (left : List Nat) : Prop := ∃ p, chain ts (ahead ts ord k) r = p ++ left ∧ at_ = p.getLastD 0

theorem OnWay.start : OnWay ts ord k 7 0 (chain ts (ahead ts ord k) 7) := ⟨[], rfl, rfl⟩

theorem getLastD_mem {l : List Nat} (h : l ≠ []) : l.getLastD 0 ∈ l := by
  rcases List.eq_nil_or_concat l with rfl | ⟨l', a, rfl⟩
  · exact absurd rfl h
  · simp

theorem OnWay.mem {r at_ : Nat} {left : List Nat} (h : OnWay ts ord k r at_ left) : at_ = 0 ∨ at_ ∈ ord ∧ r < hgt ts at_ := by
  obtain ⟨p, hp, rfl⟩ := h
  by_cases hn : p = []
  · subst hn; exact .inl rfl
  · have : p.getLastD 0 ∈ chain ts (ahead ts ord k) r := by rw [hp]; exact List.mem_append_left _ (getLastD_mem hn)
    rw [mem_chain, mem_ahead] at this
    exact .inr ⟨this.1.1, this.2⟩

/-- What stands behind. -/
theorem OnWay.next {r at_ : Nat} {left : List Nat} (hg : Good ts ord) (hr : r < 8) (h : OnWay ts ord k r at_ left) : nxt ts r at_ = (left ++ _root_.Go.Proofs.Yteaanagljmcidaa.chain ts (behind ts ord k) r).headD 0 := by
  obtain ⟨p, hp, rfl⟩ := h
  have hl := hg.link r hr
  rw [hg.chain k r, hp, List.append_assoc] at hl
  exact hl.at_

theorem OnWay.cons {r at_ x : Nat} {left : List Nat} (h : OnWay ts ord k r at_ (x :: left)) : OnWay ts ord k r x left := by
  obtain ⟨p, hp, _⟩ := h
  exact ⟨p ++ [x], by simpa using hp, by simp⟩

theorem OnWay.last {r at_ : Nat} (h : OnWay ts ord k r at_ []) : at_ = pathAt ts ord k r := by
  obtain ⟨p, hp, rfl⟩ := h
  unfold pathAt
  rw [hp, List.append_nil]

theorem OnWay.down {r at_ : Nat} (h : OnWay ts ord k (r + 1) at_ []) : ∃ left, OnWay ts ord k r at_ left := by
  obtain ⟨p, hp, rfl⟩ := h
  rw [List.append_nil] at hp
  subst hp
  by_cases hn : chain ts (ahead ts ord k) (r + 1) = []
  · rw [hn]; exact ⟨_, [], rfl, rfl⟩
  · have hm := getLastD_mem hn
    rw [mem_chain] at hm
    have hm' : (chain ts (ahead ts ord k) (r + 1)).getLastD 0 ∈ chain ts (ahead ts ord k) r := mem_chain.2 ⟨hm.1, by omega⟩
    generalize (chain ts (ahead ts ord k) (r + 1)).getLastD 0 = x at *
    obtain ⟨xs, ys, he⟩ := List.append_of_mem hm'
    exact ⟨ys, xs ++ [x], by rw [he]; simp, by simp⟩

/-- Is the one behind ahead of the version? -/
theorem OnWay.test {r at_ : Nat} {left : List Nat} (hg : Good ts ord) (hr : r < 8) (h : OnWay ts ord k r at_ left) :
    (nxt ts r at_ ≠ 0 ∧ kcmp (keyAt ts (nxt ts r at_)) k < 0) ↔ left ≠ [] := by
  rw [h.next hg hr]
  obtain ⟨p, hp, _⟩ := h
  cases left with
  | nil =>
    simp only [List.nil_append, ne_eq, not_true_eq_false, iff_false, not_and]
    intro hne
    cases hc : _root_.Go.Proofs.Yteaanagljmcidaa.chain ts (behind ts ord k) r with
    | nil => rw [hc] at hne; simp at hne
    | cons x l =>
      have : x ∈ _root_.Go.Proofs.Yteaanagljmcidaa.chain ts (behind ts ord k) r := by rw [hc]; simp
      rw [mem_chain, mem_behind] at this
      simpa using this.1.2
  | cons x l =>
    have hx : x ∈ _root_.Go.Proofs.Yteaanagljmcidaa.chain ts (ahead ts ord k) r := by rw [hp]; simp
    rw [mem_chain, mem_ahead] at hx
    have h0 := (hg.mem x).1 hx.1.1
    simp only [List.cons_append, List.headD_cons, ne_eq, reduceCtorEq, not_false_eq_true, iff_true]
    exact ⟨by omega, hx.1.2⟩

theorem OnWay.valid {r at_ : Nat} {left : List Nat} (hg : Good ts ord) (hr : r < 8) (h : OnWay ts ord k r at_ left) : at_ < ts.length ∧ r < hgt ts at_ := by
  rcases h.mem with rfl | ⟨h1, h2⟩
  · exact ⟨hg.pos, by rw [hg.head]; exact hr⟩
  · exact ⟨((hg.mem at_).1 h1).2, h2⟩
theorem Good.nxt_lt (hg : Good ts ord) {r at_ : Nat} {left : List Nat} (hr : r < 8) (h : OnWay ts ord k r at_ left) : nxt ts r at_ < ts.length := by
  have h0 := h.next hg hr
  obtain ⟨p, hp, _⟩ := h
  rw [h0]
  cases hc : left ++ _root_.Go.Proofs.Yteaanagljmcidaa.chain ts (behind ts ord k) r with
  | nil => simpa using hg.pos
  | cons x l =>
    have : x ∈ _root_.Go.Proofs.Yteaanagljmcidaa.chain ts ord r := by rw [hg.chain k r, hp, List.append_assoc, hc]; simp
    rw [mem_chain] at this
    exact ((hg.mem x).1 this.1).2
end Go.Proofs.Yteaanagljmcidaa
