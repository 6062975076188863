/- skip: Insert as plain data. -/
import Derived.Test.YteaanagljmcidaaSkFrom
namespace Go.Proofs.Yteaanagljmcidaa

theorem Linked.insert {nx nx' : Nat → Nat} {a b : List Nat} {x : Nat} (h : Linked nx (a ++ b)) (hx : x ∉ a ++ b) (hx0 : x ≠ 0) (h0 : (0 : Nat) ∉ a ++ b) (hd : (a ++ b).Nodup)
    (h1 : nx' (a.getLastD 0) = x) (h2 : nx' x = b.headD 0) (h3 : ∀ i, i ≠ a.getLastD 0 → i ≠ x → nx' i = nx i) : Linked nx' (a ++ x :: b) := by
  have hl0 : ∀ l : List Nat, l ≠ [] → l.getLastD 0 ∈ l := fun l hl => getLastD_mem hl
  constructor
  · rcases List.eq_nil_or_concat a with rfl | ⟨a', y, rfl⟩
    · simpa using h1
    · have hne : (0 : Nat) ≠ (a' ++ [y]).getLastD 0 := by
        intro e; apply h0; rw [List.concat_eq_append, e]; exact List.mem_append_left _ (hl0 _ (by simp))
      rw [List.concat_eq_append] at *
      rw [h3 0 hne (fun e => hx0 e.symm), h.1]
      cases a' <;> simp
  · intro xs c ys he
    -- where does c stand?
    rcases List.append_eq_append_iff.1 he with ⟨us, h4, h5⟩ | ⟨bs, h4, h5⟩
    · -- xs = a ++ us, x :: b = us ++ c :: ys
      cases us with
      | nil =>
        simp only [List.nil_append, List.cons.injEq] at h5
        obtain ⟨rfl, rfl⟩ := h5
        exact h2
      | cons z us =>
        simp only [List.cons_append, List.cons.injEq] at h5
        obtain ⟨rfl, hb⟩ := h5
        have hc : c ∈ b := by rw [hb]; simp
        have hcx : c ≠ x := fun e => hx (by rw [← e]; exact List.mem_append_right _ hc)
        have hca : c ≠ a.getLastD 0 := by
          intro e
          by_cases hn : a = []
          · subst hn; apply h0; rw [show (0 : Nat) = c from e.symm]; exact List.mem_append_right _ hc
          · have hm := hl0 a hn
            rw [← e] at hm
            exact (List.nodup_append.1 hd).2.2 c hm c hc rfl
        rw [h3 c hca hcx]
        exact h.2 (a ++ us) c ys (by rw [hb]; simp)
    · -- a = xs ++ bs, c :: ys = bs ++ x :: b
      cases bs with
      | nil =>
        simp only [List.nil_append, List.cons.injEq] at h5
        obtain ⟨rfl, rfl⟩ := h5
        exact h2
      | cons z bs =>
        simp only [List.cons_append, List.cons.injEq] at h5
        obtain ⟨rfl, rfl⟩ := h5
        have hc : c ∈ a := by rw [h4]; simp
        have hcx : c ≠ x := fun e => hx (by rw [← e]; exact List.mem_append_left _ hc)
        cases bs with
        | nil =>
          have : a.getLastD 0 = c := by rw [h4]; simp
          rw [← this, h1]; simp
        | cons d bs =>
          have hca : c ≠ a.getLastD 0 := by
            intro e
            have hd2 : a.Nodup := (List.nodup_append.1 hd).1
            have hm : (d :: bs).getLastD 0 ∈ d :: bs := hl0 _ (by simp)
            have hlast : a.getLastD 0 = (d :: bs).getLastD 0 := by
              rw [h4]; simp [List.getLast?_append, List.getLast?_cons]
            rw [hlast] at e
            rw [h4] at hd2
            have := (List.nodup_append.1 hd2).2.1
            rw [List.nodup_cons] at this
            exact this.1 (by rw [e]; exact hm)
          rw [h3 c hca hcx, h.2 xs c (d :: bs ++ b) (by rw [h4]; simp)]
          simp

theorem Linked.congr {nx nx' : Nat → Nat} {c : List Nat} (h : Linked nx c) (h0 : nx' 0 = nx 0) (hc : ∀ i ∈ c, nx' i = nx i) : Linked nx' c :=
  ⟨by rw [h0]; exact h.1, fun xs a ys he => by rw [hc a (by rw [he]; simp)]; exact h.2 xs a ys he⟩

def setNx (ts : List Tw) (i r n : Nat) : List Tw := ts.modify i fun t => { t with nx := t.nx.set r n }
def updTo (ts : List Tw) (p : Nat → Nat) (n : Nat) : Nat → List Tw
  | 0 => ts
  | r + 1 => setNx (updTo ts p n r) (p r) r n

theorem setNx_length (ts : List Tw) (i r n : Nat) : (setNx ts i r n).length = ts.length := by simp [setNx]
theorem updTo_length (ts : List Tw) (p : Nat → Nat) (n : Nat) : ∀ r, (updTo ts p n r).length = ts.length
  | 0 => rfl
  | r + 1 => by rw [updTo, setNx_length, updTo_length ts p n r]

theorem setNx_get (ts : List Tw) (i r n j : Nat) : (setNx ts i r n)[j]? = if i = j then (ts[j]?).map (fun t => { t with nx := t.nx.set r n }) else ts[j]? := by
  simp [setNx, List.getElem?_modify]
  split <;> simp

theorem setNx_ent (ts : List Tw) (i r n j : Nat) : entAt (setNx ts i r n) j = entAt ts j := by
  unfold entAt; rw [setNx_get]; split
  · cases ts[j]? <;> simp
  · rfl
theorem setNx_key (ts : List Tw) (i r n j : Nat) : keyAt (setNx ts i r n) j = keyAt ts j := by
  unfold keyAt; rw [setNx_get]; split
  · cases ts[j]? <;> simp
  · rfl
theorem setNx_hgt (ts : List Tw) (i r n j : Nat) : hgt (setNx ts i r n) j = hgt ts j := by
  unfold hgt; rw [setNx_get]; split
  · cases ts[j]? <;> simp
  · rfl
theorem setNx_nxt (ts : List Tw) (i r n q j : Nat) : nxt (setNx ts i r n) q j = if i = j ∧ q = r ∧ r < hgt ts j then n else nxt ts q j := by
  unfold nxt hgt
  rw [setNx_get]
  by_cases hij : i = j
  · subst hij
    simp only [if_true, true_and]
    cases ts[i]? with
    | none => simp
    | some t =>
      simp only [Option.map_some, Option.bind_some, Option.getD_some]
      rw [List.getElem?_set]
      by_cases hq : r = q
      · subst hq
        by_cases hr : r < t.nx.length
        · simp [hr]
        · simp [hr]
      · have hq' : ¬ q = r := fun e => hq e.symm
        simp [hq, hq']
  · simp [hij]

theorem updTo_ent (ts : List Tw) (p : Nat → Nat) (n j : Nat) : ∀ r, entAt (updTo ts p n r) j = entAt ts j
  | 0 => rfl
  | r + 1 => by rw [updTo, setNx_ent, updTo_ent ts p n j r]
theorem updTo_key (ts : List Tw) (p : Nat → Nat) (n j : Nat) : ∀ r, keyAt (updTo ts p n r) j = keyAt ts j
  | 0 => rfl
  | r + 1 => by rw [updTo, setNx_key, updTo_key ts p n j r]
theorem updTo_hgt (ts : List Tw) (p : Nat → Nat) (n j : Nat) : ∀ r, hgt (updTo ts p n r) j = hgt ts j
  | 0 => rfl
  | r + 1 => by rw [updTo, setNx_hgt, updTo_hgt ts p n j r]
theorem updTo_nxt (ts : List Tw) (p : Nat → Nat) (n q j : Nat) : ∀ r, nxt (updTo ts p n r) q j = if q < r ∧ p q = j ∧ q < hgt ts j then n else nxt ts q j
  | 0 => by simp [updTo]
  | r + 1 => by
    rw [updTo, setNx_nxt, updTo_hgt, updTo_nxt ts p n q j r]
    by_cases hq : q = r
    · subst hq
      by_cases h1 : p q = j <;> by_cases h2 : q < hgt ts j <;> simp [h1, h2]
    · have e : q < r + 1 ↔ q < r := by omega
      simp [hq, e]

variable {ts : List Tw} {ord : List Nat}

/-- The towers behind an insertion. -/
def insTs (ts : List Tw) (ord : List Nat) (e : Ent) (T h : Nat) : List Tw := updTo ts (pathAt ts ord e.key) ts.length h ++ [⟨e, T, (List.range h).map fun j => nxt ts j (pathAt ts ord e.key j)⟩]
def insOrd (ts : List Tw) (ord : List Nat) (k : Key) : List Nat := ahead ts ord k ++ ts.length :: behind ts ord k

theorem insTs_lt {e : Ent} {T h i : Nat} (hi : i < ts.length) : (insTs ts ord e T h)[i]? = (updTo ts (pathAt ts ord e.key) ts.length h)[i]? :=
  List.getElem?_append_left (by rw [updTo_length]; exact hi)
theorem insTs_new {e : Ent} {T h : Nat} : (insTs ts ord e T h)[ts.length]? = some ⟨e, T, (List.range h).map fun j => nxt ts j (pathAt ts ord e.key j)⟩ := by
  unfold insTs; rw [List.getElem?_append_right (by rw [updTo_length]; exact Nat.le_refl _), updTo_length]; simp

theorem insTs_ent_lt {e : Ent} {T h i : Nat} (hi : i < ts.length) : entAt (insTs ts ord e T h) i = entAt ts i := by
  have : entAt (insTs ts ord e T h) i = entAt (updTo ts (pathAt ts ord e.key) ts.length h) i := by unfold entAt; rw [insTs_lt hi]
  rw [this, updTo_ent]
theorem insTs_key_lt {e : Ent} {T h i : Nat} (hi : i < ts.length) : keyAt (insTs ts ord e T h) i = keyAt ts i := by
  have : keyAt (insTs ts ord e T h) i = keyAt (updTo ts (pathAt ts ord e.key) ts.length h) i := by unfold keyAt; rw [insTs_lt hi]
  rw [this, updTo_key]
theorem insTs_hgt_lt {e : Ent} {T h i : Nat} (hi : i < ts.length) : hgt (insTs ts ord e T h) i = hgt ts i := by
  have : hgt (insTs ts ord e T h) i = hgt (updTo ts (pathAt ts ord e.key) ts.length h) i := by unfold hgt; rw [insTs_lt hi]
  rw [this, updTo_hgt]
theorem insTs_nxt_lt {e : Ent} {T h i q : Nat} (hi : i < ts.length) : nxt (insTs ts ord e T h) q i = if q < h ∧ pathAt ts ord e.key q = i ∧ q < hgt ts i then ts.length else nxt ts q i := by
  have : nxt (insTs ts ord e T h) q i = nxt (updTo ts (pathAt ts ord e.key) ts.length h) q i := by unfold nxt; rw [insTs_lt hi]
  rw [this, updTo_nxt]
theorem insTs_ent_new {e : Ent} {T h : Nat} : entAt (insTs ts ord e T h) ts.length = e := by unfold entAt; rw [insTs_new]; rfl
theorem insTs_key_new {e : Ent} {T h : Nat} : keyAt (insTs ts ord e T h) ts.length = e.key := by unfold keyAt; rw [insTs_new]; rfl
theorem insTs_hgt_new {e : Ent} {T h : Nat} : hgt (insTs ts ord e T h) ts.length = h := by unfold hgt; rw [insTs_new]; simp
theorem insTs_nxt_new {e : Ent} {T h q : Nat} (hq : q < h) : nxt (insTs ts ord e T h) q ts.length = nxt ts q (pathAt ts ord e.key q) := by
  unfold nxt; rw [insTs_new]; simp [hq, nxt]

theorem chain_congr {ts ts' : List Tw} {l : List Nat} {r : Nat} (h : ∀ i ∈ l, hgt ts' i = hgt ts i) : chain ts' l r = chain ts l r := by
  unfold chain; apply List.filter_congr; intro i hi; rw [h i hi]

theorem good_insert (hg : Good ts ord) (e : Ent) (T h : Nat) (h1 : 1 ≤ h) (h8 : h ≤ 8) (hnew : ∀ i ∈ ord, keyAt ts i ≠ e.key) : Good (insTs ts ord e T h) (insOrd ts ord e.key) where
  head := by rw [insTs_hgt_lt hg.pos]; exact hg.head
  pos := by unfold insTs; simp
  mem := fun i => by
    have hs := hg.split e.key
    have hl : (insTs ts ord e T h).length = ts.length + 1 := by unfold insTs; rw [List.length_append, updTo_length]; simp
    have hm := hg.mem i
    rw [hs, List.mem_append] at hm
    have hp := hg.pos
    rw [hl]
    unfold insOrd
    simp only [List.mem_append, List.mem_cons]
    constructor
    · rintro (h | rfl | h)
      · have := hm.1 (.inl h); omega
      · omega
      · have := hm.1 (.inr h); omega
    · intro ⟨ha, hb⟩
      by_cases he : i = ts.length
      · exact .inr (.inl he)
      · rcases hm.2 ⟨ha, by omega⟩ with h | h
        · exact .inl h
        · exact .inr (.inr h)
  nodup := by
    have hd := hg.nodup
    rw [hg.split e.key] at hd
    have hn : ts.length ∉ ahead ts ord e.key ++ behind ts ord e.key := by
      rw [← hg.split e.key]; intro hm; have := (hg.mem _).1 hm; omega
    unfold insOrd
    rw [List.nodup_append] at hd ⊢
    rw [List.mem_append, not_or] at hn
    refine ⟨hd.1, List.nodup_cons.2 ⟨hn.2, hd.2.1⟩, fun a ha b hb => ?_⟩
    rcases List.mem_cons.1 hb with rfl | hb
    · exact fun e => hn.1 (e ▸ ha)
    · exact hd.2.2 a ha b hb
  tall := fun i hi => by
    unfold insOrd at hi
    simp only [List.mem_append, List.mem_cons] at hi
    rcases hi with hi | rfl | hi
    · have hm := (mem_ahead.1 hi).1
      rw [insTs_hgt_lt ((hg.mem i).1 hm).2]; exact hg.tall i hm
    · rw [insTs_hgt_new]; exact ⟨h1, h8⟩
    · have hm := (mem_behind.1 hi).1
      rw [insTs_hgt_lt ((hg.mem i).1 hm).2]; exact hg.tall i hm
  sorted := by
    have hs := hg.sorted
    rw [hg.split e.key, List.pairwise_append] at hs
    have ka : ∀ i ∈ ahead ts ord e.key, keyAt (insTs ts ord e T h) i = keyAt ts i := fun i hi => insTs_key_lt ((hg.mem i).1 (mem_ahead.1 hi).1).2
    have kb : ∀ i ∈ behind ts ord e.key, keyAt (insTs ts ord e T h) i = keyAt ts i := fun i hi => insTs_key_lt ((hg.mem i).1 (mem_behind.1 hi).1).2
    unfold insOrd
    rw [List.pairwise_append, List.pairwise_cons]
    refine ⟨hs.1.imp_of_mem fun {a b} ha hb hab => by rw [ka a ha, ka b hb]; exact hab, ⟨fun b hb => ?_, hs.2.1.imp_of_mem fun {a b} ha hb hab => by rw [kb a ha, kb b hb]; exact hab⟩, fun a ha b hb => ?_⟩
    · rw [insTs_key_new, kb b hb]
      have := mem_behind.1 hb
      rcases kcmp_total e.key (keyAt ts b) with h | h | h
      · exact h
      · exact absurd h.symm (hnew b this.1)
      · exact absurd h this.2
    · rw [ka a ha]
      rcases List.mem_cons.1 hb with rfl | hb
      · rw [insTs_key_new]; exact (mem_ahead.1 ha).2
      · rw [kb b hb]; exact hs.2.2 a ha b hb
  link := fun r hr => by
    have ha : ∀ i ∈ ahead ts ord e.key, i < ts.length := fun i hi => ((hg.mem i).1 (mem_ahead.1 hi).1).2
    have hb : ∀ i ∈ behind ts ord e.key, i < ts.length := fun i hi => ((hg.mem i).1 (mem_behind.1 hi).1).2
    have ca : chain (insTs ts ord e T h) (ahead ts ord e.key) r = chain ts (ahead ts ord e.key) r := chain_congr fun i hi => insTs_hgt_lt (ha i hi)
    have cb : chain (insTs ts ord e T h) (behind ts ord e.key) r = chain ts (behind ts ord e.key) r := chain_congr fun i hi => insTs_hgt_lt (hb i hi)
    have hl := hg.link r hr
    rw [hg.chain e.key r] at hl
    have hlt : ∀ i ∈ chain ts (ahead ts ord e.key) r ++ chain ts (behind ts ord e.key) r, 0 < i ∧ i < ts.length ∧ r < hgt ts i := by
      intro i hi
      rw [← hg.chain e.key r, mem_chain] at hi
      have := (hg.mem i).1 hi.1
      exact ⟨this.1, this.2, hi.2⟩
    by_cases hrh : r < h
    · have hc : chain (insTs ts ord e T h) (insOrd ts ord e.key) r = chain ts (ahead ts ord e.key) r ++ ts.length :: chain ts (behind ts ord e.key) r := by
        unfold insOrd
        rw [chain_append, ca]
        have : chain (insTs ts ord e T h) (ts.length :: behind ts ord e.key) r = ts.length :: chain (insTs ts ord e T h) (behind ts ord e.key) r := by
          unfold chain; rw [List.filter_cons_of_pos]; rw [insTs_hgt_new]; simpa using hrh
        rw [this, cb]
      rw [hc]
      have hw := OnWay.end_ ts ord e.key r
      obtain ⟨v1, v2⟩ := hw.valid hg hr
      refine hl.insert (fun hm => by have := hlt _ hm; omega) (by have := hg.pos; omega) (fun hm => by have := hlt _ hm; omega) ?_ ?_ ?_ ?_
      · rw [← hg.chain e.key r]; exact hg.nodup.filter _
      · show nxt _ r (pathAt ts ord e.key r) = _
        rw [insTs_nxt_lt v1, if_pos ⟨hrh, rfl, v2⟩]
      · rw [insTs_nxt_new hrh]
        have := hw.next hg hr
        simpa using this
      · intro i h1 h2
        by_cases hi : i < ts.length
        · rw [insTs_nxt_lt hi, if_neg]
          intro hh
          exact h1 hh.2.1.symm
        · have e1 : (insTs ts ord e T h)[i]? = none := List.getElem?_eq_none (by unfold insTs; rw [List.length_append, updTo_length]; simp; omega)
          have e2 : ts[i]? = none := List.getElem?_eq_none (by omega)
          unfold nxt; rw [e1, e2]
    · have hc : chain (insTs ts ord e T h) (insOrd ts ord e.key) r = chain ts (ahead ts ord e.key) r ++ chain ts (behind ts ord e.key) r := by
        unfold insOrd
        rw [chain_append, ca]
        have : chain (insTs ts ord e T h) (ts.length :: behind ts ord e.key) r = chain (insTs ts ord e T h) (behind ts ord e.key) r := by
          unfold chain; rw [List.filter_cons_of_neg]; rw [insTs_hgt_new]; simpa using hrh
        rw [this, cb]
      rw [hc]
      refine hl.congr ?_ fun i hi => ?_
      · rw [insTs_nxt_lt hg.pos, if_neg (fun hh => hrh hh.1)]
      · rw [insTs_nxt_lt (hlt i hi).2.1, if_neg (fun hh => hrh hh.1)]

/-- Entries and heights in order. -/
def model (ts : List Tw) (ord : List Nat) : List (Ent × Nat) := ord.map fun i => (entAt ts i, hgt ts i)

theorem model_fst (ts : List Tw) (ord : List Nat) : (model ts ord).map (·.1) = ents ts ord := by simp [model, ents]

def aheadM (k : Key) (x : Ent × Nat) : Bool := decide (kcmp x.1.key k < 0)

theorem model_filter (hg : Good ts ord) (p : Key → Bool) : ∀ l : List Nat, (∀ i ∈ l, i ∈ ord) → (l.map fun i => (entAt ts i, hgt ts i)).filter (fun x => p x.1.key) = (l.filter fun i => p (keyAt ts i)).map fun i => (entAt ts i, hgt ts i)
  | [], _ => rfl
  | a :: l, h => by
    have ih := model_filter hg p l fun i hi => h i (List.mem_cons_of_mem _ hi)
    have e := hg.ent (h a List.mem_cons_self)
    rw [List.map_cons, List.filter_cons, List.filter_cons, ih, e]
    split <;> simp

/-- The model behind an insertion. -/
def insM (m : List (Ent × Nat)) (e : Ent) (h : Nat) : List (Ent × Nat) := m.filter (aheadM e.key) ++ (e, h) :: m.filter (fun x => !aheadM e.key x)

theorem model_insert (hg : Good ts ord) (e : Ent) (T h : Nat) : model (insTs ts ord e T h) (insOrd ts ord e.key) = insM (model ts ord) e h := by
  unfold insM model insOrd aheadM
  rw [model_filter hg (fun k => decide (kcmp k e.key < 0)) ord (fun _ h => h), model_filter hg (fun k => !decide (kcmp k e.key < 0)) ord (fun _ h => h)]
  rw [List.map_append, List.map_cons, insTs_ent_new, insTs_hgt_new]
  congr 1
  · show List.map _ (ahead ts ord e.key) = List.map _ (ahead ts ord e.key)
    apply List.map_congr_left
    intro i hi
    have := ((hg.mem i).1 (mem_ahead.1 hi).1).2
    rw [insTs_ent_lt this, insTs_hgt_lt this]
  · congr 1
    show List.map _ (behind ts ord e.key) = List.map _ (behind ts ord e.key)
    apply List.map_congr_left
    intro i hi
    have := ((hg.mem i).1 (mem_behind.1 hi).1).2
    rw [insTs_ent_lt this, insTs_hgt_lt this]

end Go.Proofs.Yteaanagljmcidaa
