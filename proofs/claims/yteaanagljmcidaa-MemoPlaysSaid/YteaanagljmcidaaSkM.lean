/- skip: a list in memory as its entries and heights. -/
import Derived.Test.YteaanagljmcidaaSkInsC
namespace Go.Proofs.Yteaanagljmcidaa
open Go.RowKit

def sizeE (e : Ent) : Int := e.key.user.length + e.value.length + 16
def sizeM : List (Ent × Nat) → Int
  | [] => 0
  | x :: m => sizeE x.1 + sizeM m

theorem sizeM_append : ∀ a b : List (Ent × Nat), sizeM (a ++ b) = sizeM a + sizeM b
  | [], b => by simp [sizeM]
  | x :: a, b => by rw [List.cons_append, sizeM, sizeM, sizeM_append a b]; omega
theorem sizeM_split (p : Ent × Nat → Bool) : ∀ m, sizeM (m.filter p) + sizeM (m.filter fun x => !p x) = sizeM m
  | [] => rfl
  | x :: m => by
    have ih := sizeM_split p m
    rw [List.filter_cons, List.filter_cons]
    cases p x <;> simp [sizeM] <;> omega
theorem length_split (p : Ent × Nat → Bool) : ∀ m : List (Ent × Nat), (m.filter p).length + (m.filter fun x => !p x).length = m.length
  | [] => rfl
  | x :: m => by
    have ih := length_split p m
    rw [List.filter_cons, List.filter_cons]
    cases p x <;> simp <;> omega
theorem insM_length (m : List (Ent × Nat)) (e : Ent) (h : Nat) : (insM m e h).length = m.length + 1 := by
  have := length_split (aheadM e.key) m
  unfold insM; rw [List.length_append, List.length_cons]; omega
theorem sizeM_ins (m : List (Ent × Nat)) (e : Ent) (h : Nat) : sizeM (insM m e h) = sizeM m + sizeE e := by
  have := sizeM_split (aheadM e.key) m
  unfold insM; rw [sizeM_append, sizeM]; show _ + (sizeE e + _) = _; omega

/-- What stands in a list was let in. -/
def OkM (m : List (Ent × Nat)) : Prop := ∀ x ∈ m, icheck x.1.key = 0 ∧ x.1.value.length ≤ 512 ∧ 1 ≤ x.2 ∧ x.2 ≤ 8
theorem icheck_len {k : Key} (h : icheck k = 0) : k.user.length ≤ 64 := by
  unfold icheck icheckI at h
  split at h
  · cases h
  · split at h
    · cases h
    · split at h
      · cases h
      · omega
theorem sizeM_range : ∀ {m : List (Ent × Nat)}, OkM m → 0 ≤ sizeM m ∧ sizeM m ≤ m.length * 592
  | [], _ => by simp [sizeM]
  | x :: m, h => by
    have ih := sizeM_range (m := m) fun y hy => h y (List.mem_cons_of_mem _ hy)
    obtain ⟨h1, h2, _⟩ := h x List.mem_cons_self
    have h3 := icheck_len h1
    rw [sizeM, List.length_cons]
    unfold sizeE
    omega

/-- A skip list at L that holds m, in blocks of Foot. -/
def SkM (w : World) (Foot : Nat → Prop) (L : Nat) (m : List (Ent × Nat)) : Prop :=
  ∃ v ts ord, Sk w Foot L v ts (sizeM m) ∧ Good ts ord ∧ model ts ord = m ∧ ts.length = m.length + 1 ∧ OkM m

variable {w w' : World} {Foot F : Nat → Prop} {L : Nat} {m : List (Ent × Nat)} {e : Ent} {u x : Value} {k : Key}

theorem SkM.frame (h : SkM w Foot L m) {S : Nat → Prop} (ho : Out S w w') (hs : ∀ b, b < w.heap.size → Foot b → ¬ S b) : SkM w' Foot L m :=
  let ⟨v, ts, ord, h1, h2⟩ := h; ⟨v, ts, ord, h1.frame ho hs, h2⟩
theorem SkM.ext (h : SkM w Foot L m) (ho : Ext w w') : SkM w' Foot L m := h.frame ho fun _ _ _ f => f
theorem SkM.mono (h : SkM w Foot L m) {G : Nat → Prop} (hg : ∀ b, b < w.heap.size → Foot b → G b) : SkM w G L m :=
  let ⟨v, ts, ord, h1, h2⟩ := h; ⟨v, ts, ord, h1.mono hg, h2⟩

/-- In order. -/
def SortedM (m : List (Ent × Nat)) : Prop := m.Pairwise fun a b => kcmp a.1.key b.1.key < 0

theorem SkM.sorted (h : SkM w Foot L m) : SortedM m := by
  obtain ⟨v, ts, ord, h1, h2, rfl, h3, h4⟩ := h
  unfold SortedM model
  rw [List.pairwise_map]
  exact h2.sorted.imp_of_mem fun {a b} ha hb hab => by rw [← h2.ent ha, ← h2.ent hb]; exact hab

theorem sk_newM (w : World) : Calls Try.prog 26 #[] w fun e w' => ∃ L, e = .returned (.pointer (some ⟨L, 0, none⟩)) ∧ Ext w w' ∧ SkM w' (fun b => w.heap.size ≤ b) L [] := by
  refine (sk_new w).mono ?_
  rintro r w' ⟨L, T, v, rfl, hx, hs⟩
  exact ⟨L, rfl, hx, v, [tw0 T], [], hs, good_new T, rfl, rfl, fun _ h => absurd h (by simp)⟩

/-- What Insert answers. -/
def insR (m : List (Ent × Nat)) (e : Ent) (h : Int) : Int :=
  if icheck e.key ≠ 0 then icheck e.key else if h < 1 ∨ 8 < h then 1 else if 512 < e.value.length then 3 else if ∃ x ∈ m, x.1.key = e.key then 7 else 0
/-- What it leaves. -/
def insN (m : List (Ent × Nat)) (e : Ent) (h : Int) : List (Ent × Nat) := if insR m e h = 0 then insM m e h.toNat else m

theorem okM_insN (hm : OkM m) (h : Int) : OkM (insN m e h) := by
  unfold insN
  split
  · rename_i hr
    unfold insR at hr
    have h1 : icheck e.key = 0 := by
      apply Classical.byContradiction; intro hc; rw [if_pos hc] at hr; exact hc hr
    rw [if_neg (by simpa using h1)] at hr
    have h2 : ¬ (h < 1 ∨ 8 < h) := fun hc => by rw [if_pos hc] at hr; cases hr
    rw [if_neg h2] at hr
    have h3 : ¬ (512 < e.value.length) := fun hc => by rw [if_pos hc] at hr; cases hr
    intro x hx
    unfold insM at hx
    simp only [List.mem_append, List.mem_cons, List.mem_filter] at hx
    rcases hx with hx | rfl | hx
    · exact hm x hx.1
    · exact ⟨h1, by show e.value.length ≤ 512; omega, by show 1 ≤ h.toNat; omega, by show h.toNat ≤ 8; omega⟩
    · exact hm x hx.1
  · exact hm
theorem key_in_model {ts : List Tw} {ord : List Nat} (hg : Good ts ord) (k : Key) : (∃ i ∈ ord, keyAt ts i = k) ↔ ∃ x ∈ model ts ord, x.1.key = k := by
  unfold model
  constructor
  · rintro ⟨i, hi, he⟩
    exact ⟨_, List.mem_map.2 ⟨i, hi, rfl⟩, by rw [← he]; exact (hg.ent hi).symm⟩
  · rintro ⟨x, hx, he⟩
    obtain ⟨i, hi, rfl⟩ := List.mem_map.1 hx
    exact ⟨i, hi, by rw [← he]; exact hg.ent hi⟩

theorem sk_insert (h : SkM w Foot L m) (hm : m.length < 90000) (hF' : ∀ b, F b → b < w.heap.size) (hu : Bs w F u e.key.user) (hx : Bs w F x e.value) (ht : Int) :
    Calls Try.prog 28 #[.pointer (some ⟨L, 0, none⟩), .agg #[u, u64V e.key.seq, byteV e.key.kind, x], .int .i64 ht] w fun r w' => r = .returned (.int .i64 (insR m e ht)) ∧ Out Foot w w' ∧ SkM w' (fun b => Foot b ∨ w.heap.size ≤ b) L (insN m e ht) := by
  obtain ⟨v, ts, ord, hS, hG, hM, hlen, hok⟩ := h
  have hS' : Sk w (fun b => Foot b ∧ b < w.heap.size) L v ts (sizeM m) := hS.mono fun b hb hf => ⟨hf, hb⟩
  have same : ∀ w', Ext w w' → SkM w' (fun b => Foot b ∨ w.heap.size ≤ b) L m := fun w' hx => ⟨v, ts, ord, (hS.mono fun b _ hf => Or.inl hf).ext hx, hG, hM, hlen, hok⟩
  have no : ∀ {c w'}, insR m e ht = c → c ≠ 0 → Ext w w' → Out Foot w w' ∧ SkM w' (fun b => Foot b ∨ w.heap.size ≤ b) L (insN m e ht) := fun {c w'} hr hc hx => by
    unfold insN; rw [if_neg (by rw [hr]; exact hc)]; exact ⟨hx.out _, same w' hx⟩
  have hex := key_in_model hG e.key
  rw [hM] at hex
  by_cases hc : icheck e.key = 0
  · by_cases hh : ht < 1 ∨ 8 < ht
    · refine (ins_height hS hu hx ht hc hh).mono ?_
      rintro r w' ⟨rfl, hx'⟩
      have hr : insR m e ht = 1 := by unfold insR; simp [hc, hh]
      exact ⟨by rw [hr], no hr (by decide) hx'⟩
    · obtain ⟨t, rfl⟩ : ∃ t : Nat, ht = t := ⟨ht.toNat, by omega⟩
      by_cases hl : 512 < e.value.length
      · refine (ins_long hS hu hx t hc (by omega) (by omega) hl).mono ?_
        rintro r w' ⟨rfl, hx'⟩
        have hr : insR m e t = 3 := by unfold insR; rw [if_neg (by simpa using hc), if_neg hh, if_pos hl]
        exact ⟨by rw [hr], no hr (by decide) hx'⟩
      · by_cases he : ∃ i ∈ ord, keyAt ts i = e.key
        · refine (ins_exists hS' hG (fun b hb => hb.2) hF' hu hx t hc (by omega) (by omega) (by omega) he).mono ?_
          rintro r w' ⟨rfl, hx'⟩
          have hr : insR m e t = 7 := by unfold insR; rw [if_neg (by simpa using hc), if_neg hh, if_neg hl, if_pos (hex.1 he)]
          exact ⟨by rw [hr], no hr (by decide) hx'⟩
        · refine (ins_new hS' hG (fun b hb => hb.2) hF' hu hx t hc (by omega) (by omega) (by omega) (fun i hi hk => he ⟨i, hi, hk⟩) (by omega) (sizeM_range hok).1 (by have := (sizeM_range hok).2; omega) (by have := icheck_len hc; omega)).mono ?_
          rintro r w' ⟨rfl, ho, v', T, hs'⟩
          have hr : insR m e t = 0 := by unfold insR; rw [if_neg (by simpa using hc), if_neg hh, if_neg hl, if_neg (fun hx => he (hex.2 hx))]
          refine ⟨by rw [hr], ho.mono fun b _ hb => hb.1, v', _, _, ?_, good_insert hG e T t (by omega) (by omega) (fun i hi hk => he ⟨i, hi, hk⟩), ?_, ?_, okM_insN hok _⟩
          · unfold insN
            rw [if_pos hr, sizeM_ins]
            exact hs'.mono fun b _ hb => hb.imp (·.1) id
          · unfold insN
            rw [if_pos hr, model_insert hG, hM]; rfl
          · unfold insN
            rw [if_pos hr, insM_length]
            unfold insTs; rw [List.length_append, updTo_length, hlen]; rfl
  · refine (ins_key hS hu hx ht hc).mono ?_
    rintro r w' ⟨rfl, hx'⟩
    have hr : insR m e ht = icheck e.key := by unfold insR; rw [if_pos hc]
    exact ⟨by rw [hr], no hr hc hx'⟩

theorem sk_lenM (w : World) (h : SkM w Foot L m) : Calls Try.prog 30 #[.pointer (some ⟨L, 0, none⟩)] w fun e w' => e = .returned (.int .i64 m.length) ∧ w = w' := by
  obtain ⟨v, ts, ord, h1, h2, h3, h4, h5⟩ := h
  refine (sk_len w h1).mono ?_
  rintro r w' ⟨rfl, rfl⟩
  exact ⟨by rw [h4]; congr 2; omega, rfl⟩
theorem sk_sizeM (w : World) (h : SkM w Foot L m) : Calls Try.prog 34 #[.pointer (some ⟨L, 0, none⟩)] w fun e w' => e = .returned (.int .i64 (sizeM m)) ∧ w = w' := by
  obtain ⟨v, ts, ord, h1, _⟩ := h
  exact sk_size w h1
theorem sk_fromM (w : World) (h : SkM w Foot L m) (hF' : ∀ b, F b → b < w.heap.size) (hu : Bs w F u k.user) :
    Calls Try.prog 35 #[.pointer (some ⟨L, 0, none⟩), .agg #[u, u64V k.seq, byteV k.kind]] w (Told w (fromE (m.map (·.1)) k)) := by
  obtain ⟨v, ts, ord, h1, h2, rfl, h3, h4⟩ := h
  have hS' := h1.mono (G := fun b => Foot b ∧ b < w.heap.size) fun b hb hf => ⟨hf, hb⟩
  rw [model_fst]
  exact sk_from w hS' h2 (fun b hb => hb.2) hF' hu
theorem sk_beforeM (w : World) (h : SkM w Foot L m) (hF' : ∀ b, F b → b < w.heap.size) (hu : Bs w F u k.user) :
    Calls Try.prog 37 #[.pointer (some ⟨L, 0, none⟩), .agg #[u, u64V k.seq, byteV k.kind]] w (Told w (beforeE (m.map (·.1)) k)) := by
  obtain ⟨v, ts, ord, h1, h2, rfl, h3, h4⟩ := h
  have hS' := h1.mono (G := fun b => Foot b ∧ b < w.heap.size) fun b hb hf => ⟨hf, hb⟩
  rw [model_fst]
  exact sk_before w hS' h2 (fun b hb => hb.2) hF' hu

/-- All the puts, one by one. -/
def insAll (m : List (Ent × Nat)) (l : List PutE) : List (Ent × Nat) := l.foldl (fun m p => insN m p.e p.h) m

theorem insAll_take_succ (m : List (Ent × Nat)) (l : List PutE) (k : Nat) (hk : k < l.length) : insAll m (l.take (k + 1)) = insN (insAll m (l.take k)) l[k].e l[k].h := by
  unfold insAll; rw [List.take_succ_eq_append_getElem hk, List.foldl_append]; rfl
theorem insN_length (m : List (Ent × Nat)) (e : Ent) (h : Int) : (insN m e h).length ≤ m.length + 1 := by
  unfold insN; split
  · rw [insM_length]; exact Nat.le_refl _
  · omega
theorem insAll_length : ∀ (l : List PutE) (m : List (Ent × Nat)), (insAll m l).length ≤ m.length + l.length
  | [], m => by simp [insAll]
  | p :: l, m => by
    have h1 := insAll_length l (insN m p.e p.h)
    have h2 := insN_length m p.e p.h
    have h3 : insAll m (p :: l) = insAll (insN m p.e p.h) l := rfl
    rw [h3, List.length_cons]; omega

theorem okM_insAll : ∀ (l : List PutE) (m : List (Ent × Nat)), OkM m → OkM (insAll m l)
  | [], _, h => h
  | p :: l, m, h => okM_insAll l (insN m p.e p.h) (okM_insN h _)
theorem okM_nil : OkM [] := fun _ h => absurd h (by simp)

/-- A row. -/
def rowM (m : List (Ent × Nat)) (h : Nat) : List Key := (m.filter fun x => decide (h ≤ x.2)).map (·.1.key)
theorem rowM_one (hm : OkM m) : (rowM m 1).length = m.length := by
  unfold rowM; rw [List.length_map, List.filter_eq_self.2 fun x hx => by simpa using (hm x hx).2.2.1]
theorem rowM_sub (m : List (Ent × Nat)) (h : Nat) : (rowM m (h + 1)).Sublist (rowM m h) := by
  unfold rowM
  refine List.Sublist.map _ ?_
  have : (m.filter fun x => decide (h + 1 ≤ x.2)) = (m.filter fun x => decide (h ≤ x.2)).filter fun x => decide (h + 1 ≤ x.2) := by
    rw [List.filter_filter]
    apply List.filter_congr
    intro x _
    rw [Bool.eq_iff_iff]; simp; omega
  rw [this]
  exact List.filter_sublist

/-- How many of row are met, one behind the other, from the k-th on. -/
def meet (row : List Key) : Nat → List Key → Nat
  | k, [] => k
  | k, x :: l => if k < row.length ∧ row[k]? = some x then meet row (k + 1) l else meet row k l
theorem meet_all {row : List Key} : ∀ {l : List Key} {k : Nat}, (row.drop k).Sublist l → k ≤ row.length → meet row k l = row.length
  | [], k, h, hk => by
    have := List.drop_eq_nil_iff.1 (List.sublist_nil.1 h)
    unfold meet; omega
  | x :: l, k, h, hk => by
    unfold meet
    by_cases hlt : k < row.length
    · rw [List.drop_eq_getElem_cons hlt] at h
      by_cases he : row[k] = x
      · rw [if_pos ⟨hlt, by rw [List.getElem?_eq_getElem hlt, he]⟩]
        rw [he] at h
        exact meet_all (List.cons_sublist_cons.1 h) hlt
      · rw [if_neg (by rw [List.getElem?_eq_getElem hlt]; simp [he])]
        rw [List.sublist_cons_iff] at h
        rcases h with h | ⟨r, hr, _⟩
        · rw [← List.drop_eq_getElem_cons hlt] at h
          exact meet_all h hk
        · injection hr with h1 _
          exact absurd h1 he
    · rw [if_neg (fun hh => hlt hh.1)]
      refine meet_all ?_ hk
      rw [List.drop_eq_nil_iff.2 (by omega)]
      exact List.nil_sublist _
theorem meet_append (row : List Key) : ∀ (a b : List Key) (k : Nat), meet row k (a ++ b) = meet row (meet row k a) b
  | [], _, _ => rfl
  | x :: a, b, k => by
    rw [List.cons_append, meet, meet]; split <;> exact meet_append row a b _
theorem meet_le (row : List Key) : ∀ (l : List Key) (k : Nat), k ≤ row.length → meet row k l ≤ row.length
  | [], _, h => h
  | x :: l, k, h => by
    rw [meet]; split
    · rename_i hh; exact meet_le row l _ hh.1
    · exact meet_le row l k h
end Go.Proofs.Yteaanagljmcidaa
