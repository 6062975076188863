/- law08: the puts go into a new list, one by one. -/
import Derived.Test.YteaanagljmcidaaAwake8
import Derived.Test.YteaanagljmcidaaFewP
namespace Go.Proofs.Yteaanagljmcidaa
open Go.RowKit

/-- The list's blocks: all from B on but those of the puts. -/
def FootP (B c d b : Nat) : Prop := B ≤ b ∧ ¬ (c ≤ b ∧ b < d)

/-- k puts have gone in. -/
structure InsRel (w2 w3 wr : World) (B L : Nat) (fl : List PutE) (v : Value) (k : Nat) : Prop where
  few : fl.length ≤ 60
  hB : B ≤ w2.heap.size
  h23 : w2.heap.size ≤ w3.heap.size
  out : Out (FootP B w2.heap.size w3.heap.size) w3 wr
  sk : SkM wr (FootP B w2.heap.size w3.heap.size) L (insAll [] (fl.take k))
  sl : Sl putC wr (fun b => w2.heap.size ≤ b ∧ b < w3.heap.size) v fl

theorem InsRel.start {w2 w3 : World} {B L : Nat} {l : List PutE} {v : Value} (h : SkM w2 (fun b => B ≤ b) L []) (hB : B ≤ w2.heap.size) (hx : Ext w2 w3) (hs : Sl putC w3 (fun b => w2.heap.size ≤ b) v (fewP l)) : InsRel w2 w3 w3 B L (fewP l) v 0 where
  few := by unfold fewP; rw [List.length_map, List.length_take]; omega
  hB := hB
  h23 := hx.size
  out := Out.refl _ _
  sk := (h.mono fun b hb h1 => ⟨h1, by omega⟩).ext hx
  sl := hs.below (by decide)

variable {w2 w3 wr w1 : World} {B L : Nat} {fl : List PutE} {v : Value} {k : Nat}

theorem InsRel.step (h : InsRel w2 w3 wr B L fl v k) (hx : Ext wr w1) : InsRel w2 w3 w1 B L fl v k :=
  { h with out := h.out.ext hx, sk := h.sk.ext hx, sl := h.sl.ext hx }

theorem InsRel.call (h : InsRel w2 w3 wr B L fl v k) (hk : k < fl.length) {u x : Value} (hu : Bs wr (fun b => w2.heap.size ≤ b ∧ b < w3.heap.size) u fl[k].e.key.user) (hx : Bs wr (fun b => w2.heap.size ≤ b ∧ b < w3.heap.size) x fl[k].e.value) :
    Calls Try.prog 28 #[.pointer (some ⟨L, 0, none⟩), .agg #[u, u64V fl[k].e.key.seq, byteV fl[k].e.key.kind, x], .int .i64 fl[k].h] wr fun r w' => (∃ c, r = .returned (.int .i64 c)) ∧ InsRel w2 w3 w' B L fl v (k + 1) := by
  have hm : (insAll [] (fl.take k)).length < 90000 := by
    have h1 := insAll_length (fl.take k) []
    have h2 := h.few
    rw [List.length_take] at h1
    simp at h1
    omega
  refine (sk_insert h.sk hm (F := fun b => w2.heap.size ≤ b ∧ b < w3.heap.size) (fun b hb => Nat.lt_of_lt_of_le hb.2 h.out.size) hu hx fl[k].h).mono ?_
  rintro r w' ⟨rfl, ho, hs⟩
  have hsz := h.out.size
  refine ⟨⟨_, rfl⟩, { h with out := h.out.trans ho, sk := ?_, sl := h.sl.out ho (fun b _ hb hf => hf.2 hb) }⟩
  rw [insAll_take_succ [] fl k hk]
  exact hs.mono fun b _ hb => by
    rcases hb with hb | hb
    · exact hb
    · exact ⟨by have := h.hB; have := h.h23; omega, by omega⟩

theorem InsRel.done (h : InsRel w2 w3 wr B L fl v fl.length) : SkM wr (FootP B w2.heap.size w3.heap.size) L (insAll [] fl) := by
  have := h.sk
  rwa [List.take_length] at this

theorem okM_all (fl : List PutE) : OkM (insAll [] fl) := okM_insAll fl [] okM_nil
theorem Out.footp {w0 w w' : World} {B c d : Nat} (h : Out (FootP B c d) w w') (hx : Ext w0 w) (hB : w0.heap.size ≤ B) : Ext w0 w' := hx.then h fun i hi hf => by have := hf.1; omega
theorem rowM_le (m : List (Ent × Nat)) (h : Nat) : (rowM m h).length ≤ m.length := by unfold rowM; rw [List.length_map]; exact List.length_filter_le _ _
theorem all_le (fl : List PutE) (h : fl.length ≤ 60) : (insAll [] fl).length ≤ 60 := by have := insAll_length fl []; simp at this; omega
/-- An owned list of keys, wherever it lies. -/
theorem Owned.keys {w w' : World} {l : List Key} {v : Value} (h : Own keyC 30 w' w.heap.size (fun b => w.heap.size ≤ b) v l) (hl : l.length ≤ 1000) : Sl keyC w' (fun _ => True) v l :=
  (Owned.toSl h (by decide) (by show _ ≤ 140737488355328; omega)).mono (fun _ _ _ => trivial) (.inl (by decide))

/-- What stays from the insertions on. -/
structure Rest (w wr : World) (B c d L : Nat) (m : List (Ent × Nat)) : Prop where
  ext : Ext w wr
  sk : SkM wr (FootP B c d) L m

theorem Rest.step {w wr w1 : World} {B c d L : Nat} {m : List (Ent × Nat)} (h : Rest w wr B c d L m) (hx : Ext wr w1) : Rest w w1 B c d L m := ⟨h.ext.ext hx, h.sk.ext hx⟩

theorem Owned.ents {w w' : World} {l : List Ent} {v : Value} (h : Own entC 32 w' w.heap.size (fun b => w.heap.size ≤ b) v l) (hl : l.length ≤ 1000) : Sl entC w' (fun _ => True) v l :=
  (Owned.toSl h (by decide) (by show _ ≤ 140737488355328; omega)).mono (fun _ _ _ => trivial) (.inl (by decide))

end Go.Proofs.Yteaanagljmcidaa
