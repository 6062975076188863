/- ref08: Insert over its model. -/
import Derived.Test.YteaanagljmcidaaRef8B
namespace Go.Proofs.Yteaanagljmcidaa
open Go.RowKit

theorem SortedM.ahead {m : List (Ent × Nat)} (h : SortedM m) (k : Key) : m.Pairwise fun a b => aheadM k b = true → aheadM k a = true := by
  refine h.imp fun {a b} hab hb => ?_
  unfold aheadM at *
  simp only [decide_eq_true_eq] at *
  exact kcmp_trans hab hb

theorem aheadN_map (m : List (Ent × Nat)) (k : Key) : aheadN (m.map (·.1)) k = (m.filter (aheadM k)).length := by
  unfold aheadN
  rw [List.filter_map, List.length_map]
  congr 2
  funext x
  simp [aheadM, kless_eq]
/-- One more, put between: the model's way and the rows' way. -/
theorem insM_map {β : Type} {m : List (Ent × Nat)} (h : SortedM m) (f : Ent × Nat → β) (e : Ent) (t : Nat) :
    (insM m e t).map f = (m.map f).take (aheadN (m.map (·.1)) e.key) ++ f (e, t) :: (m.map f).drop (aheadN (m.map (·.1)) e.key) := by
  obtain ⟨h1, h2⟩ := take_filter (aheadM e.key) (h.ahead e.key)
  unfold insM
  rw [aheadN_map, List.map_append, List.map_cons, ← List.map_take, ← List.map_drop, h1, h2]

/-- The document's list at R. -/
def RefM (w : World) (Foot : Nat → Prop) (R : Nat) (m : List (Ent × Nat)) : Prop := ∃ v z, RefE w Foot R v z (m.map (·.1)) (m.map fun x => (x.2 : Int))

variable {w w' : World} {Foot F G : Nat → Prop} {R : Nat} {m : List (Ent × Nat)} {e : Ent} {u x : Value}
theorem RefM.frame (h : RefM w Foot R m) {S : Nat → Prop} (ho : Out S w w') (hd : ∀ b, b < w.heap.size → Foot b → ¬ S b) : RefM w' Foot R m := let ⟨v, z, h⟩ := h; ⟨v, z, h.frame ho hd⟩
theorem RefM.ext (h : RefM w Foot R m) (ho : Ext w w') : RefM w' Foot R m := h.frame ho fun _ _ _ f => f
theorem RefM.mono (h : RefM w Foot R m) (hg : ∀ b, b < w.heap.size → Foot b → G b) : RefM w G R m := let ⟨v, z, h⟩ := h; ⟨v, z, h.mono hg⟩
theorem RefM.new (w : World) : RefM (w.alloc (.cells #[.slice none 0 0, .slice none 0 0] 56)) (fun b => w.heap.size ≤ b) w.heap.size [] :=
  ⟨_, _, blk_new _ _, Nat.le_refl _, Sl.nil _ _ _, Sl.nil _ _ _, rfl⟩

theorem r8_insert (h : RefM w Foot R m) (hs : SortedM m) (hm : m.length < 90000) (hF' : ∀ b, F b → b < w.heap.size) (hu : Bs w F u e.key.user) (hx : Bs w F x e.value) (ht : Int) :
    Calls Try.prog 40 #[.pointer (some ⟨R, 0, none⟩), .agg #[u, u64V e.key.seq, byteV e.key.kind, x], .int .i64 ht] w fun r w' => r = .returned (.int .i64 (insR m e ht)) ∧ Out (fun b => b = R) w w' ∧ RefM w' (fun b => Foot b ∨ w.heap.size ≤ b) R (insN m e ht) := by
  obtain ⟨v, z, hR⟩ := h
  have hR' : RefE w (fun b => Foot b ∧ b < w.heap.size) R v z (m.map (·.1)) (m.map fun x => (x.2 : Int)) := hR.mono fun b hb hf => ⟨hf, hb⟩
  have no : ∀ {c w'}, insR m e ht = c → c ≠ 0 → Ext w w' → Out (fun b => b = R) w w' ∧ RefM w' (fun b => Foot b ∨ w.heap.size ≤ b) R (insN m e ht) := fun {c w'} hr hc hx => by
    unfold insN; rw [if_neg (by rw [hr]; exact hc)]; exact ⟨Ext.out hx _, v, z, (hR.ext hx).mono fun _ _ hf => .inl hf⟩
  by_cases hc : icheck e.key = 0
  · by_cases hh : ht < 1 ∨ 8 < ht
    · refine (rin_height hR hu hx ht hc hh).mono ?_
      rintro r w' ⟨rfl, hx'⟩
      have hr : insR m e ht = 1 := by unfold insR; simp [hc, hh]
      exact ⟨by rw [hr], no hr (by decide) hx'⟩
    · obtain ⟨t, rfl⟩ : ∃ t : Nat, ht = t := ⟨ht.toNat, by omega⟩
      by_cases hl : 512 < e.value.length
      · refine (rin_long hR hu hx t hc (by omega) (by omega) hl).mono ?_
        rintro r w' ⟨rfl, hx'⟩
        have hr : insR m e t = 3 := by unfold insR; rw [if_neg (by simpa using hc), if_neg hh, if_pos hl]
        exact ⟨by rw [hr], no hr (by decide) hx'⟩
      · refine (rin_in hR' (fun b hb => hb.2) hF' hu hx t hc (by omega) (by omega) (by omega) (by rw [List.length_map]; exact hm)).mono ?_
        rintro r w' (⟨rfl, hx', i, hi, hk⟩ | ⟨rfl, hno, ho, v', z', hE⟩)
        · obtain ⟨y, hy, rfl⟩ := List.mem_map.1 hi
          have hr : insR m e t = 7 := by unfold insR; rw [if_neg (by simpa using hc), if_neg hh, if_neg hl, if_pos ⟨y, hy, hk⟩]
          exact ⟨by rw [hr], no hr (by decide) hx'⟩
        · have hr : insR m e t = 0 := by unfold insR; rw [if_neg (by simpa using hc), if_neg hh, if_neg hl, if_neg (fun ⟨y, hy, hk⟩ => hno y.1 (List.mem_map.2 ⟨y, hy, rfl⟩) hk)]
          refine ⟨by rw [hr], ho, v', z', ?_⟩
          unfold insN
          rw [if_pos hr, insM_map hs, insM_map hs]
          have h2 := hE.mono (G := fun b => Foot b ∨ w.heap.size ≤ b) fun b _ hb => hb.imp (·.1) id
          simpa using h2
  · refine (rin_key hR hu hx ht hc).mono ?_
    rintro r w' ⟨rfl, hx'⟩
    have hr : insR m e ht = icheck e.key := by unfold insR; rw [if_pos hc]
    exact ⟨by rw [hr], no hr hc hx'⟩
end Go.Proofs.Yteaanagljmcidaa
