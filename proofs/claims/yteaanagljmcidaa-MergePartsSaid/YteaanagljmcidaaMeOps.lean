/- merge: First, Last, From, Before, Next, Prev. -/
import Derived.Test.YteaanagljmcidaaMeGreat
namespace Go.Proofs.Yteaanagljmcidaa
open Go.RowKit

attribute [local go_sem ↓] Go.wp_at_zero Go.wp_at_succ

/-- The cursor at C over the lists ls; it stands at a version, or nowhere. -/
def Cur (w : World) (F : Nat → Prop) (C : Nat) (v : Value) (ls : List (List Ent)) (o : Option Key) : Prop := ∃ ss, ss.map (·.1) = ls ∧ CuK w F C v ss o
/-- What a step turns. -/
def hot (C : Nat) (v : Value) (b : Nat) : Prop := b = C ∨ v.ownBlock = some b
variable {w w' : World} {F G : Nat → Prop} {C : Nat} {v u q n : Value} {ls : List (List Ent)} {ss : List (List Ent × Int)} {st : Bool} {o : Option Key} {k : Key}
theorem Cur.frame {T : Nat → Prop} (h : Cur w F C v ls o) (ho : Out T w w') (hC : ¬ T C) (hS : ∀ b, v.ownBlock = some b → ¬ T b) (hF : ∀ b, b < w.heap.size → F b → ¬ T b) : Cur w' F C v ls o :=
  let ⟨ss, h1, h2⟩ := h; ⟨ss, h1, h2.frame ho hC hS hF⟩
theorem Cur.ext (h : Cur w F C v ls o) (ho : Ext w w') : Cur w' F C v ls o := let ⟨ss, h1, h2⟩ := h; ⟨ss, h1, h2.ext ho⟩
theorem Cur.cold (h : Cur w F C v ls o) : ∀ b, F b → ¬ hot C v b := fun b hb hh => by
  obtain ⟨ss, -, u, q, n, h2, -⟩ := h
  rcases hh with rfl | hh
  · exact h2.coldC hb
  · exact h2.coldS b hh hb
theorem Cur.lt (h : Cur w F C v ls o) : ∀ b, hot C v b → b < w.heap.size := fun b hh => by
  obtain ⟨ss, -, u, q, n, h2, -⟩ := h
  rcases hh with rfl | hh
  · exact blk_lt h2.blk
  · exact (h2.own.lt b hh).2

/-- Of lists in order, what a step leaves: the first at which a property ends; the last ahead of it. -/
def fromK (d : Key → Bool) (ls : List (List Ent)) : Option Key := ((allE ls)[cut d (allE ls)]?).map (·.key)
def aheadK (d : Key → Bool) (ls : List (List Ent)) : Option Key := if cut d (allE ls) = 0 then none else ((allE ls)[cut d (allE ls) - 1]?).map (·.key)

theorem stood (d : Key → Bool) (h : ss.map (·.1) = ls) : (ss.map fun s => (s.1, (cut d s.1 : Int))) = stand d ls := by
  subst h; unfold stand; rw [List.map_map]; rfl
theorem stand_fst (d : Key → Bool) (ls : List (List Ent)) : (stand d ls).map (·.1) = ls := by unfold stand; rw [List.map_map]; simp [Function.comp_def]
theorem stand_range (d : Key → Bool) (ls : List (List Ent)) : ∀ s ∈ stand d ls, 0 ≤ s.2 ∧ s.2 ≤ s.1.length := fun s hs => by
  unfold stand at hs
  obtain ⟨l, hl, rfl⟩ := List.mem_map.1 hs
  have := cut_le d l
  exact ⟨by simp, by simpa using this⟩
theorem least_stand (h : Cu w F C v (stand (fun _ => false) ls) u q n st) : True := trivial

/-- least, greatest, behind set. -/
theorem me_leastD (d : Key → Bool) (hd : Down d) (hs : ∀ l ∈ ls, SortedE l) (h : Cu w F C v (stand d ls) u q n st) :
    Calls Try.prog 107 #[.pointer (some ⟨C, 0, none⟩)] w fun e w' => e = .returned (.bool (fromK d ls).isSome) ∧ Out (fun b => b = C) w w' ∧ Cur w' F C v ls (fromK d ls) := by
  refine (me_least h fun s hs => (stand_range d ls s hs).1).mono ?_
  rw [least_all hs hd]
  rintro e w' ⟨rfl, ho, hc⟩
  exact ⟨rfl, ho, _, stand_fst d ls, hc⟩
theorem me_greatestD (d : Key → Bool) (hd : Down d) (hs : ∀ l ∈ ls, SortedE l) (h : Cu w F C v (stand d ls) u q n st) :
    Calls Try.prog 109 #[.pointer (some ⟨C, 0, none⟩)] w fun e w' => e = .returned (.bool (aheadK d ls).isSome) ∧ Out (fun b => b = C) w w' ∧ Cur w' F C v ls (aheadK d ls) := by
  refine (me_greatest h fun s hs => stand_range d ls s hs).mono ?_
  rw [greatest_all hs hd]
  rintro e w' ⟨rfl, ho, hc⟩
  exact ⟨rfl, ho, _, stand_fst d ls, hc⟩

theorem hot_trans {a b c : World} (h1 : Out (fun x => v.ownBlock = some x) a b) (h2 : Out (fun x => x = C) b c) : Out (hot C v) a c :=
  (h1.mono fun _ _ h => .inr h).trans (h2.mono fun _ _ h => .inl h)

set_option maxHeartbeats 1000000 in
theorem me_first (h : Cur w F C v ls o) (hs : ∀ l ∈ ls, SortedE l) :
    Calls Try.prog 50 #[.pointer (some ⟨C, 0, none⟩)] w fun e w' => e = .returned (.bool (fromK (fun _ => false) ls).isSome) ∧ Out (hot C v) w w' ∧ Cur w' F C v ls (fromK (fun _ => false) ls) := by
  obtain ⟨ss, hss, u, q, n, hc, -⟩ := h
  have H := Lib.hid hc
  clear hc
  have eg := enters_of Try.func106 (by kernel_rfl) rfl
  go_enter Try.func50, Try.ntmps50
  go_wp2_with (first
    | (go_at_call 105; refine (me_set H.out 106 eg #[] (fun l => (cut (fun _ => false) l : Int)) (fun _ => True) (fun _ _ _ _ => trivial) trivial (fun w1 g off x l y cs t _ _ hb h0 h1 hl _ => (by
        have := me_first1 (w := w1) (g := g) (off := off) h1 (blk_free hb)
        rw [cut_none]; exact this))).mono ?_; rintro e w1 ⟨rfl, ho1, hc1⟩; rw [stood _ hss] at hc1; have Hc1 := Lib.hid hc1; clear hc1)
    | (go_at_call 107; refine (me_leastD _ down_none hs Hc1.out).mono ?_; rintro e w2 ⟨rfl, ho2, hc2⟩; have Hc2 := Lib.hid hc2; clear hc2))
  go_ret
  exact ⟨rfl, hot_trans ho1 ho2, Hc2.out⟩

set_option maxHeartbeats 1000000 in
theorem me_last (h : Cur w F C v ls o) (hs : ∀ l ∈ ls, SortedE l) :
    Calls Try.prog 51 #[.pointer (some ⟨C, 0, none⟩)] w fun e w' => e = .returned (.bool (aheadK (fun _ => true) ls).isSome) ∧ Out (hot C v) w w' ∧ Cur w' F C v ls (aheadK (fun _ => true) ls) := by
  obtain ⟨ss, hss, u, q, n, hc, -⟩ := h
  have H := Lib.hid hc
  clear hc
  have eg := enters_of Try.func108 (by kernel_rfl) rfl
  go_enter Try.func51, Try.ntmps51
  go_wp2_with (first
    | (go_at_call 105; refine (me_set H.out 108 eg #[] (fun l => (cut (fun _ => true) l : Int)) (fun _ => True) (fun _ _ _ _ => trivial) trivial (fun w1 g off x l y cs t _ _ hb h0 h1 hl _ => (by
        have := me_last1 (w := w1) (g := g) (off := off) h0 h1 (blk_free hb) hl
        rw [cut_all]; exact this))).mono ?_; rintro e w1 ⟨rfl, ho1, hc1⟩; rw [stood _ hss] at hc1; have Hc1 := Lib.hid hc1; clear hc1)
    | (go_at_call 109; refine (me_greatestD _ down_all hs Hc1.out).mono ?_; rintro e w2 ⟨rfl, ho2, hc2⟩; have Hc2 := Lib.hid hc2; clear hc2))
  go_ret
  exact ⟨rfl, hot_trans ho1 ho2, Hc2.out⟩
end Go.Proofs.Yteaanagljmcidaa
