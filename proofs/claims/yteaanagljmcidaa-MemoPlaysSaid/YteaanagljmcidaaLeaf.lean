/- The leaves: bytes compared, copied, cut. -/
import Derived.Test.YteaanagljmcidaaMem
import Derived.Test.YteaanagljmcidaaProg
namespace Go.Proofs.Yteaanagljmcidaa
open Go.RowKit

theorem bs_string {w : World} {F : Nat → Prop} {v : Value} {l : List UInt8} (h : Bs w F v l) : (convert 27 9 v).run Try.prog w = .ok (.string (strOf l)) w :=
  run_bytes_string h Try.underlying27 Try.underlying5 Try.underlying9

theorem fits5 : Fits Try.prog 27 5 byteC.size 1 := fits_of Try.underlying27 (by decide) (by kernel_rfl : (Try.prog.info? 5).map (fun i => (i.zero, i.size, i.bytes)) = some (some (.int .u8 0), 1, 1)) rfl

set_option maxHeartbeats 400000 in
theorem r1_same (w : World) {F G : Nat → Prop} {a b : Value} {la lb : List UInt8} (ha : Bs w F a la) (hb : Bs w G b lb) :
    Calls Try.prog 74 #[a, b] w fun e w' => e = .returned (.bool (la == lb)) ∧ w = w' := by
  have h1 := bs_string ha
  have h2 := bs_string hb
  have h3 := strOf_toList
  clear ha hb
  go_enter Try.func74, Try.ntmps74
  go_wp2
  go_ret
  exact ⟨rfl, rfl⟩

set_option maxHeartbeats 400000 in
theorem bytes_equal (w : World) {F G : Nat → Prop} {a b : Value} {la lb : List UInt8} (ha : Bs w F a la) (hb : Bs w G b lb) :
    Calls Try.prog 138 #[a, b] w fun e w' => e = .returned (.bool (la == lb)) ∧ w = w' := by
  have h1 := bs_string ha
  have h2 := bs_string hb
  have h3 := strOf_toList
  clear ha hb
  go_enter Try.func138, Try.ntmps138
  go_wp2
  go_ret
  exact ⟨rfl, rfl⟩

set_option maxHeartbeats 400000 in
theorem r1_less (w : World) {F G : Nat → Prop} {a b : Value} {la lb : List UInt8} (ha : Bs w F a la) (hb : Bs w G b lb) :
    Calls Try.prog 82 #[a, b] w fun e w' => e = .returned (.bool (Op.bytesLess la lb)) ∧ w = w' := by
  have h1 := bs_string ha
  have h2 := bs_string hb
  have h3 := strOf_toList
  clear ha hb
  go_enter Try.func82, Try.ntmps82
  go_wp2
  go_ret
  exact ⟨rfl, rfl⟩

/-- A fresh copy. -/
def Copied (w : World) (l : List UInt8) (e : Ending) (w' : World) : Prop := ∃ v, e = .returned v ∧ Ext w w' ∧ Bs w' (fun b => w.heap.size ≤ b) v l

theorem copied_of {w w' : World} {v : Value} {l : List UInt8} (hl : l.length ≤ big) (h1 : Own byteC 5 w' w.heap.size (fun _ => True) v ([] ++ l))
    (h2 : Out (fun k => (Value.slice (some ⟨w.heap.size, 0, none⟩) 0 0).ownBlock = some k) (w.alloc (.cells #[] 5)) w') : Copied w l (.returned v) w' := by
  refine ⟨v, rfl, ((Out.refl _ w).alloc _).then h2 fun i hi h => ?_, ?_⟩
  · simp [Value.ownBlock] at h; omega
  · have h3 := h1.sl (G := fun b => True) (by decide) (by show ([] ++ l).length ≤ 140737488355328; simp; exact hl) (fun _ _ _ => trivial) (fun _ _ _ => trivial)
    obtain ⟨A, cap, hv, g1, g2, g3, g4, g5⟩ := h3
    refine ⟨A, cap, by simpa using hv, by simpa using g1, g2, by simpa using g3, g4, fun i hi => ?_⟩
    obtain ⟨b, off, cs, hA, _, hat, hr⟩ := g5 i (by simpa using hi)
    exact ⟨b, off, cs, hA, (h1.lt b (by rw [hv, hA]; rfl)).1, hat, (by have hr' : byteC.rep w' (fun b => True) cs ([] ++ l)[i] := hr; simpa [byteC] using hr')⟩

set_option maxHeartbeats 400000 in
theorem r1_copy (w : World) {F : Nat → Prop} {a : Value} {la : List UInt8} (ha : Bs w F a la) :
    Calls Try.prog 80 #[a] w (Copied w la) := by
  have hl : la.length ≤ big := let ⟨_, _, _, _, _, h, _⟩ := ha; h
  have ho : Own byteC 5 (w.alloc (.cells #[] 5)) w.heap.size (fun _ => True) (.slice (some ⟨w.heap.size, 0, none⟩) 0 0) [] := Own.empty _ _ _ _
  have ha' := ha.ext ((Out.refl _ w).alloc (.cells #[] 5))
  go_enter Try.func80, Try.ntmps80
  go_wp2_with (at_builtin; refine wpList_append_sl rfl (.tmp 3) (.tmp 4) 27 rfl fits5 ho rfl (by simp) ha' rfl (fun _ _ _ h => h) (by simp; unfold big at *; omega) (by decide) ?_; intro v' w' h1 h2 h3)
  go_ret
  exact copied_of hl h1 h2

set_option maxHeartbeats 400000 in
theorem bytes_clone (w : World) {F : Nat → Prop} {a : Value} {la : List UInt8} (ha : Bs w F a la) :
    Calls Try.prog 122 #[a] w (Copied w la) := by
  have hl : la.length ≤ big := let ⟨_, _, _, _, _, h, _⟩ := ha; h
  have ho : Own byteC 5 (w.alloc (.cells #[] 5)) w.heap.size (fun _ => True) (.slice (some ⟨w.heap.size, 0, none⟩) 0 0) [] := Own.empty _ _ _ _
  have ha' := ha.ext ((Out.refl _ w).alloc (.cells #[] 5))
  obtain ⟨b, hb, hg, h0⟩ := ha.eqlNil Try.underlying27
  cases b
  · clear h0
    go_enter Try.func122, Try.ntmps122
    go_wp2_with (at_builtin; refine wpList_append_sl rfl (.tmp 5) (.tmp 6) 27 rfl fits5 ho rfl (by simp) ha' rfl (fun _ _ _ h => h) (by simp; unfold big at *; omega) (by decide) ?_; intro v' w' h1 h2 h3)
    go_ret
    exact copied_of hl h1 h2
  · have hn := h0 rfl
    subst hn
    clear h0
    go_enter Try.func122, Try.ntmps122
    go_wp2
    go_ret
    exact ⟨_, rfl, Out.refl _ w, Sl.nil _ _ _⟩

set_option maxHeartbeats 400000 in
theorem r1_cut (w : World) {F : Nat → Prop} {a : Value} {la : List UInt8} (ha : BsA w F a la) (n : Nat) (hn : n ≤ 1000000) :
    Calls Try.prog 77 #[a, .int .i64 n] w (Copied w (la.take n)) := by
  have ho : Own byteC 5 (w.alloc (.cells #[] 5)) w.heap.size (fun _ => True) (.slice (some ⟨w.heap.size, 0, none⟩) 0 0) [] := Own.empty _ _ _ _
  have ha' := ha.ext ((Out.refl _ w).alloc (.cells #[] 5))
  obtain ⟨A, cap, rfl, h1, h2, h3, h4⟩ := ha.form
  unfold maxLen at h2
  have h5 : la.length ≤ 9223372036854775807 := h3
  by_cases hlt : n < la.length
  · have hle : (la.take n).length = n := List.length_take_of_le (by omega)
    have hs := Sl.ofA (ha'.take n (by omega)) (by rw [hle]; unfold big; omega)
    have Hle := Lib.hid hle
    clear ha ha' h3 h4 hle
    go_enter Try.func77, Try.ntmps77
    go_wp2_with (at_builtin; refine wpList_append_sl rfl (.tmp 5) (.tmp 11) 27 rfl fits5 ho rfl (by simp) hs rfl (fun _ _ _ h => h) (by rw [Hle.out]; simp; omega) (by decide) ?_; intro v' w' h1 h2 h3)
    go_ret
    exact copied_of (by rw [Hle.out]; unfold big; omega) h1 h2
  · have hs := ha'.take la.length (Nat.le_refl _)
    rw [List.take_length] at hs
    have hs := Sl.ofA hs (by unfold big; omega)
    rw [List.take_of_length_le (by omega)]
    clear ha ha' h3 h4
    go_enter Try.func77, Try.ntmps77
    go_wp2_with (at_builtin; refine wpList_append_sl rfl (.tmp 5) (.tmp 11) 27 rfl fits5 ho rfl (by simp) hs rfl (fun _ _ _ h => h) (by simp; omega) (by decide) ?_; intro v' w' h1 h2 h3)
    go_ret
    exact copied_of (by unfold big; omega) h1 h2
end Go.Proofs.Yteaanagljmcidaa
