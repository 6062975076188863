/- ref03: Twins, its list owned. -/
import Derived.Test.YteaanagljmcidaaPkB
import Derived.Test.YteaanagljmcidaaPkA
namespace Go.Proofs.Yteaanagljmcidaa
open Go.RowKit

attribute [local go_sem ↓] Go.wp_at_zero Go.wp_at_succ

set_option maxRecDepth 100000 in
set_option maxHeartbeats 1000000 in
theorem r3_twinsG (w : World) {F : Nat → Prop} {x : Value} (l : List Ent) (hx : Sl entC w F x l) (hl : l.length < 1000000000000) :
    Calls Try.prog 38 #[x] w (OwnedM entC 32 w l) := by
  obtain ⟨A, cap, rfl, h1, h2, h3, h4⟩ := hx.form
  have Hx := Lib.hid hx
  clear h1 h2 h3 h4 hx
  go_enter Try.func38, Try.ntmps38
  go_wp2
  go_loopw [3, 8] (fun o i wr => ∃ k : Nat, k ≤ l.length ∧ i = .int .i64 k ∧ Own entC 32 wr w.heap.size (fun b => w.heap.size ≤ b) o (l.take k) ∧ Ext w wr) (fun _ i _ => l.length - (intOf i).toNat)
  case atStart => exact ⟨0, Nat.zero_le _, rfl, Own.nil _ _ _ _ _, Out.refl _ w⟩
  case round =>
    obtain ⟨k, hk, rfl, hown, hext⟩ := hrel
    by_cases hlt : k < l.length
    · obtain ⟨b1, o1, u1, v1, rfl, -, c0, c1, c2, c3, hu, hv⟩ := (Hx.out.ext hext).ent k hlt
      obtain ⟨U, n1, rfl, -⟩ := hu.form
      obtain ⟨V, n2, rfl, -⟩ := hv.form
      have hsz := hext.size
      have hu' := hu.alloc (.cells #[.slice U l[k].key.user.length n1, u64V l[k].key.seq, byteV l[k].key.kind, .slice V l[k].value.length n2] 32)
      have hv' := hv.alloc (.cells #[.slice U l[k].key.user.length n1, u64V l[k].key.seq, byteV l[k].key.kind, .slice V l[k].value.length n2] 32)
      have hown' := hown.ext (Ext.alloc1 wr (.cells #[.slice U l[k].key.user.length n1, u64V l[k].key.seq, byteV l[k].key.kind, .slice V l[k].value.length n2] 32))
      have Lt := Lib.hid hown'.lt
      have Sz := Lib.hid (le_alloc hsz (.cells #[.slice U l[k].key.user.length n1, u64V l[k].key.seq, byteV l[k].key.kind, .slice V l[k].value.length n2] 32))
      have Hext := Lib.hid hext
      clear hext
      go_wp2_with (first | (go_at_call 39; refine (r3_twin _ l[k] hu' hv').mono ?_; rintro x w1 ⟨x1, x2, rfl, hx1, hb1, hb2⟩) | (at_builtin; refine wpList_append_one rfl (.tmp 12) (.tmp 15) 43 rfl fits32 ((hown'.ext hx1).ext (Ext.alloc1 _ _)) rfl (le_alloc (Nat.le_trans Sz.out hx1.size) _) (blk_new _ _) rfl l[k] (ent_rep (hb1.alloc _) (hb2.alloc _) (fun b hb _ => fresh_ok Sz.out Lt.out hb) (fun b hb _ => fresh_ok Sz.out Lt.out hb)) (room_take hl (by decide)) (by decide) ?_; intro v' w' g1 g2 g3))
      go_roundw
      case rel => exact ⟨k + 1, by omega, by go_num, by rw [take_succ_get hlt]; exact g1, Out.own (((Hext.out.alloc _).ext hx1).alloc _) g2 (fun k h => (Lt.out k h).1) (Nat.le_refl _)⟩
      case measure => simp [intOf]; omega
    · go_wp2
      go_ret
      have hkl : l.take k = l := List.take_of_length_le (by omega)
      rw [hkl] at hown
      exact ⟨_, rfl, hext, hown⟩

end Go.Proofs.Yteaanagljmcidaa
