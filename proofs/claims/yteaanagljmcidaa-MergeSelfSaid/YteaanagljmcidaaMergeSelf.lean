/- law14: MergeSelf. -/
import Derived.Test.YteaanagljmcidaaLawM
namespace Go.Proofs.Yteaanagljmcidaa
open Go.RowKit

attribute [local go_sem ↓] Go.wp_at_zero Go.wp_at_succ

theorem times_range (n : Nat) : ∃ N : Nat, 1 ≤ N ∧ N ≤ 4 ∧ (1 + (n : Int) % 4) = (N : Int) := by
  have h2 : n % 4 < 4 := Nat.mod_lt _ (by decide)
  exact ⟨1 + n % 4, by omega, by omega, by omega⟩

set_option maxRecDepth 100000 in
set_option maxHeartbeats 4000000 in
theorem mergeSelf_walk (w : World) {F : Nat → Prop} {x : Value} (l : List Ent) (hx : Sl entCA w F x l) (times : UInt8) : Calls Try.prog 12 #[x, byteV times] w fun e w' => e = .returned (.bool true) ∧ Ext w w' := by
  obtain ⟨A, N, n, rfl⟩ := hx.form0
  have Hx := Lib.hid hx
  clear hx
  go_enter Try.func12, Try.ntmps12
  go_wp2_with (first
    | (go_at_call 44; refine (law14_awake _).mono ?_; rintro r w1 ⟨rfl, hx1⟩; have HX1 := Lib.hid hx1; clear hx1)
    | (go_at_call 59; refine (r3_few _ l (Hx.out.ext HX1.out) 30 (by decide)).mono ?_; rintro e w2 ⟨x2, rfl, hx2, hl2⟩; have HX2 := Lib.hid (HX1.out.ext hx2); have HL2 := Lib.hid hl2; obtain ⟨A2, k2, m2, rfl⟩ := hl2.form0; clear hx2 hl2)
    | (go_at_call 58; refine (r12_sort _ _ HL2.out (by rw [List.length_map, List.length_take]; omega)).mono ?_; rintro e w3 ⟨x3, rfl, hx3, hl3⟩; have HX3 := Lib.hid (HX2.out.ext hx3 : Ext w w3); have HL3 := Lib.hid hl3; have HSo := Lib.hid (sortE_sorted ((l.take 30).map cutE)); have HLe : Hid ((sortE ((l.take 30).map cutE)).length ≤ 30) := Lib.hid (Nat.le_trans (sortE_length _) (by rw [List.length_map, List.length_take]; omega)); obtain ⟨A3, k3, m3, rfl⟩ := hl3.form0; clear hx3 hl3))
  have HS3 := Lib.hid (HL3.out.belowM (by decide))
  generalize sortE ((l.take 30).map cutE) = S at *
  obtain ⟨N', hN1, hN4, hN⟩ := times_range times.toNat
  rw [hN]
  clear hN
  go_loopw [5, 16] (fun s5 s16 wr => ∃ i : Nat, i ≤ N' ∧ s16 = .int .u8 i ∧ Own lstC 43 wr w3.heap.size (fun _ => True) s5 (selfs S i) ∧ Ext w3 wr) (fun _ s16 _ => N' - (intOf s16).toNat)
  case atStart => exact ⟨0, Nat.zero_le _, rfl, Own.nil _ _ _ _ _, Out.refl _ _⟩
  case round =>
    obtain ⟨wo, rfl⟩ : ∃ x : World, x = wr := ⟨_, rfl⟩
    obtain ⟨i, hi, rfl, hown, hx⟩ := hrel
    obtain ⟨A5, n5, c5, rfl⟩ := hown.form0
    have HFl := Lib.hid hown.lt
    have Hown := Lib.hid hown
    have HX := Lib.hid hx
    have hsz := hx.size
    have Hsl := Lib.hid (selfs_length S i)
    clear hown hx
    by_cases hlt : i < N'
    · have HS4 : Hid (Sl entC (wo.alloc (.cells #[.slice A3 k3 m3, .slice none 0 0] 43)) (fun b => b < w3.heap.size ∨ b = wo.heap.size) (.slice A3 k3 m3) S) := Lib.hid (((HS3.out.ext HX.out).alloc _).mono (fun b hb _ => .inl hb.2) (.inl (by decide)))
      have H2 : Hid (Sl lstC (wo.alloc (.cells #[.slice A3 k3 m3, .slice none 0 0] 43)) (fun b => b < w3.heap.size ∨ b = wo.heap.size) (.slice (some ⟨wo.heap.size, 0, none⟩) 2 2) [S, []]) := Lib.hid (Sl.two (c := lstC) (blk_new wo _) (xa := [_]) (xb := [_]) rfl ⟨_, rfl, HS4.out⟩ ⟨_, rfl, Sl.nil _ _ _⟩ (.inr rfl) (by decide))
      go_wp2_with (at_builtin; refine wpList_append_sl rfl (.tmp 18) (.tmp 20) 62 rfl fits62 (Hown.out.ext (Ext.alloc1 _ _)) rfl (by (try simp only [World.size_alloc]); omega) H2.out rfl (fun i hi cs hc => lstC.mono hc (fun b hb _ => ⟨trivial, fun e => by have := HFl.out _ e; rcases hb with hb | hb <;> omega⟩)) (by rw [Hsl.out]; simp; omega) (by decide) ?_; intro v' w5 g1 g2 g3; obtain ⟨A6, n6, c6, rfl⟩ := g1.form0; have G1 := Lib.hid g1; have G2 := Lib.hid g2; clear g1 g2 g3)
      go_roundw
      case rel => exact ⟨i + 1, by omega, by go_num, G1.out, (HX.out.alloc _).then G2.out (fun b hb e => by have := HFl.out _ e; omega)⟩
      case measure => simp [intOf]; omega
    · obtain rfl : i = N' := by omega
      have hlen : (selfs S i).length ≤ 1000 := by rw [selfs_length]; omega
      have hmem : ∀ l ∈ selfs S i, l.length ≤ 1000 := fun l hl => (selfs_mem hl).elim (fun h => by rw [h]; have := HLe.out; omega) (fun h => by rw [h]; simp)
      have Hsort : Hid (∀ l ∈ selfs S i, SortedE l) := Lib.hid fun l hl => (selfs_mem hl).elim (fun h => by rw [h]; exact HSo.out) (fun h => by rw [h]; exact .nil)
      have Hall : Hid (allE (selfs S i) = S) := Lib.hid (by obtain ⟨k, rfl⟩ : ∃ k, i = k + 1 := ⟨i - 1, by omega⟩; exact allE_selfs HSo.out k)
      have HSl := Lib.hid (Hown.out.sl (G := fun _ => True) (by decide) (by show _ ≤ 140737488355328; omega) (fun _ _ _ => trivial) (fun _ _ _ => trivial))
      have Hlen := Lib.hid hlen
      have Hmem := Lib.hid hmem
      generalize selfs S i = L at *
      clear hlen hmem
      go_wp2_with (first
        | (go_at_call 47; refine (new_ok HSl.out Hlen.out Hmem.out Hsort.out).mono ?_; rintro e w6 ⟨hx6, C, cv, rfl, hc6, hh6⟩; have HX6 := Lib.hid hx6; have HC6 := Lib.hid hc6; clear hx6 hc6 hh6)
        | (go_at_call 49; refine (me_all HC6.out Hsort.out Hlen.out (by rw [Hall.out]; have := HLe.out; omega)).mono ?_; rw [Hall.out]; rintro e w7 ⟨v7, rfl, hx7, ho7⟩; have HX7 := Lib.hid hx7; have HO7 := Lib.hid (OwnedM.slM ho7 (by have := HLe.out; omega)); obtain ⟨A7, c7, rfl, -⟩ := ho7.form; clear hx7 ho7)
        | (go_at_call 32; refine (r3_sameSelfM HO7.out (((HS3.out.ext HX.out).ext HX6.out).ext HX7.out)).mono ?_; rintro r w8 ⟨rfl, hx8⟩))
      go_ret
      exact ⟨rfl, (((HX3.out.ext HX.out).ext HX6.out).ext HX7.out).ext hx8⟩
end Go.Proofs.Yteaanagljmcidaa
