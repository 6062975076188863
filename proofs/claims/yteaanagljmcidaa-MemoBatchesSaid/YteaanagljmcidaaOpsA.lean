/- batch: CheckOp; ref04: CheckOp; memo: tall. -/
import Derived.Test.YteaanagljmcidaaLight
import Derived.Test.YteaanagljmcidaaLeaf2
namespace Go.Proofs.Yteaanagljmcidaa
open Go.RowKit

attribute [local go_sem ↓] Go.wp_at_zero Go.wp_at_succ

structure OpE where
  kind : UInt8
  key : List UInt8
  val : List UInt8
  deriving DecidableEq, Inhabited
def opC : Codec OpE where
  size := 3
  rep w F cs s := ∃ u v, cs = [byteV s.kind, u, v] ∧ Bs w F u s.key ∧ Bs w F v s.val
  len := fun ⟨_, _, h, _⟩ => by rw [h]; rfl
  one := fun ⟨u, v, h, hb, hc⟩ x hx => by
    rw [h] at hx; obtain ⟨A, cap, rfl, _⟩ := hb.form; obtain ⟨A', cap', rfl, _⟩ := hc.form
    simp only [List.mem_cons, List.not_mem_nil, or_false] at hx
    rcases hx with rfl | rfl | rfl <;> rfl
  frame := fun ⟨u, v, h, hb, hc⟩ hF => ⟨u, v, h, hb.frame hF, hc.frame hF⟩
  mono := fun ⟨u, v, h, hb, hc⟩ hF => ⟨u, v, h, hb.mono hF (.inl (by decide)), hc.mono hF (.inl (by decide))⟩
/-- An op's fault. -/
def ocheckI (kd a b : Nat) (q : Bool) : Int :=
  if kd ≠ 1 ∧ kd ≠ 2 ∧ kd ≠ 3 then 1 else if 64 < a ∨ kd = 2 ∧ 512 < b ∨ kd = 3 ∧ 64 < b then 3 else if a = 0 ∨ kd = 1 ∧ 0 < b ∨ kd = 3 ∧ q = false then 4 else 0
def ocheck (o : OpE) : Int := ocheckI o.kind.toNat o.key.length o.val.length (Op.bytesLess o.key o.val)

set_option maxRecDepth 100000 in
set_option maxHeartbeats 4000000 in
theorem batch_checkI (w : World) (U V : Option Addr) (kd a n b m : Nat) (q : Bool)
    (HL : Calls Try.prog 128 #[.slice U a n, .slice V b m] (w.alloc (.cells #[.int .u8 kd, .slice U a n, .slice V b m] 112)) fun e w' => e = .returned (.bool q) ∧ (w.alloc (.cells #[.int .u8 kd, .slice U a n, .slice V b m] 112)) = w') :
    Calls Try.prog 143 #[.agg #[.int .u8 kd, .slice U a n, .slice V b m]] w fun e w' => e = .returned (.int .i64 (ocheckI kd a b q)) ∧ Ext w w' := by
  obtain ⟨z0, z1, z2, -⟩ := cells3 (blk_new w (.cells #[.int .u8 kd, .slice U a n, .slice V b m] 112))
  have X1 := Lib.hid (Ext.alloc1 w (.cells #[.int .u8 kd, .slice U a n, .slice V b m] 112))
  have H := Lib.hid HL
  clear HL
  unfold ocheckI
  by_cases h1 : kd = 1
  · subst h1
    clear H
    go_enter Try.func143, Try.ntmps143
    go_wp2
    all_goals
      go_ret
      refine ⟨ret_of ?_, (by first | exact X1.out | exact Ext.alloc1 _ _ | exact Out.refl _ _)⟩
      (try simp only [beq_iff_eq, bne_iff_ne, beq_eq_false_iff_ne, bne_eq_false_iff_eq, ne_eq] at *) <;> (first | omega | ((repeat' split) <;> first | rfl | omega) | (simp <;> omega))
  by_cases h2 : kd = 2
  · subst h2
    clear H h1
    go_enter Try.func143, Try.ntmps143
    go_wp2
    all_goals
      go_ret
      refine ⟨ret_of ?_, (by first | exact X1.out | exact Ext.alloc1 _ _ | exact Out.refl _ _)⟩
      (try simp only [beq_iff_eq, bne_iff_ne, beq_eq_false_iff_ne, bne_eq_false_iff_eq, ne_eq] at *) <;> (first | omega | ((repeat' split) <;> first | rfl | omega) | (simp <;> omega))
  by_cases h3 : kd = 3
  · subst h3
    clear h1 h2
    cases q
    all_goals
      go_enter Try.func143, Try.ntmps143
      go_wp2_with (go_at_call 128; refine H.out.mono ?_; rintro r w1 ⟨rfl, rfl⟩)
    all_goals
      go_ret
      refine ⟨ret_of ?_, (by first | exact X1.out | exact Ext.alloc1 _ _ | exact Out.refl _ _)⟩
      (try simp only [beq_iff_eq, bne_iff_ne, beq_eq_false_iff_ne, bne_eq_false_iff_eq, ne_eq] at *) <;> (first | omega | ((repeat' split) <;> first | rfl | omega) | (simp <;> omega))
  · clear H
    go_enter Try.func143, Try.ntmps143
    go_wp2
    all_goals
      go_ret
      refine ⟨ret_of ?_, (by first | exact X1.out | exact Ext.alloc1 _ _ | exact Out.refl _ _)⟩
      (try simp only [beq_iff_eq, bne_iff_ne, beq_eq_false_iff_ne, bne_eq_false_iff_eq, ne_eq] at *) <;> (first | omega | ((repeat' split) <;> first | rfl | omega) | (simp <;> omega))
theorem batch_check1 (w : World) {F G : Nat → Prop} {u v : Value} (o : OpE) (hu : Bs w F u o.key) (hv : Bs w G v o.val) : Calls Try.prog 143 #[.agg #[byteV o.kind, u, v]] w fun e w' => e = .returned (.int .i64 (ocheck o)) ∧ Ext w w' := by
  obtain ⟨U, n, rfl, -⟩ := hu.form
  obtain ⟨V, m, rfl, -⟩ := hv.form
  exact batch_checkI w U V _ _ n _ m _ (atom_less _ (hu.alloc _) (hv.alloc _))

theorem memo_tall (w : World) (h : Int) : Calls Try.prog 144 #[.int .i64 h] w fun e w' => e = .returned (.bool (decide (1 ≤ h ∧ h ≤ 8))) ∧ w = w' := by
  go_enter Try.func144, Try.ntmps144
  go_wp2
  all_goals
    go_ret
    refine ⟨retb_of ?_, rfl⟩
    rw [Bool.eq_iff_iff]; simp; omega
end Go.Proofs.Yteaanagljmcidaa
