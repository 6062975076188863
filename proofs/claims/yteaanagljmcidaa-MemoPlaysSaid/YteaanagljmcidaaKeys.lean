/- Versions compared. -/
import Derived.Test.YteaanagljmcidaaLeaf2
namespace Go.Proofs.Yteaanagljmcidaa
open Go.RowKit

attribute [local go_sem ↓] Go.wp_at_zero Go.wp_at_succ

/-- The order of versions. -/
def kcmp (a b : Key) : Int := or3 (bcmp a.user b.user) (ncmp b.seq.toNat a.seq.toNat) (ncmp b.kind.toNat a.kind.toNat)

set_option maxHeartbeats 1000000 in
theorem ikey_compare (w : World) {F G : Nat → Prop} {u v : Value} (a b : Key) (hu : Bs w F u a.user) (hv : Bs w G v b.user) :
    Calls Try.prog 98 #[.agg #[u, u64V a.seq, byteV a.kind], .agg #[v, u64V b.seq, byteV b.kind]] w fun e w' => e = .returned (.int .i64 (kcmp a b)) ∧ Ext w w' := by
  have hx : Ext w ((w.alloc (.cells #[u, u64V a.seq, byteV a.kind] 30)).alloc (.cells #[v, u64V b.seq, byteV b.kind] 30)) := ((Out.refl _ w).alloc _).alloc _
  have hu' := (hu.ext hx)
  have hv' := (hv.ext hx)
  go_enter Try.func98, Try.ntmps98
  go_wp2
  go_region_held3 (fun w' => w'.cell? ⟨w.heap.size, 0, none⟩ = some u ∧ w'.cell? ⟨w.heap.size, 1, none⟩ = some (.int .u64 a.seq.toNat) ∧ w'.cell? ⟨w.heap.size, 2, none⟩ = some (.int .u8 a.kind.toNat) ∧
      w'.cell? ⟨w.heap.size + 1, 0, none⟩ = some v ∧ w'.cell? ⟨w.heap.size + 1, 1, none⟩ = some (.int .u64 b.seq.toNat) ∧ w'.cell? ⟨w.heap.size + 1, 2, none⟩ = some (.int .u8 b.kind.toNat)) (go_keep)
    (first | (go_at_call 150; refine (bytes_compare _ (F := F) (G := G) (la := a.user) (lb := b.user) ?_ ?_).mono ?_; (exact hu'); (exact hv'); rintro e w' ⟨rfl, rfl⟩) | (go_at_call 151; refine (cmp_u64 _ _ _).mono ?_; rintro e w' ⟨rfl, rfl⟩) | (go_at_call 152; refine (cmp_u8 _ _ _).mono ?_; rintro e w' ⟨rfl, rfl⟩) | (go_at_call 149; refine (cmp_or _ _ (bcmp a.user b.user) (ncmp b.seq.toNat a.seq.toNat) (ncmp b.kind.toNat a.kind.toNat) ?_ ?_ ?_).mono ?_; (simp [go_sem]); (simp [go_sem]); (simp [go_sem]); rintro e w' ⟨rfl, rfl⟩))
  go_wp2
  go_ret
  exact ⟨rfl, (((((Out.refl _ w).alloc _).alloc _).alloc _)).drew⟩

/-- ikey.Check's answer. -/
def icheckI (s k n : Int) : Int := if 72057594037927935 < s ∨ (k ≠ 1 ∧ k ≠ 2) then 1 else if n = 0 then 2 else if 64 < n then 3 else 0

theorem ret_of {k : IntKind} {a b : Int} (h : a = b) : Ending.returned (.int k a) = .returned (.int k b) := by rw [h]
theorem retb_of {a b : Bool} (h : a = b) : Ending.returned (.bool a) = .returned (.bool b) := by rw [h]

set_option maxHeartbeats 1000000 in
theorem ikey_checkI (w : World) (A : Option Addr) (n c : Nat) (s k : Int) :
    Calls Try.prog 96 #[.agg #[.slice A n c, .int .u64 s, .int .u8 k]] w fun e w' => e = .returned (.int .i64 (icheckI s k n)) ∧ Ext w w' := by
  go_enter Try.func96, Try.ntmps96
  go_wp2
  all_goals
    go_ret
    refine ⟨ret_of ?_, (Out.refl _ w).alloc _⟩
    unfold icheckI
    simp only [beq_iff_eq, bne_iff_ne, beq_eq_false_iff_ne, bne_eq_false_iff_eq, ne_eq] at *
    first | omega | (repeat' split) <;> omega

set_option maxHeartbeats 1000000 in
theorem r3_checkI (w : World) (A : Option Addr) (n c : Nat) (s k : Int) (hk : 0 ≤ k) :
    Calls Try.prog 102 #[.agg #[.slice A n c, .int .u64 s, .int .u8 k]] w fun e w' => e = .returned (.int .i64 (icheckI s k n)) ∧ Ext w w' := by
  go_enter Try.func102, Try.ntmps102
  go_wp2
  all_goals go_ret
  all_goals
    refine ⟨ret_of ?_, (Out.refl _ w).alloc _⟩
    unfold icheckI
    simp only [beq_iff_eq, beq_eq_false_iff_ne, ne_eq] at *
    first | omega | (repeat' split) <;> omega
end Go.Proofs.Yteaanagljmcidaa
