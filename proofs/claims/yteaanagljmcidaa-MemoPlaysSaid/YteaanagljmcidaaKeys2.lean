/- Versions and entries: alike, ahead, twins. -/
import Derived.Test.YteaanagljmcidaaKeys
namespace Go.Proofs.Yteaanagljmcidaa
open Go.RowKit

attribute [local go_sem ↓] Go.wp_at_zero Go.wp_at_succ

theorem seq_beq_true {a b : UInt64} (h : a = b) : ((a.toNat : Int) == (b.toNat : Int)) = true := by subst h; simp
theorem seq_beq_false {a b : UInt64} (h : a ≠ b) : ((a.toNat : Int) == (b.toNat : Int)) = false := by
  rw [beq_eq_false_iff_ne]; intro e; exact h (UInt64.toNat_inj.1 (by omega))
theorem kind_beq {a b : UInt8} : ((a.toNat : Int) == (b.toNat : Int)) = decide (a = b) := by
  rw [Bool.eq_iff_iff]; simp only [beq_iff_eq, decide_eq_true_eq]
  constructor
  · intro e; exact UInt8.toNat_inj.1 (by omega)
  · intro e; subst e; rfl

theorem beq_list_true {a b : List UInt8} (h : a = b) : (a == b) = true := by subst h; simp
theorem beq_list_false {a b : List UInt8} (h : a ≠ b) : (a == b) = false := by simpa using h

theorem key_ne_user {a b : Key} (h : a.user ≠ b.user) : decide (a = b) = false := by simp; intro e; exact h (by rw [e])
theorem key_ne_seq {a b : Key} (h : a.seq ≠ b.seq) : decide (a = b) = false := by simp; intro e; exact h (by rw [e])
theorem key_eq_kind {a b : Key} (h : a.user = b.user) (h2 : a.seq = b.seq) : decide (a = b) = decide (a.kind = b.kind) := by
  cases a; cases b; simp at h h2; subst h; subst h2; simp

set_option maxHeartbeats 1000000 in
theorem r3_same (w : World) {F G : Nat → Prop} {u v : Value} (a b : Key) (hu : Bs w F u a.user) (hv : Bs w G v b.user) :
    Calls Try.prog 31 #[.agg #[u, u64V a.seq, byteV a.kind], .agg #[v, u64V b.seq, byteV b.kind]] w fun e w' => e = .returned (.bool (decide (a = b))) ∧ Ext w w' := by
  have hx : Ext w ((w.alloc (.cells #[u, u64V a.seq, byteV a.kind] 30)).alloc (.cells #[v, u64V b.seq, byteV b.kind] 30)) := ((Out.refl _ w).alloc _).alloc _
  have hu' := (hu.ext hx)
  have hv' := (hv.ext hx)
  have Hx := Lib.hid hx
  clear hx
  by_cases h1 : a.user = b.user
  · have h1' := beq_list_true h1
    by_cases h2 : a.seq = b.seq
    · rw [key_eq_kind h1 h2]
      have h2' := seq_beq_true h2
      have h3 := @kind_beq a.kind b.kind
      clear h1 h2
      go_enter Try.func31, Try.ntmps31
      go_wp2_with (go_at_call 74; refine (r1_same _ hu' hv').mono ?_; rintro e w' ⟨rfl, rfl⟩)
      go_ret
      exact ⟨rfl, Hx.out⟩
    · rw [key_ne_seq h2]
      have h2' := seq_beq_false h2
      clear h1 h2
      go_enter Try.func31, Try.ntmps31
      go_wp2_with (go_at_call 74; refine (r1_same _ hu' hv').mono ?_; rintro e w' ⟨rfl, rfl⟩)
      go_ret
      exact ⟨rfl, Hx.out⟩
  · rw [key_ne_user h1]
    have h1' := beq_list_false h1
    clear h1
    go_enter Try.func31, Try.ntmps31
    go_wp2_with (go_at_call 74; refine (r1_same _ hu' hv').mono ?_; rintro e w' ⟨rfl, rfl⟩)
    go_ret
    exact ⟨rfl, Hx.out⟩

/-- Does one stand ahead of another? -/
def kless (a b : Key) : Bool := if a.user ≠ b.user then Op.bytesLess a.user b.user else if a.seq ≠ b.seq then decide (b.seq.toNat < a.seq.toNat) else decide (b.kind.toNat < a.kind.toNat)

set_option maxHeartbeats 1000000 in
theorem r3_less (w : World) {F G : Nat → Prop} {u v : Value} (a b : Key) (hu : Bs w F u a.user) (hv : Bs w G v b.user) :
    Calls Try.prog 60 #[.agg #[u, u64V a.seq, byteV a.kind], .agg #[v, u64V b.seq, byteV b.kind]] w fun e w' => e = .returned (.bool (kless a b)) ∧ Ext w w' := by
  have hx : Ext w ((w.alloc (.cells #[u, u64V a.seq, byteV a.kind] 30)).alloc (.cells #[v, u64V b.seq, byteV b.kind] 30)) := ((Out.refl _ w).alloc _).alloc _
  have hu' := (hu.ext hx)
  have hv' := (hv.ext hx)
  have Hx := Lib.hid hx
  clear hx
  by_cases h1 : a.user = b.user
  · have h1' := beq_list_true h1
    by_cases h2 : a.seq = b.seq
    · have h2' := seq_beq_true h2
      have h2'' : ((a.seq.toNat : Int) != (b.seq.toNat : Int)) = false := by simp [bne, h2']
      rw [show kless a b = decide (b.kind.toNat < a.kind.toNat) from by simp [kless, h1, h2]]
      clear h1 h2
      go_enter Try.func60, Try.ntmps60
      go_wp2_with (go_at_call 74; refine (r1_same _ hu' hv').mono ?_; rintro e w' ⟨rfl, rfl⟩)
      go_ret
      exact ⟨retb_of (by simp), Hx.out⟩
    · have h2' := seq_beq_false h2
      have h2'' : ((a.seq.toNat : Int) != (b.seq.toNat : Int)) = true := by simp [bne, h2']
      rw [show kless a b = decide (b.seq.toNat < a.seq.toNat) from by simp [kless, h1, h2]]
      clear h1 h2
      go_enter Try.func60, Try.ntmps60
      go_wp2_with (go_at_call 74; refine (r1_same _ hu' hv').mono ?_; rintro e w' ⟨rfl, rfl⟩)
      go_ret
      exact ⟨retb_of (by simp), Hx.out⟩
  · have h1' := beq_list_false h1
    rw [show kless a b = Op.bytesLess a.user b.user from by simp [kless, h1]]
    clear h1
    go_enter Try.func60, Try.ntmps60
    go_wp2_with (first | (go_at_call 74; refine (r1_same _ hu' hv').mono ?_; rintro e w' ⟨rfl, rfl⟩) | (go_at_call 82; refine (r1_less _ hu' hv').mono ?_; rintro e w' ⟨rfl, rfl⟩))
    go_ret
    exact ⟨rfl, Hx.out⟩

theorem ent_ne_key {a b : Ent} (h : a.key ≠ b.key) : decide (a = b) = false := by simp; intro e; exact h (by rw [e])
theorem ent_eq_val {a b : Ent} (h : a.key = b.key) : decide (a = b) = (a.value == b.value) := by
  cases a; cases b; simp at h; subst h; rw [Bool.eq_iff_iff]; simp

set_option maxHeartbeats 1000000 in
theorem r3_sameEntry (w : World) {F F' G G' : Nat → Prop} {u u' v v' : Value} (a b : Ent) (hu : Bs w F u a.key.user) (hv : Bs w G v b.key.user) (hu' : Bs w F' u' a.value) (hv' : Bs w G' v' b.value) :
    Calls Try.prog 36 #[.agg #[u, u64V a.key.seq, byteV a.key.kind, u'], .agg #[v, u64V b.key.seq, byteV b.key.kind, v']] w fun e w' => e = .returned (.bool (decide (a = b))) ∧ Ext w w' := by
  have hx : Ext w ((w.alloc (.cells #[u, u64V a.key.seq, byteV a.key.kind, u'] 32)).alloc (.cells #[v, u64V b.key.seq, byteV b.key.kind, v'] 32)) := ((Out.refl _ w).alloc _).alloc _
  have hu2 := (hu.ext hx)
  have hv2 := (hv.ext hx)
  have hu3 := (hu'.ext hx)
  have hv3 := (hv'.ext hx)
  have Hx := Lib.hid hx
  clear hx
  by_cases h1 : a.key = b.key
  · rw [ent_eq_val h1]
    have h1' : decide (a.key = b.key) = true := by simpa using h1
    clear h1
    go_enter Try.func36, Try.ntmps36
    go_wp2_with (first | (go_at_call 31; refine (r3_same _ a.key b.key hu2 hv2).mono ?_; rintro e w' ⟨rfl, hx1⟩; obtain ⟨hc1, hf1⟩ := hx1.old) | (go_at_call 74; refine (r1_same _ (hu3.ext hx1) (hv3.ext hx1)).mono ?_; rintro e w' ⟨rfl, rfl⟩))
    go_ret
    exact ⟨rfl, Hx.out.ext ‹_›⟩
  · rw [ent_ne_key h1]
    have h1' : decide (a.key = b.key) = false := by simpa using h1
    clear h1
    go_enter Try.func36, Try.ntmps36
    go_wp2_with (first | (go_at_call 31; refine (r3_same _ a.key b.key hu2 hv2).mono ?_; rintro e w' ⟨rfl, hx1⟩; obtain ⟨hc1, hf1⟩ := hx1.old) | (go_at_call 74; refine (r1_same _ (hu3.ext hx1) (hv3.ext hx1)).mono ?_; rintro e w' ⟨rfl, rfl⟩))
    go_ret
    exact ⟨rfl, Hx.out.ext ‹_›⟩

end Go.Proofs.Yteaanagljmcidaa
