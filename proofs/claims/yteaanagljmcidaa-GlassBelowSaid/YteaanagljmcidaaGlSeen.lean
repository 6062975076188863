/- ref15: Seen. -/
import Derived.Test.YteaanagljmcidaaPkH
import Derived.Test.YteaanagljmcidaaR10Find
import Derived.Test.YteaanagljmcidaaPkF
namespace Go.Proofs.Yteaanagljmcidaa
open Go.RowKit

attribute [local go_sem ↓] Go.wp_at_zero Go.wp_at_succ

theorem r4_applyI (w : World) {F : Nat → Prop} {mv u v : Value} (m : List PairE) (o : OpE) (k : Int) (hk : k = (o.kind.toNat : Int)) (hm : Sl pairC w F mv m) (hu : Bs w F u o.key) (hv : Bs w F v o.val) (hF : ∀ b, F b → b < w.heap.size) (hl : m.length ≤ 100000) :
    Calls Try.prog 131 #[mv, .agg #[.int .u8 k, u, v]] w fun e w' => ∃ r, e = .returned r ∧ Ext w w' ∧ Sl pairC w' (fun b => F b ∨ w.heap.size ≤ b) r (applyE m o) := by
  subst hk; exact r4_apply w m o hm hu hv hF hl

set_option maxRecDepth 100000 in
set_option maxHeartbeats 4000000 in
theorem r15_seen (w : World) {F H : Nat → Prop} {xv sv : Value} (E : List Ent) (L : List SpanE) (q : Nat) (hE : Sl entC w F xv E) (hL : Sl spanC w H sv L) (hl : E.length ≤ 1000) :
    Calls Try.prog 67 #[xv, sv, .int .u64 (q : Int)] w fun e w' => ∃ v, e = .returned v ∧ Ext w w' ∧ Sl pairC w' (fun b => b < w'.heap.size) v (refSeen E L q) := by
  obtain ⟨A, cap, rfl, -⟩ := hE.form
  obtain ⟨B, m, c, rfl⟩ := hL.form0
  have HE := Lib.hid hE
  have HL := Lib.hid hL
  clear hE hL
  go_enter Try.func67, Try.ntmps67
  go_wp2
  go_loopw [7, 14] (fun s7 s14 wr => ∃ i : Nat, i ≤ E.length ∧ s14 = .int .i64 i ∧ Sl pairC wr (fun b => b < wr.heap.size) s7 (refSeenF E L q (E.take i)) ∧ Ext w wr) (fun _ s14 _ => E.length - (intOf s14).toNat)
  case atStart => exact ⟨0, Nat.zero_le _, rfl, Sl.nil _ _ _, Out.refl _ _⟩
  case round =>
    obtain ⟨wo, rfl⟩ : ∃ x : World, x = wr := ⟨_, rfl⟩
    obtain ⟨i, hi, rfl, hsl, hx⟩ := hrel
    have HX := Lib.hid hx
    by_cases hlt : i < E.length
    · as_aux_lemma =>
        obtain ⟨b1, o1, u1, v1, rfl, -, c0, c1, c2, c3, hu, hv⟩ := (HE.out.ext HX.out).ent i hlt
        obtain ⟨U1, N1, n1, rfl⟩ := hu.form0
        obtain ⟨V1, M1, m1, rfl⟩ := hv.form0
        obtain ⟨M, K, k, rfl⟩ := hsl.form0
        have x1 := Ext.alloc1 wo (.cells #[.slice U1 N1 n1, u64V E[i].key.seq, byteV E[i].key.kind, .slice V1 M1 m1] 32)
        have hz := blk_new wo (.cells #[.slice U1 N1 n1, u64V E[i].key.seq, byteV E[i].key.kind, .slice V1 M1 m1] 32)
        obtain ⟨z0, z1, z2, z3, -⟩ := cells4 hz
        have HC := r10_find _ E L ((HE.out.ext HX.out).ext x1) ((HL.out.ext HX.out).ext x1) E[i].key.user (hu.ext x1) q
        have Hst := Lib.hid (refSeenF_succ (E := E) (L := L) (q := q) hlt)
        have hRl := refSeenF_length E L q (E.take i)
        rw [List.length_take] at hRl
        have HZ := Lib.hid hz
        have Hu := Lib.hid (hu.ext x1)
        have X1 := Lib.hid x1
        have Hsl := Lib.hid (hsl.ext x1)
        have HXo := Lib.hid HX.out.size
        unfold seenStep at Hst
        generalize refSeenF E L q (E.take i) = R at *
        generalize E[i] = e at *
        generalize findE E L e.key.user q = f at *
        obtain ⟨v0, st⟩ := f
        dsimp only at Hst
        unfold Got at HC
        dsimp only at HC
        have HC := Lib.hid HC
        clear hu hv hz x1 hx hsl
        by_cases hs : st = 1
        · subst hs
          have Hst2 := Lib.hid (Hst.out.trans (if_pos rfl))
          clear Hst
          go_wp2_with (first
            | (go_at_call 88; refine HC.out.mono ?_; rintro r w2 ⟨v2, rfl, hx2, hb2⟩; obtain ⟨V2, k2, m2, rfl⟩ := hb2.form0; obtain ⟨y0, y1, y2, y3, -⟩ := cells4 (hx2.blk HZ.out (fun f => f)); have HX2 := Lib.hid (X1.out.ext hx2); have Hb2 := Lib.hid hb2; have Hs2 := Lib.hid (Hsl.out.ext hx2); have Hu2 := Lib.hid (Hu.out.ext hx2); have hz2 := hx2.size; simp only [World.size_alloc] at hz2; clear hx2 hb2)
            | (go_at_call 131; refine (r4_applyI (F := fun b => b < w2.heap.size) _ R (putOf e.key.user v0) 2 rfl (Hs2.out.mono (fun b _ hl => hl) (.inl (by decide))) (Hu2.out.mono (fun b _ hl => hl) (.inl (by decide))) (Hb2.out.mono (fun b _ hl => hl) (.inl (by decide))) (fun _ h => h) (by omega)).mono ?_; rintro r w3 ⟨v3, rfl, hx3, hs3⟩; obtain ⟨V3, k3, m3, rfl⟩ := hs3.form0; have HX3 := Lib.hid (HX2.out.ext hx3); have Hs3 := Lib.hid hs3; clear hx3 hs3))
          go_roundw
          case rel => exact ⟨i + 1, by omega, by go_num, by rw [Hst2.out]; exact Hs3.out.mono (fun b _ hl => hl) (.inl (by decide)), HX.out.ext HX3.out⟩
          case measure => simp [intOf] <;> omega
        · have Hst2 := Lib.hid (Hst.out.trans (if_neg hs))
          have hsb : (st == 1) = false := by simpa using hs
          clear Hst
          go_wp2_with (go_at_call 88; refine HC.out.mono ?_; rintro r w2 ⟨v2, rfl, hx2, hb2⟩; obtain ⟨V2, k2, m2, rfl⟩ := hb2.form0; have HX2 := Lib.hid (X1.out.ext hx2); have Hs2 := Lib.hid (Hsl.out.ext hx2); clear hx2 hb2)
          go_roundw
          case rel => exact ⟨i + 1, by omega, by go_num, by rw [Hst2.out]; exact Hs2.out.mono (fun b _ hl => hl) (.inl (by decide)), HX.out.ext HX2.out⟩
          case measure => simp [intOf] <;> omega
    · obtain rfl : i = E.length := by omega
      obtain ⟨M, K, k, rfl⟩ := hsl.form0
      rw [List.take_length] at hsl
      go_wp2
      go_ret
      exact ⟨_, rfl, hx, hsl⟩
end Go.Proofs.Yteaanagljmcidaa
