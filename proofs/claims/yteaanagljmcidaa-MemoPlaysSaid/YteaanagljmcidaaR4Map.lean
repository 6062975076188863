/- ref04: Covers, Apply, ApplyAll, Get. -/
import Derived.Test.YteaanagljmcidaaR4Ops
import Derived.Test.YteaanagljmcidaaMemoPl
namespace Go.Proofs.Yteaanagljmcidaa
open Go.RowKit

attribute [local go_sem ↓] Go.wp_at_zero Go.wp_at_succ

def pairC : Codec PairE where
  size := 2
  rep w F cs s := ∃ u v, cs = [u, v] ∧ Bs w F u s.key ∧ Bs w F v s.val
  len := fun ⟨_, _, h, _⟩ => by rw [h]; rfl
  one := fun ⟨u, v, h, hb, hc⟩ x hx => by
    rw [h] at hx; obtain ⟨A, cap, rfl, _⟩ := hb.form; obtain ⟨A', cap', rfl, _⟩ := hc.form
    simp only [List.mem_cons, List.not_mem_nil, or_false] at hx
    rcases hx with rfl | rfl <;> rfl
  frame := fun ⟨u, v, h, hb, hc⟩ hF => ⟨u, v, h, hb.frame hF, hc.frame hF⟩
  mono := fun ⟨u, v, h, hb, hc⟩ hF => ⟨u, v, h, hb.mono hF (.inl (by decide)), hc.mono hF (.inl (by decide))⟩
theorem fits107 : Fits Try.prog 93 107 pairC.size 48 := fits_of Try.underlying93 (by decide) (by kernel_rfl : (Try.prog.info? 107).map (fun i => (i.zero, i.size, i.bytes)) = some (some (.agg #[.slice none 0 0, .slice none 0 0]), 2, 48)) rfl
theorem Sl.pair {w : World} {F : Nat → Prop} {A : Option Addr} {n cap : Nat} {l : List PairE} (h : Sl pairC w F (.slice A n cap) l) (i : Nat) (hi : i < l.length) :
    ∃ b off u v, A = some ⟨b, off, none⟩ ∧ F b ∧ w.cell? ⟨b, off + i * 2, none⟩ = some u ∧ w.cell? ⟨b, off + i * 2 + 1, none⟩ = some v ∧ Bs w F u l[i].key ∧ Bs w F v l[i].val := by
  obtain ⟨b, off, cs, hA, hF, hat, u, v, rfl, h1, h2⟩ := h.get i hi
  exact ⟨b, off, u, v, hA, hF, hat 0 _ rfl, hat 1 _ rfl, h1, h2⟩

theorem r4_covers (w : World) {F G H : Nat → Prop} {u v x : Value} (o : OpE) (k : List UInt8) (hu : Bs w F u o.key) (hv : Bs w G v o.val) (hx : Bs w H x k) :
    Calls Try.prog 147 #[.agg #[byteV o.kind, u, v], x] w fun e w' => e = .returned (.bool (coversO o k)) ∧ Ext w w' := by
  obtain ⟨U, N, n, rfl⟩ := hu.form0
  obtain ⟨V, M, m, rfl⟩ := hv.form0
  obtain ⟨X, P, p, rfl⟩ := hx.form0
  have x1 := Ext.alloc1 w (.cells #[byteV o.kind, .slice U N n, .slice V M m] 112)
  obtain ⟨z0, z1, z2, -⟩ := cells3 (blk_new w (.cells #[byteV o.kind, .slice U N n, .slice V M m] 112))
  have H1 := Lib.hid (r1_less (w.alloc (.cells #[byteV o.kind, .slice U N n, .slice V M m] 112)) (hx.ext x1) (hu.ext x1))
  have H2 := Lib.hid (r1_less (w.alloc (.cells #[byteV o.kind, .slice U N n, .slice V M m] 112)) (hx.ext x1) (hv.ext x1))
  have H3 := Lib.hid (r1_same (w.alloc (.cells #[byteV o.kind, .slice U N n, .slice V M m] 112)) (hu.ext x1) (hx.ext x1))
  have X1 := Lib.hid x1
  unfold coversO coversB
  dsimp only
  generalize Op.bytesLess k o.key = a at *
  generalize Op.bytesLess k o.val = b at *
  generalize (o.key == k) = c at *
  clear hu hv hx x1
  by_cases hk : o.kind.toNat = 3
  · rw [if_pos hk]
    have hkb : (((o.kind.toNat : Nat) : Int) == 3) = true := by rw [beq_iff_eq]; omega
    clear hk
    obtain ⟨mk1, -⟩ : ∃ x : Nat, x = 0 := ⟨0, rfl⟩
    cases a
    · go_enter Try.func147, Try.ntmps147
      go_wp2_with (first
        | (have hh := mk1; clear hh; go_at_call 82; refine H1.out.mono ?_; rintro r w1 ⟨rfl, rfl⟩; clear mk1)
        | (go_at_call 82; refine H2.out.mono ?_; rintro r w1 ⟨rfl, rfl⟩))
      go_ret
      exact ⟨by simp, X1.out⟩
    · go_enter Try.func147, Try.ntmps147
      go_wp2_with (go_at_call 82; refine H1.out.mono ?_; rintro r w1 ⟨rfl, rfl⟩)
      go_ret
      exact ⟨by simp, X1.out⟩
  · rw [if_neg hk]
    have hkb : (((o.kind.toNat : Nat) : Int) == 3) = false := by rw [beq_eq_false_iff_ne]; omega
    clear hk
    go_enter Try.func147, Try.ntmps147
    go_wp2_with (go_at_call 74; refine H3.out.mono ?_; rintro r w1 ⟨rfl, rfl⟩)
    go_ret
    exact ⟨rfl, X1.out⟩

theorem applyF_take (o : OpE) (m : List PairE) (i : Nat) : (applyF o (m.take i)).1.length ≤ m.length + 1 := by
  have h := applyF_length o (m.take i) ([], decide (o.kind.toNat ≠ 2))
  have h0 : ([] : List PairE).length = 0 := rfl
  have h1 : (m.take i).length ≤ m.length := by rw [List.length_take]; omega
  have h3 : (if (decide (o.kind.toNat ≠ 2)) = true then 0 else 1) ≤ 1 := by split <;> omega
  simp only [h0] at h
  change (applyF o (m.take i)).1.length + _ ≤ _ at h
  omega
/-- Where Apply's loop stands. -/
structure ApR (w wr : World) (F : Nat → Prop) (s : Value) (l : List PairE) : Prop where
  own : Own pairC 107 wr w.heap.size (fun b => F b) s l
  ext : Ext w wr

set_option maxRecDepth 100000 in
set_option maxHeartbeats 8000000 in
theorem r4_apply (w : World) {F : Nat → Prop} {mv u v : Value} (m : List PairE) (o : OpE) (hm : Sl pairC w F mv m) (hu : Bs w F u o.key) (hv : Bs w F v o.val) (hF : ∀ b, F b → b < w.heap.size) (hl : m.length ≤ 100000) :
    Calls Try.prog 131 #[mv, .agg #[byteV o.kind, u, v]] w fun e w' => ∃ r, e = .returned r ∧ Ext w w' ∧ Sl pairC w' (fun b => F b ∨ w.heap.size ≤ b) r (applyE m o) := by
  obtain ⟨A, cap, rfl, h1, h2, h3, h4⟩ := hm.form
  obtain ⟨U, N, n, rfl⟩ := hu.form0
  obtain ⟨V, M, k, rfl⟩ := hv.form0
  have x1 := Ext.alloc1 w (.cells #[byteV o.kind, .slice U N n, .slice V M k] 112)
  have hz := blk_new w (.cells #[byteV o.kind, .slice U N n, .slice V M k] 112)
  obtain ⟨z0, z1, z2, -⟩ := cells3 hz
  have HZ := Lib.hid hz
  have X1 := Lib.hid x1
  have Hm := Lib.hid hm
  have Hu := Lib.hid hu
  have Hv := Lib.hid hv
  have HF := Lib.hid hF
  have hkc : ((o.kind.toNat : Int) != 2) = decide (o.kind.toNat ≠ 2) := by
    by_cases h : o.kind.toNat = 2
    · simp [h]
    · have : ((o.kind.toNat : Int) == 2) = false := by rw [beq_eq_false_iff_ne]; omega
      simp [bne, this, h]
  obtain ⟨d0, hd0⟩ : ∃ d, decide (o.kind.toNat ≠ 2) = d := ⟨_, rfl⟩
  rw [hd0] at hkc
  have Hd0 := Lib.hid hd0
  clear h1 h2 h3 h4 hm hu hv hF hz x1 hd0
  go_enter Try.func131, Try.ntmps131
  go_wp2
  clear hkc
  go_loopw [5, 6, 14] (fun s5 s6 s14 wr => ∃ i : Nat, i ≤ m.length ∧ s14 = .int .i64 i ∧ s6 = .bool (applyF o (m.take i)).2 ∧ Own pairC 107 wr (w.heap.size + 1) F s5 (applyF o (m.take i)).1 ∧ Ext (w.alloc (.cells #[byteV o.kind, .slice U N n, .slice V M k] 112)) wr) (fun _ _ s14 _ => m.length - (intOf s14).toNat)
  case atStart => exact ⟨0, Nat.zero_le _, rfl, by rw [← Hd0.out]; rfl, Own.nil _ _ _ _ _, Out.refl _ _⟩
  case round =>
    obtain ⟨wo, rfl⟩ : ∃ x : World, x = wr := ⟨_, rfl⟩
    obtain ⟨i, hi, rfl, rfl, hown, hx⟩ := hrel
    obtain ⟨S5, n5, c5, rfl⟩ := hown.form0
    have HOw := Lib.hid hown
    have HX := Lib.hid (X1.out.ext hx)
    have HXb := Lib.hid hx
    have HBx := Lib.hid (hx.blk HZ.out (fun f => f))
    have hzo := hx.size
    simp only [World.size_alloc] at hzo
    have Hln := Lib.hid (applyF_take o m i)
    have Hlt := Lib.hid hown.lt
    have HFc : Hid (∀ b, F b → (Value.slice S5 n5 c5).ownBlock ≠ some b) := Lib.hid fun b hb e => by have := HF.out b hb; have := (Hlt.out b e).1; omega
    clear hown hx
    by_cases hlt : i < m.length
    · obtain ⟨b1, o1, u1, v1, rfl, -, c0, c1, hu1, hv1⟩ := (Hm.out.ext HX.out).pair i hlt
      obtain ⟨U1, N1, k1, rfl⟩ := hu1.form0
      obtain ⟨V1, M1, m1, rfl⟩ := hv1.form0
      have hs := applyF_succ hlt o
      have Hs := Lib.hid hs
      clear hs
      have x1 := Ext.alloc1 wo (.cells #[.slice U1 N1 k1, .slice V1 M1 m1] 107)
      have hz1 := blk_new wo (.cells #[.slice U1 N1 k1, .slice V1 M1 m1] 107)
      obtain ⟨y0, y1, -⟩ := cells2 hz1
      obtain ⟨w0, w1', w2', -⟩ := cells3 (blk_alloc HBx.out (.cells #[.slice U1 N1 k1, .slice V1 M1 m1] 107))
      have HZ1 := Lib.hid hz1
      have HBz := Lib.hid (blk_alloc HBx.out (.cells #[.slice U1 N1 k1, .slice V1 M1 m1] 107))
      have Y1 := Lib.hid x1
      have Hu1 := Lib.hid hu1
      have Hv1 := Lib.hid hv1
      have HL := Lib.hid (r1_less (wo.alloc (.cells #[.slice U1 N1 k1, .slice V1 M1 m1] 107)) ((Hu.out.ext HX.out).ext x1) (hu1.ext x1))
      have HC := Lib.hid fun w' (hw : Out (fun b => (Value.slice S5 n5 c5).ownBlock = some b) wo w') => r4_covers w' o m[i].key ((Hu.out.ext HX.out).out hw (fun b _ hb e => HFc.out b hb e)) ((Hv.out.ext HX.out).out hw (fun b _ hb e => HFc.out b hb e)) (Hu1.out.out hw (fun b _ hb e => HFc.out b hb e))
      have HuB := Lib.hid (Hu.out.ext HX.out)
      have HvB := Lib.hid (Hv.out.ext HX.out)
      have HOw1 := Lib.hid (HOw.out.ext x1)
      clear x1 hz1 hu1 hv1
      generalize m[i] = x at *
      generalize applyF o (m.take i) = a at *
      obtain ⟨l0, d⟩ := a
      dsimp only at *
      obtain ⟨less, hless⟩ : ∃ less, Op.bytesLess o.key x.key = less := ⟨_, rfl⟩
      obtain ⟨cov, hcov⟩ : ∃ cov, coversO o x.key = cov := ⟨_, rfl⟩
      rw [hless] at HL
      rw [hcov] at HC
      have Hstep : Hid (applyStep o (l0, d) x = if cov = true then (if d = false ∧ less = true then (l0 ++ [newP o], true) else (l0, d)) else ((if d = false ∧ less = true then (l0 ++ [newP o], true) else (l0, d)).1 ++ [x], (if d = false ∧ less = true then (l0 ++ [newP o], true) else (l0, d)).2)) := Lib.hid (by unfold applyStep; simp only [hless, hcov])
      clear hless hcov
      cases d with
      | true =>
        cases cov with
        | true =>
          go_wp2_with (first
            | (go_at_call 147; refine (HC.out _ (Ext.out Y1.out _)).mono ?_; rintro r w3 ⟨rfl, hx3⟩; have HX3 := Lib.hid hx3; obtain ⟨j0, j1, -⟩ := cells2 (hx3.blk HZ1.out (fun f => f)); clear hx3))
          go_roundw
          case rel => exact ⟨i + 1, by omega, by go_num, by rw [Hs.out, Hstep.out]; rfl, by rw [Hs.out, Hstep.out]; exact HOw1.out.ext HX3.out, (HXb.out.ext Y1.out).ext HX3.out⟩
          case measure => simp [intOf]; omega
        | false =>
          go_wp2_with (first
            | (go_at_call 147; refine (HC.out _ (Ext.out Y1.out _)).mono ?_; rintro r w3 ⟨rfl, hx3⟩; have HX3 := Lib.hid hx3; obtain ⟨j0, j1, -⟩ := cells2 (hx3.blk HZ1.out (fun f => f)); clear hx3)
            | (at_builtin; refine wpList_append_one rfl (.tmp 40) (.tmp 42) 93 rfl fits107 ((HOw1.out.ext HX3.out).ext (Ext.alloc1 _ _)) rfl (by have := HX3.out.size; simp at *; omega) (blk_new _ _) rfl x ⟨_, _, rfl, (((Hu1.out.ext Y1.out).ext HX3.out).alloc _).mono (fun b hb _ => ⟨hb, HFc.out b hb⟩) (.inl (by decide)), (((Hv1.out.ext Y1.out).ext HX3.out).alloc _).mono (fun b hb _ => ⟨hb, HFc.out b hb⟩) (.inl (by decide))⟩ (by have := Hln.out; simp; omega) (by decide) ?_; intro v5 w5 g1 g2 g3; obtain ⟨S6, n6, c6, rfl⟩ := g1.form0; have HG5 := Lib.hid g1; have HP5 := Lib.hid g2; clear g1 g2 g3))
          go_roundw
          case rel => exact ⟨i + 1, by omega, by go_num, by rw [Hs.out, Hstep.out]; rfl, by rw [Hs.out, Hstep.out]; exact HG5.out, (((HXb.out.ext Y1.out).ext HX3.out).alloc _).then HP5.out (fun b hb e => by have := (Hlt.out b e).1; simp at hb; omega)⟩
          case measure => simp [intOf]; omega
      | false =>
        cases less with
        | false =>
          cases cov with
          | true =>
            go_wp2_with (first
              | (go_at_call 82; refine HL.out.mono ?_; rintro r w2 ⟨rfl, rfl⟩)
              | (go_at_call 147; refine (HC.out _ (Ext.out Y1.out _)).mono ?_; rintro r w3 ⟨rfl, hx3⟩; have HX3 := Lib.hid hx3; obtain ⟨j0, j1, -⟩ := cells2 (hx3.blk HZ1.out (fun f => f)); clear hx3))
            go_roundw
            case rel => exact ⟨i + 1, by omega, by go_num, by rw [Hs.out, Hstep.out]; rfl, by rw [Hs.out, Hstep.out]; exact HOw1.out.ext HX3.out, (HXb.out.ext Y1.out).ext HX3.out⟩
            case measure => simp [intOf]; omega
          | false =>
            go_wp2_with (first
              | (go_at_call 82; refine HL.out.mono ?_; rintro r w2 ⟨rfl, rfl⟩)
              | (go_at_call 147; refine (HC.out _ (Ext.out Y1.out _)).mono ?_; rintro r w3 ⟨rfl, hx3⟩; have HX3 := Lib.hid hx3; obtain ⟨j0, j1, -⟩ := cells2 (hx3.blk HZ1.out (fun f => f)); clear hx3)
              | (at_builtin; refine wpList_append_one rfl (.tmp 40) (.tmp 42) 93 rfl fits107 ((HOw1.out.ext HX3.out).ext (Ext.alloc1 _ _)) rfl (by have := HX3.out.size; simp at *; omega) (blk_new _ _) rfl x ⟨_, _, rfl, (((Hu1.out.ext Y1.out).ext HX3.out).alloc _).mono (fun b hb _ => ⟨hb, HFc.out b hb⟩) (.inl (by decide)), (((Hv1.out.ext Y1.out).ext HX3.out).alloc _).mono (fun b hb _ => ⟨hb, HFc.out b hb⟩) (.inl (by decide))⟩ (by have := Hln.out; simp; omega) (by decide) ?_; intro v5 w5 g1 g2 g3; obtain ⟨S6, n6, c6, rfl⟩ := g1.form0; have HG5 := Lib.hid g1; have HP5 := Lib.hid g2; clear g1 g2 g3))
            go_roundw
            case rel => exact ⟨i + 1, by omega, by go_num, by rw [Hs.out, Hstep.out]; rfl, by rw [Hs.out, Hstep.out]; exact HG5.out, (((HXb.out.ext Y1.out).ext HX3.out).alloc _).then HP5.out (fun b hb e => by have := (Hlt.out b e).1; simp at hb; omega)⟩
            case measure => simp [intOf]; omega
        | true =>
          cases cov with
          | true =>
            go_wp2_with (first
              | (go_at_call 82; refine HL.out.mono ?_; rintro r w2 ⟨rfl, rfl⟩)
              | (at_builtin; refine wpList_append_one rfl (.tmp 27) (.tmp 33) 93 rfl fits107 (HOw1.out.ext (Ext.alloc1 _ _)) rfl (by first | (simp; done) | (simp; omega)) (blk_at (n := wo.heap.size + 1) (by simp)) rfl (newP o) ⟨_, _, rfl, ((HuB.out.ext Y1.out).alloc _).mono (fun b hb _ => ⟨hb, HFc.out b hb⟩) (.inl (by decide)), ((HvB.out.ext Y1.out).alloc _).mono (fun b hb _ => ⟨hb, HFc.out b hb⟩) (.inl (by decide))⟩ (by have := Hln.out; omega) (by decide) ?_; intro v4 w4 g1 g2 g3; obtain ⟨S4, n4, c4, rfl⟩ := g1.form0; have HO4 : Hid (Out (fun b => (Value.slice S5 n5 c5).ownBlock = some b) wo w4) := Lib.hid (((Ext.out Y1.out _).alloc _).trans g2); have HG4 := Lib.hid g1; have Hlt4 := Lib.hid g1.lt; have HZ4 := Lib.hid (g2.blk (blk_alloc HZ1.out _) (fun e => by have := (Hlt.out _ e).2; omega)); have HB4 := Lib.hid (g2.blk (blk_alloc HBz.out _) (fun e => by have := (Hlt.out _ e).1; omega)); obtain ⟨i0, i1, -⟩ := cells2 HZ4.out; obtain ⟨h0', h1', h2', -⟩ := cells3 HB4.out; have hz4 := HO4.out.size; have HFc4 : Hid (∀ b, F b → (Value.slice S4 n4 c4).ownBlock ≠ some b) := Lib.hid (fun b hb e => by have := HF.out b hb; have := (Hlt4.out b e).1; omega); clear g1 g2 g3)
              | (go_at_call 147; refine (HC.out _ HO4.out).mono ?_; rintro r w3 ⟨rfl, hx3⟩; have HX3 := Lib.hid hx3; obtain ⟨j0, j1, -⟩ := cells2 (hx3.blk HZ4.out (fun f => f)); clear hx3))
            go_roundw
            case rel => exact ⟨i + 1, by omega, by go_num, by rw [Hs.out, Hstep.out]; rfl, by rw [Hs.out, Hstep.out]; exact HG4.out.ext HX3.out, ((HXb.out.then HO4.out (fun b hb e => by have := (Hlt.out b e).1; simp at hb; omega))).ext HX3.out⟩
            case measure => simp [intOf]; omega
          | false =>
            go_wp2_with (first
              | (go_at_call 82; refine HL.out.mono ?_; rintro r w2 ⟨rfl, rfl⟩)
              | (at_builtin; refine wpList_append_one rfl (.tmp 27) (.tmp 33) 93 rfl fits107 (HOw1.out.ext (Ext.alloc1 _ _)) rfl (by first | (simp; done) | (simp; omega)) (blk_at (n := wo.heap.size + 1) (by simp)) rfl (newP o) ⟨_, _, rfl, ((HuB.out.ext Y1.out).alloc _).mono (fun b hb _ => ⟨hb, HFc.out b hb⟩) (.inl (by decide)), ((HvB.out.ext Y1.out).alloc _).mono (fun b hb _ => ⟨hb, HFc.out b hb⟩) (.inl (by decide))⟩ (by have := Hln.out; omega) (by decide) ?_; intro v4 w4 g1 g2 g3; obtain ⟨S4, n4, c4, rfl⟩ := g1.form0; have HO4 : Hid (Out (fun b => (Value.slice S5 n5 c5).ownBlock = some b) wo w4) := Lib.hid (((Ext.out Y1.out _).alloc _).trans g2); have HG4 := Lib.hid g1; have Hlt4 := Lib.hid g1.lt; have HZ4 := Lib.hid (g2.blk (blk_alloc HZ1.out _) (fun e => by have := (Hlt.out _ e).2; omega)); have HB4 := Lib.hid (g2.blk (blk_alloc HBz.out _) (fun e => by have := (Hlt.out _ e).1; omega)); obtain ⟨i0, i1, -⟩ := cells2 HZ4.out; obtain ⟨h0', h1', h2', -⟩ := cells3 HB4.out; have hz4 := HO4.out.size; have HFc4 : Hid (∀ b, F b → (Value.slice S4 n4 c4).ownBlock ≠ some b) := Lib.hid (fun b hb e => by have := HF.out b hb; have := (Hlt4.out b e).1; omega); clear g1 g2 g3)
              | (go_at_call 147; refine (HC.out _ HO4.out).mono ?_; rintro r w3 ⟨rfl, hx3⟩; have HX3 := Lib.hid hx3; obtain ⟨j0, j1, -⟩ := cells2 (hx3.blk HZ4.out (fun f => f)); clear hx3)
              | (at_builtin; refine wpList_append_one rfl (.tmp 40) (.tmp 42) 93 rfl fits107 ((HG4.out.ext HX3.out).ext (Ext.alloc1 _ _)) rfl (by have := HX3.out.size; simp at *; omega) (blk_new _ _) rfl x ⟨_, _, rfl, (((Hu1.out.out HO4.out (fun b _ hb e => HFc.out b hb e)).ext HX3.out).alloc _).mono (fun b hb _ => ⟨hb, HFc4.out b hb⟩) (.inl (by decide)), (((Hv1.out.out HO4.out (fun b _ hb e => HFc.out b hb e)).ext HX3.out).alloc _).mono (fun b hb _ => ⟨hb, HFc4.out b hb⟩) (.inl (by decide))⟩ (by have := Hln.out; simp; omega) (by decide) ?_; intro v5 w5 g1 g2 g3; obtain ⟨S6, n6, c6, rfl⟩ := g1.form0; have HG5 := Lib.hid g1; have HP5 := Lib.hid g2; clear g1 g2 g3))
            go_roundw
            case rel => exact ⟨i + 1, by omega, by go_num, by rw [Hs.out, Hstep.out]; rfl, by rw [Hs.out, Hstep.out]; exact HG5.out, ((((HXb.out.then HO4.out (fun b hb e => by have := (Hlt.out b e).1; simp at hb; omega))).ext HX3.out).alloc _).then HP5.out (fun b hb e => by have := (Hlt4.out b e).1; simp at hb; omega)⟩
            case measure => simp [intOf]; omega
    · obtain rfl : i = m.length := by omega
      rw [List.take_length] at HOw Hln ⊢
      have hsz := HX.out.size
      have HE : Hid (applyE m o = if (applyF o m).2 = true then (applyF o m).1 else (applyF o m).1 ++ [newP o]) := Lib.hid rfl
      have HuB := Lib.hid (Hu.out.ext HX.out)
      have HvB := Lib.hid (Hv.out.ext HX.out)
      obtain ⟨w0, w1', w2', -⟩ := cells3 HBx.out
      generalize applyF o m = a at *
      obtain ⟨l0, d⟩ := a
      dsimp only at *
      cases d with
      | true =>
        have hE := HE.out
        rw [if_pos rfl] at hE
        have HE2 := Lib.hid hE
        clear HE hE
        go_wp2
        go_ret
        exact ⟨_, rfl, HX.out, by rw [HE2.out]; exact HOw.out.sl (by decide) (by have := Hln.out; show _ ≤ 140737488355328; omega) (fun b hb _ => .inl hb) (fun b hb _ => .inr (by omega))⟩
      | false =>
        have hE := HE.out
        rw [if_neg (by decide)] at hE
        have HE2 := Lib.hid hE
        clear HE hE
        go_wp2_with (at_builtin; refine wpList_append_one rfl (.tmp 47) (.tmp 53) 93 rfl fits107 (HOw.out.ext (Ext.alloc1 _ _)) rfl (by simp; omega) (blk_new _ _) rfl (newP o) ⟨_, _, rfl, (HuB.out.alloc _).mono (fun b hb _ => ⟨hb, HFc.out b hb⟩) (.inl (by decide)), (HvB.out.alloc _).mono (fun b hb _ => ⟨hb, HFc.out b hb⟩) (.inl (by decide))⟩ (by have := Hln.out; omega) (by decide) ?_; intro v4 w4 g1 g2 g3; obtain ⟨S4, n4, c4, rfl⟩ := g1.form0; have HG4 := Lib.hid g1; have HP4 := Lib.hid g2; clear g1 g2 g3)
        go_ret
        exact ⟨_, rfl, (HX.out.alloc _).then HP4.out (fun b hb e => by have := (Hlt.out b e).1; omega), by rw [HE2.out]; exact HG4.out.sl (by decide) (by have := Hln.out; show _ ≤ 140737488355328; simp; omega) (fun b hb _ => .inl hb) (fun b hb _ => .inr (by omega))⟩
end Go.Proofs.Yteaanagljmcidaa
