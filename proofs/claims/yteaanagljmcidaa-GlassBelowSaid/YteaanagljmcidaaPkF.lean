/- ref04: Covers, Apply, ApplyAll, Get. · glass: slices.IndexFunc, ContainsFunc; newest; the keys' test. · glass: keys: entries, key by key. · glass: bare; needed's test. -/
import Derived.Test.YteaanagljmcidaaPkE
import Derived.Test.YteaanagljmcidaaPkC
import Derived.Test.YteaanagljmcidaaPkA
import Derived.Shelf.Abstract
import Derived.Test.YteaanagljmcidaaPkD
namespace Go.Proofs.Yteaanagljmcidaa
open Go.RowKit

attribute [local go_sem ↓] Go.wp_at_zero Go.wp_at_succ

def pairC : Codec PairE where
  size := 2
  rep w F cs s := ∃ u v, cs = [u, v] ∧ Bs w F u s.key ∧ Bs w F v s.val
  len := fun ⟨_, _, h, _⟩ => by rw [h]; rfl
  one := fun ⟨u, v, h, hb, hc⟩ x hx => by
    rw [h] at hx; obtain ⟨A, cap, rfl, _⟩ := hb.form; obtain ⟨A', cap', rfl, _⟩ := hc.form
    simp only [List.mem_cons, List.not_mem_nil, or_false] at hx
    rcases hx with rfl | rfl <;> rfl
  frame := fun ⟨u, v, h, hb, hc⟩ hF => ⟨u, v, h, hb.frame hF, hc.frame hF⟩
  mono := fun ⟨u, v, h, hb, hc⟩ hF => ⟨u, v, h, hb.mono hF (.inl (by decide)), hc.mono hF (.inl (by decide))⟩
theorem fits107 : Fits Try.prog 93 107 pairC.size 48 := fits_of Try.underlying93 (by decide) (by kernel_rfl : (Try.prog.info? 107).map (fun i => (i.zero, i.size, i.bytes)) = some (some (.agg #[.slice none 0 0, .slice none 0 0]), 2, 48)) rfl
theorem Sl.pair {w : World} {F : Nat → Prop} {A : Option Addr} {n cap : Nat} {l : List PairE} (h : Sl pairC w F (.slice A n cap) l) (i : Nat) (hi : i < l.length) :
    ∃ b off u v, A = some ⟨b, off, none⟩ ∧ F b ∧ w.cell? ⟨b, off + i * 2, none⟩ = some u ∧ w.cell? ⟨b, off + i * 2 + 1, none⟩ = some v ∧ Bs w F u l[i].key ∧ Bs w F v l[i].val := by
  obtain ⟨b, off, cs, hA, hF, hat, u, v, rfl, h1, h2⟩ := h.get i hi
  exact ⟨b, off, u, v, hA, hF, hat 0 _ rfl, hat 1 _ rfl, h1, h2⟩

theorem r4_covers (w : World) {F G H : Nat → Prop} {u v x : Value} (o : OpE) (k : List UInt8) (hu : Bs w F u o.key) (hv : Bs w G v o.val) (hx : Bs w H x k) :
    Calls Try.prog 147 #[.agg #[byteV o.kind, u, v], x] w fun e w' => e = .returned (.bool (coversO o k)) ∧ Ext w w' := by
  obtain ⟨U, N, n, rfl⟩ := hu.form0
  obtain ⟨V, M, m, rfl⟩ := hv.form0
  obtain ⟨X, P, p, rfl⟩ := hx.form0
  have x1 := Ext.alloc1 w (.cells #[byteV o.kind, .slice U N n, .slice V M m] 112)
  obtain ⟨z0, z1, z2, -⟩ := cells3 (blk_new w (.cells #[byteV o.kind, .slice U N n, .slice V M m] 112))
  have H1 := Lib.hid (r1_less (w.alloc (.cells #[byteV o.kind, .slice U N n, .slice V M m] 112)) (hx.ext x1) (hu.ext x1))
  have H2 := Lib.hid (r1_less (w.alloc (.cells #[byteV o.kind, .slice U N n, .slice V M m] 112)) (hx.ext x1) (hv.ext x1))
  have H3 := Lib.hid (r1_same (w.alloc (.cells #[byteV o.kind, .slice U N n, .slice V M m] 112)) (hu.ext x1) (hx.ext x1))
  have X1 := Lib.hid x1
  unfold coversO coversB
  dsimp only
  generalize Op.bytesLess k o.key = a at *
  generalize Op.bytesLess k o.val = b at *
  generalize (o.key == k) = c at *
  clear hu hv hx x1
  by_cases hk : o.kind.toNat = 3
  · rw [if_pos hk]
    have hkb : (((o.kind.toNat : Nat) : Int) == 3) = true := by rw [beq_iff_eq]; omega
    clear hk
    obtain ⟨mk1, -⟩ : ∃ x : Nat, x = 0 := ⟨0, rfl⟩
    cases a
    · go_enter Try.func147, Try.ntmps147
      go_wp2_with (first
        | (have hh := mk1; clear hh; go_at_call 82; refine H1.out.mono ?_; rintro r w1 ⟨rfl, rfl⟩; clear mk1)
        | (go_at_call 82; refine H2.out.mono ?_; rintro r w1 ⟨rfl, rfl⟩))
      go_ret
      exact ⟨by simp, X1.out⟩
    · go_enter Try.func147, Try.ntmps147
      go_wp2_with (go_at_call 82; refine H1.out.mono ?_; rintro r w1 ⟨rfl, rfl⟩)
      go_ret
      exact ⟨by simp, X1.out⟩
  · rw [if_neg hk]
    have hkb : (((o.kind.toNat : Nat) : Int) == 3) = false := by rw [beq_eq_false_iff_ne]; omega
    clear hk
    go_enter Try.func147, Try.ntmps147
    go_wp2_with (go_at_call 74; refine H3.out.mono ?_; rintro r w1 ⟨rfl, rfl⟩)
    go_ret
    exact ⟨rfl, X1.out⟩

theorem applyF_take (o : OpE) (m : List PairE) (i : Nat) : (applyF o (m.take i)).1.length ≤ m.length + 1 := by
  have h := applyF_length o (m.take i) ([], decide (o.kind.toNat ≠ 2))
  have h0 : ([] : List PairE).length = 0 := rfl
  have h1 : (m.take i).length ≤ m.length := by rw [List.length_take]; omega
  have h3 : (if (decide (o.kind.toNat ≠ 2)) = true then 0 else 1) ≤ 1 := by split <;> omega
  simp only [h0] at h
  change (applyF o (m.take i)).1.length + _ ≤ _ at h
  omega
/-- Where Apply's loop stands. -/
structure ApR (w wr : World) (F : Nat → Prop) (s : Value) (l : List PairE) : Prop where
  own : Own pairC 107 wr w.heap.size (fun b => F b) s l
  ext : Ext w wr

set_option maxRecDepth 100000 in
set_option maxHeartbeats 8000000 in
theorem r4_apply (w : World) {F : Nat → Prop} {mv u v : Value} (m : List PairE) (o : OpE) (hm : Sl pairC w F mv m) (hu : Bs w F u o.key) (hv : Bs w F v o.val) (hF : ∀ b, F b → b < w.heap.size) (hl : m.length ≤ 100000) :
    Calls Try.prog 131 #[mv, .agg #[byteV o.kind, u, v]] w fun e w' => ∃ r, e = .returned r ∧ Ext w w' ∧ Sl pairC w' (fun b => F b ∨ w.heap.size ≤ b) r (applyE m o) := by
  obtain ⟨A, cap, rfl, h1, h2, h3, h4⟩ := hm.form
  obtain ⟨U, N, n, rfl⟩ := hu.form0
  obtain ⟨V, M, k, rfl⟩ := hv.form0
  have x1 := Ext.alloc1 w (.cells #[byteV o.kind, .slice U N n, .slice V M k] 112)
  have hz := blk_new w (.cells #[byteV o.kind, .slice U N n, .slice V M k] 112)
  obtain ⟨z0, z1, z2, -⟩ := cells3 hz
  have HZ := Lib.hid hz
  have X1 := Lib.hid x1
  have Hm := Lib.hid hm
  have Hu := Lib.hid hu
  have Hv := Lib.hid hv
  have HF := Lib.hid hF
  have hkc : ((o.kind.toNat : Int) != 2) = decide (o.kind.toNat ≠ 2) := by
    by_cases h : o.kind.toNat = 2
    · simp [h]
    · have : ((o.kind.toNat : Int) == 2) = false := by rw [beq_eq_false_iff_ne]; omega
      simp [bne, this, h]
  obtain ⟨d0, hd0⟩ : ∃ d, decide (o.kind.toNat ≠ 2) = d := ⟨_, rfl⟩
  rw [hd0] at hkc
  have Hd0 := Lib.hid hd0
  clear h1 h2 h3 h4 hm hu hv hF hz x1 hd0
  go_enter Try.func131, Try.ntmps131
  go_wp2
  clear hkc
  go_loopw [5, 6, 14] (fun s5 s6 s14 wr => ∃ i : Nat, i ≤ m.length ∧ s14 = .int .i64 i ∧ s6 = .bool (applyF o (m.take i)).2 ∧ Own pairC 107 wr (w.heap.size + 1) F s5 (applyF o (m.take i)).1 ∧ Ext (w.alloc (.cells #[byteV o.kind, .slice U N n, .slice V M k] 112)) wr) (fun _ _ s14 _ => m.length - (intOf s14).toNat)
  case atStart => exact ⟨0, Nat.zero_le _, rfl, by rw [← Hd0.out]; rfl, Own.nil _ _ _ _ _, Out.refl _ _⟩
  case round =>
    obtain ⟨wo, rfl⟩ : ∃ x : World, x = wr := ⟨_, rfl⟩
    obtain ⟨i, hi, rfl, rfl, hown, hx⟩ := hrel
    obtain ⟨S5, n5, c5, rfl⟩ := hown.form0
    have HOw := Lib.hid hown
    have HX := Lib.hid (X1.out.ext hx)
    have HXb := Lib.hid hx
    have HBx := Lib.hid (hx.blk HZ.out (fun f => f))
    have hzo := hx.size
    simp only [World.size_alloc] at hzo
    have Hln := Lib.hid (applyF_take o m i)
    have Hlt := Lib.hid hown.lt
    have HFc : Hid (∀ b, F b → (Value.slice S5 n5 c5).ownBlock ≠ some b) := Lib.hid fun b hb e => by have := HF.out b hb; have := (Hlt.out b e).1; omega
    clear hown hx
    by_cases hlt : i < m.length
    · obtain ⟨b1, o1, u1, v1, rfl, -, c0, c1, hu1, hv1⟩ := (Hm.out.ext HX.out).pair i hlt
      obtain ⟨U1, N1, k1, rfl⟩ := hu1.form0
      obtain ⟨V1, M1, m1, rfl⟩ := hv1.form0
      have hs := applyF_succ hlt o
      have Hs := Lib.hid hs
      clear hs
      have x1 := Ext.alloc1 wo (.cells #[.slice U1 N1 k1, .slice V1 M1 m1] 107)
      have hz1 := blk_new wo (.cells #[.slice U1 N1 k1, .slice V1 M1 m1] 107)
      obtain ⟨y0, y1, -⟩ := cells2 hz1
      obtain ⟨w0, w1', w2', -⟩ := cells3 (blk_alloc HBx.out (.cells #[.slice U1 N1 k1, .slice V1 M1 m1] 107))
      have HZ1 := Lib.hid hz1
      have HBz := Lib.hid (blk_alloc HBx.out (.cells #[.slice U1 N1 k1, .slice V1 M1 m1] 107))
      have Y1 := Lib.hid x1
      have Hu1 := Lib.hid hu1
      have Hv1 := Lib.hid hv1
      have HL := Lib.hid (r1_less (wo.alloc (.cells #[.slice U1 N1 k1, .slice V1 M1 m1] 107)) ((Hu.out.ext HX.out).ext x1) (hu1.ext x1))
      have HC := Lib.hid fun w' (hw : Out (fun b => (Value.slice S5 n5 c5).ownBlock = some b) wo w') => r4_covers w' o m[i].key ((Hu.out.ext HX.out).out hw (fun b _ hb e => HFc.out b hb e)) ((Hv.out.ext HX.out).out hw (fun b _ hb e => HFc.out b hb e)) (Hu1.out.out hw (fun b _ hb e => HFc.out b hb e))
      have HuB := Lib.hid (Hu.out.ext HX.out)
      have HvB := Lib.hid (Hv.out.ext HX.out)
      have HOw1 := Lib.hid (HOw.out.ext x1)
      clear x1 hz1 hu1 hv1
      generalize m[i] = x at *
      generalize applyF o (m.take i) = a at *
      obtain ⟨l0, d⟩ := a
      dsimp only at *
      obtain ⟨less, hless⟩ : ∃ less, Op.bytesLess o.key x.key = less := ⟨_, rfl⟩
      obtain ⟨cov, hcov⟩ : ∃ cov, coversO o x.key = cov := ⟨_, rfl⟩
      rw [hless] at HL
      rw [hcov] at HC
      have Hstep : Hid (applyStep o (l0, d) x = if cov = true then (if d = false ∧ less = true then (l0 ++ [newP o], true) else (l0, d)) else ((if d = false ∧ less = true then (l0 ++ [newP o], true) else (l0, d)).1 ++ [x], (if d = false ∧ less = true then (l0 ++ [newP o], true) else (l0, d)).2)) := Lib.hid (by unfold applyStep; simp only [hless, hcov])
      clear hless hcov
      cases d with
      | true =>
        cases cov with
        | true =>
          go_wp2_with (first
            | (go_at_call 147; refine (HC.out _ (Ext.out Y1.out _)).mono ?_; rintro r w3 ⟨rfl, hx3⟩; have HX3 := Lib.hid hx3; obtain ⟨j0, j1, -⟩ := cells2 (hx3.blk HZ1.out (fun f => f)); clear hx3))
          go_roundw
          case rel => exact ⟨i + 1, by omega, by go_num, by rw [Hs.out, Hstep.out]; rfl, by rw [Hs.out, Hstep.out]; exact HOw1.out.ext HX3.out, (HXb.out.ext Y1.out).ext HX3.out⟩
          case measure => simp [intOf]; omega
        | false =>
          go_wp2_with (first
            | (go_at_call 147; refine (HC.out _ (Ext.out Y1.out _)).mono ?_; rintro r w3 ⟨rfl, hx3⟩; have HX3 := Lib.hid hx3; obtain ⟨j0, j1, -⟩ := cells2 (hx3.blk HZ1.out (fun f => f)); clear hx3)
            | (at_builtin; refine wpList_append_one rfl (.tmp 40) (.tmp 42) 93 rfl fits107 ((HOw1.out.ext HX3.out).ext (Ext.alloc1 _ _)) rfl (by have := HX3.out.size; simp at *; omega) (blk_new _ _) rfl x ⟨_, _, rfl, (((Hu1.out.ext Y1.out).ext HX3.out).alloc _).mono (fun b hb _ => ⟨hb, HFc.out b hb⟩) (.inl (by decide)), (((Hv1.out.ext Y1.out).ext HX3.out).alloc _).mono (fun b hb _ => ⟨hb, HFc.out b hb⟩) (.inl (by decide))⟩ (by have := Hln.out; simp; omega) (by decide) ?_; intro v5 w5 g1 g2 g3; obtain ⟨S6, n6, c6, rfl⟩ := g1.form0; have HG5 := Lib.hid g1; have HP5 := Lib.hid g2; clear g1 g2 g3))
          go_roundw
          case rel => exact ⟨i + 1, by omega, by go_num, by rw [Hs.out, Hstep.out]; rfl, by rw [Hs.out, Hstep.out]; exact HG5.out, (((HXb.out.ext Y1.out).ext HX3.out).alloc _).then HP5.out (fun b hb e => by have := (Hlt.out b e).1; simp at hb; omega)⟩
          case measure => simp [intOf]; omega
      | false =>
        cases less with
        | false =>
          cases cov with
          | true =>
            go_wp2_with (first
              | (go_at_call 82; refine HL.out.mono ?_; rintro r w2 ⟨rfl, rfl⟩)
              | (go_at_call 147; refine (HC.out _ (Ext.out Y1.out _)).mono ?_; rintro r w3 ⟨rfl, hx3⟩; have HX3 := Lib.hid hx3; obtain ⟨j0, j1, -⟩ := cells2 (hx3.blk HZ1.out (fun f => f)); clear hx3))
            go_roundw
            case rel => exact ⟨i + 1, by omega, by go_num, by rw [Hs.out, Hstep.out]; rfl, by rw [Hs.out, Hstep.out]; exact HOw1.out.ext HX3.out, (HXb.out.ext Y1.out).ext HX3.out⟩
            case measure => simp [intOf]; omega
          | false =>
            go_wp2_with (first
              | (go_at_call 82; refine HL.out.mono ?_; rintro r w2 ⟨rfl, rfl⟩)
              | (go_at_call 147; refine (HC.out _ (Ext.out Y1.out _)).mono ?_; rintro r w3 ⟨rfl, hx3⟩; have HX3 := Lib.hid hx3; obtain ⟨j0, j1, -⟩ := cells2 (hx3.blk HZ1.out (fun f => f)); clear hx3)
              | (at_builtin; refine wpList_append_one rfl (.tmp 40) (.tmp 42) 93 rfl fits107 ((HOw1.out.ext HX3.out).ext (Ext.alloc1 _ _)) rfl (by have := HX3.out.size; simp at *; omega) (blk_new _ _) rfl x ⟨_, _, rfl, (((Hu1.out.ext Y1.out).ext HX3.out).alloc _).mono (fun b hb _ => ⟨hb, HFc.out b hb⟩) (.inl (by decide)), (((Hv1.out.ext Y1.out).ext HX3.out).alloc _).mono (fun b hb _ => ⟨hb, HFc.out b hb⟩) (.inl (by decide))⟩ (by have := Hln.out; simp; omega) (by decide) ?_; intro v5 w5 g1 g2 g3; obtain ⟨S6, n6, c6, rfl⟩ := g1.form0; have HG5 := Lib.hid g1; have HP5 := Lib.hid g2; clear g1 g2 g3))
            go_roundw
            case rel => exact ⟨i + 1, by omega, by go_num, by rw [Hs.out, Hstep.out]; rfl, by rw [Hs.out, Hstep.out]; exact HG5.out, (((HXb.out.ext Y1.out).ext HX3.out).alloc _).then HP5.out (fun b hb e => by have := (Hlt.out b e).1; simp at hb; omega)⟩
            case measure => simp [intOf]; omega
        | true =>
          cases cov with
          | true =>
            go_wp2_with (first
              | (go_at_call 82; refine HL.out.mono ?_; rintro r w2 ⟨rfl, rfl⟩)
              | (at_builtin; refine wpList_append_one rfl (.tmp 27) (.tmp 33) 93 rfl fits107 (HOw1.out.ext (Ext.alloc1 _ _)) rfl (by first | (simp; done) | (simp; omega)) (blk_at (n := wo.heap.size + 1) (by simp)) rfl (newP o) ⟨_, _, rfl, ((HuB.out.ext Y1.out).alloc _).mono (fun b hb _ => ⟨hb, HFc.out b hb⟩) (.inl (by decide)), ((HvB.out.ext Y1.out).alloc _).mono (fun b hb _ => ⟨hb, HFc.out b hb⟩) (.inl (by decide))⟩ (by have := Hln.out; omega) (by decide) ?_; intro v4 w4 g1 g2 g3; obtain ⟨S4, n4, c4, rfl⟩ := g1.form0; have HO4 : Hid (Out (fun b => (Value.slice S5 n5 c5).ownBlock = some b) wo w4) := Lib.hid (((Ext.out Y1.out _).alloc _).trans g2); have HG4 := Lib.hid g1; have Hlt4 := Lib.hid g1.lt; have HZ4 := Lib.hid (g2.blk (blk_alloc HZ1.out _) (fun e => by have := (Hlt.out _ e).2; omega)); have HB4 := Lib.hid (g2.blk (blk_alloc HBz.out _) (fun e => by have := (Hlt.out _ e).1; omega)); obtain ⟨i0, i1, -⟩ := cells2 HZ4.out; obtain ⟨h0', h1', h2', -⟩ := cells3 HB4.out; have hz4 := HO4.out.size; have HFc4 : Hid (∀ b, F b → (Value.slice S4 n4 c4).ownBlock ≠ some b) := Lib.hid (fun b hb e => by have := HF.out b hb; have := (Hlt4.out b e).1; omega); clear g1 g2 g3)
              | (go_at_call 147; refine (HC.out _ HO4.out).mono ?_; rintro r w3 ⟨rfl, hx3⟩; have HX3 := Lib.hid hx3; obtain ⟨j0, j1, -⟩ := cells2 (hx3.blk HZ4.out (fun f => f)); clear hx3))
            go_roundw
            case rel => exact ⟨i + 1, by omega, by go_num, by rw [Hs.out, Hstep.out]; rfl, by rw [Hs.out, Hstep.out]; exact HG4.out.ext HX3.out, ((HXb.out.then HO4.out (fun b hb e => by have := (Hlt.out b e).1; simp at hb; omega))).ext HX3.out⟩
            case measure => simp [intOf]; omega
          | false =>
            go_wp2_with (first
              | (go_at_call 82; refine HL.out.mono ?_; rintro r w2 ⟨rfl, rfl⟩)
              | (at_builtin; refine wpList_append_one rfl (.tmp 27) (.tmp 33) 93 rfl fits107 (HOw1.out.ext (Ext.alloc1 _ _)) rfl (by first | (simp; done) | (simp; omega)) (blk_at (n := wo.heap.size + 1) (by simp)) rfl (newP o) ⟨_, _, rfl, ((HuB.out.ext Y1.out).alloc _).mono (fun b hb _ => ⟨hb, HFc.out b hb⟩) (.inl (by decide)), ((HvB.out.ext Y1.out).alloc _).mono (fun b hb _ => ⟨hb, HFc.out b hb⟩) (.inl (by decide))⟩ (by have := Hln.out; omega) (by decide) ?_; intro v4 w4 g1 g2 g3; obtain ⟨S4, n4, c4, rfl⟩ := g1.form0; have HO4 : Hid (Out (fun b => (Value.slice S5 n5 c5).ownBlock = some b) wo w4) := Lib.hid (((Ext.out Y1.out _).alloc _).trans g2); have HG4 := Lib.hid g1; have Hlt4 := Lib.hid g1.lt; have HZ4 := Lib.hid (g2.blk (blk_alloc HZ1.out _) (fun e => by have := (Hlt.out _ e).2; omega)); have HB4 := Lib.hid (g2.blk (blk_alloc HBz.out _) (fun e => by have := (Hlt.out _ e).1; omega)); obtain ⟨i0, i1, -⟩ := cells2 HZ4.out; obtain ⟨h0', h1', h2', -⟩ := cells3 HB4.out; have hz4 := HO4.out.size; have HFc4 : Hid (∀ b, F b → (Value.slice S4 n4 c4).ownBlock ≠ some b) := Lib.hid (fun b hb e => by have := HF.out b hb; have := (Hlt4.out b e).1; omega); clear g1 g2 g3)
              | (go_at_call 147; refine (HC.out _ HO4.out).mono ?_; rintro r w3 ⟨rfl, hx3⟩; have HX3 := Lib.hid hx3; obtain ⟨j0, j1, -⟩ := cells2 (hx3.blk HZ4.out (fun f => f)); clear hx3)
              | (at_builtin; refine wpList_append_one rfl (.tmp 40) (.tmp 42) 93 rfl fits107 ((HG4.out.ext HX3.out).ext (Ext.alloc1 _ _)) rfl (by have := HX3.out.size; simp at *; omega) (blk_new _ _) rfl x ⟨_, _, rfl, (((Hu1.out.out HO4.out (fun b _ hb e => HFc.out b hb e)).ext HX3.out).alloc _).mono (fun b hb _ => ⟨hb, HFc4.out b hb⟩) (.inl (by decide)), (((Hv1.out.out HO4.out (fun b _ hb e => HFc.out b hb e)).ext HX3.out).alloc _).mono (fun b hb _ => ⟨hb, HFc4.out b hb⟩) (.inl (by decide))⟩ (by have := Hln.out; simp; omega) (by decide) ?_; intro v5 w5 g1 g2 g3; obtain ⟨S6, n6, c6, rfl⟩ := g1.form0; have HG5 := Lib.hid g1; have HP5 := Lib.hid g2; clear g1 g2 g3))
            go_roundw
            case rel => exact ⟨i + 1, by omega, by go_num, by rw [Hs.out, Hstep.out]; rfl, by rw [Hs.out, Hstep.out]; exact HG5.out, ((((HXb.out.then HO4.out (fun b hb e => by have := (Hlt.out b e).1; simp at hb; omega))).ext HX3.out).alloc _).then HP5.out (fun b hb e => by have := (Hlt4.out b e).1; simp at hb; omega)⟩
            case measure => simp [intOf]; omega
    · obtain rfl : i = m.length := by omega
      rw [List.take_length] at HOw Hln ⊢
      have hsz := HX.out.size
      have HE : Hid (applyE m o = if (applyF o m).2 = true then (applyF o m).1 else (applyF o m).1 ++ [newP o]) := Lib.hid rfl
      have HuB := Lib.hid (Hu.out.ext HX.out)
      have HvB := Lib.hid (Hv.out.ext HX.out)
      obtain ⟨w0, w1', w2', -⟩ := cells3 HBx.out
      generalize applyF o m = a at *
      obtain ⟨l0, d⟩ := a
      dsimp only at *
      cases d with
      | true =>
        have hE := HE.out
        rw [if_pos rfl] at hE
        have HE2 := Lib.hid hE
        clear HE hE
        go_wp2
        go_ret
        exact ⟨_, rfl, HX.out, by rw [HE2.out]; exact HOw.out.sl (by decide) (by have := Hln.out; show _ ≤ 140737488355328; omega) (fun b hb _ => .inl hb) (fun b hb _ => .inr (by omega))⟩
      | false =>
        have hE := HE.out
        rw [if_neg (by decide)] at hE
        have HE2 := Lib.hid hE
        clear HE hE
        go_wp2_with (at_builtin; refine wpList_append_one rfl (.tmp 47) (.tmp 53) 93 rfl fits107 (HOw.out.ext (Ext.alloc1 _ _)) rfl (by simp; omega) (blk_new _ _) rfl (newP o) ⟨_, _, rfl, (HuB.out.alloc _).mono (fun b hb _ => ⟨hb, HFc.out b hb⟩) (.inl (by decide)), (HvB.out.alloc _).mono (fun b hb _ => ⟨hb, HFc.out b hb⟩) (.inl (by decide))⟩ (by have := Hln.out; omega) (by decide) ?_; intro v4 w4 g1 g2 g3; obtain ⟨S4, n4, c4, rfl⟩ := g1.form0; have HG4 := Lib.hid g1; have HP4 := Lib.hid g2; clear g1 g2 g3)
        go_ret
        exact ⟨_, rfl, (HX.out.alloc _).then HP4.out (fun b hb e => by have := (Hlt.out b e).1; omega), by rw [HE2.out]; exact HG4.out.sl (by decide) (by have := Hln.out; show _ ≤ 140737488355328; simp; omega) (fun b hb _ => .inl hb) (fun b hb _ => .inr (by omega))⟩
end Go.Proofs.Yteaanagljmcidaa
namespace Go.Proofs.Yteaanagljmcidaa
open Go.RowKit

attribute [local go_sem ↓] Go.wp_at_zero Go.wp_at_succ

/-- The place of the first that passes; -1: none does. -/
def idxI {α : Type} (p : α → Bool) (l : List α) : Int := match l.findIdx? p with | some i => (i : Int) | none => -1
theorem idxI_at {α : Type} {p : α → Bool} {l : List α} {i : Nat} (hi : i < l.length) (h : ∀ j (_ : j < i) (hj : j < l.length), p l[j] = false) (hp : p l[i] = true) : idxI p l = i := by
  have hf : l.findIdx? p = some i := List.findIdx?_eq_some_iff_getElem.2 ⟨hi, hp, fun j hj => by rw [h j hj (by omega)]; decide⟩
  unfold idxI
  rw [hf]
theorem idxI_no {α : Type} {p : α → Bool} {l : List α} (h : ∀ j (_ : j < l.length) (hj : j < l.length), p l[j] = false) : idxI p l = -1 := by
  have hf : l.findIdx? p = none := List.findIdx?_eq_none_iff.2 fun x hx => by
    obtain ⟨j, hj, rfl⟩ := List.getElem_of_mem hx
    exact h j hj hj
  unfold idxI
  rw [hf]
theorem idxI_any {α : Type} (p : α → Bool) (l : List α) : decide (0 ≤ idxI p l) = l.any p := by
  unfold idxI
  cases h : l.findIdx? p with
  | none =>
    have h1 := List.findIdx?_eq_none_iff.1 h
    simp only
    rw [eq_comm, show decide ((0 : Int) ≤ -1) = false from rfl, List.any_eq_false]
    intro x hx
    simp [h1 x hx]
  | some i =>
    obtain ⟨hi, hp, -⟩ := List.findIdx?_eq_some_iff_getElem.1 h
    simp only
    rw [eq_comm, decide_eq_true (by omega), List.any_eq_true]
    exact ⟨_, List.getElem_mem hi, hp⟩

theorem Sl.numG {w : World} {F : Nat → Prop} {A : Option Addr} {n cap : Nat} {l : List UInt64} (h : Sl u64C w F (.slice A n cap) l) (i : Nat) (hi : i < l.length) :
    ∃ b off, A = some ⟨b, off, none⟩ ∧ w.cell? ⟨b, off + i, none⟩ = some (u64V l[i]) := by
  obtain ⟨b, off, cs, hA, hF, hat, hr⟩ := h.get i hi
  have hr' : cs = [u64V l[i]] := hr
  subst hr'
  have h1 := hat.cell 0 _ rfl
  exact ⟨b, off, hA, by simpa [u64C] using h1⟩

set_option maxRecDepth 100000 in
set_option maxHeartbeats 2000000 in
theorem index_ents (w : World) (gf : Nat) (eg : ∀ args w, (callFunc gf args).run Try.prog w = .ok (.enter gf args) w) (lb : Array Value) {F : Nat → Prop} {xv : Value} (l : List Ent) (hx : Sl entC w F xv l) (p : Ent → Bool)
    (hc : ∀ w1 (u v : Value) (e : Ent), e ∈ l → Ext w w1 → Bs w1 F u e.key.user → Bs w1 F v e.value → Calls Try.prog gf (#[.agg #[u, u64V e.key.seq, byteV e.key.kind, v]] ++ lb) w1 fun r w2 => r = .returned (.bool (p e)) ∧ Ext w1 w2) :
    Calls Try.prog 157 #[xv, .func (.func gf) #[] lb] w fun r w' => r = .returned (.int .i64 (idxI p l)) ∧ Ext w w' := by
  obtain ⟨A, cap, rfl, -, -, h3, -⟩ := hx.form
  have h3 : l.length ≤ 140737488355328 := h3
  have Hx := Lib.hid hx
  have Hc := Lib.hid hc
  clear hx hc
  go_enter Try.func157, Try.ntmps157
  go_wp2
  go_loopw [8] (fun s8 wr => ∃ i : Nat, i ≤ l.length ∧ s8 = .int .i64 i ∧ Hid (∀ j (_ : j < i) (hj : j < l.length), p l[j] = false) ∧ Ext w wr) (fun s8 _ => l.length - (intOf s8).toNat)
  case atStart => exact ⟨0, Nat.zero_le _, rfl, Lib.hid fun j hj => absurd hj (by omega), Out.refl _ _⟩
  case round =>
    obtain ⟨wo, rfl⟩ : ∃ x : World, x = wr := ⟨_, rfl⟩
    obtain ⟨i, hi, rfl, Hno, hx⟩ := hrel
    have HX := Lib.hid hx
    clear hx
    by_cases hlt : i < l.length
    · obtain ⟨b1, o1, u1, v1, rfl, -, c0, c1, c2, c3, hu, hv⟩ := (Hx.out.ext HX.out).ent i hlt
      obtain ⟨U1, N1, n1, rfl⟩ := hu.form0
      obtain ⟨V1, M1, m1, rfl⟩ := hv.form0
      have HC := Hc.out wo _ _ l[i] (List.getElem_mem hlt) HX.out hu hv
      have Hat := Lib.hid fun hp => idxI_at (p := p) hlt Hno.out hp
      have Hst : Hid (p l[i] = false → ∀ j (_ : j < i + 1) (hj : j < l.length), p l[j] = false) := Lib.hid fun he j hj hj' => by
        rcases Nat.lt_or_ge j i with h | h
        · exact Hno.out j h hj'
        · obtain rfl : j = i := by omega
          exact he
      clear hu hv
      generalize hq : p l[i] = q at *
      have HC := Lib.hid HC
      clear hq
      cases q with
      | true =>
        have HG := Lib.hid (Hat.out rfl)
        clear Hat Hst
        go_wp2_with (go_at_fn gf; refine HC.out.mono ?_; rintro r w1 ⟨rfl, hx1⟩)
        go_ret
        exact ⟨by rw [HG.out]; rfl, HX.out.ext hx1⟩
      | false =>
        have HS := Lib.hid (Hst.out rfl)
        clear Hat Hst
        go_wp2_with (go_at_fn gf; refine HC.out.mono ?_; rintro r w1 ⟨rfl, hx1⟩)
        go_roundw
        case rel => exact ⟨i + 1, by omega, by go_num, HS, HX.out.ext hx1⟩
        case measure => simp [intOf] <;> omega
    · obtain rfl : i = l.length := by omega
      have HG := Lib.hid (idxI_no Hno.out)
      go_wp2
      go_ret
      exact ⟨by rw [HG.out]; rfl, HX.out⟩
set_option maxRecDepth 100000 in
set_option maxHeartbeats 2000000 in
theorem index_spans (w : World) (gf : Nat) (eg : ∀ args w, (callFunc gf args).run Try.prog w = .ok (.enter gf args) w) (lb : Array Value) {F : Nat → Prop} {xv : Value} (l : List SpanE) (hx : Sl spanC w F xv l) (p : SpanE → Bool)
    (hc : ∀ w1 (u v : Value) (e : SpanE), e ∈ l → Ext w w1 → Bs w1 F u e.frm → Bs w1 F v e.til → Calls Try.prog gf (#[.agg #[u, v, u64V e.seq]] ++ lb) w1 fun r w2 => r = .returned (.bool (p e)) ∧ Ext w1 w2) :
    Calls Try.prog 162 #[xv, .func (.func gf) #[] lb] w fun r w' => r = .returned (.int .i64 (idxI p l)) ∧ Ext w w' := by
  obtain ⟨A, cap, rfl, -, -, h3, -⟩ := hx.form
  have h3 : l.length ≤ 140737488355328 := h3
  have Hx := Lib.hid hx
  have Hc := Lib.hid hc
  clear hx hc
  go_enter Try.func162, Try.ntmps162
  go_wp2
  go_loopw [8] (fun s8 wr => ∃ i : Nat, i ≤ l.length ∧ s8 = .int .i64 i ∧ Hid (∀ j (_ : j < i) (hj : j < l.length), p l[j] = false) ∧ Ext w wr) (fun s8 _ => l.length - (intOf s8).toNat)
  case atStart => exact ⟨0, Nat.zero_le _, rfl, Lib.hid fun j hj => absurd hj (by omega), Out.refl _ _⟩
  case round =>
    obtain ⟨wo, rfl⟩ : ∃ x : World, x = wr := ⟨_, rfl⟩
    obtain ⟨i, hi, rfl, Hno, hx⟩ := hrel
    have HX := Lib.hid hx
    clear hx
    by_cases hlt : i < l.length
    · obtain ⟨b1, o1, u1, v1, rfl, -, c0, c1, c2, hu, hv⟩ := (Hx.out.ext HX.out).span i hlt
      obtain ⟨U1, N1, n1, rfl⟩ := hu.form0
      obtain ⟨V1, M1, m1, rfl⟩ := hv.form0
      have HC := Hc.out wo _ _ l[i] (List.getElem_mem hlt) HX.out hu hv
      have Hat := Lib.hid fun hp => idxI_at (p := p) hlt Hno.out hp
      have Hst : Hid (p l[i] = false → ∀ j (_ : j < i + 1) (hj : j < l.length), p l[j] = false) := Lib.hid fun he j hj hj' => by
        rcases Nat.lt_or_ge j i with h | h
        · exact Hno.out j h hj'
        · obtain rfl : j = i := by omega
          exact he
      clear hu hv
      generalize hq : p l[i] = q at *
      have HC := Lib.hid HC
      clear hq
      cases q with
      | true =>
        have HG := Lib.hid (Hat.out rfl)
        clear Hat Hst
        go_wp2_with (go_at_fn gf; refine HC.out.mono ?_; rintro r w1 ⟨rfl, hx1⟩)
        go_ret
        exact ⟨by rw [HG.out]; rfl, HX.out.ext hx1⟩
      | false =>
        have HS := Lib.hid (Hst.out rfl)
        clear Hat Hst
        go_wp2_with (go_at_fn gf; refine HC.out.mono ?_; rintro r w1 ⟨rfl, hx1⟩)
        go_roundw
        case rel => exact ⟨i + 1, by omega, by go_num, HS, HX.out.ext hx1⟩
        case measure => simp [intOf] <;> omega
    · obtain rfl : i = l.length := by omega
      have HG := Lib.hid (idxI_no Hno.out)
      go_wp2
      go_ret
      exact ⟨by rw [HG.out]; rfl, HX.out⟩
set_option maxRecDepth 100000 in
set_option maxHeartbeats 2000000 in
theorem index_nums (w : World) (gf : Nat) (eg : ∀ args w, (callFunc gf args).run Try.prog w = .ok (.enter gf args) w) (lb : Array Value) {F : Nat → Prop} {xv : Value} (l : List UInt64) (hx : Sl u64C w F xv l) (p : UInt64 → Bool)
    (hc : ∀ w1 (e : UInt64), e ∈ l → Ext w w1 → Calls Try.prog gf (#[u64V e] ++ lb) w1 fun r w2 => r = .returned (.bool (p e)) ∧ Ext w1 w2) :
    Calls Try.prog 172 #[xv, .func (.func gf) #[] lb] w fun r w' => r = .returned (.int .i64 (idxI p l)) ∧ Ext w w' := by
  obtain ⟨A, cap, rfl, -, -, h3, -⟩ := hx.form
  have h3 : l.length ≤ 140737488355328 := h3
  have Hx := Lib.hid hx
  have Hc := Lib.hid hc
  clear hx hc
  go_enter Try.func172, Try.ntmps172
  go_wp2
  go_loopw [8] (fun s8 wr => ∃ i : Nat, i ≤ l.length ∧ s8 = .int .i64 i ∧ Hid (∀ j (_ : j < i) (hj : j < l.length), p l[j] = false) ∧ Ext w wr) (fun s8 _ => l.length - (intOf s8).toNat)
  case atStart => exact ⟨0, Nat.zero_le _, rfl, Lib.hid fun j hj => absurd hj (by omega), Out.refl _ _⟩
  case round =>
    obtain ⟨wo, rfl⟩ : ∃ x : World, x = wr := ⟨_, rfl⟩
    obtain ⟨i, hi, rfl, Hno, hx⟩ := hrel
    have HX := Lib.hid hx
    clear hx
    by_cases hlt : i < l.length
    · obtain ⟨b1, o1, rfl, c0⟩ := (Hx.out.ext HX.out).numG i hlt
      have HC := Hc.out wo l[i] (List.getElem_mem hlt) HX.out
      have Hat := Lib.hid fun hp => idxI_at (p := p) hlt Hno.out hp
      have Hst : Hid (p l[i] = false → ∀ j (_ : j < i + 1) (hj : j < l.length), p l[j] = false) := Lib.hid fun he j hj hj' => by
        rcases Nat.lt_or_ge j i with h | h
        · exact Hno.out j h hj'
        · obtain rfl : j = i := by omega
          exact he
      generalize hq : p l[i] = q at *
      have HC := Lib.hid HC
      clear hq
      cases q with
      | true =>
        have HG := Lib.hid (Hat.out rfl)
        clear Hat Hst
        go_wp2_with (go_at_fn gf; refine HC.out.mono ?_; rintro r w1 ⟨rfl, hx1⟩)
        go_ret
        exact ⟨by rw [HG.out]; rfl, HX.out.ext hx1⟩
      | false =>
        have HS := Lib.hid (Hst.out rfl)
        clear Hat Hst
        go_wp2_with (go_at_fn gf; refine HC.out.mono ?_; rintro r w1 ⟨rfl, hx1⟩)
        go_roundw
        case rel => exact ⟨i + 1, by omega, by go_num, HS, HX.out.ext hx1⟩
        case measure => simp [intOf] <;> omega
    · obtain rfl : i = l.length := by omega
      have HG := Lib.hid (idxI_no Hno.out)
      go_wp2
      go_ret
      exact ⟨by rw [HG.out]; rfl, HX.out⟩

theorem contains_ents (w : World) (gf : Nat) (eg : ∀ args w, (callFunc gf args).run Try.prog w = .ok (.enter gf args) w) (lb : Array Value) {F : Nat → Prop} {xv : Value} (l : List Ent) (hx : Sl entC w F xv l) (p : Ent → Bool)
    (hc : ∀ w1 (u v : Value) (e : Ent), e ∈ l → Ext w w1 → Bs w1 F u e.key.user → Bs w1 F v e.value → Calls Try.prog gf (#[.agg #[u, u64V e.key.seq, byteV e.key.kind, v]] ++ lb) w1 fun r w2 => r = .returned (.bool (p e)) ∧ Ext w1 w2) :
    Calls Try.prog 126 #[xv, .func (.func gf) #[] lb] w fun r w' => r = .returned (.bool (l.any p)) ∧ Ext w w' := by
  have H := Lib.hid (index_ents w gf eg lb l hx p hc)
  obtain ⟨A, n, c, rfl⟩ := hx.form0
  have ha := idxI_any p l
  clear hx hc
  generalize idxI p l = z at *
  generalize l.any p = q at *
  subst ha
  go_enter Try.func126, Try.ntmps126
  go_wp2_with (go_at_call 157; refine H.out.mono ?_; rintro r w1 ⟨rfl, hx1⟩)
  go_ret
  exact ⟨rfl, hx1⟩
theorem contains_nums (w : World) (gf : Nat) (eg : ∀ args w, (callFunc gf args).run Try.prog w = .ok (.enter gf args) w) (lb : Array Value) {F : Nat → Prop} {xv : Value} (l : List UInt64) (hx : Sl u64C w F xv l) (p : UInt64 → Bool)
    (hc : ∀ w1 (e : UInt64), e ∈ l → Ext w w1 → Calls Try.prog gf (#[u64V e] ++ lb) w1 fun r w2 => r = .returned (.bool (p e)) ∧ Ext w1 w2) :
    Calls Try.prog 159 #[xv, .func (.func gf) #[] lb] w fun r w' => r = .returned (.bool (l.any p)) ∧ Ext w w' := by
  have H := Lib.hid (index_nums w gf eg lb l hx p hc)
  obtain ⟨A, n, c, rfl⟩ := hx.form0
  have ha := idxI_any p l
  clear hx hc
  generalize idxI p l = z at *
  generalize l.any p = q at *
  subst ha
  go_enter Try.func159, Try.ntmps159
  go_wp2_with (go_at_call 172; refine H.out.mono ?_; rintro r w1 ⟨rfl, hx1⟩)
  go_ret
  exact ⟨rfl, hx1⟩

/-! ### the newest of at most a number -/
def fitsQ (q : Nat) (e : Ent) : Bool := decide (e.key.seq.toNat ≤ q)
theorem newest1 (w : World) {F G : Nat → Prop} {u v : Value} (e : Ent) (hu : Bs w F u e.key.user) (hv : Bs w G v e.value) (B : Nat) (q : Nat) (h : w.cell? ⟨B, 0, none⟩ = some (.int .u64 (q : Int))) :
    Calls Try.prog 166 #[.agg #[u, u64V e.key.seq, byteV e.key.kind, v], .pointer (some ⟨B, 0, none⟩)] w fun r w' => r = .returned (.bool (fitsQ q e)) ∧ Ext w w' := by
  obtain ⟨U, N, n, rfl⟩ := hu.form0
  obtain ⟨V, M, m, rfl⟩ := hv.form0
  have X1 := Lib.hid (Ext.alloc1 w (.cells #[.slice U N n, u64V e.key.seq, byteV e.key.kind, .slice V M m] 32))
  obtain ⟨z0, z1, z2, z3, -⟩ := cells4 (blk_new w (.cells #[.slice U N n, u64V e.key.seq, byteV e.key.kind, .slice V M m] 32))
  have h' := cell_alloc h (.cells #[.slice U N n, u64V e.key.seq, byteV e.key.kind, .slice V M m] 32)
  clear hu hv
  go_enter Try.func166, Try.ntmps166
  go_wp2
  go_ret
  refine ⟨retb_of ?_, X1.out⟩
  unfold fitsQ
  first | rfl | (rw [Bool.eq_iff_iff]; simp)
theorem gl_newest (w : World) {F : Nat → Prop} {xv : Value} (l : List Ent) (hx : Sl entC w F xv l) (q : Nat) :
    Calls Try.prog 141 #[xv, .int .u64 (q : Int)] w fun r w' => r = .returned (.int .i64 (idxI (fitsQ q) l)) ∧ Ext w w' := by
  have hb := (cells1 (blk_new w (.cells #[.int .u64 (q : Int)] 28))).1
  have H := Lib.hid (index_ents (w.alloc (.cells #[.int .u64 (q : Int)] 28)) 166 (enters_of Try.func166 (by kernel_rfl) rfl) #[.pointer (some ⟨w.heap.size, 0, none⟩)] l (hx.alloc _) (fitsQ q)
    (fun w1 u v e _ hx1 hu hv => newest1 w1 e hu hv w.heap.size q (hx1.cell hb (fun f => f))))
  obtain ⟨A, n, c, rfl⟩ := hx.form0
  have X1 := Lib.hid (Ext.alloc1 w (.cells #[.int .u64 (q : Int)] 28))
  clear hx hb
  go_enter Try.func141, Try.ntmps141
  go_wp2_with (go_at_call 157; refine H.out.mono ?_; rintro r w1 ⟨rfl, hx1⟩)
  go_ret
  exact ⟨rfl, X1.out.ext hx1⟩

/-! ### is it of another key than the first? -/
set_option maxHeartbeats 1000000 in
theorem keys1 (w : World) {F G : Nat → Prop} {u v xv : Value} (e y : Ent) (l : List Ent) (hu : Bs w G u e.key.user) (hv : Bs w G v e.value) (B : Nat) (hb : w.cell? ⟨B, 0, none⟩ = some xv) (hx : Sl entC w F xv (y :: l)) :
    Calls Try.prog 158 #[.agg #[u, u64V e.key.seq, byteV e.key.kind, v], .pointer (some ⟨B, 0, none⟩)] w fun r w' => r = .returned (.bool (!(e.key.user == y.key.user))) ∧ Ext w w' := by
  obtain ⟨U, N, n, rfl⟩ := hu.form0
  obtain ⟨V, M, m, rfl⟩ := hv.form0
  obtain ⟨b1, o1, cap, u1, v1, rfl, -, c0, c1, c2, c3, hu1, hv1⟩ := hx.ent0
  obtain ⟨U1, N1, n1, rfl⟩ := hu1.form0
  obtain ⟨V1, M1, m1, rfl⟩ := hv1.form0
  have x1 := Ext.alloc1 w (.cells #[.slice U N n, u64V e.key.seq, byteV e.key.kind, .slice V M m] 32)
  obtain ⟨z0, z1, z2, z3, -⟩ := cells4 (blk_new w (.cells #[.slice U N n, u64V e.key.seq, byteV e.key.kind, .slice V M m] 32))
  have d0 := cell_alloc c0 (.cells #[.slice U N n, u64V e.key.seq, byteV e.key.kind, .slice V M m] 32)
  have db := cell_alloc hb (.cells #[.slice U N n, u64V e.key.seq, byteV e.key.kind, .slice V M m] 32)
  have HC := Lib.hid (bytes_equal _ (hu.ext x1).drew (hu1.ext x1).drew)
  have X1 := Lib.hid x1
  have hlen : 0 < (y :: l).length := by simp
  generalize (y :: l).length = len at *
  clear hu hv hu1 hv1 hx x1
  go_enter Try.func158, Try.ntmps158
  go_wp2
  go_region_held3 (fun w' => w'.cell? ⟨w.heap.size, 0, none⟩ = some (.slice U N n) ∧ w'.cell? ⟨B, 0, none⟩ = some (.slice (some ⟨b1, o1, none⟩) len cap) ∧ w'.cell? ⟨b1, o1, none⟩ = some (.slice U1 N1 n1))
    (first | go_keep) (first | (go_at_call 138; refine HC.out.mono ?_; rintro e w1 ⟨rfl, rfl⟩))
  go_wp2
  go_ret
  exact ⟨rfl, X1.out.drew⟩

/-! ### where a key stands among pairs, or would -/
theorem place1 (w : World) {F G : Nat → Prop} {u v x : Value} (p : PairE) (k : List UInt8) (hu : Bs w F u p.key) (hv : Bs w F v p.val) (hx : Bs w G x k) :
    Calls Try.prog 168 #[.agg #[u, v], x] w fun r w' => r = .returned (.int .i64 (bcmp p.key k)) ∧ Ext w w' := by
  obtain ⟨U, N, n, rfl⟩ := hu.form0
  obtain ⟨V, M, m, rfl⟩ := hv.form0
  obtain ⟨X, L, c, rfl⟩ := hx.form0
  have x1 := Ext.alloc1 w (.cells #[.slice U N n, .slice V M m] 107)
  obtain ⟨z0, z1, -⟩ := cells2 (blk_new w (.cells #[.slice U N n, .slice V M m] 107))
  have H := Lib.hid (bytes_compare _ (hu.ext x1) (hx.ext x1))
  have X1 := Lib.hid x1
  clear hu hv hx x1
  go_enter Try.func168, Try.ntmps168
  go_wp2_with (go_at_call 150; refine H.out.mono ?_; rintro r w1 ⟨rfl, rfl⟩)
  go_ret
  exact ⟨rfl, X1.out⟩
end Go.Proofs.Yteaanagljmcidaa
namespace Go.Proofs.Yteaanagljmcidaa
open Go.RowKit

attribute [local go_sem] Oper.semAt_some

/-! ### groups -/
structure Groups (l0 : List Ent) (gs : List (List Ent)) (rest : List Ent) : Prop where
  flat : gs.flatten ++ rest = l0
  same : ∀ g ∈ gs, g ≠ [] ∧ ∀ a ∈ g, ∀ b ∈ g, a.key.user = b.key.user
  apart : gs.Pairwise fun g h => ∀ a ∈ g, ∀ b ∈ h, a.key.user ≠ b.key.user
  ahead : ∀ g ∈ gs, ∀ a ∈ g, ∀ b ∈ rest, a.key.user ≠ b.key.user
def other (y e : Ent) : Bool := !(e.key.user == y.key.user)
/-- How many of the first key. -/
def runN (y : Ent) (l : List Ent) : Nat := if idxI (other y) l < 0 then l.length else (idxI (other y) l).toNat
theorem idxI_spec {α : Type} (p : α → Bool) (l : List α) : (idxI p l = -1 ∧ ∀ x ∈ l, p x = false) ∨ ∃ i : Nat, idxI p l = i ∧ ∃ h : i < l.length, p l[i] = true ∧ ∀ j (_ : j < i) (hj : j < l.length), p l[j] = false := by
  unfold idxI
  cases h : l.findIdx? p with
  | none => exact .inl ⟨rfl, List.findIdx?_eq_none_iff.1 h⟩
  | some i =>
    obtain ⟨hi, hp, hno⟩ := List.findIdx?_eq_some_iff_getElem.1 h
    exact .inr ⟨i, rfl, hi, hp, fun j hj _ => by simpa using hno j hj⟩
theorem kuser_le {a b : Key} (h : kcmp a b < 0) : bcmp a.user b.user < 0 ∨ a.user = b.user := by
  rw [kcmp_neg] at h
  exact h.imp id fun h => h.1
theorem run_spec {y : Ent} {t : List Ent} (hs : SortedE (y :: t)) : 0 < runN y (y :: t) ∧ runN y (y :: t) ≤ (y :: t).length ∧ (∀ e ∈ (y :: t).take (runN y (y :: t)), e.key.user = y.key.user) ∧ ∀ e ∈ (y :: t).drop (runN y (y :: t)), bcmp y.key.user e.key.user < 0 := by
  unfold runN
  rcases idxI_spec (other y) (y :: t) with ⟨h1, h2⟩ | ⟨i, h1, hi, hp, hno⟩
  · rw [h1, if_pos (by decide), List.take_length, List.drop_length]
    refine ⟨by simp, Nat.le_refl _, fun e he => ?_, fun e he => by cases he⟩
    have := h2 e he
    unfold other at this
    simpa using this
  · rw [h1, if_neg (by omega), Int.toNat_natCast]
    have hi0 : 0 < i := by
      apply Classical.byContradiction
      intro hn
      obtain rfl : i = 0 := by omega
      unfold other at hp
      simp at hp
    refine ⟨hi0, by omega, fun e he => ?_, fun e he => ?_⟩
    · obtain ⟨j, hj, rfl⟩ := List.getElem_of_mem he
      rw [List.length_take] at hj
      rw [List.getElem_take]
      have := hno j (by omega) (by omega)
      unfold other at this
      simpa using this
    · have hne : (y :: t)[i].key.user ≠ y.key.user := by
        unfold other at hp
        simpa using hp
      have h0 : bcmp y.key.user (y :: t)[i].key.user < 0 := by
        have h3 := List.pairwise_iff_getElem.1 hs 0 i (by simp) hi hi0
        rcases kuser_le h3 with h | h
        · exact h
        · exact absurd h.symm hne
      obtain ⟨j, hj, rfl⟩ := List.getElem_of_mem he
      rw [List.length_drop] at hj
      rw [List.getElem_drop]
      rcases Nat.eq_zero_or_pos j with rfl | hpos
      · simpa using h0
      · have h3 := List.pairwise_iff_getElem.1 hs i (i + j) hi (by omega) (by omega)
        rcases kuser_le h3 with h | h
        · exact bcmp_trans _ _ _ h0 h
        · rw [← h]; exact h0
theorem Groups.start (l : List Ent) : Groups l [] l := ⟨rfl, (fun _ h => nomatch h), List.Pairwise.nil, (fun _ h => nomatch h)⟩
theorem Groups.len {l0 : List Ent} {gs : List (List Ent)} {rest : List Ent} (h : Groups l0 gs rest) : gs.length ≤ l0.length := by
  have key : ∀ gs : List (List Ent), (∀ g ∈ gs, g ≠ []) → gs.length ≤ gs.flatten.length := by
    intro gs
    induction gs with
    | nil => intro _; simp
    | cons g gs ih =>
      intro hg
      have h1 := ih fun k hk => hg k (List.mem_cons_of_mem _ hk)
      have h2 := List.length_pos_iff.2 (hg g List.mem_cons_self)
      rw [List.flatten_cons, List.length_cons, List.length_append]
      omega
  have h1 := key gs fun g hg => (h.same g hg).1
  have h2 := congrArg List.length h.flat
  rw [List.length_append] at h2
  omega
theorem Groups.restLen {l0 : List Ent} {gs : List (List Ent)} {rest : List Ent} (h : Groups l0 gs rest) : rest.length ≤ l0.length := by
  have h2 := congrArg List.length h.flat
  rw [List.length_append] at h2
  omega
theorem Groups.step {l0 : List Ent} {gs : List (List Ent)} {y : Ent} {t : List Ent} (h : Groups l0 gs (y :: t)) (hs : SortedE l0) : Groups l0 (gs ++ [(y :: t).take (runN y (y :: t))]) ((y :: t).drop (runN y (y :: t))) := by
  have hst : SortedE (y :: t) := hs.sub (by rw [← h.flat]; exact List.sublist_append_right _ _)
  obtain ⟨h1, h2, h3, h4⟩ := run_spec hst
  have hb0 : ∀ u : List UInt8, ¬ bcmp u u < 0 := fun u hu => by rw [(bcmp_zero u u).2 rfl] at hu; omega
  refine ⟨?_, fun g hg => ?_, ?_, fun g hg a ha b hb => ?_⟩
  · rw [List.flatten_append, List.append_assoc]
    simp only [List.flatten_cons, List.flatten_nil, List.append_nil, List.take_append_drop]
    exact h.flat
  · rcases List.mem_append.1 hg with hg | hg
    · exact h.same g hg
    · rw [List.mem_singleton.1 hg]
      refine ⟨fun e => ?_, fun a ha b hb => (h3 a ha).trans (h3 b hb).symm⟩
      have := congrArg List.length e
      rw [List.length_take] at this
      simp at this
      omega
  · refine List.pairwise_append.2 ⟨h.apart, List.pairwise_singleton _ _, fun g hg k hk a ha b hb => ?_⟩
    rw [List.mem_singleton.1 hk] at hb
    exact h.ahead g hg a ha b (List.mem_of_mem_take hb)
  · rcases List.mem_append.1 hg with hg | hg
    · exact h.ahead g hg a ha b (List.mem_of_mem_drop hb)
    · rw [List.mem_singleton.1 hg] at ha
      rw [h3 a ha]
      intro e
      have := h4 b hb
      rw [← e] at this
      exact hb0 _ this

theorem blk_set1 {w : World} {g : Nat} {a : Value} {t : TypeId} (h : w.heap[g]? = some (.cells #[a] t)) (u : Value) : (w.setCell ⟨g, 0, none⟩ u).heap[g]? = some (.cells #[u] t) := by
  have := blk_set h 0 u
  simpa using this

/-! ### the iterator -/
set_option maxHeartbeats 400000 in
theorem keys_make (w : World) (A : Option Addr) (n cap : Nat) : Calls Try.prog 119 #[.slice A n cap] w fun e w' =>
    e = .returned (.func (.func 156) #[] #[.pointer (some ⟨w.heap.size, 0, none⟩)]) ∧ w' = w.alloc (.cells #[.slice A n cap] 43) := by
  go_enter Try.func119, Try.ntmps119
  go_wp2
  go_ret
  exact ⟨rfl, rfl⟩

/-- What a round is handed: a key's entries. -/
structure GV where
  l : List Ent
  v : Value
def GV.enc (x : GV) : Array Value := #[x.v]
def GV.Rd (F : Nat → Prop) (N : Nat) (_B : Nat) (x : GV) (W : World) : Prop := Sl entC W F x.v x.l ∧ SortedE x.l ∧ (∀ a ∈ x.l, ∀ b ∈ x.l, a.key.user = b.key.user) ∧ x.l.length ≤ N
def lenV : Option Value → Nat
  | some (.slice _ n _) => n
  | _ => 0

set_option maxRecDepth 100000 in
set_option maxHeartbeats 4000000 in
theorem keys_gives (n : Nat) (hn1 : 1 ≤ n) {w : World} {F : Nat → Prop} {xv : Value} (l0 : List Ent) (hx : Sl entC w F xv l0) (hs : SortedE l0) (X : Nat) (hX : w.heap[X]? = some (.cells #[xv] 43)) (hF : ¬ F X)
    (K : Nat → Prop) (hK1 : ∀ b, F b → ¬ K b) (hK2 : ¬ K X) (B : Nat) (_hl : l0.length ≤ 1000000) :
    GivesT n Try.prog 156 #[.pointer (some ⟨X, 0, none⟩)] GV.enc (GV.Rd F l0.length) B K (fun b => b = X) (fun xs => Groups l0 (xs.map (·.l)) []) (l0.length + 1) w := by
  intro l J W hKW hB hJ hY h0
  have hmix : Try.prog.follows .mixedOrders = true := by kernel_rfl
  have hxW := hx.out hKW (fun b _ hb => hK1 b hb)
  have hXW := hKW.blk hX hK2
  refine callsIn_of_wp Try.func156 rfl trivial ?_ rfl
  simp only [Try.ntmps156, List.size_toArray, List.length_cons, List.length_nil, Nat.reduceAdd, Nat.reduceSub, Array.replicate_succ, Array.replicate_zero, List.push_toArray, List.append_toArray, List.nil_append, List.cons_append]
  have HXW := Lib.hid hxW
  have HB0 := Lib.hid hXW
  have HJ := Lib.hid hJ
  have HY := Lib.hid hY
  have Hs := Lib.hid hs
  have hlX := blk_lt hXW
  clear hx hX hKW hxW hXW hJ hY hs
  gi_wp2
  gi_loopw [] (fun wr => ∃ (pre : List GV) (rest : List Ent) (v : Value), Groups l0 (pre.map (·.l)) rest ∧ wr.heap[X]? = some (.cells #[v] 43) ∧ Sl entC wr F v rest ∧ J pre wr ∧ Out (fun b => K b ∨ b = X) W wr) (fun wr => lenV (wr.cell? ⟨X, 0, none⟩))
  case atStart => exact ⟨[], l0, xv, Groups.start _, HB0.out, HXW.out, h0, Out.refl _ _⟩
  case round =>
    obtain ⟨wo, rfl⟩ : ∃ x : World, x = wr := ⟨_, rfl⟩
    obtain ⟨pre, rest, v, hG, hb, hsl, hj, hO⟩ := hrel
    cases rest with
    | nil =>
      obtain ⟨A, cap, rfl, -⟩ := hsl.form
      simp only [List.length_nil] at hb
      obtain ⟨c0, cf⟩ := cells1 hb
      have HG := Lib.hid hG
      have HJ' := Lib.hid hj
      have HO := Lib.hid hO
      clear hG hsl hj hO hb
      gi_wp2
      go_end0
      exact ⟨⟨_, rfl⟩, pre, HG.out, HJ'.out, HO.out⟩
    | cons y t =>
      obtain ⟨L, hL⟩ : ∃ L, y :: t = L := ⟨_, rfl⟩
      have hstep := fun (h : Groups l0 (pre.map (·.l)) (y :: t)) => h.step Hs.out
      have hst : SortedE (y :: t) := Hs.out.sub (by rw [← hG.flat]; exact List.sublist_append_right _ _)
      have hrun := run_spec hst
      have hpos : 0 < (y :: t).length := by simp
      rw [hL] at hG hsl hstep hrun hpos hst
      obtain ⟨hr1, hr2, hr3, -⟩ := hrun
      have hlen := hG.len
      have hrl := hG.restLen
      rw [List.length_map] at hlen
      have hGs := Lib.hid (hstep hG)
      obtain ⟨A, cap, rfl, hcap, -, -, -⟩ := hsl.form
      obtain ⟨c0, cf⟩ := cells1 hb
      have HC := index_ents wo 158 (enters_of Try.func158 (by kernel_rfl) rfl) #[.pointer (some ⟨X, 0, none⟩)] L hsl (other y) (fun w1 u v e _ hx1 hu hv => keys1 w1 e y t hu hv X (hx1.cell c0 (fun f => f)) (by rw [hL]; exact hsl.ext hx1))
      have Hrun : Hid (runN y L = if idxI (other y) L < 0 then L.length else (idxI (other y) L).toNat) := Lib.hid rfl
      have hz1 : -1 ≤ idxI (other y) L := by rcases idxI_spec (other y) L with h | ⟨i, h, -⟩ <;> omega
      have hne : Hid (SortedE (L.take (runN y L)) ∧ ∀ a ∈ L.take (runN y L), ∀ b ∈ L.take (runN y L), a.key.user = b.key.user) := Lib.hid ⟨hst.sub (List.take_sublist _ _), fun a ha b hb => (hr3 a ha).trans (hr3 b hb).symm⟩
      clear hL hr3 hst hstep
      generalize runN y L = k at *
      have HTk := Lib.hid (hsl.take k hr2)
      have HDk := Lib.hid (hsl.dropM k hr2)
      have HB1 := Lib.hid hb
      have HJ' := Lib.hid hj
      have HO := Lib.hid hO
      have hz := hO.size
      have HC := Lib.hid HC
      have hi1 : (0 : Int) ≤ (k : Int) := by omega
      have hi2 : (k : Int) ≤ (cap : Int) := by omega
      have hi3 : (k : Int) ≤ (L.length : Int) := by omega
      generalize idxI (other y) L = z at *
      clear hG hsl hj hO hb
      by_cases hz0 : z < 0
      · have hkl : k = L.length := Hrun.out.trans (if_pos hz0)
        subst hkl
        clear Hrun
        gi_wp2_with (first | (refine ⟨trivial, ?_⟩; gi_at_call 157; refine (callsIn_wide.2 HC.out).mono ?_; rintro e w4 ⟨rfl, hx4⟩; have HX4 := Lib.hid hx4; obtain ⟨d0, df⟩ := cells1 (hx4.blk HB1.out (fun f => f)); obtain ⟨fn, tm, asg, bod, hy, hR⟩ := HY.out pre ⟨L.take L.length, .slice A L.length cap⟩ wo w4 HJ'.out (hx4.out _) (Nat.le_trans hB hz) ⟨HTk.out.ext hx4, hne.out.1, hne.out.2, by show (L.take L.length).length ≤ _; rw [List.length_take]; omega⟩ (by omega); simp only [GV.enc] at hy; clear hx4))
        refine hR.mono ?_
        rintro e W' ⟨rfl, hJ', hK'⟩
        have hbX := hK'.blk (HX4.out.blk HB1.out (fun f => f)) hK2
        obtain ⟨f0, ff⟩ := cells1 hbX
        have HbX := Lib.hid hbX
        have hd2 := (HDk.out.ext HX4.out).out hK' (fun b _ hb => hK1 b hb)
        rw [Nat.sub_self] at hd2
        have HD2 := Lib.hid hd2
        clear hd2
        have HJ2 := Lib.hid hJ'
        have HO2 : Hid (Out (fun b => K b ∨ b = X) W W') := Lib.hid ((HO.out.ext HX4.out).trans (hK'.mono fun b _ h => .inl h))
        clear hJ' hK' hbX hR hy d0 df
        gi_wp2
        go_roundw
        case rel =>
          have hos := fun u : Value => (Out.refl (fun b => b = X) W').setCell (p := ⟨X, 0, none⟩) (fun _ => rfl) u
          exact ⟨pre ++ [⟨_, _⟩], _, _, by rw [List.map_append]; exact hGs.out, blk_set1 HbX.out _, HD2.out.out (hos _) (fun b _ hb e => hF (e ▸ hb)), HJ.out _ _ _ HJ2.out (hos _), HO2.out.trans ((hos _).mono fun b _ h => .inr h)⟩
        case measure =>
          have h1 : ∀ u : Value, (W'.setCell ⟨X, 0, none⟩ u).cell? ⟨X, 0, none⟩ = some u := fun u => (cells1 (blk_set1 HbX.out u)).1
          rw [h1, (cells1 HB1.out).1]
          simp only [lenV]
          omega
      · have hkl : k = z.toNat := Hrun.out.trans (if_neg hz0)
        obtain rfl : z = (k : Int) := by omega
        clear Hrun hkl
        gi_wp2_with (first | (refine ⟨trivial, ?_⟩; gi_at_call 157; refine (callsIn_wide.2 HC.out).mono ?_; rintro e w4 ⟨rfl, hx4⟩; have HX4 := Lib.hid hx4; obtain ⟨d0, df⟩ := cells1 (hx4.blk HB1.out (fun f => f)); obtain ⟨fn, tm, asg, bod, hy, hR⟩ := HY.out pre ⟨L.take k, .slice A k cap⟩ wo w4 HJ'.out (hx4.out _) (Nat.le_trans hB hz) ⟨HTk.out.ext hx4, hne.out.1, hne.out.2, by show (L.take k).length ≤ _; rw [List.length_take]; omega⟩ (by omega); simp only [GV.enc] at hy; clear hx4))
        refine hR.mono ?_
        rintro e W' ⟨rfl, hJ', hK'⟩
        have hbX := hK'.blk (HX4.out.blk HB1.out (fun f => f)) hK2
        obtain ⟨f0, ff⟩ := cells1 hbX
        have HbX := Lib.hid hbX
        have HD2 := Lib.hid ((HDk.out.ext HX4.out).out hK' (fun b _ hb => hK1 b hb))
        have HJ2 := Lib.hid hJ'
        have HO2 : Hid (Out (fun b => K b ∨ b = X) W W') := Lib.hid ((HO.out.ext HX4.out).trans (hK'.mono fun b _ h => .inl h))
        clear hJ' hK' hbX hR hy d0 df
        gi_wp2
        go_roundw
        case rel =>
          have hos := fun u : Value => (Out.refl (fun b => b = X) W').setCell (p := ⟨X, 0, none⟩) (fun _ => rfl) u
          exact ⟨pre ++ [⟨_, _⟩], _, _, by rw [List.map_append]; exact hGs.out, blk_set1 HbX.out _, HD2.out.out (hos _) (fun b _ hb e => hF (e ▸ hb)), HJ.out _ _ _ HJ2.out (hos _), HO2.out.trans ((hos _).mono fun b _ h => .inr h)⟩
        case measure =>
          have h1 : ∀ u : Value, (W'.setCell ⟨X, 0, none⟩ u).cell? ⟨X, 0, none⟩ = some u := fun u => (cells1 (blk_set1 HbX.out u)).1
          rw [h1, (cells1 HB1.out).1]
          simp only [lenV]
          omega
end Go.Proofs.Yteaanagljmcidaa
namespace Go.Proofs.Yteaanagljmcidaa
open Go.RowKit

attribute [local go_sem ↓] Go.wp_at_zero Go.wp_at_succ

theorem bareE_take : ∀ {l : List Ent} {k : Nat}, (∀ a ∈ l, ∀ b ∈ l, a.key.user = b.key.user) → k ≤ l.length → (∀ j (hj : j < l.length), k ≤ j → isPut l[j] = false) → (∀ _h : 0 < k, ∀ hk : k - 1 < l.length, isPut l[k - 1] = true) → bareE l = l.take k
  | [], k, _, hk, _, _ => by simp [bareE]
  | e :: t, k, hu, hk, hd, hp => by
    have hut : ∀ a ∈ t, ∀ b ∈ t, a.key.user = b.key.user := fun a ha b hb => hu a (List.mem_cons_of_mem _ ha) b (List.mem_cons_of_mem _ hb)
    rw [bareE_cons]
    rcases Nat.eq_zero_or_pos k with rfl | hpos
    · have h1 := bareE_take (l := t) (k := 0) hut (Nat.zero_le _) (fun j hj _ => hd (j + 1) (by simp; omega) (Nat.zero_le _)) (fun h => absurd h (by omega))
      rw [List.take_zero] at h1
      have h2 := hd 0 (by simp) (Nat.zero_le _)
      rw [h1]
      unfold bareStep
      simp only [List.getElem_cons_zero] at h2
      simp [h2]
    · obtain ⟨k, rfl⟩ : ∃ j, k = j + 1 := ⟨k - 1, by omega⟩
      simp only [List.length_cons] at hk
      have h1 := bareE_take (l := t) (k := k) hut (by omega) (fun j hj hkj => hd (j + 1) (by simp; omega) (by omega)) (fun h hk' => by
        have := hp (by omega) (by simp; omega)
        have e1 : k + 1 - 1 = (k - 1) + 1 := by omega
        simp only [e1, List.getElem_cons_succ] at this
        exact this)
      rw [h1, List.take_succ_cons]
      rcases Nat.eq_zero_or_pos k with rfl | hk0
      · have h2 := hp (by omega) (by simp)
        simp only [Nat.zero_add, Nat.sub_self, List.getElem_cons_zero] at h2
        unfold bareStep
        rw [if_pos (.inl h2)]
      · have hc : (t.take k).head?.any (fun x => x.key.user == e.key.user) = true := by
          match t, hk, hu with
          | [], hk, _ => simp only [List.length_nil] at hk; omega
          | y :: t, hk, hu =>
            obtain ⟨k, rfl⟩ : ∃ j, k = j + 1 := ⟨k - 1, by omega⟩
            rw [List.take_succ_cons]
            simp only [List.head?_cons, Option.any_some, beq_iff_eq]
            exact hu y (by simp) e (by simp)
        unfold bareStep
        rw [if_pos (.inr hc)]

set_option maxRecDepth 100000 in
set_option maxHeartbeats 4000000 in
theorem gl_bare (w : World) {F : Nat → Prop} {xv : Value} (l : List Ent) (hx : Sl entC w F xv l) (hu : ∀ a ∈ l, ∀ b ∈ l, a.key.user = b.key.user) (hl : l.length ≤ 1000) :
    Calls Try.prog 121 #[xv] w fun e w' => ∃ v, e = .returned v ∧ w = w' ∧ Sl entC w F v (bareE l) := by
  obtain ⟨A, cap, rfl, hcap, -, -, -⟩ := hx.form
  have Hx := Lib.hid hx
  have Hu := Lib.hid hu
  clear hx hu
  go_enter Try.func121, Try.ntmps121
  go_wp2
  go_loopw [0] (fun s0 wr => ∃ k : Nat, k ≤ l.length ∧ s0 = .slice A k cap ∧ Hid (∀ j (hj : j < l.length), k ≤ j → isPut l[j] = false) ∧ wr = w) (fun s0 _ => lenV (some s0))
  case atStart => exact ⟨l.length, Nat.le_refl _, rfl, Lib.hid fun j hj h => by omega, rfl⟩
  case round =>
    obtain ⟨k, hk, rfl, Hd, rfl⟩ := hrel
    rcases Nat.eq_zero_or_pos k with rfl | hpos
    · have HB := Lib.hid (bareE_take Hu.out (Nat.zero_le _) Hd.out (fun h => absurd h (by omega)))
      go_wp2
      go_ret
      exact ⟨_, rfl, rfl, by rw [HB.out]; exact Hx.out.take 0 (Nat.zero_le _)⟩
    · obtain ⟨j, rfl⟩ : ∃ j, k = j + 1 := ⟨k - 1, by omega⟩
      obtain ⟨b1, o1, u1, v1, rfl, -, c0, c1, c2, c3, hu, hv⟩ := Hx.out.ent j (by omega)
      have hw1 : IntKind.i64.wrap (((j + 1 : Nat) : Int) - 1) = (j : Int) := by rw [IntKind.wrap_i64]; omega
      have hw2 : IntKind.i64.wrap ((j : Int) + 1 - 1) = (j : Int) := by rw [IntKind.wrap_i64]; omega
      have hw3 : IntKind.i64.wrap (j : Int) = (j : Int) := by rw [IntKind.wrap_i64]; omega
      have hi0 : (0 : Int) ≤ (j : Int) := by omega
      have hi1 : (j : Int) ≤ (cap : Int) := by omega
      have hi2 : (j : Int) < (j : Int) + 1 := by omega
      clear hu hv
      by_cases hdel : l[j].key.kind.toNat = 1
      · have hkb : (((l[j].key.kind.toNat : Nat) : Int) == 1) = true := by rw [beq_iff_eq]; omega
        have Hd2 : Hid (∀ i (hi : i < l.length), j ≤ i → isPut l[i] = false) := Lib.hid fun i hi h => by
          rcases Nat.lt_or_ge j i with h' | h'
          · exact Hd.out i hi (by omega)
          · obtain rfl : i = j := by omega
            unfold isPut; simp [hdel]
        clear hdel
        go_wp2
        go_roundw
        case rel => exact ⟨j, by omega, rfl, Hd2, trivial⟩
        case measure => simp [lenV]
      · have hkb : (((l[j].key.kind.toNat : Nat) : Int) == 1) = false := by rw [beq_eq_false_iff_ne]; omega
        have HB := Lib.hid (bareE_take Hu.out hk Hd.out (fun _ hk' => by unfold isPut; simpa using hdel))
        clear hdel
        go_wp2
        go_ret
        exact ⟨_, rfl, rfl, by rw [HB.out]; exact Hx.out.take (j + 1) hk⟩
end Go.Proofs.Yteaanagljmcidaa
