/- ref08: Insert. -/
import Derived.Test.YteaanagljmcidaaRef8A
import Derived.Test.YteaanagljmcidaaAhead
import Derived.Test.YteaanagljmcidaaTwin
import Derived.Test.YteaanagljmcidaaLists
import Derived.Deep.DeepCutAuto
import Derived.Test.YteaanagljmcidaaRegB
namespace Go.Proofs.Yteaanagljmcidaa
open Go.RowKit

attribute [local go_sem ↓] Go.wp_at_zero Go.wp_at_succ

/-- The document's list at R: entries and heights, side by side. -/
structure RefE (w : World) (Foot : Nat → Prop) (R : Nat) (v z : Value) (es : List Ent) (hs : List Int) : Prop where
  blk : w.heap[R]? = some (.cells #[v, z] 56)
  foot : Foot R
  ents : Sl entC w (fun b => Foot b ∧ b ≠ R) v es
  hts : Sl intC w (fun b => Foot b ∧ b ≠ R) z hs
  len : hs.length = es.length

section
variable {w w' : World} {Foot G : Nat → Prop} {R : Nat} {v z : Value} {es : List Ent} {hs : List Int}
theorem RefE.frame (h : RefE w Foot R v z es hs) {S : Nat → Prop} (ho : Out S w w') (hd : ∀ b, b < w.heap.size → Foot b → ¬ S b) : RefE w' Foot R v z es hs :=
  ⟨ho.blk h.blk (hd R (blk_lt h.blk) h.foot), h.foot, h.ents.out ho (fun b hl hb => hd b hl hb.1), h.hts.out ho (fun b hl hb => hd b hl hb.1), h.len⟩
theorem RefE.ext (h : RefE w Foot R v z es hs) (ho : Ext w w') : RefE w' Foot R v z es hs := h.frame ho fun _ _ _ f => f
theorem RefE.mono (h : RefE w Foot R v z es hs) (hg : ∀ b, b < w.heap.size → Foot b → G b) : RefE w G R v z es hs :=
  ⟨h.blk, hg R (blk_lt h.blk) h.foot, h.ents.mono (fun b hb hl => ⟨hg b hl hb.1, hb.2⟩) (.inl (by decide)), h.hts.mono (fun b hb hl => ⟨hg b hl hb.1, hb.2⟩) (.inl (by decide)), h.len⟩
end

theorem key_check3 (w : World) {F : Nat → Prop} {u : Value} (k : Key) (hu : Bs w F u k.user) (c : Int) (hc : icheck k = c) :
    Calls Try.prog 102 #[.agg #[u, u64V k.seq, byteV k.kind]] w fun e w' => e = .returned (.int .i64 c) ∧ Ext w w' := by
  obtain ⟨A, cap, rfl, _⟩ := hu.form
  rw [← hc]; exact r3_checkI w A k.user.length cap k.seq.toNat k.kind.toNat (by omega)

/-- What stays as the walk goes on. -/
structure RInA (w wr : World) (Foot F : Nat → Prop) (R : Nat) (v z : Value) (es : List Ent) (hs : List Int) (u x : Value) (e : Ent) : Prop where
  ext : Ext w wr
  ref : RefE wr Foot R v z es hs
  bu : Bs wr F u e.key.user
  bx : Bs wr F x e.value
  box : wr.heap[w.heap.size]? = some (.cells #[u, u64V e.key.seq, byteV e.key.kind, x] 32)

variable {w wr w1 : World} {Foot F : Nat → Prop} {R : Nat} {v z : Value} {es : List Ent} {hs : List Int} {u x : Value} {e : Ent}
theorem RInA.step (h : RInA w wr Foot F R v z es hs u x e) (hx : Ext wr w1) : RInA w w1 Foot F R v z es hs u x e :=
  ⟨h.ext.ext hx, h.ref.ext hx, h.bu.ext hx, h.bx.ext hx, hx.blk h.box (fun f => f)⟩
theorem RInA.start (h : RefE w Foot R v z es hs) (hu : Bs w F u e.key.user) (hx : Bs w F x e.value) : RInA w (w.alloc (.cells #[u, u64V e.key.seq, byteV e.key.kind, x] 32)) Foot F R v z es hs u x e :=
  ⟨Ext.alloc1 w _, h.ext (Ext.alloc1 w _), hu.alloc _, hx.alloc _, blk_new w _⟩

set_option maxRecDepth 100000 in
theorem rin_nil (w : World) (u x : Value) (e : Ent) (h : Int) {F : Nat → Prop} (hu : Bs w F u e.key.user) (hx : Bs w F x e.value) :
    Calls Try.prog 40 #[.pointer none, .agg #[u, u64V e.key.seq, byteV e.key.kind, x], .int .i64 h] w fun r w' => r = .returned (.int .i64 6) ∧ Ext w w' := by
  obtain ⟨U, N, c, rfl⟩ := hu.form0
  obtain ⟨X, M, d, rfl⟩ := hx.form0
  clear hu hx
  go_enter Try.func40, Try.ntmps40
  go_wp2
  go_ret
  exact ⟨rfl, Ext.alloc1 w _⟩

set_option maxRecDepth 100000 in
set_option maxHeartbeats 1000000 in
theorem rin_key (h : RefE w Foot R v z es hs) (hu : Bs w F u e.key.user) (hx : Bs w F x e.value) (ht : Int) (hc : icheck e.key ≠ 0) :
    Calls Try.prog 40 #[.pointer (some ⟨R, 0, none⟩), .agg #[u, u64V e.key.seq, byteV e.key.kind, x], .int .i64 ht] w fun r w' => r = .returned (.int .i64 (icheck e.key)) ∧ Ext w w' := by
  obtain ⟨U, N, c, rfl⟩ := hu.form0
  obtain ⟨X, M, d, rfl⟩ := hx.form0
  have h0 := Lib.hid (RInA.start h hu hx)
  obtain ⟨b0, b1, b2, b3, -⟩ := cells4 h0.out.box
  generalize hcc : icheck e.key = cc at *
  have HC := Lib.hid hcc
  have hb : (cc != 0) = true := by simpa using hc
  have hb' : (cc == 0) = false := by simpa using hc
  clear h hu hx hcc hc
  go_enter Try.func40, Try.ntmps40
  go_wp2_with (go_at_call 102; refine (key_check3 _ e.key h0.out.bu cc HC.out).mono ?_; rintro r w1 ⟨rfl, hx1⟩)
  go_ret
  exact ⟨rfl, (h0.out.step hx1).ext⟩

set_option maxRecDepth 100000 in
set_option maxHeartbeats 1000000 in
theorem rin_height (h : RefE w Foot R v z es hs) (hu : Bs w F u e.key.user) (hx : Bs w F x e.value) (ht : Int) (hc : icheck e.key = 0) (hh : ht < 1 ∨ 8 < ht) :
    Calls Try.prog 40 #[.pointer (some ⟨R, 0, none⟩), .agg #[u, u64V e.key.seq, byteV e.key.kind, x], .int .i64 ht] w fun r w' => r = .returned (.int .i64 1) ∧ Ext w w' := by
  obtain ⟨U, N, c, rfl⟩ := hu.form0
  obtain ⟨X, M, d, rfl⟩ := hx.form0
  have h0 := Lib.hid (RInA.start h hu hx)
  obtain ⟨b0, b1, b2, b3, -⟩ := cells4 h0.out.box
  have HC := Lib.hid hc
  clear h hu hx hc
  by_cases h1 : ht < 1
  · clear hh
    go_enter Try.func40, Try.ntmps40
    go_wp2_with (go_at_call 102; refine (key_check3 _ e.key h0.out.bu 0 HC.out).mono ?_; rintro r w1 ⟨rfl, hx1⟩)
    go_ret
    exact ⟨rfl, (h0.out.step hx1).ext⟩
  · have h2 : 8 < ht := by omega
    clear hh
    go_enter Try.func40, Try.ntmps40
    go_wp2_with (go_at_call 102; refine (key_check3 _ e.key h0.out.bu 0 HC.out).mono ?_; rintro r w1 ⟨rfl, hx1⟩)
    go_ret
    exact ⟨rfl, (h0.out.step hx1).ext⟩

set_option maxRecDepth 100000 in
set_option maxHeartbeats 1000000 in
theorem rin_long (h : RefE w Foot R v z es hs) (hu : Bs w F u e.key.user) (hx : Bs w F x e.value) (ht : Int) (hc : icheck e.key = 0) (h1 : 1 ≤ ht) (h2 : ht ≤ 8) (hl : 512 < e.value.length) :
    Calls Try.prog 40 #[.pointer (some ⟨R, 0, none⟩), .agg #[u, u64V e.key.seq, byteV e.key.kind, x], .int .i64 ht] w fun r w' => r = .returned (.int .i64 3) ∧ Ext w w' := by
  obtain ⟨U, N, c, rfl⟩ := hu.form0
  obtain ⟨X, d, rfl, _⟩ := hx.form
  have h0 := Lib.hid (RInA.start h hu hx)
  obtain ⟨b0, b1, b2, b3, -⟩ := cells4 h0.out.box
  have HC := Lib.hid hc
  clear h hu hx hc
  go_enter Try.func40, Try.ntmps40
  go_wp2_with (go_at_call 102; refine (key_check3 _ e.key h0.out.bu 0 HC.out).mono ?_; rintro r w1 ⟨rfl, hx1⟩; obtain ⟨c0, c1, c2, c3, -⟩ := cells4 (h0.out.step hx1).box)
  go_ret
  exact ⟨rfl, (h0.out.step hx1).ext⟩

/-- Behind the first of the two rows. -/
structure MidR (w wx : World) (Foot : Nat → Prop) (R : Nat) (v z : Value) (es : List Ent) (hs : List Int) : Prop where
  out : Out (fun b => b = R) w wx
  blk : wx.heap[R]? = some (.cells #[v, z] 56)
  ents : Sl entC wx (fun b => (Foot b ∨ w.heap.size ≤ b) ∧ b ≠ R) v es
  hts : Sl intC wx (fun b => Foot b ∧ b ≠ R) z hs

theorem rin_mid {w10 : World} {A : List Ent} {C : List Ent} {x10 : Value} (hF : ∀ b, Foot b → b < w.heap.size) (h : RInA w wr Foot F R v z es hs u x e) (hx : Ext wr w10)
    (g : Own entC 32 w10 wr.heap.size (fun b => (Foot b ∧ b ≠ R) ∨ w.heap.size ≤ b) x10 (A ++ [e] ++ C)) (hl : (A ++ [e] ++ C).length ≤ big) :
    MidR w (w10.setCell ⟨R, 0, none⟩ x10) Foot R x10 z (A ++ e :: C) hs := by
  have hR := hF R h.ref.foot
  have hsz := h.ext.size
  have ho : Out (fun b => b = R) w10 (w10.setCell ⟨R, 0, none⟩ x10) := (Out.refl (fun b => b = R) w10).setCell (p := ⟨R, 0, none⟩) (fun _ => rfl) _
  refine ⟨(Ext.out (h.ext.ext hx) _).trans ho, ?_, ?_, ?_⟩
  · have := blk_set (hx.blk h.ref.blk (fun f => f)) 0 x10
    simpa using this
  · have h1 := g.sl (G := fun b => (Foot b ∨ w.heap.size ≤ b) ∧ b ≠ R) (by decide) hl (fun b hb _ => by
      rcases hb with hb | hb
      · exact ⟨.inl hb.1, hb.2⟩
      · exact ⟨.inr hb, by omega⟩) (fun b hb _ => ⟨.inr (by omega), by omega⟩)
    have h2 := h1.out ho (fun b _ hb e => hb.2 e)
    simpa using h2
  · exact (h.ref.hts.ext hx).out ho (fun b _ hb e => hb.2 e)

theorem rin_fin {wc w10 : World} {A C : List Int} {x10 : Value} {B : Nat} {t : Int} (hF : ∀ b, Foot b → b < w.heap.size) (hR : Foot R) (h : MidR w wc Foot R v z es hs) (hx : Ext wc w10) (hB : w.heap.size ≤ B)
    (g : Own intC 3 w10 B (fun b => (Foot b ∧ b ≠ R) ∨ w.heap.size ≤ b) x10 (A ++ [t] ++ C)) (hl : (A ++ t :: C).length = es.length) (hm : es.length ≤ 100000) :
    Out (fun b => b = R) w (w10.setCell ⟨R, 1, none⟩ x10) ∧ RefE (w10.setCell ⟨R, 1, none⟩ x10) (fun b => Foot b ∨ w.heap.size ≤ b) R v x10 es (A ++ t :: C) := by
  have hR' := hF R hR
  have ho : Out (fun b => b = R) w10 (w10.setCell ⟨R, 1, none⟩ x10) := (Out.refl (fun b => b = R) w10).setCell (p := ⟨R, 1, none⟩) (fun _ => rfl) _
  refine ⟨(h.out.ext hx).trans ho, ?_, .inl hR, (h.ents.ext hx).out ho (fun b _ hb e => hb.2 e), ?_, hl⟩
  · have := blk_set (hx.blk h.blk (fun f => f)) 1 x10
    simpa using this
  · have h1 := g.sl (G := fun b => (Foot b ∨ w.heap.size ≤ b) ∧ b ≠ R) (by decide) (by have : (A ++ [t] ++ C).length = (A ++ t :: C).length := by simp
                                                                                       rw [this, hl]; show _ ≤ 140737488355328; omega) (fun b hb _ => by
      rcases hb with hb | hb
      · exact ⟨.inl hb.1, hb.2⟩
      · exact ⟨.inr hb, by omega⟩) (fun b hb _ => ⟨.inr (by omega), by omega⟩)
    have h2 := h1.out ho (fun b _ hb e => hb.2 e)
    simpa using h2

set_option maxRecDepth 100000 in
set_option maxHeartbeats 2000000 in
theorem rin_in (h : RefE w Foot R v z es hs) (hF : ∀ b, Foot b → b < w.heap.size) (hF' : ∀ b, F b → b < w.heap.size) (hu : Bs w F u e.key.user) (hx : Bs w F x e.value) (ht : Int) (hc : icheck e.key = 0) (h1 : 1 ≤ ht) (h2 : ht ≤ 8) (hl : e.value.length ≤ 512) (hm : es.length < 90000) :
    Calls Try.prog 40 #[.pointer (some ⟨R, 0, none⟩), .agg #[u, u64V e.key.seq, byteV e.key.kind, x], .int .i64 ht] w fun r w' => (r = .returned (.int .i64 7) ∧ Ext w w' ∧ ∃ i ∈ es, i.key = e.key) ∨
      (r = .returned (.int .i64 0) ∧ (∀ i ∈ es, i.key ≠ e.key) ∧ Out (fun b => b = R) w w' ∧ ∃ v' z', RefE w' (fun b => Foot b ∨ w.heap.size ≤ b) R v' z' (es.take (aheadN es e.key) ++ e :: es.drop (aheadN es e.key)) (hs.take (aheadN es e.key) ++ ht :: hs.drop (aheadN es e.key))) := by
  obtain ⟨U, N, c, rfl⟩ := hu.form0
  obtain ⟨X, d, rfl, _⟩ := hx.form
  obtain ⟨A, n, rfl, hen, -⟩ := h.ents.form
  obtain ⟨Z, nz, rfl, hzn, -⟩ := h.hts.form
  have hle := h.len
  have h0 := Lib.hid (RInA.start h hu hx)
  obtain ⟨b0, b1, b2, b3, -⟩ := cells4 h0.out.box
  have HC := Lib.hid hc
  have Hlen := Lib.hid hle
  rw [hle] at h0 hzn
  clear h hu hx hc hle
  go_enter Try.func40, Try.ntmps40
  go_wp2_with (go_at_call 102; refine (key_check3 _ e.key h0.out.bu 0 HC.out).mono ?_; rintro r w1 ⟨rfl, hx1⟩; have i1 := Lib.hid (h0.out.step hx1); obtain ⟨c0, c1, c2, c3, -⟩ := cells4 i1.out.box; obtain ⟨r0, r1, rf⟩ := cells2 i1.out.ref.blk)
  go_loopw [34, 8] (fun s34 s8 wr => ∃ i : Nat, i ≤ es.length ∧ s34 = .int .i64 i ∧ s8 = .int .i64 (aheadN (es.take i) e.key : Nat) ∧ RInA w wr Foot F R (.slice A es.length n) (.slice Z es.length nz) es hs (.slice U N c) (.slice X e.value.length d) e ∧ ∀ j (h : j < es.length), j < i → es[j].key ≠ e.key) (fun s34 _ _ => es.length - (intOf s34).toNat)
  case atStart => exact ⟨0, Nat.zero_le _, rfl, rfl, i1.out, fun j _ h => absurd h (by omega)⟩
  case round =>
    obtain ⟨i, hi, rfl, rfl, hI, hb⟩ := hrel
    have HI := Lib.hid hI
    have Hb := Lib.hid hb
    clear hb
    by_cases hlt : i < es.length
    · obtain ⟨b1', o1, u1, v1, hA, -, d0, d1, d2, d3, hu, hv⟩ := hI.ref.ents.ent i hlt
      subst hA
      obtain ⟨V, n1, q1, rfl⟩ := hu.form0
      obtain ⟨Y, n2, q2, rfl⟩ := hv.form0
      have hz := blk_new wr (.cells #[.slice V n1 q1, u64V es[i].key.seq, byteV es[i].key.kind, .slice Y n2 q2] 32)
      obtain ⟨z0, z1, z2, z3, -⟩ := cells4 hz
      obtain ⟨k0, k1, k2, k3, -⟩ := cells4 (blk_alloc hI.box (.cells #[.slice V n1 q1, u64V es[i].key.seq, byteV es[i].key.kind, .slice Y n2 q2] 32))
      have HI2 := Lib.hid (hI.step (Ext.alloc1 wr (.cells #[.slice V n1 q1, u64V es[i].key.seq, byteV es[i].key.kind, .slice Y n2 q2] 32)))
      have Hz := Lib.hid hz
      have Hu2 := Lib.hid (hu.alloc (.cells #[.slice V n1 q1, u64V es[i].key.seq, byteV es[i].key.kind, .slice Y n2 q2] 32))
      have Hs := Lib.hid (aheadN_succ hlt e.key)
      have hal := aheadN_le (es.take i) e.key
      rw [List.length_take] at hal
      generalize aheadN (es.take i) e.key = cnt at *
      clear hu hv hz hI
      by_cases hsame : es[i].key = e.key
      · have hd : decide (es[i].key = e.key) = true := decide_eq_true hsame
        have Hsame := Lib.hid hsame
        clear hsame
        go_wp2_with (first | (go_at_call 31; refine (r3_same _ es[i].key e.key Hu2.out HI2.out.bu).mono ?_; rw [hd]; rintro r w6 ⟨rfl, hx6⟩))
        go_ret
        exact .inl ⟨rfl, HI2.out.ext.ext hx6, _, List.getElem_mem hlt, Hsame.out⟩
      · have hd : decide (es[i].key = e.key) = false := decide_eq_false hsame
        by_cases hkl : kless es[i].key e.key = true
        · go_wp2_with (first | (go_at_call 31; refine (r3_same _ es[i].key e.key Hu2.out HI2.out.bu).mono ?_; rw [hd]; rintro r w6 ⟨rfl, hx6⟩; obtain ⟨f0, f1, f2, f3, -⟩ := cells4 (hx6.blk Hz.out (fun f => f)); obtain ⟨g0, g1, g2, g3, -⟩ := cells4 (hx6.blk HI2.out.box (fun f => f))) | (go_at_call 60; refine (r3_less _ es[i].key e.key (Hu2.out.ext hx6) (HI2.out.bu.ext hx6)).mono ?_; rw [hkl]; rintro r w7 ⟨rfl, hx7⟩))
          go_roundw
          case rel => exact ⟨i + 1, by omega, by go_num, by rw [Hs.out, if_pos hkl]; go_num, (HI2.out.step hx6).step hx7, fun j h hj => by
            by_cases e' : j = i
            · subst e'; exact hsame
            · exact Hb.out j h (by omega)⟩
          case measure => simp [intOf]; omega
        · have hkl' : kless es[i].key e.key = false := by simpa using hkl
          go_wp2_with (first | (go_at_call 31; refine (r3_same _ es[i].key e.key Hu2.out HI2.out.bu).mono ?_; rw [hd]; rintro r w6 ⟨rfl, hx6⟩; obtain ⟨f0, f1, f2, f3, -⟩ := cells4 (hx6.blk Hz.out (fun f => f)); obtain ⟨g0, g1, g2, g3, -⟩ := cells4 (hx6.blk HI2.out.box (fun f => f))) | (go_at_call 60; refine (r3_less _ es[i].key e.key (Hu2.out.ext hx6) (HI2.out.bu.ext hx6)).mono ?_; rw [hkl']; rintro r w7 ⟨rfl, hx7⟩))
          go_roundw
          case rel => exact ⟨i + 1, by omega, by go_num, by rw [Hs.out, if_neg hkl]; go_num, (HI2.out.step hx6).step hx7, fun j h hj => by
            by_cases e' : j = i
            · subst e'; exact hsame
            · exact Hb.out j h (by omega)⟩
          case measure => simp [intOf]; omega
    · obtain rfl : i = es.length := by omega
      rw [List.take_length]
      have hal := aheadN_le es e.key
      generalize hcn : aheadN es e.key = cnt at *
      have Hcn := Lib.hid hcn
      obtain ⟨r0, r1, rf⟩ := cells2 hI.ref.blk
      obtain ⟨e0, e1, e2, e3, -⟩ := cells4 hI.box
      have hws := hI.ext.size
      have hbl := blk_lt hI.box
      have hRlt := hF R hI.ref.foot
      have hi1 : (0 : Int) ≤ (cnt : Int) := by omega
      have hi2 : (cnt : Int) ≤ (n : Int) := by omega
      have hi3 : (cnt : Int) ≤ (es.length : Int) := by omega
      have HT := Lib.hid (hI.ref.ents.take cnt hal)
      have HD := Lib.hid (hI.ref.ents.drop cnt hal)
      have HO := Lib.hid (Own.empty entC 32 wr (fun b => (Foot b ∧ b ≠ R) ∨ w.heap.size ≤ b))
      have htl : (es.take cnt).length = cnt := List.length_take_of_le hal
      have hdl : (es.drop cnt).length = es.length - cnt := List.length_drop
      have Htl := Lib.hid htl
      have Hdl := Lib.hid hdl
      clear hI htl hdl hcn
      go_wp2
      go_cut [70] (fun s70 wx => ∃ v', MidR w wx Foot R v' (.slice Z es.length nz) (es.take cnt ++ e :: es.drop cnt) hs)
      case first =>
        refine region_B 22 (fun w' => w'.cell? ⟨R, 0, none⟩ = some (.slice A es.length n) ∧ w'.cell? ⟨w.heap.size, 0, none⟩ = some (.slice U N c) ∧ w'.cell? ⟨w.heap.size, 1, none⟩ = some (u64V e.key.seq) ∧ w'.cell? ⟨w.heap.size, 2, none⟩ = some (byteV e.key.kind) ∧ w'.cell? ⟨w.heap.size, 3, none⟩ = some (.slice X e.value.length d)) (by kernel_rfl) ?q40_19S (fun hHeld0 => ?_)
        case q40_19S => ((first | go_keep | ((try dsimp only); exact ⟨by assumption, by assumption, by assumption, by assumption, by assumption⟩)))
        refine anyB_take (i := 0) (oi := _) (v := ?q40_19v1) rfl (by kernel_rfl) (by kernel_rfl) (by kernel_rfl) (by kernel_rfl) (fun _ _ _ h => h) (Or.inl ⟨by rfl, ?q40_19h1⟩) (by assumption) ?q40_19r1
        case q40_19h1 => (intro w hSw; (try dsimp only at hSw); go_simp; try with_reducible rfl)
        (try simp only [List.getElem_toArray, List.getElem_cons_succ, List.getElem_cons_zero, Act.put, List.setIfInBounds_toArray, List.set_cons_zero, List.set_cons_succ])
        refine anyB_take (i := 2) (oi := _) (v := ?q40_19v2) rfl (by kernel_rfl) (by kernel_rfl) (by kernel_rfl) (by kernel_rfl) (fun _ _ _ h => h) (Or.inl ⟨by rfl, ?q40_19h2⟩) (by assumption) ?q40_19r2
        case q40_19h2 => (intro w hSw; (try dsimp only at hSw); go_simp; try with_reducible rfl)
        (try simp only [List.getElem_toArray, List.getElem_cons_succ, List.getElem_cons_zero, Act.put, List.setIfInBounds_toArray, List.set_cons_zero, List.set_cons_succ])
        refine anyB_take (i := 3) (oi := _) (v := ?q40_19v3) rfl (by kernel_rfl) (by kernel_rfl) (by kernel_rfl) (by kernel_rfl) (fun _ _ _ h => h) (Or.inl ⟨by rfl, ?q40_19h3⟩) (by assumption) ?q40_19r3
        case q40_19h3 => (intro w hSw; (try dsimp only at hSw); go_simp; try with_reducible rfl)
        (try simp only [List.getElem_toArray, List.getElem_cons_succ, List.getElem_cons_zero, Act.put, List.setIfInBounds_toArray, List.set_cons_zero, List.set_cons_succ])
        refine anyB_take (i := 4) (oi := _) (v := ?q40_19v4) rfl (by kernel_rfl) (by kernel_rfl) (by kernel_rfl) (by kernel_rfl) (fun _ _ _ h => h) (Or.inl ⟨by rfl, ?q40_19h4⟩) (by assumption) ?q40_19r4
        case q40_19h4 => (intro w hSw; (try dsimp only at hSw); go_simp; try with_reducible rfl)
        (try simp only [List.getElem_toArray, List.getElem_cons_succ, List.getElem_cons_zero, Act.put, List.setIfInBounds_toArray, List.set_cons_zero, List.set_cons_succ])
        refine anyB_take (i := 5) (oi := _) (v := ?q40_19v5) rfl (by kernel_rfl) (by kernel_rfl) (by kernel_rfl) (by kernel_rfl) (fun _ _ _ h => h) (Or.inl ⟨by rfl, ?q40_19h5⟩) (by assumption) ?q40_19r5
        case q40_19h5 => (intro w hSw; (try dsimp only at hSw); go_simp; try with_reducible rfl)
        (try simp only [List.getElem_toArray, List.getElem_cons_succ, List.getElem_cons_zero, Act.put, List.setIfInBounds_toArray, List.set_cons_zero, List.set_cons_succ])
        refine anyB_take (i := 6) (oi := _) (v := ?q40_19v6) rfl (by kernel_rfl) (by kernel_rfl) (by kernel_rfl) (by kernel_rfl) (fun _ _ _ h => h) (Or.inl ⟨by rfl, ?q40_19h6⟩) (by assumption) ?q40_19r6
        case q40_19h6 => (intro w hSw; (try dsimp only at hSw); go_simp; try with_reducible rfl)
        (try simp only [List.getElem_toArray, List.getElem_cons_succ, List.getElem_cons_zero, Act.put, List.setIfInBounds_toArray, List.set_cons_zero, List.set_cons_succ])
        refine anyB_take (i := 7) (oi := _) (v := ?q40_19v7) rfl (by kernel_rfl) (by kernel_rfl) (by kernel_rfl) (by kernel_rfl) (fun _ _ _ h => h) (Or.inl ⟨by rfl, ?q40_19h7⟩) (by assumption) ?q40_19r7
        case q40_19h7 => (intro w hSw; (try dsimp only at hSw); go_simp; try with_reducible rfl)
        (try simp only [List.getElem_toArray, List.getElem_cons_succ, List.getElem_cons_zero, Act.put, List.setIfInBounds_toArray, List.set_cons_zero, List.set_cons_succ])
        refine anyB_take (i := 9) (oi := _) (v := ?q40_19v8) rfl (by kernel_rfl) (by kernel_rfl) (by kernel_rfl) (by kernel_rfl) (fun _ _ _ h => h) (Or.inl ⟨by rfl, ?q40_19h8⟩) (by assumption) ?q40_19r8
        case q40_19h8 => (intro w hSw; (try dsimp only at hSw); go_simp; try with_reducible rfl)
        (try simp only [List.getElem_toArray, List.getElem_cons_succ, List.getElem_cons_zero, Act.put, List.setIfInBounds_toArray, List.set_cons_zero, List.set_cons_succ])
        refine anyB_take (i := 13) (oi := _) (v := ?q40_19v9) rfl (by kernel_rfl) (by kernel_rfl) (by kernel_rfl) (by kernel_rfl) (fun _ _ _ h => h) (Or.inl ⟨by rfl, ?q40_19h9⟩) (by assumption) ?q40_19r9
        case q40_19h9 => (intro w hSw; (try dsimp only at hSw); go_simp; try with_reducible rfl)
        (try simp only [List.getElem_toArray, List.getElem_cons_succ, List.getElem_cons_zero, Act.put, List.setIfInBounds_toArray, List.set_cons_zero, List.set_cons_succ])
        refine anyB_take (i := 14) (oi := _) (v := ?q40_19v10) rfl (by kernel_rfl) (by kernel_rfl) (by kernel_rfl) (by kernel_rfl) (fun _ _ _ h => h) (Or.inl ⟨by rfl, ?q40_19h10⟩) (by assumption) ?q40_19r10
        case q40_19h10 => (intro w hSw; (try dsimp only at hSw); go_simp; try with_reducible rfl)
        (try simp only [List.getElem_toArray, List.getElem_cons_succ, List.getElem_cons_zero, Act.put, List.setIfInBounds_toArray, List.set_cons_zero, List.set_cons_succ])
        refine anyB_take (i := 15) (oi := _) (v := ?q40_19v11) rfl (by kernel_rfl) (by kernel_rfl) (by kernel_rfl) (by kernel_rfl) (fun _ _ _ h => h) (Or.inl ⟨by rfl, ?q40_19h11⟩) (by assumption) ?q40_19r11
        case q40_19h11 => (intro w hSw; (try dsimp only at hSw); go_simp; try with_reducible rfl)
        (try simp only [List.getElem_toArray, List.getElem_cons_succ, List.getElem_cons_zero, Act.put, List.setIfInBounds_toArray, List.set_cons_zero, List.set_cons_succ])
        refine anyB_take (i := 16) (oi := _) (v := ?q40_19v12) rfl (by kernel_rfl) (by kernel_rfl) (by kernel_rfl) (by kernel_rfl) (fun _ _ _ h => h) (Or.inl ⟨by rfl, ?q40_19h12⟩) (by assumption) ?q40_19r12
        case q40_19h12 => (intro w hSw; (try dsimp only at hSw); go_simp; try with_reducible rfl)
        (try simp only [List.getElem_toArray, List.getElem_cons_succ, List.getElem_cons_zero, Act.put, List.setIfInBounds_toArray, List.set_cons_zero, List.set_cons_succ])
        refine anyB_take (i := 17) (oi := _) (v := ?q40_19v13) rfl (by kernel_rfl) (by kernel_rfl) (by kernel_rfl) (by kernel_rfl) (fun _ _ _ h => h) (Or.inl ⟨by rfl, ?q40_19h13⟩) (by assumption) ?q40_19r13
        case q40_19h13 => (intro w hSw; (try dsimp only at hSw); go_simp; try with_reducible rfl)
        (try simp only [List.getElem_toArray, List.getElem_cons_succ, List.getElem_cons_zero, Act.put, List.setIfInBounds_toArray, List.set_cons_zero, List.set_cons_succ])
        refine anyB_take (i := 18) (oi := _) (v := ?q40_19v14) rfl (by kernel_rfl) (by kernel_rfl) (by kernel_rfl) (by kernel_rfl) (fun _ _ _ h => h) (Or.inl ⟨by rfl, ?q40_19h14⟩) (by assumption) ?q40_19r14
        case q40_19h14 => (intro w hSw; (try dsimp only at hSw); go_simp; try with_reducible rfl)
        (try simp only [List.getElem_toArray, List.getElem_cons_succ, List.getElem_cons_zero, Act.put, List.setIfInBounds_toArray, List.set_cons_zero, List.set_cons_succ])
        refine anyB_step (i := 1) (o := _) (by kernel_rfl) (by rfl) (by (simp only [List.getElem?_toArray, List.getElem?_cons_succ, List.getElem?_cons_zero] <;> rfl)) (fun K hK => ?_)
        go_simp
        refine hK.out _ _ ?q40_19S15 (fun hHeld1 => ?_)
        case q40_19S15 => ((first | go_keep | ((try dsimp only); exact ⟨by assumption, by assumption, by assumption, by assumption, by assumption⟩)))
        clear hK K hHeld0
        (try simp only [List.getElem_toArray, List.getElem_cons_succ, List.getElem_cons_zero, Act.put, List.setIfInBounds_toArray, List.set_cons_zero, List.set_cons_succ])
        refine anyB_step (i := 8) (o := _) (by kernel_rfl) (by rfl) (by (simp only [List.getElem?_toArray, List.getElem?_cons_succ, List.getElem?_cons_zero] <;> rfl)) (fun K hK => ?_)
        refine stp_append_sl (by rfl) (.tmp 52) (.tmp 58) 43 (by rfl) fits32 (HO.out.ext (by repeat' (first | exact Out.refl _ _ | refine Out.drew ?_))) (by rfl) (by simp) (HT.out.ext (by repeat' (first | exact Out.refl _ _ | refine Out.drew ?_ | refine Out.alloc ?_ _))) (by rfl) (fun i hi cs hc => entC.mono hc (fun b hb hlb => ⟨.inl hb, fun e => by simp [Value.ownBlock] at e; have := hF b hb.1; omega⟩)) (by rw [Htl.out, List.length_nil]; omega) (by decide) ?_; intro v7 w7 g1 g2 g3; (rw [List.nil_append] at g1); obtain ⟨A7, k7, m7, rfl⟩ := g1.form0; have G1 := Lib.hid g1; have G3 := Lib.hid g3; have HX7 : Hid (Ext wr w7) := Lib.hid (Out.then (by repeat' (first | exact Out.refl _ _ | refine Out.drew ?_ | refine Out.alloc ?_ _)) g2 (fun i hi e => by simp [Value.ownBlock] at e; omega)); have I7 := Lib.hid (HI.out.step HX7.out); obtain ⟨rb0, rb1, rbf⟩ := cells2 I7.out.ref.blk; obtain ⟨eb0, eb1, eb2, eb3, -⟩ := cells4 I7.out.box; clear g1 g2 g3
        refine hK.out _ _ ?q40_19S16 (fun hHeld2 => ?_)
        case q40_19S16 => ((first | go_keep | ((try dsimp only); exact ⟨by assumption, by assumption, by assumption, by assumption, by assumption⟩)))
        clear hK K hHeld1
        (try simp only [List.getElem_toArray, List.getElem_cons_succ, List.getElem_cons_zero, Act.put, List.setIfInBounds_toArray, List.set_cons_zero, List.set_cons_succ])
        refine anyB_step (i := 10) (o := _) (by kernel_rfl) (by rfl) (by (simp only [List.getElem?_toArray, List.getElem?_cons_succ, List.getElem?_cons_zero] <;> rfl)) (fun K hK => ?_)
        go_simp; go_at_call 39; refine (r3_twin _ e I7.out.bu I7.out.bx).mono ?_; rintro r w8 ⟨u8, v8, rfl, hx8, hb1, hb2⟩; obtain ⟨U8, ku8, mu8, rfl⟩ := hb1.form0; obtain ⟨V8, kv8, mv8, rfl⟩ := hb2.form0; have I8 := Lib.hid (I7.out.step hx8); have Hb1 := Lib.hid hb1; have Hb2 := Lib.hid hb2; have G8 := Lib.hid (G1.out.ext hx8); obtain ⟨rc0, rc1, rcf⟩ := cells2 I8.out.ref.blk; obtain ⟨ec0, ec1, ec2, ec3, -⟩ := cells4 I8.out.box; clear hb1 hb2
        (try dsimp only)
        refine hK.out _ _ ?q40_19S17 (fun hHeld3 => ?_)
        case q40_19S17 => ((first | go_keep | ((try dsimp only); exact ⟨by assumption, by assumption, by assumption, by assumption, by assumption⟩)))
        clear hK K hHeld2
        (try simp only [List.getElem_toArray, List.getElem_cons_succ, List.getElem_cons_zero, Act.put, List.setIfInBounds_toArray, List.set_cons_zero, List.set_cons_succ])
        refine anyB_step (i := 11) (o := _) (by kernel_rfl) (by rfl) (by (simp only [List.getElem?_toArray, List.getElem?_cons_succ, List.getElem?_cons_zero] <;> rfl)) (fun K hK => ?_)
        go_simp
        refine hK.out _ _ ?q40_19S18 (fun hHeld4 => ?_)
        case q40_19S18 => ((first | go_keep | ((try dsimp only); exact ⟨by assumption, by assumption, by assumption, by assumption, by assumption⟩)))
        clear hK K hHeld3
        (try simp only [List.getElem_toArray, List.getElem_cons_succ, List.getElem_cons_zero, Act.put, List.setIfInBounds_toArray, List.set_cons_zero, List.set_cons_succ])
        refine anyB_step (i := 12) (o := _) (by kernel_rfl) (by rfl) (by (simp only [List.getElem?_toArray, List.getElem?_cons_succ, List.getElem?_cons_zero] <;> rfl)) (fun K hK => ?_)
        have hz8 := hx8.size; have hz7 := HX7.out.size; refine step_append_one (by rfl) (.tmp 59) (.tmp 62) 43 (by rfl) fits32 (G8.out.ext (Ext.alloc1 _ _)) (by rfl) (by simp; omega) (blk_new _ _) (by rfl) e ⟨_, _, rfl, (Hb1.out.alloc _).mono (fun b hb _ => ⟨.inr (by omega), (fresh_ok hz7 G1.out.lt hb).2⟩) (.inl (by decide)), (Hb2.out.alloc _).mono (fun b hb _ => ⟨.inr (by omega), (fresh_ok hz7 G1.out.lt hb).2⟩) (.inl (by decide))⟩ (by rw [Htl.out]; omega) (by decide) ?_; intro v9 w9 g1 g2 g3; obtain ⟨A9, k9, m9, rfl⟩ := g1.form0; have G9 := Lib.hid g1; have HX9 : Hid (Ext wr w9) := Lib.hid (((HX7.out.ext hx8).alloc _).then g2 (fun i hi e => by have := (G1.out.lt i e).1; omega)); have I9 := Lib.hid (HI.out.step HX9.out); obtain ⟨rd0, rd1, rdf⟩ := cells2 I9.out.ref.blk; obtain ⟨ed0, ed1, ed2, ed3, -⟩ := cells4 I9.out.box; clear g1 g2 g3
        refine hK.out _ _ ?q40_19S19 (fun hHeld5 => ?_)
        case q40_19S19 => ((first | go_keep | ((try dsimp only); exact ⟨by assumption, by assumption, by assumption, by assumption, by assumption⟩)))
        clear hK K hHeld4
        (try simp only [List.getElem_toArray, List.getElem_cons_succ, List.getElem_cons_zero, Act.put, List.setIfInBounds_toArray, List.set_cons_zero, List.set_cons_succ])
        refine anyB_step (i := 19) (o := _) (by kernel_rfl) (by rfl) (by (simp only [List.getElem?_toArray, List.getElem?_cons_succ, List.getElem?_cons_zero] <;> rfl)) (fun K hK => ?_)
        refine stp_append_sl (by rfl) (.tmp 63) (.tmp 69) 43 (by rfl) fits32 G9.out (by rfl) HX9.out.size (HD.out.ext HX9.out) (by rfl) (fun i hi cs hc => entC.mono hc (fun b hb hlb => ⟨.inl hb, fun e => by have := (G9.out.lt b e).1; have := hF b hb.1; omega⟩)) (by rw [List.length_append, Htl.out, Hdl.out]; simp; omega) (by decide) ?_; intro v10 w10 g1 g2 g3; obtain ⟨A10, k10, m10, rfl⟩ := g1.form0; have G10 := Lib.hid g1; have HX10 : Hid (Ext wr w10) := Lib.hid (HX9.out.then g2 (fun i hi e => by have := (G9.out.lt i e).1; omega)); have I10 := Lib.hid (HI.out.step HX10.out); obtain ⟨re0, re1, ref⟩ := cells2 I10.out.ref.blk; obtain ⟨ee0, ee1, ee2, ee3, -⟩ := cells4 I10.out.box; clear g1 g2 g3
        refine hK.out _ _ ?q40_19S20 (fun hHeld6 => ?_)
        case q40_19S20 => ((first | go_keep | ((try dsimp only); exact ⟨by assumption, by assumption, by assumption, by assumption, by assumption⟩)))
        clear hK K hHeld5
        (try simp only [List.getElem_toArray, List.getElem_cons_succ, List.getElem_cons_zero, Act.put, List.setIfInBounds_toArray, List.set_cons_zero, List.set_cons_succ])
        refine anyB_step (i := 20) (o := _) (by kernel_rfl) (by rfl) (by (simp only [List.getElem?_toArray, List.getElem?_cons_succ, List.getElem?_cons_zero] <;> rfl)) (fun K hK => ?_)
        go_simp
        refine hK.out _ _ ?q40_19S21 (fun hHeld7 => ?_)
        case q40_19S21 => ((first | go_keep | ((try dsimp only); exact ⟨by assumption, by assumption, by assumption, by assumption, by assumption⟩)))
        clear hK K hHeld6
        (try simp only [List.getElem_toArray, List.getElem_cons_succ, List.getElem_cons_zero, Act.put, List.setIfInBounds_toArray, List.set_cons_zero, List.set_cons_succ])
        refine anyB_take (i := 21) (oi := _) (v := ?q40_19v22) rfl (by kernel_rfl) (by kernel_rfl) (by kernel_rfl) (by kernel_rfl) (fun _ _ _ h => h) (Or.inl ⟨by rfl, ?q40_19h22⟩) (by assumption) ?q40_19r22
        case q40_19h22 => (intro w hSw; (try dsimp only at hSw); go_simp; try with_reducible rfl)
        (try simp only [List.getElem_toArray, List.getElem_cons_succ, List.getElem_cons_zero, Act.put, List.setIfInBounds_toArray, List.set_cons_zero, List.set_cons_succ])
        refine anyB_last (i := 22) (o := _) (by kernel_rfl) (by rfl) (by (simp only [List.getElem?_toArray, List.getElem?_cons_succ, List.getElem?_cons_zero] <;> rfl)) (fun K hK => ?_)
        go_simp
        refine hK.out _ _ ?_
        clear hK K
        (try simp only [List.getElem_toArray, List.getElem_cons_succ, List.getElem_cons_zero, Act.put, List.setIfInBounds_toArray, List.set_cons_zero, List.set_cons_succ])
        refine anyB_done (by kernel_rfl) ?_ _
        generalize (if n = cnt then A else Option.map (fun x => x.add (cnt * 4)) A) = AD
        go_wp2
        go_meet
        exact ⟨_, rin_mid hF HI.out HX10.out G10.out (by rw [List.length_append, List.length_append, Htl.out, Hdl.out]; simp; unfold big; omega)⟩
      case rest =>
        obtain ⟨v', hM⟩ := hcut
        have HM := Lib.hid hM
        have HR := Lib.hid HI.out.ref.foot
        obtain ⟨r0, r1, rf⟩ := cells2 hM.blk
        have hws := hM.out.size
        have hzl : hs.length = es.length := Hlen.out
        have HT := Lib.hid (hM.hts.take cnt (by omega))
        have hd := hM.hts.drop cnt (by omega)
        rw [show cnt * intC.size = cnt from Nat.mul_one _] at hd
        have HD := Lib.hid hd
        have HO := Lib.hid (Own.empty intC 3 wc (fun b => (Foot b ∧ b ≠ R) ∨ w.heap.size ≤ b))
        have ho2 := Own.empty intC 3 (wc.alloc (.cells #[.int .i64 ht] 3)) (fun b => (Foot b ∧ b ≠ R) ∨ w.heap.size ≤ b)
        simp only [World.size_alloc] at ho2
        have HO2 := Lib.hid ho2
        have htl : (hs.take cnt).length = cnt := List.length_take_of_le (by omega)
        have hdl : (hs.drop cnt).length = es.length - cnt := by rw [List.length_drop, hzl]
        have hi4 : (cnt : Int) ≤ (nz : Int) := by omega
        have Htl := Lib.hid htl
        have Hdl := Lib.hid hdl
        clear hM htl hdl hzl ho2 hd
        go_wp2
        refine region_B 21 (fun w' => w'.cell? ⟨R, 1, none⟩ = some (.slice Z es.length nz)) (by kernel_rfl) ?q40_20S (fun hHeld0 => ?_)
        case q40_20S => ((first | go_keep | ((try dsimp only); assumption)))
        refine anyB_take (i := 0) (oi := _) (v := ?q40_20v1) rfl (by kernel_rfl) (by kernel_rfl) (by kernel_rfl) (by kernel_rfl) (fun _ _ _ h => h) (Or.inl ⟨by rfl, ?q40_20h1⟩) (by assumption) ?q40_20r1
        case q40_20h1 => (intro w hSw; (try dsimp only at hSw); go_simp; try with_reducible rfl)
        (try simp only [List.getElem_toArray, List.getElem_cons_succ, List.getElem_cons_zero, Act.put, List.setIfInBounds_toArray, List.set_cons_zero, List.set_cons_succ])
        refine anyB_take (i := 2) (oi := _) (v := ?q40_20v2) rfl (by kernel_rfl) (by kernel_rfl) (by kernel_rfl) (by kernel_rfl) (fun _ _ _ h => h) (Or.inl ⟨by rfl, ?q40_20h2⟩) (by assumption) ?q40_20r2
        case q40_20h2 => (intro w hSw; (try dsimp only at hSw); go_simp; try with_reducible rfl)
        (try simp only [List.getElem_toArray, List.getElem_cons_succ, List.getElem_cons_zero, Act.put, List.setIfInBounds_toArray, List.set_cons_zero, List.set_cons_succ])
        refine anyB_take (i := 3) (oi := _) (v := ?q40_20v3) rfl (by kernel_rfl) (by kernel_rfl) (by kernel_rfl) (by kernel_rfl) (fun _ _ _ h => h) (Or.inl ⟨by rfl, ?q40_20h3⟩) (by assumption) ?q40_20r3
        case q40_20h3 => (intro w hSw; (try dsimp only at hSw); go_simp; try with_reducible rfl)
        (try simp only [List.getElem_toArray, List.getElem_cons_succ, List.getElem_cons_zero, Act.put, List.setIfInBounds_toArray, List.set_cons_zero, List.set_cons_succ])
        refine anyB_take (i := 4) (oi := _) (v := ?q40_20v4) rfl (by kernel_rfl) (by kernel_rfl) (by kernel_rfl) (by kernel_rfl) (fun _ _ _ h => h) (Or.inl ⟨by rfl, ?q40_20h4⟩) (by assumption) ?q40_20r4
        case q40_20h4 => (intro w hSw; (try dsimp only at hSw); go_simp; try with_reducible rfl)
        (try simp only [List.getElem_toArray, List.getElem_cons_succ, List.getElem_cons_zero, Act.put, List.setIfInBounds_toArray, List.set_cons_zero, List.set_cons_succ])
        refine anyB_take (i := 5) (oi := _) (v := ?q40_20v5) rfl (by kernel_rfl) (by kernel_rfl) (by kernel_rfl) (by kernel_rfl) (fun _ _ _ h => h) (Or.inl ⟨by rfl, ?q40_20h5⟩) (by assumption) ?q40_20r5
        case q40_20h5 => (intro w hSw; (try dsimp only at hSw); go_simp; try with_reducible rfl)
        (try simp only [List.getElem_toArray, List.getElem_cons_succ, List.getElem_cons_zero, Act.put, List.setIfInBounds_toArray, List.set_cons_zero, List.set_cons_succ])
        refine anyB_take (i := 6) (oi := _) (v := ?q40_20v6) rfl (by kernel_rfl) (by kernel_rfl) (by kernel_rfl) (by kernel_rfl) (fun _ _ _ h => h) (Or.inl ⟨by rfl, ?q40_20h6⟩) (by assumption) ?q40_20r6
        case q40_20h6 => (intro w hSw; (try dsimp only at hSw); go_simp; try with_reducible rfl)
        (try simp only [List.getElem_toArray, List.getElem_cons_succ, List.getElem_cons_zero, Act.put, List.setIfInBounds_toArray, List.set_cons_zero, List.set_cons_succ])
        refine anyB_take (i := 7) (oi := _) (v := ?q40_20v7) rfl (by kernel_rfl) (by kernel_rfl) (by kernel_rfl) (by kernel_rfl) (fun _ _ _ h => h) (Or.inl ⟨by rfl, ?q40_20h7⟩) (by assumption) ?q40_20r7
        case q40_20h7 => (intro w hSw; (try dsimp only at hSw); go_simp; try with_reducible rfl)
        (try simp only [List.getElem_toArray, List.getElem_cons_succ, List.getElem_cons_zero, Act.put, List.setIfInBounds_toArray, List.set_cons_zero, List.set_cons_succ])
        refine anyB_take (i := 9) (oi := _) (v := ?q40_20v8) rfl (by kernel_rfl) (by kernel_rfl) (by kernel_rfl) (by kernel_rfl) (fun _ _ _ h => h) (Or.inl ⟨by rfl, ?q40_20h8⟩) (by assumption) ?q40_20r8
        case q40_20h8 => (intro w hSw; (try dsimp only at hSw); go_simp; try with_reducible rfl)
        (try simp only [List.getElem_toArray, List.getElem_cons_succ, List.getElem_cons_zero, Act.put, List.setIfInBounds_toArray, List.set_cons_zero, List.set_cons_succ])
        refine anyB_take (i := 12) (oi := _) (v := ?q40_20v9) rfl (by kernel_rfl) (by kernel_rfl) (by kernel_rfl) (by kernel_rfl) (fun _ _ _ h => h) (Or.inl ⟨by rfl, ?q40_20h9⟩) (by assumption) ?q40_20r9
        case q40_20h9 => (intro w hSw; (try dsimp only at hSw); go_simp; try with_reducible rfl)
        (try simp only [List.getElem_toArray, List.getElem_cons_succ, List.getElem_cons_zero, Act.put, List.setIfInBounds_toArray, List.set_cons_zero, List.set_cons_succ])
        refine anyB_take (i := 13) (oi := _) (v := ?q40_20v10) rfl (by kernel_rfl) (by kernel_rfl) (by kernel_rfl) (by kernel_rfl) (fun _ _ _ h => h) (Or.inl ⟨by rfl, ?q40_20h10⟩) (by assumption) ?q40_20r10
        case q40_20h10 => (intro w hSw; (try dsimp only at hSw); go_simp; try with_reducible rfl)
        (try simp only [List.getElem_toArray, List.getElem_cons_succ, List.getElem_cons_zero, Act.put, List.setIfInBounds_toArray, List.set_cons_zero, List.set_cons_succ])
        refine anyB_take (i := 14) (oi := _) (v := ?q40_20v11) rfl (by kernel_rfl) (by kernel_rfl) (by kernel_rfl) (by kernel_rfl) (fun _ _ _ h => h) (Or.inl ⟨by rfl, ?q40_20h11⟩) (by assumption) ?q40_20r11
        case q40_20h11 => (intro w hSw; (try dsimp only at hSw); go_simp; try with_reducible rfl)
        (try simp only [List.getElem_toArray, List.getElem_cons_succ, List.getElem_cons_zero, Act.put, List.setIfInBounds_toArray, List.set_cons_zero, List.set_cons_succ])
        refine anyB_take (i := 15) (oi := _) (v := ?q40_20v12) rfl (by kernel_rfl) (by kernel_rfl) (by kernel_rfl) (by kernel_rfl) (fun _ _ _ h => h) (Or.inl ⟨by rfl, ?q40_20h12⟩) (by assumption) ?q40_20r12
        case q40_20h12 => (intro w hSw; (try dsimp only at hSw); go_simp; try with_reducible rfl)
        (try simp only [List.getElem_toArray, List.getElem_cons_succ, List.getElem_cons_zero, Act.put, List.setIfInBounds_toArray, List.set_cons_zero, List.set_cons_succ])
        refine anyB_take (i := 16) (oi := _) (v := ?q40_20v13) rfl (by kernel_rfl) (by kernel_rfl) (by kernel_rfl) (by kernel_rfl) (fun _ _ _ h => h) (Or.inl ⟨by rfl, ?q40_20h13⟩) (by assumption) ?q40_20r13
        case q40_20h13 => (intro w hSw; (try dsimp only at hSw); go_simp; try with_reducible rfl)
        (try simp only [List.getElem_toArray, List.getElem_cons_succ, List.getElem_cons_zero, Act.put, List.setIfInBounds_toArray, List.set_cons_zero, List.set_cons_succ])
        refine anyB_take (i := 17) (oi := _) (v := ?q40_20v14) rfl (by kernel_rfl) (by kernel_rfl) (by kernel_rfl) (by kernel_rfl) (fun _ _ _ h => h) (Or.inl ⟨by rfl, ?q40_20h14⟩) (by assumption) ?q40_20r14
        case q40_20h14 => (intro w hSw; (try dsimp only at hSw); go_simp; try with_reducible rfl)
        (try simp only [List.getElem_toArray, List.getElem_cons_succ, List.getElem_cons_zero, Act.put, List.setIfInBounds_toArray, List.set_cons_zero, List.set_cons_succ])
        refine anyB_two (i := 1) (j := 10) (oi := _) (oj := _) (by kernel_rfl) (by rfl) (by rfl) (by (simp only [List.getElem?_toArray, List.getElem?_cons_succ, List.getElem?_cons_zero] <;> rfl)) (by (simp only [List.getElem?_toArray, List.getElem?_cons_succ, List.getElem?_cons_zero] <;> rfl)) (fun K hK => ?q40_20x15) (fun K hK => ?q40_20y15)
        case q40_20x15 =>
          go_simp
          refine hK.out _ _ ?q40_20S16 (fun hHeld1 => ?_)
          case q40_20S16 => ((first | go_keep | ((try dsimp only); assumption)))
          clear hK K hHeld0
          (try simp only [List.getElem_toArray, List.getElem_cons_succ, List.getElem_cons_zero, Act.put, List.setIfInBounds_toArray, List.set_cons_zero, List.set_cons_succ])
          refine anyB_two (i := 8) (j := 10) (oi := _) (oj := _) (by kernel_rfl) (by rfl) (by rfl) (by (simp only [List.getElem?_toArray, List.getElem?_cons_succ, List.getElem?_cons_zero] <;> rfl)) (by (simp only [List.getElem?_toArray, List.getElem?_cons_succ, List.getElem?_cons_zero] <;> rfl)) (fun K hK => ?q40_20x17) (fun K hK => ?q40_20y17)
          case q40_20x17 =>
            refine stp_append_sl (by rfl) (.tmp 74) (.tmp 80) 54 (by rfl) fits54 (HO.out.ext (by repeat' (first | exact Out.refl _ _ | refine Out.drew ?_ | refine Out.alloc ?_ _))) (by rfl) (by first | omega | (simp; done) | (simp; omega)) (HT.out.ext (by repeat' (first | exact Out.refl _ _ | refine Out.drew ?_ | refine Out.alloc ?_ _))) (by rfl) (fun i hi cs hc => intC.mono hc (fun b hb hlb => ⟨.inl hb, fun e => by simp [Value.ownBlock] at e; have := hF b hb.1; omega⟩)) (by rw [Htl.out, List.length_nil]; omega) (by decide) ?_; intro v7 w7 g1 g2 g3; (rw [List.nil_append] at g1); obtain ⟨A7, k7, m7, rfl⟩ := g1.form0; have G7 := Lib.hid g1; have HX7 : Hid (Ext wc w7) := Lib.hid (Out.then (by repeat' (first | exact Out.refl _ _ | refine Out.drew ?_ | refine Out.alloc ?_ _)) g2 (fun i hi e => by simp [Value.ownBlock] at e; omega)); obtain ⟨rb0, rb1, rbf⟩ := cells2 (HX7.out.blk HM.out.blk (fun f => f)); clear g1 g2 g3
            refine hK.out _ _ ?q40_20S18 (fun hHeld2 => ?_)
            case q40_20S18 => ((first | go_keep | ((try dsimp only); assumption)))
            clear hK K hHeld1
            (try simp only [List.getElem_toArray, List.getElem_cons_succ, List.getElem_cons_zero, Act.put, List.setIfInBounds_toArray, List.set_cons_zero, List.set_cons_succ])
            refine anyB_step (i := 10) (o := _) (by kernel_rfl) (by rfl) (by (simp only [List.getElem?_toArray, List.getElem?_cons_succ, List.getElem?_cons_zero] <;> rfl)) (fun K hK => ?_)
            go_simp
            refine hK.out _ _ ?q40_20S19 (fun hHeld3 => ?_)
            case q40_20S19 => ((first | go_keep | ((try dsimp only); assumption)))
            clear hK K hHeld2
            (try simp only [List.getElem_toArray, List.getElem_cons_succ, List.getElem_cons_zero, Act.put, List.setIfInBounds_toArray, List.set_cons_zero, List.set_cons_succ])
            refine anyB_step (i := 11) (o := _) (by kernel_rfl) (by rfl) (by (simp only [List.getElem?_toArray, List.getElem?_cons_succ, List.getElem?_cons_zero] <;> rfl)) (fun K hK => ?_)
            have hz7 := HX7.out.size; refine step_append_one (by rfl) (.tmp 81) (.tmp 83) 54 (by rfl) fits54 (G7.out.ext (Ext.alloc1 _ _)) (by rfl) (by first | omega | (simp; done) | (simp; omega)) (blk_new _ _) (by rfl) ht ⟨rfl, by omega, by omega⟩ (by rw [Htl.out]; omega) (by decide) ?_; intro v9 w9 g1 g2 g3; obtain ⟨A9, k9, m9, rfl⟩ := g1.form0; have G9 := Lib.hid g1; have HX9 : Hid (Ext wc w9) := Lib.hid ((HX7.out.alloc _).then g2 (fun i hi e => by have := (G7.out.lt i e).1; (try simp at this); omega)); obtain ⟨rd0, rd1, rdf⟩ := cells2 (HX9.out.blk HM.out.blk (fun f => f)); clear g1 g2 g3
            refine hK.out _ _ ?q40_20S20 (fun hHeld4 => ?_)
            case q40_20S20 => ((first | go_keep | ((try dsimp only); assumption)))
            clear hK K hHeld3
            (try simp only [List.getElem_toArray, List.getElem_cons_succ, List.getElem_cons_zero, Act.put, List.setIfInBounds_toArray, List.set_cons_zero, List.set_cons_succ])
            refine anyB_step (i := 18) (o := _) (by kernel_rfl) (by rfl) (by (simp only [List.getElem?_toArray, List.getElem?_cons_succ, List.getElem?_cons_zero] <;> rfl)) (fun K hK => ?_)
            have hz9 := HX9.out.size; refine stp_append_sl (by rfl) (.tmp 84) (.tmp 90) 54 (by rfl) fits54 G9.out (by rfl) (by first | omega | (simp; done) | (simp; omega)) (HD.out.ext HX9.out) (by rfl) (fun i hi cs hc => intC.mono hc (fun b hb hlb => ⟨.inl hb, fun e => by have := (G9.out.lt b e).1; have := hF b hb.1; (try simp at *); omega⟩)) (by rw [List.length_append, Htl.out, Hdl.out]; simp; omega) (by decide) ?_; intro v10 w10 g1 g2 g3; obtain ⟨A10, k10, m10, rfl⟩ := g1.form0; have G10 := Lib.hid g1; have HX10 : Hid (Ext wc w10) := Lib.hid (HX9.out.then g2 (fun i hi e => by have := (G9.out.lt i e).1; (try simp at this); omega)); obtain ⟨re0, re1, ref⟩ := cells2 (HX10.out.blk HM.out.blk (fun f => f)); clear g1 g2 g3
            refine hK.out _ _ ?q40_20S21 (fun hHeld5 => ?_)
            case q40_20S21 => ((first | go_keep | ((try dsimp only); assumption)))
            clear hK K hHeld4
            (try simp only [List.getElem_toArray, List.getElem_cons_succ, List.getElem_cons_zero, Act.put, List.setIfInBounds_toArray, List.set_cons_zero, List.set_cons_succ])
            refine anyB_step (i := 19) (o := _) (by kernel_rfl) (by rfl) (by (simp only [List.getElem?_toArray, List.getElem?_cons_succ, List.getElem?_cons_zero] <;> rfl)) (fun K hK => ?_)
            go_simp
            refine hK.out _ _ ?q40_20S22 (fun hHeld6 => ?_)
            case q40_20S22 => ((first | go_keep | ((try dsimp only); assumption)))
            clear hK K hHeld5
            (try simp only [List.getElem_toArray, List.getElem_cons_succ, List.getElem_cons_zero, Act.put, List.setIfInBounds_toArray, List.set_cons_zero, List.set_cons_succ])
            refine anyB_take (i := 20) (oi := _) (v := ?q40_20v23) rfl (by kernel_rfl) (by kernel_rfl) (by kernel_rfl) (by kernel_rfl) (fun _ _ _ h => h) (Or.inl ⟨by rfl, ?q40_20h23⟩) (by assumption) ?q40_20r23
            case q40_20h23 => (intro w hSw; (try dsimp only at hSw); go_simp; try with_reducible rfl)
            (try simp only [List.getElem_toArray, List.getElem_cons_succ, List.getElem_cons_zero, Act.put, List.setIfInBounds_toArray, List.set_cons_zero, List.set_cons_succ])
            refine anyB_last (i := 21) (o := _) (by kernel_rfl) (by rfl) (by (simp only [List.getElem?_toArray, List.getElem?_cons_succ, List.getElem?_cons_zero] <;> rfl)) (fun K hK => ?_)
            go_simp
            refine hK.out _ _ ?_
            clear hK K
            (try simp only [List.getElem_toArray, List.getElem_cons_succ, List.getElem_cons_zero, Act.put, List.setIfInBounds_toArray, List.set_cons_zero, List.set_cons_succ])
            refine anyB_done (by kernel_rfl) ?_ _
            generalize (if nz = cnt then Z else Option.map _ Z) = ZD
            go_wp2
            go_ret
            have hfin := rin_fin hF HR.out HM.out HX10.out (by first | omega | (simp; omega)) G10.out (by simp only [List.length_append, List.length_cons, List.length_take, List.length_drop, Hlen.out]) (by simp only [List.length_append, List.length_cons, List.length_take, List.length_drop]; omega)
            refine .inr ⟨rfl, fun i hi => ?_, hfin.1, ?_⟩
            · obtain ⟨j, hj, rfl⟩ := List.getElem_of_mem hi; exact Hb.out j hj hj
            · rw [Hcn.out]; exact ⟨_, _, hfin.2⟩
          case q40_20y17 =>
            go_simp
            refine hK.out _ _ ?q40_20S24 (fun hHeld2 => ?_)
            case q40_20S24 => ((first | go_keep | ((try dsimp only); assumption)))
            clear hK K hHeld1
            (try simp only [List.getElem_toArray, List.getElem_cons_succ, List.getElem_cons_zero, Act.put, List.setIfInBounds_toArray, List.set_cons_zero, List.set_cons_succ])
            refine anyB_step (i := 8) (o := _) (by kernel_rfl) (by rfl) (by (simp only [List.getElem?_toArray, List.getElem?_cons_succ, List.getElem?_cons_zero] <;> rfl)) (fun K hK => ?_)
            refine stp_append_sl (by rfl) (.tmp 74) (.tmp 80) 54 (by rfl) fits54 (HO.out.ext (by repeat' (first | exact Out.refl _ _ | refine Out.drew ?_ | refine Out.alloc ?_ _))) (by rfl) (by first | omega | (simp; done) | (simp; omega)) (HT.out.ext (by repeat' (first | exact Out.refl _ _ | refine Out.drew ?_ | refine Out.alloc ?_ _))) (by rfl) (fun i hi cs hc => intC.mono hc (fun b hb hlb => ⟨.inl hb, fun e => by simp [Value.ownBlock] at e; have := hF b hb.1; omega⟩)) (by rw [Htl.out, List.length_nil]; omega) (by decide) ?_; intro v7 w7 g1 g2 g3; (rw [List.nil_append] at g1); obtain ⟨A7, k7, m7, rfl⟩ := g1.form0; have G7 := Lib.hid g1; have HX7 : Hid (Ext wc w7) := Lib.hid (Out.then (by repeat' (first | exact Out.refl _ _ | refine Out.drew ?_ | refine Out.alloc ?_ _)) g2 (fun i hi e => by simp [Value.ownBlock] at e; omega)); have HB7 := Lib.hid (g2.blk (blk_atD (w := wc.alloc (.cells #[] 3)) (o := .cells #[.int .i64 ht] 3) (n := wc.heap.size + 1) (by simp)) (by simp [Value.ownBlock])); obtain ⟨rb0, rb1, rbf⟩ := cells2 (HX7.out.blk HM.out.blk (fun f => f)); clear g1 g2 g3
            refine hK.out _ _ ?q40_20S25 (fun hHeld3 => ?_)
            case q40_20S25 => ((first | go_keep | ((try dsimp only); assumption)))
            clear hK K hHeld2
            (try simp only [List.getElem_toArray, List.getElem_cons_succ, List.getElem_cons_zero, Act.put, List.setIfInBounds_toArray, List.set_cons_zero, List.set_cons_succ])
            refine anyB_step (i := 11) (o := _) (by kernel_rfl) (by rfl) (by (simp only [List.getElem?_toArray, List.getElem?_cons_succ, List.getElem?_cons_zero] <;> rfl)) (fun K hK => ?_)
            have hz7 := HX7.out.size; refine step_append_one (by rfl) (.tmp 81) (.tmp 83) 54 (by rfl) fits54 (G7.out) (by rfl) (by first | omega | (simp; done) | (simp; omega)) (HB7.out) (by rfl) ht ⟨rfl, by omega, by omega⟩ (by rw [Htl.out]; omega) (by decide) ?_; intro v9 w9 g1 g2 g3; obtain ⟨A9, k9, m9, rfl⟩ := g1.form0; have G9 := Lib.hid g1; have HX9 : Hid (Ext wc w9) := Lib.hid ((HX7.out).then g2 (fun i hi e => by have := (G7.out.lt i e).1; (try simp at this); omega)); obtain ⟨rd0, rd1, rdf⟩ := cells2 (HX9.out.blk HM.out.blk (fun f => f)); clear g1 g2 g3
            refine hK.out _ _ ?q40_20S26 (fun hHeld4 => ?_)
            case q40_20S26 => ((first | go_keep | ((try dsimp only); assumption)))
            clear hK K hHeld3
            (try simp only [List.getElem_toArray, List.getElem_cons_succ, List.getElem_cons_zero, Act.put, List.setIfInBounds_toArray, List.set_cons_zero, List.set_cons_succ])
            refine anyB_step (i := 18) (o := _) (by kernel_rfl) (by rfl) (by (simp only [List.getElem?_toArray, List.getElem?_cons_succ, List.getElem?_cons_zero] <;> rfl)) (fun K hK => ?_)
            have hz9 := HX9.out.size; refine stp_append_sl (by rfl) (.tmp 84) (.tmp 90) 54 (by rfl) fits54 G9.out (by rfl) (by first | omega | (simp; done) | (simp; omega)) (HD.out.ext HX9.out) (by rfl) (fun i hi cs hc => intC.mono hc (fun b hb hlb => ⟨.inl hb, fun e => by have := (G9.out.lt b e).1; have := hF b hb.1; (try simp at *); omega⟩)) (by rw [List.length_append, Htl.out, Hdl.out]; simp; omega) (by decide) ?_; intro v10 w10 g1 g2 g3; obtain ⟨A10, k10, m10, rfl⟩ := g1.form0; have G10 := Lib.hid g1; have HX10 : Hid (Ext wc w10) := Lib.hid (HX9.out.then g2 (fun i hi e => by have := (G9.out.lt i e).1; (try simp at this); omega)); obtain ⟨re0, re1, ref⟩ := cells2 (HX10.out.blk HM.out.blk (fun f => f)); clear g1 g2 g3
            refine hK.out _ _ ?q40_20S27 (fun hHeld5 => ?_)
            case q40_20S27 => ((first | go_keep | ((try dsimp only); assumption)))
            clear hK K hHeld4
            (try simp only [List.getElem_toArray, List.getElem_cons_succ, List.getElem_cons_zero, Act.put, List.setIfInBounds_toArray, List.set_cons_zero, List.set_cons_succ])
            refine anyB_step (i := 19) (o := _) (by kernel_rfl) (by rfl) (by (simp only [List.getElem?_toArray, List.getElem?_cons_succ, List.getElem?_cons_zero] <;> rfl)) (fun K hK => ?_)
            go_simp
            refine hK.out _ _ ?q40_20S28 (fun hHeld6 => ?_)
            case q40_20S28 => ((first | go_keep | ((try dsimp only); assumption)))
            clear hK K hHeld5
            (try simp only [List.getElem_toArray, List.getElem_cons_succ, List.getElem_cons_zero, Act.put, List.setIfInBounds_toArray, List.set_cons_zero, List.set_cons_succ])
            refine anyB_take (i := 20) (oi := _) (v := ?q40_20v29) rfl (by kernel_rfl) (by kernel_rfl) (by kernel_rfl) (by kernel_rfl) (fun _ _ _ h => h) (Or.inl ⟨by rfl, ?q40_20h29⟩) (by assumption) ?q40_20r29
            case q40_20h29 => (intro w hSw; (try dsimp only at hSw); go_simp; try with_reducible rfl)
            (try simp only [List.getElem_toArray, List.getElem_cons_succ, List.getElem_cons_zero, Act.put, List.setIfInBounds_toArray, List.set_cons_zero, List.set_cons_succ])
            refine anyB_last (i := 21) (o := _) (by kernel_rfl) (by rfl) (by (simp only [List.getElem?_toArray, List.getElem?_cons_succ, List.getElem?_cons_zero] <;> rfl)) (fun K hK => ?_)
            go_simp
            refine hK.out _ _ ?_
            clear hK K
            (try simp only [List.getElem_toArray, List.getElem_cons_succ, List.getElem_cons_zero, Act.put, List.setIfInBounds_toArray, List.set_cons_zero, List.set_cons_succ])
            refine anyB_done (by kernel_rfl) ?_ _
            generalize (if nz = cnt then Z else Option.map _ Z) = ZD
            go_wp2
            go_ret
            have hfin := rin_fin hF HR.out HM.out HX10.out (by first | omega | (simp; omega)) G10.out (by simp only [List.length_append, List.length_cons, List.length_take, List.length_drop, Hlen.out]) (by simp only [List.length_append, List.length_cons, List.length_take, List.length_drop]; omega)
            refine .inr ⟨rfl, fun i hi => ?_, hfin.1, ?_⟩
            · obtain ⟨j, hj, rfl⟩ := List.getElem_of_mem hi; exact Hb.out j hj hj
            · rw [Hcn.out]; exact ⟨_, _, hfin.2⟩
        case q40_20y15 =>
          go_simp
          refine hK.out _ _ ?q40_20S30 (fun hHeld1 => ?_)
          case q40_20S30 => ((first | go_keep | ((try dsimp only); assumption)))
          clear hK K hHeld0
          (try simp only [List.getElem_toArray, List.getElem_cons_succ, List.getElem_cons_zero, Act.put, List.setIfInBounds_toArray, List.set_cons_zero, List.set_cons_succ])
          refine anyB_step (i := 1) (o := _) (by kernel_rfl) (by rfl) (by (simp only [List.getElem?_toArray, List.getElem?_cons_succ, List.getElem?_cons_zero] <;> rfl)) (fun K hK => ?_)
          go_simp
          refine hK.out _ _ ?q40_20S31 (fun hHeld2 => ?_)
          case q40_20S31 => ((first | go_keep | ((try dsimp only); assumption)))
          clear hK K hHeld1
          (try simp only [List.getElem_toArray, List.getElem_cons_succ, List.getElem_cons_zero, Act.put, List.setIfInBounds_toArray, List.set_cons_zero, List.set_cons_succ])
          refine anyB_step (i := 8) (o := _) (by kernel_rfl) (by rfl) (by (simp only [List.getElem?_toArray, List.getElem?_cons_succ, List.getElem?_cons_zero] <;> rfl)) (fun K hK => ?_)
          refine stp_append_sl (by rfl) (.tmp 74) (.tmp 80) 54 (by rfl) fits54 (HO2.out.ext (by repeat' (first | exact Out.refl _ _ | refine Out.drew ?_ | refine Out.alloc ?_ _))) (by rfl) (by first | omega | (simp; done) | (simp; omega)) (HT.out.ext (by repeat' (first | exact Out.refl _ _ | refine Out.drew ?_ | refine Out.alloc ?_ _))) (by rfl) (fun i hi cs hc => intC.mono hc (fun b hb hlb => ⟨.inl hb, fun e => by simp [Value.ownBlock] at e; have := hF b hb.1; omega⟩)) (by rw [Htl.out, List.length_nil]; omega) (by decide) ?_; intro v7 w7 g1 g2 g3; (rw [List.nil_append] at g1); obtain ⟨A7, k7, m7, rfl⟩ := g1.form0; have G7 := Lib.hid g1; have HX7 : Hid (Ext wc w7) := Lib.hid (Out.then (by repeat' (first | exact Out.refl _ _ | refine Out.drew ?_ | refine Out.alloc ?_ _)) g2 (fun i hi e => by simp [Value.ownBlock] at e; omega)); have hz7b : wc.heap.size + 1 ≤ w7.heap.size := (by have := g2.size; simp at this; omega); have HB7 : Hid (w7.heap[wc.heap.size]? = some (.cells #[.int .i64 ht] 3)) := Lib.hid (g2.blk (blk_alloc (blk_new wc (.cells #[.int .i64 ht] 3)) (.cells #[] 3)) (by simp [Value.ownBlock])); obtain ⟨rb0, rb1, rbf⟩ := cells2 (HX7.out.blk HM.out.blk (fun f => f)); clear g1 g2 g3
          refine hK.out _ _ ?q40_20S32 (fun hHeld3 => ?_)
          case q40_20S32 => ((first | go_keep | ((try dsimp only); assumption)))
          clear hK K hHeld2
          (try simp only [List.getElem_toArray, List.getElem_cons_succ, List.getElem_cons_zero, Act.put, List.setIfInBounds_toArray, List.set_cons_zero, List.set_cons_succ])
          refine anyB_step (i := 11) (o := _) (by kernel_rfl) (by rfl) (by (simp only [List.getElem?_toArray, List.getElem?_cons_succ, List.getElem?_cons_zero] <;> rfl)) (fun K hK => ?_)
          have hz7 := HX7.out.size; refine step_append_one (by rfl) (.tmp 81) (.tmp 83) 54 (by rfl) fits54 (G7.out) (by rfl) (by first | omega | (simp; done) | (simp; omega)) (HB7.out) (by rfl) ht ⟨rfl, by omega, by omega⟩ (by rw [Htl.out]; omega) (by decide) ?_; intro v9 w9 g1 g2 g3; obtain ⟨A9, k9, m9, rfl⟩ := g1.form0; have G9 := Lib.hid g1; have hz9b := g2.size; have HX9 : Hid (Ext wc w9) := Lib.hid ((HX7.out).then g2 (fun i hi e => by have := (G7.out.lt i e).1; (try simp at this); omega)); obtain ⟨rd0, rd1, rdf⟩ := cells2 (HX9.out.blk HM.out.blk (fun f => f)); clear g1 g2 g3
          refine hK.out _ _ ?q40_20S33 (fun hHeld4 => ?_)
          case q40_20S33 => ((first | go_keep | ((try dsimp only); assumption)))
          clear hK K hHeld3
          (try simp only [List.getElem_toArray, List.getElem_cons_succ, List.getElem_cons_zero, Act.put, List.setIfInBounds_toArray, List.set_cons_zero, List.set_cons_succ])
          refine anyB_step (i := 18) (o := _) (by kernel_rfl) (by rfl) (by (simp only [List.getElem?_toArray, List.getElem?_cons_succ, List.getElem?_cons_zero] <;> rfl)) (fun K hK => ?_)
          have hz9 := HX9.out.size; refine stp_append_sl (by rfl) (.tmp 84) (.tmp 90) 54 (by rfl) fits54 G9.out (by rfl) (by first | omega | (simp; done) | (simp; omega)) (HD.out.ext HX9.out) (by rfl) (fun i hi cs hc => intC.mono hc (fun b hb hlb => ⟨.inl hb, fun e => by have := (G9.out.lt b e).1; have := hF b hb.1; (try simp at *); omega⟩)) (by rw [List.length_append, Htl.out, Hdl.out]; simp; omega) (by decide) ?_; intro v10 w10 g1 g2 g3; obtain ⟨A10, k10, m10, rfl⟩ := g1.form0; have G10 := Lib.hid g1; have HX10 : Hid (Ext wc w10) := Lib.hid (HX9.out.then g2 (fun i hi e => by have := (G9.out.lt i e).1; (try simp at this); omega)); obtain ⟨re0, re1, ref⟩ := cells2 (HX10.out.blk HM.out.blk (fun f => f)); clear g1 g2 g3
          refine hK.out _ _ ?q40_20S34 (fun hHeld5 => ?_)
          case q40_20S34 => ((first | go_keep | ((try dsimp only); assumption)))
          clear hK K hHeld4
          (try simp only [List.getElem_toArray, List.getElem_cons_succ, List.getElem_cons_zero, Act.put, List.setIfInBounds_toArray, List.set_cons_zero, List.set_cons_succ])
          refine anyB_step (i := 19) (o := _) (by kernel_rfl) (by rfl) (by (simp only [List.getElem?_toArray, List.getElem?_cons_succ, List.getElem?_cons_zero] <;> rfl)) (fun K hK => ?_)
          go_simp
          refine hK.out _ _ ?q40_20S35 (fun hHeld6 => ?_)
          case q40_20S35 => ((first | go_keep | ((try dsimp only); assumption)))
          clear hK K hHeld5
          (try simp only [List.getElem_toArray, List.getElem_cons_succ, List.getElem_cons_zero, Act.put, List.setIfInBounds_toArray, List.set_cons_zero, List.set_cons_succ])
          refine anyB_take (i := 20) (oi := _) (v := ?q40_20v36) rfl (by kernel_rfl) (by kernel_rfl) (by kernel_rfl) (by kernel_rfl) (fun _ _ _ h => h) (Or.inl ⟨by rfl, ?q40_20h36⟩) (by assumption) ?q40_20r36
          case q40_20h36 => (intro w hSw; (try dsimp only at hSw); go_simp; try with_reducible rfl)
          (try simp only [List.getElem_toArray, List.getElem_cons_succ, List.getElem_cons_zero, Act.put, List.setIfInBounds_toArray, List.set_cons_zero, List.set_cons_succ])
          refine anyB_last (i := 21) (o := _) (by kernel_rfl) (by rfl) (by (simp only [List.getElem?_toArray, List.getElem?_cons_succ, List.getElem?_cons_zero] <;> rfl)) (fun K hK => ?_)
          go_simp
          refine hK.out _ _ ?_
          clear hK K
          (try simp only [List.getElem_toArray, List.getElem_cons_succ, List.getElem_cons_zero, Act.put, List.setIfInBounds_toArray, List.set_cons_zero, List.set_cons_succ])
          refine anyB_done (by kernel_rfl) ?_ _
          generalize (if nz = cnt then Z else Option.map _ Z) = ZD
          go_wp2
          go_ret
          have hfin := rin_fin hF HR.out HM.out HX10.out (by first | omega | (simp; omega)) G10.out (by simp only [List.length_append, List.length_cons, List.length_take, List.length_drop, Hlen.out]) (by simp only [List.length_append, List.length_cons, List.length_take, List.length_drop]; omega)
          refine .inr ⟨rfl, fun i hi => ?_, hfin.1, ?_⟩
          · obtain ⟨j, hj, rfl⟩ := List.getElem_of_mem hi; exact Hb.out j hj hj
          · rw [Hcn.out]; exact ⟨_, _, hfin.2⟩
end Go.Proofs.Yteaanagljmcidaa
