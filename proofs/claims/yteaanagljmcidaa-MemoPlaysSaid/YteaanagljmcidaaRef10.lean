/- ref10: the document's memo; Last, Do. ref10: Do, where it lets in. ref10: Batch. -/
import Derived.Test.YteaanagljmcidaaR4Ops
import Derived.Test.YteaanagljmcidaaMemoPl
import Derived.Test.YteaanagljmcidaaRegB
namespace Go.Proofs.Yteaanagljmcidaa
open Go.RowKit

attribute [local go_sem ↓] Go.wp_at_zero Go.wp_at_succ

theorem fits83 : Fits Try.prog 83 28 u64C.size 8 := fits_of Try.underlying83 (by decide) (by kernel_rfl : (Try.prog.info? 28).map (fun i => (i.zero, i.size, i.bytes)) = some (some (.int .u64 0), 1, 8)) rfl

/-- The document's memo at R: ops, and numbers. -/
structure RxAt (w : World) (FO : Nat → Prop) (R : Nat) (vo vs : Value) (lo : List OpE) (ls : List UInt64) : Prop where
  blk : w.heap[R]? = some (.cells #[vo, vs] 103)
  ops : Own opC 112 w 0 FO vo lo
  seqs : Own u64C 28 w 0 (fun _ => False) vs ls
  oR : vo.ownBlock ≠ some R
  sR : vs.ownBlock ≠ some R
  os : ∀ b, vo.ownBlock = some b → vs.ownBlock ≠ some b
  cR : ¬ FO R
  cS : ∀ b, vs.ownBlock = some b → ¬ FO b
  lF : ∀ b, FO b → b < w.heap.size
def Rx (w : World) (Foot : Nat → Prop) (R : Nat) (x : XL) : Prop :=
  ∃ FO vo vs, RxAt w FO R vo vs (x.map (·.1)) (x.map fun p => UInt64.ofNat p.2) ∧ (∀ b, FO b → Foot b) ∧ Foot R ∧ (∀ b, vo.ownBlock = some b → Foot b) ∧ (∀ b, vs.ownBlock = some b → Foot b)

section
variable {w w' : World} {Foot G : Nat → Prop} {R : Nat} {vo vs : Value} {lo : List OpE} {ls : List UInt64} {FO : Nat → Prop} {x : XL}

theorem RxAt.ltR (h : RxAt w FO R vo vs lo ls) : R < w.heap.size := blk_lt h.blk
theorem RxAt.frame {S : Nat → Prop} (h : RxAt w FO R vo vs lo ls) (ho : Out S w w') (h1 : ¬ S R) (h2 : ∀ b, vo.ownBlock = some b → ¬ S b) (h3 : ∀ b, vs.ownBlock = some b → ¬ S b) (h4 : ∀ b, FO b → ¬ S b) : RxAt w' FO R vo vs lo ls :=
  ⟨ho.blk h.blk h1, h.ops.frame ho (fun b _ _ hb => h2 b hb) (fun b _ hb _ => h4 b hb), h.seqs.frame ho (fun b _ _ hb => h3 b hb) (fun b _ hb _ => hb.elim), h.oR, h.sR, h.os, h.cR, h.cS, fun b hb => Nat.lt_of_lt_of_le (h.lF b hb) ho.size⟩
theorem RxAt.ext (h : RxAt w FO R vo vs lo ls) (ho : Ext w w') : RxAt w' FO R vo vs lo ls := h.frame ho (fun f => f) (fun _ _ f => f) (fun _ _ f => f) (fun _ _ f => f)
theorem Rx.frame {S : Nat → Prop} (h : Rx w Foot R x) (ho : Out S w w') (hs : ∀ b, b < w.heap.size → Foot b → ¬ S b) : Rx w' Foot R x := by
  obtain ⟨FO, vo, vs, h0, f1, f2, f3, f4⟩ := h
  exact ⟨FO, vo, vs, h0.frame ho (hs _ h0.ltR f2) (fun b hb => hs b (h0.ops.lt b hb).2 (f3 b hb)) (fun b hb => hs b (h0.seqs.lt b hb).2 (f4 b hb)) (fun b hb => hs b (h0.lF b hb) (f1 b hb)), f1, f2, f3, f4⟩
theorem Rx.ext (h : Rx w Foot R x) (ho : Ext w w') : Rx w' Foot R x := h.frame ho fun _ _ _ f => f
theorem Rx.mono (h : Rx w Foot R x) (hg : ∀ b, b < w.heap.size → Foot b → G b) : Rx w G R x := by
  obtain ⟨FO, vo, vs, h0, f1, f2, f3, f4⟩ := h
  exact ⟨FO, vo, vs, h0, fun b hb => hg b (h0.lF b hb) (f1 b hb), hg _ h0.ltR f2, fun b hb => hg b (h0.ops.lt b hb).2 (f3 b hb), fun b hb => hg b (h0.seqs.lt b hb).2 (f4 b hb)⟩
theorem Rx.new (w : World) : Rx (w.alloc (.cells #[.slice none 0 0, .slice none 0 0] 103)) (fun b => b = w.heap.size) w.heap.size [] :=
  ⟨fun _ => False, _, _, ⟨blk_new _ _, Own.nil _ _ _ _ _, Own.nil _ _ _ _ _, (fun e => by cases e), (fun e => by cases e), (fun b e => by cases e), (fun f => f), (fun b e => by cases e), (fun b f => f.elim)⟩, (fun b f => f.elim), rfl, (fun b e => by cases e), (fun b e => by cases e)⟩

theorem Sl.num {w : World} {F : Nat → Prop} {A : Option Addr} {n cap : Nat} {l : List UInt64} (h : Sl u64C w F (.slice A n cap) l) (i : Nat) (hi : i < l.length) :
    ∃ b off, A = some ⟨b, off, none⟩ ∧ w.cell? ⟨b, off + i, none⟩ = some (u64V l[i]) := by
  obtain ⟨b, off, cs, hA, hF, hat, hr⟩ := h.get i hi
  have hr' : cs = [u64V l[i]] := hr
  subst hr'
  have h1 := hat.cell 0 _ rfl
  exact ⟨b, off, hA, by simpa [u64C] using h1⟩
theorem Own.numS {B : Nat} {F : Nat → Prop} {v : Value} (h : Own u64C 28 w B F v ls) (hl : ls.length ≤ 1000000) : Sl u64C w (fun _ => True) v ls := h.sl (by decide) (by show _ ≤ 140737488355328; omega) (fun _ _ _ => trivial) (fun _ _ _ => trivial)
theorem Own.opS {B : Nat} {F : Nat → Prop} {v : Value} (h : Own opC 112 w B F v lo) (hl : lo.length ≤ 1000000) : Sl opC w (fun b => b < w.heap.size) v lo := h.sl (by decide) (by show _ ≤ 140737488355328; omega) (fun _ _ hl => hl) (fun _ _ hl => hl)

set_option maxRecDepth 100000 in
set_option maxHeartbeats 2000000 in
theorem r10_last (h : Rx w Foot R x) (hg : GoodX x) (hl : x.length ≤ 100000) : Calls Try.prog 91 #[.pointer (some ⟨R, 0, none⟩)] w fun e w' => e = .returned (.int .u64 (lastX x : Int)) ∧ Ext w w' := by
  obtain ⟨FO, vo, vs, h0, -⟩ := h
  obtain ⟨r0, r1, rf⟩ := cells2 h0.blk
  obtain ⟨O, on, oc, rfl⟩ := h0.ops.form0
  have hs := h0.seqs.numS (by rw [List.length_map]; omega)
  obtain ⟨S, sc, rfl, h1, h2, h3, h4⟩ := hs.form
  have h3 : (x.map fun p => UInt64.ofNat p.2).length ≤ 140737488355328 := h3
  clear h0
  rcases List.eq_nil_or_concat x with rfl | ⟨y, p, rfl⟩
  · have hl0 : ((([] : XL).map fun p => UInt64.ofNat p.2)).length = 0 := rfl
    rw [hl0] at r1
    clear hs h1 h2 h3 h4 hl hg hl0
    go_enter Try.func91, Try.ntmps91
    go_wp2
    go_ret
    exact ⟨rfl, Out.refl _ _⟩
  · have hp : UInt64.toNat (UInt64.ofNat p.2) = p.2 := seqO (hg.2 p (by simp)).2.2
    obtain ⟨b, off, rfl, c0⟩ := hs.num y.length (by simp)
    have e1 : ((y.concat p).map fun p => UInt64.ofNat p.2).length = y.length + 1 := by simp
    have e2 : ((y.concat p).map fun p => UInt64.ofNat p.2)[y.length]'(by simp) = UInt64.ofNat p.2 := by simp
    have e3 : lastX (y.concat p) = p.2 := by rw [List.concat_eq_append, lastX_snoc]
    rw [e2] at c0
    unfold u64V at c0
    rw [hp] at c0
    rw [e1] at r1 h1 h3
    rw [e3]
    clear e1 e2 e3 hs hl hg hp
    generalize p.2 = n at *
    generalize y.length = k at *
    go_enter Try.func91, Try.ntmps91
    go_wp2
    go_region
    go_wp2
    go_ret
    exact ⟨rfl, (Out.refl _ _).drew⟩
theorem r10_lastN (w : World) : Calls Try.prog 91 #[.pointer none] w fun e w' => e = .returned (.int .u64 0) ∧ w = w' := by
  go_enter Try.func91, Try.ntmps91
  go_wp2
  go_ret
  exact ⟨rfl, rfl⟩
theorem r10_doN (w : World) {u v : Value} (o : OpE) (hu : Bs w G u o.key) (hx : Bs w G v o.val) (q : Nat) (ht : Int) :
    Calls Try.prog 134 #[.pointer none, .agg #[byteV o.kind, u, v], .int .u64 (q : Int), .int .i64 ht] w fun e w' => e = .returned (.int .i64 6) ∧ Ext w w' := by
  obtain ⟨U, N, n, rfl⟩ := hu.form0
  obtain ⟨X, K, k, rfl⟩ := hx.form0
  clear hu hx
  go_enter Try.func134, Try.ntmps134
  go_wp2
  go_ret
  exact ⟨rfl, Ext.alloc1 _ _⟩

set_option maxRecDepth 100000 in
set_option maxHeartbeats 4000000 in
theorem r10_doNo (h : Rx w Foot R x) (hg : GoodX x) (hl : x.length ≤ 100000) {u v : Value} (o : OpE) (hu : Bs w G u o.key) (hx : Bs w G v o.val) (q : Nat) (ht : Int) (hr : doR (lastX x) o q ht ≠ 0) :
    Calls Try.prog 134 #[.pointer (some ⟨R, 0, none⟩), .agg #[byteV o.kind, u, v], .int .u64 (q : Int), .int .i64 ht] w fun e w' => e = .returned (.int .i64 (doR (lastX x) o q ht)) ∧ Ext w w' := by
  obtain ⟨U, N, n, rfl⟩ := hu.form0
  obtain ⟨X, K, k, rfl⟩ := hx.form0
  have x1 := Ext.alloc1 w (.cells #[byteV o.kind, .slice U N n, .slice X K k] 112)
  obtain ⟨z0, z1, z2, -⟩ := cells3 (blk_new w (.cells #[byteV o.kind, .slice U N n, .slice X K k] 112))
  have HC := Lib.hid (r4_checkOp (w.alloc (.cells #[byteV o.kind, .slice U N n, .slice X K k] 112)) o (hu.ext x1) (hx.ext x1))
  have HL := Lib.hid fun w' (hw : Ext (w.alloc (.cells #[byteV o.kind, .slice U N n, .slice X K k] 112)) w') => r10_last ((h.ext x1).ext hw) hg hl
  have X1 := Lib.hid x1
  clear hu hx x1 h
  unfold doR at *
  generalize ocheck o = c at *
  generalize lastX x = last at *
  by_cases hc : c = 0
  · subst hc
    by_cases h2 : q = 0 ∨ 72057594037927935 < q
    · have HR : Hid ((if (0 : Int) ≠ 0 then (0 : Int) else if q = 0 ∨ 72057594037927935 < q then 13 else if ht < 1 ∨ 8 < ht then 1 else if q ≤ last then 10 else 0) = 13) := Lib.hid (by rw [if_neg (by simp), if_pos h2])
      rw [HR.out]
      clear hr HR
      by_cases h3 : q = 0
      · subst h3
        clear h2
        go_enter Try.func134, Try.ntmps134
        go_wp2_with (go_at_call 85; refine HC.out.mono ?_; rintro r w1 ⟨rfl, hx1⟩)
        go_ret
        exact ⟨rfl, X1.out.ext hx1⟩
      · have q0' : decide ((q : Int) < 1) = false := by rw [decide_eq_false_iff_not]; omega
        have q1' : decide ((72057594037927936 : Int) ≤ q) = true := by rw [decide_eq_true_iff]; omega
        clear h2 h3
        go_enter Try.func134, Try.ntmps134
        go_wp2_with (go_at_call 85; refine HC.out.mono ?_; rintro r w1 ⟨rfl, hx1⟩)
        go_ret
        exact ⟨rfl, X1.out.ext hx1⟩
    · have q0' : decide ((q : Int) < 1) = false := by rw [decide_eq_false_iff_not]; omega
      have q1' : decide ((72057594037927936 : Int) ≤ q) = false := by rw [decide_eq_false_iff_not]; omega
      by_cases h3 : ht < 1 ∨ 8 < ht
      · have HR : Hid ((if (0 : Int) ≠ 0 then (0 : Int) else if q = 0 ∨ 72057594037927935 < q then 13 else if ht < 1 ∨ 8 < ht then 1 else if q ≤ last then 10 else 0) = 1) := Lib.hid (by rw [if_neg (by simp), if_neg h2, if_pos h3])
        rw [HR.out]
        clear hr HR h2
        by_cases h4 : ht < 1
        · have t0' : decide (ht < 1) = true := decide_eq_true h4
          clear h3 h4
          go_enter Try.func134, Try.ntmps134
          go_wp2_with (go_at_call 85; refine HC.out.mono ?_; rintro r w1 ⟨rfl, hx1⟩)
          go_ret
          exact ⟨rfl, X1.out.ext hx1⟩
        · have t0' : decide (ht < 1) = false := decide_eq_false h4
          have t1' : decide (8 < ht) = true := decide_eq_true (by omega)
          clear h3 h4
          go_enter Try.func134, Try.ntmps134
          go_wp2_with (go_at_call 85; refine HC.out.mono ?_; rintro r w1 ⟨rfl, hx1⟩)
          go_ret
          exact ⟨rfl, X1.out.ext hx1⟩
      · have h7 : q ≤ last := by
          apply Classical.byContradiction; intro h7
          rw [if_neg (by simp), if_neg h2, if_neg h3, if_neg h7] at hr; exact hr rfl
        have HR : Hid ((if (0 : Int) ≠ 0 then (0 : Int) else if q = 0 ∨ 72057594037927935 < q then 13 else if ht < 1 ∨ 8 < ht then 1 else if q ≤ last then 10 else 0) = 10) := Lib.hid (by rw [if_neg (by simp), if_neg h2, if_neg h3, if_pos h7])
        have t0' : decide (ht < 1) = false := decide_eq_false (by omega)
        have t1' : decide (8 < ht) = false := decide_eq_false (by omega)
        rw [HR.out]
        clear hr HR h2 h3
        go_enter Try.func134, Try.ntmps134
        go_wp2_with (first | (go_at_call 85; refine HC.out.mono ?_; rintro r w1 ⟨rfl, hx1⟩; have HX1 := Lib.hid hx1; clear hx1) | (go_at_call 91; refine (HL.out _ HX1.out).mono ?_; rintro r w2 ⟨rfl, hx2⟩))
        go_ret
        exact ⟨rfl, (X1.out.ext HX1.out).ext hx2⟩
  · have hcb : (c != 0) = true := by simpa using hc
    have HR : Hid ((if c ≠ 0 then c else if q = 0 ∨ 72057594037927935 < q then 13 else if ht < 1 ∨ 8 < ht then 1 else if q ≤ last then 10 else 0) = c) := Lib.hid (if_pos hc)
    rw [HR.out]
    clear hr HR hc
    go_enter Try.func134, Try.ntmps134
    go_wp2_with (go_at_call 85; refine HC.out.mono ?_; rintro r w1 ⟨rfl, hx1⟩)
    go_ret
    exact ⟨rfl, X1.out.ext hx1⟩
end
end Go.Proofs.Yteaanagljmcidaa
namespace Go.Proofs.Yteaanagljmcidaa
open Go.RowKit

attribute [local go_sem ↓] Go.wp_at_zero Go.wp_at_succ

section
variable {w w' : World} {Foot G : Nat → Prop} {R : Nat} {vo vs : Value} {lo : List OpE} {ls : List UInt64} {FO : Nat → Prop} {x : XL}

/-- An op in a new row. -/
theorem ops1 {w : World} {F : Nat → Prop} {u v : Value} {o : OpE} (hu : Bs w F u o.key) (hv : Bs w F v o.val) : Sl opC (w.alloc (.cells #[byteV o.kind, u, v] 112)) (fun b => F b ∨ b = w.heap.size) (.slice (some ⟨w.heap.size, 0, none⟩) 1 1) [o] := by
  have hb := blk_new w (.cells #[byteV o.kind, u, v] 112)
  refine ⟨_, 1, rfl, by simp, by simp [maxLen], by show 1 ≤ 140737488355328; decide, (fun h => by cases h), fun i hi => ?_⟩
  have hi' : i = 0 := by simpa using hi
  subst hi'
  refine ⟨w.heap.size, 0, [byteV o.kind, u, v], rfl, .inr rfl, ⟨fun j y hy => ?_, fun j hj => blk_free hb _⟩, u, v, rfl, (hu.alloc _).mono (fun b hb _ => .inl hb) (.inl (by decide)), (hv.alloc _).mono (fun b hb _ => .inl hb) (.inl (by decide))⟩
  rw [blk_cell hb]
  simpa [opC] using hy

theorem RxAt.setO (h : RxAt w FO R vo vs lo ls) {vo' : Value} {FO' : Nat → Prop} {lo' : List OpE} (g1 : Own opC 112 w' 0 FO' vo' lo') (g2 : Out (fun b => vo.ownBlock = some b) w w') (g3 : vo'.ownBlock = vo.ownBlock ∨ vo'.ownBlock = some w.heap.size)
    (k1 : ¬ FO' R) (k2 : ∀ b, vs.ownBlock = some b → ¬ FO' b) : RxAt (w'.setCell ⟨R, 0, none⟩ vo') (fun b => FO' b ∧ b < w'.heap.size) R vo' vs lo' ls := by
  have ho : Out (fun b => b = R) w' (w'.setCell ⟨R, 0, none⟩ vo') := (Out.refl (fun b => b = R) w').setCell (p := ⟨R, 0, none⟩) (fun _ => rfl) _
  have hR := h.ltR
  have hne : vo'.ownBlock ≠ some R := fun e => by
    rcases g3 with g3 | g3
    · exact h.oR (g3 ▸ e)
    · rw [g3] at e; injection e with e; omega
  refine ⟨?_, ?_, ?_, hne, h.sR, ?_, fun hc => k1 hc.1, fun b hb hc => k2 b hb hc.1, fun b hb => Nat.lt_of_lt_of_le hb.2 ho.size⟩
  · have := blk_set (g2.blk h.blk h.oR) 0 vo'
    simpa using this
  · exact (g1.frame ho (fun b _ _ hb e => hne (e ▸ hb)) (fun b _ hb _ e => k1 (e ▸ hb))).mono (fun b hb hlt => ⟨hb, by
      have : (w'.setCell ⟨R, 0, none⟩ vo').heap.size = w'.heap.size := by simp [World.setCell]
      omega⟩)
  · exact (h.seqs.frame g2 (fun b _ _ hb e => h.os b e hb) (fun b _ hb _ => hb.elim)).frame ho (fun b _ _ hb e => h.sR (e ▸ hb)) (fun b _ hb _ => hb.elim)
  · intro b hb hc
    rcases g3 with g3 | g3
    · exact h.os b (g3 ▸ hb) hc
    · rw [g3] at hb; injection hb with hb; have := (h.seqs.lt b hc).2; omega
theorem RxAt.setS (h : RxAt w FO R vo vs lo ls) {vs' : Value} {ls' : List UInt64} (g1 : Own u64C 28 w' 0 (fun _ => False) vs' ls') (g2 : Out (fun b => vs.ownBlock = some b) w w') (g3 : vs'.ownBlock = vs.ownBlock ∨ vs'.ownBlock = some w.heap.size) :
    RxAt (w'.setCell ⟨R, 1, none⟩ vs') FO R vo vs' lo ls' := by
  have ho : Out (fun b => b = R) w' (w'.setCell ⟨R, 1, none⟩ vs') := (Out.refl (fun b => b = R) w').setCell (p := ⟨R, 1, none⟩) (fun _ => rfl) _
  have hR := h.ltR
  have hne : vs'.ownBlock ≠ some R := fun e => by
    rcases g3 with g3 | g3
    · exact h.sR (g3 ▸ e)
    · rw [g3] at e; injection e with e; omega
  refine ⟨?_, ?_, ?_, h.oR, hne, ?_, h.cR, ?_, fun b hb => Nat.lt_of_lt_of_le (h.lF b hb) (Nat.le_trans g2.size ho.size)⟩
  · have := blk_set (g2.blk h.blk h.sR) 1 vs'
    simpa using this
  · exact (h.ops.frame g2 (fun b _ _ hb e => h.os b hb e) (fun b _ hb _ e => h.cS b e hb)).frame ho (fun b _ _ hb e => h.oR (e ▸ hb)) (fun b _ hb _ e => h.cR (e ▸ hb))
  · exact g1.frame ho (fun b _ _ hb e => hne (e ▸ hb)) (fun b _ hb _ => hb.elim)
  · intro b hb hc
    rcases g3 with g3 | g3
    · exact h.os b hb (g3 ▸ hc)
    · rw [g3] at hc; injection hc with hc; have := (h.ops.lt b hb).2; omega
  · intro b hb hc
    rcases g3 with g3 | g3
    · exact h.cS b (g3 ▸ hb) hc
    · rw [g3] at hb; injection hb with hb; have := h.lF b hc; omega

theorem num_rep (q : Nat) (hq : q < 18446744073709551616) : (#[Value.int .u64 (q : Int)] : Array Value).toList = [u64V (UInt64.ofNat q)] := by
  unfold u64V; rw [UInt64.toNat_ofNat_of_lt' hq]

set_option maxRecDepth 100000 in
set_option maxHeartbeats 4000000 in
theorem r10_do (h : Rx w Foot R x) (hg : GoodX x) (hl : x.length ≤ 100000) {u v : Value} (o : OpE) (hu : Bs w G u o.key) (hx : Bs w G v o.val) (q : Nat) (ht : Int) (hr : doR (lastX x) o q ht = 0) :
    Calls Try.prog 134 #[.pointer (some ⟨R, 0, none⟩), .agg #[byteV o.kind, u, v], .int .u64 (q : Int), .int .i64 ht] w fun e w' => e = .returned (.int .i64 0) ∧ Out Foot w w' ∧ Rx w' (fun b => Foot b ∨ w.heap.size ≤ b) R (x ++ [(o, q)]) := by
  obtain ⟨FO, vo, vs, h0, f1, f2, f3, f4⟩ := id h
  obtain ⟨O, on, oc, rfl⟩ := h0.ops.form0
  obtain ⟨S, sn, sc, rfl⟩ := h0.seqs.form0
  obtain ⟨U, N, n, rfl⟩ := hu.form0
  obtain ⟨X, K, k, rfl⟩ := hx.form0
  obtain ⟨d1, d2, d3, d4, d5, d6⟩ := doR_ok hr
  have x1 := Ext.alloc1 w (.cells #[byteV o.kind, .slice U N n, .slice X K k] 112)
  have hz := blk_new w (.cells #[byteV o.kind, .slice U N n, .slice X K k] 112)
  obtain ⟨z0, z1, z2, -⟩ := cells3 hz
  have hC := r4_checkOp (w.alloc (.cells #[byteV o.kind, .slice U N n, .slice X K k] 112)) o (hu.ext x1) (hx.ext x1)
  rw [d1] at hC
  have HC := Lib.hid hC
  have HL := Lib.hid fun w' (hw : Ext (w.alloc (.cells #[byteV o.kind, .slice U N n, .slice X K k] 112)) w') => r10_last ((h.ext x1).ext hw) hg hl
  have HZ := Lib.hid hz
  have X1 := Lib.hid x1
  have H0 := Lib.hid (h0.ext x1)
  have HF := Lib.hid (And.intro f1 (And.intro f2 (And.intro f3 f4)))
  have Hu := Lib.hid (hu.ext x1)
  have Hx := Lib.hid (hx.ext x1)
  have Hl : Hid ((x.map (·.1)).length ≤ 100000 ∧ (x.map fun p => UInt64.ofNat p.2).length ≤ 100000) := Lib.hid (by rw [List.length_map, List.length_map]; exact ⟨hl, hl⟩)
  have Hlt := Lib.hid (And.intro h0.ltR (And.intro (fun b hb => (h0.ops.lt b hb).2) (And.intro (fun b hb => (h0.seqs.lt b hb).2) h0.lF)))
  have HXe : Hid ((x ++ [(o, q)]).map (·.1) = x.map (·.1) ++ [o] ∧ ((x ++ [(o, q)]).map fun p => UInt64.ofNat p.2) = (x.map fun p => UInt64.ofNat p.2) ++ [UInt64.ofNat q]) := Lib.hid (by simp)
  have Hq := Lib.hid d3
  have q0' : decide ((q : Int) < 1) = false := by rw [decide_eq_false_iff_not]; omega
  have q1' : decide ((72057594037927936 : Int) ≤ q) = false := by rw [decide_eq_false_iff_not]; omega
  have t0' : decide (ht < 1) = false := decide_eq_false (by omega)
  have t1' : decide (8 < ht) = false := decide_eq_false (by omega)
  have h7 : ¬ q ≤ lastX x := by omega
  clear h h0 hu hx hz x1 hC f1 f2 f3 f4 hl hg hr d1 d2 d3 d4 d5 d6
  unfold Rx
  rw [HXe.out.1, HXe.out.2]
  clear HXe
  generalize x.map (·.1) = lo at *
  generalize (x.map fun p => UInt64.ofNat p.2) = ls at *
  generalize lastX x = last at *
  go_enter Try.func134, Try.ntmps134
  go_wp2_with (first
    | (go_at_call 85; refine HC.out.mono ?_; rintro r w1 ⟨rfl, hx1⟩; have HX1 := Lib.hid hx1; clear hx1)
    | (go_at_call 91; refine (HL.out _ HX1.out).mono ?_; rintro r w2 ⟨rfl, hx2⟩; have HX2 := Lib.hid ((HX1.out.ext hx2).drew); have HW2 := Lib.hid ((X1.out.ext HX1.out).ext hx2).drew; obtain ⟨r0, r1, rf⟩ := cells2 ((HX1.out.ext hx2).blk H0.out.blk (fun f => f)); obtain ⟨z0, z1, z2, -⟩ := cells3 ((HX1.out.ext hx2).blk HZ.out (fun f => f)); clear hx2))
  have hzw := HW2.out.size
  simp only [World.size_drew] at hzw
  have HZ2 := Lib.hid (HX2.out.blk HZ.out (fun f => f))
  have HB2 := Lib.hid (HX2.out.blk H0.out.blk (fun f => f))
  refine region_B 11 (fun w' => w'.cell? ⟨R, 0, none⟩ = some (.slice O on oc) ∧ w'.cell? ⟨w.heap.size, 0, none⟩ = some (byteV o.kind) ∧ w'.cell? ⟨w.heap.size, 1, none⟩ = some (.slice U N n) ∧ w'.cell? ⟨w.heap.size, 2, none⟩ = some (.slice X K k)) (by kernel_rfl) ?q134_12S (fun hHeld0 => ?_)
  case q134_12S => ((first | go_keep | ((try dsimp only); exact ⟨by assumption, by assumption, by assumption, by assumption⟩)))
  refine anyB_take (i := 0) (oi := _) (v := ?q134_12v1) rfl (by kernel_rfl) (by kernel_rfl) (by kernel_rfl) (by kernel_rfl) (fun _ _ _ h => h) (Or.inl ⟨by rfl, ?q134_12h1⟩) (by assumption) ?q134_12r1
  case q134_12h1 => (intro w hSw; (try dsimp only at hSw); go_simp; try with_reducible rfl)
  (try simp only [List.getElem_toArray, List.getElem_cons_succ, List.getElem_cons_zero, Act.put, List.setIfInBounds_toArray, List.set_cons_zero, List.set_cons_succ])
  refine anyB_take (i := 1) (oi := _) (v := ?q134_12v2) rfl (by kernel_rfl) (by kernel_rfl) (by kernel_rfl) (by kernel_rfl) (fun _ _ _ h => h) (Or.inl ⟨by rfl, ?q134_12h2⟩) (by assumption) ?q134_12r2
  case q134_12h2 => (intro w hSw; (try dsimp only at hSw); go_simp; try with_reducible rfl)
  (try simp only [List.getElem_toArray, List.getElem_cons_succ, List.getElem_cons_zero, Act.put, List.setIfInBounds_toArray, List.set_cons_zero, List.set_cons_succ])
  refine anyB_take (i := 2) (oi := _) (v := ?q134_12v3) rfl (by kernel_rfl) (by kernel_rfl) (by kernel_rfl) (by kernel_rfl) (fun _ _ _ h => h) (Or.inl ⟨by rfl, ?q134_12h3⟩) (by assumption) ?q134_12r3
  case q134_12h3 => (intro w hSw; (try dsimp only at hSw); go_simp; try with_reducible rfl)
  (try simp only [List.getElem_toArray, List.getElem_cons_succ, List.getElem_cons_zero, Act.put, List.setIfInBounds_toArray, List.set_cons_zero, List.set_cons_succ])
  refine anyB_take (i := 3) (oi := _) (v := ?q134_12v4) rfl (by kernel_rfl) (by kernel_rfl) (by kernel_rfl) (by kernel_rfl) (fun _ _ _ h => h) (Or.inl ⟨by rfl, ?q134_12h4⟩) (by assumption) ?q134_12r4
  case q134_12h4 => (intro w hSw; (try dsimp only at hSw); go_simp; try with_reducible rfl)
  (try simp only [List.getElem_toArray, List.getElem_cons_succ, List.getElem_cons_zero, Act.put, List.setIfInBounds_toArray, List.set_cons_zero, List.set_cons_succ])
  refine anyB_take (i := 4) (oi := _) (v := ?q134_12v5) rfl (by kernel_rfl) (by kernel_rfl) (by kernel_rfl) (by kernel_rfl) (fun _ _ _ h => h) (Or.inl ⟨by rfl, ?q134_12h5⟩) (by assumption) ?q134_12r5
  case q134_12h5 => (intro w hSw; (try dsimp only at hSw); go_simp; try with_reducible rfl)
  (try simp only [List.getElem_toArray, List.getElem_cons_succ, List.getElem_cons_zero, Act.put, List.setIfInBounds_toArray, List.set_cons_zero, List.set_cons_succ])
  refine anyB_take (i := 5) (oi := _) (v := ?q134_12v6) rfl (by kernel_rfl) (by kernel_rfl) (by kernel_rfl) (by kernel_rfl) (fun _ _ _ h => h) (Or.inl ⟨by rfl, ?q134_12h6⟩) (by assumption) ?q134_12r6
  case q134_12h6 => (intro w hSw; (try dsimp only at hSw); go_simp; try with_reducible rfl)
  (try simp only [List.getElem_toArray, List.getElem_cons_succ, List.getElem_cons_zero, Act.put, List.setIfInBounds_toArray, List.set_cons_zero, List.set_cons_succ])
  refine anyB_step (i := 6) (o := _) (by kernel_rfl) (by rfl) (by (simp only [List.getElem?_toArray, List.getElem?_cons_succ, List.getElem?_cons_zero] <;> rfl)) (fun K hK => ?_)
  go_simp
  refine hK.out _ _ ?q134_12S7 (fun hHeld1 => ?_)
  case q134_12S7 => ((first | go_keep | ((try dsimp only); exact ⟨by assumption, by assumption, by assumption, by assumption⟩)))
  clear hK K hHeld0
  (try simp only [List.getElem_toArray, List.getElem_cons_succ, List.getElem_cons_zero, Act.put, List.setIfInBounds_toArray, List.set_cons_zero, List.set_cons_succ])
  refine anyB_step (i := 7) (o := _) (by kernel_rfl) (by rfl) (by (simp only [List.getElem?_toArray, List.getElem?_cons_succ, List.getElem?_cons_zero] <;> rfl)) (fun K hK => ?_)
  go_simp; go_at_call 133; refine (r4_copy _ [o] (ops1 (Hu.out.ext HX2.out) (Hx.out.ext HX2.out)) (by show 1 < 1000000000000; decide)).mono ?_; rintro r w3 ⟨cv, rfl, hx3, ho3⟩; obtain ⟨A3, n3, c3, rfl⟩ := ho3.form0; have HX3 := Lib.hid ((HX2.out.alloc _).ext hx3); have hz3 := hx3.size; simp only [World.size_alloc, World.size_drew] at hz3; have HO3 := Lib.hid (ho3.sl (G := fun b => w.heap.size ≤ b ∧ b < w3.heap.size) (by decide) (by show _ ≤ 140737488355328; simp) (fun b hb hlt => by simp only [World.size_alloc, World.size_drew] at hb; exact ⟨by omega, hlt⟩) (fun b hb hlt => by simp only [World.size_alloc, World.size_drew] at hb; exact ⟨by omega, hlt⟩)); have a0 := (cells2 (HX3.out.blk H0.out.blk (fun f => f))).1; obtain ⟨b0, b1, b2, -⟩ := cells3 (HX3.out.blk HZ.out (fun f => f)); clear hx3 ho3
  (try dsimp only)
  refine hK.out _ _ ?q134_12S8 (fun hHeld2 => ?_)
  case q134_12S8 => ((first | go_keep | ((try dsimp only); exact ⟨by assumption, by assumption, by assumption, by assumption⟩)))
  clear hK K hHeld1
  (try simp only [List.getElem_toArray, List.getElem_cons_succ, List.getElem_cons_zero, Act.put, List.setIfInBounds_toArray, List.set_cons_zero, List.set_cons_succ])
  refine anyB_step (i := 8) (o := _) (by kernel_rfl) (by rfl) (by (simp only [List.getElem?_toArray, List.getElem?_cons_succ, List.getElem?_cons_zero] <;> rfl)) (fun K hK => ?_)
  refine stp_append_sl (by rfl) (.tmp 37) (.tmp 40) 101 (by rfl) fits112 ((H0.out.ops.mono (G := fun b => (FO b ∨ w.heap.size ≤ b) ∧ b ≠ R) (fun b hb _ => ⟨.inl hb, fun e => H0.out.cR (e ▸ hb)⟩)).ext HX3.out) (by rfl) (Nat.zero_le _) HO3.out (by rfl) (fun i hi cs hc => opC.mono hc (fun b hb hlb => ⟨⟨.inr hb.1, fun e => by have := Hlt.out.1; omega⟩, fun e => by have := Hlt.out.2.1 b e; omega⟩)) (by have := Hl.out.1; simp; omega) (by decide) ?_; intro v9 w9 g1 g2 g3; obtain ⟨A9, k9, m9, rfl⟩ := g1.form0; have G1 := Lib.hid g1; have G2 := Lib.hid g2; have G3 := Lib.hid g3; have HB9 := Lib.hid (g2.blk (HX3.out.blk H0.out.blk (fun f => f)) H0.out.oR); obtain ⟨c0, -, cf⟩ := cells2 HB9.out; obtain ⟨d0, d1, d2, -⟩ := cells3 (g2.blk (HX3.out.blk HZ.out (fun f => f)) (fun e => by have := Hlt.out.2.1 _ e; omega)); clear g1 g2 g3
  refine hK.out _ _ ?q134_12S9 (fun hHeld3 => ?_)
  case q134_12S9 => ((first | go_keep | ((try dsimp only); exact ⟨by assumption, by assumption, by assumption, by assumption⟩)))
  clear hK K hHeld2
  (try simp only [List.getElem_toArray, List.getElem_cons_succ, List.getElem_cons_zero, Act.put, List.setIfInBounds_toArray, List.set_cons_zero, List.set_cons_succ])
  refine anyB_step (i := 9) (o := _) (by kernel_rfl) (by rfl) (by (simp only [List.getElem?_toArray, List.getElem?_cons_succ, List.getElem?_cons_zero] <;> rfl)) (fun K hK => ?_)
  go_simp
  refine hK.out _ _ ?q134_12S10 (fun hHeld4 => ?_)
  case q134_12S10 => ((first | go_keep | ((try dsimp only); exact ⟨by assumption, by assumption, by assumption, by assumption⟩)))
  clear hK K hHeld3
  (try simp only [List.getElem_toArray, List.getElem_cons_succ, List.getElem_cons_zero, Act.put, List.setIfInBounds_toArray, List.set_cons_zero, List.set_cons_succ])
  refine anyB_take (i := 10) (oi := _) (v := ?q134_12v11) rfl (by kernel_rfl) (by kernel_rfl) (by kernel_rfl) (by kernel_rfl) (fun _ _ _ h => h) (Or.inl ⟨by rfl, ?q134_12h11⟩) (by assumption) ?q134_12r11
  case q134_12h11 => (intro w hSw; (try dsimp only at hSw); go_simp; try with_reducible rfl)
  (try simp only [List.getElem_toArray, List.getElem_cons_succ, List.getElem_cons_zero, Act.put, List.setIfInBounds_toArray, List.set_cons_zero, List.set_cons_succ])
  refine anyB_last (i := 11) (o := _) (by kernel_rfl) (by rfl) (by (simp only [List.getElem?_toArray, List.getElem?_cons_succ, List.getElem?_cons_zero] <;> rfl)) (fun K hK => ?_)
  go_simp
  refine hK.out _ _ ?_
  clear hK K
  (try simp only [List.getElem_toArray, List.getElem_cons_succ, List.getElem_cons_zero, Act.put, List.setIfInBounds_toArray, List.set_cons_zero, List.set_cons_succ])
  refine anyB_done (by kernel_rfl) ?_ _
  have hA := RxAt.setO (H0.out.ext HX3.out) G1.out G2.out G3.out (fun hc => hc.2 rfl) (fun b hb hc => hc.1.elim (fun hc => H0.out.cS b hb hc) (fun hc => by have := Hlt.out.2.2.1 b hb; omega))
  have ho9 : Out Foot w (w9.setCell ⟨R, 0, none⟩ (.slice A9 k9 m9)) := ((Ext.out (X1.out.ext HX3.out) Foot).trans (G2.out.mono (fun b _ e => HF.out.2.2.1 b e))).setCell (p := ⟨R, 0, none⟩) (fun _ => HF.out.2.1) _
  have HA := Lib.hid hA
  have HO9 := Lib.hid ho9
  have hs9 := G2.out.size
  have hg3 : ∀ b, (Value.slice A9 k9 m9).ownBlock = some b → Foot b ∨ w.heap.size ≤ b := fun b e => G3.out.elim (fun h => .inl (HF.out.2.2.1 b (h ▸ e))) (fun h => .inr (by rw [h] at e; injection e with e; omega))
  have HG3 := Lib.hid hg3
  obtain ⟨e0, e1, ef⟩ := cells2 hA.blk
  clear hA ho9 hg3
  generalize w9.setCell ⟨R, 0, none⟩ (.slice A9 k9 m9) = wk at *
  have HRl := Lib.hid Hlt.out.1
  go_wp2_with (at_builtin; refine wpList_append_one rfl (.tmp 48) (.tmp 50) 83 rfl fits83 (HA.out.seqs.ext (Ext.alloc1 _ _)) rfl (Nat.zero_le _) (blk_new _ _) rfl (UInt64.ofNat q) (num_rep q (by have := Hq.out; omega)) (by have := Hl.out.2; omega) (by decide) ?_; intro v' w5 g1 g2 g3; obtain ⟨A6, n6, c6, rfl⟩ := g1.form0; have G51 := Lib.hid g1; have G52 := Lib.hid g2; have G53 := Lib.hid g3; obtain ⟨j0, j1, jf⟩ := cells2 (g2.blk (blk_alloc HA.out.blk _) HA.out.sR); clear g1 g2 g3)
  go_ret
  have hB := RxAt.setS (HA.out.ext (Ext.alloc1 _ _)) G51.out G52.out G53.out
  have hs5 := HO9.out.size
  refine ⟨rfl, ((HO9.out.alloc _).trans (G52.out.mono (fun b _ e => HF.out.2.2.2 b e))).setCell (p := ⟨R, 1, none⟩) (fun _ => HF.out.2.1) _, _, _, _, hB, (fun b hb => hb.1.1.elim (fun h => .inl (HF.out.1 b h)) .inr), .inl HF.out.2.1, HG3.out, fun b e => G53.out.elim (fun h => .inl (HF.out.2.2.2 b (h ▸ e))) (fun h => .inr (by rw [h] at e; injection e with e; simp only [World.size_alloc] at e; omega))⟩
end
end Go.Proofs.Yteaanagljmcidaa
namespace Go.Proofs.Yteaanagljmcidaa
open Go.RowKit

attribute [local go_sem ↓] Go.wp_at_zero Go.wp_at_succ

noncomputable def batX (x : XL) (l : List OpE) (q : Nat) (hs : List Int) : XL := if batR (lastX x) l q hs = 0 then seqX x l q l.length else x

section
variable {w w' : World} {Foot G H : Nat → Prop} {R : Nat} {vo vs : Value} {lo : List OpE} {ls : List UInt64} {FO : Nat → Prop} {x : XL}

theorem r10_batchN (w : World) {v hv : Value} (l : List OpE) (hs : List Int) (hl : Sl opC w G v l) (hh : Sl intC w H hv hs) (q : Nat) :
    Calls Try.prog 135 #[.pointer none, v, .int .u64 (q : Int), hv] w fun e w' => e = .returned (.int .i64 6) ∧ Ext w w' := by
  obtain ⟨A, n, cap, rfl⟩ := hl.form0
  obtain ⟨B, n2, cap', rfl⟩ := hh.form0
  clear hl hh
  go_enter Try.func135, Try.ntmps135
  go_wp2
  go_ret
  exact ⟨rfl, Out.refl _ _⟩
theorem memo_batchN (w : World) {v hv : Value} (l : List OpE) (hs : List Int) (hl : Sl opC w G v l) (hh : Sl intC w H hv hs) (q : Nat) :
    Calls Try.prog 87 #[.pointer none, v, .int .u64 (q : Int), hv] w fun e w' => e = .returned (.int .i64 6) ∧ Ext w w' := by
  obtain ⟨A, n, cap, rfl⟩ := hl.form0
  obtain ⟨B, n2, cap', rfl⟩ := hh.form0
  clear hl hh
  go_enter Try.func87, Try.ntmps87
  go_wp2
  go_ret
  exact ⟨rfl, Out.refl _ _⟩

theorem batR_bad {last : Nat} {l : List OpE} {q : Nat} {hs : List Int} (h : bcheck l ≠ 0) : batR last l q hs = bcheck l := by unfold batR; exact if_pos h
theorem batR_seq {last : Nat} {l : List OpE} {q : Nat} {hs : List Int} (h : bcheck l = 0) (h2 : q = 0 ∨ 72057594037927935 < q ∨ 72057594037927935 < q + (max l.length 1 - 1)) : batR last l q hs = 13 := by unfold batR; rw [if_neg (by simpa using h), if_pos h2]
theorem batR_rest {last : Nat} {l : List OpE} {q : Nat} {hs : List Int} (h : bcheck l = 0) (h2 : ¬ (q = 0 ∨ 72057594037927935 < q ∨ 72057594037927935 < q + (max l.length 1 - 1))) : batR last l q hs = if tallL l.length hs then (if q ≤ last then 10 else 0) else 1 := by
  unfold batR; rw [if_neg (by simpa using h), if_neg h2]; by_cases ht : tallL l.length hs <;> simp [ht]

theorem r4_copy1 {w : World} {F : Nat → Prop} {u v : Value} {o : OpE} (hu : Bs w F u o.key) (hv : Bs w F v o.val) (n : Nat) (hn : n = w.heap.size) :
    Calls Try.prog 133 #[.slice (some ⟨n, 0, none⟩) 1 1] (w.alloc (.cells #[byteV o.kind, u, v] 112)) (OwnedM opC 112 (w.alloc (.cells #[byteV o.kind, u, v] 112)) [o]) := by
  subst hn; exact r4_copy _ [o] (ops1 hu hv) (by show 1 < 1000000000000; decide)

/-- Where nothing is let in. -/
structure BNo (w : World) (Foot : Nat → Prop) (R : Nat) (x : XL) (l : List OpE) (q : Nat) (hs : List Int) (e : Ending) (w' : World) : Prop where
  ans : e = .returned (.int .i64 (batR (lastX x) l q hs))
  out : Out Foot w w'
  rx : Rx w' (fun b => Foot b ∨ w.heap.size ≤ b) R (batX x l q hs)
theorem bno (h : Rx w Foot R x) {l : List OpE} {q : Nat} {hs : List Int} {c : Int} (hc : batR (lastX x) l q hs = c) (h0 : c ≠ 0) (hx : Ext w w') : BNo w Foot R x l q hs (.returned (.int .i64 c)) w' := by
  subst hc
  refine ⟨rfl, hx.out _, ?_⟩
  unfold batX
  rw [if_neg h0]
  exact (h.ext hx).mono fun b _ hb => .inl hb

theorem cases6 {q n : Nat} (hn : n ≤ 64) (h : ¬ (q = 0 ∨ 72057594037927935 < q ∨ 72057594037927935 < q + (max n 1 - 1))) : decide ((q : Int) < 1) = false ∧ decide ((72057594037927936 : Int) ≤ q) = false ∧ q ≤ 72057594037927935 ∧ q ≠ 0 ∧ (n ≤ 0 ∨ 0 < n ∧ decide ((72057594037927936 : Int) ≤ (q : Int) + n - 1) = false) := by
  refine ⟨by rw [decide_eq_false_iff_not]; omega, by rw [decide_eq_false_iff_not]; omega, by omega, by omega, ?_⟩
  by_cases h0 : n = 0
  · exact .inl (by omega)
  · exact .inr ⟨by omega, by rw [decide_eq_false_iff_not]; omega⟩

set_option maxRecDepth 100000 in
set_option maxHeartbeats 4000000 in
theorem r10_batch (h : Rx w Foot R x) (hg : GoodX x) (hxl : x.length ≤ 90000) {v hv : Value} (l : List OpE) (hs : List Int) (hl : Sl opC w G v l) (hh : Sl intC w H hv hs) (hGF : ∀ b, G b → ¬ Foot b) (q : Nat) :
    Calls Try.prog 135 #[.pointer (some ⟨R, 0, none⟩), v, .int .u64 (q : Int), hv] w (BNo w Foot R x l q hs) := by
  obtain ⟨A, cap, rfl, h1, h2, h3, h4⟩ := hl.form
  have h3 : l.length ≤ 140737488355328 := h3
  obtain ⟨B, cap', rfl, g1, g2, g3, g4⟩ := hh.form
  have g3 : hs.length ≤ 140737488355328 := g3
  have HC := Lib.hid (r4_check w l hl)
  have Hl := Lib.hid hl
  have Hh := Lib.hid hh
  have H0 := Lib.hid h
  have Hg := Lib.hid hg
  have Hxl := Lib.hid hxl
  have HGF := Lib.hid hGF
  clear h1 h2 h4 g1 g2 g4 hl hh h hGF hg hxl
  by_cases hc : bcheck l = 0
  rotate_left
  · have HN := Lib.hid fun w' (hx : Ext w w') => bno H0.out (batR_bad (last := lastX x) (q := q) (hs := hs) hc) hc hx
    generalize bcheck l = c at *
    have hcb : (c != 0) = true := by simpa using hc
    clear hc
    go_enter Try.func135, Try.ntmps135
    go_wp2_with (go_at_call 163; refine HC.out.mono ?_; rintro r w1 ⟨rfl, hx1⟩)
    go_ret
    exact HN.out _ hx1
  have Hck := Lib.hid hc
  rw [hc] at HC
  have hl64 : l.length ≤ 64 := by
    apply Classical.byContradiction; intro h; unfold bcheck at hc; rw [if_pos (by omega)] at hc; cases hc
  clear hc
  by_cases hq : q = 0 ∨ 72057594037927935 < q ∨ 72057594037927935 < q + (max l.length 1 - 1)
  · have HN := Lib.hid fun w' (hx : Ext w w') => bno H0.out (batR_seq (last := lastX x) (hs := hs) Hck.out hq) (by decide) hx
    by_cases q0 : q = 0
    · subst q0
      clear hq
      go_enter Try.func135, Try.ntmps135
      go_wp2_with (go_at_call 163; refine HC.out.mono ?_; rintro r w1 ⟨rfl, hx1⟩)
      go_ret
      exact HN.out _ hx1
    · have q0' : decide ((q : Int) < 1) = false := by rw [decide_eq_false_iff_not]; omega
      by_cases q1 : 72057594037927935 < q
      · have q1' : decide ((72057594037927936 : Int) ≤ q) = true := by rw [decide_eq_true_iff]; omega
        clear hq q0 q1
        go_enter Try.func135, Try.ntmps135
        go_wp2_with (go_at_call 163; refine HC.out.mono ?_; rintro r w1 ⟨rfl, hx1⟩)
        go_ret
        exact HN.out _ hx1
      · have q1' : decide ((72057594037927936 : Int) ≤ q) = false := by rw [decide_eq_false_iff_not]; omega
        have q2 : 0 < l.length := by omega
        have q3 : decide ((72057594037927936 : Int) ≤ (q : Int) + l.length - 1) = true := by rw [decide_eq_true_iff]; omega
        have q4 : q ≤ 72057594037927935 := by omega
        clear hq q1
        go_enter Try.func135, Try.ntmps135
        go_wp2_with (go_at_call 163; refine HC.out.mono ?_; rintro r w1 ⟨rfl, hx1⟩)
        go_ret
        exact HN.out _ hx1
  obtain ⟨q0', q1', q4, q0, hcs⟩ := cases6 hl64 hq
  have HR0 := Lib.hid (batR_rest (last := lastX x) (hs := hs) Hck.out hq)
  have Hq := Lib.hid hq
  clear hq
  rcases hcs with hn0 | ⟨hn0, hn1⟩
  · go_enter Try.func135, Try.ntmps135
    go_wp2_with (go_at_call 163; refine HC.out.mono ?_; rintro r w1 ⟨rfl, hx1⟩; have HX1 := Lib.hid hx1; clear hx1)
    go_loopw [42] (fun s42 wr => ∃ i : Nat, i ≤ l.length ∧ s42 = .int .i64 i ∧ Ext w wr ∧ (∀ j (_ : j < i) (hj : j < hs.length), tallI hs[j])) (fun s42 _ => l.length - (intOf s42).toNat)
    case atStart => exact ⟨0, Nat.zero_le _, rfl, HX1.out, fun j hj => absurd hj (by omega)⟩
    case round =>
      obtain ⟨wo, rfl⟩ : ∃ x : World, x = wr := ⟨_, rfl⟩
      obtain ⟨i, hi1, rfl, hxi, hall⟩ := hrel
      have HXi := Lib.hid hxi
      have Hall := Lib.hid hall
      clear hxi hall
      by_cases hlt : i < l.length
      · exfalso; omega
      · obtain rfl : i = l.length := by omega
        have htall : tallL l.length hs := fun j hj hjl => Hall.out j hj hjl
        have hR1 := HR0.out
        rw [if_pos htall] at hR1
        have HLa := Lib.hid (r10_last (H0.out.ext HXi.out) Hg.out (by have := Hxl.out; omega))
        by_cases hla : q ≤ lastX x
        · rw [if_pos hla] at hR1
          have HN := Lib.hid fun w' (hx : Ext w w') => bno H0.out hR1 (by decide) hx
          clear hR1 htall
          generalize lastX x = last at *
          go_wp2_with (go_at_call 91; refine HLa.out.mono ?_; rintro r w2 ⟨rfl, hx2⟩)
          go_ret
          exact HN.out _ (HXi.out.ext hx2)
        · rw [if_neg hla] at hR1
          have HS : Hid (batX x l q hs = seqX x l q l.length) := Lib.hid (by unfold batX; rw [if_pos hR1])
          have HR1 := Lib.hid hR1
          have Hok := Lib.hid (batR_ok hR1)
          clear hR1 htall
          have hR1 := HR1.out
          have hlaw : Hid (lastX x < q) := Lib.hid (by omega)
          generalize hlg : lastX x = last at *
          have Hlg := Lib.hid hlg
          clear hlg hR1
          have h7 : ¬ q ≤ last := hla
          clear hla
          go_wp2_with (go_at_call 91; refine HLa.out.mono ?_; rintro r w2 ⟨rfl, hx2⟩; have HX2 := Lib.hid (HXi.out.ext hx2); clear hx2)
          go_loopw [70] (fun s70 wr => ∃ k : Nat, k ≤ l.length ∧ s70 = .int .i64 k ∧ Out Foot w wr ∧ Rx wr (fun b => Foot b ∨ w.heap.size ≤ b) R (seqX x l q k)) (fun s70 _ => l.length - (intOf s70).toNat)
          case atStart => exact ⟨0, Nat.zero_le _, rfl, Ext.out HX2.out _, (H0.out.ext HX2.out).mono fun b _ hb => .inl hb⟩
          case round =>
            obtain ⟨wp, rfl⟩ : ∃ x : World, x = wr := ⟨_, rfl⟩
            obtain ⟨k, hk, rfl, ho, hx⟩ := hrel
            have HOk := Lib.hid ho
            have hzk := ho.size
            clear ho
            by_cases hlk : k < l.length
            · exfalso; omega
            · obtain rfl : k = l.length := by omega
              go_wp2
              go_ret
              exact ⟨ret_of (by rw [Hlg.out]; exact HR1.out.symm), HOk.out, by rw [HS.out]; exact hx⟩
  · go_enter Try.func135, Try.ntmps135
    go_wp2_with (go_at_call 163; refine HC.out.mono ?_; rintro r w1 ⟨rfl, hx1⟩; have HX1 := Lib.hid hx1; clear hx1)
    go_loopw [42] (fun s42 wr => ∃ i : Nat, i ≤ l.length ∧ s42 = .int .i64 i ∧ Ext w wr ∧ (∀ j (_ : j < i) (hj : j < hs.length), tallI hs[j])) (fun s42 _ => l.length - (intOf s42).toNat)
    case atStart => exact ⟨0, Nat.zero_le _, rfl, HX1.out, fun j hj => absurd hj (by omega)⟩
    case round =>
      obtain ⟨wo, rfl⟩ : ∃ x : World, x = wr := ⟨_, rfl⟩
      obtain ⟨i, hi1, rfl, hxi, hall⟩ := hrel
      have HXi := Lib.hid hxi
      have Hall := Lib.hid hall
      clear hxi hall
      by_cases hlt : i < l.length
      · by_cases hih : i < hs.length
        · obtain ⟨b, off, rfl, -, c0⟩ := (Hh.out.ext HXi.out).int i hih
          by_cases ht : tallI hs[i]
          · have t0' : decide (hs[i] < 1) = false := decide_eq_false (by unfold tallI at ht; omega)
            have t1' : decide (8 < hs[i]) = false := decide_eq_false (by unfold tallI at ht; omega)
            have Ht := Lib.hid ht
            clear ht
            go_wp2
            go_roundw
            case rel => exact ⟨i + 1, by omega, by go_num, HXi.out, fun j hj hjl => by
              rcases Nat.lt_or_ge j i with h | h
              · exact Hall.out j h hjl
              · obtain rfl : j = i := by omega
                exact Ht.out⟩
            case measure => simp [intOf]; omega
          · have hR : batR (lastX x) l q hs = 1 := by rw [HR0.out, if_neg (fun h => ht (h i hlt hih))]
            have HN := Lib.hid (bno H0.out hR (by decide) HXi.out)
            clear hR
            by_cases t0 : hs[i] < 1
            · have t0' : decide (hs[i] < 1) = true := decide_eq_true t0
              clear t0 ht
              go_wp2
              go_ret
              exact HN.out
            · have t0' : decide (hs[i] < 1) = false := decide_eq_false t0
              have t1' : decide (8 < hs[i]) = true := decide_eq_true (by unfold tallI at ht; omega)
              clear t0 ht
              go_wp2
              go_ret
              exact HN.out
        · go_wp2
          go_roundw
          case rel => exact ⟨i + 1, by omega, by go_num, HXi.out, fun j hj hjl => by
            rcases Nat.lt_or_ge j i with h | h
            · exact Hall.out j h hjl
            · omega⟩
          case measure => simp [intOf]; omega
      · obtain rfl : i = l.length := by omega
        have htall : tallL l.length hs := fun j hj hjl => Hall.out j hj hjl
        have hR1 := HR0.out
        rw [if_pos htall] at hR1
        have HLa := Lib.hid (r10_last (H0.out.ext HXi.out) Hg.out (by have := Hxl.out; omega))
        by_cases hla : q ≤ lastX x
        · rw [if_pos hla] at hR1
          have HN := Lib.hid fun w' (hx : Ext w w') => bno H0.out hR1 (by decide) hx
          clear hR1 htall
          generalize lastX x = last at *
          go_wp2_with (go_at_call 91; refine HLa.out.mono ?_; rintro r w2 ⟨rfl, hx2⟩)
          go_ret
          exact HN.out _ (HXi.out.ext hx2)
        · rw [if_neg hla] at hR1
          have HS : Hid (batX x l q hs = seqX x l q l.length) := Lib.hid (by unfold batX; rw [if_pos hR1])
          have HR1 := Lib.hid hR1
          have Hok := Lib.hid (batR_ok hR1)
          clear hR1 htall
          have hR1 := HR1.out
          have hlaw : Hid (lastX x < q) := Lib.hid (by omega)
          generalize hlg : lastX x = last at *
          have Hlg := Lib.hid hlg
          clear hlg hR1
          have h7 : ¬ q ≤ last := hla
          clear hla
          go_wp2_with (go_at_call 91; refine HLa.out.mono ?_; rintro r w2 ⟨rfl, hx2⟩; have HX2 := Lib.hid (HXi.out.ext hx2); clear hx2)
          go_loopw [70] (fun s70 wr => ∃ k : Nat, k ≤ l.length ∧ s70 = .int .i64 k ∧ Out Foot w wr ∧ Rx wr (fun b => Foot b ∨ w.heap.size ≤ b) R (seqX x l q k)) (fun s70 _ => l.length - (intOf s70).toNat)
          case atStart => exact ⟨0, Nat.zero_le _, rfl, Ext.out HX2.out _, (H0.out.ext HX2.out).mono fun b _ hb => .inl hb⟩
          case round =>
            obtain ⟨wp, rfl⟩ : ∃ x : World, x = wr := ⟨_, rfl⟩
            obtain ⟨k, hk, rfl, ho, hx⟩ := hrel
            have HOk := Lib.hid ho
            have hzk := ho.size
            clear ho
            by_cases hlk : k < l.length
            · obtain ⟨FO, vo, vs, h0, f1, f2, f3, f4⟩ := hx
              obtain ⟨O, on, oc, rfl⟩ := h0.ops.form0
              obtain ⟨S, sn, sc, rfl⟩ := h0.seqs.form0
              obtain ⟨bk, off, u, v, rfl, -, c0, c1, c2, hu, hv⟩ := (Hl.out.out HOk.out (fun b _ hb => HGF.out b hb)).op k hlk
              obtain ⟨U, N, n, rfl⟩ := hu.form0
              obtain ⟨X, K, kk, rfl⟩ := hv.form0
              have HSs := Lib.hid (seqX_succ (x := x) (q := q) hlk)
              have hsl := seqX_len x l q k (by omega)
              have hqk : q + k ≤ 72057594037927935 := Hok.out.2.2.2.2.1 k hlk
              generalize l[k] = o at *
              have x1 := Ext.alloc1 wp (.cells #[byteV o.kind, .slice U N n, .slice X K kk] 112)
              have hz := blk_new wp (.cells #[byteV o.kind, .slice U N n, .slice X K kk] 112)
              obtain ⟨z0, z1, z2, -⟩ := cells3 hz
              have HZ := Lib.hid hz
              have X1 := Lib.hid x1
              have H1 := Lib.hid (h0.ext x1)
              have HF := Lib.hid (And.intro f1 (And.intro f2 (And.intro f3 f4)))
              have Hu := Lib.hid (hu.ext x1)
              have Hv := Lib.hid (hv.ext x1)
              have HLn : Hid (((seqX x l q k).map (·.1)).length ≤ 100000 ∧ ((seqX x l q k).map fun p => UInt64.ofNat p.2).length ≤ 100000) := Lib.hid (by rw [List.length_map, List.length_map, hsl]; have := Hxl.out; omega)
              have Hlt := Lib.hid (And.intro h0.ltR (And.intro (fun b hb => (h0.ops.lt b hb).2) (And.intro (fun b hb => (h0.seqs.lt b hb).2) h0.lF)))
              have HXe : Hid ((seqX x l q (k + 1)).map (·.1) = (seqX x l q k).map (·.1) ++ [o] ∧ ((seqX x l q (k + 1)).map fun p => UInt64.ofNat p.2) = ((seqX x l q k).map fun p => UInt64.ofNat p.2) ++ [UInt64.ofNat (q + k)]) := Lib.hid (by rw [HSs.out]; simp)
              have Hq2 := Lib.hid hqk
              obtain ⟨r0, r1, rf⟩ := cells2 (x1.blk h0.blk (fun f => f))
              clear h0 f1 f2 f3 f4 hu hv x1 hz hsl
              generalize (seqX x l q k).map (·.1) = lo at *
              generalize ((seqX x l q k).map fun p => UInt64.ofNat p.2) = ls at *
              go_wp2
              have HX2 := Lib.hid (Out.refl (fun _ => False) (wp.alloc (.cells #[byteV o.kind, .slice U N n, .slice X K kk] 112))).drew
              refine region_B 11 (fun w' => w'.cell? ⟨R, 0, none⟩ = some (.slice O on oc) ∧ w'.cell? ⟨wp.heap.size, 0, none⟩ = some (byteV o.kind) ∧ w'.cell? ⟨wp.heap.size, 1, none⟩ = some (.slice U N n) ∧ w'.cell? ⟨wp.heap.size, 2, none⟩ = some (.slice X K kk)) (by kernel_rfl) ?q135_19S (fun hHeld0 => ?_)
              case q135_19S => ((first | go_keep | ((try dsimp only); exact ⟨by assumption, by assumption, by assumption, by assumption⟩)))
              refine anyB_take (i := 0) (oi := _) (v := ?q135_19v1) rfl (by kernel_rfl) (by kernel_rfl) (by kernel_rfl) (by kernel_rfl) (fun _ _ _ h => h) (Or.inl ⟨by rfl, ?q135_19h1⟩) (by assumption) ?q135_19r1
              case q135_19h1 => (intro w hSw; (try dsimp only at hSw); go_simp; try with_reducible rfl)
              (try simp only [List.getElem_toArray, List.getElem_cons_succ, List.getElem_cons_zero, Act.put, List.setIfInBounds_toArray, List.set_cons_zero, List.set_cons_succ])
              refine anyB_take (i := 1) (oi := _) (v := ?q135_19v2) rfl (by kernel_rfl) (by kernel_rfl) (by kernel_rfl) (by kernel_rfl) (fun _ _ _ h => h) (Or.inl ⟨by rfl, ?q135_19h2⟩) (by assumption) ?q135_19r2
              case q135_19h2 => (intro w hSw; (try dsimp only at hSw); go_simp; try with_reducible rfl)
              (try simp only [List.getElem_toArray, List.getElem_cons_succ, List.getElem_cons_zero, Act.put, List.setIfInBounds_toArray, List.set_cons_zero, List.set_cons_succ])
              refine anyB_take (i := 2) (oi := _) (v := ?q135_19v3) rfl (by kernel_rfl) (by kernel_rfl) (by kernel_rfl) (by kernel_rfl) (fun _ _ _ h => h) (Or.inl ⟨by rfl, ?q135_19h3⟩) (by assumption) ?q135_19r3
              case q135_19h3 => (intro w hSw; (try dsimp only at hSw); go_simp; try with_reducible rfl)
              (try simp only [List.getElem_toArray, List.getElem_cons_succ, List.getElem_cons_zero, Act.put, List.setIfInBounds_toArray, List.set_cons_zero, List.set_cons_succ])
              refine anyB_take (i := 3) (oi := _) (v := ?q135_19v4) rfl (by kernel_rfl) (by kernel_rfl) (by kernel_rfl) (by kernel_rfl) (fun _ _ _ h => h) (Or.inl ⟨by rfl, ?q135_19h4⟩) (by assumption) ?q135_19r4
              case q135_19h4 => (intro w hSw; (try dsimp only at hSw); go_simp; try with_reducible rfl)
              (try simp only [List.getElem_toArray, List.getElem_cons_succ, List.getElem_cons_zero, Act.put, List.setIfInBounds_toArray, List.set_cons_zero, List.set_cons_succ])
              refine anyB_take (i := 4) (oi := _) (v := ?q135_19v5) rfl (by kernel_rfl) (by kernel_rfl) (by kernel_rfl) (by kernel_rfl) (fun _ _ _ h => h) (Or.inl ⟨by rfl, ?q135_19h5⟩) (by assumption) ?q135_19r5
              case q135_19h5 => (intro w hSw; (try dsimp only at hSw); go_simp; try with_reducible rfl)
              (try simp only [List.getElem_toArray, List.getElem_cons_succ, List.getElem_cons_zero, Act.put, List.setIfInBounds_toArray, List.set_cons_zero, List.set_cons_succ])
              refine anyB_take (i := 5) (oi := _) (v := ?q135_19v6) rfl (by kernel_rfl) (by kernel_rfl) (by kernel_rfl) (by kernel_rfl) (fun _ _ _ h => h) (Or.inl ⟨by rfl, ?q135_19h6⟩) (by assumption) ?q135_19r6
              case q135_19h6 => (intro w hSw; (try dsimp only at hSw); go_simp; try with_reducible rfl)
              (try simp only [List.getElem_toArray, List.getElem_cons_succ, List.getElem_cons_zero, Act.put, List.setIfInBounds_toArray, List.set_cons_zero, List.set_cons_succ])
              refine anyB_step (i := 6) (o := _) (by kernel_rfl) (by rfl) (by (simp only [List.getElem?_toArray, List.getElem?_cons_succ, List.getElem?_cons_zero] <;> rfl)) (fun K hK => ?_)
              go_simp
              refine hK.out _ _ ?q135_19S7 (fun hHeld1 => ?_)
              case q135_19S7 => ((first | go_keep | ((try dsimp only); exact ⟨by assumption, by assumption, by assumption, by assumption⟩)))
              clear hK K hHeld0
              (try simp only [List.getElem_toArray, List.getElem_cons_succ, List.getElem_cons_zero, Act.put, List.setIfInBounds_toArray, List.set_cons_zero, List.set_cons_succ])
              refine anyB_step (i := 7) (o := _) (by kernel_rfl) (by rfl) (by (simp only [List.getElem?_toArray, List.getElem?_cons_succ, List.getElem?_cons_zero] <;> rfl)) (fun K hK => ?_)
              go_simp; go_at_call 133; refine (r4_copy1 (Hu.out.ext HX2.out) (Hv.out.ext HX2.out) _ (by simp)).mono ?_; rintro r w3 ⟨cv, rfl, hx3, ho3⟩; obtain ⟨A3, n3, c3, rfl⟩ := ho3.form0; have HX3 := Lib.hid ((HX2.out.alloc _).ext hx3); have hz3 := hx3.size; simp only [World.size_alloc, World.size_drew] at hz3; have HO3 := Lib.hid (ho3.sl (G := fun b => wp.heap.size ≤ b ∧ b < w3.heap.size) (by decide) (by show _ ≤ 140737488355328; simp) (fun b hb hlt => by simp only [World.size_alloc, World.size_drew] at hb; exact ⟨by omega, hlt⟩) (fun b hb hlt => by simp only [World.size_alloc, World.size_drew] at hb; exact ⟨by omega, hlt⟩)); have a0 := (cells2 (HX3.out.blk H1.out.blk (fun f => f))).1; obtain ⟨b0, b1, b2, -⟩ := cells3 (HX3.out.blk HZ.out (fun f => f)); clear hx3 ho3
              (try dsimp only)
              refine hK.out _ _ ?q135_19S8 (fun hHeld2 => ?_)
              case q135_19S8 => ((first | go_keep | ((try dsimp only); exact ⟨by assumption, by assumption, by assumption, by assumption⟩)))
              clear hK K hHeld1
              (try simp only [List.getElem_toArray, List.getElem_cons_succ, List.getElem_cons_zero, Act.put, List.setIfInBounds_toArray, List.set_cons_zero, List.set_cons_succ])
              refine anyB_step (i := 8) (o := _) (by kernel_rfl) (by rfl) (by (simp only [List.getElem?_toArray, List.getElem?_cons_succ, List.getElem?_cons_zero] <;> rfl)) (fun K hK => ?_)
              refine stp_append_sl (by rfl) (.tmp 79) (.tmp 82) 101 (by rfl) fits112 ((H1.out.ops.mono (G := fun b => (FO b ∨ wp.heap.size ≤ b) ∧ b ≠ R) (fun b hb _ => ⟨.inl hb, fun e => H1.out.cR (e ▸ hb)⟩)).ext HX3.out) (by rfl) (Nat.zero_le _) HO3.out (by rfl) (fun i hi cs hc => opC.mono hc (fun b hb hlb => ⟨⟨.inr hb.1, fun e => by have := Hlt.out.1; omega⟩, fun e => by have := Hlt.out.2.1 b e; omega⟩)) (by have := HLn.out.1; simp; omega) (by decide) ?_; intro v9 w9 g1 g2 g3; obtain ⟨A9, k9, m9, rfl⟩ := g1.form0; have G1 := Lib.hid g1; have G2 := Lib.hid g2; have G3 := Lib.hid g3; have HB9 := Lib.hid (g2.blk (HX3.out.blk H1.out.blk (fun f => f)) H1.out.oR); obtain ⟨c0, -, cf⟩ := cells2 HB9.out; obtain ⟨d0, d1, d2, -⟩ := cells3 (g2.blk (HX3.out.blk HZ.out (fun f => f)) (fun e => by have := Hlt.out.2.1 _ e; omega)); clear g1 g2 g3
              refine hK.out _ _ ?q135_19S9 (fun hHeld3 => ?_)
              case q135_19S9 => ((first | go_keep | ((try dsimp only); exact ⟨by assumption, by assumption, by assumption, by assumption⟩)))
              clear hK K hHeld2
              (try simp only [List.getElem_toArray, List.getElem_cons_succ, List.getElem_cons_zero, Act.put, List.setIfInBounds_toArray, List.set_cons_zero, List.set_cons_succ])
              refine anyB_step (i := 9) (o := _) (by kernel_rfl) (by rfl) (by (simp only [List.getElem?_toArray, List.getElem?_cons_succ, List.getElem?_cons_zero] <;> rfl)) (fun K hK => ?_)
              go_simp
              refine hK.out _ _ ?q135_19S10 (fun hHeld4 => ?_)
              case q135_19S10 => ((first | go_keep | ((try dsimp only); exact ⟨by assumption, by assumption, by assumption, by assumption⟩)))
              clear hK K hHeld3
              (try simp only [List.getElem_toArray, List.getElem_cons_succ, List.getElem_cons_zero, Act.put, List.setIfInBounds_toArray, List.set_cons_zero, List.set_cons_succ])
              refine anyB_take (i := 10) (oi := _) (v := ?q135_19v11) rfl (by kernel_rfl) (by kernel_rfl) (by kernel_rfl) (by kernel_rfl) (fun _ _ _ h => h) (Or.inl ⟨by rfl, ?q135_19h11⟩) (by assumption) ?q135_19r11
              case q135_19h11 => (intro w hSw; (try dsimp only at hSw); go_simp; try with_reducible rfl)
              (try simp only [List.getElem_toArray, List.getElem_cons_succ, List.getElem_cons_zero, Act.put, List.setIfInBounds_toArray, List.set_cons_zero, List.set_cons_succ])
              refine anyB_last (i := 11) (o := _) (by kernel_rfl) (by rfl) (by (simp only [List.getElem?_toArray, List.getElem?_cons_succ, List.getElem?_cons_zero] <;> rfl)) (fun K hK => ?_)
              go_simp
              refine hK.out _ _ ?_
              clear hK K
              (try simp only [List.getElem_toArray, List.getElem_cons_succ, List.getElem_cons_zero, Act.put, List.setIfInBounds_toArray, List.set_cons_zero, List.set_cons_succ])
              refine anyB_done (by kernel_rfl) ?_ _
              have hA := RxAt.setO (H1.out.ext HX3.out) G1.out G2.out G3.out (fun hc => hc.2 rfl) (fun b hb hc => hc.1.elim (fun hc => H1.out.cS b hb hc) (fun hc => by have := Hlt.out.2.2.1 b hb; omega))
              have ho9 : Out (fun b => Foot b ∨ w.heap.size ≤ b) wp (w9.setCell ⟨R, 0, none⟩ (.slice A9 k9 m9)) := ((Ext.out (X1.out.ext HX3.out) (fun b => Foot b ∨ w.heap.size ≤ b)).trans (G2.out.mono (fun b _ e => HF.out.2.2.1 b e))).setCell (p := ⟨R, 0, none⟩) (fun _ => HF.out.2.1) _
              have HA := Lib.hid hA
              have HO9 := Lib.hid ho9
              have hs9 := G2.out.size
              have hg3 : ∀ b, (Value.slice A9 k9 m9).ownBlock = some b → (Foot b ∨ w.heap.size ≤ b) := fun b e => G3.out.elim (fun h => HF.out.2.2.1 b (h ▸ e)) (fun h => .inr (by rw [h] at e; injection e with e; omega))
              have HG3 := Lib.hid hg3
              obtain ⟨e0, e1, ef⟩ := cells2 hA.blk
              clear hA ho9 hg3
              generalize w9.setCell ⟨R, 0, none⟩ (.slice A9 k9 m9) = wk at *
              go_wp2_with (at_builtin; refine wpList_append_one rfl (.tmp 90) (.tmp 95) 83 rfl fits83 (HA.out.seqs.ext (Ext.alloc1 _ _)) rfl (Nat.zero_le _) (blk_new _ _) rfl (UInt64.ofNat (q + k)) (num_rep (q + k) (by have := Hq2.out; omega)) (by have := HLn.out.2; omega) (by decide) ?_; intro v' w5 g1 g2 g3; obtain ⟨A6, n6, c6, rfl⟩ := g1.form0; have G51 := Lib.hid g1; have G52 := Lib.hid g2; have G53 := Lib.hid g3; obtain ⟨j0, j1, jf⟩ := cells2 (g2.blk (blk_alloc HA.out.blk _) HA.out.sR); clear g1 g2 g3)
              go_roundw
              have hB := RxAt.setS (HA.out.ext (Ext.alloc1 _ _)) G51.out G52.out G53.out
              have hs5 := HO9.out.size
              case rel => exact ⟨k + 1, by omega, by go_num, HOk.out.then (((HO9.out.alloc _).trans (G52.out.mono (fun b _ e => HF.out.2.2.2 b e))).setCell (p := ⟨R, 1, none⟩) (fun _ => HF.out.2.1) _) (fun b hb hF => hF.elim id (fun h => by omega)), by unfold Rx; rw [HXe.out.1, HXe.out.2]; exact ⟨_, _, _, hB, (fun b hb => hb.1.1.elim (fun h => HF.out.1 b h) (fun h => .inr (by omega))), HF.out.2.1, HG3.out, fun b e => G53.out.elim (fun h => HF.out.2.2.2 b (h ▸ e)) (fun h => .inr (by rw [h] at e; injection e with e; simp only [World.size_alloc] at e; omega))⟩⟩
              case measure => simp [intOf]; omega
            · obtain rfl : k = l.length := by omega
              go_wp2
              go_ret
              exact ⟨ret_of (by rw [Hlg.out]; exact HR1.out.symm), HOk.out, by rw [HS.out]; exact hx⟩
end
end Go.Proofs.Yteaanagljmcidaa
