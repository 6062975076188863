/- memo: Do, Size, Last, Entries, Spans; of none, too. -/
import Derived.Test.YteaanagljmcidaaMemoA
namespace Go.Proofs.Yteaanagljmcidaa
open Go.RowKit

attribute [local go_sem ↓] Go.wp_at_zero Go.wp_at_succ
section
variable {w w' : World} {Foot G : Nat → Prop} {M L T : Nat} {v : Value} {m : List (Ent × Nat)} {l : List SpanE} {sz : Int} {last : Nat} {FS FT : Nat → Prop}

theorem memo_size (h : Mm w Foot M m l sz last) : Calls Try.prog 84 #[.pointer (some ⟨M, 0, none⟩)] w fun e w' => e = .returned (.int .i64 sz) ∧ w = w' := by
  obtain ⟨FS, FT, L, T, v, h0, -⟩ := h
  obtain ⟨m0, m1, m2, m3, mf⟩ := cells4 h0.blk
  clear h0
  go_enter Try.func84, Try.ntmps84
  go_wp2
  go_ret
  exact ⟨rfl, rfl⟩
theorem memo_last (h : Mm w Foot M m l sz last) : Calls Try.prog 76 #[.pointer (some ⟨M, 0, none⟩)] w fun e w' => e = .returned (.int .u64 (last : Int)) ∧ w = w' := by
  obtain ⟨FS, FT, L, T, v, h0, -⟩ := h
  obtain ⟨m0, m1, m2, m3, mf⟩ := cells4 h0.blk
  clear h0
  go_enter Try.func76, Try.ntmps76
  go_wp2
  go_ret
  exact ⟨rfl, rfl⟩
theorem memo_entries (h : Mm w Foot M m l sz last) : Calls Try.prog 89 #[.pointer (some ⟨M, 0, none⟩)] w (OwnedM entC 32 w (m.map (·.1))) := by
  obtain ⟨FS, FT, L, T, v, h0, -⟩ := h
  obtain ⟨m0, m1, m2, m3, mf⟩ := cells4 h0.blk
  have HC := Lib.hid (sk_allM h0.sk)
  clear h0
  go_enter Try.func89, Try.ntmps89
  go_wp2_with (go_at_call 33; refine HC.out.mono ?_; rintro r w1 ⟨u, rfl, hx1, hb1⟩)
  go_ret
  exact ⟨_, rfl, hx1, hb1⟩
theorem memo_spans (h : Mm w Foot M m l sz last) (hl : l.length ≤ 1000000) : Calls Try.prog 90 #[.pointer (some ⟨M, 0, none⟩)] w (OwnedM spanC 92 w l) := by
  obtain ⟨FS, FT, L, T, v, h0, -⟩ := h
  obtain ⟨m0, m1, m2, m3, mf⟩ := cells4 h0.blk
  have HC := Lib.hid (tomb_all h0.tb hl)
  clear h0
  go_enter Try.func90, Try.ntmps90
  go_wp2_with (go_at_call 123; refine HC.out.mono ?_; rintro r w1 ⟨u, rfl, hx1, hb1⟩)
  go_ret
  exact ⟨_, rfl, hx1, hb1⟩

theorem memo_sizeN (w : World) : Calls Try.prog 84 #[.pointer none] w fun e w' => e = .returned (.int .i64 0) ∧ w = w' := by
  go_enter Try.func84, Try.ntmps84
  go_wp2
  go_ret
  exact ⟨rfl, rfl⟩
theorem memo_lastN (w : World) : Calls Try.prog 76 #[.pointer none] w fun e w' => e = .returned (.int .u64 0) ∧ w = w' := by
  go_enter Try.func76, Try.ntmps76
  go_wp2
  go_ret
  exact ⟨rfl, rfl⟩
theorem memo_entriesN (w : World) : Calls Try.prog 89 #[.pointer none] w fun e w' => e = .returned (.slice none 0 0) ∧ w = w' := by
  go_enter Try.func89, Try.ntmps89
  go_wp2
  go_ret
  exact ⟨rfl, rfl⟩
theorem memo_spansN (w : World) : Calls Try.prog 90 #[.pointer none] w fun e w' => e = .returned (.slice none 0 0) ∧ w = w' := by
  go_enter Try.func90, Try.ntmps90
  go_wp2
  go_ret
  exact ⟨rfl, rfl⟩

/-- What Do answers. -/
def doR (last : Nat) (o : OpE) (q : Nat) (ht : Int) : Int :=
  if ocheck o ≠ 0 then ocheck o else if q = 0 ∨ 72057594037927935 < q then 13 else if ht < 1 ∨ 8 < ht then 1 else if q ≤ last then 10 else 0

set_option maxRecDepth 100000 in
set_option maxHeartbeats 4000000 in
theorem memo_doNo (h : Mm w Foot M m l sz last) {u x : Value} (o : OpE) (hu : Bs w G u o.key) (hx : Bs w G x o.val) (q : Nat) (ht : Int) (hr : doR last o q ht ≠ 0) :
    Calls Try.prog 86 #[.pointer (some ⟨M, 0, none⟩), .agg #[byteV o.kind, u, x], .int .u64 (q : Int), .int .i64 ht] w fun e w' => e = .returned (.int .i64 (doR last o q ht)) ∧ Ext w w' := by
  obtain ⟨FS, FT, L, T, v, h0, -⟩ := h
  obtain ⟨U, N, n, rfl⟩ := hu.form0
  obtain ⟨X, K, k, rfl⟩ := hx.form0
  have x1 := Ext.alloc1 w (.cells #[byteV o.kind, .slice U N n, .slice X K k] 112)
  obtain ⟨z0, z1, z2, -⟩ := cells3 (blk_new w (.cells #[byteV o.kind, .slice U N n, .slice X K k] 112))
  have HC := Lib.hid (batch_check1 (w.alloc (.cells #[byteV o.kind, .slice U N n, .slice X K k] 112)) o (hu.ext x1) (hx.ext x1))
  have HM := Lib.hid (x1.blk h0.blk (fun f => f))
  have X1 := Lib.hid x1
  clear h0 hu hx x1
  unfold doR at *
  generalize ocheck o = c at *
  by_cases hc : c = 0
  · subst hc
    by_cases h2 : q = 0 ∨ 72057594037927935 < q
    · have hr' := Lib.hid hr
      clear hr
      by_cases h3 : q = 0
      · subst h3
        clear h2
        go_enter Try.func86, Try.ntmps86
        go_wp2_with (go_at_call 143; refine HC.out.mono ?_; rintro r w1 ⟨rfl, hx1⟩)
        go_ret
        exact ⟨by simp, X1.out.ext hx1⟩
      · have h4 : 72057594037927935 < q := by omega
        have h4' := Lib.hid h4
        clear h2
        go_enter Try.func86, Try.ntmps86
        go_wp2_with (go_at_call 143; refine HC.out.mono ?_; rintro r w1 ⟨rfl, hx1⟩)
        go_ret
        exact ⟨by simp [h4'.out], X1.out.ext hx1⟩
    · by_cases h3 : ht < 1 ∨ 8 < ht
      · have HT : Hid (∀ w, Calls Try.prog 144 #[.int .i64 ht] w fun e w' => e = .returned (.bool false) ∧ w = w') := Lib.hid fun w => by have := memo_tall w ht; rwa [show decide (1 ≤ ht ∧ ht ≤ 8) = false from by simp; omega] at this
        have HR : Hid ((if (0 : Int) ≠ 0 then (0 : Int) else if q = 0 ∨ 72057594037927935 < q then 13 else if ht < 1 ∨ 8 < ht then 1 else if q ≤ last then 10 else 0) = 1) := Lib.hid (by rw [if_neg (by simp), if_neg h2, if_pos h3])
        clear hr
        rw [HR.out]
        clear HR h3
        have h5 : ¬ q = 0 := by omega
        have h6 : q ≤ 72057594037927935 := by omega
        have hq0 : ((q : Int) == 0) = false := by rw [beq_eq_false_iff_ne]; omega
        have hq1 : decide ((72057594037927935 : Int) < q) = false := by rw [decide_eq_false_iff_not]; omega
        clear h2
        go_enter Try.func86, Try.ntmps86
        go_wp2_with (first | (go_at_call 143; refine HC.out.mono ?_; rintro r w1 ⟨rfl, hx1⟩) | (go_at_call 144; refine (HT.out _).mono ?_; rintro r w2 ⟨rfl, rfl⟩))
        go_ret
        exact ⟨rfl, X1.out.ext hx1⟩
      · have HT : Hid (∀ w, Calls Try.prog 144 #[.int .i64 ht] w fun e w' => e = .returned (.bool true) ∧ w = w') := Lib.hid fun w => by have := memo_tall w ht; rwa [show decide (1 ≤ ht ∧ ht ≤ 8) = true from by simp; omega] at this
        have h7 : q ≤ last := by
          apply Classical.byContradiction; intro h7
          rw [if_neg (by simp), if_neg h2, if_neg h3, if_neg h7] at hr; exact hr rfl
        have HR : Hid ((if (0 : Int) ≠ 0 then (0 : Int) else if q = 0 ∨ 72057594037927935 < q then 13 else if ht < 1 ∨ 8 < ht then 1 else if q ≤ last then 10 else 0) = 10) := Lib.hid (by rw [if_neg (by simp), if_neg h2, if_neg h3, if_pos h7])
        clear hr
        rw [HR.out]
        clear HR h3
        have h5 : ¬ q = 0 := by omega
        have h6 : q ≤ 72057594037927935 := by omega
        have hq0 : ((q : Int) == 0) = false := by rw [beq_eq_false_iff_ne]; omega
        have hq1 : decide ((72057594037927935 : Int) < q) = false := by rw [decide_eq_false_iff_not]; omega
        clear h2
        go_enter Try.func86, Try.ntmps86
        go_wp2_with (first | (go_at_call 143; refine HC.out.mono ?_; rintro r w1 ⟨rfl, hx1⟩; obtain ⟨m0, m1, m2, m3, mf⟩ := cells4 (hx1.blk HM.out (fun f => f))) | (go_at_call 144; refine (HT.out _).mono ?_; rintro r w2 ⟨rfl, rfl⟩))
        go_ret
        exact ⟨rfl, X1.out.ext hx1⟩
  · have hcb : (c != 0) = true := by simpa using hc
    have HR : Hid ((if c ≠ 0 then c else if q = 0 ∨ 72057594037927935 < q then 13 else if ht < 1 ∨ 8 < ht then 1 else if q ≤ last then 10 else 0) = c) := Lib.hid (if_pos hc)
    rw [HR.out]
    clear hr HR hc
    go_enter Try.func86, Try.ntmps86
    go_wp2_with (go_at_call 143; refine HC.out.mono ?_; rintro r w1 ⟨rfl, hx1⟩)
    go_ret
    exact ⟨rfl, X1.out.ext hx1⟩

set_option maxRecDepth 100000 in
set_option maxHeartbeats 4000000 in
theorem memo_do (h : Mm w Foot M m l sz last) {u x : Value} (o : OpE) (hG : ∀ b, G b → b < w.heap.size) (hu : Bs w G u o.key) (hx : Bs w G x o.val) (q : Nat) (hm : m.length < 90000) (hl : l.length ≤ 90000) (hs0 : 0 ≤ sz) (hs1 : sz ≤ 1000000000000) (ht : Int) (hr : doR last o q ht = 0) :
    Calls Try.prog 86 #[.pointer (some ⟨M, 0, none⟩), .agg #[byteV o.kind, u, x], .int .u64 (q : Int), .int .i64 ht] w fun e w' => e = .returned (.int .i64 0) ∧ Out Foot w w' ∧
      Mm w' (fun b => Foot b ∨ w.heap.size ≤ b) M (putM m o q ht) (putL l o q) (sz + opW o) q := by
  have hlast : ∃ L T, w.heap[M]? = some (.cells #[.pointer (some ⟨L, 0, none⟩), .pointer (some ⟨T, 0, none⟩), .int .i64 sz, .int .u64 (last : Int)] 183) := by
    obtain ⟨FS, FT, L, T, v, h0, -⟩ := h; exact ⟨L, T, h0.blk⟩
  obtain ⟨L, T, hMb⟩ := hlast
  unfold doR at hr
  have h1 : ocheck o = 0 := by
    apply Classical.byContradiction; intro hc; rw [if_pos hc] at hr; exact hc hr
  rw [if_neg (by simpa using h1)] at hr
  have h2 : ¬ (q = 0 ∨ 72057594037927935 < q) := fun hc => by rw [if_pos hc] at hr; cases hr
  rw [if_neg h2] at hr
  have h3 : ¬ (ht < 1 ∨ 8 < ht) := fun hc => by rw [if_pos hc] at hr; cases hr
  rw [if_neg h3] at hr
  have h4 : ¬ q ≤ last := fun hc => by rw [if_pos hc] at hr; cases hr
  clear hr
  have HT : Hid (∀ w, Calls Try.prog 144 #[.int .i64 ht] w fun e w' => e = .returned (.bool true) ∧ w = w') := Lib.hid fun w => by have := memo_tall w ht; rwa [show decide (1 ≤ ht ∧ ht ≤ 8) = true from by simp; omega] at this
  obtain ⟨U, N, n, rfl⟩ := hu.form0
  obtain ⟨X, K, k, rfl⟩ := hx.form0
  have x1 := Ext.alloc1 w (.cells #[byteV o.kind, .slice U N n, .slice X K k] 112)
  have hz := blk_new w (.cells #[byteV o.kind, .slice U N n, .slice X K k] 112)
  obtain ⟨z0, z1, z2, -⟩ := cells3 hz
  have hC := batch_check1 (w.alloc (.cells #[byteV o.kind, .slice U N n, .slice X K k] 112)) o (hu.ext x1) (hx.ext x1)
  rw [h1] at hC
  have HC := Lib.hid hC
  have HM := Lib.hid (x1.blk hMb (fun f => f))
  have HZ := Lib.hid hz
  have X1 := Lib.hid x1
  have H0 := Lib.hid h
  have Hu := Lib.hid hu
  have Hx := Lib.hid hx
  have Hok := Lib.hid h1
  have HGl := Lib.hid hG
  have HM0 := Lib.hid hm
  have HL0 := Lib.hid hl
  have h5 : ¬ q = 0 := by omega
  have h6 : q ≤ 72057594037927935 := by omega
  have hq0 : ((q : Int) == 0) = false := by rw [beq_eq_false_iff_ne]; omega
  have hq1 : decide ((72057594037927935 : Int) < q) = false := by rw [decide_eq_false_iff_not]; omega
  have h7 : ¬ (q : Int) ≤ last := by omega
  clear h hu hx x1 hz hC h1 h2 h3 hMb hG hm hl
  go_enter Try.func86, Try.ntmps86
  go_wp2_with (first
    | (go_at_call 143; refine HC.out.mono ?_; rintro r w1 ⟨rfl, hx1⟩; obtain ⟨m0, m1, m2, m3, mf⟩ := cells4 (hx1.blk HM.out (fun f => f)); obtain ⟨y0, y1, y2, -⟩ := cells3 (hx1.blk HZ.out (fun f => f)); have HX1 := Lib.hid (X1.out.ext hx1); clear hx1)
    | (go_at_call 144; refine (HT.out _).mono ?_; rintro r w2 ⟨rfl, rfl⟩)
    | (go_at_call 145; refine (memo_put (H0.out.ext HX1.out) o (fun b hb => Nat.lt_of_lt_of_le (HGl.out b hb) HX1.out.size) (Hu.out.ext HX1.out) (Hx.out.ext HX1.out) q Hok.out (by omega) (by omega) HM0.out HL0.out hs0 hs1 ht).mono ?_; rintro r w3 ⟨rfl, ho3, hm3⟩; have Ho3 := Lib.hid ho3; have Hm3 := Lib.hid hm3; clear ho3 hm3))
  go_ret
  exact ⟨rfl, (Ext.out HX1.out _).trans Ho3.out, Hm3.out.mono fun b _ hb => hb.imp id fun h => Nat.le_trans HX1.out.size h⟩

theorem memo_doN (w : World) {u x : Value} (o : OpE) (hu : Bs w G u o.key) (hx : Bs w G x o.val) (q : Nat) (ht : Int) :
    Calls Try.prog 86 #[.pointer none, .agg #[byteV o.kind, u, x], .int .u64 (q : Int), .int .i64 ht] w fun e w' => e = .returned (.int .i64 6) ∧ Ext w w' := by
  obtain ⟨U, N, n, rfl⟩ := hu.form0
  obtain ⟨X, K, k, rfl⟩ := hx.form0
  clear hu hx
  go_enter Try.func86, Try.ntmps86
  go_wp2
  go_ret
  exact ⟨rfl, Ext.alloc1 _ _⟩
end
end Go.Proofs.Yteaanagljmcidaa
