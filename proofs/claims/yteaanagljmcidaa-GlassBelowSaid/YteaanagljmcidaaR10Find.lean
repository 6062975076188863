/- ref10: Find. -/
import Derived.Test.YteaanagljmcidaaR9
import Derived.Test.YteaanagljmcidaaPkC
namespace Go.Proofs.Yteaanagljmcidaa
open Go.RowKit

attribute [local go_sem ↓] Go.wp_at_zero Go.wp_at_succ

theorem findStep_no {key : List UInt8} {q : Nat} {a : Nat × List UInt8 × Int} {e : Ent} (h : ¬ (e.key.user = key ∧ e.key.seq.toNat ≤ q ∧ (a.2.2 = 0 ∨ a.1 < e.key.seq.toNat))) : findStep key q a e = a := if_neg h
theorem findStep_yes {key : List UInt8} {q : Nat} {a : Nat × List UInt8 × Int} {e : Ent} (h : e.key.user = key ∧ e.key.seq.toNat ≤ q ∧ (a.2.2 = 0 ∨ a.1 < e.key.seq.toNat)) : findStep key q a e = (e.key.seq.toNat, if e.key.kind.toNat = 1 then ([], 2) else (e.value, 1)) := if_pos h

set_option maxRecDepth 100000 in
set_option maxHeartbeats 8000000 in
theorem r10_find (w : World) {F G H : Nat → Prop} {xv sv kv : Value} (E : List Ent) (L : List SpanE) (hE : Sl entC w F xv E) (hL : Sl spanC w G sv L) (key : List UInt8) (hk : Bs w H kv key) (q : Nat) :
    Calls Try.prog 88 #[xv, sv, kv, .int .u64 (q : Int)] w (Got w (findE E L key q)) := by
  obtain ⟨A, cap, rfl, h1, h2, h3, h4⟩ := hE.form
  have h3 : E.length ≤ 140737488355328 := h3
  obtain ⟨B, m, cap', rfl⟩ := hL.form0
  obtain ⟨X, N, n, rfl⟩ := hk.form0
  have HE := Lib.hid hE
  have HL := Lib.hid hL
  have HK := Lib.hid hk
  clear h1 h2 h4 hE hL hk
  go_enter Try.func88, Try.ntmps88
  go_wp2
  go_loopw [10, 11, 12, 18] (fun s10 s11 s12 s18 wr => ∃ i : Nat, i ≤ E.length ∧ s18 = .int .i64 i ∧ s10 = .int .u64 ((findF (E.take i) key q).1 : Nat) ∧ s12 = .int .i64 (findF (E.take i) key q).2.2 ∧ Bs wr F s11 (findF (E.take i) key q).2.1 ∧ Ext w wr) (fun _ _ _ s18 _ => E.length - (intOf s18).toNat)
  case atStart => exact ⟨0, Nat.zero_le _, rfl, rfl, rfl, Sl.nil _ _ _, Out.refl _ _⟩
  case round =>
    obtain ⟨wo, rfl⟩ : ∃ x : World, x = wr := ⟨_, rfl⟩
    obtain ⟨i, hi, rfl, rfl, rfl, hbv, hx⟩ := hrel
    obtain ⟨V, vn, vc, rfl⟩ := hbv.form0
    have HX := Lib.hid hx
    by_cases hlt : i < E.length
    · obtain ⟨b1, o1, u1, v1, rfl, -, c0, c1, c2, c3, hu, hv⟩ := (HE.out.ext HX.out).ent i hlt
      obtain ⟨U, n1, q1, rfl⟩ := hu.form0
      obtain ⟨Y, n2, q2, rfl⟩ := hv.form0
      have hs := findF_succ hlt key q
      obtain ⟨a, ha⟩ : ∃ a, findF (E.take i) key q = a := ⟨_, rfl⟩
      rw [ha] at hs hbv
      rw [ha]
      have Hs := Lib.hid hs
      obtain ⟨best, val, st⟩ := a
      dsimp only at *
      have x1 := Ext.alloc1 wo (.cells #[.slice U n1 q1, u64V E[i].key.seq, byteV E[i].key.kind, .slice Y n2 q2] 32)
      have hz := blk_new wo (.cells #[.slice U n1 q1, u64V E[i].key.seq, byteV E[i].key.kind, .slice Y n2 q2] 32)
      obtain ⟨z0, z1, z2, z3, -⟩ := cells4 hz
      have HC := r1_same (wo.alloc (.cells #[.slice U n1 q1, u64V E[i].key.seq, byteV E[i].key.kind, .slice Y n2 q2] 32)) (hu.ext x1) ((HK.out.ext HX.out).ext x1)
      have HX1 := Lib.hid (HX.out.ext x1)
      have Hbv := Lib.hid (hbv.ext x1)
      have Hv := Lib.hid (hv.ext x1)
      clear hu hv hbv hx hs ha x1 hz
      generalize E[i] = e at *
      by_cases hue : e.key.user = key
      rotate_left
      · have hf : (e.key.user == key) = false := by simpa using hue
        rw [hf] at HC
        have HC := Lib.hid HC
        have Hn := Lib.hid (findStep_no (key := key) (q := q) (a := (best, val, st)) (e := e) fun h => hue h.1)
        clear hf hue
        go_wp2_with (go_at_call 74; refine HC.out.mono ?_; rintro r w1 ⟨rfl, rfl⟩)
        go_roundw
        case rel => exact ⟨i + 1, by omega, by go_num, by rw [Hs.out, Hn.out], by rw [Hs.out, Hn.out], by rw [Hs.out, Hn.out]; exact Hbv.out, HX1.out⟩
        case measure => simp [intOf]; omega
      have hf : (e.key.user == key) = true := by simpa using hue
      rw [hf] at HC
      have HC := Lib.hid HC
      clear hf
      by_cases hsq : e.key.seq.toNat ≤ q
      rotate_left
      · have Hn := Lib.hid (findStep_no (key := key) (q := q) (a := (best, val, st)) (e := e) fun h => hsq h.2.1)
        clear hue
        go_wp2_with (go_at_call 74; refine HC.out.mono ?_; rintro r w1 ⟨rfl, rfl⟩)
        go_roundw
        case rel => exact ⟨i + 1, by omega, by go_num, by rw [Hs.out, Hn.out], by rw [Hs.out, Hn.out], by rw [Hs.out, Hn.out]; exact Hbv.out, HX1.out⟩
        case measure => simp [intOf]; omega
      by_cases hno : st ≠ 0 ∧ ¬ best < e.key.seq.toNat
      · have Hn := Lib.hid (findStep_no (key := key) (q := q) (a := (best, val, st)) (e := e) fun h => h.2.2.elim hno.1 hno.2)
        have h0b : (st == 0) = false := by simpa using hno.1
        have hnb := hno.2
        clear hue hno
        go_wp2_with (go_at_call 74; refine HC.out.mono ?_; rintro r w1 ⟨rfl, rfl⟩)
        go_roundw
        case rel => exact ⟨i + 1, by omega, by go_num, by rw [Hs.out, Hn.out], by rw [Hs.out, Hn.out], by rw [Hs.out, Hn.out]; exact Hbv.out, HX1.out⟩
        case measure => simp [intOf]; omega
      have hyes : st = 0 ∨ (st == 0) = false ∧ best < e.key.seq.toNat := by
        by_cases h0 : st = 0
        · exact .inl h0
        · exact .inr ⟨by simpa using h0, by apply Classical.byContradiction; intro h; exact hno ⟨h0, h⟩⟩
      have Hn := Lib.hid (findStep_yes (key := key) (q := q) (a := (best, val, st)) (e := e) ⟨hue, hsq, hyes.imp id (fun h => h.2)⟩)
      clear hue hno
      rcases hyes with h0 | ⟨h0b, hb⟩
      · subst h0
        by_cases hk1 : e.key.kind.toNat = 1
        · have hk1b : (((e.key.kind.toNat : Nat) : Int) == 1) = true := by rw [beq_iff_eq]; omega
          have Hk1 := Lib.hid hk1
          clear hk1
          go_wp2_with (go_at_call 74; refine HC.out.mono ?_; rintro r w1 ⟨rfl, rfl⟩)
          go_region
          go_wp2
          go_roundw
          case rel => exact ⟨i + 1, by omega, by go_num, by rw [Hs.out, Hn.out], by rw [Hs.out, Hn.out, if_pos Hk1.out], by rw [Hs.out, Hn.out, if_pos Hk1.out]; exact Sl.nil _ _ _, HX1.out.drew⟩
          case measure => simp [intOf]; omega
        · have hk1b : (((e.key.kind.toNat : Nat) : Int) == 1) = false := by rw [beq_eq_false_iff_ne]; omega
          have Hk1 := Lib.hid hk1
          clear hk1
          go_wp2_with (go_at_call 74; refine HC.out.mono ?_; rintro r w1 ⟨rfl, rfl⟩)
          go_region
          go_wp2
          go_roundw
          case rel => exact ⟨i + 1, by omega, by go_num, by rw [Hs.out, Hn.out], by rw [Hs.out, Hn.out, if_neg Hk1.out], by rw [Hs.out, Hn.out, if_neg Hk1.out]; exact Hv.out.drew, HX1.out.drew⟩
          case measure => simp [intOf]; omega
      · by_cases hk1 : e.key.kind.toNat = 1
        · have hk1b : (((e.key.kind.toNat : Nat) : Int) == 1) = true := by rw [beq_iff_eq]; omega
          have Hk1 := Lib.hid hk1
          clear hk1
          go_wp2_with (go_at_call 74; refine HC.out.mono ?_; rintro r w1 ⟨rfl, rfl⟩)
          go_region
          go_wp2
          go_roundw
          case rel => exact ⟨i + 1, by omega, by go_num, by rw [Hs.out, Hn.out], by rw [Hs.out, Hn.out, if_pos Hk1.out], by rw [Hs.out, Hn.out, if_pos Hk1.out]; exact Sl.nil _ _ _, HX1.out.drew⟩
          case measure => simp [intOf]; omega
        · have hk1b : (((e.key.kind.toNat : Nat) : Int) == 1) = false := by rw [beq_eq_false_iff_ne]; omega
          have Hk1 := Lib.hid hk1
          clear hk1
          go_wp2_with (go_at_call 74; refine HC.out.mono ?_; rintro r w1 ⟨rfl, rfl⟩)
          go_region
          go_wp2
          go_roundw
          case rel => exact ⟨i + 1, by omega, by go_num, by rw [Hs.out, Hn.out], by rw [Hs.out, Hn.out, if_neg Hk1.out], by rw [Hs.out, Hn.out, if_neg Hk1.out]; exact Hv.out.drew, HX1.out.drew⟩
          case measure => simp [intOf]; omega
    · obtain rfl : i = E.length := by omega
      rw [List.take_length] at hbv ⊢
      have HC := Lib.hid (r9_cover wo L (HL.out.ext HX.out) key (HK.out.ext HX.out) q)
      have HG : Hid (findE E L key q = if (findF E key q).1 < coverE L key q ∨ 0 < coverE L key q ∧ (findF E key q).2.2 = 0 then ([], 2) else (findF E key q).2) := Lib.hid rfl
      generalize findF E key q = a at *
      generalize coverE L key q = c at *
      obtain ⟨best, val, st⟩ := a
      dsimp only at *
      have Hbv := Lib.hid hbv
      clear hbv hx
      by_cases h1 : best < c
      · have Hr := Lib.hid (HG.out.trans (if_pos (.inl h1)))
        go_wp2_with (go_at_call 129; refine HC.out.mono ?_; rintro r w1 ⟨rfl, hx1⟩; have HX1 := Lib.hid hx1; clear hx1)
        refine bodyPost_ret (v := .tuple #[.slice none 0 0, .int .i64 2]) (by simp [results, Try.results88, go_sem]) rfl ?_
        exact got_of (g := ([], 2)) Hr.out (HX.out.ext HX1.out) (Sl.nil _ _ _)
      · by_cases h2 : 0 < c ∧ st = 0
        · have Hr := Lib.hid (HG.out.trans (if_pos (.inr h2)))
          obtain ⟨h2, h3⟩ := h2
          subst h3
          go_wp2_with (go_at_call 129; refine HC.out.mono ?_; rintro r w1 ⟨rfl, hx1⟩; have HX1 := Lib.hid hx1; clear hx1)
          refine bodyPost_ret (v := .tuple #[.slice none 0 0, .int .i64 2]) (by simp [results, Try.results88, go_sem]) rfl ?_
          exact got_of (g := ([], 2)) Hr.out (HX.out.ext HX1.out) (Sl.nil _ _ _)
        · have Hr := Lib.hid (HG.out.trans (if_neg (fun h => h.elim h1 h2)))
          have h4 : ¬ 0 < c ∨ 0 < c ∧ (st == 0) = false := by
            by_cases h5 : 0 < c
            · exact .inr ⟨h5, by simpa using fun h => h2 ⟨h5, h⟩⟩
            · exact .inl h5
          clear h2
          rcases h4 with h4 | ⟨h4, h5⟩
          · go_wp2_with (first | (go_at_call 129; refine HC.out.mono ?_; rintro r w1 ⟨rfl, hx1⟩; have HX1 := Lib.hid (HX.out.ext hx1); have Hb1 := Lib.hid (Hbv.out.ext hx1); clear hx1) | (go_at_call 80; refine (r1_copy _ Hb1.out).mono ?_; rintro x w2 ⟨x2, rfl, hx2, hb2⟩; have HX2 := Lib.hid (HX1.out.ext hx2); have Hb2 := Lib.hid (hb2.mono (G := fun b => w.heap.size ≤ b) (fun b hb _ => Nat.le_trans HX1.out.size hb) (.inl (by decide))); obtain ⟨Z, zn, zc, rfl⟩ := hb2.form0; clear hx2 hb2))
            refine bodyPost_ret (v := .tuple #[.slice Z zn zc, .int .i64 st]) (by simp [results, Try.results88, go_sem]) rfl ?_
            exact got_of (g := (val, st)) Hr.out HX2.out Hb2.out
          · go_wp2_with (first | (go_at_call 129; refine HC.out.mono ?_; rintro r w1 ⟨rfl, hx1⟩; have HX1 := Lib.hid (HX.out.ext hx1); have Hb1 := Lib.hid (Hbv.out.ext hx1); clear hx1) | (go_at_call 80; refine (r1_copy _ Hb1.out).mono ?_; rintro x w2 ⟨x2, rfl, hx2, hb2⟩; have HX2 := Lib.hid (HX1.out.ext hx2); have Hb2 := Lib.hid (hb2.mono (G := fun b => w.heap.size ≤ b) (fun b hb _ => Nat.le_trans HX1.out.size hb) (.inl (by decide))); obtain ⟨Z, zn, zc, rfl⟩ := hb2.form0; clear hx2 hb2))
            refine bodyPost_ret (v := .tuple #[.slice Z zn zc, .int .i64 st]) (by simp [results, Try.results88, go_sem]) rfl ?_
            exact got_of (g := (val, st)) Hr.out HX2.out Hb2.out
end Go.Proofs.Yteaanagljmcidaa
