/- ref10: Get, Spans. -/
import Derived.Test.YteaanagljmcidaaRef10
import Derived.Test.YteaanagljmcidaaR4Map
namespace Go.Proofs.Yteaanagljmcidaa
open Go.RowKit

attribute [local go_sem ↓] Go.wp_at_zero Go.wp_at_succ

theorem getX_at {x : XL} {key : List UInt8} {q i : Nat} (hi : i < x.length) (h : ∀ j (_ : i < j) (hj : j < x.length), qualX key q x[j] = false) (hq : qualX key q x[i] = true) : getX x key q = tellX (some x[i]) := by
  unfold getX
  congr 1
  have hx : x = x.take i ++ x[i] :: x.drop (i + 1) := by rw [List.getElem_cons_drop, List.take_append_drop]
  have hr : x.reverse = (x.drop (i + 1)).reverse ++ x[i] :: (x.take i).reverse := by
    conv => lhs; rw [hx]
    simp
  rw [hr, List.find?_eq_some_iff_append]
  refine ⟨hq, _, _, rfl, fun p hp => ?_⟩
  rw [List.mem_reverse] at hp
  obtain ⟨j, hj, rfl⟩ := List.getElem_of_mem hp
  rw [List.getElem_drop, h (i + 1 + j) (by omega) (by rw [List.length_drop] at hj; omega)]
  rfl
theorem getX_no {x : XL} {key : List UInt8} {q : Nat} (h : ∀ j (_ : 0 ≤ j) (hj : j < x.length), qualX key q x[j] = false) : getX x key q = ([], 0) := by
  unfold getX
  rw [List.find?_eq_none.2 fun p hp => by
    rw [List.mem_reverse] at hp
    obtain ⟨j, hj, rfl⟩ := List.getElem_of_mem hp
    rw [h j (Nat.zero_le _) hj]; decide]
  rfl

section
variable {w w' : World} {Foot G : Nat → Prop} {R : Nat} {x : XL}

theorem r10_getN (w : World) {kv : Value} (key : List UInt8) (hk : Bs w G kv key) (q : Nat) : Calls Try.prog 94 #[.pointer none, kv, .int .u64 (q : Int)] w (Got w ([], 0)) := by
  obtain ⟨U, N, n, rfl⟩ := hk.form0
  clear hk
  go_enter Try.func94, Try.ntmps94
  go_wp2
  refine bodyPost_ret (v := .tuple #[.slice none 0 0, .int .i64 0]) (by simp [results, Try.results94, go_sem]) rfl ?_
  exact ⟨_, rfl, Out.refl _ _, Sl.nil _ _ _⟩

set_option maxRecDepth 100000 in
set_option maxHeartbeats 8000000 in
theorem r10_get (h : Rx w Foot R x) (hg : GoodX x) (hl : x.length ≤ 100000) {kv : Value} (key : List UInt8) (hk : Bs w G kv key) (q : Nat) :
    Calls Try.prog 94 #[.pointer (some ⟨R, 0, none⟩), kv, .int .u64 (q : Int)] w (Got w (getX x key q)) := by
  obtain ⟨FO, vo, vs, h0, -⟩ := h
  obtain ⟨r0, r1, rf⟩ := cells2 h0.blk
  have hs := h0.seqs.numS (by rw [List.length_map]; omega)
  have ho := h0.ops.opS (by rw [List.length_map]; omega)
  obtain ⟨U, N, n, rfl⟩ := hk.form0
  obtain ⟨O, oc, rfl, -⟩ := ho.form
  obtain ⟨S, sc, rfl, -⟩ := hs.form
  simp only [List.length_map] at r0 r1 hs ho
  have HB := Lib.hid h0.blk
  simp only [List.length_map] at HB
  have HS := Lib.hid hs
  have HO := Lib.hid ho
  have Hk := Lib.hid hk
  have Hg := Lib.hid hg
  clear hs ho hk hg h0
  go_enter Try.func94, Try.ntmps94
  go_wp2
  go_loopw [8] (fun s8 wr => ∃ i : Nat, i ≤ x.length ∧ s8 = .int .i64 ((i : Int) - 1) ∧ Hid (∀ j (_ : i ≤ j) (hj : j < x.length), qualX key q x[j] = false) ∧ Ext w wr) (fun s8 _ => (intOf s8 + 1).toNat)
  case atStart => exact ⟨x.length, Nat.le_refl _, rfl, Lib.hid fun j h1 h2 => by omega, Out.refl _ _⟩
  case round =>
    obtain ⟨wo, rfl⟩ : ∃ x : World, x = wr := ⟨_, rfl⟩
    obtain ⟨i, hi, rfl, Hno, hx⟩ := hrel
    have HX := Lib.hid hx
    clear hx
    by_cases hpos : 0 < i
    · obtain ⟨k, rfl⟩ : ∃ k, i = k + 1 := ⟨i - 1, by omega⟩
      have hik : ((k + 1 : Nat) : Int) - 1 = (k : Int) := by omega
      rw [hik]
      have hklt : k < x.length := by omega
      have hko : k < (x.map (·.1)).length := by rw [List.length_map]; exact hklt
      have hks : k < (x.map fun p => UInt64.ofNat p.2).length := by rw [List.length_map]; exact hklt
      obtain ⟨b1, o1, u1, v1, hA1, -, c0, c1, c2, hu, hv⟩ := (HO.out.ext HX.out).op k hko
      obtain ⟨b2, o2, hA2, d0⟩ := Sl.num (HS.out.ext HX.out) k hks
      subst hA1 hA2
      rw [List.getElem_map] at c0 hu hv d0
      have hq2 := (Hg.out.2 x[k] (List.getElem_mem hklt)).2.2
      rw [show u64V (UInt64.ofNat x[k].2) = .int .u64 (x[k].2 : Int) by unfold u64V; rw [seqO hq2]] at d0
      obtain ⟨f0, f1, -⟩ := cells2 (HX.out.blk HB.out (fun f => f))
      obtain ⟨U1, N1, n1, rfl⟩ := hu.form0
      obtain ⟨V1, M1, m1, rfl⟩ := hv.form0
      have HC := r4_covers wo x[k].1 key hu hv (Hk.out.ext HX.out)
      have Hv := Lib.hid hv
      have Hat := Lib.hid fun hq => getX_at (q := q) hklt (fun j h1 h2 => Hno.out j h1 h2) hq
      have Hst : Hid (qualX key q x[k] = false → ∀ j (_ : k ≤ j) (hj : j < x.length), qualX key q x[j] = false) := Lib.hid fun he j hj hj' => by
        rcases Nat.lt_or_ge k j with h | h
        · exact Hno.out j h hj'
        · obtain rfl : j = k := by omega
          exact he
      clear hu hv hik hpos
      generalize x[k] = p at *
      obtain ⟨⟨kd, pk, pv⟩, pq⟩ := p
      have hqual : qualX key q (⟨kd, pk, pv⟩, pq) = (decide (pq ≤ q) && coversO ⟨kd, pk, pv⟩ key) := rfl
      rw [hqual] at Hat Hst
      dsimp only at *
      clear hqual
      obtain ⟨cov, hcov⟩ : ∃ cov, coversO ⟨kd, pk, pv⟩ key = cov := ⟨_, rfl⟩
      rw [hcov] at HC Hat Hst
      have HC := Lib.hid HC
      clear hcov
      by_cases hle : pq ≤ q
      · rw [decide_eq_true hle] at Hat Hst
        cases cov with
        | false =>
          have HS2 := Lib.hid (Hst.out rfl)
          clear Hat Hst
          go_wp2_with (go_at_call 147; refine HC.out.mono ?_; rintro r w1 ⟨rfl, hx1⟩; have HX1 := Lib.hid (HX.out.ext hx1); clear hx1)
          go_roundw
          case rel => exact ⟨k, by omega, by go_num, HS2, HX1.out⟩
          case measure => simp [intOf] <;> omega
        | true =>
          have HG := Lib.hid (Hat.out rfl)
          clear Hat Hst
          by_cases hk2 : kd.toNat = 2
          · have hkb : (((kd.toNat : Nat) : Int) == 2) = true := by rw [beq_iff_eq]; omega
            have HG2 : Hid (getX x key q = (pv, 1)) := Lib.hid (HG.out.trans (by unfold tellX; exact if_pos hk2))
            clear HG hk2
            go_wp2_with (first
              | (go_at_call 147; refine HC.out.mono ?_; rintro r w1 ⟨rfl, hx1⟩; have HX1 := Lib.hid hx1; have e0 := hx1.cell f0 (fun f => f); have g0 := hx1.cell c0 (fun f => f); have g1 := hx1.cell c1 (fun f => f); have g2 := hx1.cell c2 (fun f => f); clear hx1)
              | (go_at_call 80; refine (r1_copy _ (Hv.out.ext HX1.out)).mono ?_; rintro z w2 ⟨x2, rfl, hx2, hb2⟩; have HX2 := Lib.hid ((HX.out.ext HX1.out).ext hx2); have Hb2 := Lib.hid (hb2.mono (G := fun b => w.heap.size ≤ b) (fun b hb _ => Nat.le_trans (HX.out.ext HX1.out).size hb) (.inl (by decide))); obtain ⟨Z, zn, zc, rfl⟩ := hb2.form0; clear hx2 hb2))
            refine bodyPost_ret (v := .tuple #[.slice Z zn zc, .int .i64 1]) (by simp [results, Try.results94, go_sem]) rfl ?_
            exact got_of (g := (pv, 1)) HG2.out HX2.out Hb2.out
          · have hkb : (((kd.toNat : Nat) : Int) == 2) = false := by rw [beq_eq_false_iff_ne]; omega
            have HG2 : Hid (getX x key q = ([], 2)) := Lib.hid (HG.out.trans (by unfold tellX; exact if_neg hk2))
            clear HG hk2
            go_wp2_with (go_at_call 147; refine HC.out.mono ?_; rintro r w1 ⟨rfl, hx1⟩; have HX1 := Lib.hid hx1; have e0 := hx1.cell f0 (fun f => f); have g0 := hx1.cell c0 (fun f => f); have g1 := hx1.cell c1 (fun f => f); have g2 := hx1.cell c2 (fun f => f); clear hx1)
            refine bodyPost_ret (v := .tuple #[.slice none 0 0, .int .i64 2]) (by simp [results, Try.results94, go_sem]) rfl ?_
            exact got_of (g := ([], 2)) HG2.out (HX.out.ext HX1.out) (Sl.nil _ _ _)
      · rw [decide_eq_false hle, Bool.false_and] at Hst
        have HS2 := Lib.hid (Hst.out rfl)
        have hgt : (q : Int) < pq := by omega
        clear Hat Hst HC hle
        go_wp2
        go_roundw
        case rel => exact ⟨k, by omega, by go_num, HS2, HX.out⟩
        case measure => simp [intOf] <;> omega
    · obtain rfl : i = 0 := by omega
      have HG := Lib.hid (getX_no Hno.out)
      go_wp2
      refine bodyPost_ret (v := .tuple #[.slice none 0 0, .int .i64 0]) (by simp [results, Try.results94, go_sem]) rfl ?_
      exact got_of (g := ([], 0)) HG.out HX.out (Sl.nil _ _ _)

theorem r10_spansN (w : World) : Calls Try.prog 93 #[.pointer none] w fun e w' => e = .returned (.slice none 0 0) ∧ w = w' := by
  go_enter Try.func93, Try.ntmps93
  go_wp2
  go_ret
  exact ⟨rfl, rfl⟩

set_option maxRecDepth 100000 in
set_option maxHeartbeats 8000000 in
theorem r10_spans (h : Rx w Foot R x) (hg : GoodX x) (hl : x.length ≤ 100000) : Calls Try.prog 93 #[.pointer (some ⟨R, 0, none⟩)] w fun e w' => ∃ v, e = .returned v ∧ Ext w w' ∧ Sl spanC w' (fun b => b < w'.heap.size) v (spansX x) := by
  obtain ⟨FO, vo, vs, h0, -⟩ := h
  obtain ⟨r0, r1, rf⟩ := cells2 h0.blk
  have hs := h0.seqs.numS (by rw [List.length_map]; omega)
  have ho := h0.ops.opS (by rw [List.length_map]; omega)
  obtain ⟨O, oc, rfl, -⟩ := ho.form
  obtain ⟨S, sc, rfl, -⟩ := hs.form
  simp only [List.length_map] at r0 r1 hs ho
  have HB := Lib.hid h0.blk
  simp only [List.length_map] at HB
  have HS := Lib.hid hs
  have HO := Lib.hid ho
  have Hg := Lib.hid hg
  clear hs ho hg h0
  go_enter Try.func93, Try.ntmps93
  go_wp2
  go_loopw [3, 13] (fun s3 s13 wr => ∃ i : Nat, i ≤ x.length ∧ s13 = .int .i64 i ∧ Own spanC 92 wr w.heap.size (fun b => b < w.heap.size) s3 (spansX (x.take i)) ∧ Ext w wr) (fun _ s13 _ => x.length - (intOf s13).toNat)
  case atStart => exact ⟨0, Nat.zero_le _, rfl, Own.nil _ _ _ _ _, Out.refl _ _⟩
  case round =>
    obtain ⟨wo, rfl⟩ : ∃ x : World, x = wr := ⟨_, rfl⟩
    obtain ⟨i, hi, rfl, hown, hx⟩ := hrel
    obtain ⟨S3, n3, c3, rfl⟩ := hown.form0
    have HX := Lib.hid hx
    have hzo := hx.size
    have Hlt := Lib.hid hown.lt
    by_cases hlt : i < x.length
    · have hko : i < (x.map (·.1)).length := by rw [List.length_map]; exact hlt
      have hks : i < (x.map fun p => UInt64.ofNat p.2).length := by rw [List.length_map]; exact hlt
      obtain ⟨b1, o1, u1, v1, hA1, -, c0, c1, c2, hu, hv⟩ := (HO.out.ext HX.out).op i hko
      obtain ⟨b2, o2, hA2, d0⟩ := Sl.num HS.out i hks
      have hb2 := World.block_lt_of_cell? w _ d0
      have hRlt := blk_lt HB.out
      replace d0 := HX.out.cell d0 (fun f => f)
      have hF1 := (Hg.out.2 x[i] (List.getElem_mem hlt)).2.2
      subst hA1 hA2
      rw [List.getElem_map] at c0 hu hv d0
      obtain ⟨f0, f1, -⟩ := cells2 (HX.out.blk HB.out (fun f => f))
      obtain ⟨U1, N1, n1, rfl⟩ := hu.form0
      obtain ⟨V1, M1, m1, rfl⟩ := hv.form0
      have hsn := spansX_snoc (x.take i) x[i]
      rw [← List.take_succ_eq_append_getElem hlt] at hsn
      have hsl : (spansX (x.take i)).length ≤ x.length := by
        unfold spansX
        rw [List.length_map]
        have := List.length_filter_le (fun p : OpE × Nat => isR p.1) (x.take i)
        rw [List.length_take] at this
        omega
      generalize spansX (x.take i) = L at *
      generalize x[i] = p at *
      obtain ⟨⟨kd, pk, pv⟩, pq⟩ := p
      dsimp only at *
      have Hsn := Lib.hid hsn
      have x1 := Ext.alloc1 wo (.cells #[byteV kd, .slice U1 N1 n1, .slice V1 M1 m1] 112)
      have hz := blk_new wo (.cells #[byteV kd, .slice U1 N1 n1, .slice V1 M1 m1] 112)
      obtain ⟨z0, z1, z2, -⟩ := cells3 hz
      have e0 := cell_alloc f0 (.cells #[byteV kd, .slice U1 N1 n1, .slice V1 M1 m1] 112)
      have e1 := cell_alloc f1 (.cells #[byteV kd, .slice U1 N1 n1, .slice V1 M1 m1] 112)
      have e2 := cell_alloc d0 (.cells #[byteV kd, .slice U1 N1 n1, .slice V1 M1 m1] 112)
      have Hown := Lib.hid hown
      have Hu := Lib.hid hu
      have Hv := Lib.hid hv
      have X1 := Lib.hid (HX.out.ext x1)
      clear hown hu hv hx hsn hz x1
      by_cases hk3 : kd.toNat = 3
      · have hkb : (((kd.toNat : Nat) : Int) == 3) = true := by rw [beq_iff_eq]; omega
        have Hs2 := Lib.hid (Hsn.out.trans (if_pos (by unfold isR; simpa using hk3)))
        clear hk3 Hsn
        go_wp2
        have Ne1 : Hid (¬ (Value.slice S3 n3 c3).ownBlock = some wo.heap.size) := Lib.hid fun e => by have := (Hlt.out _ e).2; omega
        have Ne2 : Hid (¬ (Value.slice S3 n3 c3).ownBlock = some R) := Lib.hid fun e => by have := (Hlt.out _ e).1; omega
        have Ne3 : Hid (¬ (Value.slice S3 n3 c3).ownBlock = some b2) := Lib.hid fun e => by have := (Hlt.out _ e).1; omega
        go_region_held3 (fun w' => w'.cell? ⟨wo.heap.size, 1, none⟩ = some (.slice U1 N1 n1) ∧ w'.cell? ⟨wo.heap.size, 2, none⟩ = some (.slice V1 M1 m1) ∧ w'.cell? ⟨R, 1, none⟩ = some (.slice (some ⟨b2, o2, none⟩) x.length sc) ∧ w'.cell? ⟨b2, o2 + i, none⟩ = some (u64V (UInt64.ofNat pq)))
          (first | go_keep | (exact ⟨g2.cell (cell_alloc (by assumption) _) Ne1.out, g2.cell (cell_alloc (by assumption) _) Ne1.out, g2.cell (cell_alloc (by assumption) _) Ne2.out, g2.cell (cell_alloc (by assumption) _) Ne3.out⟩))
          (first | (refine step_append_one (by rfl) (.tmp 21) (.tmp 34) 82 (by rfl) fits92 (((Hown.out.ext (Ext.alloc1 _ _)).ext (Out.refl _ _).drew).ext (Ext.alloc1 _ _)) (by rfl) (by (try simp only [World.size_alloc, World.size_drew]); omega) (blk_at (n := wo.heap.size + 1) (by simp)) (by rfl) (spanO (⟨kd, pk, pv⟩, pq)) ⟨_, _, rfl, ((Hu.out.alloc _).drew.alloc _).mono (fun b hb _ => ⟨by omega, fun e => by have := (Hlt.out b e).1; omega⟩) (.inl (by decide)), ((Hv.out.alloc _).drew.alloc _).mono (fun b hb _ => ⟨by omega, fun e => by have := (Hlt.out b e).1; omega⟩) (.inl (by decide))⟩ (by omega) (by decide) ?_; intro v' w' g1 g2 g3))
        go_wp2
        go_roundw
        case rel => exact ⟨i + 1, by omega, by go_num, by rw [Hs2.out]; exact g1, ((X1.out.drew).alloc _).then g2 (fun b hb e => by have := (Hlt.out b e).1; omega)⟩
        case measure => simp [intOf] <;> omega
      · have hkb : (((kd.toNat : Nat) : Int) == 3) = false := by rw [beq_eq_false_iff_ne]; omega
        have Hs2 := Lib.hid (Hsn.out.trans (if_neg (by unfold isR; simpa using hk3)))
        clear hk3 Hsn
        go_wp2
        go_roundw
        case rel => exact ⟨i + 1, by omega, by go_num, by rw [Hs2.out]; exact Hown.out.ext (Ext.alloc1 _ _), X1.out⟩
        case measure => simp [intOf] <;> omega
    · obtain rfl : i = x.length := by omega
      rw [List.take_length] at hown
      have Hown := Lib.hid hown
      have hsl : (spansX x).length ≤ x.length := by
        unfold spansX
        rw [List.length_map]
        exact List.length_filter_le _ _
      clear hown hx
      go_wp2
      go_ret
      exact ⟨_, rfl, HX.out, Hown.out.sl (by decide) (by show _ ≤ 140737488355328; omega) (fun b _ h => h) (fun b _ h => h)⟩
end
end Go.Proofs.Yteaanagljmcidaa
