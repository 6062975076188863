/- ref10: Entries. -/
import Derived.Test.YteaanagljmcidaaR10Rest
import Derived.Test.YteaanagljmcidaaAhead
import Derived.Test.YteaanagljmcidaaSort12
namespace Go.Proofs.Yteaanagljmcidaa
open Go.RowKit

attribute [local go_sem ↓] Go.wp_at_zero Go.wp_at_succ

theorem insF_cut {out : List Ent} (h : SortedE out) (e : Ent) : insF out e = out.take (aheadN out e.key) ++ e :: out.drop (aheadN out e.key) := by
  obtain ⟨h1, h2⟩ := take_filter (fun y : Ent => kless y.key e.key) (l := out) (h.imp fun {a b} hab hb => by rw [kless_eq] at hb ⊢; simp only [decide_eq_true_eq] at *; exact kcmp_trans hab hb)
  unfold insF aheadN
  rw [h1, h2]
  simp only [kless_eq]
theorem GoodX.takeN {x : XL} (h : GoodX x) (i : Nat) : GoodX (x.take i) := by
  refine ⟨List.Pairwise.sublist (List.take_sublist i x) h.1, fun p hp => h.2 p (List.mem_of_mem_take hp)⟩
theorem entsX_len : ∀ x : XL, (entsX x).length ≤ x.length := by
  intro x
  unfold entsX
  suffices ∀ (l : List Ent) (out : List Ent), (l.foldl insF out).length ≤ out.length + l.length by
    have h1 := this ((x.filter fun p => !isR p.1).map entO) []
    have h2 := List.length_filter_le (fun p : OpE × Nat => !isR p.1) x
    rw [List.length_map] at h1
    simp only [List.length_nil] at h1
    omega
  intro l
  induction l with
  | nil => intro out; simp
  | cons e l ih =>
    intro out
    have h1 := ih (insF out e)
    have h2 : (insF out e).length = out.length + 1 := by
      unfold insF
      rw [List.length_append, List.length_cons]
      have : ∀ (l : List Ent) (p : Ent → Bool), (l.filter p).length + (l.filter fun y => !p y).length = l.length := by
        intro l p
        induction l with
        | nil => rfl
        | cons y l ih => by_cases hp : p y = true <;> simp [hp] <;> omega
      have h3 := this out (fun y => decide (kcmp y.key e.key < 0))
      omega
    rw [List.foldl_cons, List.length_cons]
    omega

section
variable {w w' : World} {Foot G : Nat → Prop} {R : Nat} {x : XL}

theorem r10_entriesN (w : World) : Calls Try.prog 92 #[.pointer none] w fun e w' => e = .returned (.slice none 0 0) ∧ w = w' := by
  go_enter Try.func92, Try.ntmps92
  go_wp2
  go_ret
  exact ⟨rfl, rfl⟩

set_option maxRecDepth 100000 in
set_option maxHeartbeats 8000000 in
theorem r10_entries (h : Rx w Foot R x) (hg : GoodX x) (hl : x.length ≤ 100000) : Calls Try.prog 92 #[.pointer (some ⟨R, 0, none⟩)] w fun e w' => ∃ v, e = .returned v ∧ Ext w w' ∧ Sl entC w' (fun b => b < w'.heap.size) v (entsX x) := by
  obtain ⟨FO, vo, vs, h0, -⟩ := h
  obtain ⟨r0, r1, rf⟩ := cells2 h0.blk
  have hs := h0.seqs.numS (by rw [List.length_map]; omega)
  have ho := h0.ops.opS (by rw [List.length_map]; omega)
  obtain ⟨O, oc, rfl, -⟩ := ho.form
  obtain ⟨S, sc, rfl, -⟩ := hs.form
  simp only [List.length_map] at r0 r1 hs ho
  have HB := Lib.hid h0.blk
  simp only [List.length_map] at HB
  have HS := Lib.hid hs
  have HO := Lib.hid ho
  have Hg := Lib.hid hg
  clear hs ho hg h0
  go_enter Try.func92, Try.ntmps92
  go_wp2
  go_loopw [3, 17] (fun s3 s17 wr => ∃ i : Nat, i ≤ x.length ∧ s17 = .int .i64 i ∧ Sl entC wr (fun b => b < wr.heap.size) s3 (entsX (x.take i)) ∧ Ext w wr) (fun _ s17 _ => x.length - (intOf s17).toNat)
  case atStart => exact ⟨0, Nat.zero_le _, rfl, Sl.nil _ _ _, Out.refl _ _⟩
  case round =>
    obtain ⟨wo, rfl⟩ : ∃ x : World, x = wr := ⟨_, rfl⟩
    obtain ⟨i, hi, rfl, hown, hx⟩ := hrel
    have HX := Lib.hid hx
    have hzo := hx.size
    by_cases hlt : i < x.length
    · have hko : i < (x.map (·.1)).length := by rw [List.length_map]; exact hlt
      have hks : i < (x.map fun p => UInt64.ofNat p.2).length := by rw [List.length_map]; exact hlt
      obtain ⟨b1, o1, u1, v1, hA1, -, c0, c1, c2, hu, hv⟩ := (HO.out.ext HX.out).op i hko
      obtain ⟨b2, o2, hA2, d0⟩ := Sl.num HS.out i hks
      have hb2 := World.block_lt_of_cell? w _ d0
      have hRlt := blk_lt HB.out
      replace d0 := HX.out.cell d0 (fun f => f)
      subst hA1 hA2
      rw [List.getElem_map] at c0 hu hv d0
      obtain ⟨f0, f1, -⟩ := cells2 (HX.out.blk HB.out (fun f => f))
      obtain ⟨U1, N1, n1, rfl⟩ := hu.form0
      obtain ⟨V1, M1, m1, rfl⟩ := hv.form0
      have hsn := entsX_snoc (x.take i) x[i]
      rw [← List.take_succ_eq_append_getElem hlt] at hsn
      have hsl : (entsX (x.take i)).length ≤ x.length := by
        have := entsX_len (x.take i)
        rw [List.length_take] at this
        omega
      have hsort := (Hg.out.takeN i).sorted
      obtain ⟨E, hE⟩ : ∃ E, entsX (x.take i) = E := ⟨_, rfl⟩
      rw [hE] at hsn hsl hsort hown
      clear hE
      have hkR : isR x[i].1 = decide ((entO x[i]).key.kind.toNat = 3) := rfl
      rw [hkR] at hsn
      replace c0 : wo.cell? ⟨b1, o1 + i * 3, none⟩ = some (byteV (entO x[i]).key.kind) := c0
      replace d0 : wo.cell? ⟨b2, o2 + i, none⟩ = some (u64V (entO x[i]).key.seq) := d0
      replace hu : Bs wo (fun b => b < w.heap.size) (.slice U1 N1 n1) (entO x[i]).key.user := hu
      replace hv : Bs wo (fun b => b < w.heap.size) (.slice V1 M1 m1) (entO x[i]).value := hv
      clear hkR
      generalize entO x[i] = e at *
      have Hsn := Lib.hid hsn
      have Hsort := Lib.hid hsort
      have x1 := Ext.alloc1 wo (.cells #[byteV e.key.kind, .slice U1 N1 n1, .slice V1 M1 m1] 112)
      have hz := blk_new wo (.cells #[byteV e.key.kind, .slice U1 N1 n1, .slice V1 M1 m1] 112)
      obtain ⟨z0, z1, z2, -⟩ := cells3 hz
      have e0 := cell_alloc f0 (.cells #[byteV e.key.kind, .slice U1 N1 n1, .slice V1 M1 m1] 112)
      have e1 := cell_alloc f1 (.cells #[byteV e.key.kind, .slice U1 N1 n1, .slice V1 M1 m1] 112)
      have e2 := cell_alloc d0 (.cells #[byteV e.key.kind, .slice U1 N1 n1, .slice V1 M1 m1] 112)
      obtain ⟨A3, cap3, rfl, -, -, -, -⟩ := hown.form
      have Hown := Lib.hid hown
      have Hu := Lib.hid hu
      have Hv := Lib.hid hv
      have X1 := Lib.hid (HX.out.ext x1)
      clear hown hu hv hx hsn hz x1 hsort
      by_cases hk3 : e.key.kind.toNat = 3
      · have hkb : (((e.key.kind.toNat : Nat) : Int) == 3) = true := by rw [beq_iff_eq]; omega
        have Hs2 := Lib.hid (Hsn.out.trans (if_pos (by simpa using hk3)))
        clear hk3 Hsn
        go_wp2
        go_roundw
        case rel => exact ⟨i + 1, by omega, by go_num, by rw [Hs2.out]; exact (Hown.out.ext (Ext.alloc1 _ _)).mono (fun b hb _ => by rw [World.size_alloc]; omega) (.inl (by decide)), X1.out⟩
        case measure => simp [intOf] <;> omega
      · as_aux_lemma =>
          have hkb : (((e.key.kind.toNat : Nat) : Int) == 3) = false := by rw [beq_eq_false_iff_ne]; omega
          have Hs2 := Lib.hid (Hsn.out.trans (if_neg (by simpa using hk3)))
          clear hk3 Hsn
          go_wp2
          have y0 := cell_alloc z0 (.cells #[.slice none 0 0, .int .u64 0, .int .u8 0, .slice none 0 0] 32)
          have y1 := cell_alloc z1 (.cells #[.slice none 0 0, .int .u64 0, .int .u8 0, .slice none 0 0] 32)
          have y2 := cell_alloc z2 (.cells #[.slice none 0 0, .int .u64 0, .int .u8 0, .slice none 0 0] 32)
          have y3 := cell_alloc e1 (.cells #[.slice none 0 0, .int .u64 0, .int .u8 0, .slice none 0 0] 32)
          have y4 := cell_alloc e2 (.cells #[.slice none 0 0, .int .u64 0, .int .u8 0, .slice none 0 0] 32)
          have x2 := Ext.alloc1 (wo.alloc (.cells #[byteV e.key.kind, .slice U1 N1 n1, .slice V1 M1 m1] 112)) (.cells #[.slice U1 N1 n1, u64V e.key.seq, byteV e.key.kind, .slice V1 M1 m1] 32)
          have XE := Lib.hid (((Ext.alloc1 wo (.cells #[byteV e.key.kind, .slice U1 N1 n1, .slice V1 M1 m1] 112)).ext x2).drew)
          have hbe : ((wo.alloc (.cells #[byteV e.key.kind, .slice U1 N1 n1, .slice V1 M1 m1] 112)).alloc (.cells #[.slice U1 N1 n1, u64V e.key.seq, byteV e.key.kind, .slice V1 M1 m1] 32)).drew.heap[wo.heap.size + 1]? = some (.cells #[.slice U1 N1 n1, u64V e.key.seq, byteV e.key.kind, .slice V1 M1 m1] 32) := blk_atD (by simp)
          have HBe := Lib.hid hbe
          clear hbe x2
          go_region
          go_wp2
          obtain ⟨wE, hwE⟩ : ∃ wE, ((wo.alloc (.cells #[byteV e.key.kind, .slice U1 N1 n1, .slice V1 M1 m1] 112)).alloc (.cells #[.slice U1 N1 n1, u64V e.key.seq, byteV e.key.kind, .slice V1 M1 m1] 32)).drew = wE := ⟨_, rfl⟩
          rw [hwE] at XE HBe
          rw [show (wo.alloc (Obj.cells #[Value.int IntKind.u8 (e.key.kind.toNat : Int), .slice U1 N1 n1, .slice V1 M1 m1] 112)).alloc (Obj.cells #[.slice U1 N1 n1, Value.int IntKind.u64 (e.key.seq.toNat : Int), Value.int IntKind.u8 (e.key.kind.toNat : Int), .slice V1 M1 m1] 32) = (wo.alloc (.cells #[byteV e.key.kind, .slice U1 N1 n1, .slice V1 M1 m1] 112)).alloc (.cells #[.slice U1 N1 n1, u64V e.key.seq, byteV e.key.kind, .slice V1 M1 m1] 32) from rfl, hwE]
          clear hwE y0 y1 y2 y3 y4 z0 z1 z2 e0 e1 e2 r0 r1 rf c0 c1 c2 d0 f0 f1 hkb hb2 hRlt hko hks
          have HXE := Lib.hid (HX.out.ext XE.out)
          have HOwE := Lib.hid (Hown.out.ext XE.out)
          have HuE := Lib.hid (Hu.out.ext XE.out)
          have HvE := Lib.hid (Hv.out.ext XE.out)
          have hzE := XE.out.size
          have hwoE : wo.heap.size + 1 < wE.heap.size := blk_lt HBe.out
          go_loopw [7, 42] (fun s7 s42 wr => ∃ j : Nat, j ≤ E.length ∧ s42 = .int .i64 j ∧ s7 = .int .i64 (aheadN (E.take j) e.key : Nat) ∧ Ext wE wr) (fun _ s42 _ => E.length - (intOf s42).toNat)
          case atStart => exact ⟨0, Nat.zero_le _, rfl, rfl, Out.refl _ _⟩
          case round =>
            obtain ⟨wp, rfl⟩ : ∃ x : World, x = wr := ⟨_, rfl⟩
            obtain ⟨j, hj, rfl, rfl, hxj⟩ := hrel
            have HXj := Lib.hid hxj
            clear hxj
            by_cases hltj : j < E.length
            · as_aux_lemma =>
                obtain ⟨b3, o3, u3, v3, hA3, -, g0, g1, g2, g3, hu3, hv3⟩ := (HOwE.out.ext HXj.out).ent j hltj
                subst hA3
                obtain ⟨U3, N3, n3, rfl⟩ := hu3.form0
                obtain ⟨V3, M3, m3, rfl⟩ := hv3.form0
                have hz := blk_new wp (.cells #[.slice U3 N3 n3, u64V E[j].key.seq, byteV E[j].key.kind, .slice V3 M3 m3] 32)
                obtain ⟨z0, z1, z2, z3, -⟩ := cells4 hz
                obtain ⟨k0, k1, k2, k3, -⟩ := cells4 (blk_alloc (HXj.out.blk HBe.out (fun f => f)) (.cells #[.slice U3 N3 n3, u64V E[j].key.seq, byteV E[j].key.kind, .slice V3 M3 m3] 32))
                have x3 := Ext.alloc1 wp (.cells #[.slice U3 N3 n3, u64V E[j].key.seq, byteV E[j].key.kind, .slice V3 M3 m3] 32)
                have HC := r3_less (wp.alloc (.cells #[.slice U3 N3 n3, u64V E[j].key.seq, byteV E[j].key.kind, .slice V3 M3 m3] 32)) E[j].key e.key (hu3.ext x3) ((HuE.out.ext HXj.out).ext x3)
                have X3 := Lib.hid (HXj.out.ext x3)
                have Hs := Lib.hid (aheadN_succ hltj e.key)
                have hal := aheadN_le (E.take j) e.key
                rw [List.length_take] at hal
                generalize aheadN (E.take j) e.key = cnt at *
                obtain ⟨kl, hkl⟩ : ∃ kl, kless E[j].key e.key = kl := ⟨_, rfl⟩
                rw [hkl] at HC Hs
                have HC := Lib.hid HC
                clear hu3 hv3 hz x3 hkl
                generalize E[j] = y at *
                cases kl
                all_goals
                  go_wp2_with (go_at_call 60; refine HC.out.mono ?_; rintro r w6 ⟨rfl, hx6⟩)
                  go_roundw
                case rel => exact ⟨j + 1, by omega, by go_num, by rw [Hs.out]; rfl, X3.out.ext hx6⟩
                case measure => simp [intOf] <;> omega
                case rel => exact ⟨j + 1, by omega, by go_num, by rw [Hs.out]; rfl, X3.out.ext hx6⟩
                case measure => simp [intOf] <;> omega
            · as_aux_lemma =>
                obtain rfl : j = E.length := by omega
                rw [List.take_length]
                have hal := aheadN_le E e.key
                have Hnew : Hid (entsX (x.take (i + 1)) = E.take (aheadN E e.key) ++ e :: E.drop (aheadN E e.key)) := Lib.hid (by rw [Hs2.out]; exact insF_cut Hsort.out e)
                generalize aheadN E e.key = cnt at *
                have hcap : E.length ≤ cap3 := by obtain ⟨_, _, e1, e2, -⟩ := HOwE.out.form; injection e1 with _ _ e3; omega
                have hi1 : (0 : Int) ≤ (cnt : Int) := by omega
                have hi2 : (cnt : Int) ≤ (cap3 : Int) := by omega
                have hi3 : (cnt : Int) ≤ (E.length : Int) := by omega
                have hzp := HXj.out.size
                have HOp := Lib.hid ((HOwE.out.ext HXj.out).mono (G := fun b => b < wp.heap.size) (fun b hb _ => by omega) (.inl (by decide)))
                have HT := Lib.hid (HOp.out.take cnt hal)
                have HD := Lib.hid (HOp.out.dropM cnt hal)
                have HO := Lib.hid (Own.empty entC 32 wp (fun b => b < wp.heap.size))
                have hOb := Own.empty entC 32 (wp.alloc (.cells #[.slice U1 N1 n1, u64V e.key.seq, byteV e.key.kind, .slice V1 M1 m1] 32)) (fun b => b < wp.heap.size)
                simp only [World.size_alloc] at hOb
                have HOb := Lib.hid (hOb.baseM (B' := wp.heap.size) (Nat.le_succ _))
                have HZ := Lib.hid (HXj.out.blk HBe.out (fun f => f))
                obtain ⟨m0, m1', m2, m3, -⟩ := cells4 HZ.out
                have htl : (E.take cnt).length = cnt := List.length_take_of_le hal
                have hdl : (E.drop cnt).length = E.length - cnt := List.length_drop
                have Htl := Lib.hid htl
                have Hdl := Lib.hid hdl
                have Hu := Lib.hid ((HuE.out.ext HXj.out).mono (G := fun b => b < wp.heap.size) (fun b hb _ => by omega) (.inl (by decide)))
                have Hv := Lib.hid ((HvE.out.ext HXj.out).mono (G := fun b => b < wp.heap.size) (fun b hb _ => by omega) (.inl (by decide)))
                have HXw := Lib.hid (HXE.out.ext HXj.out)
                clear htl hdl hOb
                go_wp2
                refine region_B 99 (fun w' => w'.cell? ⟨wo.heap.size + 1, 0, none⟩ = some (.slice U1 N1 n1) ∧ w'.cell? ⟨wo.heap.size + 1, 1, none⟩ = some (u64V e.key.seq) ∧ w'.cell? ⟨wo.heap.size + 1, 2, none⟩ = some (byteV e.key.kind) ∧ w'.cell? ⟨wo.heap.size + 1, 3, none⟩ = some (.slice V1 M1 m1)) (by kernel_rfl) ?q92_16S (fun hHeld0 => ?_)
                case q92_16S => ((first | go_keep | ((try dsimp only); exact ⟨by assumption, by assumption, by assumption, by assumption⟩)))
                refine anyB_take (i := 1) (oi := _) (v := ?q92_16v1) rfl (by kernel_rfl) (by kernel_rfl) (by kernel_rfl) (by kernel_rfl) (fun _ _ _ h => h) (Or.inl ⟨by rfl, ?q92_16h1⟩) (by assumption) ?q92_16r1
                case q92_16h1 => (intro w hSw; (try dsimp only at hSw); go_simp; try with_reducible rfl)
                (try simp only [List.getElem_toArray, List.getElem_cons_succ, List.getElem_cons_zero, Act.put, List.setIfInBounds_toArray, List.set_cons_zero, List.set_cons_succ])
                refine anyB_take (i := 2) (oi := _) (v := ?q92_16v2) rfl (by kernel_rfl) (by kernel_rfl) (by kernel_rfl) (by kernel_rfl) (fun _ _ _ h => h) (Or.inl ⟨by rfl, ?q92_16h2⟩) (by assumption) ?q92_16r2
                case q92_16h2 => (intro w hSw; (try dsimp only at hSw); go_simp; try with_reducible rfl)
                (try simp only [List.getElem_toArray, List.getElem_cons_succ, List.getElem_cons_zero, Act.put, List.setIfInBounds_toArray, List.set_cons_zero, List.set_cons_succ])
                refine anyB_take (i := 3) (oi := _) (v := ?q92_16v3) rfl (by kernel_rfl) (by kernel_rfl) (by kernel_rfl) (by kernel_rfl) (fun _ _ _ h => h) (Or.inl ⟨by rfl, ?q92_16h3⟩) (by assumption) ?q92_16r3
                case q92_16h3 => (intro w hSw; (try dsimp only at hSw); go_simp; try with_reducible rfl)
                (try simp only [List.getElem_toArray, List.getElem_cons_succ, List.getElem_cons_zero, Act.put, List.setIfInBounds_toArray, List.set_cons_zero, List.set_cons_succ])
                refine anyB_take (i := 5) (oi := _) (v := ?q92_16v4) rfl (by kernel_rfl) (by kernel_rfl) (by kernel_rfl) (by kernel_rfl) (fun _ _ _ h => h) (Or.inl ⟨by rfl, ?q92_16h4⟩) (by assumption) ?q92_16r4
                case q92_16h4 => (intro w hSw; (try dsimp only at hSw); go_simp; try with_reducible rfl)
                (try simp only [List.getElem_toArray, List.getElem_cons_succ, List.getElem_cons_zero, Act.put, List.setIfInBounds_toArray, List.set_cons_zero, List.set_cons_succ])
                refine anyB_take (i := 8) (oi := _) (v := ?q92_16v5) rfl (by kernel_rfl) (by kernel_rfl) (by kernel_rfl) (by kernel_rfl) (fun _ _ _ h => h) (Or.inl ⟨by rfl, ?q92_16h5⟩) (by assumption) ?q92_16r5
                case q92_16h5 => (intro w hSw; (try dsimp only at hSw); go_simp; try with_reducible rfl)
                (try simp only [List.getElem_toArray, List.getElem_cons_succ, List.getElem_cons_zero, Act.put, List.setIfInBounds_toArray, List.set_cons_zero, List.set_cons_succ])
                refine anyB_take (i := 9) (oi := _) (v := ?q92_16v6) rfl (by kernel_rfl) (by kernel_rfl) (by kernel_rfl) (by kernel_rfl) (fun _ _ _ h => h) (Or.inl ⟨by rfl, ?q92_16h6⟩) (by assumption) ?q92_16r6
                case q92_16h6 => (intro w hSw; (try dsimp only at hSw); go_simp; try with_reducible rfl)
                (try simp only [List.getElem_toArray, List.getElem_cons_succ, List.getElem_cons_zero, Act.put, List.setIfInBounds_toArray, List.set_cons_zero, List.set_cons_succ])
                refine anyB_take (i := 10) (oi := _) (v := ?q92_16v7) rfl (by kernel_rfl) (by kernel_rfl) (by kernel_rfl) (by kernel_rfl) (fun _ _ _ h => h) (Or.inl ⟨by rfl, ?q92_16h7⟩) (by assumption) ?q92_16r7
                case q92_16h7 => (intro w hSw; (try dsimp only at hSw); go_simp; try with_reducible rfl)
                (try simp only [List.getElem_toArray, List.getElem_cons_succ, List.getElem_cons_zero, Act.put, List.setIfInBounds_toArray, List.set_cons_zero, List.set_cons_succ])
                refine anyB_two (i := 0) (j := 6) (oi := _) (oj := _) (by kernel_rfl) (by rfl) (by rfl) (by (simp only [List.getElem?_toArray, List.getElem?_cons_succ, List.getElem?_cons_zero] <;> rfl)) (by (simp only [List.getElem?_toArray, List.getElem?_cons_succ, List.getElem?_cons_zero] <;> rfl)) (fun K hK => ?q92_16x8) (fun K hK => ?q92_16y8)
                case q92_16x8 =>
                  go_simp
                  refine hK.out _ _ ?q92_16S9 (fun hHeld1 => ?_)
                  case q92_16S9 => ((first | go_keep | ((try dsimp only); exact ⟨by assumption, by assumption, by assumption, by assumption⟩)))
                  clear hK K hHeld0
                  (try simp only [List.getElem_toArray, List.getElem_cons_succ, List.getElem_cons_zero, Act.put, List.setIfInBounds_toArray, List.set_cons_zero, List.set_cons_succ])
                  refine anyB_two (i := 4) (j := 6) (oi := _) (oj := _) (by kernel_rfl) (by rfl) (by rfl) (by (simp only [List.getElem?_toArray, List.getElem?_cons_succ, List.getElem?_cons_zero] <;> rfl)) (by (simp only [List.getElem?_toArray, List.getElem?_cons_succ, List.getElem?_cons_zero] <;> rfl)) (fun K hK => ?q92_16x10) (fun K hK => ?q92_16y10)
                  case q92_16x10 =>
                    refine stp_append_sl (by rfl) (.tmp 54) (.tmp 57) 43 (by rfl) fits32 (HO.out.ext (by repeat' (first | exact Out.refl _ _ | refine Out.drew ?_ | refine Out.alloc ?_ _))) (by rfl) (by simp <;> omega) (HT.out.ext (by repeat' (first | exact Out.refl _ _ | refine Out.drew ?_ | refine Out.alloc ?_ _))) (by rfl) (fun i hi cs hc => entC.mono hc (fun b hb hlb => ⟨hb, fun e => by simp [Value.ownBlock] at e; omega⟩)) (by rw [Htl.out, List.length_nil]; omega) (by decide) ?_; intro v7 w7 g1 g2 g3; (rw [List.nil_append] at g1); obtain ⟨A7, k7, m7, rfl⟩ := g1.form0; have G1 := Lib.hid g1; have HX7 : Hid (Ext wp w7) := Lib.hid (Out.then (by repeat' (first | exact Out.refl _ _ | refine Out.drew ?_ | refine Out.alloc ?_ _)) g2 (fun i hi e => by simp [Value.ownBlock] at e; omega)); obtain ⟨y0, y1, y2, y3, -⟩ := cells4 (HX7.out.blk HZ.out (fun f => f)); clear g1 g2 g3
                    refine hK.out _ _ ?q92_16S11 (fun hHeld2 => ?_)
                    case q92_16S11 => ((first | go_keep | ((try dsimp only); exact ⟨by assumption, by assumption, by assumption, by assumption⟩)))
                    clear hK K hHeld1
                    (try simp only [List.getElem_toArray, List.getElem_cons_succ, List.getElem_cons_zero, Act.put, List.setIfInBounds_toArray, List.set_cons_zero, List.set_cons_succ])
                    refine anyB_step (i := 6) (o := _) (by kernel_rfl) (by rfl) (by (simp only [List.getElem?_toArray, List.getElem?_cons_succ, List.getElem?_cons_zero] <;> rfl)) (fun K hK => ?_)
                    go_simp
                    refine hK.out _ _ ?q92_16S12 (fun hHeld3 => ?_)
                    case q92_16S12 => ((first | go_keep | ((try dsimp only); exact ⟨by assumption, by assumption, by assumption, by assumption⟩)))
                    clear hK K hHeld2
                    (try simp only [List.getElem_toArray, List.getElem_cons_succ, List.getElem_cons_zero, Act.put, List.setIfInBounds_toArray, List.set_cons_zero, List.set_cons_succ])
                    refine anyB_step (i := 7) (o := _) (by kernel_rfl) (by rfl) (by (simp only [List.getElem?_toArray, List.getElem?_cons_succ, List.getElem?_cons_zero] <;> rfl)) (fun K hK => ?_)
                    have hz7 := HX7.out.size; refine step_append_one (by rfl) (.tmp 58) (.tmp 60) 43 (by rfl) fits32 (G1.out.ext (Ext.alloc1 _ _)) (by rfl) (by (try simp only [World.size_alloc]); omega) (blk_new _ _) (by rfl) e ⟨_, _, rfl, (Hu.out.ext (HX7.out.alloc _)).mono (fun b hb _ => ⟨hb, (fun e => by have := (G1.out.lt b e).1; omega)⟩) (.inl (by decide)), (Hv.out.ext (HX7.out.alloc _)).mono (fun b hb _ => ⟨hb, (fun e => by have := (G1.out.lt b e).1; omega)⟩) (.inl (by decide))⟩ (by rw [Htl.out]; omega) (by decide) ?_; intro v9 w9 g1 g2 g3; obtain ⟨A9, k9, m9, rfl⟩ := g1.form0; have G9 := Lib.hid g1; have HX9 : Hid (Ext wp w9) := Lib.hid (Out.then (HX7.out.alloc _) g2 (fun i hi e => by have := (G1.out.lt i e).1; omega)); obtain ⟨x0, x1, x2, x3, -⟩ := cells4 (HX9.out.blk HZ.out (fun f => f)); clear g1 g2 g3
                    refine hK.out _ _ ?q92_16S13 (fun hHeld4 => ?_)
                    case q92_16S13 => ((first | go_keep | ((try dsimp only); exact ⟨by assumption, by assumption, by assumption, by assumption⟩)))
                    clear hK K hHeld3
                    (try simp only [List.getElem_toArray, List.getElem_cons_succ, List.getElem_cons_zero, Act.put, List.setIfInBounds_toArray, List.set_cons_zero, List.set_cons_succ])
                    refine anyB_step (i := 11) (o := _) (by kernel_rfl) (by rfl) (by (simp only [List.getElem?_toArray, List.getElem?_cons_succ, List.getElem?_cons_zero] <;> rfl)) (fun K hK => ?_)
                    refine stp_append_sl (by rfl) (.tmp 61) (.tmp 64) 43 (by rfl) fits32 G9.out (by rfl) HX9.out.size (HD.out.ext HX9.out) (by rfl) (fun i hi cs hc => entC.mono hc (fun b hb hlb => ⟨hb, fun e => by have := (G9.out.lt b e).1; omega⟩)) (by rw [List.length_append, Htl.out, Hdl.out]; simp; omega) (by decide) ?_; intro v10 w10 g1 g2 g3; obtain ⟨A10, k10, m10, rfl⟩ := g1.form0; have G10 := Lib.hid g1; have HX10 : Hid (Ext wp w10) := Lib.hid (HX9.out.then g2 (fun i hi e => by have := (G9.out.lt i e).1; omega)); obtain ⟨p0, p1, p2, p3, -⟩ := cells4 (HX10.out.blk HZ.out (fun f => f)); clear g1 g2 g3
                    refine hK.out _ _ ?q92_16S14 (fun hHeld5 => ?_)
                    case q92_16S14 => ((first | go_keep | ((try dsimp only); exact ⟨by assumption, by assumption, by assumption, by assumption⟩)))
                    clear hK K hHeld4
                    (try simp only [List.getElem_toArray, List.getElem_cons_succ, List.getElem_cons_zero, Act.put, List.setIfInBounds_toArray, List.set_cons_zero, List.set_cons_succ])
                    refine anyB_take (i := 12) (oi := _) (v := ?q92_16v15) rfl (by kernel_rfl) (by kernel_rfl) (by kernel_rfl) (by kernel_rfl) (fun _ _ _ h => h) (Or.inl ⟨by rfl, ?q92_16h15⟩) (by assumption) ?q92_16r15
                    case q92_16h15 => (intro w hSw; (try dsimp only at hSw); go_simp; try with_reducible rfl)
                    (try simp only [List.getElem_toArray, List.getElem_cons_succ, List.getElem_cons_zero, Act.put, List.setIfInBounds_toArray, List.set_cons_zero, List.set_cons_succ])
                    refine anyB_done (by kernel_rfl) ?_ _
                    go_wp2
                    go_roundw
                    case rel => exact ⟨i + 1, by omega, by go_num, by rw [Hnew.out]; have h := G10.out.sl (G := fun b => b < w10.heap.size) (by decide) (by show _ ≤ 140737488355328; rw [List.length_append, List.length_append, Htl.out, Hdl.out]; simp; omega) (fun b _ h => h) (fun b _ h => h); rw [List.append_assoc] at h; exact h, HXw.out.ext HX10.out⟩
                    case measure => simp [intOf] <;> omega
                  case q92_16y10 =>
                    go_simp
                    refine hK.out _ _ ?q92_16S16 (fun hHeld2 => ?_)
                    case q92_16S16 => ((first | go_keep | ((try dsimp only); exact ⟨by assumption, by assumption, by assumption, by assumption⟩)))
                    clear hK K hHeld1
                    (try simp only [List.getElem_toArray, List.getElem_cons_succ, List.getElem_cons_zero, Act.put, List.setIfInBounds_toArray, List.set_cons_zero, List.set_cons_succ])
                    refine anyB_step (i := 4) (o := _) (by kernel_rfl) (by rfl) (by (simp only [List.getElem?_toArray, List.getElem?_cons_succ, List.getElem?_cons_zero] <;> rfl)) (fun K hK => ?_)
                    refine stp_append_sl (by rfl) (.tmp 54) (.tmp 57) 43 (by rfl) fits32 (HO.out.ext (by repeat' (first | exact Out.refl _ _ | refine Out.drew ?_ | refine Out.alloc ?_ _))) (by rfl) (by simp <;> omega) (HT.out.ext (by repeat' (first | exact Out.refl _ _ | refine Out.drew ?_ | refine Out.alloc ?_ _))) (by rfl) (fun i hi cs hc => entC.mono hc (fun b hb hlb => ⟨hb, fun e => by simp [Value.ownBlock] at e; omega⟩)) (by rw [Htl.out, List.length_nil]; omega) (by decide) ?_; intro v7 w7 g1 g2 g3; have HEC := Lib.hid (g2.blk (o := (.cells #[.slice U1 N1 n1, u64V e.key.seq, byteV e.key.kind, .slice V1 M1 m1] 32)) (g := wp.heap.size + 1) (blk_atD (by simp)) (fun e => by have e2 := Option.some.inj e; dsimp only at e2; omega)); (rw [List.nil_append] at g1); obtain ⟨A7, k7, m7, rfl⟩ := g1.form0; have G1 := Lib.hid g1; have HX7 : Hid (Ext wp w7) := Lib.hid (Out.then (by repeat' (first | exact Out.refl _ _ | refine Out.drew ?_ | refine Out.alloc ?_ _)) g2 (fun i hi e => by simp [Value.ownBlock] at e; omega)); obtain ⟨y0, y1, y2, y3, -⟩ := cells4 (HX7.out.blk HZ.out (fun f => f)); clear g1 g2 g3
                    refine hK.out _ _ ?q92_16S17 (fun hHeld3 => ?_)
                    case q92_16S17 => ((first | go_keep | ((try dsimp only); exact ⟨by assumption, by assumption, by assumption, by assumption⟩)))
                    clear hK K hHeld2
                    (try simp only [List.getElem_toArray, List.getElem_cons_succ, List.getElem_cons_zero, Act.put, List.setIfInBounds_toArray, List.set_cons_zero, List.set_cons_succ])
                    refine anyB_step (i := 7) (o := _) (by kernel_rfl) (by rfl) (by (simp only [List.getElem?_toArray, List.getElem?_cons_succ, List.getElem?_cons_zero] <;> rfl)) (fun K hK => ?_)
                    have hz7 := HX7.out.size; refine step_append_one (by rfl) (.tmp 58) (.tmp 60) 43 (by rfl) fits32 G1.out (by rfl) (by (try simp only [World.size_alloc]); omega) HEC.out (by rfl) e ⟨_, _, rfl, (Hu.out.ext HX7.out).mono (fun b hb _ => ⟨hb, (fun e => by have := (G1.out.lt b e).1; omega)⟩) (.inl (by decide)), (Hv.out.ext HX7.out).mono (fun b hb _ => ⟨hb, (fun e => by have := (G1.out.lt b e).1; omega)⟩) (.inl (by decide))⟩ (by rw [Htl.out]; omega) (by decide) ?_; intro v9 w9 g1 g2 g3; obtain ⟨A9, k9, m9, rfl⟩ := g1.form0; have G9 := Lib.hid g1; have HX9 : Hid (Ext wp w9) := Lib.hid (Out.then HX7.out g2 (fun i hi e => by have := (G1.out.lt i e).1; omega)); obtain ⟨x0, x1, x2, x3, -⟩ := cells4 (HX9.out.blk HZ.out (fun f => f)); clear g1 g2 g3
                    refine hK.out _ _ ?q92_16S18 (fun hHeld4 => ?_)
                    case q92_16S18 => ((first | go_keep | ((try dsimp only); exact ⟨by assumption, by assumption, by assumption, by assumption⟩)))
                    clear hK K hHeld3
                    (try simp only [List.getElem_toArray, List.getElem_cons_succ, List.getElem_cons_zero, Act.put, List.setIfInBounds_toArray, List.set_cons_zero, List.set_cons_succ])
                    refine anyB_step (i := 11) (o := _) (by kernel_rfl) (by rfl) (by (simp only [List.getElem?_toArray, List.getElem?_cons_succ, List.getElem?_cons_zero] <;> rfl)) (fun K hK => ?_)
                    refine stp_append_sl (by rfl) (.tmp 61) (.tmp 64) 43 (by rfl) fits32 G9.out (by rfl) HX9.out.size (HD.out.ext HX9.out) (by rfl) (fun i hi cs hc => entC.mono hc (fun b hb hlb => ⟨hb, fun e => by have := (G9.out.lt b e).1; omega⟩)) (by rw [List.length_append, Htl.out, Hdl.out]; simp; omega) (by decide) ?_; intro v10 w10 g1 g2 g3; obtain ⟨A10, k10, m10, rfl⟩ := g1.form0; have G10 := Lib.hid g1; have HX10 : Hid (Ext wp w10) := Lib.hid (HX9.out.then g2 (fun i hi e => by have := (G9.out.lt i e).1; omega)); obtain ⟨p0, p1, p2, p3, -⟩ := cells4 (HX10.out.blk HZ.out (fun f => f)); clear g1 g2 g3
                    refine hK.out _ _ ?q92_16S19 (fun hHeld5 => ?_)
                    case q92_16S19 => ((first | go_keep | ((try dsimp only); exact ⟨by assumption, by assumption, by assumption, by assumption⟩)))
                    clear hK K hHeld4
                    (try simp only [List.getElem_toArray, List.getElem_cons_succ, List.getElem_cons_zero, Act.put, List.setIfInBounds_toArray, List.set_cons_zero, List.set_cons_succ])
                    refine anyB_take (i := 12) (oi := _) (v := ?q92_16v20) rfl (by kernel_rfl) (by kernel_rfl) (by kernel_rfl) (by kernel_rfl) (fun _ _ _ h => h) (Or.inl ⟨by rfl, ?q92_16h20⟩) (by assumption) ?q92_16r20
                    case q92_16h20 => (intro w hSw; (try dsimp only at hSw); go_simp; try with_reducible rfl)
                    (try simp only [List.getElem_toArray, List.getElem_cons_succ, List.getElem_cons_zero, Act.put, List.setIfInBounds_toArray, List.set_cons_zero, List.set_cons_succ])
                    refine anyB_done (by kernel_rfl) ?_ _
                    go_wp2
                    go_roundw
                    case rel => exact ⟨i + 1, by omega, by go_num, by rw [Hnew.out]; have h := G10.out.sl (G := fun b => b < w10.heap.size) (by decide) (by show _ ≤ 140737488355328; rw [List.length_append, List.length_append, Htl.out, Hdl.out]; simp; omega) (fun b _ h => h) (fun b _ h => h); rw [List.append_assoc] at h; exact h, HXw.out.ext HX10.out⟩
                    case measure => simp [intOf] <;> omega
                case q92_16y8 =>
                  go_simp
                  refine hK.out _ _ ?q92_16S21 (fun hHeld1 => ?_)
                  case q92_16S21 => ((first | go_keep | ((try dsimp only); exact ⟨by assumption, by assumption, by assumption, by assumption⟩)))
                  clear hK K hHeld0
                  (try simp only [List.getElem_toArray, List.getElem_cons_succ, List.getElem_cons_zero, Act.put, List.setIfInBounds_toArray, List.set_cons_zero, List.set_cons_succ])
                  refine anyB_step (i := 0) (o := _) (by kernel_rfl) (by rfl) (by (simp only [List.getElem?_toArray, List.getElem?_cons_succ, List.getElem?_cons_zero] <;> rfl)) (fun K hK => ?_)
                  go_simp
                  refine hK.out _ _ ?q92_16S22 (fun hHeld2 => ?_)
                  case q92_16S22 => ((first | go_keep | ((try dsimp only); exact ⟨by assumption, by assumption, by assumption, by assumption⟩)))
                  clear hK K hHeld1
                  (try simp only [List.getElem_toArray, List.getElem_cons_succ, List.getElem_cons_zero, Act.put, List.setIfInBounds_toArray, List.set_cons_zero, List.set_cons_succ])
                  refine anyB_step (i := 4) (o := _) (by kernel_rfl) (by rfl) (by (simp only [List.getElem?_toArray, List.getElem?_cons_succ, List.getElem?_cons_zero] <;> rfl)) (fun K hK => ?_)
                  refine stp_append_sl (by rfl) (.tmp 54) (.tmp 57) 43 (by rfl) fits32 (HOb.out.ext (by repeat' (first | exact Out.refl _ _ | refine Out.drew ?_ | refine Out.alloc ?_ _))) (by rfl) (by simp <;> omega) (HT.out.ext (by repeat' (first | exact Out.refl _ _ | refine Out.drew ?_ | refine Out.alloc ?_ _))) (by rfl) (fun i hi cs hc => entC.mono hc (fun b hb hlb => ⟨hb, fun e => by simp [Value.ownBlock] at e; omega⟩)) (by rw [Htl.out, List.length_nil]; omega) (by decide) ?_; intro v7 w7 g1 g2 g3; have HEC := Lib.hid (g2.blk (o := (.cells #[.slice U1 N1 n1, u64V e.key.seq, byteV e.key.kind, .slice V1 M1 m1] 32)) (g := wp.heap.size) (show (World.drew _).heap[_]? = _ from blk_alloc (blk_new _ _) _) (fun e => by have e2 := Option.some.inj e; dsimp only at e2; omega)); (rw [List.nil_append] at g1); obtain ⟨A7, k7, m7, rfl⟩ := g1.form0; have G1 := Lib.hid g1; have HX7 : Hid (Ext wp w7) := Lib.hid (Out.then (by repeat' (first | exact Out.refl _ _ | refine Out.drew ?_ | refine Out.alloc ?_ _)) g2 (fun i hi e => by simp [Value.ownBlock] at e; omega)); obtain ⟨y0, y1, y2, y3, -⟩ := cells4 (HX7.out.blk HZ.out (fun f => f)); clear g1 g2 g3
                  refine hK.out _ _ ?q92_16S23 (fun hHeld3 => ?_)
                  case q92_16S23 => ((first | go_keep | ((try dsimp only); exact ⟨by assumption, by assumption, by assumption, by assumption⟩)))
                  clear hK K hHeld2
                  (try simp only [List.getElem_toArray, List.getElem_cons_succ, List.getElem_cons_zero, Act.put, List.setIfInBounds_toArray, List.set_cons_zero, List.set_cons_succ])
                  refine anyB_step (i := 7) (o := _) (by kernel_rfl) (by rfl) (by (simp only [List.getElem?_toArray, List.getElem?_cons_succ, List.getElem?_cons_zero] <;> rfl)) (fun K hK => ?_)
                  have hz7 := HX7.out.size; refine step_append_one (by rfl) (.tmp 58) (.tmp 60) 43 (by rfl) fits32 G1.out (by rfl) (by (try simp only [World.size_alloc]); omega) HEC.out (by rfl) e ⟨_, _, rfl, (Hu.out.ext HX7.out).mono (fun b hb _ => ⟨hb, (fun e => by have := (G1.out.lt b e).1; omega)⟩) (.inl (by decide)), (Hv.out.ext HX7.out).mono (fun b hb _ => ⟨hb, (fun e => by have := (G1.out.lt b e).1; omega)⟩) (.inl (by decide))⟩ (by rw [Htl.out]; omega) (by decide) ?_; intro v9 w9 g1 g2 g3; obtain ⟨A9, k9, m9, rfl⟩ := g1.form0; have G9 := Lib.hid g1; have HX9 : Hid (Ext wp w9) := Lib.hid (Out.then HX7.out g2 (fun i hi e => by have := (G1.out.lt i e).1; omega)); obtain ⟨x0, x1, x2, x3, -⟩ := cells4 (HX9.out.blk HZ.out (fun f => f)); clear g1 g2 g3
                  refine hK.out _ _ ?q92_16S24 (fun hHeld4 => ?_)
                  case q92_16S24 => ((first | go_keep | ((try dsimp only); exact ⟨by assumption, by assumption, by assumption, by assumption⟩)))
                  clear hK K hHeld3
                  (try simp only [List.getElem_toArray, List.getElem_cons_succ, List.getElem_cons_zero, Act.put, List.setIfInBounds_toArray, List.set_cons_zero, List.set_cons_succ])
                  refine anyB_step (i := 11) (o := _) (by kernel_rfl) (by rfl) (by (simp only [List.getElem?_toArray, List.getElem?_cons_succ, List.getElem?_cons_zero] <;> rfl)) (fun K hK => ?_)
                  refine stp_append_sl (by rfl) (.tmp 61) (.tmp 64) 43 (by rfl) fits32 G9.out (by rfl) HX9.out.size (HD.out.ext HX9.out) (by rfl) (fun i hi cs hc => entC.mono hc (fun b hb hlb => ⟨hb, fun e => by have := (G9.out.lt b e).1; omega⟩)) (by rw [List.length_append, Htl.out, Hdl.out]; simp; omega) (by decide) ?_; intro v10 w10 g1 g2 g3; obtain ⟨A10, k10, m10, rfl⟩ := g1.form0; have G10 := Lib.hid g1; have HX10 : Hid (Ext wp w10) := Lib.hid (HX9.out.then g2 (fun i hi e => by have := (G9.out.lt i e).1; omega)); obtain ⟨p0, p1, p2, p3, -⟩ := cells4 (HX10.out.blk HZ.out (fun f => f)); clear g1 g2 g3
                  refine hK.out _ _ ?q92_16S25 (fun hHeld5 => ?_)
                  case q92_16S25 => ((first | go_keep | ((try dsimp only); exact ⟨by assumption, by assumption, by assumption, by assumption⟩)))
                  clear hK K hHeld4
                  (try simp only [List.getElem_toArray, List.getElem_cons_succ, List.getElem_cons_zero, Act.put, List.setIfInBounds_toArray, List.set_cons_zero, List.set_cons_succ])
                  refine anyB_take (i := 12) (oi := _) (v := ?q92_16v26) rfl (by kernel_rfl) (by kernel_rfl) (by kernel_rfl) (by kernel_rfl) (fun _ _ _ h => h) (Or.inl ⟨by rfl, ?q92_16h26⟩) (by assumption) ?q92_16r26
                  case q92_16h26 => (intro w hSw; (try dsimp only at hSw); go_simp; try with_reducible rfl)
                  (try simp only [List.getElem_toArray, List.getElem_cons_succ, List.getElem_cons_zero, Act.put, List.setIfInBounds_toArray, List.set_cons_zero, List.set_cons_succ])
                  refine anyB_done (by kernel_rfl) ?_ _
                  go_wp2
                  go_roundw
                  case rel => exact ⟨i + 1, by omega, by go_num, by rw [Hnew.out]; have h := G10.out.sl (G := fun b => b < w10.heap.size) (by decide) (by show _ ≤ 140737488355328; rw [List.length_append, List.length_append, Htl.out, Hdl.out]; simp; omega) (fun b _ h => h) (fun b _ h => h); rw [List.append_assoc] at h; exact h, HXw.out.ext HX10.out⟩
                  case measure => simp [intOf] <;> omega
    · obtain rfl : i = x.length := by omega
      rw [List.take_length] at hown
      have Hown := Lib.hid hown
      clear hown hx
      go_wp2
      go_ret
      exact ⟨_, rfl, HX.out, Hown.out⟩
end
end Go.Proofs.Yteaanagljmcidaa
