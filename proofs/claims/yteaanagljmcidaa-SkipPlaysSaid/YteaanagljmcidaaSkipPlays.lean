/- law08: SkipPlays. -/
import Derived.Test.YteaanagljmcidaaPlaysA
import Derived.Deep.DeepCutAuto
namespace Go.Proofs.Yteaanagljmcidaa
open Go.RowKit

attribute [local go_sem ↓] Go.wp_at_zero Go.wp_at_succ

/-- Of no list: the puts stay where they lie. -/
structure PlN (w0 wr : World) (c d : Nat) (fl : List PutE) (v : Value) : Prop where
  ext : Ext w0 wr
  sl : Sl putC wr (fun b => c ≤ b ∧ b < d) v fl
  hd : d ≤ wr.heap.size
theorem PlN.next {w0 wr w6 wq : World} {c d lo hi : Nat} {fl : List PutE} {v : Value} (h : PlN w0 wr c d fl v) (hx : Ext wr w6) (h7 : Out (fun b => lo ≤ b ∧ b < hi) w6 wq) (hlo : wr.heap.size ≤ lo) : PlN w0 wq c d fl v := by
  have e0 := h.ext.size
  have e1 := hx.size
  have e2 := h7.size
  have e3 := h.hd
  exact ⟨(h.ext.ext hx).then h7 (fun i hi hc => by omega), (h.sl.ext hx).out h7 (fun b _ hb hc => by omega), by omega⟩

set_option maxRecDepth 100000 in
set_option maxHeartbeats 8000000 in
theorem skipPlays_nil (w : World) {F G : Nat → Prop} {x y : Value} (l : List PutE) (hx : Sl putCA w F x l) (ps : List Key) (hy : Sl keyCA w G y ps) :
    Calls Try.prog 8 #[.bool true, x, y] w fun e w' => e = .returned (.bool true) ∧ Ext w w' := by
  obtain ⟨A, N, n, rfl⟩ := hx.form0
  obtain ⟨Y, n9, rfl, hy1, hy2, hy3, -⟩ := hy.form
  have hy3 : ps.length ≤ 9223372036854775807 := hy3
  have Hx := Lib.hid hx
  have Hy := Lib.hid hy
  clear hx hy hy1 hy2
  go_enter Try.func8, Try.ntmps8
  go_wp2_with (first
    | (go_at_call 25; refine (law08_awake _).mono ?_; rintro r w1 ⟨rfl, hx1⟩)
    | (go_at_call 26; refine (sk_newM _).mono ?_; rintro r w2 ⟨L, rfl, hx2, hs2⟩; clear hs2)
    | (go_at_call 27; refine (law08_few _ l (((Hx.out.ext hx1).ext hx2).alloc _)).mono ?_; rintro r w3 ⟨v3, rfl, hx3, hs3⟩; have HN := Lib.hid (⟨((hx1.ext hx2).alloc _).ext hx3, hs3.below (by decide), Nat.le_refl _⟩ : PlN w w3 _ _ (fewP l) v3); obtain ⟨A3, n3, rfl, -⟩ := hs3.form; have hlen3 : (fewP l).length ≤ 60 := (by unfold fewP; rw [List.length_map, List.length_take]; omega); clear hs3))
  generalize fewP l = fl at *
  generalize (w2.alloc _).heap.size = cLo at *
  generalize w3.heap.size = cHi at *
  go_loopw [40] (fun s40 wr => ∃ k : Nat, k ≤ fl.length ∧ s40 = .int .i64 k ∧ PlN w wr cLo cHi fl (.slice A3 fl.length n3)) (fun s40 _ => fl.length - (intOf s40).toNat)
  case atStart => exact ⟨0, Nat.zero_le _, rfl, HN.out⟩
  case round =>
    obtain ⟨wo, rfl⟩ : ∃ wo : World, wo = wr := ⟨_, rfl⟩
    obtain ⟨k, hk, rfl, hI⟩ := hrel
    by_cases hlt : k < fl.length
    · obtain ⟨b1, o1, u1, v1, rfl, -, c0, c1, c2, c3, c4, hu, hv, -, -⟩ := hI.sl.put k hlt
      obtain ⟨U, N1, n1, rfl⟩ := hu.form0
      obtain ⟨V, N2, n2, rfl⟩ := hv.form0
      have hxP := Ext.alloc1 wo (.cells #[.slice U N1 n1, u64V fl[k].e.key.seq, byteV fl[k].e.key.kind, .slice V N2 n2, .int .i64 fl[k].h] 34)
      have Hu := Lib.hid (hu.ext hxP)
      have Hv := Lib.hid (hv.ext hxP)
      have hz := blk_new wo (.cells #[.slice U N1 n1, u64V fl[k].e.key.seq, byteV fl[k].e.key.kind, .slice V N2 n2, .int .i64 fl[k].h] 34)
      obtain ⟨z0, z1, z2, z3, z4, -⟩ := cells5 hz
      have Hz := Lib.hid hz
      have HI := Lib.hid hI
      clear hI hu hv hz hxP
      go_wp2_with (first
        | (go_at_call 39; refine (r3_twin _ fl[k].e Hu.out Hv.out).mono ?_; rintro r w4 ⟨u4, v4, rfl, hx4, hb4, hc4⟩; obtain ⟨A4, m4, rfl, -⟩ := hb4.form; obtain ⟨C4, d4, rfl, -⟩ := hc4.form; have s4 := hx4.size; simp only [World.size_alloc] at s4 hb4 hc4; have ZP := Lib.hid (blk_alloc (hx4.blk Hz.out (fun f => f)) (.cells #[.slice A4 fl[k].e.key.user.length m4, u64V fl[k].e.key.seq, byteV fl[k].e.key.kind, .slice C4 fl[k].e.value.length d4] 32)); have ZB := Lib.hid (blk_new w4 (.cells #[.slice A4 fl[k].e.key.user.length m4, u64V fl[k].e.key.seq, byteV fl[k].e.key.kind, .slice C4 fl[k].e.value.length d4] 32)); have Hb4 := Lib.hid ((hb4.below (by decide)).alloc (.cells #[.slice A4 fl[k].e.key.user.length m4, u64V fl[k].e.key.seq, byteV fl[k].e.key.kind, .slice C4 fl[k].e.value.length d4] 32)); have Hc4 := Lib.hid ((hc4.below (by decide)).alloc (.cells #[.slice A4 fl[k].e.key.user.length m4, u64V fl[k].e.key.seq, byteV fl[k].e.key.kind, .slice C4 fl[k].e.value.length d4] 32)); have Hx4 := Lib.hid ((hx4.alloc (.cells #[.slice A4 fl[k].e.key.user.length m4, u64V fl[k].e.key.seq, byteV fl[k].e.key.kind, .slice C4 fl[k].e.value.length d4] 32))); obtain ⟨y0, y1, y2, y3, -⟩ := cells4 ZB.out; obtain ⟨t0, t1, t2, t3, t4, -⟩ := cells5 ZP.out; clear hb4 hc4 hx4)
        | (go_at_call 28; refine (nil_insert _ fl[k].h).mono ?_; rintro r w5 ⟨rfl, ho5⟩; have ZP5 := Lib.hid (ho5.blk ZP.out (fun f => f)); have ZB5 := Lib.hid (ho5.blk ZB.out (fun f => f)); have Hu5 := Lib.hid ((Hu.out.ext Hx4.out).ext ho5); have Hv5 := Lib.hid ((Hv.out.ext Hx4.out).ext ho5); have Hb5 := Lib.hid (Hb4.out.ext ho5); have Hc5 := Lib.hid (Hc4.out.ext ho5); have s5 := ho5.size; simp only [World.size_alloc] at s5; obtain ⟨y0', y1', y2', y3', -⟩ := cells4 ZB5.out; obtain ⟨t0', t1', t2', t3', t4', -⟩ := cells5 ZP5.out)
        | (go_at_call 40; refine (rin_nil _ _ _ fl[k].e fl[k].h Hu5.out Hv5.out).mono ?_; rintro r w6 ⟨rfl, ho6⟩; have ZP6 := Lib.hid (ho6.blk ZP5.out (fun f => f)); have ZB6 := Lib.hid (ho6.blk ZB5.out (fun f => f)); have Hu6 := Lib.hid (Hu5.out.ext ho6); have Hv6 := Lib.hid (Hv5.out.ext ho6); have Hb6 := Lib.hid (Hb5.out.ext ho6); have Hc6 := Lib.hid (Hc5.out.ext ho6); have s6 := ho6.size; obtain ⟨y0'', y1'', y2'', y3'', -⟩ := cells4 ZB6.out; obtain ⟨t0'', t1'', t2'', t3'', t4'', -⟩ := cells5 ZP6.out)
        | (go_at_call 36; refine (r3_sameEntry _ fl[k].e fl[k].e Hb6.out Hu6.out Hc6.out Hv6.out).mono ?_; rintro r w7 ⟨rfl, hx7⟩; have ZB7 := Lib.hid (hx7.blk ZB6.out (fun f => f)); have Hb7 := Lib.hid (Hb6.out.ext hx7); have Hc7 := Lib.hid (Hc6.out.ext hx7); have s7 := hx7.size; obtain ⟨q0, q1, q2, q3, -⟩ := cells4 ZB7.out))
      have hvl : fl[k].e.value.length ≤ 140737488355328 := by obtain ⟨_, _, _, _, _, h7, _⟩ := Hc7.out; exact h7
      have hul : fl[k].e.key.user.length ≤ 140737488355328 := by obtain ⟨_, _, _, _, _, h7, _⟩ := Hb7.out; exact h7
      have hPk : PkR w7 w7 (wo.heap.size + 1) w4.heap.size w4.heap.size (.cells #[.slice A4 fl[k].e.key.user.length m4, u64V fl[k].e.key.seq, byteV fl[k].e.key.kind, .slice C4 fl[k].e.value.length d4] 32) (.slice A4 fl[k].e.key.user.length m4) fl[k].e.key.user.length (.slice C4 fl[k].e.value.length d4) fl[k].e.value.length :=
        ⟨Out.refl _ _, ZB7.out, Nat.le_refl _, ⟨_, rfl, Hb7.out⟩, ⟨_, rfl, Hc7.out⟩⟩
      have HPk := Lib.hid hPk
      clear hPk
      go_loopw [70] (fun s70 wq => ∃ j : Nat, j ≤ fl[k].e.value.length ∧ s70 = .int .i64 j ∧ PkR w7 wq (wo.heap.size + 1) w4.heap.size w4.heap.size (.cells #[.slice A4 fl[k].e.key.user.length m4, u64V fl[k].e.key.seq, byteV fl[k].e.key.kind, .slice C4 fl[k].e.value.length d4] 32) (.slice A4 fl[k].e.key.user.length m4) fl[k].e.key.user.length (.slice C4 fl[k].e.value.length d4) fl[k].e.value.length) (fun s70 _ => fl[k].e.value.length - (intOf s70).toNat)
      case atStart => exact ⟨0, Nat.zero_le _, rfl, HPk.out⟩
      case round =>
        obtain ⟨j, hj, rfl, hP⟩ := hrel
        by_cases hltj : j < fl[k].e.value.length
        · obtain ⟨b, off, x, hC, hF, hc, hfz⟩ := hP.bv.at_ j hltj
          subst hC
          obtain ⟨g0, g1, g2, g3, -⟩ := cells4 hP.box
          have hfl := flip_u8 x
          have Hp := Lib.hid (hP.poke hc (x ^^^ 1) hF)
          clear hP
          go_wp2
          go_roundw
          case rel => exact ⟨j + 1, by omega, by go_num, Hp.out⟩
          case measure => simp [intOf]; omega
        · obtain ⟨g0, g1, g2, g3, -⟩ := cells4 hP.box
          have HP := Lib.hid hP
          clear hP
          go_wp2
          go_loopw [85] (fun s85 wq => ∃ j : Nat, j ≤ fl[k].e.key.user.length ∧ s85 = .int .i64 j ∧ PkR w7 wq (wo.heap.size + 1) w4.heap.size w4.heap.size (.cells #[.slice A4 fl[k].e.key.user.length m4, u64V fl[k].e.key.seq, byteV fl[k].e.key.kind, .slice C4 fl[k].e.value.length d4] 32) (.slice A4 fl[k].e.key.user.length m4) fl[k].e.key.user.length (.slice C4 fl[k].e.value.length d4) fl[k].e.value.length) (fun s85 _ => fl[k].e.key.user.length - (intOf s85).toNat)
          case atStart => exact ⟨0, Nat.zero_le _, rfl, HP.out⟩
          case round =>
            obtain ⟨j2, hj2, rfl, hP⟩ := hrel
            by_cases hltj2 : j2 < fl[k].e.key.user.length
            · obtain ⟨b, off, x, hC, hF, hc, hfz⟩ := hP.bu.at_ j2 hltj2
              subst hC
              obtain ⟨g0, g1, g2, g3, -⟩ := cells4 hP.box
              have hfl := flip_u8 x
              have Hp := Lib.hid (hP.poke hc (x ^^^ 1) hF)
              clear hP
              go_wp2
              go_roundw
              case rel => exact ⟨j2 + 1, by omega, by go_num, Hp.out⟩
              case measure => simp [intOf]; omega
            · go_wp2
              go_roundw
              case rel => exact ⟨k + 1, by omega, by go_num, HI.out.next ((((Ext.alloc1 _ _).ext Hx4.out).ext ho5).ext ho6 |>.ext hx7) hP.out (Nat.le_succ _)⟩
              case measure => simp [intOf]; omega
    · have hP := HN.out
      clear hP
      obtain ⟨FR, vr, zr, HR⟩ : ∃ FR vr zr, Hid (TR w (wo.alloc (.cells #[.slice none 0 0, .slice none 0 0] 56)) (fun _ => True) FR wo.heap.size vr zr []) := ⟨fun b => wo.heap.size ≤ b ∧ b < wo.heap.size + 1, _, _, Lib.hid ⟨hI.ext.alloc _, trivial, ⟨blk_new _ _, ⟨Nat.le_refl _, Nat.lt_succ_self _⟩, Sl.nil _ _ _, Sl.nil _ _ _, rfl⟩, fun b hb => by simp; omega⟩⟩
      have HT := Lib.hid tells_nil
      have Hok := Lib.hid okM_nil
      have hm60 : ([] : List (Ent × Nat)).length ≤ 60 := by simp
      go_wp2
      generalize wo.alloc (.cells #[.slice none 0 0, .slice none 0 0] 56) = W at *
      generalize wo.heap.size = R at *
      generalize ([] : List (Ent × Nat)) = m at *
      obtain ⟨A8, n8, rfl, -⟩ := HR.out.rf.ents.form
      obtain ⟨Z8, q8, rfl, -⟩ := HR.out.rf.hts.form
      simp only [List.length_map] at HR
      obtain ⟨r0, r1, rf⟩ := cells2 HR.out.rf.blk
      have HRd := Lib.hid (HR.out.step HT.out (Out.refl _ W).drew)
      go_region_held3 (fun w' => w'.cell? ⟨R, 0, none⟩ = some (.slice A8 m.length n8)) (first | go_keep | assumption)
        (first
          | (go_at_call 33; refine (HT.out.all _ HRd.out.inv).mono ?_; rintro r w4 ⟨v4, rfl, hx4, ho4⟩; have H4 := Lib.hid (HRd.out.step HT.out hx4); have hsl4 := Lib.hid (Owned.ents ho4 (by rw [List.length_map]; omega)); obtain ⟨A4, n4, rfl, -⟩ := hsl4.out.form; simp only [List.length_map] at hsl4; have k4 := (cells2 H4.out.rf.blk).1)
          | (go_at_call 32; refine (r3_sameSelf hsl4.out H4.out.rf.ents).mono ?_; rintro r w5 ⟨rfl, hx5⟩; have H5 := Lib.hid (H4.out.step HT.out hx5); have k5 := (cells2 H5.out.rf.blk).1)
          | (go_at_call 30; refine (HT.out.len _ H5.out.inv).mono ?_; rintro r w6 ⟨rfl, rfl⟩)
          | (go_at_call 34; refine (HT.out.size _ H5.out.inv).mono ?_; rintro r w6 ⟨rfl, rfl⟩)
          | (go_at_call 41; refine (r8_sizeM H5.out.rf.ents Hok.out hm60).mono ?_; rintro r w7 ⟨rfl, hx7⟩; have H7 := Lib.hid (H5.out.step HT.out hx7); have k7 := (cells2 H7.out.rf.blk).1))
      clear hx4 ho4 hsl4 k4 hx5 k5 H4 H5 HRd HR hx7 k7 r0 r1 rf
      go_wp2
      go_loopw [15] (fun s15 wr => ∃ h : Int, -1 ≤ h ∧ h ≤ 11 ∧ s15 = .int .i64 h ∧ TR w wr (fun _ => True) FR R (.slice A8 m.length n8) (.slice Z8 m.length q8) m) (fun s15 _ => (11 - intOf s15).toNat)
      case atStart => exact ⟨-1, by omega, by omega, rfl, H7.out⟩
      case round =>
        obtain ⟨wh, rfl⟩ : ∃ x : World, x = wr := ⟨_, rfl⟩
        obtain ⟨h, hh1, hh2, rfl, hT⟩ := hrel
        have HTh := Lib.hid hT
        obtain ⟨r0, r1, rf⟩ := cells2 hT.rf.blk
        clear hT
        by_cases hlt : h ≤ 10
        · go_wp2
          go_loopw [138, 16] (fun s138 s16 wq => ∃ i : Nat, i ≤ m.length ∧ s138 = .int .i64 i ∧ TR w wq (fun _ => True) FR R (.slice A8 m.length n8) (.slice Z8 m.length q8) m ∧ Ext wh wq ∧ Own keyC 30 wq wh.heap.size (fun b => FR b ∨ wh.heap.size ≤ b) s16 (rowI (m.take i) h)) (fun s138 _ _ => m.length - (intOf s138).toNat)
          case atStart => exact ⟨0, Nat.zero_le _, rfl, HTh.out, Out.refl _ _, by rw [List.take_zero, rowI_nil]; exact Own.nil _ _ _ _ _⟩
          case round =>
            obtain ⟨wi, rfl⟩ : ∃ x : World, x = wr := ⟨_, rfl⟩
            obtain ⟨i, hi, rfl, hT, hxi, hown⟩ := hrel
            have HTi := Lib.hid hT
            have HXi := Lib.hid hxi
            have Hown := Lib.hid hown
            obtain ⟨r0, r1, rf⟩ := cells2 hT.rf.blk
            obtain ⟨A7, k7, n7, rfl⟩ := hown.form0
            clear hT hxi hown
            by_cases hlti : i < m.length
            · obtain ⟨b1, o1, u1, v1, hA1, c0, c1, c2, c3, hu, hv⟩ := HTi.out.at_ i hlti
              obtain ⟨b2, o2, hZ1, d0⟩ := HTi.out.high i hlti
              subst hA1 hZ1
              obtain ⟨U, N1, n1, rfl⟩ := hu.form0
              obtain ⟨V, N2, n2, rfl⟩ := hv.form0
              have hz := blk_new wi (.cells #[.slice U N1 n1, u64V m[i].1.key.seq, byteV m[i].1.key.kind, .slice V N2 n2] 32)
              obtain ⟨z0, z1, z2, z3, -⟩ := cells4 hz
              have Hu := Lib.hid (hu.alloc (.cells #[.slice U N1 n1, u64V m[i].1.key.seq, byteV m[i].1.key.kind, .slice V N2 n2] 32))
              have HT2 := Lib.hid (HTi.out.step HT.out (Ext.alloc1 wi (.cells #[.slice U N1 n1, u64V m[i].1.key.seq, byteV m[i].1.key.kind, .slice V N2 n2] 32)))
              obtain ⟨r0', r1', rf'⟩ := cells2 HT2.out.rf.blk
              have d0' := (Ext.alloc1 wi (.cells #[.slice U N1 n1, u64V m[i].1.key.seq, byteV m[i].1.key.kind, .slice V N2 n2] 32)).cell d0 (fun f => f)
              have HX2 := Lib.hid (HXi.out.alloc (.cells #[.slice U N1 n1, u64V m[i].1.key.seq, byteV m[i].1.key.kind, .slice V N2 n2] 32))
              have Ho2 := Lib.hid (Hown.out.ext (Ext.alloc1 wi (.cells #[.slice U N1 n1, u64V m[i].1.key.seq, byteV m[i].1.key.kind, .slice V N2 n2] 32)))
              have hsz := HXi.out.size
              have hrl := rowI_le (m.take i) h
              rw [List.length_take] at hrl
              have Hs := Lib.hid (rowI_succ hlti h)
              have hFRl := HTh.out.lt
              have HFR := Lib.hid hFRl
              have Hlt := Lib.hid Hown.out.lt
              clear hu hv hz hFRl
              by_cases h1 : 1 ≤ h
              · by_cases h2 : h ≤ (m[i].2 : Int)
                · have HS : Hid (rowI (m.take (i + 1)) h = rowI (m.take i) h ++ [m[i].1.key]) := Lib.hid (by rw [Hs.out, if_pos ⟨h1, h2⟩])
                  go_wp2_with (at_builtin; refine wpList_append_one rfl (.tmp 156) (.tmp 159) 37 rfl fits30 (Ho2.out.ext (Ext.alloc1 _ _)) rfl (by simp; omega) (blk_at (n := wi.heap.size + 1) (by simp)) rfl m[i].1.key ⟨_, rfl, (Hu.out.alloc _).mono (fun b hb _ => ⟨.inl hb, fun e => by have := (Hlt.out b e).1; have := HFR.out b hb; omega⟩) (.inl (by decide))⟩ (by omega) (by decide) ?_; intro v8 w8 g1 g2 g3; obtain ⟨A9, k9, n9, rfl⟩ := g1.form0; have G1 := Lib.hid g1; have hx8 : Ext wh w8 := ((HX2.out.alloc _).then g2 (fun i hi e => by have := (Hlt.out i e).1; omega)); have Hx8 := Lib.hid hx8; clear g1 g2 g3 hx8)
                  go_roundw
                  case rel => exact ⟨i + 1, by omega, by go_num, HTh.out.step HT.out Hx8.out, Hx8.out, by rw [HS.out]; exact G1.out⟩
                  case measure => simp [intOf]; omega
                · have HS : Hid (rowI (m.take (i + 1)) h = rowI (m.take i) h) := Lib.hid (by rw [Hs.out, if_neg (fun hh => h2 hh.2)]; simp)
                  go_wp2
                  go_roundw
                  case rel => exact ⟨i + 1, by omega, by go_num, HT2.out, HX2.out, by rw [HS.out]; exact Ho2.out⟩
                  case measure => simp [intOf]; omega
              · have HS : Hid (rowI (m.take (i + 1)) h = rowI (m.take i) h) := Lib.hid (by rw [Hs.out, if_neg (fun hh => h1 hh.1)]; simp)
                go_wp2
                go_roundw
                case rel => exact ⟨i + 1, by omega, by go_num, HT2.out, HX2.out, by rw [HS.out]; exact Ho2.out⟩
                case measure => simp [intOf]; omega
            · obtain rfl : i = m.length := by omega
              rw [List.take_length] at Hown
              have hrl := rowI_le m h
              obtain ⟨_, _, hv7, -⟩ := Hown.out.form
              injection hv7 with e1 e2 e3
              subst e2
              clear e1 e3
              generalize hrow : rowI m h = row at *
              have Hrow := Lib.hid hrow
              clear hrow
              go_wp2_with (first | (go_at_call 29; refine (HT.out.row _ h HTi.out.inv).mono ?_; rw [Hrow.out]; rintro r w9 ⟨v9, rfl, hx9, ho9⟩; have hsl9 := Lib.hid (Owned.keys ho9 (by omega)); obtain ⟨A9, n9, rfl, -⟩ := ho9.form; clear ho9))
              have hown9 := Lib.hid (Hown.out.ext hx9)
              have HT9 := Lib.hid (HTi.out.step HT.out hx9)
              have hwant := Lib.hid (hown9.out.sl (G := fun _ => True) (by decide) (by show _ ≤ 140737488355328; omega) (fun _ _ _ => trivial) (fun _ _ _ => trivial))
              have hrl2 : row.length ≤ 60 := by omega
              clear hx9 hown9 Hown
              go_loopw [172] (fun s172 wq => ∃ q : Nat, q ≤ row.length ∧ s172 = .int .i64 q ∧ TR w wq (fun _ => True) FR R (.slice A8 m.length n8) (.slice Z8 m.length q8) m ∧ Ext w9 wq) (fun s172 _ => row.length - (intOf s172).toNat)
              case atStart => exact ⟨0, Nat.zero_le _, rfl, HT9.out, Out.refl _ _⟩
              case round =>
                obtain ⟨wq, rfl⟩ : ∃ x : World, x = wr := ⟨_, rfl⟩
                obtain ⟨q, hq, rfl, hT, hxq⟩ := hrel
                have HTq := Lib.hid hT
                have HXq := Lib.hid hxq
                clear hT
                by_cases hltq : q < row.length
                · obtain ⟨b1, o1, u1, hA1, -, c0, c1, c2, hu⟩ := (hsl9.out.ext hxq).keyAt q hltq
                  obtain ⟨b2, o2, u2, hA2, -, d0, d1, d2, hv⟩ := (hwant.out.ext hxq).keyAt q hltq
                  subst hA1 hA2
                  obtain ⟨U, N1, n1, rfl⟩ := hu.form0
                  obtain ⟨V, N2, n2, rfl⟩ := hv.form0
                  have Hu := Lib.hid hu.drew
                  have Hv := Lib.hid hv.drew
                  clear hu hv hxq
                  go_wp2
                  go_region_held3 (fun w' => w'.cell? ⟨b1, o1 + q * 3, none⟩ = some (.slice U N1 n1) ∧ w'.cell? ⟨b1, o1 + q * 3 + 1, none⟩ = some (u64V row[q].seq) ∧ w'.cell? ⟨b1, o1 + q * 3 + 2, none⟩ = some (byteV row[q].kind) ∧ w'.cell? ⟨b2, o2 + q * 3, none⟩ = some (.slice V N2 n2) ∧ w'.cell? ⟨b2, o2 + q * 3 + 1, none⟩ = some (u64V row[q].seq) ∧ w'.cell? ⟨b2, o2 + q * 3 + 2, none⟩ = some (byteV row[q].kind)) (first | go_keep | (exact ⟨hx6.cell c0 (fun f => f), hx6.cell c1 (fun f => f), hx6.cell c2 (fun f => f), hx6.cell d0 (fun f => f), hx6.cell d1 (fun f => f), hx6.cell d2 (fun f => f)⟩)) (first | (go_at_call 31; refine (r3_sameRefl row[q] Hu.out Hv.out).mono ?_; rintro r w6 ⟨rfl, hx6⟩))
                  go_wp2
                  go_roundw
                  case rel => exact ⟨q + 1, by omega, by go_num, (HTq.out.step HT.out (Out.refl _ _).drew).step HT.out hx6, HXq.out.drew.ext hx6⟩
                  case measure => simp [intOf]; omega
                · go_wp2
                  go_roundw
                  case rel => exact ⟨h + 1, by omega, by omega, by go_num, HTq.out⟩
                  case measure => simp [intOf]; omega
        · clear r0 r1 rf H7
          go_wp2
          go_loopw [188] (fun s188 wq => ∃ i : Nat, i ≤ ps.length ∧ s188 = .int .i64 i ∧ TR w wq (fun _ => True) FR R (.slice A8 m.length n8) (.slice Z8 m.length q8) m) (fun s188 _ => ps.length - (intOf s188).toNat)
          case atStart => exact ⟨0, Nat.zero_le _, rfl, HTh.out⟩
          case round =>
            obtain ⟨wi, rfl⟩ : ∃ x : World, x = wr := ⟨_, rfl⟩
            obtain ⟨i, hi, rfl, hT⟩ := hrel
            have HTi := Lib.hid hT
            clear hT
            by_cases hlti : i < ps.length
            · obtain ⟨b1, o1, cs1, hA1, -, hat, u1, rfl, hu⟩ := Sl.get (Hy.out.ext HTi.out.ext) i hlti
              have c0 := hat.cell 0 _ rfl
              have c1 := hat.cell 1 _ rfl
              have c2 := hat.cell 2 _ rfl
              simp only [keyCA, Nat.add_zero] at c0 c1 c2
              subst hA1
              obtain ⟨U, n1, rfl, hu1, hu2, hu3, -⟩ := hu.form
              have hu3 : ps[i].user.length ≤ 9223372036854775807 := hu3
              have hz := blk_new wi (.cells #[.slice U ps[i].user.length n1, u64V ps[i].seq, byteV ps[i].kind] 30)
              obtain ⟨z0, z1, z2, zf⟩ := cells3 hz
              have Hz := Lib.hid hz
              have Hu := Lib.hid (hu.alloc (.cells #[.slice U ps[i].user.length n1, u64V ps[i].seq, byteV ps[i].kind] 30))
              have HT2 := Lib.hid (HTi.out.step HT.out (Ext.alloc1 wi (.cells #[.slice U ps[i].user.length n1, u64V ps[i].seq, byteV ps[i].kind] 30)))
              clear hu hz hat
              by_cases h20 : i < 20
              · go_upto_region 51 with (fail)
                go_cut [203] (fun s203 wx => ∃ (k' : Key) (u' : Value), wx.heap[wi.heap.size]? = some (.cells #[u', u64V k'.seq, byteV k'.kind] 30) ∧ Bs wx (fun b => wi.heap.size < b ∧ b < wx.heap.size) u' k'.user ∧ Ext wi wx)
                case first =>
                  have ho0 := Own.empty byteC 5 (wi.alloc (.cells #[.slice U ps[i].user.length n1, u64V ps[i].seq, byteV ps[i].kind] 30)) (fun _ => False)
                  simp only [World.size_alloc] at ho0
                  have ho := Lib.hid ho0
                  clear ho0
                  by_cases h80 : 80 < ps[i].user.length
                  · have hle : (ps[i].user.take 80).length = 80 := List.length_take_of_le (by omega)
                    have hs := Lib.hid (Sl.ofA (Hu.out.take 80 (by omega)) (by rw [hle]; decide))
                    have Hle := Lib.hid hle
                    clear hle
                    go_wp2_with (at_builtin; refine wpList_append_sl rfl (.tmp 195) (.tmp 202) 27 rfl fits5 ho.out rfl (by simp) (hs.out.alloc _) rfl (fun _ _ _ h => h) (by rw [Hle.out]; decide) (by decide) ?_; intro v' w' h1 h2 h3; obtain ⟨A', k9, m9, rfl⟩ := h1.form0; have H1 := Lib.hid h1; have HX := Lib.hid (((Ext.alloc1 wi _).alloc _).then h2 (fun i hi e => by simp [Value.ownBlock] at e; omega)); have HK := Lib.hid (h2.blk (blk_alloc Hz.out (.cells #[] 5)) (by simp [Value.ownBlock])); obtain ⟨p0, p1, p2, pf⟩ := cells3 HK.out; clear h1 h2 h3)
                    go_meet
                    exact key_cut HK.out H1.out (by rw [Hle.out]; decide) HX.out
                  · have hs0 := Hu.out.take ps[i].user.length (Nat.le_refl _)
                    rw [List.take_length] at hs0
                    have hs := Lib.hid (Sl.ofA hs0 (by unfold big; omega))
                    clear hs0
                    go_wp2_with (at_builtin; refine wpList_append_sl rfl (.tmp 195) (.tmp 202) 27 rfl fits5 ho.out rfl (by simp) (hs.out.alloc _) rfl (fun _ _ _ h => h) (by simp; omega) (by decide) ?_; intro v' w' h1 h2 h3; obtain ⟨A', k9, m9, rfl⟩ := h1.form0; have H1 := Lib.hid h1; have HX := Lib.hid (((Ext.alloc1 wi _).alloc _).then h2 (fun i hi e => by simp [Value.ownBlock] at e; omega)); have HK := Lib.hid (h2.blk (blk_alloc Hz.out (.cells #[] 5)) (by simp [Value.ownBlock])); obtain ⟨p0, p1, p2, pf⟩ := cells3 HK.out; clear h1 h2 h3)
                    go_meet
                    exact key_cut HK.out H1.out (by omega) HX.out
                case rest =>
                  obtain ⟨wk, rfl⟩ : ∃ x : World, x = wc := ⟨_, rfl⟩
                  obtain ⟨k', u', hK, hku, hxk⟩ := hcut
                  have HK := Lib.hid hK
                  obtain ⟨U', N', n', rfl⟩ := hku.form0
                  obtain ⟨p0, p1, p2, -⟩ := cells3 hK
                  have HTk := Lib.hid (HTi.out.step HT.out hxk)
                  have Hku := Lib.hid hku
                  have HXk := Lib.hid hxk
                  have hRK : R < wi.heap.size := HTi.out.lt _ HTi.out.rf.foot
                  clear hK hku hxk HT2 Hu Hz z0 z1 z2 zf c0 c1 c2
                  obtain ⟨ob, hob⟩ : ∃ ob, fromE (m.map (·.1)) k' = ob := ⟨_, rfl⟩
                  obtain ⟨oc, hoc⟩ : ∃ oc, beforeE (m.map (·.1)) k' = oc := ⟨_, rfl⟩
                  have Hob := Lib.hid hob
                  have Hoc := Lib.hid hoc
                  clear hob hoc
                  go_wp2_with (first | (go_at_call 35; refine (HT.out.told k' _ _ _ HTk.out.inv (fun b hb => hb.2) Hku.out).mono ?_; rw [Hob.out]; rintro r w6 ⟨u6, v6, rfl, hx6, hb6, hc6⟩; obtain ⟨A6, k6, m6, rfl⟩ := hb6.form0; obtain ⟨C6, c6, d6, rfl⟩ := hc6.form0))
                  generalize hE : ob.getD zeroE = E at *
                  generalize hbo : ob.isSome = bo at *
                  have HE := Lib.hid hE
                  have Hbo := Lib.hid hbo
                  have hxa := hx6.alloc (.cells #[.slice A6 k6 m6, u64V E.key.seq, byteV E.key.kind, .slice C6 c6 d6] 32)
                  have HTa := Lib.hid (HTk.out.step HT.out hxa)
                  have HKa := Lib.hid (hxa.blk HK.out (fun f => f))
                  have Hka := Lib.hid (Hku.out.ext hxa)
                  have HXa := Lib.hid (HXk.out.ext hxa)
                  have HBa := Lib.hid (blk_new w6 (.cells #[.slice A6 k6 m6, u64V E.key.seq, byteV E.key.kind, .slice C6 c6 d6] 32))
                  have Hb6 := Lib.hid (hb6.alloc (.cells #[.slice A6 k6 m6, u64V E.key.seq, byteV E.key.kind, .slice C6 c6 d6] 32))
                  have Hc6 := Lib.hid (hc6.alloc (.cells #[.slice A6 k6 m6, u64V E.key.seq, byteV E.key.kind, .slice C6 c6 d6] 32))
                  have hs6 := hx6.size
                  have hs7 : wi.heap.size < wk.heap.size := blk_lt HK.out
                  obtain ⟨r0, r1, rf⟩ := cells2 HTa.out.rf.blk
                  obtain ⟨p0, p1, p2, -⟩ := cells3 HKa.out
                  clear hx6 hb6 hc6 hxa hE hbo HK Hku HTk
                  go_cut [25, 26] (fun s25 s26 wx => RBox (w6.alloc (.cells #[.slice A6 k6 m6, u64V E.key.seq, byteV E.key.kind, .slice C6 c6 d6] 32)) wx E bo s25 s26)
                  case first =>
                    refine region_B 11 (fun w' => w'.cell? ⟨R, 0, none⟩ = some (.slice A8 m.length n8) ∧ w'.cell? ⟨wi.heap.size, 0, none⟩ = some (.slice U' N' n') ∧ w'.cell? ⟨wi.heap.size, 1, none⟩ = some (u64V k'.seq) ∧ w'.cell? ⟨wi.heap.size, 2, none⟩ = some (byteV k'.kind)) (by kernel_rfl) ?q8_53S (fun hHeld0 => ?_)
                    case q8_53S => ((first | go_keep | ((try dsimp only); exact ⟨by assumption, by assumption, by assumption, by assumption⟩)))
                    refine anyB_take (i := 0) (oi := _) (v := ?q8_53v1) rfl (by kernel_rfl) (by kernel_rfl) (by kernel_rfl) (by kernel_rfl) (fun _ _ _ h => h) (Or.inl ⟨by rfl, ?q8_53h1⟩) (by assumption) ?q8_53r1
                    case q8_53h1 => (intro w hSw; (try dsimp only at hSw); go_simp; try with_reducible rfl)
                    (try simp only [List.getElem_toArray, List.getElem_cons_succ, List.getElem_cons_zero, Act.put, List.setIfInBounds_toArray, List.set_cons_zero, List.set_cons_succ])
                    refine anyB_take (i := 1) (oi := _) (v := ?q8_53v2) rfl (by kernel_rfl) (by kernel_rfl) (by kernel_rfl) (by kernel_rfl) (fun _ _ _ h => h) (Or.inl ⟨by rfl, ?q8_53h2⟩) (by assumption) ?q8_53r2
                    case q8_53h2 => (intro w hSw; (try dsimp only at hSw); go_simp; try with_reducible rfl)
                    (try simp only [List.getElem_toArray, List.getElem_cons_succ, List.getElem_cons_zero, Act.put, List.setIfInBounds_toArray, List.set_cons_zero, List.set_cons_succ])
                    refine anyB_take (i := 2) (oi := _) (v := ?q8_53v3) rfl (by kernel_rfl) (by kernel_rfl) (by kernel_rfl) (by kernel_rfl) (fun _ _ _ h => h) (Or.inl ⟨by rfl, ?q8_53h3⟩) (by assumption) ?q8_53r3
                    case q8_53h3 => (intro w hSw; (try dsimp only at hSw); go_simp; try with_reducible rfl)
                    (try simp only [List.getElem_toArray, List.getElem_cons_succ, List.getElem_cons_zero, Act.put, List.setIfInBounds_toArray, List.set_cons_zero, List.set_cons_succ])
                    refine anyB_take (i := 3) (oi := _) (v := ?q8_53v4) rfl (by kernel_rfl) (by kernel_rfl) (by kernel_rfl) (by kernel_rfl) (fun _ _ _ h => h) (Or.inl ⟨by rfl, ?q8_53h4⟩) (by assumption) ?q8_53r4
                    case q8_53h4 => (intro w hSw; (try dsimp only at hSw); go_simp; try with_reducible rfl)
                    (try simp only [List.getElem_toArray, List.getElem_cons_succ, List.getElem_cons_zero, Act.put, List.setIfInBounds_toArray, List.set_cons_zero, List.set_cons_succ])
                    refine anyB_take (i := 4) (oi := _) (v := ?q8_53v5) rfl (by kernel_rfl) (by kernel_rfl) (by kernel_rfl) (by kernel_rfl) (fun _ _ _ h => h) (Or.inl ⟨by rfl, ?q8_53h5⟩) (by assumption) ?q8_53r5
                    case q8_53h5 => (intro w hSw; (try dsimp only at hSw); go_simp; try with_reducible rfl)
                    (try simp only [List.getElem_toArray, List.getElem_cons_succ, List.getElem_cons_zero, Act.put, List.setIfInBounds_toArray, List.set_cons_zero, List.set_cons_succ])
                    refine anyB_two (i := 5) (j := 9) (oi := _) (oj := _) (by kernel_rfl) (by rfl) (by rfl) (by (simp only [List.getElem?_toArray, List.getElem?_cons_succ, List.getElem?_cons_zero] <;> rfl)) (by (simp only [List.getElem?_toArray, List.getElem?_cons_succ, List.getElem?_cons_zero] <;> rfl)) (fun K hK => ?q8_53x6) (fun K hK => ?q8_53y6)
                    case q8_53x6 =>
                      go_simp; go_at_call 42; refine (r8_from _ _ k' ((HTa.out.step HT.out (w1 := (w6.alloc (.cells #[.slice A6 k6 m6, u64V E.key.seq, byteV E.key.kind, .slice C6 c6 d6] 32)).drew) (by repeat' (first | exact Out.refl _ _ | refine Out.drew ?_ | refine Out.alloc ?_ _))).rf.ents) (Hka.out.ext (by repeat' (first | exact Out.refl _ _ | refine Out.drew ?_ | refine Out.alloc ?_ _))) (fun b hb => Nat.lt_of_lt_of_le (HTa.out.lt b hb.1) (by simp))).mono ?_; rw [Hob.out]; unfold ToldR; rw [HE.out, Hbo.out]; rintro r w7 ⟨u7, v7, rfl, hx7, hb7, hc7⟩; obtain ⟨A7, k7, m7, rfl⟩ := hb7.form0; obtain ⟨C7, c7, d7, rfl⟩ := hc7.form0; have HX7 : Hid (Ext (w6.alloc (.cells #[.slice A6 k6 m6, u64V E.key.seq, byteV E.key.kind, .slice C6 c6 d6] 32)) w7) := Lib.hid (Out.ext (by repeat' (first | exact Out.refl _ _ | refine Out.drew ?_ | refine Out.alloc ?_ _)) hx7); have H7 := Lib.hid (HTa.out.step HT.out HX7.out); have q0 := (cells2 H7.out.rf.blk).1; obtain ⟨t0, t1, t2, -⟩ := cells3 (HX7.out.blk HKa.out (fun f => f)); have Hb7 := Lib.hid hb7; have Hc7 := Lib.hid hc7; have hs9 := hx7.size; simp only [World.size_drew, World.size_alloc] at hs9; clear hb7 hc7
                      (try dsimp only)
                      refine hK.out _ _ ?q8_53S7 (fun hHeld1 => ?_)
                      case q8_53S7 => ((first | go_keep | ((try dsimp only); exact ⟨by assumption, by assumption, by assumption, by assumption⟩)))
                      clear hK K hHeld0
                      (try simp only [List.getElem_toArray, List.getElem_cons_succ, List.getElem_cons_zero, Act.put, List.setIfInBounds_toArray, List.set_cons_zero, List.set_cons_succ])
                      refine anyB_take (i := 6) (oi := _) (v := ?q8_53v8) rfl (by kernel_rfl) (by kernel_rfl) (by kernel_rfl) (by kernel_rfl) (fun _ _ _ h => h) (Or.inl ⟨by rfl, ?q8_53h8⟩) (by assumption) ?q8_53r8
                      case q8_53h8 => (intro w hSw; (try dsimp only at hSw); go_simp; try with_reducible rfl)
                      (try simp only [List.getElem_toArray, List.getElem_cons_succ, List.getElem_cons_zero, Act.put, List.setIfInBounds_toArray, List.set_cons_zero, List.set_cons_succ])
                      refine anyB_take (i := 7) (oi := _) (v := ?q8_53v9) rfl (by kernel_rfl) (by kernel_rfl) (by kernel_rfl) (by kernel_rfl) (fun _ _ _ h => h) (Or.inl ⟨by rfl, ?q8_53h9⟩) (by assumption) ?q8_53r9
                      case q8_53h9 => (intro w hSw; (try dsimp only at hSw); go_simp; try with_reducible rfl)
                      (try simp only [List.getElem_toArray, List.getElem_cons_succ, List.getElem_cons_zero, Act.put, List.setIfInBounds_toArray, List.set_cons_zero, List.set_cons_succ])
                      refine anyB_take (i := 8) (oi := _) (v := ?q8_53v10) rfl (by kernel_rfl) (by kernel_rfl) (by kernel_rfl) (by kernel_rfl) (fun _ _ _ h => h) (Or.inl ⟨by rfl, ?q8_53h10⟩) (by assumption) ?q8_53r10
                      case q8_53h10 => (intro w hSw; (try dsimp only at hSw); go_simp; try with_reducible rfl)
                      (try simp only [List.getElem_toArray, List.getElem_cons_succ, List.getElem_cons_zero, Act.put, List.setIfInBounds_toArray, List.set_cons_zero, List.set_cons_succ])
                      refine anyB_step (i := 9) (o := _) (by kernel_rfl) (by rfl) (by (simp only [List.getElem?_toArray, List.getElem?_cons_succ, List.getElem?_cons_zero] <;> rfl)) (fun K hK => ?_)
                      go_simp
                      refine hK.out _ _ ?q8_53S11 (fun hHeld2 => ?_)
                      case q8_53S11 => ((first | go_keep | ((try dsimp only); exact ⟨by assumption, by assumption, by assumption, by assumption⟩)))
                      clear hK K hHeld1
                      (try simp only [List.getElem_toArray, List.getElem_cons_succ, List.getElem_cons_zero, Act.put, List.setIfInBounds_toArray, List.set_cons_zero, List.set_cons_succ])
                      refine anyB_step (i := 10) (o := _) (by kernel_rfl) (by rfl) (by (simp only [List.getElem?_toArray, List.getElem?_cons_succ, List.getElem?_cons_zero] <;> rfl)) (fun K hK => ?_)
                      go_simp
                      refine hK.out _ _ ?q8_53S12 (fun hHeld3 => ?_)
                      case q8_53S12 => ((first | go_keep | ((try dsimp only); exact ⟨by assumption, by assumption, by assumption, by assumption⟩)))
                      clear hK K hHeld2
                      (try simp only [List.getElem_toArray, List.getElem_cons_succ, List.getElem_cons_zero, Act.put, List.setIfInBounds_toArray, List.set_cons_zero, List.set_cons_succ])
                      refine anyB_last (i := 11) (o := _) (by kernel_rfl) (by rfl) (by (simp only [List.getElem?_toArray, List.getElem?_cons_succ, List.getElem?_cons_zero] <;> rfl)) (fun K hK => ?_)
                      go_simp
                      refine hK.out _ _ ?_
                      clear hK K
                      (try simp only [List.getElem_toArray, List.getElem_cons_succ, List.getElem_cons_zero, Act.put, List.setIfInBounds_toArray, List.set_cons_zero, List.set_cons_succ])
                      refine anyB_done (by kernel_rfl) ?_ _
                      go_wp2
                      go_meet
                      first | exact rbox_1 HX7.out (fun b hb => HTa.out.lt b hb.1) Hb7.out Hc7.out | exact rbox_2 HX7.out (fun b hb => HTa.out.lt b hb.1) (by simp) YB.out Hb7.out Hc7.out
                    case q8_53y6 =>
                      go_simp
                      refine hK.out _ _ ?q8_53S13 (fun hHeld1 => ?_)
                      case q8_53S13 => ((first | go_keep | ((try dsimp only); exact ⟨by assumption, by assumption, by assumption, by assumption⟩)))
                      clear hK K hHeld0
                      (try simp only [List.getElem_toArray, List.getElem_cons_succ, List.getElem_cons_zero, Act.put, List.setIfInBounds_toArray, List.set_cons_zero, List.set_cons_succ])
                      refine anyB_step (i := 5) (o := _) (by kernel_rfl) (by rfl) (by (simp only [List.getElem?_toArray, List.getElem?_cons_succ, List.getElem?_cons_zero] <;> rfl)) (fun K hK => ?_)
                      go_simp; go_at_call 42; refine (r8_from _ _ k' ((HTa.out.step HT.out (w1 := ((w6.alloc (.cells #[.slice A6 k6 m6, u64V E.key.seq, byteV E.key.kind, .slice C6 c6 d6] 32)).alloc (.cells #[.slice none 0 0, .int .u64 0, .int .u8 0, .slice none 0 0] 32)).drew) (by repeat' (first | exact Out.refl _ _ | refine Out.drew ?_ | refine Out.alloc ?_ _))).rf.ents) (Hka.out.ext (by repeat' (first | exact Out.refl _ _ | refine Out.drew ?_ | refine Out.alloc ?_ _))) (fun b hb => Nat.lt_of_lt_of_le (HTa.out.lt b hb.1) (by simp))).mono ?_; rw [Hob.out]; unfold ToldR; rw [HE.out, Hbo.out]; rintro r w7 ⟨u7, v7, rfl, hx7, hb7, hc7⟩; obtain ⟨A7, k7, m7, rfl⟩ := hb7.form0; obtain ⟨C7, c7, d7, rfl⟩ := hc7.form0; have HX7 : Hid (Ext (w6.alloc (.cells #[.slice A6 k6 m6, u64V E.key.seq, byteV E.key.kind, .slice C6 c6 d6] 32)) w7) := Lib.hid (Out.ext (by repeat' (first | exact Out.refl _ _ | refine Out.drew ?_ | refine Out.alloc ?_ _)) hx7); have H7 := Lib.hid (HTa.out.step HT.out HX7.out); have q0 := (cells2 H7.out.rf.blk).1; obtain ⟨t0, t1, t2, -⟩ := cells3 (HX7.out.blk HKa.out (fun f => f)); have yb := hx7.blk (blk_new (w6.alloc (.cells #[.slice A6 k6 m6, u64V E.key.seq, byteV E.key.kind, .slice C6 c6 d6] 32)) (.cells #[.slice none 0 0, .int .u64 0, .int .u8 0, .slice none 0 0] 32)) (fun f => f); simp only [World.size_alloc] at yb; obtain ⟨y0, y1, y2, y3, yf⟩ := cells4 yb; have YB := Lib.hid yb; clear yb; have Hb7 := Lib.hid hb7; have Hc7 := Lib.hid hc7; have hs9 := hx7.size; simp only [World.size_drew, World.size_alloc] at hs9; clear hb7 hc7
                      (try dsimp only)
                      refine hK.out _ _ ?q8_53S14 (fun hHeld2 => ?_)
                      case q8_53S14 => ((first | go_keep | ((try dsimp only); exact ⟨by assumption, by assumption, by assumption, by assumption⟩)))
                      clear hK K hHeld1
                      (try simp only [List.getElem_toArray, List.getElem_cons_succ, List.getElem_cons_zero, Act.put, List.setIfInBounds_toArray, List.set_cons_zero, List.set_cons_succ])
                      refine anyB_take (i := 6) (oi := _) (v := ?q8_53v15) rfl (by kernel_rfl) (by kernel_rfl) (by kernel_rfl) (by kernel_rfl) (fun _ _ _ h => h) (Or.inl ⟨by rfl, ?q8_53h15⟩) (by assumption) ?q8_53r15
                      case q8_53h15 => (intro w hSw; (try dsimp only at hSw); go_simp; try with_reducible rfl)
                      (try simp only [List.getElem_toArray, List.getElem_cons_succ, List.getElem_cons_zero, Act.put, List.setIfInBounds_toArray, List.set_cons_zero, List.set_cons_succ])
                      refine anyB_take (i := 7) (oi := _) (v := ?q8_53v16) rfl (by kernel_rfl) (by kernel_rfl) (by kernel_rfl) (by kernel_rfl) (fun _ _ _ h => h) (Or.inl ⟨by rfl, ?q8_53h16⟩) (by assumption) ?q8_53r16
                      case q8_53h16 => (intro w hSw; (try dsimp only at hSw); go_simp; try with_reducible rfl)
                      (try simp only [List.getElem_toArray, List.getElem_cons_succ, List.getElem_cons_zero, Act.put, List.setIfInBounds_toArray, List.set_cons_zero, List.set_cons_succ])
                      refine anyB_take (i := 8) (oi := _) (v := ?q8_53v17) rfl (by kernel_rfl) (by kernel_rfl) (by kernel_rfl) (by kernel_rfl) (fun _ _ _ h => h) (Or.inl ⟨by rfl, ?q8_53h17⟩) (by assumption) ?q8_53r17
                      case q8_53h17 => (intro w hSw; (try dsimp only at hSw); go_simp; try with_reducible rfl)
                      (try simp only [List.getElem_toArray, List.getElem_cons_succ, List.getElem_cons_zero, Act.put, List.setIfInBounds_toArray, List.set_cons_zero, List.set_cons_succ])
                      refine anyB_step (i := 10) (o := _) (by kernel_rfl) (by rfl) (by (simp only [List.getElem?_toArray, List.getElem?_cons_succ, List.getElem?_cons_zero] <;> rfl)) (fun K hK => ?_)
                      go_simp
                      refine hK.out _ _ ?q8_53S18 (fun hHeld3 => ?_)
                      case q8_53S18 => (((try dsimp only); refine ⟨?_, ?_, ?_, ?_⟩ <;> (iterate 4 rw [setCell_other (fun e => by injection e with e1; omega)]) <;> assumption))
                      clear hK K hHeld2
                      (try simp only [List.getElem_toArray, List.getElem_cons_succ, List.getElem_cons_zero, Act.put, List.setIfInBounds_toArray, List.set_cons_zero, List.set_cons_succ])
                      refine anyB_last (i := 11) (o := _) (by kernel_rfl) (by rfl) (by (simp only [List.getElem?_toArray, List.getElem?_cons_succ, List.getElem?_cons_zero] <;> rfl)) (fun K hK => ?_)
                      go_simp
                      refine hK.out _ _ ?_
                      clear hK K
                      (try simp only [List.getElem_toArray, List.getElem_cons_succ, List.getElem_cons_zero, Act.put, List.setIfInBounds_toArray, List.set_cons_zero, List.set_cons_succ])
                      refine anyB_done (by kernel_rfl) ?_ _
                      go_wp2
                      go_meet
                      first | exact rbox_1 HX7.out (fun b hb => HTa.out.lt b hb.1) Hb7.out Hc7.out | exact rbox_2 HX7.out (fun b hb => HTa.out.lt b hb.1) (by simp) YB.out Hb7.out Hc7.out
                  case rest =>
                    obtain ⟨wb, rfl⟩ : ∃ x : World, x = wc := ⟨_, rfl⟩
                    obtain ⟨gb, ub, vb, rfl, rfl, hgB, hub, hvb, hxb⟩ := hcut
                    obtain ⟨Ab, kb, mb, rfl⟩ := hub.form0
                    obtain ⟨Cb, cb, db, rfl⟩ := hvb.form0
                    have HTb := Lib.hid (HTa.out.step HT.out hxb)
                    have HKb := Lib.hid (hxb.blk HKa.out (fun f => f))
                    have Hkb := Lib.hid (Hka.out.ext hxb)
                    have HBb := Lib.hid (hxb.blk HBa.out (fun f => f))
                    have Hub := Lib.hid hub
                    have Hvb := Lib.hid hvb
                    have HgB := Lib.hid hgB
                    have hsb := hxb.size
                    simp only [World.size_alloc] at hsb
                    have Hb6b := Lib.hid (Hb6.out.ext hxb)
                    have Hc6b := Lib.hid (Hc6.out.ext hxb)
                    obtain ⟨p0, p1, p2, -⟩ := cells3 HKb.out
                    clear hgB hub hvb hxb HTa HKa Hka HBa Hb6 Hc6 r0 r1 rf
                    go_wp2_with (first | (go_at_call 37; refine (HT.out.ahead k' _ _ _ HTb.out.inv (fun b hb => by have := hb.2; omega) Hkb.out).mono ?_; rw [Hoc.out]; rintro r w8 ⟨u9, v9, rfl, hx8, hb9, hc9⟩; obtain ⟨A9, k9, m9, rfl⟩ := hb9.form0; obtain ⟨C9, c9, d9, rfl⟩ := hc9.form0))
                    generalize hE2 : oc.getD zeroE = E2 at *
                    generalize hbo2 : oc.isSome = bo2 at *
                    have HE2 := Lib.hid hE2
                    have Hbo2 := Lib.hid hbo2
                    have hxe := hx8.alloc (.cells #[.slice A9 k9 m9, u64V E2.key.seq, byteV E2.key.kind, .slice C9 c9 d9] 32)
                    have HTe := Lib.hid (HTb.out.step HT.out hxe)
                    have HKe := Lib.hid (hxe.blk HKb.out (fun f => f))
                    have Hke := Lib.hid (Hkb.out.ext hxe)
                    have HBe := Lib.hid (hxe.blk HBb.out (fun f => f))
                    have HgBe := Lib.hid (hxe.blk HgB.out (fun f => f))
                    have HB2e := Lib.hid (blk_new w8 (.cells #[.slice A9 k9 m9, u64V E2.key.seq, byteV E2.key.kind, .slice C9 c9 d9] 32))
                    have Hbe := Lib.hid (hb9.alloc (.cells #[.slice A9 k9 m9, u64V E2.key.seq, byteV E2.key.kind, .slice C9 c9 d9] 32))
                    have Hce := Lib.hid (hc9.alloc (.cells #[.slice A9 k9 m9, u64V E2.key.seq, byteV E2.key.kind, .slice C9 c9 d9] 32))
                    have Hb6e := Lib.hid (Hb6b.out.ext hxe)
                    have Hc6e := Lib.hid (Hc6b.out.ext hxe)
                    have Hube := Lib.hid (Hub.out.ext hxe)
                    have Hvbe := Lib.hid (Hvb.out.ext hxe)
                    have hs8 := hx8.size
                    obtain ⟨r0, r1, rf⟩ := cells2 HTe.out.rf.blk
                    obtain ⟨p0, p1, p2, -⟩ := cells3 HKe.out
                    clear hx8 hb9 hc9 hxe hE2 hbo2 HTb HKb Hkb HBb HgB Hb6b Hc6b Hub Hvb
                    go_cut [29, 30] (fun s29 s30 wx => RBox (w8.alloc (.cells #[.slice A9 k9 m9, u64V E2.key.seq, byteV E2.key.kind, .slice C9 c9 d9] 32)) wx E2 bo2 s29 s30)
                    case first =>
                      refine region_B 11 (fun w' => w'.cell? ⟨R, 0, none⟩ = some (.slice A8 m.length n8) ∧ w'.cell? ⟨wi.heap.size, 0, none⟩ = some (.slice U' N' n') ∧ w'.cell? ⟨wi.heap.size, 1, none⟩ = some (u64V k'.seq) ∧ w'.cell? ⟨wi.heap.size, 2, none⟩ = some (byteV k'.kind)) (by kernel_rfl) ?q8_55S (fun hHeld0 => ?_)
                      case q8_55S => ((first | go_keep | ((try dsimp only); exact ⟨by assumption, by assumption, by assumption, by assumption⟩)))
                      refine anyB_take (i := 0) (oi := _) (v := ?q8_55v1) rfl (by kernel_rfl) (by kernel_rfl) (by kernel_rfl) (by kernel_rfl) (fun _ _ _ h => h) (Or.inl ⟨by rfl, ?q8_55h1⟩) (by assumption) ?q8_55r1
                      case q8_55h1 => (intro w hSw; (try dsimp only at hSw); go_simp; try with_reducible rfl)
                      (try simp only [List.getElem_toArray, List.getElem_cons_succ, List.getElem_cons_zero, Act.put, List.setIfInBounds_toArray, List.set_cons_zero, List.set_cons_succ])
                      refine anyB_take (i := 1) (oi := _) (v := ?q8_55v2) rfl (by kernel_rfl) (by kernel_rfl) (by kernel_rfl) (by kernel_rfl) (fun _ _ _ h => h) (Or.inl ⟨by rfl, ?q8_55h2⟩) (by assumption) ?q8_55r2
                      case q8_55h2 => (intro w hSw; (try dsimp only at hSw); go_simp; try with_reducible rfl)
                      (try simp only [List.getElem_toArray, List.getElem_cons_succ, List.getElem_cons_zero, Act.put, List.setIfInBounds_toArray, List.set_cons_zero, List.set_cons_succ])
                      refine anyB_take (i := 2) (oi := _) (v := ?q8_55v3) rfl (by kernel_rfl) (by kernel_rfl) (by kernel_rfl) (by kernel_rfl) (fun _ _ _ h => h) (Or.inl ⟨by rfl, ?q8_55h3⟩) (by assumption) ?q8_55r3
                      case q8_55h3 => (intro w hSw; (try dsimp only at hSw); go_simp; try with_reducible rfl)
                      (try simp only [List.getElem_toArray, List.getElem_cons_succ, List.getElem_cons_zero, Act.put, List.setIfInBounds_toArray, List.set_cons_zero, List.set_cons_succ])
                      refine anyB_take (i := 3) (oi := _) (v := ?q8_55v4) rfl (by kernel_rfl) (by kernel_rfl) (by kernel_rfl) (by kernel_rfl) (fun _ _ _ h => h) (Or.inl ⟨by rfl, ?q8_55h4⟩) (by assumption) ?q8_55r4
                      case q8_55h4 => (intro w hSw; (try dsimp only at hSw); go_simp; try with_reducible rfl)
                      (try simp only [List.getElem_toArray, List.getElem_cons_succ, List.getElem_cons_zero, Act.put, List.setIfInBounds_toArray, List.set_cons_zero, List.set_cons_succ])
                      refine anyB_take (i := 4) (oi := _) (v := ?q8_55v5) rfl (by kernel_rfl) (by kernel_rfl) (by kernel_rfl) (by kernel_rfl) (fun _ _ _ h => h) (Or.inl ⟨by rfl, ?q8_55h5⟩) (by assumption) ?q8_55r5
                      case q8_55h5 => (intro w hSw; (try dsimp only at hSw); go_simp; try with_reducible rfl)
                      (try simp only [List.getElem_toArray, List.getElem_cons_succ, List.getElem_cons_zero, Act.put, List.setIfInBounds_toArray, List.set_cons_zero, List.set_cons_succ])
                      refine anyB_two (i := 5) (j := 9) (oi := _) (oj := _) (by kernel_rfl) (by rfl) (by rfl) (by (simp only [List.getElem?_toArray, List.getElem?_cons_succ, List.getElem?_cons_zero] <;> rfl)) (by (simp only [List.getElem?_toArray, List.getElem?_cons_succ, List.getElem?_cons_zero] <;> rfl)) (fun K hK => ?q8_55x6) (fun K hK => ?q8_55y6)
                      case q8_55x6 =>
                        go_simp; go_at_call 43; refine (r8_before _ _ k' ((HTe.out.step HT.out (w1 := (w8.alloc (.cells #[.slice A9 k9 m9, u64V E2.key.seq, byteV E2.key.kind, .slice C9 c9 d9] 32)).drew) (by repeat' (first | exact Out.refl _ _ | refine Out.drew ?_ | refine Out.alloc ?_ _))).rf.ents) (Hke.out.ext (by repeat' (first | exact Out.refl _ _ | refine Out.drew ?_ | refine Out.alloc ?_ _))) (fun b hb => Nat.lt_of_lt_of_le (HTe.out.lt b hb.1) (by simp)) (fun b hb => by have := hb.2; simp; omega)).mono ?_; rw [Hoc.out]; unfold ToldR; rw [HE2.out, Hbo2.out]; rintro r wg ⟨ug, vg, rfl, hxg, hbg, hcg⟩; obtain ⟨Ag, kg, mg, rfl⟩ := hbg.form0; obtain ⟨Cg, cg, dg, rfl⟩ := hcg.form0; have HXg : Hid (Ext (w8.alloc (.cells #[.slice A9 k9 m9, u64V E2.key.seq, byteV E2.key.kind, .slice C9 c9 d9] 32)) wg) := Lib.hid (Out.ext (by repeat' (first | exact Out.refl _ _ | refine Out.drew ?_ | refine Out.alloc ?_ _)) hxg); have Hg := Lib.hid (HTe.out.step HT.out HXg.out); have q0 := (cells2 Hg.out.rf.blk).1; obtain ⟨t0, t1, t2, -⟩ := cells3 (HXg.out.blk HKe.out (fun f => f)); have Hbg := Lib.hid hbg; have Hcg := Lib.hid hcg; have hs9 := hxg.size; simp only [World.size_drew, World.size_alloc] at hs9; clear hbg hcg
                        (try dsimp only)
                        refine hK.out _ _ ?q8_55S7 (fun hHeld1 => ?_)
                        case q8_55S7 => ((first | go_keep | ((try dsimp only); exact ⟨by assumption, by assumption, by assumption, by assumption⟩)))
                        clear hK K hHeld0
                        (try simp only [List.getElem_toArray, List.getElem_cons_succ, List.getElem_cons_zero, Act.put, List.setIfInBounds_toArray, List.set_cons_zero, List.set_cons_succ])
                        refine anyB_take (i := 6) (oi := _) (v := ?q8_55v8) rfl (by kernel_rfl) (by kernel_rfl) (by kernel_rfl) (by kernel_rfl) (fun _ _ _ h => h) (Or.inl ⟨by rfl, ?q8_55h8⟩) (by assumption) ?q8_55r8
                        case q8_55h8 => (intro w hSw; (try dsimp only at hSw); go_simp; try with_reducible rfl)
                        (try simp only [List.getElem_toArray, List.getElem_cons_succ, List.getElem_cons_zero, Act.put, List.setIfInBounds_toArray, List.set_cons_zero, List.set_cons_succ])
                        refine anyB_take (i := 7) (oi := _) (v := ?q8_55v9) rfl (by kernel_rfl) (by kernel_rfl) (by kernel_rfl) (by kernel_rfl) (fun _ _ _ h => h) (Or.inl ⟨by rfl, ?q8_55h9⟩) (by assumption) ?q8_55r9
                        case q8_55h9 => (intro w hSw; (try dsimp only at hSw); go_simp; try with_reducible rfl)
                        (try simp only [List.getElem_toArray, List.getElem_cons_succ, List.getElem_cons_zero, Act.put, List.setIfInBounds_toArray, List.set_cons_zero, List.set_cons_succ])
                        refine anyB_take (i := 8) (oi := _) (v := ?q8_55v10) rfl (by kernel_rfl) (by kernel_rfl) (by kernel_rfl) (by kernel_rfl) (fun _ _ _ h => h) (Or.inl ⟨by rfl, ?q8_55h10⟩) (by assumption) ?q8_55r10
                        case q8_55h10 => (intro w hSw; (try dsimp only at hSw); go_simp; try with_reducible rfl)
                        (try simp only [List.getElem_toArray, List.getElem_cons_succ, List.getElem_cons_zero, Act.put, List.setIfInBounds_toArray, List.set_cons_zero, List.set_cons_succ])
                        refine anyB_step (i := 9) (o := _) (by kernel_rfl) (by rfl) (by (simp only [List.getElem?_toArray, List.getElem?_cons_succ, List.getElem?_cons_zero] <;> rfl)) (fun K hK => ?_)
                        go_simp
                        refine hK.out _ _ ?q8_55S11 (fun hHeld2 => ?_)
                        case q8_55S11 => ((first | go_keep | ((try dsimp only); exact ⟨by assumption, by assumption, by assumption, by assumption⟩)))
                        clear hK K hHeld1
                        (try simp only [List.getElem_toArray, List.getElem_cons_succ, List.getElem_cons_zero, Act.put, List.setIfInBounds_toArray, List.set_cons_zero, List.set_cons_succ])
                        refine anyB_step (i := 10) (o := _) (by kernel_rfl) (by rfl) (by (simp only [List.getElem?_toArray, List.getElem?_cons_succ, List.getElem?_cons_zero] <;> rfl)) (fun K hK => ?_)
                        go_simp
                        refine hK.out _ _ ?q8_55S12 (fun hHeld3 => ?_)
                        case q8_55S12 => ((first | go_keep | ((try dsimp only); exact ⟨by assumption, by assumption, by assumption, by assumption⟩)))
                        clear hK K hHeld2
                        (try simp only [List.getElem_toArray, List.getElem_cons_succ, List.getElem_cons_zero, Act.put, List.setIfInBounds_toArray, List.set_cons_zero, List.set_cons_succ])
                        refine anyB_last (i := 11) (o := _) (by kernel_rfl) (by rfl) (by (simp only [List.getElem?_toArray, List.getElem?_cons_succ, List.getElem?_cons_zero] <;> rfl)) (fun K hK => ?_)
                        go_simp
                        refine hK.out _ _ ?_
                        clear hK K
                        (try simp only [List.getElem_toArray, List.getElem_cons_succ, List.getElem_cons_zero, Act.put, List.setIfInBounds_toArray, List.set_cons_zero, List.set_cons_succ])
                        refine anyB_done (by kernel_rfl) ?_ _
                        go_wp2
                        go_meet
                        first | exact rbox_1 HXg.out (fun b hb => HTe.out.lt b hb.1) Hbg.out Hcg.out | exact rbox_2 HXg.out (fun b hb => HTe.out.lt b hb.1) (by simp) YB.out Hbg.out Hcg.out
                      case q8_55y6 =>
                        go_simp
                        refine hK.out _ _ ?q8_55S13 (fun hHeld1 => ?_)
                        case q8_55S13 => ((first | go_keep | ((try dsimp only); exact ⟨by assumption, by assumption, by assumption, by assumption⟩)))
                        clear hK K hHeld0
                        (try simp only [List.getElem_toArray, List.getElem_cons_succ, List.getElem_cons_zero, Act.put, List.setIfInBounds_toArray, List.set_cons_zero, List.set_cons_succ])
                        refine anyB_step (i := 5) (o := _) (by kernel_rfl) (by rfl) (by (simp only [List.getElem?_toArray, List.getElem?_cons_succ, List.getElem?_cons_zero] <;> rfl)) (fun K hK => ?_)
                        go_simp; go_at_call 43; refine (r8_before _ _ k' ((HTe.out.step HT.out (w1 := ((w8.alloc (.cells #[.slice A9 k9 m9, u64V E2.key.seq, byteV E2.key.kind, .slice C9 c9 d9] 32)).alloc (.cells #[.slice none 0 0, .int .u64 0, .int .u8 0, .slice none 0 0] 32)).drew) (by repeat' (first | exact Out.refl _ _ | refine Out.drew ?_ | refine Out.alloc ?_ _))).rf.ents) (Hke.out.ext (by repeat' (first | exact Out.refl _ _ | refine Out.drew ?_ | refine Out.alloc ?_ _))) (fun b hb => Nat.lt_of_lt_of_le (HTe.out.lt b hb.1) (by simp)) (fun b hb => by have := hb.2; simp; omega)).mono ?_; rw [Hoc.out]; unfold ToldR; rw [HE2.out, Hbo2.out]; rintro r wg ⟨ug, vg, rfl, hxg, hbg, hcg⟩; obtain ⟨Ag, kg, mg, rfl⟩ := hbg.form0; obtain ⟨Cg, cg, dg, rfl⟩ := hcg.form0; have HXg : Hid (Ext (w8.alloc (.cells #[.slice A9 k9 m9, u64V E2.key.seq, byteV E2.key.kind, .slice C9 c9 d9] 32)) wg) := Lib.hid (Out.ext (by repeat' (first | exact Out.refl _ _ | refine Out.drew ?_ | refine Out.alloc ?_ _)) hxg); have Hg := Lib.hid (HTe.out.step HT.out HXg.out); have q0 := (cells2 Hg.out.rf.blk).1; obtain ⟨t0, t1, t2, -⟩ := cells3 (HXg.out.blk HKe.out (fun f => f)); have yb := hxg.blk (blk_new (w8.alloc (.cells #[.slice A9 k9 m9, u64V E2.key.seq, byteV E2.key.kind, .slice C9 c9 d9] 32)) (.cells #[.slice none 0 0, .int .u64 0, .int .u8 0, .slice none 0 0] 32)) (fun f => f); simp only [World.size_alloc] at yb; obtain ⟨y0, y1, y2, y3, yf⟩ := cells4 yb; have YB := Lib.hid yb; clear yb; have Hbg := Lib.hid hbg; have Hcg := Lib.hid hcg; have hs9 := hxg.size; simp only [World.size_drew, World.size_alloc] at hs9; clear hbg hcg
                        (try dsimp only)
                        refine hK.out _ _ ?q8_55S14 (fun hHeld2 => ?_)
                        case q8_55S14 => ((first | go_keep | ((try dsimp only); exact ⟨by assumption, by assumption, by assumption, by assumption⟩)))
                        clear hK K hHeld1
                        (try simp only [List.getElem_toArray, List.getElem_cons_succ, List.getElem_cons_zero, Act.put, List.setIfInBounds_toArray, List.set_cons_zero, List.set_cons_succ])
                        refine anyB_take (i := 6) (oi := _) (v := ?q8_55v15) rfl (by kernel_rfl) (by kernel_rfl) (by kernel_rfl) (by kernel_rfl) (fun _ _ _ h => h) (Or.inl ⟨by rfl, ?q8_55h15⟩) (by assumption) ?q8_55r15
                        case q8_55h15 => (intro w hSw; (try dsimp only at hSw); go_simp; try with_reducible rfl)
                        (try simp only [List.getElem_toArray, List.getElem_cons_succ, List.getElem_cons_zero, Act.put, List.setIfInBounds_toArray, List.set_cons_zero, List.set_cons_succ])
                        refine anyB_take (i := 7) (oi := _) (v := ?q8_55v16) rfl (by kernel_rfl) (by kernel_rfl) (by kernel_rfl) (by kernel_rfl) (fun _ _ _ h => h) (Or.inl ⟨by rfl, ?q8_55h16⟩) (by assumption) ?q8_55r16
                        case q8_55h16 => (intro w hSw; (try dsimp only at hSw); go_simp; try with_reducible rfl)
                        (try simp only [List.getElem_toArray, List.getElem_cons_succ, List.getElem_cons_zero, Act.put, List.setIfInBounds_toArray, List.set_cons_zero, List.set_cons_succ])
                        refine anyB_take (i := 8) (oi := _) (v := ?q8_55v17) rfl (by kernel_rfl) (by kernel_rfl) (by kernel_rfl) (by kernel_rfl) (fun _ _ _ h => h) (Or.inl ⟨by rfl, ?q8_55h17⟩) (by assumption) ?q8_55r17
                        case q8_55h17 => (intro w hSw; (try dsimp only at hSw); go_simp; try with_reducible rfl)
                        (try simp only [List.getElem_toArray, List.getElem_cons_succ, List.getElem_cons_zero, Act.put, List.setIfInBounds_toArray, List.set_cons_zero, List.set_cons_succ])
                        refine anyB_step (i := 10) (o := _) (by kernel_rfl) (by rfl) (by (simp only [List.getElem?_toArray, List.getElem?_cons_succ, List.getElem?_cons_zero] <;> rfl)) (fun K hK => ?_)
                        go_simp
                        refine hK.out _ _ ?q8_55S18 (fun hHeld3 => ?_)
                        case q8_55S18 => (((try dsimp only); refine ⟨?_, ?_, ?_, ?_⟩ <;> (iterate 4 rw [setCell_other (fun e => by injection e with e1; omega)]) <;> assumption))
                        clear hK K hHeld2
                        (try simp only [List.getElem_toArray, List.getElem_cons_succ, List.getElem_cons_zero, Act.put, List.setIfInBounds_toArray, List.set_cons_zero, List.set_cons_succ])
                        refine anyB_last (i := 11) (o := _) (by kernel_rfl) (by rfl) (by (simp only [List.getElem?_toArray, List.getElem?_cons_succ, List.getElem?_cons_zero] <;> rfl)) (fun K hK => ?_)
                        go_simp
                        refine hK.out _ _ ?_
                        clear hK K
                        (try simp only [List.getElem_toArray, List.getElem_cons_succ, List.getElem_cons_zero, Act.put, List.setIfInBounds_toArray, List.set_cons_zero, List.set_cons_succ])
                        refine anyB_done (by kernel_rfl) ?_ _
                        go_wp2
                        go_meet
                        first | exact rbox_1 HXg.out (fun b hb => HTe.out.lt b hb.1) Hbg.out Hcg.out | exact rbox_2 HXg.out (fun b hb => HTe.out.lt b hb.1) (by simp) YB.out Hbg.out Hcg.out
                    case rest =>
                      obtain ⟨wd, rfl⟩ : ∃ x : World, x = wc := ⟨_, rfl⟩
                      obtain ⟨gd, ud, vd, rfl, rfl, hgD, hud, hvd, hxd⟩ := hcut
                      obtain ⟨Ad, kd, md, rfl⟩ := hud.form0
                      obtain ⟨Cd, cd, dd, rfl⟩ := hvd.form0
                      have HTd := Lib.hid (HTe.out.step HT.out hxd)
                      obtain ⟨a0, a1, a2, a3, -⟩ := cells4 (hxd.blk HBe.out (fun f => f))
                      obtain ⟨b0, b1', b2', b3', -⟩ := cells4 (hxd.blk HgBe.out (fun f => f))
                      have HB2d := Lib.hid (hxd.blk HB2e.out (fun f => f))
                      have HgD := Lib.hid hgD
                      have Hb6d := Lib.hid (Hb6e.out.ext hxd)
                      have Hc6d := Lib.hid (Hc6e.out.ext hxd)
                      have Hubd := Lib.hid (Hube.out.ext hxd)
                      have Hvbd := Lib.hid (Hvbe.out.ext hxd)
                      have Hbd := Lib.hid (Hbe.out.ext hxd)
                      have Hcd := Lib.hid (Hce.out.ext hxd)
                      have Hud := Lib.hid hud
                      have Hvd := Lib.hid hvd
                      clear hgD hud hvd hxd HTe HKe Hke HBe HgBe HB2e Hbe Hce Hb6e Hc6e Hube Hvbe r0 r1 rf p0 p1 p2
                      go_wp2_with (first
                        | (have hh := Hb6d; clear hh; go_at_call 36; refine (r3_sameEntRefl E Hb6d.out Hubd.out Hc6d.out Hvbd.out).mono ?_; rintro r wx ⟨rfl, hxx⟩; obtain ⟨e0, e1, e2, e3, -⟩ := cells4 (hxx.blk HB2d.out (fun f => f)); obtain ⟨f0, f1, f2, f3, -⟩ := cells4 (hxx.blk HgD.out (fun f => f)); have HTx := Lib.hid (HTd.out.step HT.out hxx); have Hbx := Lib.hid (Hbd.out.ext hxx); have Hcx := Lib.hid (Hcd.out.ext hxx); have Hux := Lib.hid (Hud.out.ext hxx); have Hvx := Lib.hid (Hvd.out.ext hxx); clear Hb6d)
                        | (go_at_call 36; refine (r3_sameEntRefl E2 Hbx.out Hux.out Hcx.out Hvx.out).mono ?_; rintro r wy ⟨rfl, hxy⟩))
                      go_roundw
                      case rel => exact ⟨i + 1, by omega, by go_num, HTx.out.step HT.out hxy⟩
                      case measure => simp [intOf]; omega
              · go_wp2
                go_ret
                exact ⟨rfl, HT2.out.ext⟩
            · go_wp2
              go_ret
              exact ⟨rfl, HTi.out.ext⟩

set_option maxRecDepth 100000 in
set_option maxHeartbeats 8000000 in
theorem skipPlays_list (w : World) {F G : Nat → Prop} {x y : Value} (l : List PutE) (hx : Sl putCA w F x l) (ps : List Key) (hy : Sl keyCA w G y ps) :
    Calls Try.prog 8 #[.bool false, x, y] w fun e w' => e = .returned (.bool true) ∧ Ext w w' := by
  obtain ⟨A, N, n, rfl⟩ := hx.form0
  obtain ⟨Y, n9, rfl, hy1, hy2, hy3, -⟩ := hy.form
  have hy3 : ps.length ≤ 9223372036854775807 := hy3
  have Hx := Lib.hid hx
  have Hy := Lib.hid hy
  clear hx hy hy1 hy2
  go_enter Try.func8, Try.ntmps8
  go_wp2_with (first
    | (go_at_call 25; refine (law08_awake _).mono ?_; rintro r w1 ⟨rfl, hx1⟩)
    | (go_at_call 26; refine (sk_newM _).mono ?_; rintro r w2 ⟨L, rfl, hx2, hs2⟩)
    | (go_at_call 27; refine (law08_few _ l (((Hx.out.ext hx1).ext hx2).alloc _)).mono ?_; rintro r w3 ⟨v3, rfl, hx3, hs3⟩; have HN := Lib.hid (PlR.start hx1 hx2 hs2 hx3 hs3); obtain ⟨A3, n3, rfl, -⟩ := hs3.form; clear hs3 hs2))
  have hlen3 := HN.out.few
  generalize fewP l = fl at *
  generalize w2.heap.size + 1 = cLo at *
  generalize w2.heap.size = R at *
  generalize w3.heap.size = cHi at *
  go_loopw [40] (fun s40 wr => ∃ k : Nat, k ≤ fl.length ∧ s40 = .int .i64 k ∧ PlR w wr cLo cHi L R fl (.slice A3 fl.length n3) k) (fun s40 _ => fl.length - (intOf s40).toNat)
  case atStart => exact ⟨0, Nat.zero_le _, rfl, HN.out⟩
  case round =>
    obtain ⟨wo, rfl⟩ : ∃ wo : World, wo = wr := ⟨_, rfl⟩
    obtain ⟨k, hk, rfl, hI⟩ := hrel
    by_cases hlt : k < fl.length
    · obtain ⟨b1, o1, u1, v1, rfl, -, c0, c1, c2, c3, c4, hu, hv, -, -⟩ := hI.sl.put k hlt
      obtain ⟨U, N1, n1, rfl⟩ := hu.form0
      obtain ⟨V, N2, n2, rfl⟩ := hv.form0
      obtain ⟨FS, FR, hFS, hFR, hsk, hrf⟩ := hI.two
      have HSk := Lib.hid hsk
      have HRf := Lib.hid hrf
      have HFS := Lib.hid hFS
      have HFR := Lib.hid hFR
      have hRR : FR R := let ⟨_, _, hE⟩ := hrf; hE.foot
      have HRR := Lib.hid hRR
      have HRlt := Lib.hid (hFR R hRR)
      have HSort := Lib.hid hsk.sorted
      have hd0 := hI.hd
      have HFew := Lib.hid (insAll_few hI.few k)
      clear hFS hFR hsk hrf hRR
      have hxP := Ext.alloc1 wo (.cells #[.slice U N1 n1, u64V fl[k].e.key.seq, byteV fl[k].e.key.kind, .slice V N2 n2, .int .i64 fl[k].h] 34)
      have Hu := Lib.hid (hu.ext hxP)
      have Hv := Lib.hid (hv.ext hxP)
      have hz := blk_new wo (.cells #[.slice U N1 n1, u64V fl[k].e.key.seq, byteV fl[k].e.key.kind, .slice V N2 n2, .int .i64 fl[k].h] 34)
      obtain ⟨z0, z1, z2, z3, z4, -⟩ := cells5 hz
      have Hz := Lib.hid hz
      have HI := Lib.hid hI
      clear hI hu hv hz hxP
      go_wp2_with (first
        | (go_at_call 39; refine (r3_twin _ fl[k].e Hu.out Hv.out).mono ?_; rintro r w4 ⟨u4, v4, rfl, hx4, hb4, hc4⟩; obtain ⟨A4, m4, rfl, -⟩ := hb4.form; obtain ⟨C4, d4, rfl, -⟩ := hc4.form; have s4 := hx4.size; simp only [World.size_alloc] at s4 hb4 hc4; have ZP := Lib.hid (blk_alloc (hx4.blk Hz.out (fun f => f)) (.cells #[.slice A4 fl[k].e.key.user.length m4, u64V fl[k].e.key.seq, byteV fl[k].e.key.kind, .slice C4 fl[k].e.value.length d4] 32)); have ZB := Lib.hid (blk_new w4 (.cells #[.slice A4 fl[k].e.key.user.length m4, u64V fl[k].e.key.seq, byteV fl[k].e.key.kind, .slice C4 fl[k].e.value.length d4] 32)); have Hb4 := Lib.hid ((hb4.below (by decide)).alloc (.cells #[.slice A4 fl[k].e.key.user.length m4, u64V fl[k].e.key.seq, byteV fl[k].e.key.kind, .slice C4 fl[k].e.value.length d4] 32)); have Hc4 := Lib.hid ((hc4.below (by decide)).alloc (.cells #[.slice A4 fl[k].e.key.user.length m4, u64V fl[k].e.key.seq, byteV fl[k].e.key.kind, .slice C4 fl[k].e.value.length d4] 32)); have Hx4 := Lib.hid ((hx4.alloc (.cells #[.slice A4 fl[k].e.key.user.length m4, u64V fl[k].e.key.seq, byteV fl[k].e.key.kind, .slice C4 fl[k].e.value.length d4] 32))); obtain ⟨y0, y1, y2, y3, -⟩ := cells4 ZB.out; obtain ⟨t0, t1, t2, t3, t4, -⟩ := cells5 ZP.out; clear hb4 hc4 hx4)
        | (go_at_call 28; refine (sk_insert (((HSk.out.ext (Ext.alloc1 _ _)).ext Hx4.out)) HFew.out (F := fun b => wo.heap.size + 1 ≤ b ∧ b < w4.heap.size) (fun b hb => by have := hb.2; simp; omega) Hb4.out Hc4.out fl[k].h).mono ?_; rintro r w5 ⟨rfl, ho5, hs5⟩; have ZP5 := Lib.hid (ho5.blk ZP.out (fun hf => by have := (HFS.out _ hf).2.1; omega)); have ZB5 := Lib.hid (ho5.blk ZB.out (fun hf => by have := (HFS.out _ hf).2.1; omega)); have Hu5 := Lib.hid ((Hu.out.ext Hx4.out).out ho5 (fun b _ hb hf => (HFS.out b hf).2.2.2 hb)); have Hv5 := Lib.hid ((Hv.out.ext Hx4.out).out ho5 (fun b _ hb hf => (HFS.out b hf).2.2.2 hb)); have Hb5 := Lib.hid (Hb4.out.out ho5 (fun b _ hb hf => by have := (HFS.out b hf).2.1; omega)); have Hc5 := Lib.hid (Hc4.out.out ho5 (fun b _ hb hf => by have := (HFS.out b hf).2.1; omega)); have Hrf5 := Lib.hid (((HRf.out.ext (Ext.alloc1 _ _)).ext Hx4.out).frame ho5 (fun b _ hb hf => (HFS.out b hf).2.2.1 hb)); have Hs5 := Lib.hid hs5; clear hs5; have s5 := ho5.size; simp only [World.size_alloc] at s5; obtain ⟨y0', y1', y2', y3', -⟩ := cells4 ZB5.out; obtain ⟨t0', t1', t2', t3', t4', -⟩ := cells5 ZP5.out)
        | (go_at_call 40; refine (r8_insert Hrf5.out HSort.out HFew.out (F := fun b => cLo ≤ b ∧ b < cHi) (fun b hb => by have := hb.2; omega) Hu5.out Hv5.out fl[k].h).mono ?_; rintro r w6 ⟨rfl, ho6, hs6⟩; have hRl := HRlt.out.2.1; have ZP6 := Lib.hid (ho6.blk ZP5.out (fun e => by omega)); have ZB6 := Lib.hid (ho6.blk ZB5.out (fun e => by omega)); have Hu6 := Lib.hid (Hu5.out.out ho6 (fun b _ hb e => HRlt.out.2.2 (e ▸ hb))); have Hv6 := Lib.hid (Hv5.out.out ho6 (fun b _ hb e => HRlt.out.2.2 (e ▸ hb))); have Hb6 := Lib.hid (Hb5.out.out ho6 (fun b _ hb e => by omega)); have Hc6 := Lib.hid (Hc5.out.out ho6 (fun b _ hb e => by omega)); have Hs6 := Lib.hid hs6; clear hs6; have s6 := ho6.size; obtain ⟨y0'', y1'', y2'', y3'', -⟩ := cells4 ZB6.out; obtain ⟨t0'', t1'', t2'', t3'', t4'', -⟩ := cells5 ZP6.out)
        | (go_at_call 36; refine (r3_sameEntry _ fl[k].e fl[k].e Hb6.out Hu6.out Hc6.out Hv6.out).mono ?_; rintro r w7 ⟨rfl, hx7⟩; have ZB7 := Lib.hid (hx7.blk ZB6.out (fun f => f)); have Hb7 := Lib.hid (Hb6.out.ext hx7); have Hc7 := Lib.hid (Hc6.out.ext hx7); have s7 := hx7.size; obtain ⟨q0, q1, q2, q3, -⟩ := cells4 ZB7.out))
      have hvl : fl[k].e.value.length ≤ 140737488355328 := by obtain ⟨_, _, _, _, _, h7, _⟩ := Hc7.out; exact h7
      have hul : fl[k].e.key.user.length ≤ 140737488355328 := by obtain ⟨_, _, _, _, _, h7, _⟩ := Hb7.out; exact h7
      have hPk : PkR w7 w7 (wo.heap.size + 1) w4.heap.size w4.heap.size (.cells #[.slice A4 fl[k].e.key.user.length m4, u64V fl[k].e.key.seq, byteV fl[k].e.key.kind, .slice C4 fl[k].e.value.length d4] 32) (.slice A4 fl[k].e.key.user.length m4) fl[k].e.key.user.length (.slice C4 fl[k].e.value.length d4) fl[k].e.value.length :=
        ⟨Out.refl _ _, ZB7.out, Nat.le_refl _, ⟨_, rfl, Hb7.out⟩, ⟨_, rfl, Hc7.out⟩⟩
      have HPk := Lib.hid hPk
      clear hPk
      go_loopw [70] (fun s70 wq => ∃ j : Nat, j ≤ fl[k].e.value.length ∧ s70 = .int .i64 j ∧ PkR w7 wq (wo.heap.size + 1) w4.heap.size w4.heap.size (.cells #[.slice A4 fl[k].e.key.user.length m4, u64V fl[k].e.key.seq, byteV fl[k].e.key.kind, .slice C4 fl[k].e.value.length d4] 32) (.slice A4 fl[k].e.key.user.length m4) fl[k].e.key.user.length (.slice C4 fl[k].e.value.length d4) fl[k].e.value.length) (fun s70 _ => fl[k].e.value.length - (intOf s70).toNat)
      case atStart => exact ⟨0, Nat.zero_le _, rfl, HPk.out⟩
      case round =>
        obtain ⟨j, hj, rfl, hP⟩ := hrel
        by_cases hltj : j < fl[k].e.value.length
        · obtain ⟨b, off, x, hC, hF, hc, hfz⟩ := hP.bv.at_ j hltj
          subst hC
          obtain ⟨g0, g1, g2, g3, -⟩ := cells4 hP.box
          have hfl := flip_u8 x
          have Hp := Lib.hid (hP.poke hc (x ^^^ 1) hF)
          clear hP
          go_wp2
          go_roundw
          case rel => exact ⟨j + 1, by omega, by go_num, Hp.out⟩
          case measure => simp [intOf]; omega
        · obtain ⟨g0, g1, g2, g3, -⟩ := cells4 hP.box
          have HP := Lib.hid hP
          clear hP
          go_wp2
          go_loopw [85] (fun s85 wq => ∃ j : Nat, j ≤ fl[k].e.key.user.length ∧ s85 = .int .i64 j ∧ PkR w7 wq (wo.heap.size + 1) w4.heap.size w4.heap.size (.cells #[.slice A4 fl[k].e.key.user.length m4, u64V fl[k].e.key.seq, byteV fl[k].e.key.kind, .slice C4 fl[k].e.value.length d4] 32) (.slice A4 fl[k].e.key.user.length m4) fl[k].e.key.user.length (.slice C4 fl[k].e.value.length d4) fl[k].e.value.length) (fun s85 _ => fl[k].e.key.user.length - (intOf s85).toNat)
          case atStart => exact ⟨0, Nat.zero_le _, rfl, HP.out⟩
          case round =>
            obtain ⟨j2, hj2, rfl, hP⟩ := hrel
            by_cases hltj2 : j2 < fl[k].e.key.user.length
            · obtain ⟨b, off, x, hC, hF, hc, hfz⟩ := hP.bu.at_ j2 hltj2
              subst hC
              obtain ⟨g0, g1, g2, g3, -⟩ := cells4 hP.box
              have hfl := flip_u8 x
              have Hp := Lib.hid (hP.poke hc (x ^^^ 1) hF)
              clear hP
              go_wp2
              go_roundw
              case rel => exact ⟨j2 + 1, by omega, by go_num, Hp.out⟩
              case measure => simp [intOf]; omega
            · go_wp2
              go_roundw
              case rel => exact ⟨k + 1, by omega, by go_num, HI.out.next hlt HFS.out HFR.out ((Ext.alloc1 _ _).ext Hx4.out) ho5 Hs5.out ho6 HRR.out Hs6.out hx7 hP.out (Nat.le_succ _) (by simp)⟩
              case measure => simp [intOf]; omega
    · obtain rfl : k = fl.length := by omega
      obtain ⟨FS, FR, hFS, hFR, hsk, vr, zr, hrf⟩ := hI.two
      rw [List.take_length] at hsk hrf
      have HR : Hid (TR w wo (fun w => SkM w FS L (insAll [] fl)) FR R vr zr (insAll [] fl)) := Lib.hid ⟨hI.ext, hsk, hrf, fun b hb => (hFR b hb).2.1⟩
      have HT := Lib.hid (tells_sk (Foot := FS) (L := L) (okM_all fl))
      have Hok := Lib.hid (okM_all fl)
      have hm60 := all_le fl hlen3
      clear hI HN hFS hFR hsk hrf
      obtain ⟨W, rfl⟩ : ∃ x : World, x = wo := ⟨_, rfl⟩
      generalize insAll [] fl = m at *
      go_wp2
      obtain ⟨A8, n8, rfl, -⟩ := HR.out.rf.ents.form
      obtain ⟨Z8, q8, rfl, -⟩ := HR.out.rf.hts.form
      simp only [List.length_map] at HR
      obtain ⟨r0, r1, rf⟩ := cells2 HR.out.rf.blk
      have HRd := Lib.hid (HR.out.step HT.out (Out.refl _ W).drew)
      go_region_held3 (fun w' => w'.cell? ⟨R, 0, none⟩ = some (.slice A8 m.length n8)) (first | go_keep | assumption)
        (first
          | (go_at_call 33; refine (HT.out.all _ HRd.out.inv).mono ?_; rintro r w4 ⟨v4, rfl, hx4, ho4⟩; have H4 := Lib.hid (HRd.out.step HT.out hx4); have hsl4 := Lib.hid (Owned.ents ho4 (by rw [List.length_map]; omega)); obtain ⟨A4, n4, rfl, -⟩ := hsl4.out.form; simp only [List.length_map] at hsl4; have k4 := (cells2 H4.out.rf.blk).1)
          | (go_at_call 32; refine (r3_sameSelf hsl4.out H4.out.rf.ents).mono ?_; rintro r w5 ⟨rfl, hx5⟩; have H5 := Lib.hid (H4.out.step HT.out hx5); have k5 := (cells2 H5.out.rf.blk).1)
          | (go_at_call 30; refine (HT.out.len _ H5.out.inv).mono ?_; rintro r w6 ⟨rfl, rfl⟩)
          | (go_at_call 34; refine (HT.out.size _ H5.out.inv).mono ?_; rintro r w6 ⟨rfl, rfl⟩)
          | (go_at_call 41; refine (r8_sizeM H5.out.rf.ents Hok.out hm60).mono ?_; rintro r w7 ⟨rfl, hx7⟩; have H7 := Lib.hid (H5.out.step HT.out hx7); have k7 := (cells2 H7.out.rf.blk).1))
      clear hx4 ho4 hsl4 k4 hx5 k5 H4 H5 HRd HR hx7 k7 r0 r1 rf
      go_wp2
      go_loopw [15] (fun s15 wr => ∃ h : Int, -1 ≤ h ∧ h ≤ 11 ∧ s15 = .int .i64 h ∧ TR w wr (fun w => SkM w FS L m) FR R (.slice A8 m.length n8) (.slice Z8 m.length q8) m) (fun s15 _ => (11 - intOf s15).toNat)
      case atStart => exact ⟨-1, by omega, by omega, rfl, H7.out⟩
      case round =>
        obtain ⟨wh, rfl⟩ : ∃ x : World, x = wr := ⟨_, rfl⟩
        obtain ⟨h, hh1, hh2, rfl, hT⟩ := hrel
        have HTh := Lib.hid hT
        obtain ⟨r0, r1, rf⟩ := cells2 hT.rf.blk
        clear hT
        by_cases hlt : h ≤ 10
        · go_wp2
          go_loopw [138, 16] (fun s138 s16 wq => ∃ i : Nat, i ≤ m.length ∧ s138 = .int .i64 i ∧ TR w wq (fun w => SkM w FS L m) FR R (.slice A8 m.length n8) (.slice Z8 m.length q8) m ∧ Ext wh wq ∧ Own keyC 30 wq wh.heap.size (fun b => FR b ∨ wh.heap.size ≤ b) s16 (rowI (m.take i) h)) (fun s138 _ _ => m.length - (intOf s138).toNat)
          case atStart => exact ⟨0, Nat.zero_le _, rfl, HTh.out, Out.refl _ _, by rw [List.take_zero, rowI_nil]; exact Own.nil _ _ _ _ _⟩
          case round =>
            obtain ⟨wi, rfl⟩ : ∃ x : World, x = wr := ⟨_, rfl⟩
            obtain ⟨i, hi, rfl, hT, hxi, hown⟩ := hrel
            have HTi := Lib.hid hT
            have HXi := Lib.hid hxi
            have Hown := Lib.hid hown
            obtain ⟨r0, r1, rf⟩ := cells2 hT.rf.blk
            obtain ⟨A7, k7, n7, rfl⟩ := hown.form0
            clear hT hxi hown
            by_cases hlti : i < m.length
            · obtain ⟨b1, o1, u1, v1, hA1, c0, c1, c2, c3, hu, hv⟩ := HTi.out.at_ i hlti
              obtain ⟨b2, o2, hZ1, d0⟩ := HTi.out.high i hlti
              subst hA1 hZ1
              obtain ⟨U, N1, n1, rfl⟩ := hu.form0
              obtain ⟨V, N2, n2, rfl⟩ := hv.form0
              have hz := blk_new wi (.cells #[.slice U N1 n1, u64V m[i].1.key.seq, byteV m[i].1.key.kind, .slice V N2 n2] 32)
              obtain ⟨z0, z1, z2, z3, -⟩ := cells4 hz
              have Hu := Lib.hid (hu.alloc (.cells #[.slice U N1 n1, u64V m[i].1.key.seq, byteV m[i].1.key.kind, .slice V N2 n2] 32))
              have HT2 := Lib.hid (HTi.out.step HT.out (Ext.alloc1 wi (.cells #[.slice U N1 n1, u64V m[i].1.key.seq, byteV m[i].1.key.kind, .slice V N2 n2] 32)))
              obtain ⟨r0', r1', rf'⟩ := cells2 HT2.out.rf.blk
              have d0' := (Ext.alloc1 wi (.cells #[.slice U N1 n1, u64V m[i].1.key.seq, byteV m[i].1.key.kind, .slice V N2 n2] 32)).cell d0 (fun f => f)
              have HX2 := Lib.hid (HXi.out.alloc (.cells #[.slice U N1 n1, u64V m[i].1.key.seq, byteV m[i].1.key.kind, .slice V N2 n2] 32))
              have Ho2 := Lib.hid (Hown.out.ext (Ext.alloc1 wi (.cells #[.slice U N1 n1, u64V m[i].1.key.seq, byteV m[i].1.key.kind, .slice V N2 n2] 32)))
              have hsz := HXi.out.size
              have hrl := rowI_le (m.take i) h
              rw [List.length_take] at hrl
              have Hs := Lib.hid (rowI_succ hlti h)
              have hFRl := HTh.out.lt
              have HFR := Lib.hid hFRl
              have Hlt := Lib.hid Hown.out.lt
              clear hu hv hz hFRl
              by_cases h1 : 1 ≤ h
              · by_cases h2 : h ≤ (m[i].2 : Int)
                · have HS : Hid (rowI (m.take (i + 1)) h = rowI (m.take i) h ++ [m[i].1.key]) := Lib.hid (by rw [Hs.out, if_pos ⟨h1, h2⟩])
                  go_wp2_with (at_builtin; refine wpList_append_one rfl (.tmp 156) (.tmp 159) 37 rfl fits30 (Ho2.out.ext (Ext.alloc1 _ _)) rfl (by simp; omega) (blk_at (n := wi.heap.size + 1) (by simp)) rfl m[i].1.key ⟨_, rfl, (Hu.out.alloc _).mono (fun b hb _ => ⟨.inl hb, fun e => by have := (Hlt.out b e).1; have := HFR.out b hb; omega⟩) (.inl (by decide))⟩ (by omega) (by decide) ?_; intro v8 w8 g1 g2 g3; obtain ⟨A9, k9, n9, rfl⟩ := g1.form0; have G1 := Lib.hid g1; have hx8 : Ext wh w8 := ((HX2.out.alloc _).then g2 (fun i hi e => by have := (Hlt.out i e).1; omega)); have Hx8 := Lib.hid hx8; clear g1 g2 g3 hx8)
                  go_roundw
                  case rel => exact ⟨i + 1, by omega, by go_num, HTh.out.step HT.out Hx8.out, Hx8.out, by rw [HS.out]; exact G1.out⟩
                  case measure => simp [intOf]; omega
                · have HS : Hid (rowI (m.take (i + 1)) h = rowI (m.take i) h) := Lib.hid (by rw [Hs.out, if_neg (fun hh => h2 hh.2)]; simp)
                  go_wp2
                  go_roundw
                  case rel => exact ⟨i + 1, by omega, by go_num, HT2.out, HX2.out, by rw [HS.out]; exact Ho2.out⟩
                  case measure => simp [intOf]; omega
              · have HS : Hid (rowI (m.take (i + 1)) h = rowI (m.take i) h) := Lib.hid (by rw [Hs.out, if_neg (fun hh => h1 hh.1)]; simp)
                go_wp2
                go_roundw
                case rel => exact ⟨i + 1, by omega, by go_num, HT2.out, HX2.out, by rw [HS.out]; exact Ho2.out⟩
                case measure => simp [intOf]; omega
            · obtain rfl : i = m.length := by omega
              rw [List.take_length] at Hown
              have hrl := rowI_le m h
              obtain ⟨_, _, hv7, -⟩ := Hown.out.form
              injection hv7 with e1 e2 e3
              subst e2
              clear e1 e3
              generalize hrow : rowI m h = row at *
              have Hrow := Lib.hid hrow
              clear hrow
              go_wp2_with (first | (go_at_call 29; refine (HT.out.row _ h HTi.out.inv).mono ?_; rw [Hrow.out]; rintro r w9 ⟨v9, rfl, hx9, ho9⟩; have hsl9 := Lib.hid (Owned.keys ho9 (by omega)); obtain ⟨A9, n9, rfl, -⟩ := ho9.form; clear ho9))
              have hown9 := Lib.hid (Hown.out.ext hx9)
              have HT9 := Lib.hid (HTi.out.step HT.out hx9)
              have hwant := Lib.hid (hown9.out.sl (G := fun _ => True) (by decide) (by show _ ≤ 140737488355328; omega) (fun _ _ _ => trivial) (fun _ _ _ => trivial))
              have hrl2 : row.length ≤ 60 := by omega
              clear hx9 hown9 Hown
              go_loopw [172] (fun s172 wq => ∃ q : Nat, q ≤ row.length ∧ s172 = .int .i64 q ∧ TR w wq (fun w => SkM w FS L m) FR R (.slice A8 m.length n8) (.slice Z8 m.length q8) m ∧ Ext w9 wq) (fun s172 _ => row.length - (intOf s172).toNat)
              case atStart => exact ⟨0, Nat.zero_le _, rfl, HT9.out, Out.refl _ _⟩
              case round =>
                obtain ⟨wq, rfl⟩ : ∃ x : World, x = wr := ⟨_, rfl⟩
                obtain ⟨q, hq, rfl, hT, hxq⟩ := hrel
                have HTq := Lib.hid hT
                have HXq := Lib.hid hxq
                clear hT
                by_cases hltq : q < row.length
                · obtain ⟨b1, o1, u1, hA1, -, c0, c1, c2, hu⟩ := (hsl9.out.ext hxq).keyAt q hltq
                  obtain ⟨b2, o2, u2, hA2, -, d0, d1, d2, hv⟩ := (hwant.out.ext hxq).keyAt q hltq
                  subst hA1 hA2
                  obtain ⟨U, N1, n1, rfl⟩ := hu.form0
                  obtain ⟨V, N2, n2, rfl⟩ := hv.form0
                  have Hu := Lib.hid hu.drew
                  have Hv := Lib.hid hv.drew
                  clear hu hv hxq
                  go_wp2
                  go_region_held3 (fun w' => w'.cell? ⟨b1, o1 + q * 3, none⟩ = some (.slice U N1 n1) ∧ w'.cell? ⟨b1, o1 + q * 3 + 1, none⟩ = some (u64V row[q].seq) ∧ w'.cell? ⟨b1, o1 + q * 3 + 2, none⟩ = some (byteV row[q].kind) ∧ w'.cell? ⟨b2, o2 + q * 3, none⟩ = some (.slice V N2 n2) ∧ w'.cell? ⟨b2, o2 + q * 3 + 1, none⟩ = some (u64V row[q].seq) ∧ w'.cell? ⟨b2, o2 + q * 3 + 2, none⟩ = some (byteV row[q].kind)) (first | go_keep | (exact ⟨hx6.cell c0 (fun f => f), hx6.cell c1 (fun f => f), hx6.cell c2 (fun f => f), hx6.cell d0 (fun f => f), hx6.cell d1 (fun f => f), hx6.cell d2 (fun f => f)⟩)) (first | (go_at_call 31; refine (r3_sameRefl row[q] Hu.out Hv.out).mono ?_; rintro r w6 ⟨rfl, hx6⟩))
                  go_wp2
                  go_roundw
                  case rel => exact ⟨q + 1, by omega, by go_num, (HTq.out.step HT.out (Out.refl _ _).drew).step HT.out hx6, HXq.out.drew.ext hx6⟩
                  case measure => simp [intOf]; omega
                · go_wp2
                  go_roundw
                  case rel => exact ⟨h + 1, by omega, by omega, by go_num, HTq.out⟩
                  case measure => simp [intOf]; omega
        · clear r0 r1 rf H7
          go_wp2
          go_loopw [188] (fun s188 wq => ∃ i : Nat, i ≤ ps.length ∧ s188 = .int .i64 i ∧ TR w wq (fun w => SkM w FS L m) FR R (.slice A8 m.length n8) (.slice Z8 m.length q8) m) (fun s188 _ => ps.length - (intOf s188).toNat)
          case atStart => exact ⟨0, Nat.zero_le _, rfl, HTh.out⟩
          case round =>
            obtain ⟨wi, rfl⟩ : ∃ x : World, x = wr := ⟨_, rfl⟩
            obtain ⟨i, hi, rfl, hT⟩ := hrel
            have HTi := Lib.hid hT
            clear hT
            by_cases hlti : i < ps.length
            · obtain ⟨b1, o1, cs1, hA1, -, hat, u1, rfl, hu⟩ := Sl.get (Hy.out.ext HTi.out.ext) i hlti
              have c0 := hat.cell 0 _ rfl
              have c1 := hat.cell 1 _ rfl
              have c2 := hat.cell 2 _ rfl
              simp only [keyCA, Nat.add_zero] at c0 c1 c2
              subst hA1
              obtain ⟨U, n1, rfl, hu1, hu2, hu3, -⟩ := hu.form
              have hu3 : ps[i].user.length ≤ 9223372036854775807 := hu3
              have hz := blk_new wi (.cells #[.slice U ps[i].user.length n1, u64V ps[i].seq, byteV ps[i].kind] 30)
              obtain ⟨z0, z1, z2, zf⟩ := cells3 hz
              have Hz := Lib.hid hz
              have Hu := Lib.hid (hu.alloc (.cells #[.slice U ps[i].user.length n1, u64V ps[i].seq, byteV ps[i].kind] 30))
              have HT2 := Lib.hid (HTi.out.step HT.out (Ext.alloc1 wi (.cells #[.slice U ps[i].user.length n1, u64V ps[i].seq, byteV ps[i].kind] 30)))
              clear hu hz hat
              by_cases h20 : i < 20
              · go_upto_region 51 with (fail)
                go_cut [203] (fun s203 wx => ∃ (k' : Key) (u' : Value), wx.heap[wi.heap.size]? = some (.cells #[u', u64V k'.seq, byteV k'.kind] 30) ∧ Bs wx (fun b => wi.heap.size < b ∧ b < wx.heap.size) u' k'.user ∧ Ext wi wx)
                case first =>
                  have ho0 := Own.empty byteC 5 (wi.alloc (.cells #[.slice U ps[i].user.length n1, u64V ps[i].seq, byteV ps[i].kind] 30)) (fun _ => False)
                  simp only [World.size_alloc] at ho0
                  have ho := Lib.hid ho0
                  clear ho0
                  by_cases h80 : 80 < ps[i].user.length
                  · have hle : (ps[i].user.take 80).length = 80 := List.length_take_of_le (by omega)
                    have hs := Lib.hid (Sl.ofA (Hu.out.take 80 (by omega)) (by rw [hle]; decide))
                    have Hle := Lib.hid hle
                    clear hle
                    go_wp2_with (at_builtin; refine wpList_append_sl rfl (.tmp 195) (.tmp 202) 27 rfl fits5 ho.out rfl (by simp) (hs.out.alloc _) rfl (fun _ _ _ h => h) (by rw [Hle.out]; decide) (by decide) ?_; intro v' w' h1 h2 h3; obtain ⟨A', k9, m9, rfl⟩ := h1.form0; have H1 := Lib.hid h1; have HX := Lib.hid (((Ext.alloc1 wi _).alloc _).then h2 (fun i hi e => by simp [Value.ownBlock] at e; omega)); have HK := Lib.hid (h2.blk (blk_alloc Hz.out (.cells #[] 5)) (by simp [Value.ownBlock])); obtain ⟨p0, p1, p2, pf⟩ := cells3 HK.out; clear h1 h2 h3)
                    go_meet
                    exact key_cut HK.out H1.out (by rw [Hle.out]; decide) HX.out
                  · have hs0 := Hu.out.take ps[i].user.length (Nat.le_refl _)
                    rw [List.take_length] at hs0
                    have hs := Lib.hid (Sl.ofA hs0 (by unfold big; omega))
                    clear hs0
                    go_wp2_with (at_builtin; refine wpList_append_sl rfl (.tmp 195) (.tmp 202) 27 rfl fits5 ho.out rfl (by simp) (hs.out.alloc _) rfl (fun _ _ _ h => h) (by simp; omega) (by decide) ?_; intro v' w' h1 h2 h3; obtain ⟨A', k9, m9, rfl⟩ := h1.form0; have H1 := Lib.hid h1; have HX := Lib.hid (((Ext.alloc1 wi _).alloc _).then h2 (fun i hi e => by simp [Value.ownBlock] at e; omega)); have HK := Lib.hid (h2.blk (blk_alloc Hz.out (.cells #[] 5)) (by simp [Value.ownBlock])); obtain ⟨p0, p1, p2, pf⟩ := cells3 HK.out; clear h1 h2 h3)
                    go_meet
                    exact key_cut HK.out H1.out (by omega) HX.out
                case rest =>
                  obtain ⟨wk, rfl⟩ : ∃ x : World, x = wc := ⟨_, rfl⟩
                  obtain ⟨k', u', hK, hku, hxk⟩ := hcut
                  have HK := Lib.hid hK
                  obtain ⟨U', N', n', rfl⟩ := hku.form0
                  obtain ⟨p0, p1, p2, -⟩ := cells3 hK
                  have HTk := Lib.hid (HTi.out.step HT.out hxk)
                  have Hku := Lib.hid hku
                  have HXk := Lib.hid hxk
                  have hRK : R < wi.heap.size := HTi.out.lt _ HTi.out.rf.foot
                  clear hK hku hxk HT2 Hu Hz z0 z1 z2 zf c0 c1 c2
                  obtain ⟨ob, hob⟩ : ∃ ob, fromE (m.map (·.1)) k' = ob := ⟨_, rfl⟩
                  obtain ⟨oc, hoc⟩ : ∃ oc, beforeE (m.map (·.1)) k' = oc := ⟨_, rfl⟩
                  have Hob := Lib.hid hob
                  have Hoc := Lib.hid hoc
                  clear hob hoc
                  go_wp2_with (first | (go_at_call 35; refine (HT.out.told k' _ _ _ HTk.out.inv (fun b hb => hb.2) Hku.out).mono ?_; rw [Hob.out]; rintro r w6 ⟨u6, v6, rfl, hx6, hb6, hc6⟩; obtain ⟨A6, k6, m6, rfl⟩ := hb6.form0; obtain ⟨C6, c6, d6, rfl⟩ := hc6.form0))
                  generalize hE : ob.getD zeroE = E at *
                  generalize hbo : ob.isSome = bo at *
                  have HE := Lib.hid hE
                  have Hbo := Lib.hid hbo
                  have hxa := hx6.alloc (.cells #[.slice A6 k6 m6, u64V E.key.seq, byteV E.key.kind, .slice C6 c6 d6] 32)
                  have HTa := Lib.hid (HTk.out.step HT.out hxa)
                  have HKa := Lib.hid (hxa.blk HK.out (fun f => f))
                  have Hka := Lib.hid (Hku.out.ext hxa)
                  have HXa := Lib.hid (HXk.out.ext hxa)
                  have HBa := Lib.hid (blk_new w6 (.cells #[.slice A6 k6 m6, u64V E.key.seq, byteV E.key.kind, .slice C6 c6 d6] 32))
                  have Hb6 := Lib.hid (hb6.alloc (.cells #[.slice A6 k6 m6, u64V E.key.seq, byteV E.key.kind, .slice C6 c6 d6] 32))
                  have Hc6 := Lib.hid (hc6.alloc (.cells #[.slice A6 k6 m6, u64V E.key.seq, byteV E.key.kind, .slice C6 c6 d6] 32))
                  have hs6 := hx6.size
                  have hs7 : wi.heap.size < wk.heap.size := blk_lt HK.out
                  obtain ⟨r0, r1, rf⟩ := cells2 HTa.out.rf.blk
                  obtain ⟨p0, p1, p2, -⟩ := cells3 HKa.out
                  clear hx6 hb6 hc6 hxa hE hbo HK Hku HTk
                  go_cut [25, 26] (fun s25 s26 wx => RBox (w6.alloc (.cells #[.slice A6 k6 m6, u64V E.key.seq, byteV E.key.kind, .slice C6 c6 d6] 32)) wx E bo s25 s26)
                  case first =>
                    refine region_B 11 (fun w' => w'.cell? ⟨R, 0, none⟩ = some (.slice A8 m.length n8) ∧ w'.cell? ⟨wi.heap.size, 0, none⟩ = some (.slice U' N' n') ∧ w'.cell? ⟨wi.heap.size, 1, none⟩ = some (u64V k'.seq) ∧ w'.cell? ⟨wi.heap.size, 2, none⟩ = some (byteV k'.kind)) (by kernel_rfl) ?q8_53S (fun hHeld0 => ?_)
                    case q8_53S => ((first | go_keep | ((try dsimp only); exact ⟨by assumption, by assumption, by assumption, by assumption⟩)))
                    refine anyB_take (i := 0) (oi := _) (v := ?q8_53v1) rfl (by kernel_rfl) (by kernel_rfl) (by kernel_rfl) (by kernel_rfl) (fun _ _ _ h => h) (Or.inl ⟨by rfl, ?q8_53h1⟩) (by assumption) ?q8_53r1
                    case q8_53h1 => (intro w hSw; (try dsimp only at hSw); go_simp; try with_reducible rfl)
                    (try simp only [List.getElem_toArray, List.getElem_cons_succ, List.getElem_cons_zero, Act.put, List.setIfInBounds_toArray, List.set_cons_zero, List.set_cons_succ])
                    refine anyB_take (i := 1) (oi := _) (v := ?q8_53v2) rfl (by kernel_rfl) (by kernel_rfl) (by kernel_rfl) (by kernel_rfl) (fun _ _ _ h => h) (Or.inl ⟨by rfl, ?q8_53h2⟩) (by assumption) ?q8_53r2
                    case q8_53h2 => (intro w hSw; (try dsimp only at hSw); go_simp; try with_reducible rfl)
                    (try simp only [List.getElem_toArray, List.getElem_cons_succ, List.getElem_cons_zero, Act.put, List.setIfInBounds_toArray, List.set_cons_zero, List.set_cons_succ])
                    refine anyB_take (i := 2) (oi := _) (v := ?q8_53v3) rfl (by kernel_rfl) (by kernel_rfl) (by kernel_rfl) (by kernel_rfl) (fun _ _ _ h => h) (Or.inl ⟨by rfl, ?q8_53h3⟩) (by assumption) ?q8_53r3
                    case q8_53h3 => (intro w hSw; (try dsimp only at hSw); go_simp; try with_reducible rfl)
                    (try simp only [List.getElem_toArray, List.getElem_cons_succ, List.getElem_cons_zero, Act.put, List.setIfInBounds_toArray, List.set_cons_zero, List.set_cons_succ])
                    refine anyB_take (i := 3) (oi := _) (v := ?q8_53v4) rfl (by kernel_rfl) (by kernel_rfl) (by kernel_rfl) (by kernel_rfl) (fun _ _ _ h => h) (Or.inl ⟨by rfl, ?q8_53h4⟩) (by assumption) ?q8_53r4
                    case q8_53h4 => (intro w hSw; (try dsimp only at hSw); go_simp; try with_reducible rfl)
                    (try simp only [List.getElem_toArray, List.getElem_cons_succ, List.getElem_cons_zero, Act.put, List.setIfInBounds_toArray, List.set_cons_zero, List.set_cons_succ])
                    refine anyB_take (i := 4) (oi := _) (v := ?q8_53v5) rfl (by kernel_rfl) (by kernel_rfl) (by kernel_rfl) (by kernel_rfl) (fun _ _ _ h => h) (Or.inl ⟨by rfl, ?q8_53h5⟩) (by assumption) ?q8_53r5
                    case q8_53h5 => (intro w hSw; (try dsimp only at hSw); go_simp; try with_reducible rfl)
                    (try simp only [List.getElem_toArray, List.getElem_cons_succ, List.getElem_cons_zero, Act.put, List.setIfInBounds_toArray, List.set_cons_zero, List.set_cons_succ])
                    refine anyB_two (i := 5) (j := 9) (oi := _) (oj := _) (by kernel_rfl) (by rfl) (by rfl) (by (simp only [List.getElem?_toArray, List.getElem?_cons_succ, List.getElem?_cons_zero] <;> rfl)) (by (simp only [List.getElem?_toArray, List.getElem?_cons_succ, List.getElem?_cons_zero] <;> rfl)) (fun K hK => ?q8_53x6) (fun K hK => ?q8_53y6)
                    case q8_53x6 =>
                      go_simp; go_at_call 42; refine (r8_from _ _ k' ((HTa.out.step HT.out (w1 := (w6.alloc (.cells #[.slice A6 k6 m6, u64V E.key.seq, byteV E.key.kind, .slice C6 c6 d6] 32)).drew) (by repeat' (first | exact Out.refl _ _ | refine Out.drew ?_ | refine Out.alloc ?_ _))).rf.ents) (Hka.out.ext (by repeat' (first | exact Out.refl _ _ | refine Out.drew ?_ | refine Out.alloc ?_ _))) (fun b hb => Nat.lt_of_lt_of_le (HTa.out.lt b hb.1) (by simp))).mono ?_; rw [Hob.out]; unfold ToldR; rw [HE.out, Hbo.out]; rintro r w7 ⟨u7, v7, rfl, hx7, hb7, hc7⟩; obtain ⟨A7, k7, m7, rfl⟩ := hb7.form0; obtain ⟨C7, c7, d7, rfl⟩ := hc7.form0; have HX7 : Hid (Ext (w6.alloc (.cells #[.slice A6 k6 m6, u64V E.key.seq, byteV E.key.kind, .slice C6 c6 d6] 32)) w7) := Lib.hid (Out.ext (by repeat' (first | exact Out.refl _ _ | refine Out.drew ?_ | refine Out.alloc ?_ _)) hx7); have H7 := Lib.hid (HTa.out.step HT.out HX7.out); have q0 := (cells2 H7.out.rf.blk).1; obtain ⟨t0, t1, t2, -⟩ := cells3 (HX7.out.blk HKa.out (fun f => f)); have Hb7 := Lib.hid hb7; have Hc7 := Lib.hid hc7; have hs9 := hx7.size; simp only [World.size_drew, World.size_alloc] at hs9; clear hb7 hc7
                      (try dsimp only)
                      refine hK.out _ _ ?q8_53S7 (fun hHeld1 => ?_)
                      case q8_53S7 => ((first | go_keep | ((try dsimp only); exact ⟨by assumption, by assumption, by assumption, by assumption⟩)))
                      clear hK K hHeld0
                      (try simp only [List.getElem_toArray, List.getElem_cons_succ, List.getElem_cons_zero, Act.put, List.setIfInBounds_toArray, List.set_cons_zero, List.set_cons_succ])
                      refine anyB_take (i := 6) (oi := _) (v := ?q8_53v8) rfl (by kernel_rfl) (by kernel_rfl) (by kernel_rfl) (by kernel_rfl) (fun _ _ _ h => h) (Or.inl ⟨by rfl, ?q8_53h8⟩) (by assumption) ?q8_53r8
                      case q8_53h8 => (intro w hSw; (try dsimp only at hSw); go_simp; try with_reducible rfl)
                      (try simp only [List.getElem_toArray, List.getElem_cons_succ, List.getElem_cons_zero, Act.put, List.setIfInBounds_toArray, List.set_cons_zero, List.set_cons_succ])
                      refine anyB_take (i := 7) (oi := _) (v := ?q8_53v9) rfl (by kernel_rfl) (by kernel_rfl) (by kernel_rfl) (by kernel_rfl) (fun _ _ _ h => h) (Or.inl ⟨by rfl, ?q8_53h9⟩) (by assumption) ?q8_53r9
                      case q8_53h9 => (intro w hSw; (try dsimp only at hSw); go_simp; try with_reducible rfl)
                      (try simp only [List.getElem_toArray, List.getElem_cons_succ, List.getElem_cons_zero, Act.put, List.setIfInBounds_toArray, List.set_cons_zero, List.set_cons_succ])
                      refine anyB_take (i := 8) (oi := _) (v := ?q8_53v10) rfl (by kernel_rfl) (by kernel_rfl) (by kernel_rfl) (by kernel_rfl) (fun _ _ _ h => h) (Or.inl ⟨by rfl, ?q8_53h10⟩) (by assumption) ?q8_53r10
                      case q8_53h10 => (intro w hSw; (try dsimp only at hSw); go_simp; try with_reducible rfl)
                      (try simp only [List.getElem_toArray, List.getElem_cons_succ, List.getElem_cons_zero, Act.put, List.setIfInBounds_toArray, List.set_cons_zero, List.set_cons_succ])
                      refine anyB_step (i := 9) (o := _) (by kernel_rfl) (by rfl) (by (simp only [List.getElem?_toArray, List.getElem?_cons_succ, List.getElem?_cons_zero] <;> rfl)) (fun K hK => ?_)
                      go_simp
                      refine hK.out _ _ ?q8_53S11 (fun hHeld2 => ?_)
                      case q8_53S11 => ((first | go_keep | ((try dsimp only); exact ⟨by assumption, by assumption, by assumption, by assumption⟩)))
                      clear hK K hHeld1
                      (try simp only [List.getElem_toArray, List.getElem_cons_succ, List.getElem_cons_zero, Act.put, List.setIfInBounds_toArray, List.set_cons_zero, List.set_cons_succ])
                      refine anyB_step (i := 10) (o := _) (by kernel_rfl) (by rfl) (by (simp only [List.getElem?_toArray, List.getElem?_cons_succ, List.getElem?_cons_zero] <;> rfl)) (fun K hK => ?_)
                      go_simp
                      refine hK.out _ _ ?q8_53S12 (fun hHeld3 => ?_)
                      case q8_53S12 => ((first | go_keep | ((try dsimp only); exact ⟨by assumption, by assumption, by assumption, by assumption⟩)))
                      clear hK K hHeld2
                      (try simp only [List.getElem_toArray, List.getElem_cons_succ, List.getElem_cons_zero, Act.put, List.setIfInBounds_toArray, List.set_cons_zero, List.set_cons_succ])
                      refine anyB_last (i := 11) (o := _) (by kernel_rfl) (by rfl) (by (simp only [List.getElem?_toArray, List.getElem?_cons_succ, List.getElem?_cons_zero] <;> rfl)) (fun K hK => ?_)
                      go_simp
                      refine hK.out _ _ ?_
                      clear hK K
                      (try simp only [List.getElem_toArray, List.getElem_cons_succ, List.getElem_cons_zero, Act.put, List.setIfInBounds_toArray, List.set_cons_zero, List.set_cons_succ])
                      refine anyB_done (by kernel_rfl) ?_ _
                      go_wp2
                      go_meet
                      first | exact rbox_1 HX7.out (fun b hb => HTa.out.lt b hb.1) Hb7.out Hc7.out | exact rbox_2 HX7.out (fun b hb => HTa.out.lt b hb.1) (by simp) YB.out Hb7.out Hc7.out
                    case q8_53y6 =>
                      go_simp
                      refine hK.out _ _ ?q8_53S13 (fun hHeld1 => ?_)
                      case q8_53S13 => ((first | go_keep | ((try dsimp only); exact ⟨by assumption, by assumption, by assumption, by assumption⟩)))
                      clear hK K hHeld0
                      (try simp only [List.getElem_toArray, List.getElem_cons_succ, List.getElem_cons_zero, Act.put, List.setIfInBounds_toArray, List.set_cons_zero, List.set_cons_succ])
                      refine anyB_step (i := 5) (o := _) (by kernel_rfl) (by rfl) (by (simp only [List.getElem?_toArray, List.getElem?_cons_succ, List.getElem?_cons_zero] <;> rfl)) (fun K hK => ?_)
                      go_simp; go_at_call 42; refine (r8_from _ _ k' ((HTa.out.step HT.out (w1 := ((w6.alloc (.cells #[.slice A6 k6 m6, u64V E.key.seq, byteV E.key.kind, .slice C6 c6 d6] 32)).alloc (.cells #[.slice none 0 0, .int .u64 0, .int .u8 0, .slice none 0 0] 32)).drew) (by repeat' (first | exact Out.refl _ _ | refine Out.drew ?_ | refine Out.alloc ?_ _))).rf.ents) (Hka.out.ext (by repeat' (first | exact Out.refl _ _ | refine Out.drew ?_ | refine Out.alloc ?_ _))) (fun b hb => Nat.lt_of_lt_of_le (HTa.out.lt b hb.1) (by simp))).mono ?_; rw [Hob.out]; unfold ToldR; rw [HE.out, Hbo.out]; rintro r w7 ⟨u7, v7, rfl, hx7, hb7, hc7⟩; obtain ⟨A7, k7, m7, rfl⟩ := hb7.form0; obtain ⟨C7, c7, d7, rfl⟩ := hc7.form0; have HX7 : Hid (Ext (w6.alloc (.cells #[.slice A6 k6 m6, u64V E.key.seq, byteV E.key.kind, .slice C6 c6 d6] 32)) w7) := Lib.hid (Out.ext (by repeat' (first | exact Out.refl _ _ | refine Out.drew ?_ | refine Out.alloc ?_ _)) hx7); have H7 := Lib.hid (HTa.out.step HT.out HX7.out); have q0 := (cells2 H7.out.rf.blk).1; obtain ⟨t0, t1, t2, -⟩ := cells3 (HX7.out.blk HKa.out (fun f => f)); have yb := hx7.blk (blk_new (w6.alloc (.cells #[.slice A6 k6 m6, u64V E.key.seq, byteV E.key.kind, .slice C6 c6 d6] 32)) (.cells #[.slice none 0 0, .int .u64 0, .int .u8 0, .slice none 0 0] 32)) (fun f => f); simp only [World.size_alloc] at yb; obtain ⟨y0, y1, y2, y3, yf⟩ := cells4 yb; have YB := Lib.hid yb; clear yb; have Hb7 := Lib.hid hb7; have Hc7 := Lib.hid hc7; have hs9 := hx7.size; simp only [World.size_drew, World.size_alloc] at hs9; clear hb7 hc7
                      (try dsimp only)
                      refine hK.out _ _ ?q8_53S14 (fun hHeld2 => ?_)
                      case q8_53S14 => ((first | go_keep | ((try dsimp only); exact ⟨by assumption, by assumption, by assumption, by assumption⟩)))
                      clear hK K hHeld1
                      (try simp only [List.getElem_toArray, List.getElem_cons_succ, List.getElem_cons_zero, Act.put, List.setIfInBounds_toArray, List.set_cons_zero, List.set_cons_succ])
                      refine anyB_take (i := 6) (oi := _) (v := ?q8_53v15) rfl (by kernel_rfl) (by kernel_rfl) (by kernel_rfl) (by kernel_rfl) (fun _ _ _ h => h) (Or.inl ⟨by rfl, ?q8_53h15⟩) (by assumption) ?q8_53r15
                      case q8_53h15 => (intro w hSw; (try dsimp only at hSw); go_simp; try with_reducible rfl)
                      (try simp only [List.getElem_toArray, List.getElem_cons_succ, List.getElem_cons_zero, Act.put, List.setIfInBounds_toArray, List.set_cons_zero, List.set_cons_succ])
                      refine anyB_take (i := 7) (oi := _) (v := ?q8_53v16) rfl (by kernel_rfl) (by kernel_rfl) (by kernel_rfl) (by kernel_rfl) (fun _ _ _ h => h) (Or.inl ⟨by rfl, ?q8_53h16⟩) (by assumption) ?q8_53r16
                      case q8_53h16 => (intro w hSw; (try dsimp only at hSw); go_simp; try with_reducible rfl)
                      (try simp only [List.getElem_toArray, List.getElem_cons_succ, List.getElem_cons_zero, Act.put, List.setIfInBounds_toArray, List.set_cons_zero, List.set_cons_succ])
                      refine anyB_take (i := 8) (oi := _) (v := ?q8_53v17) rfl (by kernel_rfl) (by kernel_rfl) (by kernel_rfl) (by kernel_rfl) (fun _ _ _ h => h) (Or.inl ⟨by rfl, ?q8_53h17⟩) (by assumption) ?q8_53r17
                      case q8_53h17 => (intro w hSw; (try dsimp only at hSw); go_simp; try with_reducible rfl)
                      (try simp only [List.getElem_toArray, List.getElem_cons_succ, List.getElem_cons_zero, Act.put, List.setIfInBounds_toArray, List.set_cons_zero, List.set_cons_succ])
                      refine anyB_step (i := 10) (o := _) (by kernel_rfl) (by rfl) (by (simp only [List.getElem?_toArray, List.getElem?_cons_succ, List.getElem?_cons_zero] <;> rfl)) (fun K hK => ?_)
                      go_simp
                      refine hK.out _ _ ?q8_53S18 (fun hHeld3 => ?_)
                      case q8_53S18 => (((try dsimp only); refine ⟨?_, ?_, ?_, ?_⟩ <;> (iterate 4 rw [setCell_other (fun e => by injection e with e1; omega)]) <;> assumption))
                      clear hK K hHeld2
                      (try simp only [List.getElem_toArray, List.getElem_cons_succ, List.getElem_cons_zero, Act.put, List.setIfInBounds_toArray, List.set_cons_zero, List.set_cons_succ])
                      refine anyB_last (i := 11) (o := _) (by kernel_rfl) (by rfl) (by (simp only [List.getElem?_toArray, List.getElem?_cons_succ, List.getElem?_cons_zero] <;> rfl)) (fun K hK => ?_)
                      go_simp
                      refine hK.out _ _ ?_
                      clear hK K
                      (try simp only [List.getElem_toArray, List.getElem_cons_succ, List.getElem_cons_zero, Act.put, List.setIfInBounds_toArray, List.set_cons_zero, List.set_cons_succ])
                      refine anyB_done (by kernel_rfl) ?_ _
                      go_wp2
                      go_meet
                      first | exact rbox_1 HX7.out (fun b hb => HTa.out.lt b hb.1) Hb7.out Hc7.out | exact rbox_2 HX7.out (fun b hb => HTa.out.lt b hb.1) (by simp) YB.out Hb7.out Hc7.out
                  case rest =>
                    obtain ⟨wb, rfl⟩ : ∃ x : World, x = wc := ⟨_, rfl⟩
                    obtain ⟨gb, ub, vb, rfl, rfl, hgB, hub, hvb, hxb⟩ := hcut
                    obtain ⟨Ab, kb, mb, rfl⟩ := hub.form0
                    obtain ⟨Cb, cb, db, rfl⟩ := hvb.form0
                    have HTb := Lib.hid (HTa.out.step HT.out hxb)
                    have HKb := Lib.hid (hxb.blk HKa.out (fun f => f))
                    have Hkb := Lib.hid (Hka.out.ext hxb)
                    have HBb := Lib.hid (hxb.blk HBa.out (fun f => f))
                    have Hub := Lib.hid hub
                    have Hvb := Lib.hid hvb
                    have HgB := Lib.hid hgB
                    have hsb := hxb.size
                    simp only [World.size_alloc] at hsb
                    have Hb6b := Lib.hid (Hb6.out.ext hxb)
                    have Hc6b := Lib.hid (Hc6.out.ext hxb)
                    obtain ⟨p0, p1, p2, -⟩ := cells3 HKb.out
                    clear hgB hub hvb hxb HTa HKa Hka HBa Hb6 Hc6 r0 r1 rf
                    go_wp2_with (first | (go_at_call 37; refine (HT.out.ahead k' _ _ _ HTb.out.inv (fun b hb => by have := hb.2; omega) Hkb.out).mono ?_; rw [Hoc.out]; rintro r w8 ⟨u9, v9, rfl, hx8, hb9, hc9⟩; obtain ⟨A9, k9, m9, rfl⟩ := hb9.form0; obtain ⟨C9, c9, d9, rfl⟩ := hc9.form0))
                    generalize hE2 : oc.getD zeroE = E2 at *
                    generalize hbo2 : oc.isSome = bo2 at *
                    have HE2 := Lib.hid hE2
                    have Hbo2 := Lib.hid hbo2
                    have hxe := hx8.alloc (.cells #[.slice A9 k9 m9, u64V E2.key.seq, byteV E2.key.kind, .slice C9 c9 d9] 32)
                    have HTe := Lib.hid (HTb.out.step HT.out hxe)
                    have HKe := Lib.hid (hxe.blk HKb.out (fun f => f))
                    have Hke := Lib.hid (Hkb.out.ext hxe)
                    have HBe := Lib.hid (hxe.blk HBb.out (fun f => f))
                    have HgBe := Lib.hid (hxe.blk HgB.out (fun f => f))
                    have HB2e := Lib.hid (blk_new w8 (.cells #[.slice A9 k9 m9, u64V E2.key.seq, byteV E2.key.kind, .slice C9 c9 d9] 32))
                    have Hbe := Lib.hid (hb9.alloc (.cells #[.slice A9 k9 m9, u64V E2.key.seq, byteV E2.key.kind, .slice C9 c9 d9] 32))
                    have Hce := Lib.hid (hc9.alloc (.cells #[.slice A9 k9 m9, u64V E2.key.seq, byteV E2.key.kind, .slice C9 c9 d9] 32))
                    have Hb6e := Lib.hid (Hb6b.out.ext hxe)
                    have Hc6e := Lib.hid (Hc6b.out.ext hxe)
                    have Hube := Lib.hid (Hub.out.ext hxe)
                    have Hvbe := Lib.hid (Hvb.out.ext hxe)
                    have hs8 := hx8.size
                    obtain ⟨r0, r1, rf⟩ := cells2 HTe.out.rf.blk
                    obtain ⟨p0, p1, p2, -⟩ := cells3 HKe.out
                    clear hx8 hb9 hc9 hxe hE2 hbo2 HTb HKb Hkb HBb HgB Hb6b Hc6b Hub Hvb
                    go_cut [29, 30] (fun s29 s30 wx => RBox (w8.alloc (.cells #[.slice A9 k9 m9, u64V E2.key.seq, byteV E2.key.kind, .slice C9 c9 d9] 32)) wx E2 bo2 s29 s30)
                    case first =>
                      refine region_B 11 (fun w' => w'.cell? ⟨R, 0, none⟩ = some (.slice A8 m.length n8) ∧ w'.cell? ⟨wi.heap.size, 0, none⟩ = some (.slice U' N' n') ∧ w'.cell? ⟨wi.heap.size, 1, none⟩ = some (u64V k'.seq) ∧ w'.cell? ⟨wi.heap.size, 2, none⟩ = some (byteV k'.kind)) (by kernel_rfl) ?q8_55S (fun hHeld0 => ?_)
                      case q8_55S => ((first | go_keep | ((try dsimp only); exact ⟨by assumption, by assumption, by assumption, by assumption⟩)))
                      refine anyB_take (i := 0) (oi := _) (v := ?q8_55v1) rfl (by kernel_rfl) (by kernel_rfl) (by kernel_rfl) (by kernel_rfl) (fun _ _ _ h => h) (Or.inl ⟨by rfl, ?q8_55h1⟩) (by assumption) ?q8_55r1
                      case q8_55h1 => (intro w hSw; (try dsimp only at hSw); go_simp; try with_reducible rfl)
                      (try simp only [List.getElem_toArray, List.getElem_cons_succ, List.getElem_cons_zero, Act.put, List.setIfInBounds_toArray, List.set_cons_zero, List.set_cons_succ])
                      refine anyB_take (i := 1) (oi := _) (v := ?q8_55v2) rfl (by kernel_rfl) (by kernel_rfl) (by kernel_rfl) (by kernel_rfl) (fun _ _ _ h => h) (Or.inl ⟨by rfl, ?q8_55h2⟩) (by assumption) ?q8_55r2
                      case q8_55h2 => (intro w hSw; (try dsimp only at hSw); go_simp; try with_reducible rfl)
                      (try simp only [List.getElem_toArray, List.getElem_cons_succ, List.getElem_cons_zero, Act.put, List.setIfInBounds_toArray, List.set_cons_zero, List.set_cons_succ])
                      refine anyB_take (i := 2) (oi := _) (v := ?q8_55v3) rfl (by kernel_rfl) (by kernel_rfl) (by kernel_rfl) (by kernel_rfl) (fun _ _ _ h => h) (Or.inl ⟨by rfl, ?q8_55h3⟩) (by assumption) ?q8_55r3
                      case q8_55h3 => (intro w hSw; (try dsimp only at hSw); go_simp; try with_reducible rfl)
                      (try simp only [List.getElem_toArray, List.getElem_cons_succ, List.getElem_cons_zero, Act.put, List.setIfInBounds_toArray, List.set_cons_zero, List.set_cons_succ])
                      refine anyB_take (i := 3) (oi := _) (v := ?q8_55v4) rfl (by kernel_rfl) (by kernel_rfl) (by kernel_rfl) (by kernel_rfl) (fun _ _ _ h => h) (Or.inl ⟨by rfl, ?q8_55h4⟩) (by assumption) ?q8_55r4
                      case q8_55h4 => (intro w hSw; (try dsimp only at hSw); go_simp; try with_reducible rfl)
                      (try simp only [List.getElem_toArray, List.getElem_cons_succ, List.getElem_cons_zero, Act.put, List.setIfInBounds_toArray, List.set_cons_zero, List.set_cons_succ])
                      refine anyB_take (i := 4) (oi := _) (v := ?q8_55v5) rfl (by kernel_rfl) (by kernel_rfl) (by kernel_rfl) (by kernel_rfl) (fun _ _ _ h => h) (Or.inl ⟨by rfl, ?q8_55h5⟩) (by assumption) ?q8_55r5
                      case q8_55h5 => (intro w hSw; (try dsimp only at hSw); go_simp; try with_reducible rfl)
                      (try simp only [List.getElem_toArray, List.getElem_cons_succ, List.getElem_cons_zero, Act.put, List.setIfInBounds_toArray, List.set_cons_zero, List.set_cons_succ])
                      refine anyB_two (i := 5) (j := 9) (oi := _) (oj := _) (by kernel_rfl) (by rfl) (by rfl) (by (simp only [List.getElem?_toArray, List.getElem?_cons_succ, List.getElem?_cons_zero] <;> rfl)) (by (simp only [List.getElem?_toArray, List.getElem?_cons_succ, List.getElem?_cons_zero] <;> rfl)) (fun K hK => ?q8_55x6) (fun K hK => ?q8_55y6)
                      case q8_55x6 =>
                        go_simp; go_at_call 43; refine (r8_before _ _ k' ((HTe.out.step HT.out (w1 := (w8.alloc (.cells #[.slice A9 k9 m9, u64V E2.key.seq, byteV E2.key.kind, .slice C9 c9 d9] 32)).drew) (by repeat' (first | exact Out.refl _ _ | refine Out.drew ?_ | refine Out.alloc ?_ _))).rf.ents) (Hke.out.ext (by repeat' (first | exact Out.refl _ _ | refine Out.drew ?_ | refine Out.alloc ?_ _))) (fun b hb => Nat.lt_of_lt_of_le (HTe.out.lt b hb.1) (by simp)) (fun b hb => by have := hb.2; simp; omega)).mono ?_; rw [Hoc.out]; unfold ToldR; rw [HE2.out, Hbo2.out]; rintro r wg ⟨ug, vg, rfl, hxg, hbg, hcg⟩; obtain ⟨Ag, kg, mg, rfl⟩ := hbg.form0; obtain ⟨Cg, cg, dg, rfl⟩ := hcg.form0; have HXg : Hid (Ext (w8.alloc (.cells #[.slice A9 k9 m9, u64V E2.key.seq, byteV E2.key.kind, .slice C9 c9 d9] 32)) wg) := Lib.hid (Out.ext (by repeat' (first | exact Out.refl _ _ | refine Out.drew ?_ | refine Out.alloc ?_ _)) hxg); have Hg := Lib.hid (HTe.out.step HT.out HXg.out); have q0 := (cells2 Hg.out.rf.blk).1; obtain ⟨t0, t1, t2, -⟩ := cells3 (HXg.out.blk HKe.out (fun f => f)); have Hbg := Lib.hid hbg; have Hcg := Lib.hid hcg; have hs9 := hxg.size; simp only [World.size_drew, World.size_alloc] at hs9; clear hbg hcg
                        (try dsimp only)
                        refine hK.out _ _ ?q8_55S7 (fun hHeld1 => ?_)
                        case q8_55S7 => ((first | go_keep | ((try dsimp only); exact ⟨by assumption, by assumption, by assumption, by assumption⟩)))
                        clear hK K hHeld0
                        (try simp only [List.getElem_toArray, List.getElem_cons_succ, List.getElem_cons_zero, Act.put, List.setIfInBounds_toArray, List.set_cons_zero, List.set_cons_succ])
                        refine anyB_take (i := 6) (oi := _) (v := ?q8_55v8) rfl (by kernel_rfl) (by kernel_rfl) (by kernel_rfl) (by kernel_rfl) (fun _ _ _ h => h) (Or.inl ⟨by rfl, ?q8_55h8⟩) (by assumption) ?q8_55r8
                        case q8_55h8 => (intro w hSw; (try dsimp only at hSw); go_simp; try with_reducible rfl)
                        (try simp only [List.getElem_toArray, List.getElem_cons_succ, List.getElem_cons_zero, Act.put, List.setIfInBounds_toArray, List.set_cons_zero, List.set_cons_succ])
                        refine anyB_take (i := 7) (oi := _) (v := ?q8_55v9) rfl (by kernel_rfl) (by kernel_rfl) (by kernel_rfl) (by kernel_rfl) (fun _ _ _ h => h) (Or.inl ⟨by rfl, ?q8_55h9⟩) (by assumption) ?q8_55r9
                        case q8_55h9 => (intro w hSw; (try dsimp only at hSw); go_simp; try with_reducible rfl)
                        (try simp only [List.getElem_toArray, List.getElem_cons_succ, List.getElem_cons_zero, Act.put, List.setIfInBounds_toArray, List.set_cons_zero, List.set_cons_succ])
                        refine anyB_take (i := 8) (oi := _) (v := ?q8_55v10) rfl (by kernel_rfl) (by kernel_rfl) (by kernel_rfl) (by kernel_rfl) (fun _ _ _ h => h) (Or.inl ⟨by rfl, ?q8_55h10⟩) (by assumption) ?q8_55r10
                        case q8_55h10 => (intro w hSw; (try dsimp only at hSw); go_simp; try with_reducible rfl)
                        (try simp only [List.getElem_toArray, List.getElem_cons_succ, List.getElem_cons_zero, Act.put, List.setIfInBounds_toArray, List.set_cons_zero, List.set_cons_succ])
                        refine anyB_step (i := 9) (o := _) (by kernel_rfl) (by rfl) (by (simp only [List.getElem?_toArray, List.getElem?_cons_succ, List.getElem?_cons_zero] <;> rfl)) (fun K hK => ?_)
                        go_simp
                        refine hK.out _ _ ?q8_55S11 (fun hHeld2 => ?_)
                        case q8_55S11 => ((first | go_keep | ((try dsimp only); exact ⟨by assumption, by assumption, by assumption, by assumption⟩)))
                        clear hK K hHeld1
                        (try simp only [List.getElem_toArray, List.getElem_cons_succ, List.getElem_cons_zero, Act.put, List.setIfInBounds_toArray, List.set_cons_zero, List.set_cons_succ])
                        refine anyB_step (i := 10) (o := _) (by kernel_rfl) (by rfl) (by (simp only [List.getElem?_toArray, List.getElem?_cons_succ, List.getElem?_cons_zero] <;> rfl)) (fun K hK => ?_)
                        go_simp
                        refine hK.out _ _ ?q8_55S12 (fun hHeld3 => ?_)
                        case q8_55S12 => ((first | go_keep | ((try dsimp only); exact ⟨by assumption, by assumption, by assumption, by assumption⟩)))
                        clear hK K hHeld2
                        (try simp only [List.getElem_toArray, List.getElem_cons_succ, List.getElem_cons_zero, Act.put, List.setIfInBounds_toArray, List.set_cons_zero, List.set_cons_succ])
                        refine anyB_last (i := 11) (o := _) (by kernel_rfl) (by rfl) (by (simp only [List.getElem?_toArray, List.getElem?_cons_succ, List.getElem?_cons_zero] <;> rfl)) (fun K hK => ?_)
                        go_simp
                        refine hK.out _ _ ?_
                        clear hK K
                        (try simp only [List.getElem_toArray, List.getElem_cons_succ, List.getElem_cons_zero, Act.put, List.setIfInBounds_toArray, List.set_cons_zero, List.set_cons_succ])
                        refine anyB_done (by kernel_rfl) ?_ _
                        go_wp2
                        go_meet
                        first | exact rbox_1 HXg.out (fun b hb => HTe.out.lt b hb.1) Hbg.out Hcg.out | exact rbox_2 HXg.out (fun b hb => HTe.out.lt b hb.1) (by simp) YB.out Hbg.out Hcg.out
                      case q8_55y6 =>
                        go_simp
                        refine hK.out _ _ ?q8_55S13 (fun hHeld1 => ?_)
                        case q8_55S13 => ((first | go_keep | ((try dsimp only); exact ⟨by assumption, by assumption, by assumption, by assumption⟩)))
                        clear hK K hHeld0
                        (try simp only [List.getElem_toArray, List.getElem_cons_succ, List.getElem_cons_zero, Act.put, List.setIfInBounds_toArray, List.set_cons_zero, List.set_cons_succ])
                        refine anyB_step (i := 5) (o := _) (by kernel_rfl) (by rfl) (by (simp only [List.getElem?_toArray, List.getElem?_cons_succ, List.getElem?_cons_zero] <;> rfl)) (fun K hK => ?_)
                        go_simp; go_at_call 43; refine (r8_before _ _ k' ((HTe.out.step HT.out (w1 := ((w8.alloc (.cells #[.slice A9 k9 m9, u64V E2.key.seq, byteV E2.key.kind, .slice C9 c9 d9] 32)).alloc (.cells #[.slice none 0 0, .int .u64 0, .int .u8 0, .slice none 0 0] 32)).drew) (by repeat' (first | exact Out.refl _ _ | refine Out.drew ?_ | refine Out.alloc ?_ _))).rf.ents) (Hke.out.ext (by repeat' (first | exact Out.refl _ _ | refine Out.drew ?_ | refine Out.alloc ?_ _))) (fun b hb => Nat.lt_of_lt_of_le (HTe.out.lt b hb.1) (by simp)) (fun b hb => by have := hb.2; simp; omega)).mono ?_; rw [Hoc.out]; unfold ToldR; rw [HE2.out, Hbo2.out]; rintro r wg ⟨ug, vg, rfl, hxg, hbg, hcg⟩; obtain ⟨Ag, kg, mg, rfl⟩ := hbg.form0; obtain ⟨Cg, cg, dg, rfl⟩ := hcg.form0; have HXg : Hid (Ext (w8.alloc (.cells #[.slice A9 k9 m9, u64V E2.key.seq, byteV E2.key.kind, .slice C9 c9 d9] 32)) wg) := Lib.hid (Out.ext (by repeat' (first | exact Out.refl _ _ | refine Out.drew ?_ | refine Out.alloc ?_ _)) hxg); have Hg := Lib.hid (HTe.out.step HT.out HXg.out); have q0 := (cells2 Hg.out.rf.blk).1; obtain ⟨t0, t1, t2, -⟩ := cells3 (HXg.out.blk HKe.out (fun f => f)); have yb := hxg.blk (blk_new (w8.alloc (.cells #[.slice A9 k9 m9, u64V E2.key.seq, byteV E2.key.kind, .slice C9 c9 d9] 32)) (.cells #[.slice none 0 0, .int .u64 0, .int .u8 0, .slice none 0 0] 32)) (fun f => f); simp only [World.size_alloc] at yb; obtain ⟨y0, y1, y2, y3, yf⟩ := cells4 yb; have YB := Lib.hid yb; clear yb; have Hbg := Lib.hid hbg; have Hcg := Lib.hid hcg; have hs9 := hxg.size; simp only [World.size_drew, World.size_alloc] at hs9; clear hbg hcg
                        (try dsimp only)
                        refine hK.out _ _ ?q8_55S14 (fun hHeld2 => ?_)
                        case q8_55S14 => ((first | go_keep | ((try dsimp only); exact ⟨by assumption, by assumption, by assumption, by assumption⟩)))
                        clear hK K hHeld1
                        (try simp only [List.getElem_toArray, List.getElem_cons_succ, List.getElem_cons_zero, Act.put, List.setIfInBounds_toArray, List.set_cons_zero, List.set_cons_succ])
                        refine anyB_take (i := 6) (oi := _) (v := ?q8_55v15) rfl (by kernel_rfl) (by kernel_rfl) (by kernel_rfl) (by kernel_rfl) (fun _ _ _ h => h) (Or.inl ⟨by rfl, ?q8_55h15⟩) (by assumption) ?q8_55r15
                        case q8_55h15 => (intro w hSw; (try dsimp only at hSw); go_simp; try with_reducible rfl)
                        (try simp only [List.getElem_toArray, List.getElem_cons_succ, List.getElem_cons_zero, Act.put, List.setIfInBounds_toArray, List.set_cons_zero, List.set_cons_succ])
                        refine anyB_take (i := 7) (oi := _) (v := ?q8_55v16) rfl (by kernel_rfl) (by kernel_rfl) (by kernel_rfl) (by kernel_rfl) (fun _ _ _ h => h) (Or.inl ⟨by rfl, ?q8_55h16⟩) (by assumption) ?q8_55r16
                        case q8_55h16 => (intro w hSw; (try dsimp only at hSw); go_simp; try with_reducible rfl)
                        (try simp only [List.getElem_toArray, List.getElem_cons_succ, List.getElem_cons_zero, Act.put, List.setIfInBounds_toArray, List.set_cons_zero, List.set_cons_succ])
                        refine anyB_take (i := 8) (oi := _) (v := ?q8_55v17) rfl (by kernel_rfl) (by kernel_rfl) (by kernel_rfl) (by kernel_rfl) (fun _ _ _ h => h) (Or.inl ⟨by rfl, ?q8_55h17⟩) (by assumption) ?q8_55r17
                        case q8_55h17 => (intro w hSw; (try dsimp only at hSw); go_simp; try with_reducible rfl)
                        (try simp only [List.getElem_toArray, List.getElem_cons_succ, List.getElem_cons_zero, Act.put, List.setIfInBounds_toArray, List.set_cons_zero, List.set_cons_succ])
                        refine anyB_step (i := 10) (o := _) (by kernel_rfl) (by rfl) (by (simp only [List.getElem?_toArray, List.getElem?_cons_succ, List.getElem?_cons_zero] <;> rfl)) (fun K hK => ?_)
                        go_simp
                        refine hK.out _ _ ?q8_55S18 (fun hHeld3 => ?_)
                        case q8_55S18 => (((try dsimp only); refine ⟨?_, ?_, ?_, ?_⟩ <;> (iterate 4 rw [setCell_other (fun e => by injection e with e1; omega)]) <;> assumption))
                        clear hK K hHeld2
                        (try simp only [List.getElem_toArray, List.getElem_cons_succ, List.getElem_cons_zero, Act.put, List.setIfInBounds_toArray, List.set_cons_zero, List.set_cons_succ])
                        refine anyB_last (i := 11) (o := _) (by kernel_rfl) (by rfl) (by (simp only [List.getElem?_toArray, List.getElem?_cons_succ, List.getElem?_cons_zero] <;> rfl)) (fun K hK => ?_)
                        go_simp
                        refine hK.out _ _ ?_
                        clear hK K
                        (try simp only [List.getElem_toArray, List.getElem_cons_succ, List.getElem_cons_zero, Act.put, List.setIfInBounds_toArray, List.set_cons_zero, List.set_cons_succ])
                        refine anyB_done (by kernel_rfl) ?_ _
                        go_wp2
                        go_meet
                        first | exact rbox_1 HXg.out (fun b hb => HTe.out.lt b hb.1) Hbg.out Hcg.out | exact rbox_2 HXg.out (fun b hb => HTe.out.lt b hb.1) (by simp) YB.out Hbg.out Hcg.out
                    case rest =>
                      obtain ⟨wd, rfl⟩ : ∃ x : World, x = wc := ⟨_, rfl⟩
                      obtain ⟨gd, ud, vd, rfl, rfl, hgD, hud, hvd, hxd⟩ := hcut
                      obtain ⟨Ad, kd, md, rfl⟩ := hud.form0
                      obtain ⟨Cd, cd, dd, rfl⟩ := hvd.form0
                      have HTd := Lib.hid (HTe.out.step HT.out hxd)
                      obtain ⟨a0, a1, a2, a3, -⟩ := cells4 (hxd.blk HBe.out (fun f => f))
                      obtain ⟨b0, b1', b2', b3', -⟩ := cells4 (hxd.blk HgBe.out (fun f => f))
                      have HB2d := Lib.hid (hxd.blk HB2e.out (fun f => f))
                      have HgD := Lib.hid hgD
                      have Hb6d := Lib.hid (Hb6e.out.ext hxd)
                      have Hc6d := Lib.hid (Hc6e.out.ext hxd)
                      have Hubd := Lib.hid (Hube.out.ext hxd)
                      have Hvbd := Lib.hid (Hvbe.out.ext hxd)
                      have Hbd := Lib.hid (Hbe.out.ext hxd)
                      have Hcd := Lib.hid (Hce.out.ext hxd)
                      have Hud := Lib.hid hud
                      have Hvd := Lib.hid hvd
                      clear hgD hud hvd hxd HTe HKe Hke HBe HgBe HB2e Hbe Hce Hb6e Hc6e Hube Hvbe r0 r1 rf p0 p1 p2
                      go_wp2_with (first
                        | (have hh := Hb6d; clear hh; go_at_call 36; refine (r3_sameEntRefl E Hb6d.out Hubd.out Hc6d.out Hvbd.out).mono ?_; rintro r wx ⟨rfl, hxx⟩; obtain ⟨e0, e1, e2, e3, -⟩ := cells4 (hxx.blk HB2d.out (fun f => f)); obtain ⟨f0, f1, f2, f3, -⟩ := cells4 (hxx.blk HgD.out (fun f => f)); have HTx := Lib.hid (HTd.out.step HT.out hxx); have Hbx := Lib.hid (Hbd.out.ext hxx); have Hcx := Lib.hid (Hcd.out.ext hxx); have Hux := Lib.hid (Hud.out.ext hxx); have Hvx := Lib.hid (Hvd.out.ext hxx); clear Hb6d)
                        | (go_at_call 36; refine (r3_sameEntRefl E2 Hbx.out Hux.out Hcx.out Hvx.out).mono ?_; rintro r wy ⟨rfl, hxy⟩))
                      go_roundw
                      case rel => exact ⟨i + 1, by omega, by go_num, HTx.out.step HT.out hxy⟩
                      case measure => simp [intOf]; omega
              · go_wp2
                go_ret
                exact ⟨rfl, HT2.out.ext⟩
            · go_wp2
              go_ret
              exact ⟨rfl, HTi.out.ext⟩

end Go.Proofs.Yteaanagljmcidaa
