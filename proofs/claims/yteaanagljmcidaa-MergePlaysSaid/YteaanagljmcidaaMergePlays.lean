/- law14: MergePlays. -/
import Derived.Test.YteaanagljmcidaaMePlaysA
import Derived.Deep.DeepCutAuto
import Derived.Deep.CutBlock
namespace Go.Proofs.Yteaanagljmcidaa
open Go.RowKit

attribute [local go_sem ↓] Go.wp_at_zero Go.wp_at_succ

set_option maxRecDepth 100000 in
set_option maxHeartbeats 8000000 in
theorem mergePlays_walk (w : World) {F G : Nat → Prop} {x y : Value} (ls : List (List Ent)) (hx : Sl listCA w F x ls) (b : Bool) (ps : List GoE) (hy : Sl goCA w G y ps) :
    Calls Try.prog 9 #[x, .bool b, y] w fun e w' => e = .returned (.bool true) ∧ Ext w w' := by
  obtain ⟨A, N, n, rfl⟩ := hx.form0
  obtain ⟨Y, n9, rfl, hy1, hy2, hy3, -⟩ := hy.form
  have hy3 : ps.length ≤ 9223372036854775807 := hy3
  have Hx := Lib.hid hx
  have Hy := Lib.hid (hy.belowM (by decide))
  clear hx hy hy1 hy2
  have hA := few14_all b ls
  have hL6 := few14_le b ls
  have HM := Lib.hid (fun l (h : l ∈ few14 b ls) => (few14_mem h))
  obtain ⟨L, hL⟩ : ∃ L, few14 b ls = L := ⟨_, rfl⟩
  have HL := Lib.hid hL
  rw [hL] at hA hL6 HM
  clear hL
  have HM' : Hid (∀ l ∈ L, l.length ≤ 1000) := Lib.hid fun l hl => by have := HM.out l hl; omega
  go_enter Try.func9, Try.ntmps9
  go_upto_region 7 with (first
    | (go_at_call 44; refine (law14_awake _).mono ?_; rintro r w1 ⟨rfl, hx1⟩; have HX1 := Lib.hid hx1; have hs1 := hx1.size; clear hx1)
    | (go_at_call 45; refine (law14_few _ ls (Hx.out.ext HX1.out) b).mono ?_; rw [HL.out]; rintro r w2 ⟨x2, rfl, hx2, hl2⟩; have HX2 := Lib.hid (HX1.out.ext hx2); have HL2 := Lib.hid (hl2.belowM (by decide)); have hs2 := hx2.size; obtain ⟨A2, k2, m2, rfl⟩ := hl2.form0; clear hx2 hl2)
    | (go_at_call 46; refine (law14_twinsT _ L HL2.out (by omega) HM'.out).mono ?_; rintro r w3 ⟨x3, tw, rfl, hx3, ht3, hm3, hT3⟩; have HX3 := Lib.hid (HX2.out.ext hx3); have HL3 := Lib.hid (HL2.out.ext hx3); have HT3 := Lib.hid ht3; have HMp := Lib.hid hm3; have HTl := Lib.hid hT3; have hs3 := hx3.size; obtain ⟨A3, k3, m3, rfl⟩ := ht3.form0; clear hx3 ht3 hm3 hT3)
    | (go_at_call 47; refine (newS (ls := L) (by have h := (HT3.out.tw (fun a ha => HM'.out _ (by rw [← HMp.out]; exact List.mem_map.2 ⟨a, ha, rfl⟩))); rw [HMp.out] at h; exact h.sl (G := fun b => w2.heap.size ≤ b) (by decide) (by show _ ≤ 140737488355328; omega) (fun b hb _ => hb) (fun b hb _ => hb)) (by omega) HM'.out hA).mono ?_; rintro r w4 ⟨hx4, cv, I, all, code, rfl, hst, hI4, hall, h1, h2⟩; have HX4 := Lib.hid (HX3.out.ext hx4); have HL4 := Lib.hid (HL3.out.ext hx4); have HT4 := Lib.hid (HT3.out.ext hx4); have HI4 := Lib.hid hI4; have HSt := Lib.hid hst; have H1 := Lib.hid h1; have H2 := Lib.hid h2; have hs4 := hx4.size; clear hx4 hst hI4 h1 h2)
    | (go_at_call 48; refine (allS _ L HL4.out (by omega) HM'.out H1.out H2.out).mono ?_; rintro r w5 ⟨hx5, v5, rfl, ha5⟩; have HX5 := Lib.hid (HX4.out.ext hx5); have HL5 := Lib.hid (HL4.out.ext hx5); have HT5 := Lib.hid (HT4.out.ext hx5); have HI5 := Lib.hid (HSt.out.keep HI4.out hx5 (fun _ _ _ f => f)); have HA5 := Lib.hid ha5; have hs5 := hx5.size; obtain ⟨A5, m5, rfl, -⟩ := ha5.form; clear hx5 ha5))
  go_cut [49] (fun s49 wx => s49 = .bool false ∧ wx = w5)
  case first =>
    by_cases hso : ∀ l ∈ L, SortedE l
    · obtain ⟨-, hc, C, hcv⟩ := H1.out hso
      subst hc hcv
      go_wp2
      go_meet
      exact ⟨rfl, rfl⟩
    · obtain ⟨-, hc, hcv⟩ := H2.out hso
      subst hc hcv
      go_wp2
      go_meet
      exact ⟨rfl, rfl⟩
  case rest =>
    obtain ⟨rfl, hwc⟩ := hcut
    subst hwc
    rename World => w5
    have HIv : Hid (∀ (a : List Ent × Nat × Nat), a ∈ tw → w2.heap.size ≤ a.2.1 ∧ a.2.2 ≤ w3.heap.size) := Lib.hid HTl.out.1
    have hmp := HMp.out
    subst hmp
    have Hhit : Hid (∀ i b, hitR (.slice A3 k3 m3) tw i b → w2.heap.size ≤ b ∧ b < w3.heap.size) := Lib.hid fun i b hb => by
      obtain ⟨-, j, hj, -, h1, h2⟩ := hb
      have := HIv.out _ (List.getElem_mem hj)
      omega
    have htl3 : k3 = tw.length := by obtain ⟨_, _, e, -⟩ := HT5.out.form; injection e
    subst htl3
    have htl2 : k2 = tw.length := by obtain ⟨_, _, e, -⟩ := HL5.out.form; injection e with _ e _; rw [e, List.length_map]
    subst htl2
    have htl1 : tw.length ≤ 6 := by simpa using hL6
    have HTl2 := Lib.hid HTl.out.2
    clear HL2 HL3 HL4 HT3 HT4 HI4 HX3 HX4 HX1
    go_wp2
    go_loopw [52] (fun s52 wr => ∃ i : Nat, i ≤ tw.length ∧ s52 = .int .i64 i ∧ Out (hitR (.slice A3 tw.length m3) tw i) w5 wr) (fun s52 _ => tw.length - (intOf s52).toNat)
    case atStart => exact ⟨0, Nat.zero_le _, rfl, Out.refl _ _⟩
    case round =>
      obtain ⟨wo, rfl⟩ : ∃ x : World, x = wr := ⟨_, rfl⟩
      obtain ⟨i, hi, rfl, ho⟩ := hrel
      have HO := Lib.hid ho
      clear ho
      by_cases hlt : i < tw.length
      · as_aux_lemma =>
          obtain ⟨g, cap, lv, hv, hg, c0, hown, hrow⟩ := HT5.out.twAt i hlt
          injection hv with hA3 _ hcap
          subst hA3 hcap
          have hdis : ∀ k, tw[i].2.1 ≤ k → k < tw[i].2.2 → ¬ hitR (.slice (some ⟨g, 0, none⟩) tw.length m3) tw i k := fun k h1 h2 hh => by
            obtain ⟨-, j, hj, hji, h3, h4⟩ := hh
            have := List.pairwise_iff_getElem.1 HTl2.out j i hj hlt hji
            omega
          have hng : ¬ hitR (.slice (some ⟨g, 0, none⟩) tw.length m3) tw i g := fun hh => hh.1 rfl
          have d0 := HO.out.cell c0 hng
          have hown2 := hown.frame HO.out (fun k hk1 _ hk2 => hdis k (hrow k hk2).2.1 (hrow k hk2).2.2) (fun k hk1 hk2 _ => hdis k hk2.2.1 hk2.2.2)
          obtain ⟨b2, o2, lv2, hA2, -, c2, hl2⟩ := ((HL5.out.out HO.out (fun k _ hk hh => by have := Hhit.out i k hh; omega)).listAt i (by rw [List.length_map]; exact hlt))
          subst hA2
          rw [List.getElem_map] at hl2
          obtain ⟨X, xn, xc, rfl⟩ := hown2.form0
          obtain ⟨Z, zn, zc, rfl⟩ := hl2.form0
          have hlen1 : tw[i].1.length ≤ 1000 := HM'.out _ (List.mem_map.2 ⟨tw[i], List.getElem_mem hlt, rfl⟩)
          have hxn : xn = tw[i].1.length := by obtain ⟨_, _, e, -⟩ := hown2.form; injection e
          subst hxn
          have HOw := Lib.hid hown2
          have HRow := Lib.hid hrow
          have Hsl := Lib.hid (hown2.slT (G := fun _ => True) (by show _ ≤ 140737488355328; omega) (fun _ _ _ => trivial) (fun _ _ => trivial))
          have Hl2 := Lib.hid hl2
          clear hown hown2 hrow hl2 c0 hdis hng
          go_wp2_with (go_at_call 32; refine (r3_sameSelfM Hsl.out Hl2.out).mono ?_; rintro r w6 ⟨rfl, hx6⟩; have HX6 := Lib.hid hx6; have HOw6 := Lib.hid (HOw.out.ext hx6); clear hx6)
          go_loopw [66] (fun s66 wq => ∃ (k : Nat) (l' : List Ent), k ≤ tw[i].1.length ∧ s66 = .int .i64 k ∧ l'.length = tw[i].1.length ∧ Own entC 32 wq tw[i].2.1 (fun b => (w2.heap.size ≤ b ∧ (Value.slice (some ⟨g, 0, none⟩) tw.length m3).ownBlock ≠ some b) ∧ tw[i].2.1 ≤ b ∧ b < tw[i].2.2) (.slice X tw[i].1.length xc) l' ∧ Out (fun b => (Value.slice (some ⟨g, 0, none⟩) tw.length m3).ownBlock ≠ some b ∧ tw[i].2.1 ≤ b ∧ b < tw[i].2.2) w6 wq) (fun s66 _ => tw[i].1.length - (intOf s66).toNat)
          case atStart => exact ⟨0, tw[i].1, Nat.zero_le _, rfl, rfl, HOw6.out, Out.refl _ _⟩
          case round =>
            obtain ⟨wq, rfl⟩ : ∃ x : World, x = wr := ⟨_, rfl⟩
            obtain ⟨k, l', hk, rfl, hl', hownq, hoq⟩ := hrel
            have HOq := Lib.hid hoq
            have HOwq := Lib.hid hownq
            have Hl' := Lib.hid hl'
            clear hoq hownq hl'
            by_cases hltk : k < tw[i].1.length
            · obtain ⟨R, rc, ux, uy, hv, hR1, hR2, e0, e1, e2, e3, hbu, hbv⟩ := HOwq.out.entAt k (by rw [Hl'.out]; exact hltk)
              injection hv with hX _ hrc
              subst hX hrc
              obtain ⟨U, uc, rfl, -, -, hub, -⟩ := hbu.form
              have hub' : (l'[k]'(by rw [Hl'.out]; exact hltk)).key.user.length ≤ 140737488355328 := hub
              generalize hnk : (l'[k]'(by rw [Hl'.out]; exact hltk)).key.user.length = nk at *
              have Hnk := Lib.hid hnk
              clear hbu hbv hnk hub
              go_wp2
              go_loopw [76] (fun s76 wq => ∃ (j : Nat) (l'' : List Ent), j ≤ nk ∧ s76 = .int .i64 j ∧ (∃ h : l''.length = tw[i].1.length, (l''[k]'(by omega)).key.user.length = nk) ∧ Own entC 32 wq tw[i].2.1 (fun b => (w2.heap.size ≤ b ∧ (Value.slice (some ⟨g, 0, none⟩) tw.length m3).ownBlock ≠ some b) ∧ tw[i].2.1 ≤ b ∧ b < tw[i].2.2) (.slice (some ⟨R, 0, none⟩) tw[i].1.length xc) l'' ∧ Out (fun b => (Value.slice (some ⟨g, 0, none⟩) tw.length m3).ownBlock ≠ some b ∧ tw[i].2.1 ≤ b ∧ b < tw[i].2.2) w6 wq) (fun s76 _ => nk - (intOf s76).toNat)
              case atStart => exact ⟨0, l', Nat.zero_le _, rfl, ⟨Hl'.out, Hnk.out⟩, HOwq.out, HOq.out⟩
              case round =>
                obtain ⟨wp, rfl⟩ : ∃ x : World, x = wr := ⟨_, rfl⟩
                obtain ⟨j, l'', hj, rfl, ⟨hl2, hn2⟩, hownp, hop⟩ := hrel
                have HOp := Lib.hid hop
                have HOwp := Lib.hid hownp
                have Hl2'' := Lib.hid hl2
                have Hn2 : Hid (∀ h, (l''[k]'h).key.user.length = nk) := Lib.hid fun _ => hn2
                clear hop hownp hl2 hn2
                by_cases hltj : j < nk
                · have hkl : k < l''.length := by rw [Hl2''.out]; exact hltk
                  obtain ⟨R', rc', vx, vy, hv, -, -, f0, f1, f2, f3, hbu, hbv⟩ := HOwp.out.entAt k hkl
                  injection hv with hX _ _
                  injection hX with hX
                  injection hX with hX _
                  subst hX
                  obtain ⟨U', un', uc', rfl⟩ := hbu.form0
                  have hun : un' = nk := by obtain ⟨_, _, e, -⟩ := hbu.form; injection e with _ e _; rw [e, Hn2.out]
                  subst hun
                  obtain ⟨b3, o3, cs3, hU, hF3, hat, hr3⟩ := Sl.get hbu j (by rw [Hn2.out]; exact hltj)
                  have hr3' : cs3 = [byteV ((l''[k]'hkl).key.user[j]'(by rw [Hn2.out]; exact hltj))] := hr3
                  subst hU hr3'
                  have hc3 := hat.cell 0 _ rfl
                  have hf3 := hat.free 0 (by simp)
                  simp only [byteC, Nat.mul_one, Nat.add_zero] at hc3 hf3
                  generalize ((l''[k]'hkl).key.user[j]'(by rw [Hn2.out]; exact hltj)) = by3 at *
                  have hfl := flip_u8 by3
                  have Hpk := Lib.hid (HOwp.out.pokeEM hc3 (fun e => hF3.2 (by injection e with e; exact e.symm)) (by3 ^^^ 1))
                  have Hset : Hid (Out (fun b => (Value.slice (some ⟨g, 0, none⟩) tw.length m3).ownBlock ≠ some b ∧ tw[i].2.1 ≤ b ∧ b < tw[i].2.2) w6 (wp.setCell ⟨b3, o3 + j, none⟩ (byteV (by3 ^^^ 1)))) := Lib.hid (HOp.out.setCell (p := ⟨b3, o3 + j, none⟩) (fun _ => ⟨hF3.1.1.2, hF3.1.2⟩) _)
                  clear hbu hbv hat
                  go_wp2
                  go_roundw
                  case rel =>
                    obtain ⟨m', hm1, hm2, hm3'⟩ := Hpk.out
                    exact ⟨j + 1, m', by omega, by go_num, ⟨by rw [hm1, Hl2''.out], by rw [hm2 k hkl (by rw [hm1]; exact hkl), Hn2.out]⟩, hm3', Hset.out⟩
                  case measure => simp [intOf]; omega
                · go_wp2
                  go_roundw
                  case rel => exact ⟨k + 1, l'', by omega, by go_num, Hl2''.out, HOwp.out, HOp.out⟩
                  case measure => simp [intOf]; omega
            · go_wp2
              go_roundw
              case rel =>
                refine ⟨i + 1, by omega, by go_num, ((HO.out.mono fun b _ hb => ?_).ext HX6.out).trans (HOq.out.mono fun b _ hb => ?_)⟩
                · obtain ⟨h1, j, hj, h2, h3⟩ := hb; exact ⟨h1, j, hj, by omega, h3⟩
                · exact ⟨hb.1, i, hlt, by omega, hb.2⟩
              case measure => simp [intOf]; omega
      · have HIo := Lib.hid (HSt.out.keep HI5.out HO.out (fun k h1 _ hh => by have := Hhit.out _ k hh; omega))
        have HAo := Lib.hid (HA5.out.out HO.out (fun k _ hk hh => by have := Hhit.out _ k hh; rcases hk with hk | hk <;> omega))
        have HXo := Lib.hid (HX5.out.then HO.out (fun k hk hh => by have := Hhit.out _ k hh; omega) : Ext w wo)
        have hso := HO.out.size
        clear HIv Hhit HT5 HTl HTl2 HM HM' HMp HL HO HI5 HA5 HX5 HL5 HX2 Hx H1 H2
        go_wp2_with (first
          | (go_at_call 49; refine (HSt.out.all_ HIo.out).mono ?_; rintro r w6 ⟨x6, rfl, hx6, ho6⟩; have HO6 := Lib.hid (OwnedM.slM ho6 (by omega)); have HX6 := Lib.hid hx6; obtain ⟨A6, k6, m6, rfl⟩ := ho6.form0; clear hx6 ho6)
          | (go_at_call 32; refine (r3_sameSelfM HO6.out (HAo.out.ext HX6.out)).mono ?_; rintro r w7 ⟨rfl, hx7⟩; have HX7 := Lib.hid (HX6.out.ext hx7); have HI7 := Lib.hid (HSt.out.keep HIo.out HX7.out (fun _ _ _ f => f)); have HA7 := Lib.hid (HAo.out.ext HX7.out); have HXw := Lib.hid (HXo.out.ext HX7.out); have hs7 := HX7.out.size; clear hx7))
        clear HIo HAo HXo HO6 HX6 HX7
        generalize hB : w3.heap.size = B at *
        generalize hD : w4.heap.size = D at *
        have HAl : Hid (Sl entC w7 (fun k => ¬ (B ≤ k ∧ k < D)) (.slice A5 all.length m5) all) := Lib.hid (HA7.out.mono (fun k hk _ => by rcases hk with hk | hk <;> omega) (.inl (by decide)))
        have HYw := Lib.hid (Hy.out.ext HXw.out)
        have hBw : w.heap.size ≤ B := by omega
        have hD7 : D ≤ w7.heap.size := by omega
        clear HA7 Hy
        go_loopw [17, 100] (fun s17 s100 wr => ∃ (i : Nat) (at_ : Int), i ≤ ps.length ∧ i ≤ 60 ∧ s100 = .int .i64 i ∧ s17 = .int .i64 at_ ∧ -1 ≤ at_ ∧ at_ < all.length ∧ I at_ wr ∧ Out (fun k => B ≤ k ∧ k < D) w7 wr) (fun _ s100 _ => ps.length - (intOf s100).toNat)
        case atStart => exact ⟨0, -1, Nat.zero_le _, Nat.zero_le _, rfl, rfl, by omega, by omega, HI7.out, Out.refl _ _⟩
        case round =>
          obtain ⟨wi, rfl⟩ : ∃ x : World, x = wr := ⟨_, rfl⟩
          obtain ⟨i, at_, hi, hi60, rfl, rfl, hat1, hat2, hI, ho⟩ := hrel
          have HI := Lib.hid hI
          have HO := Lib.hid ho
          have HA := Lib.hid (HAl.out.out ho (fun k _ hk hh => hk hh))
          clear hI ho
          by_cases hlti : i < ps.length
          · obtain ⟨b1, o1, u1, hA1, -, c0, c1, c2, c3, hu⟩ := ((HYw.out.out HO.out (fun k _ hk hh => by omega)).goAt i hlti)
            subst hA1
            obtain ⟨U, n1, rfl, hu1, hu2, hu3, -⟩ := hu.form
            have hu3 : ps[i].k.user.length ≤ 9223372036854775807 := hu3
            have hz := blk_new wi (.cells #[byteV ps[i].op, .slice U ps[i].k.user.length n1, u64V ps[i].k.seq, byteV ps[i].k.kind] 72)
            obtain ⟨z0, z1, z2, z3, zf⟩ := cells4 hz
            have Hz := Lib.hid hz
            have Hu := Lib.hid (hu.alloc (.cells #[byteV ps[i].op, .slice U ps[i].k.user.length n1, u64V ps[i].k.seq, byteV ps[i].k.kind] 72))
            clear hu hz
            by_cases h60 : i < 60
            · go_upto_region 31 with (fail)
              go_cut [117] (fun s117 wx => ∃ (k' : Key) (u' : Value), wx.heap[wi.heap.size]? = some (.cells #[byteV ps[i].op, u', u64V k'.seq, byteV k'.kind] 72) ∧ Bs wx (fun b => wi.heap.size < b ∧ b < wx.heap.size) u' k'.user ∧ Ext wi wx)
              case first =>
                have ho0 := Own.empty byteC 5 (wi.alloc (.cells #[byteV ps[i].op, .slice U ps[i].k.user.length n1, u64V ps[i].k.seq, byteV ps[i].k.kind] 72)) (fun _ => False)
                simp only [World.size_alloc] at ho0
                have ho := Lib.hid ho0
                clear ho0
                by_cases h80 : 80 < ps[i].k.user.length
                · have hle : (ps[i].k.user.take 80).length = 80 := List.length_take_of_le (by omega)
                  have hs := Lib.hid (Sl.ofA (Hu.out.take 80 (by omega)) (by rw [hle]; decide))
                  have Hle := Lib.hid hle
                  clear hle
                  go_wp2_with (at_builtin; refine wpList_append_sl rfl (.tmp 107) (.tmp 116) 27 rfl fits5 ho.out rfl (by simp) (hs.out.alloc _) rfl (fun _ _ _ h => h) (by rw [Hle.out]; decide) (by decide) ?_; intro v' w' h1 h2 h3; obtain ⟨A', k9, m9, rfl⟩ := h1.form0; have H1 := Lib.hid h1; have HX := Lib.hid (((Ext.alloc1 wi _).alloc _).then h2 (fun i hi e => by simp [Value.ownBlock] at e; omega)); have HK := Lib.hid (h2.blk (blk_alloc Hz.out (.cells #[] 5)) (by simp [Value.ownBlock])); obtain ⟨p0, p1, p2, p3, pf⟩ := cells4 HK.out; clear h1 h2 h3)
                  go_meet
                  exact key_cut4 HK.out H1.out (by rw [Hle.out]; decide) HX.out (Nat.le_refl _) (by omega)
                · have hs0 := Hu.out.take ps[i].k.user.length (Nat.le_refl _)
                  rw [List.take_length] at hs0
                  have hs := Lib.hid (Sl.ofA hs0 (by unfold big; omega))
                  clear hs0
                  go_wp2_with (at_builtin; refine wpList_append_sl rfl (.tmp 107) (.tmp 116) 27 rfl fits5 ho.out rfl (by simp) (hs.out.alloc _) rfl (fun _ _ _ h => h) (by simp; omega) (by decide) ?_; intro v' w' h1 h2 h3; obtain ⟨A', k9, m9, rfl⟩ := h1.form0; have H1 := Lib.hid h1; have HX := Lib.hid (((Ext.alloc1 wi _).alloc _).then h2 (fun i hi e => by simp [Value.ownBlock] at e; omega)); have HK := Lib.hid (h2.blk (blk_alloc Hz.out (.cells #[] 5)) (by simp [Value.ownBlock])); obtain ⟨p0, p1, p2, p3, pf⟩ := cells4 HK.out; clear h1 h2 h3)
                  go_meet
                  exact key_cut4 HK.out H1.out (by omega) HX.out (Nat.le_refl _) (by omega)
              case rest =>
                obtain ⟨wk, rfl⟩ : ∃ x : World, x = wc := ⟨_, rfl⟩
                obtain ⟨kk, u', hK, hku, hxk⟩ := hcut
                have HK := Lib.hid hK
                obtain ⟨U', N', n', rfl⟩ := hku.form0
                obtain ⟨p0, p1, p2, p3, -⟩ := cells4 hK
                have hsi := HO.out.size
                have hsk := hxk.size
                have Hku : Hid (Bs wk (fun b => ¬ (B ≤ b ∧ b < D)) (.slice U' N' n') kk.user) := Lib.hid (hku.mono (fun b hb _ => by omega) (.inl (by decide)))
                have HXk := Lib.hid hxk
                have HIk := Lib.hid (HSt.out.keep HI.out hxk (fun _ _ _ f => f))
                have HAk := Lib.hid (HA.out.ext hxk)
                have hple : aheadN all kk ≤ all.length := aheadN_le _ _
                clear hK hku hxk HI HA Hu Hz z0 z1 z2 z3 zf c0 c1 c2 c3
                obtain ⟨r, hr⟩ : ∃ r : Nat, r = ps[i].op.toNat % 8 := ⟨_, rfl⟩
                have hr8 : r < 8 := by rw [hr]; exact Nat.mod_lt _ (by decide)
                have hrI : ((ps[i].op.toNat : Int)) % 8 = (r : Int) := by omega
                clear hr
                go_upto_region 33 with (fail)
                go_cut [122] (fun s122 wx => s122 = .int .u8 (r : Int) ∧ wx = wk)
                case first =>
                  go_wp2
                  go_meet
                  exact ⟨by rw [← hrI], rfl⟩
                case rest =>
                  obtain ⟨rfl, hwk⟩ := hcut
                  subst hwk
                  rename World => wk
                  clear hrI
                  go_upto_block 8 with fail
                  go_cut [20, 17] (fun s20 s17 wx => ∃ at' : Int, s17 = .int .i64 at' ∧ -1 ≤ at' ∧ at' ≤ all.length ∧ s20 = .bool (decide (0 ≤ at' ∧ at' < all.length)) ∧ I at' wx ∧ Out (fun k => B ≤ k ∧ k < D) wk wx)
                  case first =>
                    rcases (show r = 0 ∨ r = 1 ∨ r = 2 ∨ r = 3 ∨ r = 4 ∨ r = 5 ∨ r = 6 ∨ r = 7 by omega) with rfl | rfl | rfl | rfl | rfl | rfl | rfl | rfl
                    · as_aux_lemma =>
                        go_wp2_with (go_at_call 50; refine (HSt.out.first HIk.out).mono ?_; intro e w9 h; obtain ⟨he, ho9, hi9⟩ := h; obtain ⟨d9, hd9⟩ : ∃ d, decide ((0 : Int) ≤ (0 : Int) ∧ (0 : Int) < (all.length : Int)) = d := ⟨_, rfl⟩; rw [hd9] at he; subst he; have Hd9 := Lib.hid hd9; have HO9 := Lib.hid ho9; have HI9 := Lib.hid hi9; clear hd9 ho9 hi9)
                        go_meet
                        exact ⟨0, rfl, by omega, by omega, by rw [Hd9.out], HI9.out, HO9.out⟩
                    · as_aux_lemma =>
                        go_wp2_with (go_at_call 51; refine (HSt.out.last HIk.out).mono ?_; intro e w9 h; obtain ⟨he, ho9, hi9⟩ := h; obtain ⟨d9, hd9⟩ : ∃ d, decide ((0 : Int) ≤ ((all.length : Int) - 1) ∧ ((all.length : Int) - 1) < (all.length : Int)) = d := ⟨_, rfl⟩; rw [hd9] at he; subst he; have Hd9 := Lib.hid hd9; have HO9 := Lib.hid ho9; have HI9 := Lib.hid hi9; clear hd9 ho9 hi9)
                        go_meet
                        exact ⟨(all.length : Int) - 1, by first | rfl | (congr 1; omega), by omega, by omega, by rw [Hd9.out], HI9.out, HO9.out⟩
                    · as_aux_lemma =>
                        go_wp2
                        obtain ⟨q0, hq0⟩ : ∃ q, aheadN all kk = q := ⟨_, rfl⟩
                        have HQ0 := Lib.hid hq0
                        rw [hq0] at hple
                        clear hq0
                        have HKd := Lib.hid (HK.out : wk.drew.heap[wi.heap.size]? = _)
                        have hw1 : IntKind.i64.wrap ((q0 : Int) - 1) = (q0 : Int) - 1 := by rw [IntKind.wrap_i64]; omega
                        go_region_held3 (fun w' => w'.cell? ⟨wi.heap.size, 1, none⟩ = some (.slice U' N' n') ∧ w'.cell? ⟨wi.heap.size, 2, none⟩ = some (u64V kk.seq) ∧ w'.cell? ⟨wi.heap.size, 3, none⟩ = some (byteV kk.kind)) (first | go_keep | exact ⟨m1, m2, m3⟩ | exact ⟨hxp.cell m1 (fun f => f), hxp.cell m2 (fun f => f), hxp.cell m3 (fun f => f)⟩)
                          (first
                            | (go_at_call 52; refine (HSt.out.from_ (HSt.out.keep HIk.out (Out.refl (fun _ => False) wk).drew (fun _ _ _ f => f)) Hku.out.drew (fun _ h => h)).mono ?_; rw [HQ0.out]; intro e w9 h; obtain ⟨he, ho9, hi9⟩ := h; obtain ⟨d9, hd9⟩ : ∃ d, decide ((0 : Int) ≤ ((q0 : Int)) ∧ ((q0 : Int)) < (all.length : Int)) = d := ⟨_, rfl⟩; rw [hd9] at he; subst he; have Hd9 := Lib.hid hd9; have HO9 := Lib.hid ho9; have HI9 := Lib.hid hi9; obtain ⟨m0, m1, m2, m3, -⟩ := cells4 (ho9.blk HKd.out (fun h => by omega)); clear hd9 ho9 hi9)
                            | (go_at_call 53; refine (r14_place _ ((HAk.out.drew.out HO9.out (fun k _ hk hh => hk hh))) (Hku.out.drew.out HO9.out (fun k _ hk hh => hk hh))).mono ?_; rw [HQ0.out]; rintro e wp ⟨rfl, hxp⟩))
                        go_wp2
                        go_meet
                        exact ⟨(q0 : Int), by first | rfl | (congr 1; omega), by omega, by omega, by rw [Hd9.out], HSt.out.keep HI9.out hxp (fun _ _ _ f => f), (((Out.refl (fun k => B ≤ k ∧ k < D) wk).drew).trans HO9.out).ext hxp⟩
                    · as_aux_lemma =>
                        go_wp2
                        obtain ⟨q0, hq0⟩ : ∃ q, aheadN all kk = q := ⟨_, rfl⟩
                        have HQ0 := Lib.hid hq0
                        rw [hq0] at hple
                        clear hq0
                        have HKd := Lib.hid (HK.out : wk.drew.heap[wi.heap.size]? = _)
                        have hw1 : IntKind.i64.wrap ((q0 : Int) - 1) = (q0 : Int) - 1 := by rw [IntKind.wrap_i64]; omega
                        go_region_held3 (fun w' => w'.cell? ⟨wi.heap.size, 1, none⟩ = some (.slice U' N' n') ∧ w'.cell? ⟨wi.heap.size, 2, none⟩ = some (u64V kk.seq) ∧ w'.cell? ⟨wi.heap.size, 3, none⟩ = some (byteV kk.kind)) (first | go_keep | exact ⟨m1, m2, m3⟩ | exact ⟨hxp.cell m1 (fun f => f), hxp.cell m2 (fun f => f), hxp.cell m3 (fun f => f)⟩)
                          (first
                            | (go_at_call 54; refine (HSt.out.before (HSt.out.keep HIk.out (Out.refl (fun _ => False) wk).drew (fun _ _ _ f => f)) Hku.out.drew (fun _ h => h)).mono ?_; rw [HQ0.out]; intro e w9 h; obtain ⟨he, ho9, hi9⟩ := h; obtain ⟨d9, hd9⟩ : ∃ d, decide ((0 : Int) ≤ ((q0 : Int) - 1) ∧ ((q0 : Int) - 1) < (all.length : Int)) = d := ⟨_, rfl⟩; rw [hd9] at he; subst he; have Hd9 := Lib.hid hd9; have HO9 := Lib.hid ho9; have HI9 := Lib.hid hi9; obtain ⟨m0, m1, m2, m3, -⟩ := cells4 (ho9.blk HKd.out (fun h => by omega)); clear hd9 ho9 hi9)
                            | (go_at_call 53; refine (r14_place _ ((HAk.out.drew.out HO9.out (fun k _ hk hh => hk hh))) (Hku.out.drew.out HO9.out (fun k _ hk hh => hk hh))).mono ?_; rw [HQ0.out]; rintro e wp ⟨rfl, hxp⟩))
                        go_wp2
                        go_meet
                        exact ⟨(q0 : Int) - 1, by first | rfl | (congr 1; omega), by omega, by omega, by rw [Hd9.out], HSt.out.keep HI9.out hxp (fun _ _ _ f => f), (((Out.refl (fun k => B ≤ k ∧ k < D) wk).drew).trans HO9.out).ext hxp⟩
                    · as_aux_lemma =>
                        by_cases h0 : 0 ≤ at_
                        · obtain ⟨q0, rfl⟩ : ∃ q : Nat, at_ = q := ⟨at_.toNat, by omega⟩
                          have hq : q0 < all.length := by omega
                          go_wp2_with (go_at_call 55; refine (HSt.out.next hq HIk.out).mono ?_; intro e w9 h; obtain ⟨he, ho9, hi9⟩ := h; obtain ⟨d9, hd9⟩ : ∃ d, decide ((0 : Int) ≤ ((q0 : Int) + 1) ∧ ((q0 : Int) + 1) < (all.length : Int)) = d := ⟨_, rfl⟩; rw [hd9] at he; subst he; have Hd9 := Lib.hid hd9; have HO9 := Lib.hid ho9; have HI9 := Lib.hid hi9; clear hd9 ho9 hi9)
                          go_meet
                          exact ⟨(q0 : Int) + 1, by first | rfl | (congr 1; omega), by omega, by omega, by rw [Hd9.out], HI9.out, HO9.out⟩
                        · have h1 : at_ = -1 := by omega
                          subst h1
                          go_wp2_with (go_at_call 55; refine (HSt.out.nextNo (.inl (by omega)) HIk.out).mono ?_; rintro e w9 ⟨rfl, rfl⟩)
                          go_meet
                          exact ⟨-1, rfl, by omega, by omega, by first | rfl | simp, HIk.out, Out.refl _ _⟩
                    · as_aux_lemma =>
                        by_cases h0 : 0 ≤ at_
                        · obtain ⟨q0, rfl⟩ : ∃ q : Nat, at_ = q := ⟨at_.toNat, by omega⟩
                          have hq : q0 < all.length := by omega
                          go_wp2_with (go_at_call 55; refine (HSt.out.next hq HIk.out).mono ?_; intro e w9 h; obtain ⟨he, ho9, hi9⟩ := h; obtain ⟨d9, hd9⟩ : ∃ d, decide ((0 : Int) ≤ ((q0 : Int) + 1) ∧ ((q0 : Int) + 1) < (all.length : Int)) = d := ⟨_, rfl⟩; rw [hd9] at he; subst he; have Hd9 := Lib.hid hd9; have HO9 := Lib.hid ho9; have HI9 := Lib.hid hi9; clear hd9 ho9 hi9)
                          go_meet
                          exact ⟨(q0 : Int) + 1, by first | rfl | (congr 1; omega), by omega, by omega, by rw [Hd9.out], HI9.out, HO9.out⟩
                        · have h1 : at_ = -1 := by omega
                          subst h1
                          go_wp2_with (go_at_call 55; refine (HSt.out.nextNo (.inl (by omega)) HIk.out).mono ?_; rintro e w9 ⟨rfl, rfl⟩)
                          go_meet
                          exact ⟨-1, rfl, by omega, by omega, by first | rfl | simp, HIk.out, Out.refl _ _⟩
                    · as_aux_lemma =>
                        by_cases h0 : 0 ≤ at_
                        · obtain ⟨q0, rfl⟩ : ∃ q : Nat, at_ = q := ⟨at_.toNat, by omega⟩
                          have hq : q0 < all.length := by omega
                          go_wp2_with (go_at_call 56; refine (HSt.out.prev hq HIk.out).mono ?_; intro e w9 h; obtain ⟨he, ho9, hi9⟩ := h; obtain ⟨d9, hd9⟩ : ∃ d, decide ((0 : Int) ≤ ((q0 : Int) - 1) ∧ ((q0 : Int) - 1) < (all.length : Int)) = d := ⟨_, rfl⟩; rw [hd9] at he; subst he; have Hd9 := Lib.hid hd9; have HO9 := Lib.hid ho9; have HI9 := Lib.hid hi9; clear hd9 ho9 hi9)
                          go_meet
                          exact ⟨(q0 : Int) - 1, by first | rfl | (congr 1; omega), by omega, by omega, by rw [Hd9.out], HI9.out, HO9.out⟩
                        · have h1 : at_ = -1 := by omega
                          subst h1
                          go_wp2_with (go_at_call 56; refine (HSt.out.prevNo (.inl (by omega)) HIk.out).mono ?_; rintro e w9 ⟨rfl, rfl⟩)
                          go_meet
                          exact ⟨-1, rfl, by omega, by omega, by first | rfl | simp, HIk.out, Out.refl _ _⟩
                    · as_aux_lemma =>
                        by_cases h0 : 0 ≤ at_
                        · obtain ⟨q0, rfl⟩ : ∃ q : Nat, at_ = q := ⟨at_.toNat, by omega⟩
                          have hq : q0 < all.length := by omega
                          go_wp2_with (go_at_call 56; refine (HSt.out.prev hq HIk.out).mono ?_; intro e w9 h; obtain ⟨he, ho9, hi9⟩ := h; obtain ⟨d9, hd9⟩ : ∃ d, decide ((0 : Int) ≤ ((q0 : Int) - 1) ∧ ((q0 : Int) - 1) < (all.length : Int)) = d := ⟨_, rfl⟩; rw [hd9] at he; subst he; have Hd9 := Lib.hid hd9; have HO9 := Lib.hid ho9; have HI9 := Lib.hid hi9; clear hd9 ho9 hi9)
                          go_meet
                          exact ⟨(q0 : Int) - 1, by first | rfl | (congr 1; omega), by omega, by omega, by rw [Hd9.out], HI9.out, HO9.out⟩
                        · have h1 : at_ = -1 := by omega
                          subst h1
                          go_wp2_with (go_at_call 56; refine (HSt.out.prevNo (.inl (by omega)) HIk.out).mono ?_; rintro e w9 ⟨rfl, rfl⟩)
                          go_meet
                          exact ⟨-1, rfl, by omega, by omega, by first | rfl | simp, HIk.out, Out.refl _ _⟩
                  case rest =>
                    as_aux_lemma =>
                      obtain ⟨wn, rfl⟩ : ∃ x : World, x = wc := ⟨_, rfl⟩
                      obtain ⟨at', rfl, ha1, ha2, rfl, hIn, hon⟩ := hcut
                      have HIn := Lib.hid hIn
                      have HXn := Lib.hid ((HO.out.ext HXk.out).trans hon)
                      have HAn := Lib.hid (HAk.out.out hon (fun k _ hk hh => hk hh))
                      have hsn := hon.size
                      clear hIn hon HIk HAk HK Hku p0 p1 p2 p3
                      by_cases hin : 0 ≤ at' ∧ at' < all.length
                      · obtain ⟨q0, rfl⟩ : ∃ q : Nat, at' = q := ⟨at'.toNat, by omega⟩
                        have hq : q0 < all.length := by omega
                        obtain ⟨hq1, hq2⟩ := hin
                        rw [decide_eq_true (show (0 : Int) ≤ (q0 : Int) ∧ (q0 : Int) < all.length by omega)]
                        have hnge : ¬ ((all.length : Int) ≤ (q0 : Int)) := by omega
                        obtain ⟨b2, o2, u2, v2, hA2, -, d0, d1, d2, d3, hu2, hv2⟩ := HAn.out.ent q0 hq
                        subst hA2
                        obtain ⟨U2, P2, p2, rfl⟩ := hu2.form0
                        obtain ⟨V2, Q2, q2, rfl⟩ := hv2.form0
                        have Hu2 := Lib.hid hu2
                        have Hv2 := Lib.hid hv2
                        clear hu2 hv2
                        go_wp2_with (go_at_call 57; refine (HSt.out.here hq HIn.out).mono ?_; rintro e w6 ⟨u6, v6, rfl, hx6, hu6, hv6⟩; simp only [Option.getD_some, Option.isSome_some] at *; obtain ⟨U6, k6, m6, rfl⟩ := hu6.form0; obtain ⟨V6, p6, q6, rfl⟩ := hv6.form0; have hx6' := hx6.alloc (.cells #[.slice U6 k6 m6, u64V all[q0].key.seq, byteV all[q0].key.kind, .slice V6 p6 q6] 32); obtain ⟨t0, t1, t2, t3, -⟩ := cells4 (blk_new w6 (.cells #[.slice U6 k6 m6, u64V all[q0].key.seq, byteV all[q0].key.kind, .slice V6 p6 q6] 32)); have f0 := hx6'.cell d0 (fun f => f); have f1 := hx6'.cell d1 (fun f => f); have f2 := hx6'.cell d2 (fun f => f); have f3 := hx6'.cell d3 (fun f => f); have HX6 := Lib.hid hx6'; have HU6 := Lib.hid (hu6.alloc (.cells #[.slice U6 k6 m6, u64V all[q0].key.seq, byteV all[q0].key.kind, .slice V6 p6 q6] 32)).drew; have HV6 := Lib.hid (hv6.alloc (.cells #[.slice U6 k6 m6, u64V all[q0].key.seq, byteV all[q0].key.kind, .slice V6 p6 q6] 32)).drew; have HU2 := Lib.hid (Hu2.out.ext hx6').drew; have HV2 := Lib.hid (Hv2.out.ext hx6').drew; clear hx6 hx6' hu6 hv6 d0 d1 d2 d3)
                        go_region_held3 (fun w' => w'.cell? ⟨w6.heap.size, 0, none⟩ = some (.slice U6 k6 m6) ∧ w'.cell? ⟨w6.heap.size, 1, none⟩ = some (u64V all[q0].key.seq) ∧ w'.cell? ⟨w6.heap.size, 2, none⟩ = some (byteV all[q0].key.kind) ∧ w'.cell? ⟨w6.heap.size, 3, none⟩ = some (.slice V6 p6 q6) ∧ w'.cell? ⟨b2, o2 + q0 * 4, none⟩ = some (.slice U2 P2 p2) ∧ w'.cell? ⟨b2, o2 + q0 * 4 + 1, none⟩ = some (u64V all[q0].key.seq) ∧ w'.cell? ⟨b2, o2 + q0 * 4 + 2, none⟩ = some (byteV all[q0].key.kind) ∧ w'.cell? ⟨b2, o2 + q0 * 4 + 3, none⟩ = some (.slice V2 Q2 q2)) (first | go_keep | exact ⟨hx7.cell t0 (fun f => f), hx7.cell t1 (fun f => f), hx7.cell t2 (fun f => f), hx7.cell t3 (fun f => f), hx7.cell f0 (fun f => f), hx7.cell f1 (fun f => f), hx7.cell f2 (fun f => f), hx7.cell f3 (fun f => f)⟩) (first | (go_at_call 36; refine (r3_sameEntReflM all[q0] HU6.out HU2.out HV6.out HV2.out).mono ?_; rintro r w7 ⟨rfl, hx7⟩))
                        have HX7 := Lib.hid ((HX6.out.drew).ext hx7)
                        go_wp2
                        go_roundw
                        case rel => exact ⟨i + 1, (q0 : Int), by omega, by omega, by go_num, rfl, by omega, by omega, HSt.out.keep HIn.out HX7.out (fun _ _ _ f => f), HXn.out.ext HX7.out⟩
                        case measure => simp [intOf]; omega
                      · have hno : at' < 0 ∨ (all.length : Int) ≤ at' := by omega
                        rw [decide_eq_false hin]
                        have HIm := Lib.hid (HSt.out.out hno (.inl (show (-1 : Int) < 0 by omega)) HIn.out)
                        by_cases hge : (all.length : Int) ≤ at'
                        · have hneg : ¬ (at' < 0) := by omega
                          clear hin hno
                          go_wp2_with (go_at_call 57; refine (HSt.out.hereNo (i := -1) (.inl (by omega)) HIm.out).mono ?_; rintro e w6 ⟨u6, v6, rfl, hx6, hu6, hv6⟩; simp only [Option.getD_none, Option.isSome_none] at *; obtain ⟨U6, k6, m6, rfl⟩ := hu6.form0; obtain ⟨V6, p6, q6, rfl⟩ := hv6.form0; have HX6 := Lib.hid (hx6.alloc (.cells #[.slice U6 k6 m6, u64V zeroM.key.seq, byteV zeroM.key.kind, .slice V6 p6 q6] 32)); clear hx6 hu6 hv6)
                          go_region
                          go_wp2
                          go_roundw
                          case rel => exact ⟨i + 1, -1, by omega, by omega, by go_num, rfl, by omega, by omega, HSt.out.keep HIm.out HX6.out.drew (fun _ _ _ f => f), HXn.out.ext HX6.out.drew⟩
                          case measure => simp [intOf]; omega
                        · obtain rfl : at' = -1 := by omega
                          clear hin hno
                          have hg1 : ¬ ((all.length : Int) ≤ -1) := hge
                          go_wp2_with (go_at_call 57; refine (HSt.out.hereNo (i := -1) (.inl (by omega)) HIm.out).mono ?_; rintro e w6 ⟨u6, v6, rfl, hx6, hu6, hv6⟩; simp only [Option.getD_none, Option.isSome_none] at *; obtain ⟨U6, k6, m6, rfl⟩ := hu6.form0; obtain ⟨V6, p6, q6, rfl⟩ := hv6.form0; have HX6 := Lib.hid (hx6.alloc (.cells #[.slice U6 k6 m6, u64V zeroM.key.seq, byteV zeroM.key.kind, .slice V6 p6 q6] 32)); clear hx6 hu6 hv6)
                          go_region
                          go_wp2
                          go_roundw
                          case rel => exact ⟨i + 1, -1, by omega, by omega, by go_num, rfl, by omega, by omega, HSt.out.keep HIm.out HX6.out.drew (fun _ _ _ f => f), HXn.out.ext HX6.out.drew⟩
                          case measure => simp [intOf]; omega
            · go_wp2_with (first
                | (go_at_call 49; refine (HSt.out.all_ (HSt.out.keep HI.out (Ext.alloc1 _ _) (fun _ _ _ f => f))).mono ?_; rintro r w8 ⟨x8, rfl, hx8, ho8⟩; have HO8 := Lib.hid (OwnedM.slM ho8 (by omega)); have HX8 := Lib.hid hx8; obtain ⟨A8, k8, m8, rfl⟩ := ho8.form0; clear hx8 ho8)
                | (go_at_call 32; refine (r3_sameSelfM HO8.out ((HA.out.ext (Ext.alloc1 _ _)).ext HX8.out)).mono ?_; rintro r w9 ⟨rfl, hx9⟩))
              go_ret
              exact ⟨rfl, (((HXw.out.then HO.out (fun k hk hh => by omega)).alloc _).ext HX8.out).ext hx9⟩
          · go_wp2_with (first
              | (go_at_call 49; refine (HSt.out.all_ HI.out).mono ?_; rintro r w8 ⟨x8, rfl, hx8, ho8⟩; have HO8 := Lib.hid (OwnedM.slM ho8 (by omega)); have HX8 := Lib.hid hx8; obtain ⟨A8, k8, m8, rfl⟩ := ho8.form0; clear hx8 ho8)
              | (go_at_call 32; refine (r3_sameSelfM HO8.out (HA.out.ext HX8.out)).mono ?_; rintro r w9 ⟨rfl, hx9⟩))
            go_ret
            exact ⟨rfl, ((HXw.out.then HO.out (fun k hk hh => by omega)).ext HX8.out).ext hx9⟩
end Go.Proofs.Yteaanagljmcidaa
