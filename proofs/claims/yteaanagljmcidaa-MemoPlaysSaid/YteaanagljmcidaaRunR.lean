/- law10: run. law10: what each statement begins with: a memo, a script. -/
import Derived.Test.YteaanagljmcidaaRunAB
import Derived.Test.YteaanagljmcidaaR4Ops
import Derived.Test.YteaanagljmcidaaAwake10
import Derived.Test.YteaanagljmcidaaMemoCDE
namespace Go.Proofs.Yteaanagljmcidaa
open Go.RowKit

attribute [local go_sem ↓] Go.wp_at_zero Go.wp_at_succ

theorem okI {F : Nat → Prop} {w : World} {hts : List Int} {v : Value} (h : Sl intCA w F v hts) : ∀ x ∈ hts, -9223372036854775808 ≤ x ∧ x ≤ 9223372036854775807 := fun x hx => by
  obtain ⟨i, hi, rfl⟩ := List.getElem_of_mem hx
  obtain ⟨A, cap, hv, h1, h2, h3, h4, h5⟩ := h
  obtain ⟨b, off, cs, hA, hb, hat, hr⟩ := h5 i hi
  exact hr.2

set_option maxRecDepth 100000 in
set_option maxHeartbeats 4000000 in
theorem law10_run (w : World) {K0 F : Nat → Prop} {m xv v : Value} {st0 : PairS} {n0 : Nat} (script : List StepE) (hv : Sl stepCA w F v script) (hF : ∀ b, F b → ¬ K0 b) (hp : Pr w K0 m xv st0) (hok : okP n0 st0) (hn : n0 ≤ 60000) (hK : ∀ b, K0 b → b < w.heap.size) :
    Calls Try.prog 71 #[m, xv, v] w fun e w' => e = .returned (.bool true) ∧ ∃ st', okP (n0 + 1920) st' ∧ Grows st0 st' ∧ Out K0 w w' ∧ Pr w' (fun b => (K0 b ∨ w.heap.size ≤ b) ∧ b < w'.heap.size) m xv st' := by
  obtain ⟨⟨pm, rfl⟩, px, rfl⟩ := hp.formM
  obtain ⟨A, cap, rfl, h1, h2, h3, h4⟩ := hv.form
  have h3 : script.length ≤ 9223372036854775807 := h3
  have Hv := Lib.hid hv
  have HF := Lib.hid hF
  have HK := Lib.hid hK
  have Hp := Lib.hid hp
  have Hok := Lib.hid hok
  clear h1 h2 h4 hv hF hK hp hok
  go_enter Try.func71, Try.ntmps71
  go_wp2
  go_loopw [17] (fun s17 wr => ∃ (i : Nat) (st : PairS), i ≤ script.length ∧ i ≤ 30 ∧ s17 = .int .i64 i ∧ okP (n0 + 64 * i) st ∧ Grows st0 st ∧ Out K0 w wr ∧ Pr wr (fun b => (K0 b ∨ w.heap.size ≤ b) ∧ b < wr.heap.size) (.pointer pm) (.pointer px) st) (fun s17 _ => script.length - (intOf s17).toNat)
  case atStart => exact ⟨0, st0, Nat.zero_le _, by omega, rfl, Hok.out.le (by omega), Grows.refl _, Out.refl _ _, Hp.out.mono fun b hb hk => ⟨.inl hk, hb⟩⟩
  case round =>
    obtain ⟨wo, rfl⟩ : ∃ x : World, x = wr := ⟨_, rfl⟩
    obtain ⟨i, st, hi, hi30, rfl, hok, hgr, ho, hp⟩ := hrel
    have HO := Lib.hid ho
    have HP := Lib.hid hp
    have HOk := Lib.hid hok
    have HG := Lib.hid hgr
    have hzo := ho.size
    clear hok hgr ho hp
    by_cases hlt : i < script.length
    rotate_left
    · obtain rfl : i = script.length := by omega
      go_wp2
      go_ret
      exact ⟨rfl, st, HOk.out.le (by omega), HG.out, HO.out, HP.out⟩
    obtain ⟨b, off, u, hh, rfl, -, c0, c1, c2, c3, hu, hhs⟩ := (Hv.out.out HO.out (fun b _ hb => HF.out b hb)).step i hlt
    obtain ⟨U, N, n, rfl⟩ := hu.form0
    obtain ⟨B, hc, rfl, hle, g2, g3, g4⟩ := hhs.form
    have g3 : script[i].hts.length ≤ 9223372036854775807 := g3
    generalize script[i] = s at *
    obtain ⟨alone, ops, seq, hts⟩ := s
    dsimp only at *
    have x1 := Ext.alloc1 wo (.cells #[.bool alone, .slice U N n, u64V seq, .slice B hts.length hc] 185)
    have hz := blk_new wo (.cells #[.bool alone, .slice U N n, u64V seq, .slice B hts.length hc] 185)
    obtain ⟨z0, z1, z2, z3, -⟩ := cells4 hz
    have HZ := Lib.hid hz
    have X1 := Lib.hid x1
    have Hu := Lib.hid (hu.ext x1)
    have Hh := Lib.hid hhs
    clear hu hhs x1 hz g2 g4
    by_cases h30 : i < 30
    rotate_left
    · obtain rfl : i = 30 := by omega
      have HX := Lib.hid (HO.out.ext X1.out)
      go_wp2
      go_ret
      exact ⟨rfl, st, HOk.out.le (by omega), HG.out, HX.out, (HP.out.ext X1.out).mono fun b hb hk => ⟨hk.1, hb⟩⟩
    clear hi30
    go_upto_region 7 with (first
      | (go_at_call 83; refine (r4_few _ ops Hu.out 66 (by decide)).mono ?_; rintro e w2 ⟨x2, rfl, hx2, hl2⟩; have HX2 := Lib.hid (X1.out.ext hx2); have HLl : Hid (((ops.take 66).map cutO).length ≤ 66) := Lib.hid (by rw [List.length_map, List.length_take]; omega); generalize (ops.take 66).map cutO = L at hl2 HLl; have HL2 := Lib.hid (hl2.sl (G := fun b => wo.heap.size + 1 ≤ b ∧ b < w2.heap.size) (by decide) (by have := HLl.out; show _ ≤ 140737488355328; omega) (fun b hb hlt => ⟨by simpa using hb, hlt⟩) (fun b hb hlt => ⟨by simpa using hb, hlt⟩)); have HZ2 := Lib.hid (hx2.blk HZ.out (fun f => f)); obtain ⟨y0, y1, y2, y3, yf⟩ := cells4 HZ2.out; obtain ⟨A2, m2, rfl, -⟩ := hl2.form; have hz2 := hx2.size; simp only [World.size_alloc] at hz2; clear hx2 hl2)
      | (go_at_call 133; refine (r4_copy _ L HL2.out (by have := HLl.out; omega)).mono ?_; rintro e w3 ⟨x3, rfl, hx3, hl3⟩; have HX3 := Lib.hid (HX2.out.ext hx3); have HM3 := Lib.hid hl3; have HL3 := Lib.hid (HL2.out.ext hx3); have HZ3 := Lib.hid (hx3.blk HZ2.out (fun f => f)); obtain ⟨q0, q1, q2, q3, qf⟩ := cells4 HZ3.out; obtain ⟨t0, t1, t2, t3, -⟩ := cells4 (blk_alloc HZ3.out (.cells #[] 3)); obtain ⟨A3, m3, rfl, -⟩ := hl3.form; have hz3 := hx3.size; clear hx3 hl3))
    obtain ⟨H, hH⟩ : ∃ H, hts.take 66 = H := ⟨_, rfl⟩
    have HH := Lib.hid hH
    have HHl : Hid (H.length ≤ 66) := Lib.hid (by rw [← hH, List.length_take]; omega)
    clear hH
    go_cut [11] (fun s11 wx => Ext w3 wx ∧ Sl intC wx (fun b => w3.heap.size ≤ b) s11 H)
    case first =>
      by_cases h66 : hts.length ≤ 66
      · have HT : Hid (Sl intC (w3.alloc (.cells #[] 3)) F (.slice B hts.length hc) H) := Lib.hid (by
          have := (Hh.out.takeI hts.length (Nat.le_refl _) (by omega)).ext ((HX3.out).ext (Ext.alloc1 _ (.cells #[] 3)))
          rw [List.take_of_length_le (Nat.le_refl _)] at this
          rw [← HH.out, List.take_of_length_le h66]; exact this)
        go_wp2_with (at_builtin; refine wpList_append_sl rfl (.tmp 29) (.tmp 36) 54 rfl fits54M (Own.empty intC 3 w3 (fun b => w3.heap.size ≤ b)) rfl (by simp) HT.out rfl (fun i hi cs hc => hc) (by have := HHl.out; simp; omega) (by decide) ?_; intro v' w4 g1 g2 g3; rw [List.nil_append] at g1; have G1 := Lib.hid g1; have G2 := Lib.hid g2; clear g1 g2 g3)
        go_meet
        exact ⟨(Ext.alloc1 _ _).then G2.out (fun b hb e => by simp [Value.ownBlock] at e; omega), G1.out.sl (by decide) (by have := HHl.out; show _ ≤ 140737488355328; omega) (fun b hb _ => hb) (fun b hb _ => hb)⟩
      · have HT : Hid (Sl intC (w3.alloc (.cells #[] 3)) F (.slice B 66 hc) H) := Lib.hid (by
          have := (Hh.out.takeI 66 (by omega) (by omega)).ext ((HX3.out).ext (Ext.alloc1 _ (.cells #[] 3)))
          rw [← HH.out]; exact this)
        go_wp2_with (at_builtin; refine wpList_append_sl rfl (.tmp 29) (.tmp 36) 54 rfl fits54M (Own.empty intC 3 w3 (fun b => w3.heap.size ≤ b)) rfl (by simp) HT.out rfl (fun i hi cs hc => hc) (by have := HHl.out; simp; omega) (by decide) ?_; intro v' w4 g1 g2 g3; rw [List.nil_append] at g1; have G1 := Lib.hid g1; have G2 := Lib.hid g2; clear g1 g2 g3)
        go_meet
        exact ⟨(Ext.alloc1 _ _).then G2.out (fun b hb e => by simp [Value.ownBlock] at e; omega), G1.out.sl (by decide) (by have := HHl.out; show _ ≤ 140737488355328; omega) (fun b hb _ => hb) (fun b hb _ => hb)⟩
    case rest =>
      obtain ⟨hx4, hh4⟩ := hcut
      obtain ⟨A4, c4, rfl, -⟩ := hh4.form
      have HX4 := Lib.hid (HX3.out.ext hx4)
      have HZ4 := Lib.hid (hx4.blk HZ3.out (fun f => f))
      obtain ⟨p0, p1, p2, p3, -⟩ := cells4 HZ4.out
      have HM4 : Hid (Own opC 112 wc w2.heap.size (fun b => w2.heap.size ≤ b ∧ b < w3.heap.size) (.slice A3 L.length m3) L) := Lib.hid ((HM3.out.mono fun b hb hlt => ⟨hb, hlt⟩).ext hx4)
      have HMo : Hid (∀ b, (Value.slice A3 L.length m3).ownBlock = some b → w2.heap.size ≤ b ∧ b < w3.heap.size) := Lib.hid HM3.out.lt
      have HMs4 : Hid (Sl opC wc (fun b => w2.heap.size ≤ b ∧ b < w3.heap.size) (.slice A3 L.length m3) L) := Lib.hid ((HM3.out.sl (G := fun b => w2.heap.size ≤ b ∧ b < w3.heap.size) (by decide) (by have := HLl.out; show _ ≤ 140737488355328; omega) (fun b hb hlt => ⟨hb, hlt⟩) (fun b hb hlt => ⟨hb, hlt⟩)).ext hx4)
      have HLs4 : Hid (Sl opC wc (fun b => wo.heap.size + 1 ≤ b ∧ b < w2.heap.size) (.slice A2 L.length m2) L) := Lib.hid (HL3.out.ext hx4)
      have HP4 : Hid (Pr wc (fun b => (K0 b ∨ w.heap.size ≤ b) ∧ b < wo.heap.size) (.pointer pm) (.pointer px) st) := Lib.hid (HP.out.ext HX4.out)
      have HHs := Lib.hid hh4
      have hz4 := hx4.size
      have HKw := Lib.hid HK.out
      clear hx4 hh4 HM3 HL2 HL3
      have hLl := HLl.out
      by_cases hA : alone = true
      · subst hA
        by_cases hL0 : 0 < L.length
        · by_cases hH0 : 0 < H.length
          · skip
            obtain ⟨b4, o4, hA4, -, g0⟩ := HHs.out.int 0 hH0
            subst hA4
            simp only [Nat.add_zero] at g0
            have hHp : (0 : Int) < H.length := by omega
            generalize hH0e : H[0]'hH0 = ht at *

            obtain ⟨b3, rc3, u3, v3, hA3, hb3a, hb3b, e0, e1, e2, hu3, hv3⟩ := HM4.out.opAt 0 hL0
            injection hA3 with hA3 hn3 hm3
            subst hm3
            clear hn3
            obtain ⟨b2, o2, u2, v2, hA2, hb2, d0, d1, d2, hu2, hv2⟩ := HLs4.out.op 0 hL0
            subst hA3 hA2
            have hb3 : w2.heap.size ≤ b3 ∧ b3 < w3.heap.size := HMo.out b3 rfl
            have hb2 : wo.heap.size + 1 ≤ b2 ∧ b2 < w2.heap.size := hb2
            obtain ⟨U3, N3, n3, rfl⟩ := hu3.form0
            obtain ⟨V3, M3, k3, rfl⟩ := hv3.form0
            obtain ⟨U2, N2, n2, rfl⟩ := hu2.form0
            obtain ⟨V2, M2, k2, rfl⟩ := hv2.form0
            simp only [Nat.zero_mul, Nat.add_zero, Nat.zero_add] at e0 e1 e2 d0 d1 d2
            generalize L[0]'hL0 = o0 at *
            have Hu3 := Lib.hid (hu3.mono (G := fun b => w2.heap.size ≤ b ∧ b < w3.heap.size) (fun b hb _ => hb.1) (.inl (by decide)))
            have Hv3 := Lib.hid (hv3.mono (G := fun b => w2.heap.size ≤ b ∧ b < w3.heap.size) (fun b hb _ => hb.1) (.inl (by decide)))
            have Hu2 := Lib.hid hu2
            have Hv2 := Lib.hid hv2
            have hLp : (0 : Int) < L.length := by omega
            have He := Lib.hid (And.intro e0 (And.intro e1 e2))
            have Hd := Lib.hid (And.intro d0 (And.intro d1 d2))
            have Hp2 := Lib.hid p2
            clear hu3 hv3 hu2 hv2
            go_wp2
            refine region_B 17 (fun w' => (w'.cell? ⟨b3, 0, none⟩ = some (byteV o0.kind) ∧ w'.cell? ⟨b3, 1, none⟩ = some (.slice U3 N3 n3) ∧ w'.cell? ⟨b3, 2, none⟩ = some (.slice V3 M3 k3)) ∧ (w'.cell? ⟨b2, o2, none⟩ = some (byteV o0.kind) ∧ w'.cell? ⟨b2, o2 + 1, none⟩ = some (.slice U2 N2 n2) ∧ w'.cell? ⟨b2, o2 + 2, none⟩ = some (.slice V2 M2 k2)) ∧ w'.cell? ⟨wo.heap.size, 2, none⟩ = some (u64V seq)) (by kernel_rfl) ?q71_12S (fun hHeld0 => ?_)
            case q71_12S => ((first | go_keep | ((try dsimp only); exact ⟨⟨by assumption, by assumption, by assumption⟩, ⟨by assumption, by assumption, by assumption⟩, by assumption⟩)))
            refine anyB_take (i := 0) (oi := _) (v := ?q71_12v1) rfl (by kernel_rfl) (by kernel_rfl) (by kernel_rfl) (by kernel_rfl) (fun _ _ _ h => h) (Or.inl ⟨by rfl, ?q71_12h1⟩) (by assumption) ?q71_12r1
            case q71_12h1 => (intro w hSw; (try dsimp only at hSw); go_simp; try with_reducible rfl)
            (try simp only [List.getElem_toArray, List.getElem_cons_succ, List.getElem_cons_zero, Act.put, List.setIfInBounds_toArray, List.set_cons_zero, List.set_cons_succ])
            refine anyB_take (i := 1) (oi := _) (v := ?q71_12v2) rfl (by kernel_rfl) (by kernel_rfl) (by kernel_rfl) (by kernel_rfl) (fun _ _ _ h => h) (Or.inl ⟨by rfl, ?q71_12h2⟩) (by assumption) ?q71_12r2
            case q71_12h2 => (intro w hSw; (try dsimp only at hSw); go_simp; try with_reducible rfl)
            (try simp only [List.getElem_toArray, List.getElem_cons_succ, List.getElem_cons_zero, Act.put, List.setIfInBounds_toArray, List.set_cons_zero, List.set_cons_succ])
            refine anyB_take (i := 2) (oi := _) (v := ?q71_12v3) rfl (by kernel_rfl) (by kernel_rfl) (by kernel_rfl) (by kernel_rfl) (fun _ _ _ h => h) (Or.inl ⟨by rfl, ?q71_12h3⟩) (by assumption) ?q71_12r3
            case q71_12h3 => (intro w hSw; (try dsimp only at hSw); go_simp; try with_reducible rfl)
            (try simp only [List.getElem_toArray, List.getElem_cons_succ, List.getElem_cons_zero, Act.put, List.setIfInBounds_toArray, List.set_cons_zero, List.set_cons_succ])
            refine anyB_take (i := 3) (oi := _) (v := ?q71_12v4) rfl (by kernel_rfl) (by kernel_rfl) (by kernel_rfl) (by kernel_rfl) (fun _ _ _ h => h) (Or.inl ⟨by rfl, ?q71_12h4⟩) (by assumption) ?q71_12r4
            case q71_12h4 => (intro w hSw; (try dsimp only at hSw); go_simp; try with_reducible rfl)
            (try simp only [List.getElem_toArray, List.getElem_cons_succ, List.getElem_cons_zero, Act.put, List.setIfInBounds_toArray, List.set_cons_zero, List.set_cons_succ])
            refine anyB_take (i := 4) (oi := _) (v := ?q71_12v5) rfl (by kernel_rfl) (by kernel_rfl) (by kernel_rfl) (by kernel_rfl) (fun _ _ _ h => h) (Or.inl ⟨by rfl, ?q71_12h5⟩) (by assumption) ?q71_12r5
            case q71_12h5 => (intro w hSw; (try dsimp only at hSw); go_simp; try with_reducible rfl)
            (try simp only [List.getElem_toArray, List.getElem_cons_succ, List.getElem_cons_zero, Act.put, List.setIfInBounds_toArray, List.set_cons_zero, List.set_cons_succ])
            refine anyB_take (i := 5) (oi := _) (v := ?q71_12v6) rfl (by kernel_rfl) (by kernel_rfl) (by kernel_rfl) (by kernel_rfl) (fun _ _ _ h => h) (Or.inl ⟨by rfl, ?q71_12h6⟩) (by assumption) ?q71_12r6
            case q71_12h6 => (intro w hSw; (try dsimp only at hSw); go_simp; try with_reducible rfl)
            (try simp only [List.getElem_toArray, List.getElem_cons_succ, List.getElem_cons_zero, Act.put, List.setIfInBounds_toArray, List.set_cons_zero, List.set_cons_succ])
            refine anyB_take (i := 6) (oi := _) (v := ?q71_12v7) rfl (by kernel_rfl) (by kernel_rfl) (by kernel_rfl) (by kernel_rfl) (fun _ _ _ h => h) (Or.inl ⟨by rfl, ?q71_12h7⟩) (by assumption) ?q71_12r7
            case q71_12h7 => (intro w hSw; (try dsimp only at hSw); go_simp; try with_reducible rfl)
            (try simp only [List.getElem_toArray, List.getElem_cons_succ, List.getElem_cons_zero, Act.put, List.setIfInBounds_toArray, List.set_cons_zero, List.set_cons_succ])
            refine anyB_take (i := 8) (oi := _) (v := ?q71_12v8) rfl (by kernel_rfl) (by kernel_rfl) (by kernel_rfl) (by kernel_rfl) (fun _ _ _ h => h) (Or.inl ⟨by rfl, ?q71_12h8⟩) (by assumption) ?q71_12r8
            case q71_12h8 => (intro w hSw; (try dsimp only at hSw); go_simp; try with_reducible rfl)
            (try simp only [List.getElem_toArray, List.getElem_cons_succ, List.getElem_cons_zero, Act.put, List.setIfInBounds_toArray, List.set_cons_zero, List.set_cons_succ])
            refine anyB_take (i := 9) (oi := _) (v := ?q71_12v9) rfl (by kernel_rfl) (by kernel_rfl) (by kernel_rfl) (by kernel_rfl) (fun _ _ _ h => h) (Or.inl ⟨by rfl, ?q71_12h9⟩) (by assumption) ?q71_12r9
            case q71_12h9 => (intro w hSw; (try dsimp only at hSw); go_simp; try with_reducible rfl)
            (try simp only [List.getElem_toArray, List.getElem_cons_succ, List.getElem_cons_zero, Act.put, List.setIfInBounds_toArray, List.set_cons_zero, List.set_cons_succ])
            refine anyB_take (i := 10) (oi := _) (v := ?q71_12v10) rfl (by kernel_rfl) (by kernel_rfl) (by kernel_rfl) (by kernel_rfl) (fun _ _ _ h => h) (Or.inl ⟨by rfl, ?q71_12h10⟩) (by assumption) ?q71_12r10
            case q71_12h10 => (intro w hSw; (try dsimp only at hSw); go_simp; try with_reducible rfl)
            (try simp only [List.getElem_toArray, List.getElem_cons_succ, List.getElem_cons_zero, Act.put, List.setIfInBounds_toArray, List.set_cons_zero, List.set_cons_succ])
            refine anyB_take (i := 11) (oi := _) (v := ?q71_12v11) rfl (by kernel_rfl) (by kernel_rfl) (by kernel_rfl) (by kernel_rfl) (fun _ _ _ h => h) (Or.inl ⟨by rfl, ?q71_12h11⟩) (by assumption) ?q71_12r11
            case q71_12h11 => (intro w hSw; (try dsimp only at hSw); go_simp; try with_reducible rfl)
            (try simp only [List.getElem_toArray, List.getElem_cons_succ, List.getElem_cons_zero, Act.put, List.setIfInBounds_toArray, List.set_cons_zero, List.set_cons_succ])
            refine anyB_take (i := 12) (oi := _) (v := ?q71_12v12) rfl (by kernel_rfl) (by kernel_rfl) (by kernel_rfl) (by kernel_rfl) (fun _ _ _ h => h) (Or.inl ⟨by rfl, ?q71_12h12⟩) (by assumption) ?q71_12r12
            case q71_12h12 => (intro w hSw; (try dsimp only at hSw); go_simp; try with_reducible rfl)
            (try simp only [List.getElem_toArray, List.getElem_cons_succ, List.getElem_cons_zero, Act.put, List.setIfInBounds_toArray, List.set_cons_zero, List.set_cons_succ])
            refine anyB_take (i := 13) (oi := _) (v := ?q71_12v13) rfl (by kernel_rfl) (by kernel_rfl) (by kernel_rfl) (by kernel_rfl) (fun _ _ _ h => h) (Or.inl ⟨by rfl, ?q71_12h13⟩) (by assumption) ?q71_12r13
            case q71_12h13 => (intro w hSw; (try dsimp only at hSw); go_simp; try with_reducible rfl)
            (try simp only [List.getElem_toArray, List.getElem_cons_succ, List.getElem_cons_zero, Act.put, List.setIfInBounds_toArray, List.set_cons_zero, List.set_cons_succ])
            refine anyB_take (i := 14) (oi := _) (v := ?q71_12v14) rfl (by kernel_rfl) (by kernel_rfl) (by kernel_rfl) (by kernel_rfl) (fun _ _ _ h => h) (Or.inl ⟨by rfl, ?q71_12h14⟩) (by assumption) ?q71_12r14
            case q71_12h14 => (intro w hSw; (try dsimp only at hSw); go_simp; try with_reducible rfl)
            (try simp only [List.getElem_toArray, List.getElem_cons_succ, List.getElem_cons_zero, Act.put, List.setIfInBounds_toArray, List.set_cons_zero, List.set_cons_succ])
            refine anyB_step (i := 7) (o := _) (by kernel_rfl) (by rfl) (by (simp only [List.getElem?_toArray, List.getElem?_cons_succ, List.getElem?_cons_zero] <;> rfl)) (fun K hK => ?_)
            go_simp; go_at_call 86; refine (pr_do (HP4.out.ext (Out.refl _ _).drew) HOk.out (by omega) o0 (G := fun b => w2.heap.size ≤ b ∧ b < w3.heap.size) (fun b hb => by show b < wc.heap.size; omega) (Hu3.out.drew) (Hv3.out.drew) seq.toNat ht).mono ?_; rintro r w5 ⟨rfl, ho5, hmid⟩; have Hmid := Lib.hid hmid; have k0 := ho5.cell (show wc.drew.cell? _ = _ from He.out.1) (fun h => by have h1 : b3 < wo.heap.size := h.2; omega); have k1 := ho5.cell (show wc.drew.cell? _ = _ from He.out.2.1) (fun h => by have h1 : b3 < wo.heap.size := h.2; omega); have k2 := ho5.cell (show wc.drew.cell? _ = _ from He.out.2.2) (fun h => by have h1 : b3 < wo.heap.size := h.2; omega); have j0 := ho5.cell (show wc.drew.cell? _ = _ from Hd.out.1) (fun h => by have h1 : b2 < wo.heap.size := h.2; omega); have j1 := ho5.cell (show wc.drew.cell? _ = _ from Hd.out.2.1) (fun h => by have h1 : b2 < wo.heap.size := h.2; omega); have j2 := ho5.cell (show wc.drew.cell? _ = _ from Hd.out.2.2) (fun h => by have h1 : b2 < wo.heap.size := h.2; omega); have i2 := ho5.cell (show wc.drew.cell? _ = _ from Hp2.out) (fun h => by have h1 : wo.heap.size < wo.heap.size := h.2; omega); clear hmid
            (try dsimp only)
            refine hK.out _ _ ?q71_12S15 (fun hHeld1 => ?_)
            case q71_12S15 => ((first | go_keep | ((try dsimp only); exact ⟨⟨by assumption, by assumption, by assumption⟩, ⟨by assumption, by assumption, by assumption⟩, by assumption⟩)))
            clear hK K hHeld0
            (try simp only [List.getElem_toArray, List.getElem_cons_succ, List.getElem_cons_zero, Act.put, List.setIfInBounds_toArray, List.set_cons_zero, List.set_cons_succ])
            refine anyB_step (i := 15) (o := _) (by kernel_rfl) (by rfl) (by (simp only [List.getElem?_toArray, List.getElem?_cons_succ, List.getElem?_cons_zero] <;> rfl)) (fun K hK => ?_)
            go_simp; go_at_call 134; refine (Hmid.out _ _ _ (fun b => wo.heap.size + 1 ≤ b ∧ b < w2.heap.size) (Out.refl _ _) (Hu2.out.drew.out ho5 (fun b _ hb h => by omega)) (Hv2.out.drew.out ho5 (fun b _ hb h => by omega))).mono ?_; rintro r w6 ⟨rfl, ho6, hp6⟩; have l0 := ho6.cell k0 (fun h => by have h1 : b3 < wo.heap.size := h.2; omega); have l1 := ho6.cell k1 (fun h => by have h1 : b3 < wo.heap.size := h.2; omega); have l2 := ho6.cell k2 (fun h => by have h1 : b3 < wo.heap.size := h.2; omega); have h0' := ho6.cell j0 (fun h => by have h1 : b2 < wo.heap.size := h.2; omega); have h1' := ho6.cell j1 (fun h => by have h1 : b2 < wo.heap.size := h.2; omega); have h2' := ho6.cell j2 (fun h => by have h1 : b2 < wo.heap.size := h.2; omega); have i3 := ho6.cell i2 (fun h => by have h1 : wo.heap.size < wo.heap.size := h.2; omega)
            (try dsimp only)
            refine hK.out _ _ ?q71_12S16 (fun hHeld2 => ?_)
            case q71_12S16 => ((first | go_keep | ((try dsimp only); exact ⟨⟨by assumption, by assumption, by assumption⟩, ⟨by assumption, by assumption, by assumption⟩, by assumption⟩)))
            clear hK K hHeld1
            (try simp only [List.getElem_toArray, List.getElem_cons_succ, List.getElem_cons_zero, Act.put, List.setIfInBounds_toArray, List.set_cons_zero, List.set_cons_succ])
            refine anyB_take (i := 16) (oi := _) (v := ?q71_12v17) rfl (by kernel_rfl) (by kernel_rfl) (by kernel_rfl) (by kernel_rfl) (fun _ _ _ h => h) (Or.inl ⟨by rfl, ?q71_12h17⟩) (by assumption) ?q71_12r17
            case q71_12h17 => (intro w hSw; (try dsimp only at hSw); go_simp; try with_reducible rfl)
            (try simp only [List.getElem_toArray, List.getElem_cons_succ, List.getElem_cons_zero, Act.put, List.setIfInBounds_toArray, List.set_cons_zero, List.set_cons_succ])
            refine anyB_done (by kernel_rfl) ?_ _
            skip
            have HOk6 := Lib.hid (((ok_do (o := o0) (q := seq.toNat) (ht := ht) HOk.out).1).le (k := n0 + 64 * i + 64) (by omega))
            have HG6 := Lib.hid (HG.out.trans (ok_do (o := o0) (q := seq.toNat) (ht := ht) HOk.out).2 HOk.out)

            have HOa := Lib.hid HO.out
            have hz5 := ho5.size
            have hz6 := ho6.size
            simp only [World.size_drew] at hz5
            have HO6 : Hid (Out K0 w w6) := Lib.hid (((((HO.out.ext HX4.out).drew).then ho5 (fun b hb h => h.1.resolve_right (by omega))).then ho6 (fun b hb h => h.1.resolve_right (by omega))))
            have HM6 : Hid (Own opC 112 w6 w2.heap.size (fun b => w2.heap.size ≤ b ∧ b < w3.heap.size) (.slice (some ⟨b3, 0, none⟩) L.length m3) L) := Lib.hid (((HM4.out.ext (Out.refl _ _).drew).frame ho5 (fun b _ hb1 hb2 h => by have := HMo.out b hb2; omega) (fun b _ hb _ h => by omega)).frame ho6 (fun b _ hb1 hb2 h => by have := HMo.out b hb2; omega) (fun b _ hb _ h => by omega))
            have HMs6 : Hid (Sl opC w6 (fun b => w2.heap.size ≤ b ∧ b < w3.heap.size) (.slice (some ⟨b3, 0, none⟩) L.length m3) L) := Lib.hid (((HMs4.out.drew).out ho5 (fun b _ hb h => by omega)).out ho6 (fun b _ hb h => by omega))
            have HLs6 : Hid (Sl opC w6 (fun b => wo.heap.size + 1 ≤ b ∧ b < w2.heap.size) (.slice (some ⟨b2, o2, none⟩) L.length m2) L) := Lib.hid (((HLs4.out.drew).out ho5 (fun b _ hb h => by omega)).out ho6 (fun b _ hb h => by omega))
            have HP6 := Lib.hid hp6
            clear hp6 ho5 ho6

            go_wp2_with (go_at_call 136; refine (r4_sameEq _ L HMs6.out HLs6.out).mono ?_; rintro r w7 ⟨rfl, hx7⟩; have HX7 := Lib.hid hx7; have HM7 := Lib.hid (HM6.out.ext hx7); clear hx7)
            go_loopw [87] (fun s87 wq => ∃ (k : Nat) (l' : List OpE), k ≤ L.length ∧ s87 = .int .i64 k ∧ l'.length = L.length ∧ Own opC 112 wq w2.heap.size (fun b => w2.heap.size ≤ b ∧ b < w3.heap.size) (.slice (some ⟨b3, 0, none⟩) L.length m3) l' ∧ Out (fun b => w2.heap.size ≤ b ∧ b < w3.heap.size) w7 wq) (fun s87 _ => L.length - (intOf s87).toNat)
            case atStart => exact ⟨0, L, Nat.zero_le _, rfl, rfl, HM7.out, Out.refl _ _⟩
            case round =>
              obtain ⟨wq, rfl⟩ : ∃ x : World, x = wr := ⟨_, rfl⟩
              obtain ⟨k, l', hk, rfl, hl', hownq, hoq⟩ := hrel
              have HOq := Lib.hid hoq
              have HOwq := Lib.hid hownq
              have Hl' := Lib.hid hl'
              clear hoq hownq hl'
              by_cases hltk : k < L.length
              · obtain ⟨R, rc, ux, uy, hv, hR1, hR2, f0, f1, f2, hbu, hbv⟩ := HOwq.out.opAt k (by rw [Hl'.out]; exact hltk)
                injection hv with hX hn hrc
                clear hn
                subst hrc
                injection hX with hX
                injection hX with hX1 _
                subst hX1
                obtain ⟨V, vc, rfl, -, -, hub, -⟩ := hbv.form
                have hub' : (l'[k]'(by rw [Hl'.out]; exact hltk)).val.length ≤ 140737488355328 := hub
                generalize hnk : (l'[k]'(by rw [Hl'.out]; exact hltk)).val.length = nk at *
                have Hnk := Lib.hid hnk
                clear hbu hbv hnk hub
                go_wp2
                go_loopw [96] (fun s96 wq => ∃ (j : Nat) (l'' : List OpE), j ≤ nk ∧ s96 = .int .i64 j ∧ (∃ h : l''.length = L.length, (l''[k]'(by omega)).val.length = nk) ∧ Own opC 112 wq w2.heap.size (fun b => w2.heap.size ≤ b ∧ b < w3.heap.size) (.slice (some ⟨b3, 0, none⟩) L.length m3) l'' ∧ Out (fun b => w2.heap.size ≤ b ∧ b < w3.heap.size) w7 wq) (fun s96 _ => nk - (intOf s96).toNat)
                case atStart => exact ⟨0, l', Nat.zero_le _, rfl, ⟨Hl'.out, Hnk.out⟩, HOwq.out, HOq.out⟩
                case round =>
                  obtain ⟨wp, rfl⟩ : ∃ x : World, x = wr := ⟨_, rfl⟩
                  obtain ⟨j, l'', hj, rfl, ⟨hl2, hn2⟩, hownp, hop⟩ := hrel
                  have HOp := Lib.hid hop
                  have HOwp := Lib.hid hownp
                  have Hl2'' := Lib.hid hl2
                  have Hn2 : Hid (∀ h, (l''[k]'h).val.length = nk) := Lib.hid fun _ => hn2
                  clear hop hownp hl2 hn2
                  by_cases hltj : j < nk
                  · have hkl : k < l''.length := by rw [Hl2''.out]; exact hltk
                    obtain ⟨R', rc', vx, vy, hv, -, -, p0, p1, p2, hbu, hbv⟩ := HOwp.out.opAt k hkl
                    injection hv with hX hn hrc
                    clear hn hrc
                    injection hX with hX
                    injection hX with hX _
                    subst hX
                    obtain ⟨U', un', uc', rfl⟩ := hbv.form0
                    have hun : un' = nk := by obtain ⟨_, _, e, -⟩ := hbv.form; injection e with _ e _; rw [e, Hn2.out]
                    subst hun
                    obtain ⟨b3, o3, cs3, hU, hF3, hat, hr3⟩ := Sl.get hbv j (by rw [Hn2.out]; exact hltj)
                    have hr3' : cs3 = [byteV ((l''[k]'hkl).val[j]'(by rw [Hn2.out]; exact hltj))] := hr3
                    subst hU hr3'
                    have hc3 := hat.cell 0 _ rfl
                    have hf3 := hat.free 0 (by simp)
                    simp only [byteC, Nat.mul_one, Nat.add_zero] at hc3 hf3
                    generalize ((l''[k]'hkl).val[j]'(by rw [Hn2.out]; exact hltj)) = by3 at *
                    have hfl := flip_u8 by3
                    have Hpk := Lib.hid (HOwp.out.pokeO hc3 (fun e => hF3.2 (by injection e with e; exact e.symm)) (by3 ^^^ 1))
                    have Hset : Hid (Out (fun b => w2.heap.size ≤ b ∧ b < w3.heap.size) w7 (wp.setCell ⟨b3, o3 + j, none⟩ (byteV (by3 ^^^ 1)))) := Lib.hid (HOp.out.setCell (p := ⟨b3, o3 + j, none⟩) (fun _ => hF3.1) _)
                    clear hbu hbv hat
                    go_wp2
                    go_roundw
                    case rel =>
                      obtain ⟨m', hm1, hm2, hm3'⟩ := Hpk.out
                      exact ⟨j + 1, m', by omega, by go_num, ⟨by rw [hm1, Hl2''.out], by rw [hm2 k hkl (by rw [hm1]; exact hkl), Hn2.out]⟩, hm3', Hset.out⟩
                    case measure => simp [intOf]; omega
                  · go_wp2
                    go_roundw
                    case rel => exact ⟨k + 1, l'', by omega, by go_num, Hl2''.out, HOwp.out, HOp.out⟩
                    case measure => simp [intOf]; omega
              · go_wp2
                go_roundw
                case rel =>
                  have hz6 := HO6.out.size
                  have hz7 := HX7.out.size
                  exact ⟨i + 1, _, by omega, by omega, by go_num, HOk6.out.le (by omega), HG6.out, (HO6.out.ext HX7.out).then HOq.out (fun b hb h => by have h1 : w2.heap.size ≤ b := h.1; omega), ((HP6.out.ext HX7.out).frame HOq.out (fun b _ hb h => hb.1.elim (fun h1 => by have h2 : b < wo.heap.size := h1.2; have h3 : w2.heap.size ≤ b := h.1; omega) (fun h1 => by have h2 : wc.heap.size ≤ b := h1; have h3 : b < w3.heap.size := h.2; omega))).mono fun b hb hk => ⟨hk.1.elim (fun h1 => h1.1) (fun h1 => .inr (by have h2 : wc.heap.size ≤ b := h1; omega)), hb⟩⟩
                case measure => simp [intOf]; omega
          · have hH1 : H.length = 0 := by omega
            have hHn : ¬ (0 : Int) < H.length := by omega
            clear hH0 hH1
            obtain ⟨b3, rc3, u3, v3, hA3, hb3a, hb3b, e0, e1, e2, hu3, hv3⟩ := HM4.out.opAt 0 hL0
            injection hA3 with hA3 hn3 hm3
            subst hm3
            clear hn3
            obtain ⟨b2, o2, u2, v2, hA2, hb2, d0, d1, d2, hu2, hv2⟩ := HLs4.out.op 0 hL0
            subst hA3 hA2
            have hb3 : w2.heap.size ≤ b3 ∧ b3 < w3.heap.size := HMo.out b3 rfl
            have hb2 : wo.heap.size + 1 ≤ b2 ∧ b2 < w2.heap.size := hb2
            obtain ⟨U3, N3, n3, rfl⟩ := hu3.form0
            obtain ⟨V3, M3, k3, rfl⟩ := hv3.form0
            obtain ⟨U2, N2, n2, rfl⟩ := hu2.form0
            obtain ⟨V2, M2, k2, rfl⟩ := hv2.form0
            simp only [Nat.zero_mul, Nat.add_zero, Nat.zero_add] at e0 e1 e2 d0 d1 d2
            generalize L[0]'hL0 = o0 at *
            have Hu3 := Lib.hid (hu3.mono (G := fun b => w2.heap.size ≤ b ∧ b < w3.heap.size) (fun b hb _ => hb.1) (.inl (by decide)))
            have Hv3 := Lib.hid (hv3.mono (G := fun b => w2.heap.size ≤ b ∧ b < w3.heap.size) (fun b hb _ => hb.1) (.inl (by decide)))
            have Hu2 := Lib.hid hu2
            have Hv2 := Lib.hid hv2
            have hLp : (0 : Int) < L.length := by omega
            have He := Lib.hid (And.intro e0 (And.intro e1 e2))
            have Hd := Lib.hid (And.intro d0 (And.intro d1 d2))
            have Hp2 := Lib.hid p2
            clear hu3 hv3 hu2 hv2
            go_wp2
            refine region_B 17 (fun w' => (w'.cell? ⟨b3, 0, none⟩ = some (byteV o0.kind) ∧ w'.cell? ⟨b3, 1, none⟩ = some (.slice U3 N3 n3) ∧ w'.cell? ⟨b3, 2, none⟩ = some (.slice V3 M3 k3)) ∧ (w'.cell? ⟨b2, o2, none⟩ = some (byteV o0.kind) ∧ w'.cell? ⟨b2, o2 + 1, none⟩ = some (.slice U2 N2 n2) ∧ w'.cell? ⟨b2, o2 + 2, none⟩ = some (.slice V2 M2 k2)) ∧ w'.cell? ⟨wo.heap.size, 2, none⟩ = some (u64V seq)) (by kernel_rfl) ?q71_12b1S (fun hHeld0 => ?_)
            case q71_12b1S => ((first | go_keep | ((try dsimp only); exact ⟨⟨by assumption, by assumption, by assumption⟩, ⟨by assumption, by assumption, by assumption⟩, by assumption⟩)))
            refine anyB_take (i := 0) (oi := _) (v := ?q71_12b1v1) rfl (by kernel_rfl) (by kernel_rfl) (by kernel_rfl) (by kernel_rfl) (fun _ _ _ h => h) (Or.inl ⟨by rfl, ?q71_12b1h1⟩) (by assumption) ?q71_12b1r1
            case q71_12b1h1 => (intro w hSw; (try dsimp only at hSw); go_simp; try with_reducible rfl)
            (try simp only [List.getElem_toArray, List.getElem_cons_succ, List.getElem_cons_zero, Act.put, List.setIfInBounds_toArray, List.set_cons_zero, List.set_cons_succ])
            refine anyB_take (i := 1) (oi := _) (v := ?q71_12b1v2) rfl (by kernel_rfl) (by kernel_rfl) (by kernel_rfl) (by kernel_rfl) (fun _ _ _ h => h) (Or.inl ⟨by rfl, ?q71_12b1h2⟩) (by assumption) ?q71_12b1r2
            case q71_12b1h2 => (intro w hSw; (try dsimp only at hSw); go_simp; try with_reducible rfl)
            (try simp only [List.getElem_toArray, List.getElem_cons_succ, List.getElem_cons_zero, Act.put, List.setIfInBounds_toArray, List.set_cons_zero, List.set_cons_succ])
            refine anyB_take (i := 2) (oi := _) (v := ?q71_12b1v3) rfl (by kernel_rfl) (by kernel_rfl) (by kernel_rfl) (by kernel_rfl) (fun _ _ _ h => h) (Or.inl ⟨by rfl, ?q71_12b1h3⟩) (by assumption) ?q71_12b1r3
            case q71_12b1h3 => (intro w hSw; (try dsimp only at hSw); go_simp; try with_reducible rfl)
            (try simp only [List.getElem_toArray, List.getElem_cons_succ, List.getElem_cons_zero, Act.put, List.setIfInBounds_toArray, List.set_cons_zero, List.set_cons_succ])
            refine anyB_take (i := 3) (oi := _) (v := ?q71_12b1v4) rfl (by kernel_rfl) (by kernel_rfl) (by kernel_rfl) (by kernel_rfl) (fun _ _ _ h => h) (Or.inl ⟨by rfl, ?q71_12b1h4⟩) (by assumption) ?q71_12b1r4
            case q71_12b1h4 => (intro w hSw; (try dsimp only at hSw); go_simp; try with_reducible rfl)
            (try simp only [List.getElem_toArray, List.getElem_cons_succ, List.getElem_cons_zero, Act.put, List.setIfInBounds_toArray, List.set_cons_zero, List.set_cons_succ])
            refine anyB_take (i := 4) (oi := _) (v := ?q71_12b1v5) rfl (by kernel_rfl) (by kernel_rfl) (by kernel_rfl) (by kernel_rfl) (fun _ _ _ h => h) (Or.inl ⟨by rfl, ?q71_12b1h5⟩) (by assumption) ?q71_12b1r5
            case q71_12b1h5 => (intro w hSw; (try dsimp only at hSw); go_simp; try with_reducible rfl)
            (try simp only [List.getElem_toArray, List.getElem_cons_succ, List.getElem_cons_zero, Act.put, List.setIfInBounds_toArray, List.set_cons_zero, List.set_cons_succ])
            refine anyB_take (i := 5) (oi := _) (v := ?q71_12b1v6) rfl (by kernel_rfl) (by kernel_rfl) (by kernel_rfl) (by kernel_rfl) (fun _ _ _ h => h) (Or.inl ⟨by rfl, ?q71_12b1h6⟩) (by assumption) ?q71_12b1r6
            case q71_12b1h6 => (intro w hSw; (try dsimp only at hSw); go_simp; try with_reducible rfl)
            (try simp only [List.getElem_toArray, List.getElem_cons_succ, List.getElem_cons_zero, Act.put, List.setIfInBounds_toArray, List.set_cons_zero, List.set_cons_succ])
            refine anyB_take (i := 6) (oi := _) (v := ?q71_12b1v7) rfl (by kernel_rfl) (by kernel_rfl) (by kernel_rfl) (by kernel_rfl) (fun _ _ _ h => h) (Or.inl ⟨by rfl, ?q71_12b1h7⟩) (by assumption) ?q71_12b1r7
            case q71_12b1h7 => (intro w hSw; (try dsimp only at hSw); go_simp; try with_reducible rfl)
            (try simp only [List.getElem_toArray, List.getElem_cons_succ, List.getElem_cons_zero, Act.put, List.setIfInBounds_toArray, List.set_cons_zero, List.set_cons_succ])
            refine anyB_take (i := 8) (oi := _) (v := ?q71_12b1v8) rfl (by kernel_rfl) (by kernel_rfl) (by kernel_rfl) (by kernel_rfl) (fun _ _ _ h => h) (Or.inl ⟨by rfl, ?q71_12b1h8⟩) (by assumption) ?q71_12b1r8
            case q71_12b1h8 => (intro w hSw; (try dsimp only at hSw); go_simp; try with_reducible rfl)
            (try simp only [List.getElem_toArray, List.getElem_cons_succ, List.getElem_cons_zero, Act.put, List.setIfInBounds_toArray, List.set_cons_zero, List.set_cons_succ])
            refine anyB_take (i := 9) (oi := _) (v := ?q71_12b1v9) rfl (by kernel_rfl) (by kernel_rfl) (by kernel_rfl) (by kernel_rfl) (fun _ _ _ h => h) (Or.inl ⟨by rfl, ?q71_12b1h9⟩) (by assumption) ?q71_12b1r9
            case q71_12b1h9 => (intro w hSw; (try dsimp only at hSw); go_simp; try with_reducible rfl)
            (try simp only [List.getElem_toArray, List.getElem_cons_succ, List.getElem_cons_zero, Act.put, List.setIfInBounds_toArray, List.set_cons_zero, List.set_cons_succ])
            refine anyB_take (i := 10) (oi := _) (v := ?q71_12b1v10) rfl (by kernel_rfl) (by kernel_rfl) (by kernel_rfl) (by kernel_rfl) (fun _ _ _ h => h) (Or.inl ⟨by rfl, ?q71_12b1h10⟩) (by assumption) ?q71_12b1r10
            case q71_12b1h10 => (intro w hSw; (try dsimp only at hSw); go_simp; try with_reducible rfl)
            (try simp only [List.getElem_toArray, List.getElem_cons_succ, List.getElem_cons_zero, Act.put, List.setIfInBounds_toArray, List.set_cons_zero, List.set_cons_succ])
            refine anyB_take (i := 11) (oi := _) (v := ?q71_12b1v11) rfl (by kernel_rfl) (by kernel_rfl) (by kernel_rfl) (by kernel_rfl) (fun _ _ _ h => h) (Or.inl ⟨by rfl, ?q71_12b1h11⟩) (by assumption) ?q71_12b1r11
            case q71_12b1h11 => (intro w hSw; (try dsimp only at hSw); go_simp; try with_reducible rfl)
            (try simp only [List.getElem_toArray, List.getElem_cons_succ, List.getElem_cons_zero, Act.put, List.setIfInBounds_toArray, List.set_cons_zero, List.set_cons_succ])
            refine anyB_take (i := 12) (oi := _) (v := ?q71_12b1v12) rfl (by kernel_rfl) (by kernel_rfl) (by kernel_rfl) (by kernel_rfl) (fun _ _ _ h => h) (Or.inl ⟨by rfl, ?q71_12b1h12⟩) (by assumption) ?q71_12b1r12
            case q71_12b1h12 => (intro w hSw; (try dsimp only at hSw); go_simp; try with_reducible rfl)
            (try simp only [List.getElem_toArray, List.getElem_cons_succ, List.getElem_cons_zero, Act.put, List.setIfInBounds_toArray, List.set_cons_zero, List.set_cons_succ])
            refine anyB_take (i := 13) (oi := _) (v := ?q71_12b1v13) rfl (by kernel_rfl) (by kernel_rfl) (by kernel_rfl) (by kernel_rfl) (fun _ _ _ h => h) (Or.inl ⟨by rfl, ?q71_12b1h13⟩) (by assumption) ?q71_12b1r13
            case q71_12b1h13 => (intro w hSw; (try dsimp only at hSw); go_simp; try with_reducible rfl)
            (try simp only [List.getElem_toArray, List.getElem_cons_succ, List.getElem_cons_zero, Act.put, List.setIfInBounds_toArray, List.set_cons_zero, List.set_cons_succ])
            refine anyB_take (i := 14) (oi := _) (v := ?q71_12b1v14) rfl (by kernel_rfl) (by kernel_rfl) (by kernel_rfl) (by kernel_rfl) (fun _ _ _ h => h) (Or.inl ⟨by rfl, ?q71_12b1h14⟩) (by assumption) ?q71_12b1r14
            case q71_12b1h14 => (intro w hSw; (try dsimp only at hSw); go_simp; try with_reducible rfl)
            (try simp only [List.getElem_toArray, List.getElem_cons_succ, List.getElem_cons_zero, Act.put, List.setIfInBounds_toArray, List.set_cons_zero, List.set_cons_succ])
            refine anyB_step (i := 7) (o := _) (by kernel_rfl) (by rfl) (by (simp only [List.getElem?_toArray, List.getElem?_cons_succ, List.getElem?_cons_zero] <;> rfl)) (fun K hK => ?_)
            go_simp; go_at_call 86; refine (pr_do (HP4.out.ext (Out.refl _ _).drew) HOk.out (by omega) o0 (G := fun b => w2.heap.size ≤ b ∧ b < w3.heap.size) (fun b hb => by show b < wc.heap.size; omega) (Hu3.out.drew) (Hv3.out.drew) seq.toNat 1).mono ?_; rintro r w5 ⟨rfl, ho5, hmid⟩; have Hmid := Lib.hid hmid; have k0 := ho5.cell (show wc.drew.cell? _ = _ from He.out.1) (fun h => by have h1 : b3 < wo.heap.size := h.2; omega); have k1 := ho5.cell (show wc.drew.cell? _ = _ from He.out.2.1) (fun h => by have h1 : b3 < wo.heap.size := h.2; omega); have k2 := ho5.cell (show wc.drew.cell? _ = _ from He.out.2.2) (fun h => by have h1 : b3 < wo.heap.size := h.2; omega); have j0 := ho5.cell (show wc.drew.cell? _ = _ from Hd.out.1) (fun h => by have h1 : b2 < wo.heap.size := h.2; omega); have j1 := ho5.cell (show wc.drew.cell? _ = _ from Hd.out.2.1) (fun h => by have h1 : b2 < wo.heap.size := h.2; omega); have j2 := ho5.cell (show wc.drew.cell? _ = _ from Hd.out.2.2) (fun h => by have h1 : b2 < wo.heap.size := h.2; omega); have i2 := ho5.cell (show wc.drew.cell? _ = _ from Hp2.out) (fun h => by have h1 : wo.heap.size < wo.heap.size := h.2; omega); clear hmid
            (try dsimp only)
            refine hK.out _ _ ?q71_12b1S15 (fun hHeld1 => ?_)
            case q71_12b1S15 => ((first | go_keep | ((try dsimp only); exact ⟨⟨by assumption, by assumption, by assumption⟩, ⟨by assumption, by assumption, by assumption⟩, by assumption⟩)))
            clear hK K hHeld0
            (try simp only [List.getElem_toArray, List.getElem_cons_succ, List.getElem_cons_zero, Act.put, List.setIfInBounds_toArray, List.set_cons_zero, List.set_cons_succ])
            refine anyB_step (i := 15) (o := _) (by kernel_rfl) (by rfl) (by (simp only [List.getElem?_toArray, List.getElem?_cons_succ, List.getElem?_cons_zero] <;> rfl)) (fun K hK => ?_)
            go_simp; go_at_call 134; refine (Hmid.out _ _ _ (fun b => wo.heap.size + 1 ≤ b ∧ b < w2.heap.size) (Out.refl _ _) (Hu2.out.drew.out ho5 (fun b _ hb h => by omega)) (Hv2.out.drew.out ho5 (fun b _ hb h => by omega))).mono ?_; rintro r w6 ⟨rfl, ho6, hp6⟩; have l0 := ho6.cell k0 (fun h => by have h1 : b3 < wo.heap.size := h.2; omega); have l1 := ho6.cell k1 (fun h => by have h1 : b3 < wo.heap.size := h.2; omega); have l2 := ho6.cell k2 (fun h => by have h1 : b3 < wo.heap.size := h.2; omega); have h0' := ho6.cell j0 (fun h => by have h1 : b2 < wo.heap.size := h.2; omega); have h1' := ho6.cell j1 (fun h => by have h1 : b2 < wo.heap.size := h.2; omega); have h2' := ho6.cell j2 (fun h => by have h1 : b2 < wo.heap.size := h.2; omega); have i3 := ho6.cell i2 (fun h => by have h1 : wo.heap.size < wo.heap.size := h.2; omega)
            (try dsimp only)
            refine hK.out _ _ ?q71_12b1S16 (fun hHeld2 => ?_)
            case q71_12b1S16 => ((first | go_keep | ((try dsimp only); exact ⟨⟨by assumption, by assumption, by assumption⟩, ⟨by assumption, by assumption, by assumption⟩, by assumption⟩)))
            clear hK K hHeld1
            (try simp only [List.getElem_toArray, List.getElem_cons_succ, List.getElem_cons_zero, Act.put, List.setIfInBounds_toArray, List.set_cons_zero, List.set_cons_succ])
            refine anyB_take (i := 16) (oi := _) (v := ?q71_12b1v17) rfl (by kernel_rfl) (by kernel_rfl) (by kernel_rfl) (by kernel_rfl) (fun _ _ _ h => h) (Or.inl ⟨by rfl, ?q71_12b1h17⟩) (by assumption) ?q71_12b1r17
            case q71_12b1h17 => (intro w hSw; (try dsimp only at hSw); go_simp; try with_reducible rfl)
            (try simp only [List.getElem_toArray, List.getElem_cons_succ, List.getElem_cons_zero, Act.put, List.setIfInBounds_toArray, List.set_cons_zero, List.set_cons_succ])
            refine anyB_done (by kernel_rfl) ?_ _
            skip
            have HOk6 := Lib.hid (((ok_do (o := o0) (q := seq.toNat) (ht := 1) HOk.out).1).le (k := n0 + 64 * i + 64) (by omega))
            have HG6 := Lib.hid (HG.out.trans (ok_do (o := o0) (q := seq.toNat) (ht := 1) HOk.out).2 HOk.out)

            have HOa := Lib.hid HO.out
            have hz5 := ho5.size
            have hz6 := ho6.size
            simp only [World.size_drew] at hz5
            have HO6 : Hid (Out K0 w w6) := Lib.hid (((((HO.out.ext HX4.out).drew).then ho5 (fun b hb h => h.1.resolve_right (by omega))).then ho6 (fun b hb h => h.1.resolve_right (by omega))))
            have HM6 : Hid (Own opC 112 w6 w2.heap.size (fun b => w2.heap.size ≤ b ∧ b < w3.heap.size) (.slice (some ⟨b3, 0, none⟩) L.length m3) L) := Lib.hid (((HM4.out.ext (Out.refl _ _).drew).frame ho5 (fun b _ hb1 hb2 h => by have := HMo.out b hb2; omega) (fun b _ hb _ h => by omega)).frame ho6 (fun b _ hb1 hb2 h => by have := HMo.out b hb2; omega) (fun b _ hb _ h => by omega))
            have HMs6 : Hid (Sl opC w6 (fun b => w2.heap.size ≤ b ∧ b < w3.heap.size) (.slice (some ⟨b3, 0, none⟩) L.length m3) L) := Lib.hid (((HMs4.out.drew).out ho5 (fun b _ hb h => by omega)).out ho6 (fun b _ hb h => by omega))
            have HLs6 : Hid (Sl opC w6 (fun b => wo.heap.size + 1 ≤ b ∧ b < w2.heap.size) (.slice (some ⟨b2, o2, none⟩) L.length m2) L) := Lib.hid (((HLs4.out.drew).out ho5 (fun b _ hb h => by omega)).out ho6 (fun b _ hb h => by omega))
            have HP6 := Lib.hid hp6
            clear hp6 ho5 ho6

            go_wp2_with (go_at_call 136; refine (r4_sameEq _ L HMs6.out HLs6.out).mono ?_; rintro r w7 ⟨rfl, hx7⟩; have HX7 := Lib.hid hx7; have HM7 := Lib.hid (HM6.out.ext hx7); clear hx7)
            go_loopw [87] (fun s87 wq => ∃ (k : Nat) (l' : List OpE), k ≤ L.length ∧ s87 = .int .i64 k ∧ l'.length = L.length ∧ Own opC 112 wq w2.heap.size (fun b => w2.heap.size ≤ b ∧ b < w3.heap.size) (.slice (some ⟨b3, 0, none⟩) L.length m3) l' ∧ Out (fun b => w2.heap.size ≤ b ∧ b < w3.heap.size) w7 wq) (fun s87 _ => L.length - (intOf s87).toNat)
            case atStart => exact ⟨0, L, Nat.zero_le _, rfl, rfl, HM7.out, Out.refl _ _⟩
            case round =>
              obtain ⟨wq, rfl⟩ : ∃ x : World, x = wr := ⟨_, rfl⟩
              obtain ⟨k, l', hk, rfl, hl', hownq, hoq⟩ := hrel
              have HOq := Lib.hid hoq
              have HOwq := Lib.hid hownq
              have Hl' := Lib.hid hl'
              clear hoq hownq hl'
              by_cases hltk : k < L.length
              · obtain ⟨R, rc, ux, uy, hv, hR1, hR2, f0, f1, f2, hbu, hbv⟩ := HOwq.out.opAt k (by rw [Hl'.out]; exact hltk)
                injection hv with hX hn hrc
                clear hn
                subst hrc
                injection hX with hX
                injection hX with hX1 _
                subst hX1
                obtain ⟨V, vc, rfl, -, -, hub, -⟩ := hbv.form
                have hub' : (l'[k]'(by rw [Hl'.out]; exact hltk)).val.length ≤ 140737488355328 := hub
                generalize hnk : (l'[k]'(by rw [Hl'.out]; exact hltk)).val.length = nk at *
                have Hnk := Lib.hid hnk
                clear hbu hbv hnk hub
                go_wp2
                go_loopw [96] (fun s96 wq => ∃ (j : Nat) (l'' : List OpE), j ≤ nk ∧ s96 = .int .i64 j ∧ (∃ h : l''.length = L.length, (l''[k]'(by omega)).val.length = nk) ∧ Own opC 112 wq w2.heap.size (fun b => w2.heap.size ≤ b ∧ b < w3.heap.size) (.slice (some ⟨b3, 0, none⟩) L.length m3) l'' ∧ Out (fun b => w2.heap.size ≤ b ∧ b < w3.heap.size) w7 wq) (fun s96 _ => nk - (intOf s96).toNat)
                case atStart => exact ⟨0, l', Nat.zero_le _, rfl, ⟨Hl'.out, Hnk.out⟩, HOwq.out, HOq.out⟩
                case round =>
                  obtain ⟨wp, rfl⟩ : ∃ x : World, x = wr := ⟨_, rfl⟩
                  obtain ⟨j, l'', hj, rfl, ⟨hl2, hn2⟩, hownp, hop⟩ := hrel
                  have HOp := Lib.hid hop
                  have HOwp := Lib.hid hownp
                  have Hl2'' := Lib.hid hl2
                  have Hn2 : Hid (∀ h, (l''[k]'h).val.length = nk) := Lib.hid fun _ => hn2
                  clear hop hownp hl2 hn2
                  by_cases hltj : j < nk
                  · have hkl : k < l''.length := by rw [Hl2''.out]; exact hltk
                    obtain ⟨R', rc', vx, vy, hv, -, -, p0, p1, p2, hbu, hbv⟩ := HOwp.out.opAt k hkl
                    injection hv with hX hn hrc
                    clear hn hrc
                    injection hX with hX
                    injection hX with hX _
                    subst hX
                    obtain ⟨U', un', uc', rfl⟩ := hbv.form0
                    have hun : un' = nk := by obtain ⟨_, _, e, -⟩ := hbv.form; injection e with _ e _; rw [e, Hn2.out]
                    subst hun
                    obtain ⟨b3, o3, cs3, hU, hF3, hat, hr3⟩ := Sl.get hbv j (by rw [Hn2.out]; exact hltj)
                    have hr3' : cs3 = [byteV ((l''[k]'hkl).val[j]'(by rw [Hn2.out]; exact hltj))] := hr3
                    subst hU hr3'
                    have hc3 := hat.cell 0 _ rfl
                    have hf3 := hat.free 0 (by simp)
                    simp only [byteC, Nat.mul_one, Nat.add_zero] at hc3 hf3
                    generalize ((l''[k]'hkl).val[j]'(by rw [Hn2.out]; exact hltj)) = by3 at *
                    have hfl := flip_u8 by3
                    have Hpk := Lib.hid (HOwp.out.pokeO hc3 (fun e => hF3.2 (by injection e with e; exact e.symm)) (by3 ^^^ 1))
                    have Hset : Hid (Out (fun b => w2.heap.size ≤ b ∧ b < w3.heap.size) w7 (wp.setCell ⟨b3, o3 + j, none⟩ (byteV (by3 ^^^ 1)))) := Lib.hid (HOp.out.setCell (p := ⟨b3, o3 + j, none⟩) (fun _ => hF3.1) _)
                    clear hbu hbv hat
                    go_wp2
                    go_roundw
                    case rel =>
                      obtain ⟨m', hm1, hm2, hm3'⟩ := Hpk.out
                      exact ⟨j + 1, m', by omega, by go_num, ⟨by rw [hm1, Hl2''.out], by rw [hm2 k hkl (by rw [hm1]; exact hkl), Hn2.out]⟩, hm3', Hset.out⟩
                    case measure => simp [intOf]; omega
                  · go_wp2
                    go_roundw
                    case rel => exact ⟨k + 1, l'', by omega, by go_num, Hl2''.out, HOwp.out, HOp.out⟩
                    case measure => simp [intOf]; omega
              · go_wp2
                go_roundw
                case rel =>
                  have hz6 := HO6.out.size
                  have hz7 := HX7.out.size
                  exact ⟨i + 1, _, by omega, by omega, by go_num, HOk6.out.le (by omega), HG6.out, (HO6.out.ext HX7.out).then HOq.out (fun b hb h => by have h1 : w2.heap.size ≤ b := h.1; omega), ((HP6.out.ext HX7.out).frame HOq.out (fun b _ hb h => hb.1.elim (fun h1 => by have h2 : b < wo.heap.size := h1.2; have h3 : w2.heap.size ≤ b := h.1; omega) (fun h1 => by have h2 : wc.heap.size ≤ b := h1; have h3 : b < w3.heap.size := h.2; omega))).mono fun b hb hk => ⟨hk.1.elim (fun h1 => h1.1) (fun h1 => .inr (by have h2 : wc.heap.size ≤ b := h1; omega)), hb⟩⟩
                case measure => simp [intOf]; omega
        · have hL1 : L.length = 0 := by omega
          have hLn : ¬ (0 : Int) < L.length := by omega
          clear hL0 hL1
          have HB := Lib.hid (pr_bat (HP4.out.ext (Out.refl _ _).drew) HOk.out (by omega) L H (G := fun b => w2.heap.size ≤ b ∧ b < w3.heap.size) (H := fun b => w3.heap.size ≤ b ∧ b < wc.heap.size) HMs4.out.drew ((HHs.out.mono (fun b hb hlt => ⟨hb, hlt⟩) (.inl (by decide))).drew) (fun b hb => by show b < wc.heap.size; omega) (fun b hb h => by omega) (fun b hb h => by omega) seq.toNat)
          have HHq := Lib.hid (HHs.out.mono (G := fun b => w3.heap.size ≤ b ∧ b < wc.heap.size) (fun b hb hlt => ⟨hb, hlt⟩) (.inl (by decide)))
          have Hp2 := Lib.hid p2
          go_wp2
          refine region_B 13 (fun w' => w'.cell? ⟨wo.heap.size, 2, none⟩ = some (u64V seq)) (by kernel_rfl) ?q71_14S (fun hHeld0 => ?_)
          case q71_14S => ((first | go_keep | ((try dsimp only); assumption)))
          refine anyB_take (i := 0) (oi := _) (v := ?q71_14v1) rfl (by kernel_rfl) (by kernel_rfl) (by kernel_rfl) (by kernel_rfl) (fun _ _ _ h => h) (Or.inl ⟨by rfl, ?q71_14h1⟩) (by assumption) ?q71_14r1
          case q71_14h1 => (intro w hSw; (try dsimp only at hSw); go_simp; try with_reducible rfl)
          (try simp only [List.getElem_toArray, List.getElem_cons_succ, List.getElem_cons_zero, Act.put, List.setIfInBounds_toArray, List.set_cons_zero, List.set_cons_succ])
          refine anyB_take (i := 1) (oi := _) (v := ?q71_14v2) rfl (by kernel_rfl) (by kernel_rfl) (by kernel_rfl) (by kernel_rfl) (fun _ _ _ h => h) (Or.inl ⟨by rfl, ?q71_14h2⟩) (by assumption) ?q71_14r2
          case q71_14h2 => (intro w hSw; (try dsimp only at hSw); go_simp; try with_reducible rfl)
          (try simp only [List.getElem_toArray, List.getElem_cons_succ, List.getElem_cons_zero, Act.put, List.setIfInBounds_toArray, List.set_cons_zero, List.set_cons_succ])
          refine anyB_take (i := 2) (oi := _) (v := ?q71_14v3) rfl (by kernel_rfl) (by kernel_rfl) (by kernel_rfl) (by kernel_rfl) (fun _ _ _ h => h) (Or.inl ⟨by rfl, ?q71_14h3⟩) (by assumption) ?q71_14r3
          case q71_14h3 => (intro w hSw; (try dsimp only at hSw); go_simp; try with_reducible rfl)
          (try simp only [List.getElem_toArray, List.getElem_cons_succ, List.getElem_cons_zero, Act.put, List.setIfInBounds_toArray, List.set_cons_zero, List.set_cons_succ])
          refine anyB_take (i := 3) (oi := _) (v := ?q71_14v4) rfl (by kernel_rfl) (by kernel_rfl) (by kernel_rfl) (by kernel_rfl) (fun _ _ _ h => h) (Or.inl ⟨by rfl, ?q71_14h4⟩) (by assumption) ?q71_14r4
          case q71_14h4 => (intro w hSw; (try dsimp only at hSw); go_simp; try with_reducible rfl)
          (try simp only [List.getElem_toArray, List.getElem_cons_succ, List.getElem_cons_zero, Act.put, List.setIfInBounds_toArray, List.set_cons_zero, List.set_cons_succ])
          refine anyB_take (i := 4) (oi := _) (v := ?q71_14v5) rfl (by kernel_rfl) (by kernel_rfl) (by kernel_rfl) (by kernel_rfl) (fun _ _ _ h => h) (Or.inl ⟨by rfl, ?q71_14h5⟩) (by assumption) ?q71_14r5
          case q71_14h5 => (intro w hSw; (try dsimp only at hSw); go_simp; try with_reducible rfl)
          (try simp only [List.getElem_toArray, List.getElem_cons_succ, List.getElem_cons_zero, Act.put, List.setIfInBounds_toArray, List.set_cons_zero, List.set_cons_succ])
          refine anyB_take (i := 6) (oi := _) (v := ?q71_14v6) rfl (by kernel_rfl) (by kernel_rfl) (by kernel_rfl) (by kernel_rfl) (fun _ _ _ h => h) (Or.inl ⟨by rfl, ?q71_14h6⟩) (by assumption) ?q71_14r6
          case q71_14h6 => (intro w hSw; (try dsimp only at hSw); go_simp; try with_reducible rfl)
          (try simp only [List.getElem_toArray, List.getElem_cons_succ, List.getElem_cons_zero, Act.put, List.setIfInBounds_toArray, List.set_cons_zero, List.set_cons_succ])
          refine anyB_take (i := 7) (oi := _) (v := ?q71_14v7) rfl (by kernel_rfl) (by kernel_rfl) (by kernel_rfl) (by kernel_rfl) (fun _ _ _ h => h) (Or.inl ⟨by rfl, ?q71_14h7⟩) (by assumption) ?q71_14r7
          case q71_14h7 => (intro w hSw; (try dsimp only at hSw); go_simp; try with_reducible rfl)
          (try simp only [List.getElem_toArray, List.getElem_cons_succ, List.getElem_cons_zero, Act.put, List.setIfInBounds_toArray, List.set_cons_zero, List.set_cons_succ])
          refine anyB_take (i := 8) (oi := _) (v := ?q71_14v8) rfl (by kernel_rfl) (by kernel_rfl) (by kernel_rfl) (by kernel_rfl) (fun _ _ _ h => h) (Or.inl ⟨by rfl, ?q71_14h8⟩) (by assumption) ?q71_14r8
          case q71_14h8 => (intro w hSw; (try dsimp only at hSw); go_simp; try with_reducible rfl)
          (try simp only [List.getElem_toArray, List.getElem_cons_succ, List.getElem_cons_zero, Act.put, List.setIfInBounds_toArray, List.set_cons_zero, List.set_cons_succ])
          refine anyB_take (i := 9) (oi := _) (v := ?q71_14v9) rfl (by kernel_rfl) (by kernel_rfl) (by kernel_rfl) (by kernel_rfl) (fun _ _ _ h => h) (Or.inl ⟨by rfl, ?q71_14h9⟩) (by assumption) ?q71_14r9
          case q71_14h9 => (intro w hSw; (try dsimp only at hSw); go_simp; try with_reducible rfl)
          (try simp only [List.getElem_toArray, List.getElem_cons_succ, List.getElem_cons_zero, Act.put, List.setIfInBounds_toArray, List.set_cons_zero, List.set_cons_succ])
          refine anyB_take (i := 10) (oi := _) (v := ?q71_14v10) rfl (by kernel_rfl) (by kernel_rfl) (by kernel_rfl) (by kernel_rfl) (fun _ _ _ h => h) (Or.inl ⟨by rfl, ?q71_14h10⟩) (by assumption) ?q71_14r10
          case q71_14h10 => (intro w hSw; (try dsimp only at hSw); go_simp; try with_reducible rfl)
          (try simp only [List.getElem_toArray, List.getElem_cons_succ, List.getElem_cons_zero, Act.put, List.setIfInBounds_toArray, List.set_cons_zero, List.set_cons_succ])
          refine anyB_step (i := 5) (o := _) (by kernel_rfl) (by rfl) (by (simp only [List.getElem?_toArray, List.getElem?_cons_succ, List.getElem?_cons_zero] <;> rfl)) (fun K hK => ?_)
          go_simp; go_at_call 87; refine HB.out.mono ?_; rintro r w5 ⟨rfl, ho5, hmid⟩; have Hmid := Lib.hid hmid; have i2 := ho5.cell (show wc.drew.cell? _ = _ from Hp2.out) (fun h => by have h1 : wo.heap.size < wo.heap.size := h.2; omega); clear hmid
          (try dsimp only)
          refine hK.out _ _ ?q71_14S11 (fun hHeld1 => ?_)
          case q71_14S11 => ((first | go_keep | ((try dsimp only); assumption)))
          clear hK K hHeld0
          (try simp only [List.getElem_toArray, List.getElem_cons_succ, List.getElem_cons_zero, Act.put, List.setIfInBounds_toArray, List.set_cons_zero, List.set_cons_succ])
          refine anyB_step (i := 11) (o := _) (by kernel_rfl) (by rfl) (by (simp only [List.getElem?_toArray, List.getElem?_cons_succ, List.getElem?_cons_zero] <;> rfl)) (fun K hK => ?_)
          go_simp; go_at_call 135; refine (Hmid.out _ _ _ (fun b => wo.heap.size + 1 ≤ b ∧ b < w2.heap.size) _ (Out.refl _ _) (HLs4.out.drew.out ho5 (fun b _ hb h => by omega)) (HHq.out.drew.out ho5 (fun b _ hb h => by omega)) (fun b hb h => by omega)).mono ?_; rintro r w6 ⟨rfl, ho6, hp6⟩; have i3 := ho6.cell i2 (fun h => by have h1 : wo.heap.size < wo.heap.size := h.2; omega)
          (try dsimp only)
          refine hK.out _ _ ?q71_14S12 (fun hHeld2 => ?_)
          case q71_14S12 => ((first | go_keep | ((try dsimp only); assumption)))
          clear hK K hHeld1
          (try simp only [List.getElem_toArray, List.getElem_cons_succ, List.getElem_cons_zero, Act.put, List.setIfInBounds_toArray, List.set_cons_zero, List.set_cons_succ])
          refine anyB_take (i := 12) (oi := _) (v := ?q71_14v13) rfl (by kernel_rfl) (by kernel_rfl) (by kernel_rfl) (by kernel_rfl) (fun _ _ _ h => h) (Or.inl ⟨by rfl, ?q71_14h13⟩) (by assumption) ?q71_14r13
          case q71_14h13 => (intro w hSw; (try dsimp only at hSw); go_simp; try with_reducible rfl)
          (try simp only [List.getElem_toArray, List.getElem_cons_succ, List.getElem_cons_zero, Act.put, List.setIfInBounds_toArray, List.set_cons_zero, List.set_cons_succ])
          refine anyB_done (by kernel_rfl) ?_ _
          skip
          have HOk6 := Lib.hid (ok_bat (l := L) (q := seq.toNat) (hs := H) HOk.out).1
          have HG6 := Lib.hid (HG.out.trans (ok_bat (l := L) (q := seq.toNat) (hs := H) HOk.out).2 HOk.out)

          have HOa := Lib.hid HO.out
          have hz5 := ho5.size
          have hz6 := ho6.size
          simp only [World.size_drew] at hz5
          have HO6 : Hid (Out K0 w w6) := Lib.hid (((((HO.out.ext HX4.out).drew).then ho5 (fun b hb h => h.1.resolve_right (by omega))).then ho6 (fun b hb h => h.1.resolve_right (by omega))))
          have HM6 : Hid (Own opC 112 w6 w2.heap.size (fun b => w2.heap.size ≤ b ∧ b < w3.heap.size) (.slice A3 L.length m3) L) := Lib.hid (((HM4.out.ext (Out.refl _ _).drew).frame ho5 (fun b _ hb1 hb2 h => by have := HMo.out b hb2; omega) (fun b _ hb _ h => by omega)).frame ho6 (fun b _ hb1 hb2 h => by have := HMo.out b hb2; omega) (fun b _ hb _ h => by omega))
          have HMs6 : Hid (Sl opC w6 (fun b => w2.heap.size ≤ b ∧ b < w3.heap.size) (.slice A3 L.length m3) L) := Lib.hid (((HMs4.out.drew).out ho5 (fun b _ hb h => by omega)).out ho6 (fun b _ hb h => by omega))
          have HLs6 : Hid (Sl opC w6 (fun b => wo.heap.size + 1 ≤ b ∧ b < w2.heap.size) (.slice A2 L.length m2) L) := Lib.hid (((HLs4.out.drew).out ho5 (fun b _ hb h => by omega)).out ho6 (fun b _ hb h => by omega))
          have HP6 := Lib.hid hp6
          clear hp6 ho5 ho6

          go_wp2_with (go_at_call 136; refine (r4_sameEq _ L HMs6.out HLs6.out).mono ?_; rintro r w7 ⟨rfl, hx7⟩; have HX7 := Lib.hid hx7; have HM7 := Lib.hid (HM6.out.ext hx7); clear hx7)
          go_loopw [87] (fun s87 wq => ∃ (k : Nat) (l' : List OpE), k ≤ L.length ∧ s87 = .int .i64 k ∧ l'.length = L.length ∧ Own opC 112 wq w2.heap.size (fun b => w2.heap.size ≤ b ∧ b < w3.heap.size) (.slice A3 L.length m3) l' ∧ Out (fun b => w2.heap.size ≤ b ∧ b < w3.heap.size) w7 wq) (fun s87 _ => L.length - (intOf s87).toNat)
          case atStart => exact ⟨0, L, Nat.zero_le _, rfl, rfl, HM7.out, Out.refl _ _⟩
          case round =>
            obtain ⟨wq, rfl⟩ : ∃ x : World, x = wr := ⟨_, rfl⟩
            obtain ⟨k, l', hk, rfl, hl', hownq, hoq⟩ := hrel
            have HOq := Lib.hid hoq
            have HOwq := Lib.hid hownq
            have Hl' := Lib.hid hl'
            clear hoq hownq hl'
            by_cases hltk : k < L.length
            · exfalso; omega
            · go_wp2
              go_roundw
              case rel =>
                have hz6 := HO6.out.size
                have hz7 := HX7.out.size
                exact ⟨i + 1, _, by omega, by omega, by go_num, HOk6.out.le (by omega), HG6.out, (HO6.out.ext HX7.out).then HOq.out (fun b hb h => by have h1 : w2.heap.size ≤ b := h.1; omega), ((HP6.out.ext HX7.out).frame HOq.out (fun b _ hb h => hb.1.elim (fun h1 => by have h2 : b < wo.heap.size := h1.2; have h3 : w2.heap.size ≤ b := h.1; omega) (fun h1 => by have h2 : wc.heap.size ≤ b := h1; have h3 : b < w3.heap.size := h.2; omega))).mono fun b hb hk => ⟨hk.1.elim (fun h1 => h1.1) (fun h1 => .inr (by have h2 : wc.heap.size ≤ b := h1; omega)), hb⟩⟩
              case measure => simp [intOf]; omega
      · have hA : alone = false := by simpa using hA
        subst hA
        have HB := Lib.hid (pr_bat (HP4.out.ext (Out.refl _ _).drew) HOk.out (by omega) L H (G := fun b => w2.heap.size ≤ b ∧ b < w3.heap.size) (H := fun b => w3.heap.size ≤ b ∧ b < wc.heap.size) HMs4.out.drew ((HHs.out.mono (fun b hb hlt => ⟨hb, hlt⟩) (.inl (by decide))).drew) (fun b hb => by show b < wc.heap.size; omega) (fun b hb h => by omega) (fun b hb h => by omega) seq.toNat)
        have HHq := Lib.hid (HHs.out.mono (G := fun b => w3.heap.size ≤ b ∧ b < wc.heap.size) (fun b hb hlt => ⟨hb, hlt⟩) (.inl (by decide)))
        have Hp2 := Lib.hid p2
        go_wp2
        refine region_B 13 (fun w' => w'.cell? ⟨wo.heap.size, 2, none⟩ = some (u64V seq)) (by kernel_rfl) ?q71_14b1S (fun hHeld0 => ?_)
        case q71_14b1S => ((first | go_keep | ((try dsimp only); assumption)))
        refine anyB_take (i := 0) (oi := _) (v := ?q71_14b1v1) rfl (by kernel_rfl) (by kernel_rfl) (by kernel_rfl) (by kernel_rfl) (fun _ _ _ h => h) (Or.inl ⟨by rfl, ?q71_14b1h1⟩) (by assumption) ?q71_14b1r1
        case q71_14b1h1 => (intro w hSw; (try dsimp only at hSw); go_simp; try with_reducible rfl)
        (try simp only [List.getElem_toArray, List.getElem_cons_succ, List.getElem_cons_zero, Act.put, List.setIfInBounds_toArray, List.set_cons_zero, List.set_cons_succ])
        refine anyB_take (i := 1) (oi := _) (v := ?q71_14b1v2) rfl (by kernel_rfl) (by kernel_rfl) (by kernel_rfl) (by kernel_rfl) (fun _ _ _ h => h) (Or.inl ⟨by rfl, ?q71_14b1h2⟩) (by assumption) ?q71_14b1r2
        case q71_14b1h2 => (intro w hSw; (try dsimp only at hSw); go_simp; try with_reducible rfl)
        (try simp only [List.getElem_toArray, List.getElem_cons_succ, List.getElem_cons_zero, Act.put, List.setIfInBounds_toArray, List.set_cons_zero, List.set_cons_succ])
        refine anyB_take (i := 2) (oi := _) (v := ?q71_14b1v3) rfl (by kernel_rfl) (by kernel_rfl) (by kernel_rfl) (by kernel_rfl) (fun _ _ _ h => h) (Or.inl ⟨by rfl, ?q71_14b1h3⟩) (by assumption) ?q71_14b1r3
        case q71_14b1h3 => (intro w hSw; (try dsimp only at hSw); go_simp; try with_reducible rfl)
        (try simp only [List.getElem_toArray, List.getElem_cons_succ, List.getElem_cons_zero, Act.put, List.setIfInBounds_toArray, List.set_cons_zero, List.set_cons_succ])
        refine anyB_take (i := 3) (oi := _) (v := ?q71_14b1v4) rfl (by kernel_rfl) (by kernel_rfl) (by kernel_rfl) (by kernel_rfl) (fun _ _ _ h => h) (Or.inl ⟨by rfl, ?q71_14b1h4⟩) (by assumption) ?q71_14b1r4
        case q71_14b1h4 => (intro w hSw; (try dsimp only at hSw); go_simp; try with_reducible rfl)
        (try simp only [List.getElem_toArray, List.getElem_cons_succ, List.getElem_cons_zero, Act.put, List.setIfInBounds_toArray, List.set_cons_zero, List.set_cons_succ])
        refine anyB_take (i := 4) (oi := _) (v := ?q71_14b1v5) rfl (by kernel_rfl) (by kernel_rfl) (by kernel_rfl) (by kernel_rfl) (fun _ _ _ h => h) (Or.inl ⟨by rfl, ?q71_14b1h5⟩) (by assumption) ?q71_14b1r5
        case q71_14b1h5 => (intro w hSw; (try dsimp only at hSw); go_simp; try with_reducible rfl)
        (try simp only [List.getElem_toArray, List.getElem_cons_succ, List.getElem_cons_zero, Act.put, List.setIfInBounds_toArray, List.set_cons_zero, List.set_cons_succ])
        refine anyB_take (i := 6) (oi := _) (v := ?q71_14b1v6) rfl (by kernel_rfl) (by kernel_rfl) (by kernel_rfl) (by kernel_rfl) (fun _ _ _ h => h) (Or.inl ⟨by rfl, ?q71_14b1h6⟩) (by assumption) ?q71_14b1r6
        case q71_14b1h6 => (intro w hSw; (try dsimp only at hSw); go_simp; try with_reducible rfl)
        (try simp only [List.getElem_toArray, List.getElem_cons_succ, List.getElem_cons_zero, Act.put, List.setIfInBounds_toArray, List.set_cons_zero, List.set_cons_succ])
        refine anyB_take (i := 7) (oi := _) (v := ?q71_14b1v7) rfl (by kernel_rfl) (by kernel_rfl) (by kernel_rfl) (by kernel_rfl) (fun _ _ _ h => h) (Or.inl ⟨by rfl, ?q71_14b1h7⟩) (by assumption) ?q71_14b1r7
        case q71_14b1h7 => (intro w hSw; (try dsimp only at hSw); go_simp; try with_reducible rfl)
        (try simp only [List.getElem_toArray, List.getElem_cons_succ, List.getElem_cons_zero, Act.put, List.setIfInBounds_toArray, List.set_cons_zero, List.set_cons_succ])
        refine anyB_take (i := 8) (oi := _) (v := ?q71_14b1v8) rfl (by kernel_rfl) (by kernel_rfl) (by kernel_rfl) (by kernel_rfl) (fun _ _ _ h => h) (Or.inl ⟨by rfl, ?q71_14b1h8⟩) (by assumption) ?q71_14b1r8
        case q71_14b1h8 => (intro w hSw; (try dsimp only at hSw); go_simp; try with_reducible rfl)
        (try simp only [List.getElem_toArray, List.getElem_cons_succ, List.getElem_cons_zero, Act.put, List.setIfInBounds_toArray, List.set_cons_zero, List.set_cons_succ])
        refine anyB_take (i := 9) (oi := _) (v := ?q71_14b1v9) rfl (by kernel_rfl) (by kernel_rfl) (by kernel_rfl) (by kernel_rfl) (fun _ _ _ h => h) (Or.inl ⟨by rfl, ?q71_14b1h9⟩) (by assumption) ?q71_14b1r9
        case q71_14b1h9 => (intro w hSw; (try dsimp only at hSw); go_simp; try with_reducible rfl)
        (try simp only [List.getElem_toArray, List.getElem_cons_succ, List.getElem_cons_zero, Act.put, List.setIfInBounds_toArray, List.set_cons_zero, List.set_cons_succ])
        refine anyB_take (i := 10) (oi := _) (v := ?q71_14b1v10) rfl (by kernel_rfl) (by kernel_rfl) (by kernel_rfl) (by kernel_rfl) (fun _ _ _ h => h) (Or.inl ⟨by rfl, ?q71_14b1h10⟩) (by assumption) ?q71_14b1r10
        case q71_14b1h10 => (intro w hSw; (try dsimp only at hSw); go_simp; try with_reducible rfl)
        (try simp only [List.getElem_toArray, List.getElem_cons_succ, List.getElem_cons_zero, Act.put, List.setIfInBounds_toArray, List.set_cons_zero, List.set_cons_succ])
        refine anyB_step (i := 5) (o := _) (by kernel_rfl) (by rfl) (by (simp only [List.getElem?_toArray, List.getElem?_cons_succ, List.getElem?_cons_zero] <;> rfl)) (fun K hK => ?_)
        go_simp; go_at_call 87; refine HB.out.mono ?_; rintro r w5 ⟨rfl, ho5, hmid⟩; have Hmid := Lib.hid hmid; have i2 := ho5.cell (show wc.drew.cell? _ = _ from Hp2.out) (fun h => by have h1 : wo.heap.size < wo.heap.size := h.2; omega); clear hmid
        (try dsimp only)
        refine hK.out _ _ ?q71_14b1S11 (fun hHeld1 => ?_)
        case q71_14b1S11 => ((first | go_keep | ((try dsimp only); assumption)))
        clear hK K hHeld0
        (try simp only [List.getElem_toArray, List.getElem_cons_succ, List.getElem_cons_zero, Act.put, List.setIfInBounds_toArray, List.set_cons_zero, List.set_cons_succ])
        refine anyB_step (i := 11) (o := _) (by kernel_rfl) (by rfl) (by (simp only [List.getElem?_toArray, List.getElem?_cons_succ, List.getElem?_cons_zero] <;> rfl)) (fun K hK => ?_)
        go_simp; go_at_call 135; refine (Hmid.out _ _ _ (fun b => wo.heap.size + 1 ≤ b ∧ b < w2.heap.size) _ (Out.refl _ _) (HLs4.out.drew.out ho5 (fun b _ hb h => by omega)) (HHq.out.drew.out ho5 (fun b _ hb h => by omega)) (fun b hb h => by omega)).mono ?_; rintro r w6 ⟨rfl, ho6, hp6⟩; have i3 := ho6.cell i2 (fun h => by have h1 : wo.heap.size < wo.heap.size := h.2; omega)
        (try dsimp only)
        refine hK.out _ _ ?q71_14b1S12 (fun hHeld2 => ?_)
        case q71_14b1S12 => ((first | go_keep | ((try dsimp only); assumption)))
        clear hK K hHeld1
        (try simp only [List.getElem_toArray, List.getElem_cons_succ, List.getElem_cons_zero, Act.put, List.setIfInBounds_toArray, List.set_cons_zero, List.set_cons_succ])
        refine anyB_take (i := 12) (oi := _) (v := ?q71_14b1v13) rfl (by kernel_rfl) (by kernel_rfl) (by kernel_rfl) (by kernel_rfl) (fun _ _ _ h => h) (Or.inl ⟨by rfl, ?q71_14b1h13⟩) (by assumption) ?q71_14b1r13
        case q71_14b1h13 => (intro w hSw; (try dsimp only at hSw); go_simp; try with_reducible rfl)
        (try simp only [List.getElem_toArray, List.getElem_cons_succ, List.getElem_cons_zero, Act.put, List.setIfInBounds_toArray, List.set_cons_zero, List.set_cons_succ])
        refine anyB_done (by kernel_rfl) ?_ _
        skip
        have HOk6 := Lib.hid (ok_bat (l := L) (q := seq.toNat) (hs := H) HOk.out).1
        have HG6 := Lib.hid (HG.out.trans (ok_bat (l := L) (q := seq.toNat) (hs := H) HOk.out).2 HOk.out)

        have HOa := Lib.hid HO.out
        have hz5 := ho5.size
        have hz6 := ho6.size
        simp only [World.size_drew] at hz5
        have HO6 : Hid (Out K0 w w6) := Lib.hid (((((HO.out.ext HX4.out).drew).then ho5 (fun b hb h => h.1.resolve_right (by omega))).then ho6 (fun b hb h => h.1.resolve_right (by omega))))
        have HM6 : Hid (Own opC 112 w6 w2.heap.size (fun b => w2.heap.size ≤ b ∧ b < w3.heap.size) (.slice A3 L.length m3) L) := Lib.hid (((HM4.out.ext (Out.refl _ _).drew).frame ho5 (fun b _ hb1 hb2 h => by have := HMo.out b hb2; omega) (fun b _ hb _ h => by omega)).frame ho6 (fun b _ hb1 hb2 h => by have := HMo.out b hb2; omega) (fun b _ hb _ h => by omega))
        have HMs6 : Hid (Sl opC w6 (fun b => w2.heap.size ≤ b ∧ b < w3.heap.size) (.slice A3 L.length m3) L) := Lib.hid (((HMs4.out.drew).out ho5 (fun b _ hb h => by omega)).out ho6 (fun b _ hb h => by omega))
        have HLs6 : Hid (Sl opC w6 (fun b => wo.heap.size + 1 ≤ b ∧ b < w2.heap.size) (.slice A2 L.length m2) L) := Lib.hid (((HLs4.out.drew).out ho5 (fun b _ hb h => by omega)).out ho6 (fun b _ hb h => by omega))
        have HP6 := Lib.hid hp6
        clear hp6 ho5 ho6

        go_wp2_with (go_at_call 136; refine (r4_sameEq _ L HMs6.out HLs6.out).mono ?_; rintro r w7 ⟨rfl, hx7⟩; have HX7 := Lib.hid hx7; have HM7 := Lib.hid (HM6.out.ext hx7); clear hx7)
        go_loopw [87] (fun s87 wq => ∃ (k : Nat) (l' : List OpE), k ≤ L.length ∧ s87 = .int .i64 k ∧ l'.length = L.length ∧ Own opC 112 wq w2.heap.size (fun b => w2.heap.size ≤ b ∧ b < w3.heap.size) (.slice A3 L.length m3) l' ∧ Out (fun b => w2.heap.size ≤ b ∧ b < w3.heap.size) w7 wq) (fun s87 _ => L.length - (intOf s87).toNat)
        case atStart => exact ⟨0, L, Nat.zero_le _, rfl, rfl, HM7.out, Out.refl _ _⟩
        case round =>
          obtain ⟨wq, rfl⟩ : ∃ x : World, x = wr := ⟨_, rfl⟩
          obtain ⟨k, l', hk, rfl, hl', hownq, hoq⟩ := hrel
          have HOq := Lib.hid hoq
          have HOwq := Lib.hid hownq
          have Hl' := Lib.hid hl'
          clear hoq hownq hl'
          by_cases hltk : k < L.length
          · obtain ⟨R, rc, ux, uy, hv, hR1, hR2, f0, f1, f2, hbu, hbv⟩ := HOwq.out.opAt k (by rw [Hl'.out]; exact hltk)
            injection hv with hX hn hrc
            clear hn
            subst hrc
            subst hX
            obtain ⟨V, vc, rfl, -, -, hub, -⟩ := hbv.form
            have hub' : (l'[k]'(by rw [Hl'.out]; exact hltk)).val.length ≤ 140737488355328 := hub
            generalize hnk : (l'[k]'(by rw [Hl'.out]; exact hltk)).val.length = nk at *
            have Hnk := Lib.hid hnk
            clear hbu hbv hnk hub
            go_wp2
            go_loopw [96] (fun s96 wq => ∃ (j : Nat) (l'' : List OpE), j ≤ nk ∧ s96 = .int .i64 j ∧ (∃ h : l''.length = L.length, (l''[k]'(by omega)).val.length = nk) ∧ Own opC 112 wq w2.heap.size (fun b => w2.heap.size ≤ b ∧ b < w3.heap.size) (.slice (some ⟨R, 0, none⟩) L.length m3) l'' ∧ Out (fun b => w2.heap.size ≤ b ∧ b < w3.heap.size) w7 wq) (fun s96 _ => nk - (intOf s96).toNat)
            case atStart => exact ⟨0, l', Nat.zero_le _, rfl, ⟨Hl'.out, Hnk.out⟩, HOwq.out, HOq.out⟩
            case round =>
              obtain ⟨wp, rfl⟩ : ∃ x : World, x = wr := ⟨_, rfl⟩
              obtain ⟨j, l'', hj, rfl, ⟨hl2, hn2⟩, hownp, hop⟩ := hrel
              have HOp := Lib.hid hop
              have HOwp := Lib.hid hownp
              have Hl2'' := Lib.hid hl2
              have Hn2 : Hid (∀ h, (l''[k]'h).val.length = nk) := Lib.hid fun _ => hn2
              clear hop hownp hl2 hn2
              by_cases hltj : j < nk
              · have hkl : k < l''.length := by rw [Hl2''.out]; exact hltk
                obtain ⟨R', rc', vx, vy, hv, -, -, p0, p1, p2, hbu, hbv⟩ := HOwp.out.opAt k hkl
                injection hv with hX hn hrc
                clear hn hrc
                injection hX with hX
                injection hX with hX _
                subst hX
                obtain ⟨U', un', uc', rfl⟩ := hbv.form0
                have hun : un' = nk := by obtain ⟨_, _, e, -⟩ := hbv.form; injection e with _ e _; rw [e, Hn2.out]
                subst hun
                obtain ⟨b3, o3, cs3, hU, hF3, hat, hr3⟩ := Sl.get hbv j (by rw [Hn2.out]; exact hltj)
                have hr3' : cs3 = [byteV ((l''[k]'hkl).val[j]'(by rw [Hn2.out]; exact hltj))] := hr3
                subst hU hr3'
                have hc3 := hat.cell 0 _ rfl
                have hf3 := hat.free 0 (by simp)
                simp only [byteC, Nat.mul_one, Nat.add_zero] at hc3 hf3
                generalize ((l''[k]'hkl).val[j]'(by rw [Hn2.out]; exact hltj)) = by3 at *
                have hfl := flip_u8 by3
                have Hpk := Lib.hid (HOwp.out.pokeO hc3 (fun e => hF3.2 (by injection e with e; exact e.symm)) (by3 ^^^ 1))
                have Hset : Hid (Out (fun b => w2.heap.size ≤ b ∧ b < w3.heap.size) w7 (wp.setCell ⟨b3, o3 + j, none⟩ (byteV (by3 ^^^ 1)))) := Lib.hid (HOp.out.setCell (p := ⟨b3, o3 + j, none⟩) (fun _ => hF3.1) _)
                clear hbu hbv hat
                go_wp2
                go_roundw
                case rel =>
                  obtain ⟨m', hm1, hm2, hm3'⟩ := Hpk.out
                  exact ⟨j + 1, m', by omega, by go_num, ⟨by rw [hm1, Hl2''.out], by rw [hm2 k hkl (by rw [hm1]; exact hkl), Hn2.out]⟩, hm3', Hset.out⟩
                case measure => simp [intOf]; omega
              · go_wp2
                go_roundw
                case rel => exact ⟨k + 1, l'', by omega, by go_num, Hl2''.out, HOwp.out, HOp.out⟩
                case measure => simp [intOf]; omega
          · go_wp2
            go_roundw
            case rel =>
              have hz6 := HO6.out.size
              have hz7 := HX7.out.size
              exact ⟨i + 1, _, by omega, by omega, by go_num, HOk6.out.le (by omega), HG6.out, (HO6.out.ext HX7.out).then HOq.out (fun b hb h => by have h1 : w2.heap.size ≤ b := h.1; omega), ((HP6.out.ext HX7.out).frame HOq.out (fun b _ hb h => hb.1.elim (fun h1 => by have h2 : b < wo.heap.size := h1.2; have h3 : w2.heap.size ≤ b := h.1; omega) (fun h1 => by have h2 : wc.heap.size ≤ b := h1; have h3 : b < w3.heap.size := h.2; omega))).mono fun b hb hk => ⟨hk.1.elim (fun h1 => h1.1) (fun h1 => .inr (by have h2 : wc.heap.size ≤ b := h1; omega)), hb⟩⟩
            case measure => simp [intOf]; omega
end Go.Proofs.Yteaanagljmcidaa
namespace Go.Proofs.Yteaanagljmcidaa
open Go.RowKit

/-- What stands behind a script. -/
structure Ran (w : World) (B M R n : Nat) (s : MS) (x : XL) : Prop where
  rel : RelX s x
  good : GoodX x
  ok : okS s n
  len : x.length ≤ n
  pr : Pr w (fun b => B ≤ b ∧ b < w.heap.size) (.pointer (some ⟨M, 0, none⟩)) (.pointer (some ⟨R, 0, none⟩)) (some (s, x))
theorem Ran.ext {w w' : World} {B M R n : Nat} {s : MS} {x : XL} (h : Ran w B M R n s x) (hx : Ext w w') : Ran w' B M R n s x :=
  ⟨h.rel, h.good, h.ok, h.len, (h.pr.ext hx).mono fun b hb hk => ⟨hk.1, hb⟩⟩
theorem Ran.mm {w : World} {B M R n : Nat} {s : MS} {x : XL} (h : Ran w B M R n s x) : MmS w (fun b => B ≤ b ∧ b < w.heap.size) M s := by
  obtain ⟨FM, FX, M', R', e1, e2, hm, hx, f1, f2, f3⟩ := h.pr
  injection e1 with e1; injection e1 with e1; injection e1 with e1 _; subst e1
  exact Mm.mono hm fun b _ hb => f1 b hb
theorem Ran.rx {w : World} {B M R n : Nat} {s : MS} {x : XL} (h : Ran w B M R n s x) : Rx w (fun b => B ≤ b ∧ b < w.heap.size) R x := by
  obtain ⟨FM, FX, M', R', e1, e2, hm, hx, f1, f2, f3⟩ := h.pr
  injection e2 with e2; injection e2 with e2; injection e2 with e2 _; subst e2
  exact hx.mono fun b _ hb => f2 b hb
theorem okS.zero : okS s0 0 := by unfold okS s0; simp

theorem law10_run0 {w : World} {F : Nat → Prop} {M B : Nat} {v : Value} (hm : MmS w (fun b => B ≤ b) M s0) (script : List StepE) (hv : Sl stepCA w F v script) (hF : ∀ b, F b → b < B) (hB : B ≤ w.heap.size) (n : Nat) (hn : n = w.heap.size) :
    Calls Try.prog 71 #[.pointer (some ⟨M, 0, none⟩), .pointer (some ⟨n, 0, none⟩), v] (w.alloc (.cells #[.slice none 0 0, .slice none 0 0] 103)) fun e w' => e = .returned (.bool true) ∧ Out (fun b => B ≤ b) w w' ∧ ∃ s x, Ran w' B M n 1920 s x := by
  subst hn
  have x1 := Ext.alloc1 w (.cells #[.slice none 0 0, .slice none 0 0] 103)
  have hp : Pr (w.alloc (.cells #[.slice none 0 0, .slice none 0 0] 103)) (fun b => B ≤ b ∧ b < (w.alloc (.cells #[.slice none 0 0, .slice none 0 0] 103)).heap.size) (.pointer (some ⟨M, 0, none⟩)) (.pointer (some ⟨w.heap.size, 0, none⟩)) (some (s0, [])) :=
    ⟨fun b => B ≤ b ∧ b < w.heap.size, fun b => b = w.heap.size, M, w.heap.size, rfl, rfl, Mm.ext (Mm.mono hm fun b hb h => ⟨h, hb⟩) x1, Rx.new w, fun b hb => ⟨hb.1, by simp; omega⟩, fun b hb => ⟨by omega, by simp; omega⟩, fun b hb hc => by omega⟩
  refine (law10_run _ script (hv.ext x1) (fun b hb h => by have := hF b hb; omega) hp (n0 := 0) ⟨RelX.nil, GoodX.nil, okS.zero, Nat.le_refl _⟩ (by decide) (fun b hb => hb.2)).mono ?_
  rintro e w' ⟨rfl, st', hok, hg, ho, hp'⟩
  refine ⟨rfl, (Ext.out x1 _).trans (ho.mono fun b _ hb => hb.1), ?_⟩
  match st', hok, hg, hp' with
  | none, _, hg, _ => exact hg.elim
  | some (s, x), ⟨h1, h2, h3, h4⟩, _, hp' =>
    refine ⟨s, x, h1, h2, h3.le (by omega), by omega, hp'.mono fun b hb hk => ⟨?_, hb⟩⟩
    have h5 : (B ≤ b ∧ b < (w.alloc (.cells #[.slice none 0 0, .slice none 0 0] 103)).heap.size) ∨ (w.alloc (.cells #[.slice none 0 0, .slice none 0 0] 103)).heap.size ≤ b := hk.1
    have h6 := World.size_alloc w (.cells #[.slice none 0 0, .slice none 0 0] 103)
    omega
/-- A script more. -/
theorem law10_run1 {w : World} {F : Nat → Prop} {M R B : Nat} {v : Value} {s : MS} {x : XL} (h : Ran w B M R 1920 s x) (script : List StepE) (hv : Sl stepCA w F v script) (hF : ∀ b, F b → b < B) :
    Calls Try.prog 71 #[.pointer (some ⟨M, 0, none⟩), .pointer (some ⟨R, 0, none⟩), v] w fun e w' => e = .returned (.bool true) ∧ Out (fun b => B ≤ b ∧ b < w.heap.size) w w' ∧ ∃ s' y, Ran w' B M R 3840 s' (x ++ y) ∧ ∀ p ∈ y, lastX x < p.2 := by
  refine (law10_run _ script hv (fun b hb h => by have := hF b hb; omega) h.pr (n0 := 1920) ⟨h.rel, h.good, h.ok, h.len⟩ (by decide) (fun b hb => hb.2)).mono ?_
  rintro e w' ⟨rfl, st', hok, hg, ho, hp'⟩
  refine ⟨rfl, ho, ?_⟩
  match st', hok, hg, hp' with
  | none, _, hg, _ => exact hg.elim
  | some (s', x'), ⟨h1, h2, h3, h4⟩, ⟨y, hy, hq⟩, hp' =>
    subst hy
    have hz := ho.size
    have hB : ∀ b, (B ≤ b ∧ b < w.heap.size) ∨ w.heap.size ≤ b → B ≤ b := fun b hb => by
      obtain ⟨FM, FX, M', R', e1, e2, hm, hx, f1, f2, f3⟩ := h.pr
      have h0 : B ≤ M' ∧ M' < w.heap.size := by
        obtain ⟨_, _, _, _, _, _, _, _, _, h5, _⟩ := hm
        exact f1 _ h5
      omega
    exact ⟨s', y, ⟨h1, h2, h3.le (by omega), by omega, hp'.mono fun b hb hk => ⟨hB b hk.1, hb⟩⟩, hq⟩

/-- An op in a new row: an argument's. -/
theorem ops1A {w : World} {F : Nat → Prop} {u v : Value} {o : OpE} (hu : BsA w F u o.key) (hv : BsA w F v o.val) (n : Nat) (hn : n = w.heap.size) : Sl opCA (w.alloc (.cells #[byteV o.kind, u, v] 112)) (fun b => F b ∨ b = w.heap.size) (.slice (some ⟨n, 0, none⟩) 1 1) [o] := by
  subst hn
  have hb := blk_new w (.cells #[byteV o.kind, u, v] 112)
  refine ⟨_, 1, rfl, by simp, by simp [maxLen], by show 1 ≤ 9223372036854775807; decide, (fun h => by cases h), fun i hi => ?_⟩
  have hi' : i = 0 := by simpa using hi
  subst hi'
  refine ⟨w.heap.size, 0, [byteV o.kind, u, v], rfl, .inr rfl, ⟨fun j y hy => ?_, fun j hj => blk_free hb _⟩, u, v, rfl, (hu.alloc _).mono (fun b hb _ => .inl hb) (.inl (by decide)), (hv.alloc _).mono (fun b hb _ => .inl hb) (.inl (by decide))⟩
  rw [blk_cell hb]
  simpa [opCA] using hy
theorem bcheck1 {o : OpE} (h : ocheck o = 0) : bcheck [o] = 0 := by
  unfold bcheck bcheckL bcheckL
  rw [if_neg (by simp), if_neg (by simpa using h)]
theorem batR1 {last q : Nat} {o : OpE} (h : ocheck o = 0) (h1 : 1 ≤ q) (h2 : q ≤ last) (h3 : last ≤ 72057594037927935) : batR last [o] q [] = 10 := by
  unfold batR
  rw [if_neg (by rw [bcheck1 h]; simp), if_neg (by simp; omega), if_neg (by simpa using tallL_nil _), if_pos h2]
theorem doR1 {last q : Nat} {o : OpE} (h : ocheck o = 0) (h1 : 1 ≤ q) (h2 : q ≤ last) (h3 : last ≤ 72057594037927935) : doR last o q 1 = 10 := by
  unfold doR
  rw [if_neg (by simpa using h), if_neg (by omega), if_neg (by omega), if_pos h2]
end Go.Proofs.Yteaanagljmcidaa
