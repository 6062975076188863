/- law10: MemoBatches. -/
import Derived.Test.YteaanagljmcidaaAwake10
import Derived.Test.YteaanagljmcidaaMemoP3
import Derived.Test.YteaanagljmcidaaR9
import Derived.Test.YteaanagljmcidaaSame
import Derived.Test.YteaanagljmcidaaMemoE
namespace Go.Proofs.Yteaanagljmcidaa
open Go.RowKit

attribute [local go_sem ↓] Go.wp_at_zero Go.wp_at_succ

theorem Sl.byteA {w : World} {F : Nat → Prop} {A : Option Addr} {n cap : Nat} {l : List UInt8} (h : Sl byteCA w F (.slice A n cap) l) (i : Nat) (hi : i < l.length) :
    ∃ b off, A = some ⟨b, off, none⟩ ∧ w.cell? ⟨b, off + i, none⟩ = some (byteV l[i]) := by
  obtain ⟨b, off, cs, hA, hF, hat, hr⟩ := h.get i hi
  have hr' : cs = [byteV l[i]] := hr
  subst hr'
  have h1 := hat.cell 0 _ rfl
  exact ⟨b, off, hA, by simpa [byteCA, byteC] using h1⟩

def htU (x : UInt8) : Int := 1 + (x.toNat : Int) % 8
theorem htU_range (x : UInt8) : 1 ≤ htU x ∧ htU x ≤ 8 := by unfold htU; omega
def htsU (hs : List UInt8) (n : Nat) : List Int := (hs.take n).map htU
theorem htsU_succ {hs : List UInt8} {k : Nat} (h : k < hs.length) (hk : k < 66) : htsU hs (min (k + 1) 66) = htsU hs (min k 66) ++ [1 + ((hs[k]'h).toNat : Int) % 8] := by
  unfold htsU; rw [take_min_succ h hk, List.map_append]; rfl
theorem htsU_stay (hs : List UInt8) {k : Nat} (hk : ¬ k < 66) : htsU hs (min (k + 1) 66) = htsU hs (min k 66) := by
  rw [show min (k + 1) 66 = min k 66 from by omega]
theorem htsU_all (hs : List UInt8) : htsU hs (min hs.length 66) = htsU hs 66 := by
  unfold htsU
  rcases Nat.le_total hs.length 66 with h | h
  · rw [Nat.min_eq_left h, List.take_of_length_le (Nat.le_refl _), List.take_of_length_le h]
  · rw [Nat.min_eq_right h]
theorem htsU_length (hs : List UInt8) (k : Nat) : (htsU hs (min k 66)).length ≤ 66 := by unfold htsU; rw [List.length_map, List.length_take]; omega
theorem min_u8 (x : UInt8) : (x.toNat : Int) % 8 < 8 ∧ 0 ≤ (x.toNat : Int) % 8 := by omega

set_option maxRecDepth 100000 in
set_option maxHeartbeats 4000000 in
theorem memoBatches_walk (w : World) {F G : Nat → Prop} {v hv : Value} (l0 : List OpE) (hl : Sl opCA w F v l0) (q : UInt64) (hs : List UInt8) (hh : BsA w G hv hs) : Calls Try.prog 24 #[v, u64V q, hv] w fun e w' => e = .returned (.bool true) ∧ Ext w w' := by
  obtain ⟨A, N, n, rfl⟩ := hl.form0
  obtain ⟨B, cap, rfl, g1, g2, g3, g4⟩ := hh.form
  have g3 : hs.length ≤ 9223372036854775807 := g3
  have Hl := Lib.hid hl
  have Hh := Lib.hid hh
  clear hl hh g1 g2 g4
  obtain ⟨mk1, -⟩ : ∃ x : Nat, x = 0 := ⟨0, rfl⟩
  go_enter Try.func24, Try.ntmps24
  go_wp2_with (first
    | (go_at_call 69; refine (law10_awake _).mono ?_; rintro r w1 ⟨rfl, hx1⟩; have HX1 := Lib.hid hx1; clear hx1)
    | (go_at_call 83; refine (r4_few _ l0 (Hl.out.ext HX1.out) 66 (by decide)).mono ?_; rintro e w2 ⟨x2, rfl, hx2, hl2⟩; have HX2 := Lib.hid (HX1.out.ext hx2); have HLl : Hid (((l0.take 66).map cutO).length ≤ 66) := Lib.hid (by rw [List.length_map, List.length_take]; omega); generalize (l0.take 66).map cutO = L at hl2 HLl; have HL2 := Lib.hid hl2; obtain ⟨A2, m2, rfl, -⟩ := hl2.form; have hz2 := hx2.size; clear hx2 hl2)
    | (have hh := mk1; clear hh; go_at_call 70; refine (memo_new _).mono ?_; rintro r w3 ⟨MA, rfl, hx3, hm3⟩; have HX3 := Lib.hid (HX2.out.ext hx3); have HX23 := Lib.hid hx3; have HMA3 : Hid (MmS w3 (fun b => w2.heap.size ≤ b ∧ b < w3.heap.size) MA s0) := Lib.hid (Mm.mono hm3 fun b hb h => ⟨h, hb⟩); have hz3 := hx3.size; clear hm3 hx3 mk1)
    | (go_at_call 70; refine (memo_new _).mono ?_; rintro r w4 ⟨MB, rfl, hx4, hm4⟩; have HX4 := Lib.hid (HX3.out.ext hx4); have HX24 := Lib.hid (HX23.out.ext hx4); have HX34 := Lib.hid hx4; have HMB4 : Hid (MmS w4 (fun b => w3.heap.size ≤ b ∧ b < w4.heap.size) MB s0) := Lib.hid (Mm.mono hm4 fun b hb h => ⟨h, hb⟩); have hz4 := hx4.size; clear hm4 hx4))
  have HLs : Hid (Sl opC w2 (fun b => w1.heap.size ≤ b ∧ b < w2.heap.size) (.slice A2 L.length m2) L) := Lib.hid ((HL2.out.sl (G := fun b => w1.heap.size ≤ b ∧ b < w2.heap.size) (by decide) (by have := HLl.out; show _ ≤ 140737488355328; omega) (fun b hb hlt => ⟨hb, hlt⟩) (fun b hb hlt => ⟨hb, hlt⟩)))
  clear HL2
  go_loopw [9, 23] (fun s9 s23 wr => ∃ k : Nat, k ≤ hs.length ∧ s23 = .int .i64 k ∧ Own intC 3 wr w4.heap.size (fun b => w4.heap.size ≤ b) s9 (htsU hs (min k 66)) ∧ Ext w4 wr) (fun _ s23 _ => hs.length - (intOf s23).toNat)
  case atStart => exact ⟨0, Nat.zero_le _, rfl, by rw [Nat.zero_min]; exact Own.nil _ _ _ _ _, Out.refl _ _⟩
  case round =>
    obtain ⟨wo, rfl⟩ : ∃ x : World, x = wr := ⟨_, rfl⟩
    obtain ⟨k, hk, rfl, hown, hx⟩ := hrel
    obtain ⟨A9, n9, c9, rfl⟩ := hown.form0
    have HFl := Lib.hid hown.lt
    have Hown := Lib.hid hown
    have HX := Lib.hid hx
    have hsz := hx.size
    clear hown hx
    by_cases hlt : k < hs.length
    · obtain ⟨b, off, rfl, c0⟩ := ((Hh.out.ext HX4.out).ext HX.out).byteA k hlt
      by_cases hk6 : k < 66
      · have Hs := Lib.hid (htsU_succ hlt hk6)
        have Hle := Lib.hid (htsU_length hs k)
        obtain ⟨m8, m0⟩ := min_u8 hs[k]
        go_wp2_with (at_builtin; refine wpList_append_one rfl (.tmp 30) (.tmp 35) 54 rfl fits54M (Hown.out.ext (Ext.alloc1 _ _)) rfl (by (try simp only [World.size_alloc]); omega) (blk_new _ _) rfl (1 + (hs[k].toNat : Int) % 8) ⟨rfl, by omega, by omega⟩ (by have := Hle.out; omega) (by decide) ?_; intro v' w5 g1 g2 g3; obtain ⟨A6, n6, c6, rfl⟩ := g1.form0; have G1 := Lib.hid g1; have G2 := Lib.hid g2; clear g1 g2 g3)
        go_roundw
        case rel => exact ⟨k + 1, by omega, by go_num, by rw [Hs.out]; exact G1.out, (HX.out.alloc _).then G2.out (fun b hb e => by have := HFl.out _ e; omega)⟩
        case measure => simp [intOf]; omega
      · have Hs := Lib.hid (htsU_stay hs hk6)
        go_wp2
        go_roundw
        case rel => exact ⟨k + 1, by omega, by go_num, by rw [Hs.out]; exact Hown.out, HX.out⟩
        case measure => simp [intOf]; omega
    · obtain rfl : k = hs.length := by omega
      have hle := htsU_length hs hs.length
      have HSh : Hid (Sl intC wo (fun b => w4.heap.size ≤ b) (.slice A9 n9 c9) (htsU hs 66)) := Lib.hid (by
        rw [← htsU_all]
        exact Hown.out.sl (by decide) (by show _ ≤ 140737488355328; omega) (fun b hb _ => hb) (fun b hb _ => hb))
      have HT : Hid (∀ x ∈ htsU hs 66, 1 ≤ x ∧ x ≤ 8) := Lib.hid fun x hx => by
        obtain ⟨y, -, rfl⟩ := List.mem_map.1 hx
        exact htU_range y
      have HMA : Hid (MmS wo (fun b => w2.heap.size ≤ b ∧ b < w3.heap.size) MA s0) := Lib.hid (Mm.ext (Mm.ext HMA3.out HX34.out) HX.out)
      have HMB : Hid (MmS wo (fun b => w3.heap.size ≤ b ∧ b < w4.heap.size) MB s0) := Lib.hid (Mm.ext HMB4.out HX.out)
      have HLo : Hid (Sl opC wo (fun b => w1.heap.size ≤ b ∧ b < w2.heap.size) (.slice A2 L.length m2) L) := Lib.hid ((HLs.out.ext HX24.out).ext HX.out)
      have HXw : Hid (Ext w wo) := Lib.hid (HX4.out.ext HX.out)
      have HO : Hid (okS s0 10) := Lib.hid (by unfold okS; decide)
      clear Hown HFl Hh hle hlt
      generalize htsU hs 66 = H at *
      have HC := Lib.hid (memo_batch HMA.out L H HLo.out HSh.out (fun b hb => by omega) (fun b hb hc => by omega) (fun b hb hc => by omega) q.toNat HO.out (by decide))
      obtain ⟨c, hc⟩ : ∃ c, batR s0.last L q.toNat H = c := ⟨_, rfl⟩
      rw [hc] at HC
      have hc' : batR 0 L q.toNat H = c := hc
      by_cases h0 : c = 0
      · subst h0
        have HS : Hid (batS s0 L q.toNat H = batN s0 L q.toNat H L.length) := Lib.hid (by unfold batS; rw [if_pos hc])
        rw [HS.out] at HC
        have HB := Lib.hid (bat_same hc')
        have Hbr := Lib.hid (batR_ok hc')
        clear hc hc' HS
        go_wp2_with (go_at_call 87; refine HC.out.mono ?_; rintro r w6 ⟨rfl, ho6, hm6⟩; have HO6 := Lib.hid ho6; have HA6 := Lib.hid hm6; have hz6 := ho6.size; clear ho6 hm6)
        have HB6 : Hid (MmS w6 (fun b => w3.heap.size ≤ b ∧ b < w4.heap.size) MB s0) := Lib.hid (Mm.frame HMB.out HO6.out (fun b _ hb hc => by omega))
        have HL6 : Hid (Sl opC w6 (fun b => w1.heap.size ≤ b ∧ b < w2.heap.size) (.slice A2 L.length m2) L) := Lib.hid (HLo.out.out HO6.out (fun b _ hb hc => by omega))
        have HX6 : Hid (Ext w w6) := Lib.hid (HXw.out.then HO6.out (fun b hb hc => by have := HX2.out.size; omega))
        go_loopw [67] (fun s67 wr => ∃ k : Nat, k ≤ L.length ∧ s67 = .int .i64 k ∧ Out (fun b => w3.heap.size ≤ b ∧ b < w4.heap.size) w6 wr ∧ MmS wr (fun b => (w3.heap.size ≤ b ∧ b < w4.heap.size) ∨ w6.heap.size ≤ b) MB (batN s0 L q.toNat [] k)) (fun s67 _ => L.length - (intOf s67).toNat)
        case atStart => exact ⟨0, Nat.zero_le _, rfl, Out.refl _ _, Mm.mono HB6.out (fun b _ hb => .inl hb)⟩
        case round =>
          obtain ⟨wp, rfl⟩ : ∃ x : World, x = wr := ⟨_, rfl⟩
          obtain ⟨k, hk, rfl, ho, hm⟩ := hrel
          have HOk := Lib.hid ho
          have HMk := Lib.hid hm
          have hzk := ho.size
          clear ho hm
          by_cases hlt : k < L.length
          · obtain ⟨b, off, u, x, rfl, -, c0, c1, c2, hu, hx⟩ := (HL6.out.out HOk.out (fun b _ hb hc => by omega)).op k hlt
            obtain ⟨U, N1, n1, rfl⟩ := hu.form0
            obtain ⟨X, N2, n2, rfl⟩ := hx.form0
            have x1 := Ext.alloc1 wp (.cells #[byteV L[k].kind, .slice U N1 n1, .slice X N2 n2] 112)
            obtain ⟨z0, z1, z2, -⟩ := cells3 (blk_new wp (.cells #[byteV L[k].kind, .slice U N1 n1, .slice X N2 n2] 112))
            have hq : q.toNat + k ≤ 72057594037927935 := Hbr.out.2.2.2.2.1 k hlt
            have hok : okS (batN s0 L q.toNat [] k) (10 + k) := okS.bat HO.out Hbr.out.1 _ _ k (by omega)
            obtain ⟨o1, o2, o3, o4⟩ := hok
            have hl64 := Hbr.out.2.1
            have HD := Lib.hid (memo_do (Mm.ext HMk.out x1) L[k] (G := fun b => w1.heap.size ≤ b ∧ b < w2.heap.size) (fun b hb => by (try simp only [World.size_alloc]); omega) (hu.ext x1) (hx.ext x1) (q.toNat + k) (by omega) (by omega) o3 (by omega) 1 (HB.out.1 k hlt))
            have HE := Lib.hid (batN_succ (s := s0) (q := q.toNat) (hs := []) hlt)
            clear hu hx o1 o2 o3 o4
            go_wp2_with (go_at_call 86; refine HD.out.mono ?_; rintro r w7 ⟨rfl, ho7, hm7⟩)
            go_roundw
            case rel => exact ⟨k + 1, by omega, by go_num, (HOk.out.alloc _).then ho7 (fun b hb hc => by omega), by rw [HE.out]; exact Mm.mono hm7 (fun b _ hb => hb.elim id (fun h => .inr (by (try simp only [World.size_alloc] at h); omega)))⟩
            case measure => simp [intOf]; omega
          · obtain rfl : k = L.length := by omega
            have HA : Hid (MmS wp (fun b => (w2.heap.size ≤ b ∧ b < w3.heap.size) ∨ wo.heap.size ≤ b ∧ b < w6.heap.size) MA (batN s0 L q.toNat H L.length)) := Lib.hid (Mm.frame (Mm.mono HA6.out (fun b hb hc => hc.imp id (fun h => ⟨h, hb⟩))) HOk.out (fun b _ hb hc => by omega))
            obtain ⟨-, e1, e2, e3, e4⟩ := HB.out
            have hlA : (batN s0 L q.toNat H L.length).l.length ≤ 1000000 := by
              have := (okS.bat HO.out Hbr.out.1 q.toNat H L.length (Nat.le_refl _)).2.1
              have := Hbr.out.2.1
              omega
            have hmA : ((batN s0 L q.toNat H L.length).m.map (·.1)).length ≤ 1000000 := by
              have := (okS.bat HO.out Hbr.out.1 q.toNat H L.length (Nat.le_refl _)).1
              have := Hbr.out.2.1
              rw [List.length_map]; omega
            obtain ⟨E, hE⟩ : ∃ E, (batN s0 L q.toNat H L.length).m.map (·.1) = E := ⟨_, rfl⟩
            obtain ⟨P, hP⟩ : ∃ P, (batN s0 L q.toNat H L.length).l = P := ⟨_, rfl⟩
            obtain ⟨z, hz⟩ : ∃ z, (batN s0 L q.toNat H L.length).sz = z := ⟨_, rfl⟩
            obtain ⟨la, hla⟩ : ∃ la, (batN s0 L q.toNat H L.length).last = la := ⟨_, rfl⟩
            rw [hE] at hmA
            rw [hP] at hlA
            have HEA := Lib.hid hE
            have HPA := Lib.hid hP
            have HzA := Lib.hid hz
            have HlA := Lib.hid hla
            have HEB := Lib.hid (e1.symm.trans hE)
            have HPB := Lib.hid (e2.symm.trans hP)
            have HzB := Lib.hid (e3.symm.trans hz)
            have HlB := Lib.hid (e4.symm.trans hla)
            have HEl := Lib.hid hmA
            have HPl := Lib.hid hlA
            clear e1 e2 e3 e4 hE hP hz hla hmA hlA
            obtain ⟨mk1, -⟩ : ∃ x : Nat, x = 0 := ⟨0, rfl⟩
            obtain ⟨mk2, -⟩ : ∃ x : Nat, x = 0 := ⟨0, rfl⟩
            obtain ⟨mk3, -⟩ : ∃ x : Nat, x = 0 := ⟨0, rfl⟩
            obtain ⟨mk4, -⟩ : ∃ x : Nat, x = 0 := ⟨0, rfl⟩
            go_wp2_with (first
              | (have hh := mk1; clear hh; go_at_call 89; refine (memo_entriesE HA.out HEA.out HEl.out).mono ?_; rintro r y1 ⟨v1, rfl, hx1, hs1⟩; have HY1 := Lib.hid hx1; have HV1 := Lib.hid hs1; obtain ⟨V1, vn1, vc1, rfl⟩ := hs1.form0; clear hx1 hs1 mk1)
              | (go_at_call 89; refine (memo_entriesE (Mm.ext HMk.out HY1.out) HEB.out HEl.out).mono ?_; rintro r y2 ⟨v2, rfl, hx2, hs2⟩; have HY2 := Lib.hid (HY1.out.ext hx2); have HV12 := Lib.hid (HV1.out.ext hx2); have HV2 := Lib.hid hs2; obtain ⟨V2, vn2, vc2, rfl⟩ := hs2.form0; clear hx2 hs2)
              | (go_at_call 32; refine (r3_sameEq _ E HV12.out HV2.out).mono ?_; rintro r y3 ⟨rfl, hx3⟩; have HY3 := Lib.hid (HY2.out.ext hx3); clear hx3)
              | (have hh := mk2; clear hh; go_at_call 90; refine (memo_spansE (Mm.ext HA.out HY3.out) HPA.out HPl.out).mono ?_; rintro r y4 ⟨v4, rfl, hx4, hs4⟩; have HY4 := Lib.hid (HY3.out.ext hx4); have HV4 := Lib.hid hs4; obtain ⟨V4, vn4, vc4, rfl⟩ := hs4.form0; clear hx4 hs4 mk2)
              | (go_at_call 90; refine (memo_spansE (Mm.ext HMk.out HY4.out) HPB.out HPl.out).mono ?_; rintro r y5 ⟨v5, rfl, hx5, hs5⟩; have HY5 := Lib.hid (HY4.out.ext hx5); have HV45 := Lib.hid (HV4.out.ext hx5); have HV5 := Lib.hid hs5; obtain ⟨V5, vn5, vc5, rfl⟩ := hs5.form0; clear hx5 hs5)
              | (go_at_call 66; refine (r9_sameEq _ P HV45.out HV5.out).mono ?_; rintro r y6 ⟨rfl, hx6⟩; have HY6 := Lib.hid (HY5.out.ext hx6); clear hx6)
              | (have hh := mk3; clear hh; go_at_call 84; refine (memo_sizeE (Mm.ext HA.out HY6.out) HzA.out).mono ?_; rintro r y7 ⟨rfl, rfl⟩; clear mk3)
              | (go_at_call 84; refine (memo_sizeE (Mm.ext HMk.out HY6.out) HzB.out).mono ?_; rintro r y8 ⟨rfl, rfl⟩)
              | (have hh := mk4; clear hh; go_at_call 76; refine (memo_lastE (Mm.ext HA.out HY6.out) HlA.out).mono ?_; rintro r y9 ⟨rfl, rfl⟩; clear mk4)
              | (go_at_call 76; refine (memo_lastE (Mm.ext HMk.out HY6.out) HlB.out).mono ?_; rintro r y10 ⟨rfl, rfl⟩))
            go_ret
            exact ⟨by simp, (HX6.out.then HOk.out (fun b hb hc => by have := HX2.out.size; omega)).ext HY6.out⟩
      · have hcb : (c != 0) = true := by simpa using h0
        have HS : Hid (batS s0 L q.toNat H = s0) := Lib.hid (by unfold batS; rw [if_neg (by rw [hc]; exact h0)])
        rw [HS.out] at HC
        clear hc hc' HS h0
        go_wp2_with (first
          | (go_at_call 87; refine HC.out.mono ?_; rintro r w6 ⟨rfl, ho6, hm6⟩; have HX6 : Hid (Ext w w6) := Lib.hid (HXw.out.then ho6 (fun b hb hc => by have := HX2.out.size; omega)); have HA6 := Lib.hid hm6; clear ho6 hm6)
          | (go_at_call 84; refine (memo_sizeE HA6.out (z := 0) rfl).mono ?_; rintro r y7 ⟨rfl, rfl⟩)
          | (go_at_call 76; refine (memo_lastE HA6.out (n := 0) rfl).mono ?_; rintro r y9 ⟨rfl, rfl⟩)
          | (go_at_call 89; refine (memo_entriesE HA6.out (E := []) rfl (by decide)).mono ?_; rintro r y1 ⟨v1, rfl, hx1, hs1⟩; obtain ⟨V1, vc1, rfl, -⟩ := hs1.form; have HY1 := Lib.hid hx1; clear hs1 hx1)
          | (go_at_call 90; refine (memo_spansE (Mm.ext HA6.out HY1.out) (l := []) rfl (by decide)).mono ?_; rintro r y2 ⟨v2, rfl, hx2, hs2⟩; obtain ⟨V2, vc2, rfl, -⟩ := hs2.form; have HY2 := Lib.hid hx2; clear hs2 hx2))
        go_ret
        exact ⟨by simp, (HX6.out.ext HY1.out).ext HY2.out⟩
end Go.Proofs.Yteaanagljmcidaa
