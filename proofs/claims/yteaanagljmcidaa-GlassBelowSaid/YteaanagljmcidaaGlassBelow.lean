/- law15: GlassBelow. -/
import Derived.Test.YteaanagljmcidaaLaw15B
import Derived.Test.YteaanagljmcidaaBelow15A
import Derived.Test.YteaanagljmcidaaOwnOne
import Derived.Test.YteaanagljmcidaaGlSeen
import Derived.Test.YteaanagljmcidaaTwinsG
namespace Go.Proofs.Yteaanagljmcidaa
open Go.RowKit

attribute [local go_sem ↓] Go.wp_at_zero Go.wp_at_succ

def upN (x : UInt64) : UInt64 := 100 + x % 100
theorem up_nat (x : UInt64) : (upN x).toNat = 100 + x.toNat % 100 := by
  unfold upN
  rw [UInt64.toNat_add, UInt64.toNat_mod]
  show (100 + x.toNat % 100) % 18446744073709551616 = _
  omega
theorem lo_nat (x : UInt64) : (x % 100).toNat = x.toNat % 100 := by
  rw [UInt64.toNat_mod]; rfl
def upE (e : Ent) : Ent := ⟨⟨e.key.user, upN e.key.seq, e.key.kind⟩, e.value⟩
def loE (e : Ent) : Ent := ⟨⟨e.key.user, e.key.seq % 100, e.key.kind⟩, e.value⟩
def upS (s : SpanE) : SpanE := ⟨s.frm, s.til, upN s.seq⟩
theorem scheck_up {s : SpanE} (h : scheck s = 0) : scheck (upS s) = 0 := by
  have hn := up_nat s.seq
  unfold scheck at h ⊢
  unfold upS
  dsimp only
  split at h
  · cases h
  · rename_i hc
    rw [if_neg]
    intro h1
    apply hc
    rcases h1 with h1 | h1 | h1 | h1 | h1 | h1
    · exact .inl h1
    · exact .inr (.inl h1)
    · exact .inr (.inr (.inl h1))
    · exact .inr (.inr (.inr (.inl h1)))
    · omega
    · omega

theorem u64V_up (x : UInt64) : u64V (upN x) = Value.int .u64 (100 + (x.toNat : Int) % 100) := by
  unfold u64V
  rw [up_nat]
  push_cast
  rfl
theorem u64V_lo (x : UInt64) : u64V (x % 100) = Value.int .u64 ((x.toNat : Int) % 100) := by
  unfold u64V
  rw [lo_nat]
  push_cast
  rfl
def updS (L : List SpanE) (i : Nat) : List SpanE := (L.take i).map upS ++ L.drop i
theorem updS_len (L : List SpanE) {i : Nat} (hi : i ≤ L.length) : (updS L i).length = L.length := by
  unfold updS
  rw [List.length_append, List.length_map, List.length_take, List.length_drop]
  omega
theorem updS_get {L : List SpanE} {i : Nat} (hi : i < L.length) (h : i < (updS L i).length) : (updS L i)[i] = L[i] := by
  have hl : ((L.take i).map upS).length = i := by rw [List.length_map, List.length_take]; omega
  have h1 : (updS L i)[i]? = some L[i] := by
    unfold updS
    rw [List.getElem?_append_right (by omega), hl, Nat.sub_self, List.getElem?_drop, Nat.add_zero, List.getElem?_eq_getElem hi]
  rw [List.getElem?_eq_getElem h] at h1
  exact Option.some.inj h1
theorem updS_set {L : List SpanE} {i : Nat} (hi : i < L.length) : (updS L i).set i (upS L[i]) = updS L (i + 1) := by
  unfold updS
  have hl : ((L.take i).map upS).length = i := by rw [List.length_map, List.length_take]; omega
  rw [List.drop_eq_getElem_cons hi, List.take_succ_eq_append_getElem hi, List.map_append, List.append_assoc]
  rw [List.set_append_right _ _ (by omega), hl, Nat.sub_self]
  rfl
theorem updS_last (L : List SpanE) : updS L L.length = L.map upS := by
  unfold updS
  rw [List.take_length, List.drop_length, List.append_nil]
theorem u64_ofR {w : World} {F : Nat → Prop} {v : Value} {l : List UInt64} (h : Sl u64CA w F v l) (hl : l.length * 8 ≤ 140737488351232) : Sl u64C w F v l := by
  obtain ⟨A', cap', hv, g1, g2, g3, g4, g5⟩ := h
  exact ⟨A', cap', hv, g1, g2, by show l.length ≤ 140737488355328; omega, g4, g5⟩
theorem mem_first {l : List UInt64} {k i : Nat} (hk : k = min l.length 8) (hi : i < ([maxSeq] ++ l).length) (h8 : i ≤ 8) : ([maxSeq] ++ l)[i] ∈ l.take k ++ [maxSeq] := by
  rcases Nat.eq_zero_or_pos i with rfl | hp
  · exact List.mem_append_right _ (by simp)
  · obtain ⟨j, rfl⟩ : ∃ j, i = j + 1 := ⟨i - 1, by omega⟩
    simp only [List.length_append, List.length_singleton] at hi
    have hj : j < l.length := by omega
    refine List.mem_append_left _ ?_
    have hjk : j < (l.take k).length := by rw [List.length_take]; omega
    have : ([maxSeq] ++ l)[j + 1] = (l.take k)[j] := by
      rw [List.getElem_take]
      rfl
    rw [this]
    exact List.getElem_mem hjk

set_option maxRecDepth 100000 in
set_option maxHeartbeats 16000000 in
theorem glassBelow_walk (w : World) {F0 F1 F2 F3 : Nat → Prop} {v0 v1 v2 v3 : Value} (l0 : List Ent) (h0 : Sl entCA w F0 v0 l0) (l1 : List SpanE) (h1 : Sl spanCA w F1 v1 l1) (l2 : List Ent) (h2 : Sl entCA w F2 v2 l2) (l3 : List UInt64) (h3 : Sl u64CA w F3 v3 l3) (hreach : l3.length * 8 ≤ 140737488351232) :
    Calls Try.prog 15 #[v0, v1, v2, v3] w fun e w' => e = .returned (.bool true) ∧ Ext w w' := by
  obtain ⟨A0, n0, c0, rfl⟩ := h0.form0
  obtain ⟨A1, n1, c1, rfl⟩ := h1.form0
  obtain ⟨A2, n2, c2, rfl⟩ := h2.form0
  obtain ⟨k, hk⟩ : ∃ k, k = min l3.length 8 := ⟨_, rfl⟩
  have h3b := h3.mono (G := fun b => b < w.heap.size) (fun b _ hl => hl) (.inl (by decide))
  obtain ⟨Aq, cq, rfl, hcq, -, -, -⟩ := h3b.form
  have HQ := Lib.hid (u64_ofA h3b k (by omega) (by omega))
  have H0 := Lib.hid h0
  have H1 := Lib.hid h1
  have H2 := Lib.hid h2
  have H3 := Lib.hid (u64_ofR h3b hreach)
  have hk0 : (0 : Int) ≤ (k : Int) := by omega
  have hk1 : (k : Int) ≤ (cq : Int) := by omega
  have hk8 : k ≤ 8 := by omega
  have Hk := Lib.hid hk
  clear h0 h1 h2 h3 h3b hk
  obtain ⟨us, hus⟩ : ∃ us, us = (l0.take 20).map cutE := ⟨_, rfl⟩
  have hul : us.length ≤ 20 := by rw [hus, List.length_map, List.length_take]; omega
  obtain ⟨ls, hls⟩ : ∃ ls, ls = (l2.take 20).map cutE := ⟨_, rfl⟩
  have hll : ls.length ≤ 20 := by rw [hls, List.length_map, List.length_take]; omega
  obtain ⟨L, hL⟩ : ∃ L, L = lawS l1 := ⟨_, rfl⟩
  have hLl : L.length ≤ 14 := by rw [hL]; exact lawS_len l1
  have HLok : Hid (∀ s ∈ L.map upS, scheck s = 0) := Lib.hid (by
    intro s hs
    obtain ⟨x, hx, rfl⟩ := List.mem_map.1 hs
    exact scheck_up (lawS_ok l1 x (hL ▸ hx)))
  have Hus := Lib.hid hus
  have Hls := Lib.hid hls
  have HL := Lib.hid hL
  clear hus hls hL
  obtain ⟨mk1, -⟩ : ∃ x : Nat, x = 0 := ⟨0, rfl⟩
  go_enter Try.func15, Try.ntmps15
  go_wp2_with (first
    | (go_at_call 61; refine (law15_awake _).mono ?_; rintro r w1 ⟨rfl, hx1⟩; have HX1 := Lib.hid hx1; have hz1 := hx1.size; clear hx1)
    | (go_at_call 63; refine (r9_few _ l1 (H1.out.ext HX1.out) 14 (by decide)).mono ?_; rintro r w4 ⟨v4, rfl, hx4, ho4⟩; have hs4 := ho4.sl (G := fun b => b < w4.heap.size) (by decide) (by show _ ≤ 140737488355328; rw [List.length_map, List.length_take]; omega) (fun b _ hl => hl) (fun b _ hl => hl); obtain ⟨A4, n4, c4, rfl⟩ := hs4.form0; have HX4 := Lib.hid (HX1.out.ext hx4); have hz4 := hx4.size; have HS4 := Lib.hid hs4; clear hx4 ho4 hs4)
    | (go_at_call 62; refine (r9_rightO _ _ HS4.out (fun _ h => h) (by rw [List.length_map, List.length_take]; omega)).mono ?_; rintro r w5 ⟨v5, rfl, hx5, ho5⟩; have HX5 := Lib.hid (HX4.out.ext hx5); have hz5 := hx5.size; change Own spanC 92 w5 w4.heap.size (fun b => b < w4.heap.size) v5 (lawS l1) at ho5; rw [← HL.out] at ho5; obtain ⟨A5, c5, rfl, -⟩ := ho5.form; have HO5 := Lib.hid ho5; have HO5l := Lib.hid ho5.lt; clear hx5 ho5)
    | (have hh := mk1; clear hh; go_at_call 59; refine (r3_few _ l0 (H0.out.ext HX5.out) 20 (by decide)).mono ?_; rw [← Hus.out]; rintro r w6 ⟨v6, rfl, hx6, hs6⟩; obtain ⟨A6, c6, rfl, -⟩ := hs6.form; have HX6 := Lib.hid (HX5.out.ext hx6); have HS6 := Lib.hid (hs6.mono (G := fun b => w5.heap.size ≤ b ∧ b < w6.heap.size) (fun b hb hl => ⟨hb, hl⟩) (.inl (by decide))); have HO6 := Lib.hid (HO5.out.ext hx6); have hz6 := hx6.size; clear hx6 hs6 mk1))
  go_loopw [9, 30] (fun sa sb wr => ∃ i : Nat, i ≤ us.length ∧ sb = .int .i64 i ∧ Own entC 32 wr w6.heap.size (fun b => w5.heap.size ≤ b ∧ b < w6.heap.size) sa ((us.take i).map upE) ∧ Ext w6 wr) (fun _ sb _ => us.length - (intOf sb).toNat)
  case atStart => exact ⟨0, Nat.zero_le _, rfl, Own.nil _ _ _ _ _, Out.refl _ _⟩
  case round =>
    obtain ⟨wo, rfl⟩ : ∃ x : World, x = wr := ⟨_, rfl⟩
    obtain ⟨i, hi, rfl, hown, hx⟩ := hrel
    have HX := Lib.hid hx
    have hzx := hx.size
    obtain ⟨A7, n7, c7, rfl⟩ := hown.form0
    have Hown := Lib.hid hown
    have Hlt := Lib.hid hown.lt
    clear hx hown
    by_cases hlt : i < us.length
    · as_aux_lemma =>
        obtain ⟨b1, o1, u1, x1, rfl, -, d0, d1, d2, d3, hu, hv⟩ := (HS6.out.ext HX.out).ent i hlt
        obtain ⟨U1, N1, p1, rfl⟩ := hu.form0
        obtain ⟨V1, M1, m1, rfl⟩ := hv.form0
        have Htk : Hid ((us.take (i + 1)).map upE = (us.take i).map upE ++ [upE us[i]]) := Lib.hid (by rw [List.take_succ_eq_append_getElem hlt, List.map_append]; rfl)
        have hRl : ((us.take i).map upE).length ≤ 20 := by rw [List.length_map, List.length_take]; omega
        obtain ⟨R, hR⟩ : ∃ R, (us.take i).map upE = R := ⟨_, rfl⟩
        rw [hR] at Hown Htk hRl
        obtain ⟨e, he⟩ : ∃ e, us[i] = e := ⟨_, rfl⟩
        rw [he] at d1 d2 hu hv Htk
        have hi0 : (0 : Int) ≤ (i : Int) := by omega
        have hi1 : (i : Int) < (us.length : Int) := by omega
        obtain ⟨z0, z1, z2, z3, zf⟩ := cells4 (blk_new wo (.cells #[.slice U1 N1 p1, u64V e.key.seq, byteV e.key.kind, .slice V1 M1 m1] 32))
        have Hu := Lib.hid hu
        have Hv := Lib.hid hv
        have Hrow : Hid ([.slice U1 N1 p1, Value.int .u64 (100 + (e.key.seq.toNat : Int) % 100), byteV e.key.kind, .slice V1 M1 m1] = [.slice U1 N1 p1, u64V (upE e).key.seq, byteV (upE e).key.kind, .slice V1 M1 m1]) := Lib.hid (by
          show _ = [.slice U1 N1 p1, u64V (upN e.key.seq), byteV e.key.kind, .slice V1 M1 m1]
          rw [u64V_up])
        clear hu hv hR he
        go_wp2_with (at_builtin; refine wpList_append_one (g := wo.heap.size + 1) rfl (.tmp 41) (.tmp 43) 43 rfl fits32 ((Hown.out.ext (Ext.alloc1 _ _)).ext (Ext.alloc1 _ _)) rfl (by (try simp only [World.size_alloc]); omega) (blk_at (by simp)) rfl (upE e) ⟨_, _, Hrow.out, ((Hu.out.alloc _).alloc _).mono (fun b hb _ => ⟨hb, fun e => by have := (Hlt.out _ e).1; omega⟩) (.inl (by decide)), ((Hv.out.alloc _).alloc _).mono (fun b hb _ => ⟨hb, fun e => by have := (Hlt.out _ e).1; omega⟩) (.inl (by decide))⟩ (by omega) (by decide) ?_; intro v8 w8 g1 g2 g3; obtain ⟨A8, n8, c8, rfl⟩ := g1.form0; have HG8 := Lib.hid g1; have HP8 := Lib.hid g2; clear g1 g2 g3)
        go_roundw
        case rel => exact ⟨i + 1, by omega, by go_num, (by rw [Htk.out]; exact HG8.out), ((HX.out.alloc _).alloc _).then HP8.out (fun b hb e => by have := (Hlt.out b e).1; omega)⟩
        case measure => simp [intOf] <;> omega
    · obtain rfl : i = us.length := by omega
      rw [List.take_length] at Hown
      go_wp2_with (go_at_call 59; refine (r3_few _ l2 (H2.out.ext (HX6.out.ext HX.out)) 20 (by decide)).mono ?_; rw [← Hls.out]; rintro r w7 ⟨v7, rfl, hx7, hs7⟩; obtain ⟨A9, c9, rfl, -⟩ := hs7.form; have HX7 := Lib.hid ((HX6.out.ext HX.out).ext hx7); have HS7 := Lib.hid (hs7.mono (G := fun b => w5.heap.size ≤ b ∧ b < w7.heap.size) (fun b hb hl => ⟨by omega, hl⟩) (.inl (by decide))); have HO7 := Lib.hid ((HO6.out.ext HX.out).ext hx7); have hz7 := hx7.size; have HU7 := Lib.hid ((Hown.out.ext hx7).sl (G := fun b => w5.heap.size ≤ b ∧ b < w7.heap.size) (by decide) (by show _ ≤ 140737488355328; rw [List.length_map]; omega) (fun b hb hl => ⟨hb.1, hl⟩) (fun b hb hl => ⟨by omega, hl⟩)); clear hx7 hs7)
      have hz57 : w5.heap.size ≤ w7.heap.size := by omega
      clear Hown Hlt HX hzx hlt hi
      go_loopw [12, 49] (fun sa sb wr => ∃ i : Nat, i ≤ ls.length ∧ sb = .int .i64 i ∧ Own entC 32 wr w7.heap.size (fun b => w5.heap.size ≤ b ∧ b < w7.heap.size) sa ((ls.take i).map loE) ∧ Ext w7 wr) (fun _ sb _ => ls.length - (intOf sb).toNat)
      case atStart => exact ⟨0, Nat.zero_le _, rfl, Own.nil _ _ _ _ _, Out.refl _ _⟩
      case round =>
        obtain ⟨wo, rfl⟩ : ∃ x : World, x = wr := ⟨_, rfl⟩
        obtain ⟨i, hi, rfl, hown, hx⟩ := hrel
        have HX := Lib.hid hx
        have hzx := hx.size
        obtain ⟨A7, n7, c7, rfl⟩ := hown.form0
        have Hown := Lib.hid hown
        have Hlt := Lib.hid hown.lt
        clear hx hown
        by_cases hlt : i < ls.length
        · as_aux_lemma =>
            obtain ⟨b1, o1, u1, x1, rfl, -, d0, d1, d2, d3, hu, hv⟩ := (HS7.out.ext HX.out).ent i hlt
            obtain ⟨U1, N1, p1, rfl⟩ := hu.form0
            obtain ⟨V1, M1, m1, rfl⟩ := hv.form0
            have Htk : Hid ((ls.take (i + 1)).map loE = (ls.take i).map loE ++ [loE ls[i]]) := Lib.hid (by rw [List.take_succ_eq_append_getElem hlt, List.map_append]; rfl)
            have hRl : ((ls.take i).map loE).length ≤ 20 := by rw [List.length_map, List.length_take]; omega
            obtain ⟨R, hR⟩ : ∃ R, (ls.take i).map loE = R := ⟨_, rfl⟩
            rw [hR] at Hown Htk hRl
            obtain ⟨e, he⟩ : ∃ e, ls[i] = e := ⟨_, rfl⟩
            rw [he] at d1 d2 hu hv Htk
            have hi0 : (0 : Int) ≤ (i : Int) := by omega
            have hi1 : (i : Int) < (ls.length : Int) := by omega
            obtain ⟨z0, z1, z2, z3, zf⟩ := cells4 (blk_new wo (.cells #[.slice U1 N1 p1, u64V e.key.seq, byteV e.key.kind, .slice V1 M1 m1] 32))
            have Hu := Lib.hid hu
            have Hv := Lib.hid hv
            have Hrow : Hid ([.slice U1 N1 p1, Value.int .u64 ((e.key.seq.toNat : Int) % 100), byteV e.key.kind, .slice V1 M1 m1] = [.slice U1 N1 p1, u64V (loE e).key.seq, byteV (loE e).key.kind, .slice V1 M1 m1]) := Lib.hid (by
              show _ = [.slice U1 N1 p1, u64V (e.key.seq % 100), byteV e.key.kind, .slice V1 M1 m1]
              rw [u64V_lo])
            clear hu hv hR he
            go_wp2_with (at_builtin; refine wpList_append_one (g := wo.heap.size + 1) rfl (.tmp 59) (.tmp 61) 43 rfl fits32 ((Hown.out.ext (Ext.alloc1 _ _)).ext (Ext.alloc1 _ _)) rfl (by (try simp only [World.size_alloc]); omega) (blk_at (by simp)) rfl (loE e) ⟨_, _, Hrow.out, ((Hu.out.alloc _).alloc _).mono (fun b hb _ => ⟨hb, fun e => by have := (Hlt.out _ e).1; omega⟩) (.inl (by decide)), ((Hv.out.alloc _).alloc _).mono (fun b hb _ => ⟨hb, fun e => by have := (Hlt.out _ e).1; omega⟩) (.inl (by decide))⟩ (by omega) (by decide) ?_; intro v8 w8 g1 g2 g3; obtain ⟨A8, n8, c8, rfl⟩ := g1.form0; have HG8 := Lib.hid g1; have HP8 := Lib.hid g2; clear g1 g2 g3)
            go_roundw
            case rel => exact ⟨i + 1, by omega, by go_num, (by rw [Htk.out]; exact HG8.out), ((HX.out.alloc _).alloc _).then HP8.out (fun b hb e => by have := (Hlt.out b e).1; omega)⟩
            case measure => simp [intOf] <;> omega
        · obtain rfl : i = ls.length := by omega
          rw [List.take_length] at Hown
          have HWs := Lib.hid (Hown.out.sl (G := fun b => w5.heap.size ≤ b ∧ b < wo.heap.size) (by decide) (by show _ ≤ 140737488355328; rw [List.length_map]; omega) (fun b hb hl => ⟨hb.1, hl⟩) (fun b hb hl => ⟨by omega, hl⟩))
          have HUs := Lib.hid (HU7.out.ext HX.out)
          have HO8 := Lib.hid (HO7.out.ext HX.out)
          have HX8 := Lib.hid (HX7.out.ext HX.out)
          clear Hown Hlt HX hlt hi HU7 HO7
          obtain ⟨w8, rfl⟩ : ∃ x : World, x = wo := ⟨_, rfl⟩
          go_wp2
          go_loopw [66] (fun sb wr => ∃ i : Nat, i ≤ L.length ∧ sb = .int .i64 i ∧ Own spanC 92 wr w4.heap.size (fun b => b < w4.heap.size) (.slice A5 L.length c5) (updS L i) ∧ Out (fun b => (Value.slice A5 L.length c5).ownBlock = some b) w8 wr) (fun sb _ => L.length - (intOf sb).toNat)
          case atStart => exact ⟨0, Nat.zero_le _, rfl, HO8.out, Out.refl _ _⟩
          case round =>
            obtain ⟨wo, rfl⟩ : ∃ x : World, x = wr := ⟨_, rfl⟩
            obtain ⟨i, hi, rfl, hown, hx⟩ := hrel
            have HX := Lib.hid hx
            have hzx' := hx.size
            have Hown := Lib.hid hown
            clear hx hown
            by_cases hlt : i < L.length
            · as_aux_lemma =>
                have hl := updS_len L (i := i) (by omega)
                have hi2 : i < (updS L i).length := by omega
                obtain ⟨R, cap, hv, -, -, hR, -, hrow, hsp⟩ := own_row3 Hown.out (by omega)
                rw [hl] at hv
                injection hv with hv1 _ hv3
                subst hv1 hv3
                obtain ⟨x, y, d0, d1, d2, -, -⟩ := hsp i hi2
                rw [updS_get hlt hi2] at d2
                have hset := Hown.out.spanSet hi2 (upN L[i].seq) (R := R) rfl
                simp only [updS_get hlt hi2] at hset
                rw [show (⟨L[i].frm, L[i].til, upN L[i].seq⟩ : SpanE) = upS L[i] from rfl, updS_set hlt, u64V_up] at hset
                have Hset := Lib.hid hset
                have hfz := hrow.free
                have hi0 : (0 : Int) ≤ (i : Int) := by omega
                have hi1 : (i : Int) < (L.length : Int) := by omega
                obtain ⟨s, hs⟩ : ∃ s, L[i] = s := ⟨_, rfl⟩
                rw [hs] at d2 Hset
                clear hs hset hl hi2 hsp hrow
                go_wp2
                go_roundw
                case rel => exact ⟨i + 1, by omega, by go_num, Hset.out, HX.out.setCell (p := ⟨R, i * 3 + 2, none⟩) (fun _ => rfl) _⟩
                case measure => simp [intOf] <;> omega
            · obtain rfl : i = L.length := by omega
              rw [updS_last] at Hown
              obtain ⟨w9, rfl⟩ : ∃ x : World, x = wo := ⟨_, rfl⟩
              have HXX : Hid (Ext w w9) := Lib.hid (HX8.out.then HX.out (fun b hb e => by have := (HO5l.out b e).1; omega))
              have HU9 := Lib.hid (HUs.out.out HX.out (fun b _ hb e => by have := (HO5l.out b e).2; omega))
              have HW9 := Lib.hid (HWs.out.out HX.out (fun b _ hb e => by have := (HO5l.out b e).2; omega))
              have HS9 := Lib.hid (Hown.out.sl (G := fun b => b < w9.heap.size) (by decide) (by show _ ≤ 140737488355328; rw [List.length_map]; omega) (fun b _ hl => hl) (fun b _ hl => hl))
              obtain ⟨L2, hL2⟩ : ∃ x, x = L.map upS := ⟨_, rfl⟩
              have hL2l : L2.length ≤ 14 := by rw [hL2, List.length_map]; omega
              rw [← hL2] at HS9 HLok
              obtain ⟨U, hU⟩ : ∃ x, x = sortE (us.map upE) := ⟨_, rfl⟩
              have hUl : U.length ≤ 20 := by rw [hU]; exact Nat.le_trans (sortE_length _) (by rw [List.length_map]; omega)
              have HUsort : Hid (SortedE U) := Lib.hid (by rw [hU]; exact sortE_sorted _)
              obtain ⟨W, hW⟩ : ∃ x, x = sortE (ls.map loE) := ⟨_, rfl⟩
              have hWl : W.length ≤ 20 := by rw [hW]; exact Nat.le_trans (sortE_length _) (by rw [List.length_map]; omega)
              obtain ⟨qk, hqk⟩ : ∃ x, x = l3.take k := ⟨_, rfl⟩
              have hqkl : qk.length ≤ 900 := by rw [hqk, List.length_take]; omega
              rw [← hqk] at HQ
              obtain ⟨K, hK⟩ : ∃ x, x = keepE U L2 false ((qk ++ [maxSeq]).map (·.toNat)) := ⟨_, rfl⟩
              have hKl : K.length ≤ 20 := by rw [hK]; exact Nat.le_trans keepE_sub.length_le hUl
              have HK := Lib.hid hK.symm
              have Hbel : Hid (∀ q : UInt64, q ∈ l3.take k ++ [maxSeq] → refSeen (sortE (K ++ W)) L2 q.toNat = refSeen (sortE (U ++ W)) L2 q.toNat) := Lib.hid fun q hq => by
                rw [hK, hU, hW]
                refine (below_lists (fun e he => ?_) (fun e he => ?_) (List.mem_map.2 ⟨q, by rw [hqk]; exact hq, rfl⟩)).symm
                · obtain ⟨x, -, rfl⟩ := List.mem_map.1 he
                  show 100 ≤ (upN x.key.seq).toNat
                  rw [up_nat]; omega
                · obtain ⟨x, -, rfl⟩ := List.mem_map.1 he
                  show (x.key.seq % 100).toNat < 100
                  rw [lo_nat]; omega
              have HUe := Lib.hid hU
              have HWe := Lib.hid hW
              have hreach2 : l3.length ≤ 17592186043904 := by omega
              clear Hown HX HUs HWs HO8 HX8 hK hU hW hqk hL2 hlt hi hzx' hreach
              obtain ⟨mks, -⟩ : ∃ x : Nat, x = 0 := ⟨0, rfl⟩
              go_upto_region 24 with (first
                | (have hh := mks; clear hh; go_at_call 58; refine (r12_sort _ _ HU9.out (by rw [List.length_map]; omega)).mono ?_; rw [← HUe.out]; rintro r wa ⟨va, rfl, hxa, hsa⟩; obtain ⟨Aa, na, ca, rfl⟩ := hsa.form0; have HXa := Lib.hid (HXX.out.ext hxa); have HUa := Lib.hid (hsa.mono (G := fun b => b < wa.heap.size) (fun b _ hl => hl) (.inl (by decide))); have HWa := Lib.hid (HW9.out.ext hxa); have HLa := Lib.hid (HS9.out.ext hxa); have hza := hxa.size; clear hxa hsa mks)
                | (go_at_call 58; refine (r12_sort _ _ HWa.out (by rw [List.length_map]; omega)).mono ?_; rw [← HWe.out]; rintro r wb ⟨vb, rfl, hxb, hsb⟩; obtain ⟨Ab, nb, cb, rfl⟩ := hsb.form0; have HXb := Lib.hid (HXa.out.ext hxb); have HWb := Lib.hid (hsb.mono (G := fun b => b < wb.heap.size) (fun b _ hl => hl) (.inl (by decide))); have HUb := Lib.hid (HUa.out.ext hxb); have HLb := Lib.hid (HLa.out.ext hxb); have hzb := hxb.size; clear hxb hsb))
              go_cut [16, 17] (fun s16 s17 wx => Sl entC wx (fun b => wb.heap.size ≤ b) s16 K ∧ Sl spanC wx (fun b => wb.heap.size ≤ b) s17 L2 ∧ Ext wb wx)
              case first =>
                by_cases h8 : l3.length ≤ 8
                · have h8i : (l3.length : Int) ≤ 8 := by omega
                  have hq2 : Sl u64C w (fun b => b < w.heap.size) (.slice Aq l3.length cq) qk := by
                    have h := HQ.out
                    rwa [Hk.out, Nat.min_eq_left h8] at h
                  clear h8
                  go_wp2_with (go_at_call 64; have hkp := gl_keep _ U L2 qk false HUb.out HLb.out (hq2.ext HXb.out) (fun b hb => by omega) HUsort.out HLok.out (by omega) (by omega) hqkl; rw [HK.out] at hkp; refine hkp.mono ?_; rintro r wk ⟨vk, uk, rfl, hxk, hsk, htk⟩; obtain ⟨Ak, nk, ck, rfl⟩ := hsk.form0; obtain ⟨Bk, mk', dk, rfl⟩ := htk.form0; have HXk := Lib.hid hxk; have HSk := Lib.hid hsk; have HTk := Lib.hid htk; clear hkp hxk hsk htk)
                  go_meet
                  exact ⟨HSk.out, HTk.out, HXk.out⟩
                · have h8i : ¬ (l3.length : Int) ≤ 8 := by omega
                  have h8j : (8 : Int) ≤ (cq : Int) := by omega
                  have hq2 : Sl u64C w (fun b => b < w.heap.size) (.slice Aq 8 cq) qk := by
                    have h := HQ.out
                    rwa [Hk.out, Nat.min_eq_right (by omega)] at h
                  clear h8
                  go_wp2_with (go_at_call 64; have hkp := gl_keep _ U L2 qk false HUb.out HLb.out (hq2.ext HXb.out) (fun b hb => by omega) HUsort.out HLok.out (by omega) (by omega) hqkl; rw [HK.out] at hkp; refine hkp.mono ?_; rintro r wk ⟨vk, uk, rfl, hxk, hsk, htk⟩; obtain ⟨Ak, nk, ck, rfl⟩ := hsk.form0; obtain ⟨Bk, mk', dk, rfl⟩ := htk.form0; have HXk := Lib.hid hxk; have HSk := Lib.hid hsk; have HTk := Lib.hid htk; clear hkp hxk hsk htk)
                  go_meet
                  exact ⟨HSk.out, HTk.out, HXk.out⟩
              case rest =>
                obtain ⟨wc', rfl⟩ : ∃ x : World, x = wc := ⟨_, rfl⟩
                obtain ⟨hsK, hsT, hxk⟩ := hcut
                obtain ⟨AK, nK, cK, rfl⟩ := hsK.form0
                obtain ⟨AT, nT, cT, rfl⟩ := hsT.form0
                have HXc := Lib.hid (HXb.out.ext hxk)
                have HKc := Lib.hid hsK
                have HTc := Lib.hid hsT
                have HUc := Lib.hid (HUb.out.ext hxk)
                have HWc := Lib.hid (HWb.out.ext hxk)
                have HLc := Lib.hid (HLb.out.ext hxk)
                have hzc := hxk.size
                clear hsK hsT hxk
                obtain ⟨qs, hqs⟩ : ∃ qs, qs = [maxSeq] ++ l3 := ⟨_, rfl⟩
                have hql : qs.length ≤ 17592186043905 := by rw [hqs, List.length_append, List.length_singleton]; omega
                have Hqm : Hid (∀ i (h : i < qs.length), i ≤ 8 → qs[i] ∈ l3.take k ++ [maxSeq]) := Lib.hid (by rw [hqs]; exact fun i h h8 => mem_first Hk.out h h8)
                have Hqs := Lib.hid hqs
                clear hqs
                go_wp2_with (at_builtin; refine wpList_append_sl rfl (.tmp 96) (.tmp 97) 83 rfl fits83G (own_oneG (B := wc'.heap.size) (F := fun _ => True) (blk_new wc' _) (Nat.le_refl _) rfl maxSeq rfl) rfl (by simp) ((H3.out.ext HXc.out).alloc _) rfl (fun i hi cs hc => hc) (by rw [List.length_singleton]; omega) (by decide) ?_; intro vd wd g1 g2 g3; rw [← Hqs.out] at g1; have hxd := (Ext.alloc1 wc' _).then g2 (fun b hb e => by simp [Value.ownBlock] at e; omega); have hsd := g1.sl (G := fun _ => True) (by decide) (by show _ ≤ 140737488355328; omega) (fun _ _ _ => trivial) (fun _ _ _ => trivial); obtain ⟨Ad, cd, rfl, -⟩ := hsd.form; have HN := Lib.hid hsd; have HXd := Lib.hid (HXc.out.ext hxd); have HKd := Lib.hid (HKc.out.ext hxd); have HTd := Lib.hid (HTc.out.ext hxd); have HUd := Lib.hid (HUc.out.ext hxd); have HWd := Lib.hid ((HWc.out.ext hxd).mono (G := fun b => b < wd.heap.size) (fun b _ hl => hl) (.inl (by decide))); have HLd := Lib.hid (HLc.out.ext hxd); clear g1 g2 g3 hxd hsd)
                go_loopw [100] (fun sb wr => ∃ i : Nat, i ≤ qs.length ∧ sb = .int .i64 i ∧ Ext wd wr) (fun sb _ => qs.length - (intOf sb).toNat)
                case atStart => exact ⟨0, Nat.zero_le _, rfl, Out.refl _ _⟩
                case round =>
                  obtain ⟨wo, rfl⟩ : ∃ x : World, x = wr := ⟨_, rfl⟩
                  obtain ⟨i, hi, rfl, hx⟩ := hrel
                  have HX := Lib.hid hx
                  have hzx := hx.size
                  clear hx
                  by_cases hlt : i < qs.length
                  · obtain ⟨bq, oq, hA, cqq⟩ := (HN.out.ext HX.out).numG i hlt
                    subst hA
                    have hi0 : (0 : Int) ≤ (i : Int) := by omega
                    have hi1 : (i : Int) < (qs.length : Int) := by omega
                    by_cases h8 : i ≤ 8
                    · have h8i : ¬ (8 : Int) < (i : Int) := by omega
                      have hmem := Hqm.out i hlt h8
                      obtain ⟨q, hq⟩ : ∃ q, qs[i] = q := ⟨_, rfl⟩
                      rw [hq] at cqq hmem
                      have Hbl := Lib.hid (Hbel.out q hmem)
                      clear hmem hq h8
                      obtain ⟨mkp1, -⟩ : ∃ x : Nat, x = 0 := ⟨0, rfl⟩
                      go_wp2_with (first
                        | (have hh := mkp1; clear hh; go_at_call 38; refine (r3_twinsG _ U (HUd.out.ext HX.out) (by omega)).mono ?_; rintro r wp1 ⟨v, rfl, hxx, hoo⟩; obtain ⟨Awp1, kwp1, cwp1, rfl⟩ := hoo.form0; have HXwp1 := Lib.hid (HX.out.ext hxx); have Hzwp1 := Lib.hid HXwp1.out.size; have hzz := hxx.size; have hol := hoo.lt; have Hlwp1 := Lib.hid fun b hb => Nat.le_trans HX.out.size (hol b hb).1; have Howp1 := Lib.hid ((hoo.mono (G := fun _ => True) (fun _ _ _ => trivial)).baseM HX.out.size); clear hxx hoo hzz hol mkp1; obtain ⟨mkp2, -⟩ : ∃ x : Nat, x = 0 := ⟨0, rfl⟩)
                        | (have hh := mkp2; clear hh; at_builtin; refine wpList_append_sl rfl (.tmp 108) (.tmp 109) 43 rfl fits32 Howp1.out rfl Hzwp1.out (HWd.out.ext HXwp1.out) rfl (fun i h cs hr => entC.mono hr fun b hb _ => ⟨trivial, fun e => by have := Hlwp1.out _ e; omega⟩) (by omega) (by decide) ?_; intro v wp2 g1 g2 g3; have hss := g1.sl (G := fun b => b < wp2.heap.size) (by decide) (by show _ ≤ 140737488355328; rw [List.length_append]; omega) (fun b _ hl => hl) (fun b _ hl => hl); obtain ⟨Awp2, kwp2, cwp2, rfl⟩ := hss.form0; have HXwp2 := Lib.hid (HXwp1.out.then g2 (fun b hb e => by have := Hlwp1.out _ e; omega)); have HSwp2 := Lib.hid hss; clear g1 g2 g3 hss mkp2; obtain ⟨mkp3, -⟩ : ∃ x : Nat, x = 0 := ⟨0, rfl⟩)
                        | (have hh := mkp3; clear hh; go_at_call 58; refine (r12_sort _ _ HSwp2.out (by rw [List.length_append]; omega)).mono ?_; rintro r wp3 ⟨v, rfl, hxx, hss⟩; obtain ⟨Awp3, kwp3, cwp3, rfl⟩ := hss.form0; have HXwp3 := Lib.hid (HXwp2.out.ext hxx); have HSwp3 := Lib.hid hss; clear hxx hss mkp3; obtain ⟨mkp4, -⟩ : ∃ x : Nat, x = 0 := ⟨0, rfl⟩)
                        | (have hh := mkp4; clear hh; go_at_call 67; refine (r15_seen _ _ L2 q.toNat HSwp3.out (HLd.out.ext HXwp3.out) (Nat.le_trans (sortE_length _) (by rw [List.length_append]; omega))).mono ?_; rintro r wp4 ⟨v, rfl, hxx, hss⟩; obtain ⟨Awp4, kwp4, cwp4, rfl⟩ := hss.form0; have HXwp4 := Lib.hid (HXwp3.out.ext hxx); have HSp := Lib.hid hss; obtain ⟨mkr1, -⟩ : ∃ x : Nat, x = 0 := ⟨0, rfl⟩; clear hxx hss mkp4)
                        | (have hh := mkr1; clear hh; go_at_call 38; refine (r3_twinsG _ K (HKd.out.ext HXwp4.out) (by omega)).mono ?_; rintro r wr1 ⟨v, rfl, hxx, hoo⟩; obtain ⟨Awr1, kwr1, cwr1, rfl⟩ := hoo.form0; have HXwr1 := Lib.hid (HXwp4.out.ext hxx); have HY1 := Lib.hid hxx; have Hzwr1 := Lib.hid HXwr1.out.size; have hzz := hxx.size; have hol := hoo.lt; have Hlwr1b := Lib.hid fun b hb => (hol b hb).1; have Hlwr1 := Lib.hid fun b hb => Nat.le_trans HXwp4.out.size (hol b hb).1; have Howr1 := Lib.hid ((hoo.mono (G := fun _ => True) (fun _ _ _ => trivial)).baseM HXwp4.out.size); clear hxx hoo hzz hol mkr1; obtain ⟨mkr2, -⟩ : ∃ x : Nat, x = 0 := ⟨0, rfl⟩)
                        | (have hh := mkr2; clear hh; at_builtin; refine wpList_append_sl rfl (.tmp 116) (.tmp 117) 43 rfl fits32 Howr1.out rfl Hzwr1.out (HWd.out.ext HXwr1.out) rfl (fun i h cs hr => entC.mono hr fun b hb _ => ⟨trivial, fun e => by have := Hlwr1.out _ e; omega⟩) (by omega) (by decide) ?_; intro v wr2 g1 g2 g3; have hss := g1.sl (G := fun b => b < wr2.heap.size) (by decide) (by show _ ≤ 140737488355328; rw [List.length_append]; omega) (fun b _ hl => hl) (fun b _ hl => hl); obtain ⟨Awr2, kwr2, cwr2, rfl⟩ := hss.form0; have HXwr2 := Lib.hid (HXwr1.out.then g2 (fun b hb e => by have := Hlwr1.out _ e; omega)); have HY2 := Lib.hid (HY1.out.then g2 (fun b hb e => by have := Hlwr1b.out _ e; omega)); have HSwr2 := Lib.hid hss; clear g1 g2 g3 hss mkr2; obtain ⟨mkr3, -⟩ : ∃ x : Nat, x = 0 := ⟨0, rfl⟩)
                        | (have hh := mkr3; clear hh; go_at_call 58; refine (r12_sort _ _ HSwr2.out (by rw [List.length_append]; omega)).mono ?_; rintro r wr3 ⟨v, rfl, hxx, hss⟩; obtain ⟨Awr3, kwr3, cwr3, rfl⟩ := hss.form0; have HXwr3 := Lib.hid (HXwr2.out.ext hxx); have HY3 := Lib.hid (HY2.out.ext hxx); have HSwr3 := Lib.hid hss; clear hxx hss mkr3; obtain ⟨mkr4, -⟩ : ∃ x : Nat, x = 0 := ⟨0, rfl⟩)
                        | (have hh := mkr4; clear hh; go_at_call 67; refine (r15_seen _ _ L2 q.toNat HSwr3.out (HTd.out.ext HXwr3.out) (Nat.le_trans (sortE_length _) (by rw [List.length_append]; omega))).mono ?_; rintro r wr4 ⟨v, rfl, hxx, hss⟩; obtain ⟨Awr4, kwr4, cwr4, rfl⟩ := hss.form0; have HXwr4 := Lib.hid (HXwr3.out.ext hxx); have HXrel := Lib.hid (HY3.out.ext hxx); rw [Hbl.out] at hss; have HSQ := Lib.hid (r4_samePairs _ _ ((HSp.out.ext (HXrel.out))) hss); clear hxx hss mkr4)
                        | (go_at_call 68; refine HSQ.out.mono ?_; rintro r we ⟨rfl, hxe⟩; have HXend := Lib.hid (HXwr4.out.ext hxe); clear hxe))
                      go_roundw
                      case rel => exact ⟨i + 1, by omega, by go_num, HXend.out⟩
                      case measure => simp [intOf] <;> omega
                    · have h8i : (8 : Int) < (i : Int) := by omega
                      go_wp2
                      go_ret
                      exact ⟨rfl, HXd.out.ext HX.out⟩
                  · go_wp2
                    go_ret
                    exact ⟨rfl, HXd.out.ext HX.out⟩
end Go.Proofs.Yteaanagljmcidaa
