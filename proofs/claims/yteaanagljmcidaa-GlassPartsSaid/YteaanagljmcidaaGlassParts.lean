/- law15: GlassParts. -/
import Derived.Test.YteaanagljmcidaaPkJ
namespace Go.Proofs.Yteaanagljmcidaa
open Go.RowKit

attribute [local go_sem ↓] Go.wp_at_zero Go.wp_at_succ

theorem r1_copyO (w : World) {F : Nat → Prop} {a : Value} {la : List UInt8} (ha : Bs w F a la) : Calls Try.prog 80 #[a] w (OwnedM byteC 5 w la) := by
  have hl : la.length ≤ big := let ⟨_, _, _, _, _, h, _⟩ := ha; h
  have ho : Own byteC 5 (w.alloc (.cells #[] 5)) w.heap.size (fun b => w.heap.size ≤ b) (.slice (some ⟨w.heap.size, 0, none⟩) 0 0) [] := Own.empty _ _ _ _
  have ha' := ha.ext ((Out.refl _ w).alloc (.cells #[] 5))
  go_enter Try.func80, Try.ntmps80
  go_wp2_with (at_builtin; refine wpList_append_sl rfl (.tmp 3) (.tmp 4) 27 rfl fits5 ho rfl (by simp) ha' rfl (fun _ _ _ h => h) (by simp; unfold big at *; omega) (by decide) ?_; intro v' w' h1 h2 h3)
  go_ret
  rw [List.nil_append] at h1
  exact ⟨_, rfl, (Ext.alloc1 _ _).then h2 (fun b hb e => by simp [Value.ownBlock] at e; omega), h1⟩
theorem gl_scanI {w : World} {F H : Nat → Prop} {G : Nat} {v : Value} {m : List PairE} (h : Gl w F G v m) {fv : Value} (frm : List UInt8) (hf : Bs w H fv frm) (z : Int) (st c : Nat) (hz : z = (st : Int)) (hst : st ≤ 1000) (hc : lowP m frm = c) (hml : m.length ≤ 1000000) :
    Calls Try.prog 79 #[.pointer (some ⟨G, 0, none⟩), fv, .slice none 0 0, .int .i64 z, .bool false] w (OwnedM pairC 107 w ((m.drop c).take st)) := by
  subst hz hc
  have := gl_scan h frm [] hf (Sl.nil byteC w (fun _ => False)) (st : Int) false (by omega) (by omega) hml
  rwa [scan_part] at this

set_option maxRecDepth 100000 in
set_option maxHeartbeats 8000000 in
theorem glassParts_walk (w : World) {F0 F1 : Nat → Prop} {v0 v1 : Value} (l0 : List Ent) (h0 : Sl entCA w F0 v0 l0) (l1 : List SpanE) (h1 : Sl spanCA w F1 v1 l1) (q : UInt64) (step : UInt8) :
    Calls Try.prog 19 #[v0, v1, u64V q, byteV step] w fun e w' => e = .returned (.bool true) ∧ Ext w w' := by
  obtain ⟨A0, n0, c0, rfl⟩ := h0.form0
  obtain ⟨A1, n1, c1, rfl⟩ := h1.form0
  have H0 := Lib.hid h0
  have H1 := Lib.hid h1
  clear h0 h1
  go_enter Try.func19, Try.ntmps19
  go_wp2_with (first
    | (go_at_call 61; refine (law15_awake _).mono ?_; rintro r w1 ⟨rfl, hx1⟩; have HX1 := Lib.hid hx1; have HA0 := Lib.hid (H0.out.ext hx1); have HB0 := Lib.hid (H1.out.ext hx1); have hz1 := hx1.size; clear hx1)
    | (go_at_call 59; refine (r3_few _ l0 HA0.out 30 (by decide)).mono ?_; rintro r w2 ⟨v2, rfl, hx2, hs2⟩; obtain ⟨A2, n2, c2, rfl⟩ := hs2.form0; have HX2 := Lib.hid (HX1.out.ext hx2); have HS2 := Lib.hid hs2; have HB2 := Lib.hid (HB0.out.ext hx2); have hz2 := hx2.size; clear hx2 hs2)
    | (go_at_call 58; refine (r12_sort _ _ HS2.out (by rw [List.length_map, List.length_take]; omega)).mono ?_; rintro r w3 ⟨v3, rfl, hx3, hs3⟩; obtain ⟨A3, n3, c3, rfl⟩ := hs3.form0; have HX3 := Lib.hid (HX2.out.ext hx3); have hz3 := hx3.size; have HS3 := Lib.hid (hs3.mono (G := fun b => b < w3.heap.size) (fun b _ hl => hl) (.inl (by decide))); have HB3 := Lib.hid (HB2.out.ext hx3); clear hx3 hs3)
    | (go_at_call 63; refine (r9_few _ l1 HB3.out 14 (by decide)).mono ?_; rintro r w4 ⟨v4, rfl, hx4, ho4⟩; have hs4 := ho4.sl (G := fun b => b < w4.heap.size) (by decide) (by show _ ≤ 140737488355328; rw [List.length_map, List.length_take]; omega) (fun b _ hl => hl) (fun b _ hl => hl); obtain ⟨A4, n4, c4, rfl⟩ := hs4.form0; have HX4 := Lib.hid (HX3.out.ext hx4); have hz4 := hx4.size; have HE4 := Lib.hid (HS3.out.ext hx4); have HS4 := Lib.hid hs4; clear hx4 ho4 hs4)
    | (go_at_call 62; refine (r9_right _ _ HS4.out (fun _ h => h) (by rw [List.length_map, List.length_take]; omega)).mono ?_; rintro r w5 ⟨v5, rfl, hx5, hs5⟩; obtain ⟨A5, n5, c5, rfl⟩ := hs5.form0; have HX5 := Lib.hid (HX4.out.ext hx5); have hz5 := hx5.size; have HE5 := Lib.hid ((HE4.out.ext hx5).mono (G := fun b => b < w5.heap.size) (fun b _ hl => hl) (.inl (by decide))); have HT5 := Lib.hid (hs5.mono (G := fun b => b < w5.heap.size) (fun b _ hl => hl) (.inl (by decide))); clear hx5 hs5)
    | (go_at_call 78; refine (gl_newI _ (lawE l0) (lawS l1) HE5.out HT5.out (fun b hb => by omega) (fun b hb => by omega) (lawE_sorted l0) (lawS_ok l1) (by have := lawE_len l0; omega) (by have := lawS_len l1; omega) _ q.toNat rfl rfl).mono ?_; rintro r w8 ⟨G, gv, rfl, hx8, hg8⟩; have HX8 := Lib.hid (HX5.out.ext hx8); have hm8 := seenE_length (lawE l0) (lawS l1) q.toNat; have hm9 := lawE_len l0; have HS8 := Lib.hid hg8.srt; have HG8 := Lib.hid hg8; have Hky := Lib.hid (fun p (hp : p ∈ seenE (lawE l0) (lawS l1) q.toNat) => seenE_keys hp); obtain ⟨m, hm⟩ : ∃ m, seenE (lawE l0) (lawS l1) q.toNat = m := ⟨_, rfl⟩; rw [hm] at HS8 HG8 hm8 Hky; have hml : m.length ≤ 30 := (by omega); clear hx8 hg8 hm hm8 hm9)
    | (go_at_call 79; have hsc := gl_scan HG8.out [] [] (Sl.nil byteC w8 (fun _ => False)) (Sl.nil byteC w8 (fun _ => False)) 1000 false (by decide) (by decide) (by omega); rw [scan_all HS8.out (by omega)] at hsc; refine hsc.mono ?_; rintro r w9 ⟨v9, rfl, hx9, ho9⟩; have HX9 := Lib.hid (HX8.out.ext hx9); have HG9 := Lib.hid (HG8.out.ext hx9); have hs9 := ho9.sl (G := fun b => b < w9.heap.size) (by decide) (by show _ ≤ 140737488355328; omega) (fun b _ hl => hl) (fun b _ hl => hl); obtain ⟨A9, c9, rfl, -⟩ := hs9.form; have HS9 := Lib.hid hs9; clear hsc hx9 ho9 hs9))
  go_loopw [12, 13, 34] (fun s12 s13 s34 wr => ∃ (i c : Nat) (frm : List UInt8), i ≤ c ∧ c ≤ m.length ∧ s34 = .int .i64 i ∧ Own pairC 107 wr w9.heap.size (fun b => w9.heap.size ≤ b) s12 (m.take c) ∧ (∃ F, Bs wr F s13 frm) ∧ Hid (lowP m frm = c) ∧ Ext w9 wr) (fun _ _ s34 _ => 40 - (intOf s34).toNat)
  case atStart => exact ⟨0, 0, [], Nat.le_refl _, Nat.zero_le _, rfl, Own.nil _ _ _ _ _, ⟨_, Sl.nil byteC w9 (fun _ => False)⟩, Lib.hid (lowP_nil HS8.out), Out.refl _ _⟩
  case round =>
    obtain ⟨wo, rfl⟩ : ∃ x : World, x = wr := ⟨_, rfl⟩
    obtain ⟨i, c, frm, hic, hcm, rfl, hown, ⟨Ff, hfrm⟩, Hlow, hx⟩ := hrel
    obtain ⟨A2, n2, c2, rfl⟩ := hown.form0
    obtain ⟨U3, N3, n3, rfl⟩ := hfrm.form0
    have HX := Lib.hid hx
    have Hown := Lib.hid hown
    have Hlt := Lib.hid hown.lt
    have Hfrm := Lib.hid hfrm
    have hzx := hx.size
    have hi40 : (i : Int) < 40 := by omega
    have hst1 : 1 + step.toNat % 5 ≤ 1000 := by omega
    clear hx hown hfrm
    by_cases hc : c < m.length
    · obtain ⟨j, hj, hcj, hlen, htk, hget⟩ := part_step hc (st := 1 + step.toNat % 5) (by omega)
      obtain ⟨P, hP⟩ : ∃ P, (m.drop c).take (1 + step.toNat % 5) = P := ⟨_, rfl⟩
      simp only [hP] at hlen htk hget
      have HP := Lib.hid hP
      have hPl : P.length ≤ 30 := by omega
      have hPi : P.length - 1 < P.length := by omega
      have hPj : P[P.length - 1] = m[j] := by
        rw [← hget (by omega)]
        congr 1
        omega
      have Hnx := Lib.hid (lowP_next HS8.out hj)
      have Htk := Lib.hid htk
      have hpb : ((P.length : Int) == 0) = false := by rw [beq_eq_false_iff_ne]; omega
      have hwp : IntKind.i64.wrap ((P.length : Int) - 1) = ((P.length - 1 : Nat) : Int) := by rw [IntKind.wrap_i64]; omega
      have HPj := Lib.hid hPj
      have hlen2 : (m.take c).length = c := by rw [List.length_take]; omega
      have Hl2 := Lib.hid hlen2
      clear hP hlen htk hget hPj hlen2 hc
      have Hz : Hid ((1 + (step.toNat : Int) % 5) = ((1 + step.toNat % 5 : Nat) : Int)) := Lib.hid (by omega)
      have hws : IntKind.i64.wrap (1 + (step.toNat : Int) % 5) = 1 + (step.toNat : Int) % 5 := by rw [IntKind.wrap_i64]; omega
      have hkl : m[j].key.length ≤ 80 := Hky.out _ (List.getElem_mem hj)
      have hPlN : P.length - 1 < P.length := hPi
      have hPi0 : (0 : Int) ≤ ((P.length - 1 : Nat) : Int) := by omega
      have hPi1 : ((P.length - 1 : Nat) : Int) < (P.length : Int) := by omega
      obtain ⟨mkA, -⟩ : ∃ x : Nat, x = 0 := ⟨0, rfl⟩
      go_wp2_with (first
        | (go_at_call 79; have hsc := gl_scanI (HG9.out.ext HX.out) frm Hfrm.out _ (1 + step.toNat % 5) c Hz.out hst1 Hlow.out (by omega); rw [HP.out] at hsc; refine hsc.mono ?_; rintro r w2 ⟨vp, rfl, hx2, hop⟩; have hsp := hop.sl (G := fun b => wo.heap.size ≤ b ∧ b < w2.heap.size) (by decide) (by show _ ≤ 140737488355328; omega) (fun b hb hl => ⟨hb, hl⟩) (fun b hb hl => ⟨hb, hl⟩); obtain ⟨Ap, cp, rfl, -⟩ := hsp.form; obtain ⟨b1, o1, up, vq, hAp, hb1, d0, d1, hup, hvq⟩ := hsp.pair (P.length - 1) hPi; subst hAp; rw [HPj.out] at hup; obtain ⟨U4, N4, n4, rfl⟩ := hup.form0; have HSp := Lib.hid hsp; have Hup := Lib.hid hup; have HXa := Lib.hid (HX.out.ext hx2); have Hown2 := Lib.hid (Hown.out.ext hx2); have hza := hx2.size; clear hsc hx2 hop hsp hup hvq d1)
        | (have hh := mkA; clear hh; at_builtin; refine wpList_append_sl rfl (.tmp 46) (.tmp 47) 93 rfl fits107 Hown2.out rfl (by omega) HSp.out rfl (fun i h cs hr => pairC.mono hr fun b hb _ => ⟨by omega, fun e => by have := (Hlt.out _ e).2; omega⟩) (by rw [Hl2.out]; omega) (by decide) ?_; intro v5 w5 g1 g2 g3; rw [Htk.out] at g1; obtain ⟨A5', k5, m5, rfl⟩ := g1.form0; have e0 := g2.cell d0 (fun e => by have := (Hlt.out _ e).2; dsimp only at this; omega); have G1 := Lib.hid (g1.mono (G := fun b => w9.heap.size ≤ b ∧ b < w5.heap.size) (fun b hb hl => ⟨hb, hl⟩)); have G1l := Lib.hid g1.lt; have HX5b := Lib.hid (HXa.out.then g2 (fun b hb e => by have := (Hlt.out _ e).1; omega)); have Hup5 := Lib.hid (Hup.out.out g2 (fun b _ hb e => by have := (Hlt.out _ e).2; omega)); have hz5' := g2.size; clear g1 g2 g3 mkA d0)
        | (go_at_call 80; refine (r1_copyO _ Hup5.out).mono ?_; rintro r w6 ⟨v6, rfl, hx6, ho6⟩; obtain ⟨A6, k6, m6, rfl⟩ := ho6.form0; have HX6 := Lib.hid (HX5b.out.ext hx6); have Ho6 := Lib.hid ho6; have H6l := Lib.hid ho6.lt; have G6 := Lib.hid (G1.out.ext hx6); have hz6 := hx6.size; clear hx6 ho6)
        | (at_builtin; refine wpList_append_one rfl (.tmp 56) (.tmp 57) 27 rfl fits5 (Ho6.out.ext (Ext.alloc1 _ _)) rfl (by (try simp only [World.size_alloc]); omega) (blk_new _ _) rfl (0 : UInt8) rfl (by omega) (by decide) ?_; intro v7 w7 g1 g2 g3; obtain ⟨A7, k7, m7, rfl⟩ := g1.form0; have G7 := Lib.hid g1; have G8 := Lib.hid g2; clear g1 g2 g3))
      go_roundw
      case rel =>
        have hE : Out (fun b => w5.heap.size ≤ b) (w6.alloc (.cells #[.int .u8 0] 5)) w7 := G8.out.mono fun b _ e => (H6l.out b e).1
        refine ⟨i + 1, j + 1, m[j].key ++ [0], by omega, by omega, by go_num, ?_, ⟨fun _ => True, G7.out.sl (by decide) (by show _ ≤ 140737488355328; rw [List.length_append, List.length_singleton]; omega) (fun _ _ _ => trivial) (fun _ _ _ => trivial)⟩, Lib.hid Hnx.out, (HX6.out.alloc _).then hE (fun b hb e => by have := HX5b.out.size; omega)⟩
        exact ((G6.out.ext (Ext.alloc1 _ _)).frame hE (fun b _ _ hb e => by have := (G1l.out b hb).2; omega) (fun b _ hb _ e => by omega)).mono (fun b hb _ => hb.1)
      case measure => simp [intOf] <;> omega
    · obtain rfl : c = m.length := by omega
      rw [List.take_length] at Hown
      have Hz : Hid ((1 + (step.toNat : Int) % 5) = ((1 + step.toNat % 5 : Nat) : Int)) := Lib.hid (by omega)
      have hws : IntKind.i64.wrap (1 + (step.toNat : Int) % 5) = 1 + (step.toNat : Int) % 5 := by rw [IntKind.wrap_i64]; omega
      go_wp2_with (first
        | (go_at_call 79; have hsc := gl_scanI (HG9.out.ext HX.out) frm Hfrm.out _ (1 + step.toNat % 5) m.length Hz.out hst1 Hlow.out (by omega); rw [List.drop_length, List.take_nil] at hsc; refine hsc.mono ?_; rintro r w2 ⟨vp, rfl, hx2, hop⟩; obtain ⟨Ap, cp, rfl, -⟩ := hop.form; have HXa := Lib.hid (HX.out.ext hx2); have hs2 := (Hown.out.ext hx2).sl (G := fun _ => True) (by decide) (by show _ ≤ 140737488355328; omega) (fun _ _ _ => trivial) (fun _ _ _ => trivial); have HSP := Lib.hid (r4_samePairs w2 m hs2 (HS9.out.ext HXa.out)); have HGa := Lib.hid (HG9.out.ext HXa.out); clear hsc hx2 hop hs2)
        | (go_at_call 68; refine HSP.out.mono ?_; rintro r w4 ⟨rfl, hx4⟩; have HX4 := Lib.hid (HXa.out.ext hx4); have HG4 := Lib.hid (HGa.out.ext hx4); clear hx4)
        | (go_at_call 81; refine (gl_len HG4.out).mono ?_; rintro r w5 ⟨rfl, rfl⟩))
      go_ret
      exact ⟨(by simp), HX9.out.ext HX4.out⟩
end Go.Proofs.Yteaanagljmcidaa
