/- law10: MemoStays. -/
import Derived.Test.YteaanagljmcidaaRunR
namespace Go.Proofs.Yteaanagljmcidaa
open Go.RowKit

attribute [local go_sem ↓] Go.wp_at_zero Go.wp_at_succ

/-- A script more, on what stands behind another one. -/
theorem law10_more {w0 w : World} {F : Nat → Prop} {M R B : Nat} {v : Value} {s : MS} {x : XL} (h : Ran w0 B M R 1920 s x) (hx : Ext w0 w) (script : List StepE) (hv : Sl stepCA w F v script) (hF : ∀ b, F b → b < B) (hB : B ≤ w0.heap.size) :
    Calls Try.prog 71 #[.pointer (some ⟨M, 0, none⟩), .pointer (some ⟨R, 0, none⟩), v] w fun e w' => e = .returned (.bool true) ∧ Out (fun b => B ≤ b ∧ b < w0.heap.size) w w' ∧ ∃ s' y, Ran w' B M R 3840 s' (x ++ y) ∧ ∀ p ∈ y, lastX x < p.2 := by
  have hz := hx.size
  refine (law10_run _ script hv (fun b hb h => by have := hF b hb; omega) (h.pr.ext hx) (n0 := 1920) ⟨h.rel, h.good, h.ok, h.len⟩ (by decide) (fun b hb => by omega)).mono ?_
  rintro e w' ⟨rfl, st', hok, hg, ho, hp'⟩
  refine ⟨rfl, ho, ?_⟩
  match st', hok, hg, hp' with
  | none, _, hg, _ => exact hg.elim
  | some (s', x'), ⟨h1, h2, h3, h4⟩, ⟨y, hy, hq⟩, hp' =>
    subst hy
    refine ⟨s', y, ⟨h1, h2, h3.le (by omega), by omega, hp'.mono fun b hb hk => ⟨?_, hb⟩⟩, hq⟩
    have h5 : (B ≤ b ∧ b < w0.heap.size) ∨ w.heap.size ≤ b := hk.1
    omega

def bytesC : Codec (List UInt8) := slC byteC (by decide)
theorem fits116 : Fits Try.prog 116 27 bytesC.size 24 := fits_of Try.underlying116 (by decide) (by kernel_rfl : (Try.prog.info? 27).map (fun i => (i.zero, i.size, i.bytes)) = some (some (.slice none 0 0), 1, 24)) rfl

/-- Two lists that grow side by side. -/
structure Two (w : World) (B : Nat) (FO : Nat → Prop) (va vb : Value) (la : List (List UInt8)) (lb : List Int) : Prop where
  a : Own bytesC 27 w B FO va la
  b : Own intC 3 w B (fun _ => False) vb lb
  ab : ∀ k, va.ownBlock = some k → vb.ownBlock ≠ some k
  cb : ∀ k, vb.ownBlock = some k → ¬ FO k
  lF : ∀ k, FO k → B ≤ k ∧ k < w.heap.size

section
variable {w w' : World} {B : Nat} {FO : Nat → Prop} {va vb : Value} {la : List (List UInt8)} {lb : List Int}
theorem Two.out {S : Nat → Prop} (h : Two w B FO va vb la lb) (ho : Out S w w') (hs : ∀ k, B ≤ k → k < w.heap.size → ¬ S k) : Two w' B FO va vb la lb :=
  ⟨h.a.frame ho (fun b _ _ hb => hs b (h.a.lt b hb).1 (h.a.lt b hb).2) (fun b _ hb _ => hs b (h.lF b hb).1 (h.lF b hb).2), h.b.frame ho (fun b _ _ hb => hs b (h.b.lt b hb).1 (h.b.lt b hb).2) (fun _ _ hb _ => hb.elim), h.ab, h.cb, fun k hk => ⟨(h.lF k hk).1, Nat.lt_of_lt_of_le (h.lF k hk).2 ho.size⟩⟩
theorem Two.ext (h : Two w B FO va vb la lb) (ho : Ext w w') : Two w' B FO va vb la lb := h.out ho fun _ _ _ f => f
theorem Two.nil (w : World) (B : Nat) : Two w B (fun _ => False) (.slice none 0 0) (.slice none 0 0) [] [] :=
  ⟨Own.nil _ _ _ _ _, Own.nil _ _ _ _ _, (fun k e => by cases e), (fun k e => by cases e), fun k f => f.elim⟩
theorem Two.setA (h : Two w B FO va vb la lb) {va' : Value} {FO' : Nat → Prop} {la' : List (List UInt8)} (g1 : Own bytesC 27 w' B FO' va' la') (g2 : Out (fun b => va.ownBlock = some b) w w') (g3 : va'.ownBlock = va.ownBlock ∨ va'.ownBlock = some w.heap.size)
    (k2 : ∀ b, vb.ownBlock = some b → ¬ FO' b) (k3 : ∀ b, FO' b → B ≤ b) : Two w' B (fun b => FO' b ∧ b < w'.heap.size) va' vb la' lb := by
  refine ⟨g1.mono fun b hb hlt => ⟨hb, hlt⟩, h.b.frame g2 (fun b _ _ hb e => h.ab b e hb) (fun _ _ hb _ => hb.elim), ?_, fun k hk hc => k2 k hk hc.1, fun k hk => ⟨k3 k hk.1, hk.2⟩⟩
  intro b hb hc
  rcases g3 with g3 | g3
  · exact h.ab b (g3 ▸ hb) hc
  · rw [g3] at hb; injection hb with hb; have := (h.b.lt b hc).2; omega
theorem Two.setB (h : Two w B FO va vb la lb) {vb' : Value} {lb' : List Int} (g1 : Own intC 3 w' B (fun _ => False) vb' lb') (g2 : Out (fun b => vb.ownBlock = some b) w w') (g3 : vb'.ownBlock = vb.ownBlock ∨ vb'.ownBlock = some w.heap.size) : Two w' B FO va vb' la lb' := by
  refine ⟨h.a.frame g2 (fun b _ _ hb e => h.ab b hb e) (fun b _ hb _ e => h.cb b e hb), g1, ?_, ?_, fun k hk => ⟨(h.lF k hk).1, Nat.lt_of_lt_of_le (h.lF k hk).2 g2.size⟩⟩
  · intro b hb hc
    rcases g3 with g3 | g3
    · exact h.ab b hb (g3 ▸ hc)
    · rw [g3] at hc; injection hc with hc; have := (h.a.lt b hb).2; omega
  · intro b hb hc
    rcases g3 with g3 | g3
    · exact h.cb b (g3 ▸ hb) hc
    · rw [g3] at hb; injection hb with hb; have := (h.lF b hc).2; omega
theorem Two.atA (h : Two w B FO va vb la lb) (i : Nat) (hi : i < la.length) (hl : la.length ≤ 1000) : ∃ b off cap v, va = .slice (some ⟨b, off, none⟩) la.length cap ∧ w.cell? ⟨b, off + i, none⟩ = some v ∧ Bs w (fun _ => True) v la[i] := by
  have hs := h.a.sl (G := fun _ => True) (by decide) (by show _ ≤ 140737488355328; omega) (fun _ _ _ => trivial) (fun _ _ _ => trivial)
  obtain ⟨A, cap, rfl, -⟩ := hs.form
  obtain ⟨b, off, cs, hA, -, hat, v, rfl, hb⟩ := hs.get i hi
  have h1 := hat.cell 0 _ rfl
  subst hA
  exact ⟨b, off, cap, v, rfl, by simpa [bytesC, slC] using h1, hb⟩
theorem Two.atB (h : Two w B FO va vb la lb) (i : Nat) (hi : i < lb.length) (hl : lb.length ≤ 1000) : ∃ b off cap, vb = .slice (some ⟨b, off, none⟩) lb.length cap ∧ w.cell? ⟨b, off + i, none⟩ = some (.int .i64 lb[i]) := by
  have hs := h.b.sl (G := fun _ => True) (by decide) (by show _ ≤ 140737488355328; omega) (fun _ _ _ => trivial) (fun _ _ _ => trivial)
  obtain ⟨A, cap, rfl, -⟩ := hs.form
  obtain ⟨b, off, hA, -, h1⟩ := hs.int i hi
  subst hA
  exact ⟨b, off, cap, rfl, h1⟩
end

theorem Sl.bytesA {w : World} {F : Nat → Prop} {A : Option Addr} {n cap : Nat} {l : List (List UInt8)} (h : Sl bytesCA w F (.slice A n cap) l) (i : Nat) (hi : i < l.length) :
    ∃ b off u, A = some ⟨b, off, none⟩ ∧ F b ∧ w.cell? ⟨b, off + i, none⟩ = some u ∧ BsA w F u l[i] := by
  obtain ⟨b, off, cs, hA, hF, hat, u, rfl, hb⟩ := h.get i hi
  have h1 := hat.cell 0 _ rfl
  exact ⟨b, off, u, hA, hF, by simpa [bytesCA, slC] using h1, hb⟩

theorem getX_state (x : XL) (key : List UInt8) (q : Nat) : 0 ≤ (getX x key q).2 ∧ (getX x key q).2 ≤ 2 := by
  unfold getX tellX
  cases x.reverse.find? (qualX key q) with
  | none => simp
  | some p => simp only; split <;> simp
def valsX (x : XL) (q : Nat) (ks : List (List UInt8)) : List (List UInt8) := ks.map fun k => (getX x (k.take 80) q).1
def statesX (x : XL) (q : Nat) (ks : List (List UInt8)) : List Int := ks.map fun k => (getX x (k.take 80) q).2
theorem valsX_succ {x : XL} {q : Nat} {ks : List (List UInt8)} {i : Nat} (h : i < ks.length) : valsX x q (ks.take (i + 1)) = valsX x q (ks.take i) ++ [(getX x ((ks[i]).take 80) q).1] := by
  unfold valsX; rw [List.take_succ_eq_append_getElem h, List.map_append]; rfl
theorem statesX_succ {x : XL} {q : Nat} {ks : List (List UInt8)} {i : Nat} (h : i < ks.length) : statesX x q (ks.take (i + 1)) = statesX x q (ks.take i) ++ [(getX x ((ks[i]).take 80) q).2] := by
  unfold statesX; rw [List.take_succ_eq_append_getElem h, List.map_append]; rfl

set_option maxRecDepth 100000 in
set_option maxHeartbeats 8000000 in
theorem memoStays_walk (w : World) {F G H : Nat → Prop} {v v2 kv : Value} (script : List StepE) (hv : Sl stepCA w F v script) (later : List StepE) (hv2 : Sl stepCA w G v2 later) (keys : List (List UInt8)) (hk : Sl bytesCA w H kv keys) : Calls Try.prog 17 #[v, v2, kv] w fun e w' => e = .returned (.bool true) ∧ Ext w w' := by
  obtain ⟨A, N, n, rfl⟩ := hv.form0
  obtain ⟨A2, N2, n2, rfl⟩ := hv2.form0
  obtain ⟨U, n1, rfl, hle, -, hk3, -⟩ := hk.form
  have hk3 : keys.length ≤ 9223372036854775807 := hk3
  have Hv := Lib.hid (hv.mono (G := fun b => b < w.heap.size) (fun b _ hb => hb) (.inl (by decide)))
  have Hv2 := Lib.hid (hv2.mono (G := fun b => b < w.heap.size) (fun b _ hb => hb) (.inl (by decide)))
  have Hk := Lib.hid (hk.mono (G := fun b => b < w.heap.size) (fun b _ hb => hb) (.inl (by decide)))
  clear hv hv2 hk
  go_enter Try.func17, Try.ntmps17
  go_upto_region 9 with (first
    | (go_at_call 69; refine (law10_awake _).mono ?_; rintro r w1 ⟨rfl, hx1⟩; have HX1 := Lib.hid hx1; have hz1 := hx1.size; clear hx1)
    | (go_at_call 70; refine (memo_new _).mono ?_; rintro r w2 ⟨M, rfl, hx2, hm2⟩; have HX2 := Lib.hid (HX1.out.ext hx2); have HM2 := Lib.hid hm2; have hz2 := hx2.size; clear hm2 hx2)
    | (go_at_call 71; refine (law10_run0 HM2.out script (Hv.out.ext HX2.out) (fun b hb => by omega) (by omega) _ rfl).mono ?_; rintro r w3 ⟨rfl, ho3, s, x, hran⟩; have HRan := Lib.hid hran; have HX3 : Hid (Ext w w3) := Lib.hid (HX2.out.then ho3 (fun b hb h => by omega)); have hz3 := ho3.size; clear hran ho3)
    | (go_at_call 76; refine (memo_lastE HRan.out.mm HRan.out.rel.last).mono ?_; rintro r w5 ⟨rfl, rfl⟩))
  obtain ⟨at_, hat⟩ : ∃ a, lastX x = a := ⟨_, rfl⟩
  rw [hat]
  have Hat := Lib.hid hat
  clear hat
  obtain ⟨ks, hks⟩ : ∃ ks, keys.take 20 = ks := ⟨_, rfl⟩
  have Hks := Lib.hid hks
  have hkl : ks.length ≤ 20 := by rw [← hks, List.length_take]; omega
  clear hks
  go_cut [2] (fun s2 wx => Ext w3 wx ∧ ∃ cap, s2 = .slice U ks.length cap ∧ Sl bytesCA wx (fun b => b < w.heap.size) (.slice U ks.length cap) ks)
  case first =>
    by_cases h20 : keys.length ≤ 20
    · have e : ks = keys := by rw [← Hks.out, List.take_of_length_le h20]
      subst e
      go_wp2
      go_meet
      exact ⟨Out.refl _ _, _, rfl, Hk.out.ext HX3.out⟩
    · have e : ks.length = 20 := by rw [← Hks.out, List.length_take]; omega
      have HT : Hid (Sl bytesCA w3 (fun b => b < w.heap.size) (.slice U 20 n1) ks) := Lib.hid (by
        have := (Hk.out.take 20 (by omega)).ext HX3.out
        rw [Hks.out] at this; exact this)
      have He := Lib.hid e
      clear e
      go_wp2
      go_meet
      exact ⟨Out.refl _ _, n1, by rw [He.out], by rw [He.out]; exact HT.out⟩
  case rest =>
    obtain ⟨hxc, cap, rfl, hkc⟩ := hcut
    have HXc := Lib.hid hxc
    have HK := Lib.hid hkc
    have hzc := hxc.size
    clear hxc hkc
    go_wp2
    go_loopw [10, 11, 39] (fun s10 s11 s39 wr => ∃ (i : Nat) (FO : Nat → Prop), i ≤ ks.length ∧ s39 = .int .i64 i ∧ Two wr wc.heap.size FO s10 s11 (valsX x at_ (ks.take i)) (statesX x at_ (ks.take i)) ∧ Ext wc wr) (fun _ _ s39 _ => ks.length - (intOf s39).toNat)
    case atStart => exact ⟨0, _, Nat.zero_le _, rfl, Two.nil _ _, Out.refl _ _⟩
    case round =>
      obtain ⟨wo, rfl⟩ : ∃ x : World, x = wr := ⟨_, rfl⟩
      obtain ⟨i, FO, hi, rfl, hT, hxi⟩ := hrel
      have HT := Lib.hid hT
      have HXi := Lib.hid hxi
      have hzi := hxi.size
      obtain ⟨A10, l10, c10, rfl⟩ := hT.a.form0
      obtain ⟨A11, l11, c11, rfl⟩ := hT.b.form0
      by_cases hlt : i < ks.length
      · obtain ⟨b, off, u, rfl, -, c0, hu⟩ := (HK.out.ext HXi.out).bytesA i hlt
        obtain ⟨U5, m5, d5, rfl⟩ := hu.form0
        have HC := Lib.hid (r1_cutI _ hu 80 80 rfl (by decide))
        have Hva := Lib.hid (valsX_succ (x := x) (q := at_) hlt)
        have Hsa := Lib.hid (statesX_succ (x := x) (q := at_) hlt)
        have Hst := Lib.hid (getX_state x ((ks[i]).take 80) at_)
        have HG := Lib.hid (get_rel HRan.out.rel HRan.out.good ((ks[i]).take 80) at_)
        have hll : (valsX x at_ (ks.take i)).length ≤ 20 ∧ (statesX x at_ (ks.take i)).length ≤ 20 := by unfold valsX statesX; rw [List.length_map, List.length_map, List.length_take]; omega
        have Hll := Lib.hid hll
        clear hu hT hxi hll
        generalize valsX x at_ (ks.take i) = la at *
        generalize statesX x at_ (ks.take i) = lb at *
        generalize (ks[i]).take 80 = key at *
        generalize getX x key at_ = g at *
        obtain ⟨g1, g2⟩ := g
        dsimp only at *
        go_wp2_with (first
          | (go_at_call 77; refine HC.out.mono ?_; rintro e w5 ⟨x5, rfl, hx5, hb5⟩; obtain ⟨K5, k5, e5, rfl⟩ := hb5.form0; have HX5 := Lib.hid hx5; have HB5 := Lib.hid hb5; have hz5 := hx5.size; clear hx5 hb5)
          | (go_at_call 73; refine (memo_get (((HRan.out.ext HXc.out).ext HXi.out).ext HX5.out).mm key HB5.out at_).mono ?_; rw [HG.out]; rintro e w6 ⟨x6, rfl, hx6, hb6⟩; obtain ⟨V6, k6, e6, rfl⟩ := hb6.form0; have HX6 := Lib.hid (HX5.out.ext hx6); have HB6 := Lib.hid hb6; have hz6 := hx6.size; have HT6 := Lib.hid (HT.out.ext HX6.out); clear hx6 hb6)
          | (at_builtin; refine wpList_append_one rfl (.tmp 51) (.tmp 53) 116 rfl fits116 ((HT6.out.a.ext (Ext.alloc1 _ _)).mono (G := fun b => FO b ∨ wo.heap.size ≤ b ∧ (Value.slice A11 l11 c11).ownBlock ≠ some b) (fun b hb _ => .inl hb)) rfl (by (try simp only [World.size_alloc]); omega) (blk_new _ _) rfl g1 ⟨_, rfl, (HB6.out.alloc _).mono (fun b hb _ => ⟨.inr ⟨by omega, fun e => by have := (HT.out.b.lt b e).2; omega⟩, fun e => by have := (HT.out.a.lt b e).2; omega⟩) (.inl (by decide))⟩ (by have := Hll.out.1; omega) (by decide) ?_; intro v7 w7 p1 p2 p3; obtain ⟨A7, n7, c7, rfl⟩ := p1.form0; have HT7 := Lib.hid (Two.setA (HT6.out.ext (Ext.alloc1 _ _)) p1 p2 p3 (fun b hb hc => hc.elim (HT.out.cb b hb) (fun h => h.2 hb)) (fun b hc => hc.elim (fun h => (HT.out.lF b h).1) (fun h => by omega))); have HP7 := Lib.hid p2; have hz7 := p2.size; clear p1 p2 p3)
          | (at_builtin; refine wpList_append_one rfl (.tmp 55) (.tmp 57) 54 rfl fits54M (HT7.out.b.ext (Ext.alloc1 _ _)) rfl (by (try simp only [World.size_alloc] at *); omega) (blk_new _ _) rfl g2 ⟨rfl, by have := Hst.out; omega, by have := Hst.out; omega⟩ (by have := Hll.out.2; omega) (by decide) ?_; intro v8 w8 p1 p2 p3; obtain ⟨A8, n8, c8, rfl⟩ := p1.form0; have HT8 := Lib.hid (Two.setB (HT7.out.ext (Ext.alloc1 _ _)) p1 p2 p3); have HP8 := Lib.hid p2; clear p1 p2 p3))
        go_roundw
        case rel => exact ⟨i + 1, _, by omega, by go_num, by rw [Hva.out, Hsa.out]; exact HT8.out, (((((HXi.out.ext HX6.out).alloc _).then HP7.out (fun b hb e => by have := (HT.out.a.lt b e).1; omega)).alloc _).then HP8.out (fun b hb e => by have := (HT.out.b.lt b e).1; omega))⟩
        case measure => simp [intOf]; omega
      · obtain rfl : i = ks.length := by omega
        rw [List.take_length] at hT
        obtain ⟨_, cA, eA, -⟩ := hT.a.form
        obtain ⟨_, cB, eB, -⟩ := hT.b.form
        have hla : (valsX x at_ ks).length = ks.length := by unfold valsX; rw [List.length_map]
        have hlb : (statesX x at_ ks).length = ks.length := by unfold statesX; rw [List.length_map]
        rw [hla] at eA
        rw [hlb] at eB
        injection eA with eA1 eA2 eA3
        injection eB with eB1 eB2 eB3
        subst eA2 eB2
        clear eA1 eA3 eB1 eB3
        have HTk := Lib.hid hT
        have HR := Lib.hid (law10_more HRan.out (HXc.out.ext HXi.out) later ((Hv2.out.ext HX3.out).ext (HXc.out.ext HXi.out)) (fun b hb => by have h1 : b < w.heap.size := hb; omega) (by omega))
        clear hT hxi hla hlb HT
        go_wp2_with (go_at_call 71; refine HR.out.mono ?_; rintro r w9 ⟨rfl, ho9, s', y, hran9, hq9⟩; have HRan9 := Lib.hid hran9; have HO9 := Lib.hid ho9; have Hq9 := Lib.hid hq9; have hz9 := ho9.size; clear hran9 ho9 hq9)
        have HT9 := Lib.hid (HTk.out.out HO9.out (fun k hk _ h => by omega))
        have HK9 := Lib.hid ((HK.out.ext HXi.out).out HO9.out (fun b _ hb h => by have h1 : b < w.heap.size := hb; omega))
        have HX9 : Hid (Ext w w9) := Lib.hid (((HX3.out.ext HXc.out).ext HXi.out).then HO9.out (fun b hb h => by omega))
        go_loopw [67] (fun s67 wr => ∃ i : Nat, i ≤ ks.length ∧ s67 = .int .i64 i ∧ Ext w9 wr) (fun s67 _ => ks.length - (intOf s67).toNat)
        case atStart => exact ⟨0, Nat.zero_le _, rfl, Out.refl _ _⟩
        case round =>
          obtain ⟨wp, rfl⟩ : ∃ x : World, x = wr := ⟨_, rfl⟩
          obtain ⟨j, hj, rfl, hxj⟩ := hrel
          have HXj := Lib.hid hxj
          clear hxj
          by_cases hltj : j < ks.length
          · obtain ⟨b, off, u, hU, -, c0, hu⟩ := (HK9.out.ext HXj.out).bytesA j hltj
            subst hU
            obtain ⟨U5, m5, d5, rfl⟩ := hu.form0
            have HC := Lib.hid (r1_cutI _ hu 80 80 rfl (by decide))
            have hTj := HT9.out.ext HXj.out
            obtain ⟨ba, oa, ca, va, e1, a0, hva⟩ := hTj.atA j (by unfold valsX; rw [List.length_map]; exact hltj) (by unfold valsX; rw [List.length_map]; omega)
            obtain ⟨bb, ob, cb, e2, b0⟩ := hTj.atB j (by unfold statesX; rw [List.length_map]; exact hltj) (by unfold statesX; rw [List.length_map]; omega)
            injection e1 with e1 e1n e1c
            injection e2 with e2 e2n e2c
            subst e1 e2
            obtain ⟨Va, na, cva, rfl⟩ := hva.form0
            have ev : (valsX x at_ ks)[j]'(by unfold valsX; rw [List.length_map]; exact hltj) = (getX x ((ks[j]).take 80) at_).1 := by unfold valsX; rw [List.getElem_map]
            have es : (statesX x at_ ks)[j]'(by unfold statesX; rw [List.length_map]; exact hltj) = (getX x ((ks[j]).take 80) at_).2 := by unfold statesX; rw [List.getElem_map]
            rw [ev] at hva
            rw [es] at b0
            have hg1 := get_rel HRan9.out.rel HRan9.out.good ((ks[j]).take 80) at_
            rw [getX_stays x y (fun p hp => by rw [← Hat.out]; exact Hq9.out p hp)] at hg1
            have HG := Lib.hid hg1
            have Hva := Lib.hid hva
            clear hu hTj ev es hva hg1 e1n e1c e2n e2c
            generalize (ks[j]).take 80 = key at *
            generalize getX x key at_ = g at *
            obtain ⟨g1, g2⟩ := g
            dsimp only at *
            go_wp2_with (first
              | (go_at_call 77; refine HC.out.mono ?_; rintro e w5 ⟨x5, rfl, hx5, hb5⟩; obtain ⟨K5, k5, e5, rfl⟩ := hb5.form0; have HX5 := Lib.hid hx5; have HB5 := Lib.hid hb5; clear hx5 hb5)
              | (go_at_call 73; refine (memo_get ((HRan9.out.ext HXj.out).ext HX5.out).mm key HB5.out at_).mono ?_; rw [HG.out]; rintro e w6 ⟨x6, rfl, hx6, hb6⟩; obtain ⟨V6, k6, e6, rfl⟩ := hb6.form0; have HX6 := Lib.hid (HX5.out.ext hx6); have HB6 := Lib.hid hb6; have q0 := HX6.out.cell a0 (fun f => f); have q1 := HX6.out.cell b0 (fun f => f); clear hx6 hb6)
              | (go_at_call 74; refine (r1_same _ HB6.out (Hva.out.ext HX6.out)).mono ?_; rw [beq_self_list]; rintro r w7 ⟨rfl, rfl⟩))
            go_roundw
            case rel => exact ⟨j + 1, by omega, by go_num, HXj.out.ext HX6.out⟩
            case measure => simp [intOf]; omega
          · go_wp2
            go_ret
            exact ⟨rfl, HX9.out.ext HXj.out⟩
end Go.Proofs.Yteaanagljmcidaa
