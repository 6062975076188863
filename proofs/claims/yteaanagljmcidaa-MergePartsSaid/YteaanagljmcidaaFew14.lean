/- law14: few, twins; ref14: Place. -/
import Derived.Test.YteaanagljmcidaaSort12
import Derived.Test.YteaanagljmcidaaMeNew
import Derived.Test.YteaanagljmcidaaFew
import Derived.Test.YteaanagljmcidaaArgsOpen2
namespace Go.Proofs.Yteaanagljmcidaa
open Go.RowKit

attribute [local go_sem ↓] Go.wp_at_zero Go.wp_at_succ

theorem fits62 : Fits Try.prog 62 43 lstC.size 24 := fits_of Try.underlying62 (by decide) (by kernel_rfl : (Try.prog.info? 43).map (fun i => (i.zero, i.size, i.bytes)) = some (some (.slice none 0 0), 1, 24)) rfl

theorem take_list_succ {α : Type} {l : List α} {k : Nat} (h : k < l.length) : l.take (k + 1) = l.take k ++ [l[k]] := List.take_succ_eq_append_getElem h

def few1 (b : Bool) (s : List Ent) : List Ent := if b then sortE ((s.take 16).map cutE) else (s.take 16).map cutE
def few14 (b : Bool) (ls : List (List Ent)) : List (List Ent) := (ls.take 6).map (few1 b)
theorem few1_le (b : Bool) (s : List Ent) : (few1 b s).length ≤ 16 := by
  have h : ((s.take 16).map cutE).length ≤ 16 := by rw [List.length_map, List.length_take]; omega
  unfold few1; split
  · exact Nat.le_trans (sortE_length _) h
  · exact h
theorem few14_le (b : Bool) (ls : List (List Ent)) : (few14 b ls).length ≤ 6 := by unfold few14; rw [List.length_map, List.length_take]; omega
theorem few14_mem {b : Bool} {ls : List (List Ent)} {l : List Ent} (h : l ∈ few14 b ls) : l.length ≤ 16 := by
  unfold few14 at h; obtain ⟨s, -, rfl⟩ := List.mem_map.1 h; exact few1_le b s
theorem few14_sorted {ls : List (List Ent)} : ∀ l ∈ few14 true ls, SortedE l := fun l h => by
  unfold few14 at h; obtain ⟨s, -, rfl⟩ := List.mem_map.1 h; exact sortE_sorted _
theorem few14_succ {b : Bool} {ls : List (List Ent)} {k : Nat} (hk : k < ls.length) (h6 : k < 6) : few14 b (ls.take (k + 1)) = few14 b (ls.take k) ++ [few1 b ls[k]] := by
  unfold few14
  rw [List.take_take, List.take_take, Nat.min_eq_right (by omega), Nat.min_eq_right (by omega), take_list_succ hk, List.map_append]; rfl

theorem Sl.listAtA {w : World} {F : Nat → Prop} {A : Option Addr} {n cap : Nat} {ls : List (List Ent)} (h : Sl listCA w F (.slice A n cap) ls) (i : Nat) (hi : i < ls.length) :
    ∃ b off v, A = some ⟨b, off, none⟩ ∧ w.cell? ⟨b, off + i, none⟩ = some v ∧ Sl entCA w F v ls[i] := by
  obtain ⟨b, off, cs, hA, hF, hat, v, rfl, h1⟩ := h.get i hi
  have h0 := hat.cell 0 _ rfl
  exact ⟨b, off, v, hA, by simpa [listCA, slC] using h0, h1⟩

set_option maxRecDepth 100000 in
set_option maxHeartbeats 4000000 in
theorem law14_few (w : World) {F : Nat → Prop} {x : Value} (ls : List (List Ent)) (hx : Sl listCA w F x ls) (b : Bool) :
    Calls Try.prog 45 #[x, .bool b] w fun e w' => ∃ v, e = .returned v ∧ Ext w w' ∧ Sl lstC w' (fun k => w.heap.size ≤ k) v (few14 b ls) := by
  obtain ⟨A, cap, rfl, h1, h2, h3, h4⟩ := hx.form
  have h5 : ls.length ≤ 9223372036854775807 := h3
  have Hx := Lib.hid hx
  clear h1 h2 h3 h4 hx
  go_enter Try.func45, Try.ntmps45
  go_wp2
  go_loopw [5, 10] (fun s5 s10 wr => ∃ k : Nat, k ≤ ls.length ∧ k ≤ 6 ∧ s10 = .int .i64 k ∧ Own lstC 43 wr w.heap.size (fun b => w.heap.size ≤ b) s5 (few14 b (ls.take k)) ∧ Ext w wr) (fun _ s10 _ => ls.length - (intOf s10).toNat)
  case atStart => exact ⟨0, Nat.zero_le _, Nat.zero_le _, rfl, Own.nil _ _ _ _ _, Out.refl _ w⟩
  case round =>
    obtain ⟨k, hk, hk6, rfl, hown, hext⟩ := hrel
    obtain ⟨A5, n5, c5, rfl⟩ := hown.form0
    have hlen : (few14 b (ls.take k)).length ≤ 6 := few14_le b _
    have Hlen := Lib.hid hlen
    have HFl := Lib.hid hown.lt
    have Hown := Lib.hid hown
    have Hext := Lib.hid hext
    have hsz := hext.size
    clear hown hext hlen
    by_cases hlt : k < ls.length
    · obtain ⟨b1, o1, u1, hA1, c0, hl⟩ := (Hx.out.ext Hext.out).listAtA k hlt
      subst hA1
      by_cases h6 : k < 6
      · have Hs := Lib.hid (few14_succ (b := b) hlt h6)
        obtain ⟨L, lc, rfl, -⟩ := hl.form
        have Hl := Lib.hid hl
        clear hl
        cases b with
        | true =>
          have Hf : Hid (few1 true ls[k] = sortE ((ls[k].take 16).map cutE)) := Lib.hid rfl
          go_wp2_with (first
            | (go_at_call 59; refine (r3_few _ ls[k] Hl.out 16 (by decide)).mono ?_; rintro e w1 ⟨x1, rfl, hx1, hb1⟩; have hs1 := hx1.size; have HB1 := Lib.hid hb1; have HX1 := Lib.hid hx1; obtain ⟨L1, n1, m1, rfl⟩ := hb1.form0; clear hb1 hx1)
            | (go_at_call 58; refine (r12_sort _ _ HB1.out (by rw [List.length_map, List.length_take]; omega)).mono ?_; rintro e w2 ⟨x2, rfl, hx2, hb2⟩; have hs2 := hx2.size; have HB2 := Lib.hid hb2; have HX2 := Lib.hid hx2; obtain ⟨L2, n2, m2, rfl⟩ := hb2.form0; clear hb2 hx2)
            | (at_builtin; refine wpList_append_one rfl (.tmp 22) (.tmp 24) 62 rfl fits62 (((Hown.out.ext HX1.out).ext HX2.out).ext (Ext.alloc1 _ _)) rfl (by (try simp only [World.size_alloc]); omega) (blk_new _ _) rfl (few1 true ls[k]) ⟨_, rfl, by rw [Hf.out]; exact (HB2.out.alloc _).mono (fun b hb _ => ⟨by rcases hb with ⟨hb, -⟩ | hb <;> omega, fun e => by have := (HFl.out _ e).2; rcases hb with ⟨hb, -⟩ | hb <;> omega⟩) (.inl (by decide))⟩ (by have := Hlen.out; omega) (by decide) ?_; intro v' w3 g1 g2 g3; obtain ⟨A6, n6, c6, rfl⟩ := g1.form0; have G1 := Lib.hid g1; have G2 := Lib.hid g2; clear g1 g2 g3))
          go_roundw
          case rel => exact ⟨k + 1, by omega, by omega, by go_num, by rw [Hs.out]; exact G1.out, (((Hext.out.ext HX1.out).ext HX2.out).alloc _).then G2.out (fun b hb e => by have := (HFl.out _ e).1; omega)⟩
          case measure => simp [intOf]; omega
        | false =>
          have Hf : Hid (few1 false ls[k] = (ls[k].take 16).map cutE) := Lib.hid rfl
          go_wp2_with (first
            | (go_at_call 59; refine (r3_few _ ls[k] Hl.out 16 (by decide)).mono ?_; rintro e w1 ⟨x1, rfl, hx1, hb1⟩; have hs1 := hx1.size; have HB1 := Lib.hid hb1; have HX1 := Lib.hid hx1; obtain ⟨L1, n1, m1, rfl⟩ := hb1.form0; clear hb1 hx1)
            | (at_builtin; refine wpList_append_one rfl (.tmp 22) (.tmp 24) 62 rfl fits62 ((Hown.out.ext HX1.out).ext (Ext.alloc1 _ _)) rfl (by (try simp only [World.size_alloc]); omega) (blk_new _ _) rfl (few1 false ls[k]) ⟨_, rfl, by rw [Hf.out]; exact (HB1.out.alloc _).mono (fun b hb _ => ⟨by omega, fun e => by have := (HFl.out _ e).2; omega⟩) (.inl (by decide))⟩ (by have := Hlen.out; omega) (by decide) ?_; intro v' w3 g1 g2 g3; obtain ⟨A6, n6, c6, rfl⟩ := g1.form0; have G1 := Lib.hid g1; have G2 := Lib.hid g2; clear g1 g2 g3))
          go_roundw
          case rel => exact ⟨k + 1, by omega, by omega, by go_num, by rw [Hs.out]; exact G1.out, ((Hext.out.ext HX1.out).alloc _).then G2.out (fun b hb e => by have := (HFl.out _ e).1; omega)⟩
          case measure => simp [intOf]; omega
      · have hfull : Hid (few14 b ls = few14 b (ls.take k)) := Lib.hid (by obtain rfl : k = 6 := by omega
                                                                           unfold few14; rw [List.take_take]; simp)
        go_wp2
        go_ret
        exact ⟨_, rfl, Hext.out, by rw [hfull.out]; exact Hown.out.sl (by decide) (by have := Hlen.out; show _ ≤ 140737488355328; omega) (fun b hb _ => hb) (fun b hb _ => hb)⟩
    · obtain rfl : k = ls.length := by omega
      rw [List.take_length] at Hown Hlen
      go_wp2
      go_ret
      exact ⟨_, rfl, Hext.out, Hown.out.sl (by decide) (by have := Hlen.out; show _ ≤ 140737488355328; omega) (fun b hb _ => hb) (fun b hb _ => hb)⟩

set_option maxRecDepth 100000 in
set_option maxHeartbeats 4000000 in
theorem law14_twins (w : World) {F : Nat → Prop} {x : Value} (ls : List (List Ent)) (hx : Sl lstC w F x ls) (hls : ls.length ≤ 1000) (hll : ∀ l ∈ ls, l.length ≤ 1000) :
    Calls Try.prog 46 #[x] w fun e w' => ∃ v, e = .returned v ∧ Ext w w' ∧ Sl lstC w' (fun k => w.heap.size ≤ k) v ls := by
  obtain ⟨A, cap, rfl, h1, h2, h3, h4⟩ := hx.form
  have Hx := Lib.hid hx
  have Hll := Lib.hid hll
  clear h1 h2 h3 h4 hx hll
  go_enter Try.func46, Try.ntmps46
  go_wp2
  go_loopw [3, 8] (fun s3 s8 wr => ∃ k : Nat, k ≤ ls.length ∧ s8 = .int .i64 k ∧ Own lstC 43 wr w.heap.size (fun b => w.heap.size ≤ b) s3 (ls.take k) ∧ Ext w wr) (fun _ s8 _ => ls.length - (intOf s8).toNat)
  case atStart => exact ⟨0, Nat.zero_le _, rfl, Own.nil _ _ _ _ _, Out.refl _ w⟩
  case round =>
    obtain ⟨k, hk, rfl, hown, hext⟩ := hrel
    obtain ⟨A5, n5, c5, rfl⟩ := hown.form0
    have HFl := Lib.hid hown.lt
    have Hown := Lib.hid hown
    have Hext := Lib.hid hext
    have hsz := hext.size
    clear hown hext
    by_cases hlt : k < ls.length
    · obtain ⟨b1, o1, u1, hA1, -, c0, hl⟩ := (Hx.out.ext Hext.out).listAt k hlt
      subst hA1
      have hlk := Hll.out _ (List.getElem_mem hlt)
      obtain ⟨L, lc, rfl, -⟩ := hl.form
      have Hl := Lib.hid hl
      clear hl
      go_wp2_with (first
        | (go_at_call 38; refine (r3_twins _ ls[k] Hl.out (by omega)).mono ?_; rintro e w1 ⟨x1, rfl, hx1, hb1⟩; have hs1 := hx1.size; have HB1 := Lib.hid hb1; have HX1 := Lib.hid hx1; obtain ⟨L1, n1, m1, rfl⟩ := hb1.form0; clear hb1 hx1)
        | (at_builtin; refine wpList_append_one rfl (.tmp 12) (.tmp 15) 62 rfl fits62 ((Hown.out.ext HX1.out).ext (Ext.alloc1 _ _)) rfl (by (try simp only [World.size_alloc]); omega) (blk_new _ _) rfl ls[k] ⟨_, rfl, (HB1.out.alloc _).mono (fun b hb _ => ⟨by omega, fun e => by have := (HFl.out _ e).2; omega⟩) (.inl (by decide))⟩ (by rw [List.length_take]; omega) (by decide) ?_; intro v' w3 g1 g2 g3; obtain ⟨A6, n6, c6, rfl⟩ := g1.form0; have G1 := Lib.hid g1; have G2 := Lib.hid g2; clear g1 g2 g3))
      go_roundw
      case rel => exact ⟨k + 1, by omega, by go_num, by rw [take_list_succ hlt]; exact G1.out, ((Hext.out.ext HX1.out).alloc _).then G2.out (fun b hb e => by have := (HFl.out _ e).1; omega)⟩
      case measure => simp [intOf]; omega
    · obtain rfl : k = ls.length := by omega
      rw [List.take_length] at Hown
      go_wp2
      go_ret
      exact ⟨_, rfl, Hext.out, Hown.out.sl (by decide) (by show _ ≤ 140737488355328; omega) (fun b hb _ => hb) (fun b hb _ => hb)⟩

set_option maxRecDepth 100000 in
set_option maxHeartbeats 4000000 in
theorem r14_place (w : World) {F G : Nat → Prop} {x u : Value} {l : List Ent} {k : Key} (hx : Sl entC w F x l) (hu : Bs w G u k.user) :
    Calls Try.prog 53 #[x, .agg #[u, u64V k.seq, byteV k.kind]] w fun e w' => e = .returned (.int .i64 (aheadN l k : Nat)) ∧ Ext w w' := by
  obtain ⟨A, cap, rfl, -, -, hbig, -⟩ := hx.form
  have hbig' : l.length ≤ 140737488355328 := hbig
  obtain ⟨U, N, n, rfl⟩ := hu.form0
  have x1 := Ext.alloc1 w (.cells #[.slice U N n, u64V k.seq, byteV k.kind] 30)
  have hz := blk_new w (.cells #[.slice U N n, u64V k.seq, byteV k.kind] 30)
  have Hz := Lib.hid hz
  have Hx := Lib.hid (hx.ext x1)
  have Hu := Lib.hid (hu.ext x1)
  have X1 := Lib.hid x1
  clear hx hu hz x1 hbig
  go_enter Try.func53, Try.ntmps53
  go_wp2
  go_loopw [5, 10] (fun s5 s10 wr => ∃ i : Nat, i ≤ l.length ∧ s10 = .int .i64 i ∧ s5 = .int .i64 (aheadN (l.take i) k : Nat) ∧ Ext (w.alloc (.cells #[.slice U N n, u64V k.seq, byteV k.kind] 30)) wr) (fun _ s10 _ => l.length - (intOf s10).toNat)
  case atStart => exact ⟨0, Nat.zero_le _, rfl, rfl, Out.refl _ _⟩
  case round =>
    obtain ⟨wo, rfl⟩ : ∃ x : World, x = wr := ⟨_, rfl⟩
    obtain ⟨i, hi, rfl, rfl, hxi⟩ := hrel
    have HX := Lib.hid hxi
    clear hxi
    by_cases hlt : i < l.length
    · obtain ⟨b1, o1, u1, v1, hA1, -, c0, c1, c2, c3, hu1, hv1⟩ := (Hx.out.ext HX.out).ent i hlt
      subst hA1
      obtain ⟨U1, N1, n1, rfl⟩ := hu1.form0
      obtain ⟨V1, N2, n2, rfl⟩ := hv1.form0
      have x2 := Ext.alloc1 wo (.cells #[.slice U1 N1 n1, u64V l[i].key.seq, byteV l[i].key.kind, .slice V1 N2 n2] 32)
      obtain ⟨z0, z1, z2, z3, -⟩ := cells4 (blk_new wo (.cells #[.slice U1 N1 n1, u64V l[i].key.seq, byteV l[i].key.kind, .slice V1 N2 n2] 32))
      obtain ⟨k0, k1, k2, -⟩ := cells3 ((HX.out.ext x2).blk Hz.out (fun f => f))
      have Hu1 := Lib.hid (hu1.ext x2)
      have Hu2 := Lib.hid ((Hu.out.ext HX.out).ext x2)
      have X2 := Lib.hid (HX.out.ext x2)
      have Hah := Lib.hid (aheadN_succ hlt k)
      have hal := aheadN_le (l.take i) k
      rw [List.length_take] at hal
      generalize aheadN (l.take i) k = cnt at *
      clear hu1 hv1 x2
      cases hkl : kless l[i].key k with
      | true =>
        rw [hkl, if_pos rfl] at Hah
        go_wp2_with (go_at_call 60; refine (r3_less _ l[i].key k Hu1.out Hu2.out).mono ?_; rw [hkl]; rintro r w6 ⟨rfl, hx6⟩)
        go_roundw
        case rel => exact ⟨i + 1, by omega, by go_num, by rw [Hah.out]; go_num, X2.out.ext hx6⟩
        case measure => simp [intOf]; omega
      | false =>
        rw [hkl, if_neg (by decide)] at Hah
        go_wp2_with (go_at_call 60; refine (r3_less _ l[i].key k Hu1.out Hu2.out).mono ?_; rw [hkl]; rintro r w6 ⟨rfl, hx6⟩)
        go_roundw
        case rel => exact ⟨i + 1, by omega, by go_num, by rw [Hah.out]; go_num, X2.out.ext hx6⟩
        case measure => simp [intOf]; omega
    · obtain rfl : i = l.length := by omega
      rw [List.take_length]
      go_wp2
      go_ret
      exact ⟨rfl, X1.out.ext HX.out⟩
end Go.Proofs.Yteaanagljmcidaa
