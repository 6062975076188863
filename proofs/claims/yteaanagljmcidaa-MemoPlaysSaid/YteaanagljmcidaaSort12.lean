/- ref12: Sort. -/
import Derived.Test.YteaanagljmcidaaMePure
import Derived.Test.YteaanagljmcidaaLight
import Derived.Test.YteaanagljmcidaaRegB
import Derived.Test.YteaanagljmcidaaLists
import Derived.Deep.DeepCutAuto
namespace Go.Proofs.Yteaanagljmcidaa
open Go.RowKit

attribute [local go_sem ↓] Go.wp_at_zero Go.wp_at_succ

/-- What may come into the list. -/
def fitE (e : Ent) : Bool := decide (icheckM e.key = 0) && decide (e.value.length ≤ 512)
/-- Entries of right versions in order, of each version the first. -/
def sortE (l : List Ent) : List Ent := addAll [] (l.filter fitE)
theorem sortE_sorted (l : List Ent) : SortedE (sortE l) := addAll_sorted .nil
theorem sortE_length (l : List Ent) : (sortE l).length ≤ l.length := by
  have h1 := addAll_length (l.filter fitE) []
  have h2 := List.length_filter_le fitE l
  unfold sortE; simp at h1; omega
theorem sortE_succ {l : List Ent} {i : Nat} (hi : i < l.length) : sortE (l.take (i + 1)) = if fitE l[i] then addE (sortE (l.take i)) l[i] else sortE (l.take i) := by
  unfold sortE
  rw [List.take_succ_eq_append_getElem hi, List.filter_append, addAll_append]
  by_cases h : fitE l[i] = true <;> simp [h, addAll]

/-- Of a list, at which place an entry would stand, and whether its version stands there. -/
def twiceE (es : List Ent) (k : Key) : Bool := es.any (hasK k)
theorem twiceE_succ {es : List Ent} {i : Nat} (hi : i < es.length) (k : Key) : twiceE (es.take (i + 1)) k = (twiceE (es.take i) k || decide (es[i].key = k)) := by
  unfold twiceE
  rw [List.take_succ_eq_append_getElem hi, List.any_append]; simp [hasK]
theorem addE_in {es : List Ent} {e : Ent} (h : twiceE es e.key = true) : addE es e = es := if_pos h
theorem addE_out {es : List Ent} {e : Ent} (h : twiceE es e.key = false) : addE es e = es.take (aheadN es e.key) ++ e :: es.drop (aheadN es e.key) := if_neg (by unfold twiceE at h; rw [h]; decide)

set_option maxRecDepth 100000 in
set_option maxHeartbeats 4000000 in
theorem r12_sort (w : World) {F0 : Nat → Prop} {x : Value} (l : List Ent) (hx0 : Sl entC w F0 x l) (hl : l.length ≤ 1000) :
    Calls Try.prog 58 #[x] w fun r w' => ∃ v, r = .returned v ∧ Ext w w' ∧ Sl entC w' (fun b => F0 b ∧ b < w.heap.size ∨ w.heap.size ≤ b) v (sortE l) := by
  obtain ⟨F, hF⟩ : ∃ F : Nat → Prop, F = fun b => F0 b ∧ b < w.heap.size := ⟨_, rfl⟩
  have hx : Sl entC w F x l := by rw [hF]; exact hx0.mono (fun b hb hlt => ⟨hb, hlt⟩) (.inl (by decide))
  have HFl : Hid (∀ b, F b → b < w.heap.size) := Lib.hid (by rw [hF]; exact fun b hb => hb.2)
  have hgoal : (fun b => F0 b ∧ b < w.heap.size ∨ w.heap.size ≤ b) = fun b => F b ∨ w.heap.size ≤ b := by rw [hF]
  rw [hgoal]
  clear hF hgoal hx0
  obtain ⟨A, cap, rfl, -⟩ := hx.form
  have Hx := Lib.hid hx
  clear hx
  obtain ⟨B0, hB⟩ : ∃ B0, w.heap.size = B0 := ⟨_, rfl⟩
  have HB := Lib.hid hB
  rw [hB]
  go_enter Try.func58, Try.ntmps58
  go_wp2
  clear hB
  go_loopw [3, 12] (fun s3 s12 wr => ∃ i : Nat, i ≤ l.length ∧ s12 = .int .i64 i ∧ Ext w wr ∧ Own entC 32 wr B0 (fun b => F b ∨ B0 ≤ b) s3 (sortE (l.take i))) (fun _ s12 _ => l.length - (intOf s12).toNat)
  case atStart => exact ⟨0, Nat.zero_le _, rfl, Out.refl _ _, Own.nil _ _ _ _ _⟩
  case round =>
    obtain ⟨wo, rfl⟩ : ∃ x : World, x = wr := ⟨_, rfl⟩
    obtain ⟨i, hi, rfl, hxi, hown⟩ := hrel
    have HX := Lib.hid hxi
    by_cases hlti : i < l.length
    · obtain ⟨b1, o1, u1, v1, rfl, -, c0, c1, c2, c3, hu, hv⟩ := (Hx.out.ext hxi).ent i hlti
      obtain ⟨U, N1, n1, rfl⟩ := hu.form0
      obtain ⟨V, N2, rfl, -⟩ := hv.form
      have hvl : l[i].value.length ≤ 140737488355328 := by obtain ⟨_, _, _, _, _, h5, _⟩ := hv.form; exact h5
      have x1 := Ext.alloc1 wo (.cells #[.slice U N1 n1, u64V l[i].key.seq, byteV l[i].key.kind, .slice V l[i].value.length N2] 32)
      have hz := blk_new wo (.cells #[.slice U N1 n1, u64V l[i].key.seq, byteV l[i].key.kind, .slice V l[i].value.length N2] 32)
      have Hz := Lib.hid hz
      have Hu := Lib.hid (hu.ext x1)
      have Hv := Lib.hid (hv.ext x1)
      have HX1 := Lib.hid (hxi.ext x1)
      have hes : (sortE (l.take i)).length ≤ 1000 := by have := sortE_length (l.take i); rw [List.length_take] at this; omega
      have Hsucc := Lib.hid (sortE_succ hlti)
      have hown1 := hown.ext x1
      generalize hE : l[i] = E at *
      have HE := Lib.hid hE
      generalize hS : sortE (l.take i) = es at *
      have HS := Lib.hid hS
      obtain ⟨A3, c3', rfl, hcap3⟩ := hown1.form
      have Hown := Lib.hid hown1
      have HFlt := Lib.hid hown1.lt
      have Hsl := Lib.hid (hown1.sl (G := fun b => (F b ∨ B0 ≤ b) ∧ b < wo.heap.size + 1) (by decide) (by show _ ≤ 140737488355328; omega) (fun b hb h2 => ⟨hb, by simpa using h2⟩) (fun b hb h2 => ⟨.inr hb, by simpa using h2⟩))
      have hBw : B0 ≤ wo.heap.size := by have := HX.out.size; have := HB.out; omega
      generalize hwa : wo.alloc (.cells #[.slice U N1 n1, u64V E.key.seq, byteV E.key.kind, .slice V E.value.length N2] 32) = wa at *
      have hwas : wa.heap.size = wo.heap.size + 1 := by rw [← hwa]; simp
      clear hu hv hz x1 hE hS hown hown1 hxi
      go_wp2
      go_loopw [18, 6, 7] (fun s18 s6 s7 wr => ∃ j : Nat, j ≤ es.length ∧ s18 = .int .i64 j ∧ s6 = .int .i64 (aheadN (es.take j) E.key : Nat) ∧ s7 = .bool (twiceE (es.take j) E.key) ∧ Ext wa wr) (fun s18 _ _ _ => es.length - (intOf s18).toNat)
      case atStart => exact ⟨0, Nat.zero_le _, rfl, rfl, rfl, Out.refl _ _⟩
      case round =>
        obtain ⟨wr, rfl⟩ : ∃ x : World, x = wr := ⟨_, rfl⟩
        obtain ⟨j, hj, rfl, rfl, rfl, hxj⟩ := hrel
        have HXj := Lib.hid hxj
        obtain ⟨g0, g1, g2, g3, -⟩ := cells4 (hxj.blk Hz.out (fun f => f))
        have hal := aheadN_le (es.take j) E.key
        rw [List.length_take] at hal
        clear hxj
        by_cases hltj : j < es.length
        · obtain ⟨b2, o2, u2, v2, hA2, -, d0, d1, d2, d3, hu2, hv2⟩ := (Hsl.out.ext HXj.out).ent j hltj
          subst hA2
          obtain ⟨U2, P1, p1, rfl⟩ := hu2.form0
          obtain ⟨V2, P2, p2, rfl⟩ := hv2.form0
          have x2 := Ext.alloc1 wr (.cells #[.slice U2 P1 p1, u64V es[j].key.seq, byteV es[j].key.kind, .slice V2 P2 p2] 32)
          have hz2 := blk_new wr (.cells #[.slice U2 P1 p1, u64V es[j].key.seq, byteV es[j].key.kind, .slice V2 P2 p2] 32)
          obtain ⟨z0, z1, z2, z3, -⟩ := cells4 hz2
          obtain ⟨k0, k1, k2, k3, -⟩ := cells4 ((HXj.out.ext x2).blk Hz.out (fun f => f))
          have Hz2 := Lib.hid hz2
          have Hu2 := Lib.hid (hu2.ext x2)
          have HuE := Lib.hid ((Hu.out.ext HXj.out).ext x2)
          have HX2 := Lib.hid (HXj.out.ext x2)
          have Hah := Lib.hid (aheadN_succ hltj E.key)
          have Htw := Lib.hid (twiceE_succ hltj E.key)
          clear hu2 hv2 hz2 x2
          cases hkl : kless es[j].key E.key with
          | true =>
            rw [hkl, if_pos rfl] at Hah
            generalize aheadN (es.take j) E.key = cnt at *
            cases htw : twiceE (es.take j) E.key with
            | true =>
              rw [htw, Bool.true_or] at Htw
              go_wp2_with (go_at_call 60; refine (r3_less _ es[j].key E.key Hu2.out HuE.out).mono ?_; rw [hkl]; rintro r w6 ⟨rfl, hx6⟩)
              go_roundw
              case rel => exact ⟨j + 1, by omega, by go_num, by rw [Hah.out]; go_num, by rw [Htw.out], HX2.out.ext hx6⟩
              case measure => simp [intOf]; omega
            | false =>
              rw [htw, Bool.false_or] at Htw
              go_wp2_with (first | (go_at_call 60; refine (r3_less _ es[j].key E.key Hu2.out HuE.out).mono ?_; rw [hkl]; rintro r w6 ⟨rfl, hx6⟩; obtain ⟨f0, f1, f2, f3, -⟩ := cells4 (hx6.blk Hz2.out (fun f => f)); obtain ⟨h0, h1, h2, h3, -⟩ := cells4 ((HX2.out.ext hx6).blk Hz.out (fun f => f))) | (go_at_call 31; refine (r3_same _ es[j].key E.key (Hu2.out.ext hx6) (HuE.out.ext hx6)).mono ?_; rintro r w7 ⟨rfl, hx7⟩))
              go_roundw
              case rel => exact ⟨j + 1, by omega, by go_num, by rw [Hah.out]; go_num, by rw [Htw.out], (HX2.out.ext hx6).ext hx7⟩
              case measure => simp [intOf]; omega
          | false =>
            rw [hkl, if_neg (by decide)] at Hah
            generalize aheadN (es.take j) E.key = cnt at *
            cases htw : twiceE (es.take j) E.key with
            | true =>
              rw [htw, Bool.true_or] at Htw
              go_wp2_with (go_at_call 60; refine (r3_less _ es[j].key E.key Hu2.out HuE.out).mono ?_; rw [hkl]; rintro r w6 ⟨rfl, hx6⟩)
              go_roundw
              case rel => exact ⟨j + 1, by omega, by go_num, by rw [Hah.out]; go_num, by rw [Htw.out], HX2.out.ext hx6⟩
              case measure => simp [intOf]; omega
            | false =>
              rw [htw, Bool.false_or] at Htw
              go_wp2_with (first | (go_at_call 60; refine (r3_less _ es[j].key E.key Hu2.out HuE.out).mono ?_; rw [hkl]; rintro r w6 ⟨rfl, hx6⟩; obtain ⟨f0, f1, f2, f3, -⟩ := cells4 (hx6.blk Hz2.out (fun f => f)); obtain ⟨h0, h1, h2, h3, -⟩ := cells4 ((HX2.out.ext hx6).blk Hz.out (fun f => f))) | (go_at_call 31; refine (r3_same _ es[j].key E.key (Hu2.out.ext hx6) (HuE.out.ext hx6)).mono ?_; rintro r w7 ⟨rfl, hx7⟩))
              go_roundw
              case rel => exact ⟨j + 1, by omega, by go_num, by rw [Hah.out]; go_num, by rw [Htw.out], (HX2.out.ext hx6).ext hx7⟩
              case measure => simp [intOf]; omega
        · obtain rfl : j = es.length := by omega
          rw [List.take_length] at hal ⊢
          simp only [Nat.min_self] at hal
          cases htw : twiceE es E.key with
          | true =>
            have Hsame : Hid (sortE (l.take (i + 1)) = es) := Lib.hid (by rw [Hsucc.out, addE_in htw]; split <;> rfl)
            go_wp2
            go_roundw
            case rel => exact ⟨i + 1, by omega, by go_num, HX1.out.ext HXj.out, by rw [Hsame.out]; exact Hown.out.ext HXj.out⟩
            case measure => simp [intOf]; omega
          | false =>
            have Hout := Lib.hid (addE_out htw)
            generalize hcn : aheadN es E.key = cnt at *
            clear hcn
            obtain ⟨cc, hcc⟩ : ∃ cc, icheckM E.key = cc := ⟨_, rfl⟩
            have Hcc := Lib.hid hcc
            by_cases hc : cc = 0
            · by_cases hv512 : E.value.length ≤ 512
              · have hfit : fitE E = true := by unfold fitE; simp [hcc, hc, hv512]
                have Hnew : Hid (sortE (l.take (i + 1)) = es.take cnt ++ E :: es.drop cnt) := Lib.hid (by rw [Hsucc.out, if_pos hfit, Hout.out])
                subst hc
                clear hfit htw hcc
                have hi1 : (0 : Int) ≤ (cnt : Int) := by omega
                have hi2 : (cnt : Int) ≤ (c3' : Int) := by omega
                have hi3 : (cnt : Int) ≤ (es.length : Int) := by omega
                go_wp2_with (go_at_call 102; refine (key_checkM _ E.key (Hu.out.ext HXj.out)).mono ?_; rw [Hcc.out]; rintro r w8 ⟨rfl, hx8⟩; have HX8 := Lib.hid (HXj.out.ext hx8); obtain ⟨m0, m1, m2, m3, -⟩ := cells4 (HX8.out.blk Hz.out (fun f => f)); clear hx8)
                have hwr : wo.heap.size + 1 ≤ w8.heap.size := by have := HX8.out.size; omega
                have HT := Lib.hid (((Hsl.out.ext HX8.out).mono (G := fun b => (F b ∨ B0 ≤ b) ∧ b < w8.heap.size) (fun b hb _ => ⟨hb.1, by have := hb.2; omega⟩) (.inl (by decide))).take cnt hal)
                have HD := Lib.hid (((Hsl.out.ext HX8.out).mono (G := fun b => (F b ∨ B0 ≤ b) ∧ b < w8.heap.size) (fun b hb _ => ⟨hb.1, by have := hb.2; omega⟩) (.inl (by decide))).dropM cnt hal)
                have HO := Lib.hid (Own.empty entC 32 w8 (fun b => F b ∨ B0 ≤ b))
                have hOb := Own.empty entC 32 (w8.alloc (.cells #[.slice U N1 n1, u64V E.key.seq, byteV E.key.kind, .slice V E.value.length N2] 32)) (fun b => F b ∨ B0 ≤ b)
                simp only [World.size_alloc] at hOb
                have HOb := Lib.hid (hOb.baseM (B' := w8.heap.size) (Nat.le_succ _))
                have HZ := Lib.hid (HX8.out.blk Hz.out (fun f => f))
                have htl : (es.take cnt).length = cnt := List.length_take_of_le hal
                have hdl : (es.drop cnt).length = es.length - cnt := List.length_drop
                have Htl := Lib.hid htl
                have Hdl := Lib.hid hdl
                have Hu := Lib.hid ((Hu.out.ext HX8.out).mono (G := fun b => (F b ∨ B0 ≤ b) ∧ b < w8.heap.size) (fun b hb _ => ⟨.inl hb, by have := HFl.out b hb; have := HB.out; omega⟩) (.inl (by decide)))
                have Hv := Lib.hid ((Hv.out.ext HX8.out).mono (G := fun b => (F b ∨ B0 ≤ b) ∧ b < w8.heap.size) (fun b hb _ => ⟨.inl hb, by have := HFl.out b hb; have := HB.out; omega⟩) (.inl (by decide)))
                have hB0 : B0 ≤ w8.heap.size := by omega
                clear htl hdl hOb
                refine region_B 12 (fun w' => w'.cell? ⟨wo.heap.size, 0, none⟩ = some (.slice U N1 n1) ∧ w'.cell? ⟨wo.heap.size, 1, none⟩ = some (u64V E.key.seq) ∧ w'.cell? ⟨wo.heap.size, 2, none⟩ = some (byteV E.key.kind) ∧ w'.cell? ⟨wo.heap.size, 3, none⟩ = some (.slice V E.value.length N2)) (by kernel_rfl) ?q58_14S (fun hHeld0 => ?_)
                case q58_14S => ((first | go_keep | ((try dsimp only); exact ⟨by assumption, by assumption, by assumption, by assumption⟩)))
                refine anyB_take (i := 1) (oi := _) (v := ?q58_14v1) rfl (by kernel_rfl) (by kernel_rfl) (by kernel_rfl) (by kernel_rfl) (fun _ _ _ h => h) (Or.inl ⟨by rfl, ?q58_14h1⟩) (by assumption) ?q58_14r1
                case q58_14h1 => (intro w hSw; (try dsimp only at hSw); go_simp; try with_reducible rfl)
                (try simp only [List.getElem_toArray, List.getElem_cons_succ, List.getElem_cons_zero, Act.put, List.setIfInBounds_toArray, List.set_cons_zero, List.set_cons_succ])
                refine anyB_take (i := 2) (oi := _) (v := ?q58_14v2) rfl (by kernel_rfl) (by kernel_rfl) (by kernel_rfl) (by kernel_rfl) (fun _ _ _ h => h) (Or.inl ⟨by rfl, ?q58_14h2⟩) (by assumption) ?q58_14r2
                case q58_14h2 => (intro w hSw; (try dsimp only at hSw); go_simp; try with_reducible rfl)
                (try simp only [List.getElem_toArray, List.getElem_cons_succ, List.getElem_cons_zero, Act.put, List.setIfInBounds_toArray, List.set_cons_zero, List.set_cons_succ])
                refine anyB_take (i := 3) (oi := _) (v := ?q58_14v3) rfl (by kernel_rfl) (by kernel_rfl) (by kernel_rfl) (by kernel_rfl) (fun _ _ _ h => h) (Or.inl ⟨by rfl, ?q58_14h3⟩) (by assumption) ?q58_14r3
                case q58_14h3 => (intro w hSw; (try dsimp only at hSw); go_simp; try with_reducible rfl)
                (try simp only [List.getElem_toArray, List.getElem_cons_succ, List.getElem_cons_zero, Act.put, List.setIfInBounds_toArray, List.set_cons_zero, List.set_cons_succ])
                refine anyB_take (i := 5) (oi := _) (v := ?q58_14v4) rfl (by kernel_rfl) (by kernel_rfl) (by kernel_rfl) (by kernel_rfl) (fun _ _ _ h => h) (Or.inl ⟨by rfl, ?q58_14h4⟩) (by assumption) ?q58_14r4
                case q58_14h4 => (intro w hSw; (try dsimp only at hSw); go_simp; try with_reducible rfl)
                (try simp only [List.getElem_toArray, List.getElem_cons_succ, List.getElem_cons_zero, Act.put, List.setIfInBounds_toArray, List.set_cons_zero, List.set_cons_succ])
                refine anyB_take (i := 8) (oi := _) (v := ?q58_14v5) rfl (by kernel_rfl) (by kernel_rfl) (by kernel_rfl) (by kernel_rfl) (fun _ _ _ h => h) (Or.inl ⟨by rfl, ?q58_14h5⟩) (by assumption) ?q58_14r5
                case q58_14h5 => (intro w hSw; (try dsimp only at hSw); go_simp; try with_reducible rfl)
                (try simp only [List.getElem_toArray, List.getElem_cons_succ, List.getElem_cons_zero, Act.put, List.setIfInBounds_toArray, List.set_cons_zero, List.set_cons_succ])
                refine anyB_take (i := 9) (oi := _) (v := ?q58_14v6) rfl (by kernel_rfl) (by kernel_rfl) (by kernel_rfl) (by kernel_rfl) (fun _ _ _ h => h) (Or.inl ⟨by rfl, ?q58_14h6⟩) (by assumption) ?q58_14r6
                case q58_14h6 => (intro w hSw; (try dsimp only at hSw); go_simp; try with_reducible rfl)
                (try simp only [List.getElem_toArray, List.getElem_cons_succ, List.getElem_cons_zero, Act.put, List.setIfInBounds_toArray, List.set_cons_zero, List.set_cons_succ])
                refine anyB_take (i := 10) (oi := _) (v := ?q58_14v7) rfl (by kernel_rfl) (by kernel_rfl) (by kernel_rfl) (by kernel_rfl) (fun _ _ _ h => h) (Or.inl ⟨by rfl, ?q58_14h7⟩) (by assumption) ?q58_14r7
                case q58_14h7 => (intro w hSw; (try dsimp only at hSw); go_simp; try with_reducible rfl)
                (try simp only [List.getElem_toArray, List.getElem_cons_succ, List.getElem_cons_zero, Act.put, List.setIfInBounds_toArray, List.set_cons_zero, List.set_cons_succ])
                refine anyB_two (i := 0) (j := 6) (oi := _) (oj := _) (by kernel_rfl) (by rfl) (by rfl) (by (simp only [List.getElem?_toArray, List.getElem?_cons_succ, List.getElem?_cons_zero] <;> rfl)) (by (simp only [List.getElem?_toArray, List.getElem?_cons_succ, List.getElem?_cons_zero] <;> rfl)) (fun K hK => ?q58_14x8) (fun K hK => ?q58_14y8)
                case q58_14x8 =>
                  go_simp
                  refine hK.out _ _ ?q58_14S9 (fun hHeld1 => ?_)
                  case q58_14S9 => ((first | go_keep | ((try dsimp only); exact ⟨by assumption, by assumption, by assumption, by assumption⟩)))
                  clear hK K hHeld0
                  (try simp only [List.getElem_toArray, List.getElem_cons_succ, List.getElem_cons_zero, Act.put, List.setIfInBounds_toArray, List.set_cons_zero, List.set_cons_succ])
                  refine anyB_two (i := 4) (j := 6) (oi := _) (oj := _) (by kernel_rfl) (by rfl) (by rfl) (by (simp only [List.getElem?_toArray, List.getElem?_cons_succ, List.getElem?_cons_zero] <;> rfl)) (by (simp only [List.getElem?_toArray, List.getElem?_cons_succ, List.getElem?_cons_zero] <;> rfl)) (fun K hK => ?q58_14x10) (fun K hK => ?q58_14y10)
                  case q58_14x10 =>
                    refine stp_append_sl (by rfl) (.tmp 52) (.tmp 55) 43 (by rfl) fits32 (HO.out.ext (by repeat' (first | exact Out.refl _ _ | refine Out.drew ?_ | refine Out.alloc ?_ _))) (by rfl) (by simp <;> omega) (HT.out.ext (by repeat' (first | exact Out.refl _ _ | refine Out.drew ?_ | refine Out.alloc ?_ _))) (by rfl) (fun i hi cs hc => entC.mono hc (fun b hb hlb => ⟨hb.1, fun e => by simp [Value.ownBlock] at e; have := hb.2; omega⟩)) (by rw [Htl.out, List.length_nil]; omega) (by decide) ?_; intro v7 w7 g1 g2 g3; (rw [List.nil_append] at g1); obtain ⟨A7, k7, m7, rfl⟩ := g1.form0; have G1 := Lib.hid g1; have HX7 : Hid (Ext w8 w7) := Lib.hid (Out.then (by repeat' (first | exact Out.refl _ _ | refine Out.drew ?_ | refine Out.alloc ?_ _)) g2 (fun i hi e => by simp [Value.ownBlock] at e; omega)); obtain ⟨y0, y1, y2, y3, -⟩ := cells4 (HX7.out.blk HZ.out (fun f => f)); clear g1 g2 g3
                    refine hK.out _ _ ?q58_14S11 (fun hHeld2 => ?_)
                    case q58_14S11 => ((first | go_keep | ((try dsimp only); exact ⟨by assumption, by assumption, by assumption, by assumption⟩)))
                    clear hK K hHeld1
                    (try simp only [List.getElem_toArray, List.getElem_cons_succ, List.getElem_cons_zero, Act.put, List.setIfInBounds_toArray, List.set_cons_zero, List.set_cons_succ])
                    refine anyB_step (i := 6) (o := _) (by kernel_rfl) (by rfl) (by (simp only [List.getElem?_toArray, List.getElem?_cons_succ, List.getElem?_cons_zero] <;> rfl)) (fun K hK => ?_)
                    go_simp
                    refine hK.out _ _ ?q58_14S12 (fun hHeld3 => ?_)
                    case q58_14S12 => ((first | go_keep | ((try dsimp only); exact ⟨by assumption, by assumption, by assumption, by assumption⟩)))
                    clear hK K hHeld2
                    (try simp only [List.getElem_toArray, List.getElem_cons_succ, List.getElem_cons_zero, Act.put, List.setIfInBounds_toArray, List.set_cons_zero, List.set_cons_succ])
                    refine anyB_step (i := 7) (o := _) (by kernel_rfl) (by rfl) (by (simp only [List.getElem?_toArray, List.getElem?_cons_succ, List.getElem?_cons_zero] <;> rfl)) (fun K hK => ?_)
                    have hz7 := HX7.out.size; refine step_append_one (by rfl) (.tmp 56) (.tmp 58) 43 (by rfl) fits32 (G1.out.ext (Ext.alloc1 _ _)) (by rfl) (by (try simp only [World.size_alloc]); omega) (blk_new _ _) (by rfl) E ⟨_, _, rfl, (Hu.out.ext (HX7.out.alloc _)).mono (fun b hb _ => ⟨hb.1, (fun e => by have := (G1.out.lt b e).1; have := hb.2; omega)⟩) (.inl (by decide)), (Hv.out.ext (HX7.out.alloc _)).mono (fun b hb _ => ⟨hb.1, (fun e => by have := (G1.out.lt b e).1; have := hb.2; omega)⟩) (.inl (by decide))⟩ (by rw [Htl.out]; omega) (by decide) ?_; intro v9 w9 g1 g2 g3; obtain ⟨A9, k9, m9, rfl⟩ := g1.form0; have G9 := Lib.hid g1; have HX9 : Hid (Ext w8 w9) := Lib.hid (Out.then (HX7.out.alloc _) g2 (fun i hi e => by have := (G1.out.lt i e).1; omega)); obtain ⟨x0, x1, x2, x3, -⟩ := cells4 (HX9.out.blk HZ.out (fun f => f)); clear g1 g2 g3
                    refine hK.out _ _ ?q58_14S13 (fun hHeld4 => ?_)
                    case q58_14S13 => ((first | go_keep | ((try dsimp only); exact ⟨by assumption, by assumption, by assumption, by assumption⟩)))
                    clear hK K hHeld3
                    (try simp only [List.getElem_toArray, List.getElem_cons_succ, List.getElem_cons_zero, Act.put, List.setIfInBounds_toArray, List.set_cons_zero, List.set_cons_succ])
                    refine anyB_step (i := 11) (o := _) (by kernel_rfl) (by rfl) (by (simp only [List.getElem?_toArray, List.getElem?_cons_succ, List.getElem?_cons_zero] <;> rfl)) (fun K hK => ?_)
                    refine stp_append_sl (by rfl) (.tmp 59) (.tmp 62) 43 (by rfl) fits32 G9.out (by rfl) HX9.out.size (HD.out.ext HX9.out) (by rfl) (fun i hi cs hc => entC.mono hc (fun b hb hlb => ⟨hb.1, fun e => by have := (G9.out.lt b e).1; have := hb.2; omega⟩)) (by rw [List.length_append, Htl.out, Hdl.out]; simp; omega) (by decide) ?_; intro v10 w10 g1 g2 g3; obtain ⟨A10, k10, m10, rfl⟩ := g1.form0; have G10 := Lib.hid g1; have HX10 : Hid (Ext w8 w10) := Lib.hid (HX9.out.then g2 (fun i hi e => by have := (G9.out.lt i e).1; omega)); obtain ⟨p0, p1, p2, p3, -⟩ := cells4 (HX10.out.blk HZ.out (fun f => f)); clear g1 g2 g3
                    refine hK.out _ _ ?q58_14S14 (fun hHeld5 => ?_)
                    case q58_14S14 => ((first | go_keep | ((try dsimp only); exact ⟨by assumption, by assumption, by assumption, by assumption⟩)))
                    clear hK K hHeld4
                    (try simp only [List.getElem_toArray, List.getElem_cons_succ, List.getElem_cons_zero, Act.put, List.setIfInBounds_toArray, List.set_cons_zero, List.set_cons_succ])
                    refine anyB_last (i := 12) (o := _) (by kernel_rfl) (by rfl) (by (simp only [List.getElem?_toArray, List.getElem?_cons_succ, List.getElem?_cons_zero] <;> rfl)) (fun K hK => ?_)
                    go_simp
                    refine hK.out _ _ ?_
                    clear hK K
                    (try simp only [List.getElem_toArray, List.getElem_cons_succ, List.getElem_cons_zero, Act.put, List.setIfInBounds_toArray, List.set_cons_zero, List.set_cons_succ])
                    refine anyB_done (by kernel_rfl) ?_ _
                    go_wp2
                    go_roundw
                    case rel => exact ⟨i + 1, by omega, by go_num, (HX1.out.ext HX8.out).ext HX10.out, by rw [Hnew.out]; have h := G10.out.baseM hB0; rw [List.append_assoc] at h; exact h⟩
                    case measure => simp [intOf]; omega
                  case q58_14y10 =>
                    go_simp
                    refine hK.out _ _ ?q58_14S15 (fun hHeld2 => ?_)
                    case q58_14S15 => ((first | go_keep | ((try dsimp only); exact ⟨by assumption, by assumption, by assumption, by assumption⟩)))
                    clear hK K hHeld1
                    (try simp only [List.getElem_toArray, List.getElem_cons_succ, List.getElem_cons_zero, Act.put, List.setIfInBounds_toArray, List.set_cons_zero, List.set_cons_succ])
                    refine anyB_step (i := 4) (o := _) (by kernel_rfl) (by rfl) (by (simp only [List.getElem?_toArray, List.getElem?_cons_succ, List.getElem?_cons_zero] <;> rfl)) (fun K hK => ?_)
                    refine stp_append_sl (by rfl) (.tmp 52) (.tmp 55) 43 (by rfl) fits32 (HO.out.ext (by repeat' (first | exact Out.refl _ _ | refine Out.drew ?_ | refine Out.alloc ?_ _))) (by rfl) (by simp <;> omega) (HT.out.ext (by repeat' (first | exact Out.refl _ _ | refine Out.drew ?_ | refine Out.alloc ?_ _))) (by rfl) (fun i hi cs hc => entC.mono hc (fun b hb hlb => ⟨hb.1, fun e => by simp [Value.ownBlock] at e; have := hb.2; omega⟩)) (by rw [Htl.out, List.length_nil]; omega) (by decide) ?_; intro v7 w7 g1 g2 g3; have HEC := Lib.hid (g2.blk (o := (.cells #[.slice U N1 n1, u64V E.key.seq, byteV E.key.kind, .slice V E.value.length N2] 32)) (g := w8.heap.size + 1) (blk_atD (by simp)) (fun e => by have e2 := Option.some.inj e; dsimp only at e2; omega)); (rw [List.nil_append] at g1); obtain ⟨A7, k7, m7, rfl⟩ := g1.form0; have G1 := Lib.hid g1; have HX7 : Hid (Ext w8 w7) := Lib.hid (Out.then (by repeat' (first | exact Out.refl _ _ | refine Out.drew ?_ | refine Out.alloc ?_ _)) g2 (fun i hi e => by simp [Value.ownBlock] at e; omega)); obtain ⟨y0, y1, y2, y3, -⟩ := cells4 (HX7.out.blk HZ.out (fun f => f)); clear g1 g2 g3
                    refine hK.out _ _ ?q58_14S16 (fun hHeld3 => ?_)
                    case q58_14S16 => ((first | go_keep | ((try dsimp only); exact ⟨by assumption, by assumption, by assumption, by assumption⟩)))
                    clear hK K hHeld2
                    (try simp only [List.getElem_toArray, List.getElem_cons_succ, List.getElem_cons_zero, Act.put, List.setIfInBounds_toArray, List.set_cons_zero, List.set_cons_succ])
                    refine anyB_step (i := 7) (o := _) (by kernel_rfl) (by rfl) (by (simp only [List.getElem?_toArray, List.getElem?_cons_succ, List.getElem?_cons_zero] <;> rfl)) (fun K hK => ?_)
                    have hz7 := HX7.out.size; refine step_append_one (by rfl) (.tmp 56) (.tmp 58) 43 (by rfl) fits32 G1.out (by rfl) (by (try simp only [World.size_alloc]); omega) HEC.out (by rfl) E ⟨_, _, rfl, (Hu.out.ext HX7.out).mono (fun b hb _ => ⟨hb.1, (fun e => by have := (G1.out.lt b e).1; have := hb.2; omega)⟩) (.inl (by decide)), (Hv.out.ext HX7.out).mono (fun b hb _ => ⟨hb.1, (fun e => by have := (G1.out.lt b e).1; have := hb.2; omega)⟩) (.inl (by decide))⟩ (by rw [Htl.out]; omega) (by decide) ?_; intro v9 w9 g1 g2 g3; obtain ⟨A9, k9, m9, rfl⟩ := g1.form0; have G9 := Lib.hid g1; have HX9 : Hid (Ext w8 w9) := Lib.hid (Out.then HX7.out g2 (fun i hi e => by have := (G1.out.lt i e).1; omega)); obtain ⟨x0, x1, x2, x3, -⟩ := cells4 (HX9.out.blk HZ.out (fun f => f)); clear g1 g2 g3
                    refine hK.out _ _ ?q58_14S17 (fun hHeld4 => ?_)
                    case q58_14S17 => ((first | go_keep | ((try dsimp only); exact ⟨by assumption, by assumption, by assumption, by assumption⟩)))
                    clear hK K hHeld3
                    (try simp only [List.getElem_toArray, List.getElem_cons_succ, List.getElem_cons_zero, Act.put, List.setIfInBounds_toArray, List.set_cons_zero, List.set_cons_succ])
                    refine anyB_step (i := 11) (o := _) (by kernel_rfl) (by rfl) (by (simp only [List.getElem?_toArray, List.getElem?_cons_succ, List.getElem?_cons_zero] <;> rfl)) (fun K hK => ?_)
                    refine stp_append_sl (by rfl) (.tmp 59) (.tmp 62) 43 (by rfl) fits32 G9.out (by rfl) HX9.out.size (HD.out.ext HX9.out) (by rfl) (fun i hi cs hc => entC.mono hc (fun b hb hlb => ⟨hb.1, fun e => by have := (G9.out.lt b e).1; have := hb.2; omega⟩)) (by rw [List.length_append, Htl.out, Hdl.out]; simp; omega) (by decide) ?_; intro v10 w10 g1 g2 g3; obtain ⟨A10, k10, m10, rfl⟩ := g1.form0; have G10 := Lib.hid g1; have HX10 : Hid (Ext w8 w10) := Lib.hid (HX9.out.then g2 (fun i hi e => by have := (G9.out.lt i e).1; omega)); obtain ⟨p0, p1, p2, p3, -⟩ := cells4 (HX10.out.blk HZ.out (fun f => f)); clear g1 g2 g3
                    refine hK.out _ _ ?q58_14S18 (fun hHeld5 => ?_)
                    case q58_14S18 => ((first | go_keep | ((try dsimp only); exact ⟨by assumption, by assumption, by assumption, by assumption⟩)))
                    clear hK K hHeld4
                    (try simp only [List.getElem_toArray, List.getElem_cons_succ, List.getElem_cons_zero, Act.put, List.setIfInBounds_toArray, List.set_cons_zero, List.set_cons_succ])
                    refine anyB_last (i := 12) (o := _) (by kernel_rfl) (by rfl) (by (simp only [List.getElem?_toArray, List.getElem?_cons_succ, List.getElem?_cons_zero] <;> rfl)) (fun K hK => ?_)
                    go_simp
                    refine hK.out _ _ ?_
                    clear hK K
                    (try simp only [List.getElem_toArray, List.getElem_cons_succ, List.getElem_cons_zero, Act.put, List.setIfInBounds_toArray, List.set_cons_zero, List.set_cons_succ])
                    refine anyB_done (by kernel_rfl) ?_ _
                    go_wp2
                    go_roundw
                    case rel => exact ⟨i + 1, by omega, by go_num, (HX1.out.ext HX8.out).ext HX10.out, by rw [Hnew.out]; have h := G10.out.baseM hB0; rw [List.append_assoc] at h; exact h⟩
                    case measure => simp [intOf]; omega
                case q58_14y8 =>
                  go_simp
                  refine hK.out _ _ ?q58_14S19 (fun hHeld1 => ?_)
                  case q58_14S19 => ((first | go_keep | ((try dsimp only); exact ⟨by assumption, by assumption, by assumption, by assumption⟩)))
                  clear hK K hHeld0
                  (try simp only [List.getElem_toArray, List.getElem_cons_succ, List.getElem_cons_zero, Act.put, List.setIfInBounds_toArray, List.set_cons_zero, List.set_cons_succ])
                  refine anyB_step (i := 0) (o := _) (by kernel_rfl) (by rfl) (by (simp only [List.getElem?_toArray, List.getElem?_cons_succ, List.getElem?_cons_zero] <;> rfl)) (fun K hK => ?_)
                  go_simp
                  refine hK.out _ _ ?q58_14S20 (fun hHeld2 => ?_)
                  case q58_14S20 => ((first | go_keep | ((try dsimp only); exact ⟨by assumption, by assumption, by assumption, by assumption⟩)))
                  clear hK K hHeld1
                  (try simp only [List.getElem_toArray, List.getElem_cons_succ, List.getElem_cons_zero, Act.put, List.setIfInBounds_toArray, List.set_cons_zero, List.set_cons_succ])
                  refine anyB_step (i := 4) (o := _) (by kernel_rfl) (by rfl) (by (simp only [List.getElem?_toArray, List.getElem?_cons_succ, List.getElem?_cons_zero] <;> rfl)) (fun K hK => ?_)
                  refine stp_append_sl (by rfl) (.tmp 52) (.tmp 55) 43 (by rfl) fits32 (HOb.out.ext (by repeat' (first | exact Out.refl _ _ | refine Out.drew ?_ | refine Out.alloc ?_ _))) (by rfl) (by simp <;> omega) (HT.out.ext (by repeat' (first | exact Out.refl _ _ | refine Out.drew ?_ | refine Out.alloc ?_ _))) (by rfl) (fun i hi cs hc => entC.mono hc (fun b hb hlb => ⟨hb.1, fun e => by simp [Value.ownBlock] at e; have := hb.2; omega⟩)) (by rw [Htl.out, List.length_nil]; omega) (by decide) ?_; intro v7 w7 g1 g2 g3; have HEC := Lib.hid (g2.blk (o := (.cells #[.slice U N1 n1, u64V E.key.seq, byteV E.key.kind, .slice V E.value.length N2] 32)) (g := w8.heap.size) (show (World.drew _).heap[_]? = _ from blk_alloc (blk_new _ _) _) (fun e => by have e2 := Option.some.inj e; dsimp only at e2; omega)); (rw [List.nil_append] at g1); obtain ⟨A7, k7, m7, rfl⟩ := g1.form0; have G1 := Lib.hid g1; have HX7 : Hid (Ext w8 w7) := Lib.hid (Out.then (by repeat' (first | exact Out.refl _ _ | refine Out.drew ?_ | refine Out.alloc ?_ _)) g2 (fun i hi e => by simp [Value.ownBlock] at e; omega)); obtain ⟨y0, y1, y2, y3, -⟩ := cells4 (HX7.out.blk HZ.out (fun f => f)); clear g1 g2 g3
                  refine hK.out _ _ ?q58_14S21 (fun hHeld3 => ?_)
                  case q58_14S21 => ((first | go_keep | ((try dsimp only); exact ⟨by assumption, by assumption, by assumption, by assumption⟩)))
                  clear hK K hHeld2
                  (try simp only [List.getElem_toArray, List.getElem_cons_succ, List.getElem_cons_zero, Act.put, List.setIfInBounds_toArray, List.set_cons_zero, List.set_cons_succ])
                  refine anyB_step (i := 7) (o := _) (by kernel_rfl) (by rfl) (by (simp only [List.getElem?_toArray, List.getElem?_cons_succ, List.getElem?_cons_zero] <;> rfl)) (fun K hK => ?_)
                  have hz7 := HX7.out.size; refine step_append_one (by rfl) (.tmp 56) (.tmp 58) 43 (by rfl) fits32 G1.out (by rfl) (by (try simp only [World.size_alloc]); omega) HEC.out (by rfl) E ⟨_, _, rfl, (Hu.out.ext HX7.out).mono (fun b hb _ => ⟨hb.1, (fun e => by have := (G1.out.lt b e).1; have := hb.2; omega)⟩) (.inl (by decide)), (Hv.out.ext HX7.out).mono (fun b hb _ => ⟨hb.1, (fun e => by have := (G1.out.lt b e).1; have := hb.2; omega)⟩) (.inl (by decide))⟩ (by rw [Htl.out]; omega) (by decide) ?_; intro v9 w9 g1 g2 g3; obtain ⟨A9, k9, m9, rfl⟩ := g1.form0; have G9 := Lib.hid g1; have HX9 : Hid (Ext w8 w9) := Lib.hid (Out.then HX7.out g2 (fun i hi e => by have := (G1.out.lt i e).1; omega)); obtain ⟨x0, x1, x2, x3, -⟩ := cells4 (HX9.out.blk HZ.out (fun f => f)); clear g1 g2 g3
                  refine hK.out _ _ ?q58_14S22 (fun hHeld4 => ?_)
                  case q58_14S22 => ((first | go_keep | ((try dsimp only); exact ⟨by assumption, by assumption, by assumption, by assumption⟩)))
                  clear hK K hHeld3
                  (try simp only [List.getElem_toArray, List.getElem_cons_succ, List.getElem_cons_zero, Act.put, List.setIfInBounds_toArray, List.set_cons_zero, List.set_cons_succ])
                  refine anyB_step (i := 11) (o := _) (by kernel_rfl) (by rfl) (by (simp only [List.getElem?_toArray, List.getElem?_cons_succ, List.getElem?_cons_zero] <;> rfl)) (fun K hK => ?_)
                  refine stp_append_sl (by rfl) (.tmp 59) (.tmp 62) 43 (by rfl) fits32 G9.out (by rfl) HX9.out.size (HD.out.ext HX9.out) (by rfl) (fun i hi cs hc => entC.mono hc (fun b hb hlb => ⟨hb.1, fun e => by have := (G9.out.lt b e).1; have := hb.2; omega⟩)) (by rw [List.length_append, Htl.out, Hdl.out]; simp; omega) (by decide) ?_; intro v10 w10 g1 g2 g3; obtain ⟨A10, k10, m10, rfl⟩ := g1.form0; have G10 := Lib.hid g1; have HX10 : Hid (Ext w8 w10) := Lib.hid (HX9.out.then g2 (fun i hi e => by have := (G9.out.lt i e).1; omega)); obtain ⟨p0, p1, p2, p3, -⟩ := cells4 (HX10.out.blk HZ.out (fun f => f)); clear g1 g2 g3
                  refine hK.out _ _ ?q58_14S23 (fun hHeld5 => ?_)
                  case q58_14S23 => ((first | go_keep | ((try dsimp only); exact ⟨by assumption, by assumption, by assumption, by assumption⟩)))
                  clear hK K hHeld4
                  (try simp only [List.getElem_toArray, List.getElem_cons_succ, List.getElem_cons_zero, Act.put, List.setIfInBounds_toArray, List.set_cons_zero, List.set_cons_succ])
                  refine anyB_last (i := 12) (o := _) (by kernel_rfl) (by rfl) (by (simp only [List.getElem?_toArray, List.getElem?_cons_succ, List.getElem?_cons_zero] <;> rfl)) (fun K hK => ?_)
                  go_simp
                  refine hK.out _ _ ?_
                  clear hK K
                  (try simp only [List.getElem_toArray, List.getElem_cons_succ, List.getElem_cons_zero, Act.put, List.setIfInBounds_toArray, List.set_cons_zero, List.set_cons_succ])
                  refine anyB_done (by kernel_rfl) ?_ _
                  go_wp2
                  go_roundw
                  case rel => exact ⟨i + 1, by omega, by go_num, (HX1.out.ext HX8.out).ext HX10.out, by rw [Hnew.out]; have h := G10.out.baseM hB0; rw [List.append_assoc] at h; exact h⟩
                  case measure => simp [intOf]; omega
              · have hfit : fitE E = false := by unfold fitE; simp [hv512]
                have Hsame : Hid (sortE (l.take (i + 1)) = es) := Lib.hid (by rw [Hsucc.out, hfit]; rfl)
                subst hc
                clear hfit htw hcc
                go_wp2_with (go_at_call 102; refine (key_checkM _ E.key (Hu.out.ext HXj.out)).mono ?_; rw [Hcc.out]; rintro r w8 ⟨rfl, hx8⟩; have HX8 := Lib.hid (HXj.out.ext hx8); obtain ⟨m0, m1, m2, m3, -⟩ := cells4 (HX8.out.blk Hz.out (fun f => f)); clear hx8)
                go_roundw
                case rel => exact ⟨i + 1, by omega, by go_num, HX1.out.ext HX8.out, by rw [Hsame.out]; exact Hown.out.ext HX8.out⟩
                case measure => simp [intOf]; omega
            · have hfit : fitE E = false := by unfold fitE; simp [hcc, hc]
              have Hsame : Hid (sortE (l.take (i + 1)) = es) := Lib.hid (by rw [Hsucc.out, hfit]; rfl)
              have hcb : (cc == 0) = false := by simpa using hc
              clear hfit htw hcc
              go_wp2_with (go_at_call 102; refine (key_checkM _ E.key (Hu.out.ext HXj.out)).mono ?_; rw [Hcc.out]; rintro r w8 ⟨rfl, hx8⟩; have HX8 := Lib.hid (HXj.out.ext hx8); clear hx8)
              go_roundw
              case rel => exact ⟨i + 1, by omega, by go_num, HX1.out.ext HX8.out, by rw [Hsame.out]; exact Hown.out.ext HX8.out⟩
              case measure => simp [intOf]; omega
    · obtain rfl : i = l.length := by omega
      go_wp2
      go_ret
      rw [List.take_length] at hown
      have hsl := sortE_length l
      exact ⟨_, rfl, hxi, hown.sl (by decide) (by show _ ≤ 140737488355328; omega) (fun b hb _ => hb) (fun b hb _ => .inr hb)⟩
end Go.Proofs.Yteaanagljmcidaa
