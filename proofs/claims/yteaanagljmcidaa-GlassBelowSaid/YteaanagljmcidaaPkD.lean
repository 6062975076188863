/- ref12: Sort. · glass, in plain Lean: what is seen of versions and spans; what is kept of them; what is dropped isn't missed. -/
import Derived.Test.YteaanagljmcidaaPkA
import Derived.Test.YteaanagljmcidaaPkB
import Derived.Deep.DeepCutAuto
import Derived.Test.YteaanagljmcidaaPkC
namespace Go.Proofs.Yteaanagljmcidaa
open Go.RowKit

attribute [local go_sem ↓] Go.wp_at_zero Go.wp_at_succ

/-- What may come into the list. -/
def fitE (e : Ent) : Bool := decide (icheckM e.key = 0) && decide (e.value.length ≤ 512)
/-- Entries of right versions in order, of each version the first. -/
def sortE (l : List Ent) : List Ent := addAll [] (l.filter fitE)
theorem sortE_sorted (l : List Ent) : SortedE (sortE l) := addAll_sorted .nil
theorem sortE_length (l : List Ent) : (sortE l).length ≤ l.length := by
  have h1 := addAll_length (l.filter fitE) []
  have h2 := List.length_filter_le fitE l
  unfold sortE; simp at h1; omega
theorem sortE_succ {l : List Ent} {i : Nat} (hi : i < l.length) : sortE (l.take (i + 1)) = if fitE l[i] then addE (sortE (l.take i)) l[i] else sortE (l.take i) := by
  unfold sortE
  rw [List.take_succ_eq_append_getElem hi, List.filter_append, addAll_append]
  by_cases h : fitE l[i] = true <;> simp [h, addAll]

/-- Of a list, at which place an entry would stand, and whether its version stands there. -/
def twiceE (es : List Ent) (k : Key) : Bool := es.any (hasK k)
theorem twiceE_succ {es : List Ent} {i : Nat} (hi : i < es.length) (k : Key) : twiceE (es.take (i + 1)) k = (twiceE (es.take i) k || decide (es[i].key = k)) := by
  unfold twiceE
  rw [List.take_succ_eq_append_getElem hi, List.any_append]; simp [hasK]
theorem addE_in {es : List Ent} {e : Ent} (h : twiceE es e.key = true) : addE es e = es := if_pos h
theorem addE_out {es : List Ent} {e : Ent} (h : twiceE es e.key = false) : addE es e = es.take (aheadN es e.key) ++ e :: es.drop (aheadN es e.key) := if_neg (by unfold twiceE at h; rw [h]; decide)

set_option maxRecDepth 100000 in
set_option maxHeartbeats 4000000 in
theorem r12_sort (w : World) {F0 : Nat → Prop} {x : Value} (l : List Ent) (hx0 : Sl entC w F0 x l) (hl : l.length ≤ 1000) :
    Calls Try.prog 58 #[x] w fun r w' => ∃ v, r = .returned v ∧ Ext w w' ∧ Sl entC w' (fun b => F0 b ∧ b < w.heap.size ∨ w.heap.size ≤ b) v (sortE l) := by
  obtain ⟨F, hF⟩ : ∃ F : Nat → Prop, F = fun b => F0 b ∧ b < w.heap.size := ⟨_, rfl⟩
  have hx : Sl entC w F x l := by rw [hF]; exact hx0.mono (fun b hb hlt => ⟨hb, hlt⟩) (.inl (by decide))
  have HFl : Hid (∀ b, F b → b < w.heap.size) := Lib.hid (by rw [hF]; exact fun b hb => hb.2)
  have hgoal : (fun b => F0 b ∧ b < w.heap.size ∨ w.heap.size ≤ b) = fun b => F b ∨ w.heap.size ≤ b := by rw [hF]
  rw [hgoal]
  clear hF hgoal hx0
  obtain ⟨A, cap, rfl, -⟩ := hx.form
  have Hx := Lib.hid hx
  clear hx
  obtain ⟨B0, hB⟩ : ∃ B0, w.heap.size = B0 := ⟨_, rfl⟩
  have HB := Lib.hid hB
  rw [hB]
  go_enter Try.func58, Try.ntmps58
  go_wp2
  clear hB
  go_loopw [3, 12] (fun s3 s12 wr => ∃ i : Nat, i ≤ l.length ∧ s12 = .int .i64 i ∧ Ext w wr ∧ Own entC 32 wr B0 (fun b => F b ∨ B0 ≤ b) s3 (sortE (l.take i))) (fun _ s12 _ => l.length - (intOf s12).toNat)
  case atStart => exact ⟨0, Nat.zero_le _, rfl, Out.refl _ _, Own.nil _ _ _ _ _⟩
  case round =>
    obtain ⟨wo, rfl⟩ : ∃ x : World, x = wr := ⟨_, rfl⟩
    obtain ⟨i, hi, rfl, hxi, hown⟩ := hrel
    have HX := Lib.hid hxi
    by_cases hlti : i < l.length
    · obtain ⟨b1, o1, u1, v1, rfl, -, c0, c1, c2, c3, hu, hv⟩ := (Hx.out.ext hxi).ent i hlti
      obtain ⟨U, N1, n1, rfl⟩ := hu.form0
      obtain ⟨V, N2, rfl, -⟩ := hv.form
      have hvl : l[i].value.length ≤ 140737488355328 := by obtain ⟨_, _, _, _, _, h5, _⟩ := hv.form; exact h5
      have x1 := Ext.alloc1 wo (.cells #[.slice U N1 n1, u64V l[i].key.seq, byteV l[i].key.kind, .slice V l[i].value.length N2] 32)
      have hz := blk_new wo (.cells #[.slice U N1 n1, u64V l[i].key.seq, byteV l[i].key.kind, .slice V l[i].value.length N2] 32)
      have Hz := Lib.hid hz
      have Hu := Lib.hid (hu.ext x1)
      have Hv := Lib.hid (hv.ext x1)
      have HX1 := Lib.hid (hxi.ext x1)
      have hes : (sortE (l.take i)).length ≤ 1000 := by have := sortE_length (l.take i); rw [List.length_take] at this; omega
      have Hsucc := Lib.hid (sortE_succ hlti)
      have hown1 := hown.ext x1
      generalize hE : l[i] = E at *
      have HE := Lib.hid hE
      generalize hS : sortE (l.take i) = es at *
      have HS := Lib.hid hS
      obtain ⟨A3, c3', rfl, hcap3⟩ := hown1.form
      have Hown := Lib.hid hown1
      have HFlt := Lib.hid hown1.lt
      have Hsl := Lib.hid (hown1.sl (G := fun b => (F b ∨ B0 ≤ b) ∧ b < wo.heap.size + 1) (by decide) (by show _ ≤ 140737488355328; omega) (fun b hb h2 => ⟨hb, by simpa using h2⟩) (fun b hb h2 => ⟨.inr hb, by simpa using h2⟩))
      have hBw : B0 ≤ wo.heap.size := by have := HX.out.size; have := HB.out; omega
      generalize hwa : wo.alloc (.cells #[.slice U N1 n1, u64V E.key.seq, byteV E.key.kind, .slice V E.value.length N2] 32) = wa at *
      have hwas : wa.heap.size = wo.heap.size + 1 := by rw [← hwa]; simp
      clear hu hv hz x1 hE hS hown hown1 hxi
      go_wp2
      go_loopw [18, 6, 7] (fun s18 s6 s7 wr => ∃ j : Nat, j ≤ es.length ∧ s18 = .int .i64 j ∧ s6 = .int .i64 (aheadN (es.take j) E.key : Nat) ∧ s7 = .bool (twiceE (es.take j) E.key) ∧ Ext wa wr) (fun s18 _ _ _ => es.length - (intOf s18).toNat)
      case atStart => exact ⟨0, Nat.zero_le _, rfl, rfl, rfl, Out.refl _ _⟩
      case round =>
        obtain ⟨wr, rfl⟩ : ∃ x : World, x = wr := ⟨_, rfl⟩
        obtain ⟨j, hj, rfl, rfl, rfl, hxj⟩ := hrel
        have HXj := Lib.hid hxj
        obtain ⟨g0, g1, g2, g3, -⟩ := cells4 (hxj.blk Hz.out (fun f => f))
        have hal := aheadN_le (es.take j) E.key
        rw [List.length_take] at hal
        clear hxj
        by_cases hltj : j < es.length
        · obtain ⟨b2, o2, u2, v2, hA2, -, d0, d1, d2, d3, hu2, hv2⟩ := (Hsl.out.ext HXj.out).ent j hltj
          subst hA2
          obtain ⟨U2, P1, p1, rfl⟩ := hu2.form0
          obtain ⟨V2, P2, p2, rfl⟩ := hv2.form0
          have x2 := Ext.alloc1 wr (.cells #[.slice U2 P1 p1, u64V es[j].key.seq, byteV es[j].key.kind, .slice V2 P2 p2] 32)
          have hz2 := blk_new wr (.cells #[.slice U2 P1 p1, u64V es[j].key.seq, byteV es[j].key.kind, .slice V2 P2 p2] 32)
          obtain ⟨z0, z1, z2, z3, -⟩ := cells4 hz2
          obtain ⟨k0, k1, k2, k3, -⟩ := cells4 ((HXj.out.ext x2).blk Hz.out (fun f => f))
          have Hz2 := Lib.hid hz2
          have Hu2 := Lib.hid (hu2.ext x2)
          have HuE := Lib.hid ((Hu.out.ext HXj.out).ext x2)
          have HX2 := Lib.hid (HXj.out.ext x2)
          have Hah := Lib.hid (aheadN_succ hltj E.key)
          have Htw := Lib.hid (twiceE_succ hltj E.key)
          clear hu2 hv2 hz2 x2
          cases hkl : kless es[j].key E.key with
          | true =>
            rw [hkl, if_pos rfl] at Hah
            generalize aheadN (es.take j) E.key = cnt at *
            cases htw : twiceE (es.take j) E.key with
            | true =>
              rw [htw, Bool.true_or] at Htw
              go_wp2_with (go_at_call 60; refine (r3_less _ es[j].key E.key Hu2.out HuE.out).mono ?_; rw [hkl]; rintro r w6 ⟨rfl, hx6⟩)
              go_roundw
              case rel => exact ⟨j + 1, by omega, by go_num, by rw [Hah.out]; go_num, by rw [Htw.out], HX2.out.ext hx6⟩
              case measure => simp [intOf]; omega
            | false =>
              rw [htw, Bool.false_or] at Htw
              go_wp2_with (first | (go_at_call 60; refine (r3_less _ es[j].key E.key Hu2.out HuE.out).mono ?_; rw [hkl]; rintro r w6 ⟨rfl, hx6⟩; obtain ⟨f0, f1, f2, f3, -⟩ := cells4 (hx6.blk Hz2.out (fun f => f)); obtain ⟨h0, h1, h2, h3, -⟩ := cells4 ((HX2.out.ext hx6).blk Hz.out (fun f => f))) | (go_at_call 31; refine (r3_same _ es[j].key E.key (Hu2.out.ext hx6) (HuE.out.ext hx6)).mono ?_; rintro r w7 ⟨rfl, hx7⟩))
              go_roundw
              case rel => exact ⟨j + 1, by omega, by go_num, by rw [Hah.out]; go_num, by rw [Htw.out], (HX2.out.ext hx6).ext hx7⟩
              case measure => simp [intOf]; omega
          | false =>
            rw [hkl, if_neg (by decide)] at Hah
            generalize aheadN (es.take j) E.key = cnt at *
            cases htw : twiceE (es.take j) E.key with
            | true =>
              rw [htw, Bool.true_or] at Htw
              go_wp2_with (go_at_call 60; refine (r3_less _ es[j].key E.key Hu2.out HuE.out).mono ?_; rw [hkl]; rintro r w6 ⟨rfl, hx6⟩)
              go_roundw
              case rel => exact ⟨j + 1, by omega, by go_num, by rw [Hah.out]; go_num, by rw [Htw.out], HX2.out.ext hx6⟩
              case measure => simp [intOf]; omega
            | false =>
              rw [htw, Bool.false_or] at Htw
              go_wp2_with (first | (go_at_call 60; refine (r3_less _ es[j].key E.key Hu2.out HuE.out).mono ?_; rw [hkl]; rintro r w6 ⟨rfl, hx6⟩; obtain ⟨f0, f1, f2, f3, -⟩ := cells4 (hx6.blk Hz2.out (fun f => f)); obtain ⟨h0, h1, h2, h3, -⟩ := cells4 ((HX2.out.ext hx6).blk Hz.out (fun f => f))) | (go_at_call 31; refine (r3_same _ es[j].key E.key (Hu2.out.ext hx6) (HuE.out.ext hx6)).mono ?_; rintro r w7 ⟨rfl, hx7⟩))
              go_roundw
              case rel => exact ⟨j + 1, by omega, by go_num, by rw [Hah.out]; go_num, by rw [Htw.out], (HX2.out.ext hx6).ext hx7⟩
              case measure => simp [intOf]; omega
        · obtain rfl : j = es.length := by omega
          rw [List.take_length] at hal ⊢
          simp only [Nat.min_self] at hal
          cases htw : twiceE es E.key with
          | true =>
            have Hsame : Hid (sortE (l.take (i + 1)) = es) := Lib.hid (by rw [Hsucc.out, addE_in htw]; split <;> rfl)
            go_wp2
            go_roundw
            case rel => exact ⟨i + 1, by omega, by go_num, HX1.out.ext HXj.out, by rw [Hsame.out]; exact Hown.out.ext HXj.out⟩
            case measure => simp [intOf]; omega
          | false =>
            have Hout := Lib.hid (addE_out htw)
            generalize hcn : aheadN es E.key = cnt at *
            clear hcn
            obtain ⟨cc, hcc⟩ : ∃ cc, icheckM E.key = cc := ⟨_, rfl⟩
            have Hcc := Lib.hid hcc
            by_cases hc : cc = 0
            · by_cases hv512 : E.value.length ≤ 512
              · have hfit : fitE E = true := by unfold fitE; simp [hcc, hc, hv512]
                have Hnew : Hid (sortE (l.take (i + 1)) = es.take cnt ++ E :: es.drop cnt) := Lib.hid (by rw [Hsucc.out, if_pos hfit, Hout.out])
                subst hc
                clear hfit htw hcc
                have hi1 : (0 : Int) ≤ (cnt : Int) := by omega
                have hi2 : (cnt : Int) ≤ (c3' : Int) := by omega
                have hi3 : (cnt : Int) ≤ (es.length : Int) := by omega
                go_wp2_with (go_at_call 102; refine (key_checkM _ E.key (Hu.out.ext HXj.out)).mono ?_; rw [Hcc.out]; rintro r w8 ⟨rfl, hx8⟩; have HX8 := Lib.hid (HXj.out.ext hx8); obtain ⟨m0, m1, m2, m3, -⟩ := cells4 (HX8.out.blk Hz.out (fun f => f)); clear hx8)
                have hwr : wo.heap.size + 1 ≤ w8.heap.size := by have := HX8.out.size; omega
                have HT := Lib.hid (((Hsl.out.ext HX8.out).mono (G := fun b => (F b ∨ B0 ≤ b) ∧ b < w8.heap.size) (fun b hb _ => ⟨hb.1, by have := hb.2; omega⟩) (.inl (by decide))).take cnt hal)
                have HD := Lib.hid (((Hsl.out.ext HX8.out).mono (G := fun b => (F b ∨ B0 ≤ b) ∧ b < w8.heap.size) (fun b hb _ => ⟨hb.1, by have := hb.2; omega⟩) (.inl (by decide))).dropM cnt hal)
                have HO := Lib.hid (Own.empty entC 32 w8 (fun b => F b ∨ B0 ≤ b))
                have hOb := Own.empty entC 32 (w8.alloc (.cells #[.slice U N1 n1, u64V E.key.seq, byteV E.key.kind, .slice V E.value.length N2] 32)) (fun b => F b ∨ B0 ≤ b)
                simp only [World.size_alloc] at hOb
                have HOb := Lib.hid (hOb.baseM (B' := w8.heap.size) (Nat.le_succ _))
                have HZ := Lib.hid (HX8.out.blk Hz.out (fun f => f))
                have htl : (es.take cnt).length = cnt := List.length_take_of_le hal
                have hdl : (es.drop cnt).length = es.length - cnt := List.length_drop
                have Htl := Lib.hid htl
                have Hdl := Lib.hid hdl
                have Hu := Lib.hid ((Hu.out.ext HX8.out).mono (G := fun b => (F b ∨ B0 ≤ b) ∧ b < w8.heap.size) (fun b hb _ => ⟨.inl hb, by have := HFl.out b hb; have := HB.out; omega⟩) (.inl (by decide)))
                have Hv := Lib.hid ((Hv.out.ext HX8.out).mono (G := fun b => (F b ∨ B0 ≤ b) ∧ b < w8.heap.size) (fun b hb _ => ⟨.inl hb, by have := HFl.out b hb; have := HB.out; omega⟩) (.inl (by decide)))
                have hB0 : B0 ≤ w8.heap.size := by omega
                clear htl hdl hOb
                refine region_B 12 (fun w' => w'.cell? ⟨wo.heap.size, 0, none⟩ = some (.slice U N1 n1) ∧ w'.cell? ⟨wo.heap.size, 1, none⟩ = some (u64V E.key.seq) ∧ w'.cell? ⟨wo.heap.size, 2, none⟩ = some (byteV E.key.kind) ∧ w'.cell? ⟨wo.heap.size, 3, none⟩ = some (.slice V E.value.length N2)) (by kernel_rfl) ?q58_14S (fun hHeld0 => ?_)
                case q58_14S => ((first | go_keep | ((try dsimp only); exact ⟨by assumption, by assumption, by assumption, by assumption⟩)))
                refine anyB_take (i := 1) (oi := _) (v := ?q58_14v1) rfl (by kernel_rfl) (by kernel_rfl) (by kernel_rfl) (by kernel_rfl) (fun _ _ _ h => h) (Or.inl ⟨by rfl, ?q58_14h1⟩) (by assumption) ?q58_14r1
                case q58_14h1 => (intro w hSw; (try dsimp only at hSw); go_simp; try with_reducible rfl)
                (try simp only [List.getElem_toArray, List.getElem_cons_succ, List.getElem_cons_zero, Act.put, List.setIfInBounds_toArray, List.set_cons_zero, List.set_cons_succ])
                refine anyB_take (i := 2) (oi := _) (v := ?q58_14v2) rfl (by kernel_rfl) (by kernel_rfl) (by kernel_rfl) (by kernel_rfl) (fun _ _ _ h => h) (Or.inl ⟨by rfl, ?q58_14h2⟩) (by assumption) ?q58_14r2
                case q58_14h2 => (intro w hSw; (try dsimp only at hSw); go_simp; try with_reducible rfl)
                (try simp only [List.getElem_toArray, List.getElem_cons_succ, List.getElem_cons_zero, Act.put, List.setIfInBounds_toArray, List.set_cons_zero, List.set_cons_succ])
                refine anyB_take (i := 3) (oi := _) (v := ?q58_14v3) rfl (by kernel_rfl) (by kernel_rfl) (by kernel_rfl) (by kernel_rfl) (fun _ _ _ h => h) (Or.inl ⟨by rfl, ?q58_14h3⟩) (by assumption) ?q58_14r3
                case q58_14h3 => (intro w hSw; (try dsimp only at hSw); go_simp; try with_reducible rfl)
                (try simp only [List.getElem_toArray, List.getElem_cons_succ, List.getElem_cons_zero, Act.put, List.setIfInBounds_toArray, List.set_cons_zero, List.set_cons_succ])
                refine anyB_take (i := 5) (oi := _) (v := ?q58_14v4) rfl (by kernel_rfl) (by kernel_rfl) (by kernel_rfl) (by kernel_rfl) (fun _ _ _ h => h) (Or.inl ⟨by rfl, ?q58_14h4⟩) (by assumption) ?q58_14r4
                case q58_14h4 => (intro w hSw; (try dsimp only at hSw); go_simp; try with_reducible rfl)
                (try simp only [List.getElem_toArray, List.getElem_cons_succ, List.getElem_cons_zero, Act.put, List.setIfInBounds_toArray, List.set_cons_zero, List.set_cons_succ])
                refine anyB_take (i := 8) (oi := _) (v := ?q58_14v5) rfl (by kernel_rfl) (by kernel_rfl) (by kernel_rfl) (by kernel_rfl) (fun _ _ _ h => h) (Or.inl ⟨by rfl, ?q58_14h5⟩) (by assumption) ?q58_14r5
                case q58_14h5 => (intro w hSw; (try dsimp only at hSw); go_simp; try with_reducible rfl)
                (try simp only [List.getElem_toArray, List.getElem_cons_succ, List.getElem_cons_zero, Act.put, List.setIfInBounds_toArray, List.set_cons_zero, List.set_cons_succ])
                refine anyB_take (i := 9) (oi := _) (v := ?q58_14v6) rfl (by kernel_rfl) (by kernel_rfl) (by kernel_rfl) (by kernel_rfl) (fun _ _ _ h => h) (Or.inl ⟨by rfl, ?q58_14h6⟩) (by assumption) ?q58_14r6
                case q58_14h6 => (intro w hSw; (try dsimp only at hSw); go_simp; try with_reducible rfl)
                (try simp only [List.getElem_toArray, List.getElem_cons_succ, List.getElem_cons_zero, Act.put, List.setIfInBounds_toArray, List.set_cons_zero, List.set_cons_succ])
                refine anyB_take (i := 10) (oi := _) (v := ?q58_14v7) rfl (by kernel_rfl) (by kernel_rfl) (by kernel_rfl) (by kernel_rfl) (fun _ _ _ h => h) (Or.inl ⟨by rfl, ?q58_14h7⟩) (by assumption) ?q58_14r7
                case q58_14h7 => (intro w hSw; (try dsimp only at hSw); go_simp; try with_reducible rfl)
                (try simp only [List.getElem_toArray, List.getElem_cons_succ, List.getElem_cons_zero, Act.put, List.setIfInBounds_toArray, List.set_cons_zero, List.set_cons_succ])
                refine anyB_two (i := 0) (j := 6) (oi := _) (oj := _) (by kernel_rfl) (by rfl) (by rfl) (by (simp only [List.getElem?_toArray, List.getElem?_cons_zero] <;> rfl)) (by (simp only [List.getElem?_toArray, List.getElem?_cons_succ, List.getElem?_cons_zero] <;> rfl)) (fun K hK => ?q58_14x8) (fun K hK => ?q58_14y8)
                case q58_14x8 =>
                  go_simp
                  refine hK.out _ _ ?q58_14S9 (fun hHeld1 => ?_)
                  case q58_14S9 => ((first | go_keep | ((try dsimp only); exact ⟨by assumption, by assumption, by assumption, by assumption⟩)))
                  clear hK K hHeld0
                  (try simp only [List.getElem_toArray, List.getElem_cons_succ, List.getElem_cons_zero, Act.put, List.setIfInBounds_toArray, List.set_cons_zero, List.set_cons_succ])
                  refine anyB_two (i := 4) (j := 6) (oi := _) (oj := _) (by kernel_rfl) (by rfl) (by rfl) (by (simp only [List.getElem?_toArray, List.getElem?_cons_succ, List.getElem?_cons_zero] <;> rfl)) (by (simp only [List.getElem?_toArray, List.getElem?_cons_succ, List.getElem?_cons_zero] <;> rfl)) (fun K hK => ?q58_14x10) (fun K hK => ?q58_14y10)
                  case q58_14x10 =>
                    refine stp_append_sl (by rfl) (.tmp 52) (.tmp 55) 43 (by rfl) fits32 (HO.out.ext (by repeat' (first | exact Out.refl _ _ | refine Out.drew ?_ | refine Out.alloc ?_ _))) (by rfl) (by simp <;> omega) (HT.out.ext (by repeat' (first | exact Out.refl _ _ | refine Out.drew ?_ | refine Out.alloc ?_ _))) (by rfl) (fun i hi cs hc => entC.mono hc (fun b hb hlb => ⟨hb.1, fun e => by simp [Value.ownBlock] at e; have := hb.2; omega⟩)) (by rw [Htl.out, List.length_nil]; omega) (by decide) ?_; intro v7 w7 g1 g2 g3; (rw [List.nil_append] at g1); obtain ⟨A7, k7, m7, rfl⟩ := g1.form0; have G1 := Lib.hid g1; have HX7 : Hid (Ext w8 w7) := Lib.hid (Out.then (by repeat' (first | exact Out.refl _ _ | refine Out.drew ?_ | refine Out.alloc ?_ _)) g2 (fun i hi e => by simp [Value.ownBlock] at e; omega)); obtain ⟨y0, y1, y2, y3, -⟩ := cells4 (HX7.out.blk HZ.out (fun f => f)); clear g1 g2 g3
                    refine hK.out _ _ ?q58_14S11 (fun hHeld2 => ?_)
                    case q58_14S11 => ((first | go_keep | ((try dsimp only); exact ⟨by assumption, by assumption, by assumption, by assumption⟩)))
                    clear hK K hHeld1
                    (try simp only [Act.put, List.setIfInBounds_toArray, List.set_cons_zero, List.set_cons_succ])
                    refine anyB_step (i := 6) (o := _) (by kernel_rfl) (by rfl) (by (simp only [List.getElem?_toArray, List.getElem?_cons_succ, List.getElem?_cons_zero] <;> rfl)) (fun K hK => ?_)
                    go_simp
                    refine hK.out _ _ ?q58_14S12 (fun hHeld3 => ?_)
                    case q58_14S12 => ((first | go_keep | ((try dsimp only); exact ⟨by assumption, by assumption, by assumption, by assumption⟩)))
                    clear hK K hHeld2
                    (try simp only [List.getElem_toArray, List.getElem_cons_succ, List.getElem_cons_zero, Act.put, List.setIfInBounds_toArray, List.set_cons_zero, List.set_cons_succ])
                    refine anyB_step (i := 7) (o := _) (by kernel_rfl) (by rfl) (by (simp only [List.getElem?_toArray, List.getElem?_cons_succ, List.getElem?_cons_zero] <;> rfl)) (fun K hK => ?_)
                    have hz7 := HX7.out.size; refine step_append_one (by rfl) (.tmp 56) (.tmp 58) 43 (by rfl) fits32 (G1.out.ext (Ext.alloc1 _ _)) (by rfl) (by (try simp only [World.size_alloc]); omega) (blk_new _ _) (by rfl) E ⟨_, _, rfl, (Hu.out.ext (HX7.out.alloc _)).mono (fun b hb _ => ⟨hb.1, (fun e => by have := (G1.out.lt b e).1; have := hb.2; omega)⟩) (.inl (by decide)), (Hv.out.ext (HX7.out.alloc _)).mono (fun b hb _ => ⟨hb.1, (fun e => by have := (G1.out.lt b e).1; have := hb.2; omega)⟩) (.inl (by decide))⟩ (by rw [Htl.out]; omega) (by decide) ?_; intro v9 w9 g1 g2 g3; obtain ⟨A9, k9, m9, rfl⟩ := g1.form0; have G9 := Lib.hid g1; have HX9 : Hid (Ext w8 w9) := Lib.hid (Out.then (HX7.out.alloc _) g2 (fun i hi e => by have := (G1.out.lt i e).1; omega)); obtain ⟨x0, x1, x2, x3, -⟩ := cells4 (HX9.out.blk HZ.out (fun f => f)); clear g1 g2 g3
                    refine hK.out _ _ ?q58_14S13 (fun hHeld4 => ?_)
                    case q58_14S13 => ((first | go_keep | ((try dsimp only); exact ⟨by assumption, by assumption, by assumption, by assumption⟩)))
                    clear hK K hHeld3
                    (try simp only [Act.put, List.setIfInBounds_toArray, List.set_cons_zero, List.set_cons_succ])
                    refine anyB_step (i := 11) (o := _) (by kernel_rfl) (by rfl) (by (simp only [List.getElem?_toArray, List.getElem?_cons_succ, List.getElem?_cons_zero] <;> rfl)) (fun K hK => ?_)
                    refine stp_append_sl (by rfl) (.tmp 59) (.tmp 62) 43 (by rfl) fits32 G9.out (by rfl) HX9.out.size (HD.out.ext HX9.out) (by rfl) (fun i hi cs hc => entC.mono hc (fun b hb hlb => ⟨hb.1, fun e => by have := (G9.out.lt b e).1; have := hb.2; omega⟩)) (by rw [List.length_append, Htl.out, Hdl.out]; simp; omega) (by decide) ?_; intro v10 w10 g1 g2 g3; obtain ⟨A10, k10, m10, rfl⟩ := g1.form0; have G10 := Lib.hid g1; have HX10 : Hid (Ext w8 w10) := Lib.hid (HX9.out.then g2 (fun i hi e => by have := (G9.out.lt i e).1; omega)); obtain ⟨p0, p1, p2, p3, -⟩ := cells4 (HX10.out.blk HZ.out (fun f => f)); clear g1 g2 g3
                    refine hK.out _ _ ?q58_14S14 (fun hHeld5 => ?_)
                    case q58_14S14 => ((first | go_keep | ((try dsimp only); exact ⟨by assumption, by assumption, by assumption, by assumption⟩)))
                    clear hK K hHeld4
                    (try simp only [Act.put, List.setIfInBounds_toArray, List.set_cons_zero, List.set_cons_succ])
                    refine anyB_last (i := 12) (o := _) (by kernel_rfl) (by rfl) (by (simp only [List.getElem?_toArray, List.getElem?_cons_succ, List.getElem?_cons_zero] <;> rfl)) (fun K hK => ?_)
                    go_simp
                    refine hK.out _ _ ?_
                    clear hK K
                    (try simp only [List.getElem_toArray, List.getElem_cons_succ, List.getElem_cons_zero, Act.put, List.setIfInBounds_toArray, List.set_cons_zero, List.set_cons_succ])
                    refine anyB_done (by kernel_rfl) ?_ _
                    go_wp2
                    go_roundw
                    case rel => exact ⟨i + 1, by omega, by go_num, (HX1.out.ext HX8.out).ext HX10.out, by rw [Hnew.out]; have h := G10.out.baseM hB0; rw [List.append_assoc] at h; exact h⟩
                    case measure => simp [intOf]; omega
                  case q58_14y10 =>
                    go_simp
                    refine hK.out _ _ ?q58_14S15 (fun hHeld2 => ?_)
                    case q58_14S15 => ((first | go_keep | ((try dsimp only); exact ⟨by assumption, by assumption, by assumption, by assumption⟩)))
                    clear hK K hHeld1
                    (try simp only [List.getElem_toArray, List.getElem_cons_succ, List.getElem_cons_zero, Act.put, List.setIfInBounds_toArray, List.set_cons_zero, List.set_cons_succ])
                    refine anyB_step (i := 4) (o := _) (by kernel_rfl) (by rfl) (by (simp only [List.getElem?_toArray, List.getElem?_cons_succ, List.getElem?_cons_zero] <;> rfl)) (fun K hK => ?_)
                    refine stp_append_sl (by rfl) (.tmp 52) (.tmp 55) 43 (by rfl) fits32 (HO.out.ext (by repeat' (first | exact Out.refl _ _ | refine Out.drew ?_ | refine Out.alloc ?_ _))) (by rfl) (by simp <;> omega) (HT.out.ext (by repeat' (first | exact Out.refl _ _ | refine Out.drew ?_ | refine Out.alloc ?_ _))) (by rfl) (fun i hi cs hc => entC.mono hc (fun b hb hlb => ⟨hb.1, fun e => by simp [Value.ownBlock] at e; have := hb.2; omega⟩)) (by rw [Htl.out, List.length_nil]; omega) (by decide) ?_; intro v7 w7 g1 g2 g3; have HEC := Lib.hid (g2.blk (o := (.cells #[.slice U N1 n1, u64V E.key.seq, byteV E.key.kind, .slice V E.value.length N2] 32)) (g := w8.heap.size + 1) (blk_atD (by simp)) (fun e => by have e2 := Option.some.inj e; dsimp only at e2; omega)); (rw [List.nil_append] at g1); obtain ⟨A7, k7, m7, rfl⟩ := g1.form0; have G1 := Lib.hid g1; have HX7 : Hid (Ext w8 w7) := Lib.hid (Out.then (by repeat' (first | exact Out.refl _ _ | refine Out.drew ?_ | refine Out.alloc ?_ _)) g2 (fun i hi e => by simp [Value.ownBlock] at e; omega)); obtain ⟨y0, y1, y2, y3, -⟩ := cells4 (HX7.out.blk HZ.out (fun f => f)); clear g1 g2 g3
                    refine hK.out _ _ ?q58_14S16 (fun hHeld3 => ?_)
                    case q58_14S16 => ((first | go_keep | ((try dsimp only); exact ⟨by assumption, by assumption, by assumption, by assumption⟩)))
                    clear hK K hHeld2
                    (try simp only [Act.put, List.setIfInBounds_toArray, List.set_cons_zero, List.set_cons_succ])
                    refine anyB_step (i := 7) (o := _) (by kernel_rfl) (by rfl) (by (simp only [List.getElem?_toArray, List.getElem?_cons_succ, List.getElem?_cons_zero] <;> rfl)) (fun K hK => ?_)
                    have hz7 := HX7.out.size; refine step_append_one (by rfl) (.tmp 56) (.tmp 58) 43 (by rfl) fits32 G1.out (by rfl) (by (try simp only [World.size_alloc]); omega) HEC.out (by rfl) E ⟨_, _, rfl, (Hu.out.ext HX7.out).mono (fun b hb _ => ⟨hb.1, (fun e => by have := (G1.out.lt b e).1; have := hb.2; omega)⟩) (.inl (by decide)), (Hv.out.ext HX7.out).mono (fun b hb _ => ⟨hb.1, (fun e => by have := (G1.out.lt b e).1; have := hb.2; omega)⟩) (.inl (by decide))⟩ (by rw [Htl.out]; omega) (by decide) ?_; intro v9 w9 g1 g2 g3; obtain ⟨A9, k9, m9, rfl⟩ := g1.form0; have G9 := Lib.hid g1; have HX9 : Hid (Ext w8 w9) := Lib.hid (Out.then HX7.out g2 (fun i hi e => by have := (G1.out.lt i e).1; omega)); obtain ⟨x0, x1, x2, x3, -⟩ := cells4 (HX9.out.blk HZ.out (fun f => f)); clear g1 g2 g3
                    refine hK.out _ _ ?q58_14S17 (fun hHeld4 => ?_)
                    case q58_14S17 => ((first | go_keep | ((try dsimp only); exact ⟨by assumption, by assumption, by assumption, by assumption⟩)))
                    clear hK K hHeld3
                    (try simp only [Act.put, List.setIfInBounds_toArray, List.set_cons_zero, List.set_cons_succ])
                    refine anyB_step (i := 11) (o := _) (by kernel_rfl) (by rfl) (by (simp only [List.getElem?_toArray, List.getElem?_cons_succ, List.getElem?_cons_zero] <;> rfl)) (fun K hK => ?_)
                    refine stp_append_sl (by rfl) (.tmp 59) (.tmp 62) 43 (by rfl) fits32 G9.out (by rfl) HX9.out.size (HD.out.ext HX9.out) (by rfl) (fun i hi cs hc => entC.mono hc (fun b hb hlb => ⟨hb.1, fun e => by have := (G9.out.lt b e).1; have := hb.2; omega⟩)) (by rw [List.length_append, Htl.out, Hdl.out]; simp; omega) (by decide) ?_; intro v10 w10 g1 g2 g3; obtain ⟨A10, k10, m10, rfl⟩ := g1.form0; have G10 := Lib.hid g1; have HX10 : Hid (Ext w8 w10) := Lib.hid (HX9.out.then g2 (fun i hi e => by have := (G9.out.lt i e).1; omega)); obtain ⟨p0, p1, p2, p3, -⟩ := cells4 (HX10.out.blk HZ.out (fun f => f)); clear g1 g2 g3
                    refine hK.out _ _ ?q58_14S18 (fun hHeld5 => ?_)
                    case q58_14S18 => ((first | go_keep | ((try dsimp only); exact ⟨by assumption, by assumption, by assumption, by assumption⟩)))
                    clear hK K hHeld4
                    (try simp only [Act.put, List.setIfInBounds_toArray, List.set_cons_zero, List.set_cons_succ])
                    refine anyB_last (i := 12) (o := _) (by kernel_rfl) (by rfl) (by (simp only [List.getElem?_toArray, List.getElem?_cons_succ, List.getElem?_cons_zero] <;> rfl)) (fun K hK => ?_)
                    go_simp
                    refine hK.out _ _ ?_
                    clear hK K
                    (try simp only [List.getElem_toArray, List.getElem_cons_succ, List.getElem_cons_zero, Act.put, List.setIfInBounds_toArray, List.set_cons_zero, List.set_cons_succ])
                    refine anyB_done (by kernel_rfl) ?_ _
                    go_wp2
                    go_roundw
                    case rel => exact ⟨i + 1, by omega, by go_num, (HX1.out.ext HX8.out).ext HX10.out, by rw [Hnew.out]; have h := G10.out.baseM hB0; rw [List.append_assoc] at h; exact h⟩
                    case measure => simp [intOf]; omega
                case q58_14y8 =>
                  go_simp
                  refine hK.out _ _ ?q58_14S19 (fun hHeld1 => ?_)
                  case q58_14S19 => ((first | go_keep | ((try dsimp only); exact ⟨by assumption, by assumption, by assumption, by assumption⟩)))
                  clear hK K hHeld0
                  (try simp only [List.getElem_toArray, List.getElem_cons_succ, List.getElem_cons_zero, Act.put, List.setIfInBounds_toArray, List.set_cons_zero, List.set_cons_succ])
                  refine anyB_step (i := 0) (o := _) (by kernel_rfl) (by rfl) (by (simp only [List.getElem?_toArray, List.getElem?_cons_zero] <;> rfl)) (fun K hK => ?_)
                  go_simp
                  refine hK.out _ _ ?q58_14S20 (fun hHeld2 => ?_)
                  case q58_14S20 => ((first | go_keep | ((try dsimp only); exact ⟨by assumption, by assumption, by assumption, by assumption⟩)))
                  clear hK K hHeld1
                  (try simp only [List.getElem_toArray, List.getElem_cons_succ, List.getElem_cons_zero, Act.put, List.setIfInBounds_toArray, List.set_cons_zero, List.set_cons_succ])
                  refine anyB_step (i := 4) (o := _) (by kernel_rfl) (by rfl) (by (simp only [List.getElem?_toArray, List.getElem?_cons_succ, List.getElem?_cons_zero] <;> rfl)) (fun K hK => ?_)
                  refine stp_append_sl (by rfl) (.tmp 52) (.tmp 55) 43 (by rfl) fits32 (HOb.out.ext (by repeat' (first | exact Out.refl _ _ | refine Out.drew ?_ | refine Out.alloc ?_ _))) (by rfl) (by simp <;> omega) (HT.out.ext (by repeat' (first | exact Out.refl _ _ | refine Out.drew ?_ | refine Out.alloc ?_ _))) (by rfl) (fun i hi cs hc => entC.mono hc (fun b hb hlb => ⟨hb.1, fun e => by simp [Value.ownBlock] at e; have := hb.2; omega⟩)) (by rw [Htl.out, List.length_nil]; omega) (by decide) ?_; intro v7 w7 g1 g2 g3; have HEC := Lib.hid (g2.blk (o := (.cells #[.slice U N1 n1, u64V E.key.seq, byteV E.key.kind, .slice V E.value.length N2] 32)) (g := w8.heap.size) (show (World.drew _).heap[_]? = _ from blk_alloc (blk_new _ _) _) (fun e => by have e2 := Option.some.inj e; dsimp only at e2; omega)); (rw [List.nil_append] at g1); obtain ⟨A7, k7, m7, rfl⟩ := g1.form0; have G1 := Lib.hid g1; have HX7 : Hid (Ext w8 w7) := Lib.hid (Out.then (by repeat' (first | exact Out.refl _ _ | refine Out.drew ?_ | refine Out.alloc ?_ _)) g2 (fun i hi e => by simp [Value.ownBlock] at e; omega)); obtain ⟨y0, y1, y2, y3, -⟩ := cells4 (HX7.out.blk HZ.out (fun f => f)); clear g1 g2 g3
                  refine hK.out _ _ ?q58_14S21 (fun hHeld3 => ?_)
                  case q58_14S21 => ((first | go_keep | ((try dsimp only); exact ⟨by assumption, by assumption, by assumption, by assumption⟩)))
                  clear hK K hHeld2
                  (try simp only [Act.put, List.setIfInBounds_toArray, List.set_cons_zero, List.set_cons_succ])
                  refine anyB_step (i := 7) (o := _) (by kernel_rfl) (by rfl) (by (simp only [List.getElem?_toArray, List.getElem?_cons_succ, List.getElem?_cons_zero] <;> rfl)) (fun K hK => ?_)
                  have hz7 := HX7.out.size; refine step_append_one (by rfl) (.tmp 56) (.tmp 58) 43 (by rfl) fits32 G1.out (by rfl) (by (try simp only [World.size_alloc]); omega) HEC.out (by rfl) E ⟨_, _, rfl, (Hu.out.ext HX7.out).mono (fun b hb _ => ⟨hb.1, (fun e => by have := (G1.out.lt b e).1; have := hb.2; omega)⟩) (.inl (by decide)), (Hv.out.ext HX7.out).mono (fun b hb _ => ⟨hb.1, (fun e => by have := (G1.out.lt b e).1; have := hb.2; omega)⟩) (.inl (by decide))⟩ (by rw [Htl.out]; omega) (by decide) ?_; intro v9 w9 g1 g2 g3; obtain ⟨A9, k9, m9, rfl⟩ := g1.form0; have G9 := Lib.hid g1; have HX9 : Hid (Ext w8 w9) := Lib.hid (Out.then HX7.out g2 (fun i hi e => by have := (G1.out.lt i e).1; omega)); obtain ⟨x0, x1, x2, x3, -⟩ := cells4 (HX9.out.blk HZ.out (fun f => f)); clear g1 g2 g3
                  refine hK.out _ _ ?q58_14S22 (fun hHeld4 => ?_)
                  case q58_14S22 => ((first | go_keep | ((try dsimp only); exact ⟨by assumption, by assumption, by assumption, by assumption⟩)))
                  clear hK K hHeld3
                  (try simp only [Act.put, List.setIfInBounds_toArray, List.set_cons_zero, List.set_cons_succ])
                  refine anyB_step (i := 11) (o := _) (by kernel_rfl) (by rfl) (by (simp only [List.getElem?_toArray, List.getElem?_cons_succ, List.getElem?_cons_zero] <;> rfl)) (fun K hK => ?_)
                  refine stp_append_sl (by rfl) (.tmp 59) (.tmp 62) 43 (by rfl) fits32 G9.out (by rfl) HX9.out.size (HD.out.ext HX9.out) (by rfl) (fun i hi cs hc => entC.mono hc (fun b hb hlb => ⟨hb.1, fun e => by have := (G9.out.lt b e).1; have := hb.2; omega⟩)) (by rw [List.length_append, Htl.out, Hdl.out]; simp; omega) (by decide) ?_; intro v10 w10 g1 g2 g3; obtain ⟨A10, k10, m10, rfl⟩ := g1.form0; have G10 := Lib.hid g1; have HX10 : Hid (Ext w8 w10) := Lib.hid (HX9.out.then g2 (fun i hi e => by have := (G9.out.lt i e).1; omega)); obtain ⟨p0, p1, p2, p3, -⟩ := cells4 (HX10.out.blk HZ.out (fun f => f)); clear g1 g2 g3
                  refine hK.out _ _ ?q58_14S23 (fun hHeld5 => ?_)
                  case q58_14S23 => ((first | go_keep | ((try dsimp only); exact ⟨by assumption, by assumption, by assumption, by assumption⟩)))
                  clear hK K hHeld4
                  (try simp only [Act.put, List.setIfInBounds_toArray, List.set_cons_zero, List.set_cons_succ])
                  refine anyB_last (i := 12) (o := _) (by kernel_rfl) (by rfl) (by (simp only [List.getElem?_toArray, List.getElem?_cons_succ, List.getElem?_cons_zero] <;> rfl)) (fun K hK => ?_)
                  go_simp
                  refine hK.out _ _ ?_
                  clear hK K
                  (try simp only [List.getElem_toArray, List.getElem_cons_succ, List.getElem_cons_zero, Act.put, List.setIfInBounds_toArray, List.set_cons_zero, List.set_cons_succ])
                  refine anyB_done (by kernel_rfl) ?_ _
                  go_wp2
                  go_roundw
                  case rel => exact ⟨i + 1, by omega, by go_num, (HX1.out.ext HX8.out).ext HX10.out, by rw [Hnew.out]; have h := G10.out.baseM hB0; rw [List.append_assoc] at h; exact h⟩
                  case measure => simp [intOf]; omega
              · have hfit : fitE E = false := by unfold fitE; simp [hv512]
                have Hsame : Hid (sortE (l.take (i + 1)) = es) := Lib.hid (by rw [Hsucc.out, hfit]; rfl)
                subst hc
                clear hfit htw hcc
                go_wp2_with (go_at_call 102; refine (key_checkM _ E.key (Hu.out.ext HXj.out)).mono ?_; rw [Hcc.out]; rintro r w8 ⟨rfl, hx8⟩; have HX8 := Lib.hid (HXj.out.ext hx8); obtain ⟨m0, m1, m2, m3, -⟩ := cells4 (HX8.out.blk Hz.out (fun f => f)); clear hx8)
                go_roundw
                case rel => exact ⟨i + 1, by omega, by go_num, HX1.out.ext HX8.out, by rw [Hsame.out]; exact Hown.out.ext HX8.out⟩
                case measure => simp [intOf]; omega
            · have hfit : fitE E = false := by unfold fitE; simp [hcc, hc]
              have Hsame : Hid (sortE (l.take (i + 1)) = es) := Lib.hid (by rw [Hsucc.out, hfit]; rfl)
              have hcb : (cc == 0) = false := by simpa using hc
              clear hfit htw hcc
              go_wp2_with (go_at_call 102; refine (key_checkM _ E.key (Hu.out.ext HXj.out)).mono ?_; rw [Hcc.out]; rintro r w8 ⟨rfl, hx8⟩; have HX8 := Lib.hid (HXj.out.ext hx8); clear hx8)
              go_roundw
              case rel => exact ⟨i + 1, by omega, by go_num, HX1.out.ext HX8.out, by rw [Hsame.out]; exact Hown.out.ext HX8.out⟩
              case measure => simp [intOf]; omega
    · obtain rfl : i = l.length := by omega
      go_wp2
      go_ret
      rw [List.take_length] at hown
      have hsl := sortE_length l
      exact ⟨_, rfl, hxi, hown.sl (by decide) (by show _ ≤ 140737488355328; omega) (fun b hb _ => hb) (fun b hb _ => .inr hb)⟩
end Go.Proofs.Yteaanagljmcidaa
namespace Go.Proofs.Yteaanagljmcidaa

/-- Is e the newest of its key as of q, and over its spans? -/
def seesE (l : List Ent) (L : List SpanE) (q : Nat) (e : Ent) : Bool := decide (l.find? (fitsK e.key.user q) = some e) && decide (coverE L e.key.user q ≤ e.key.seq.toNat)
def pairOf (e : Ent) : PairE := ⟨e.key.user, e.value⟩
def isPut (e : Ent) : Bool := decide (e.key.kind.toNat ≠ 1)
/-- The pairs that are seen. -/
def seenE (l : List Ent) (L : List SpanE) (q : Nat) : List PairE := (l.filter fun e => seesE l L q e && isPut e).map pairOf
def staysE (l : List Ent) (L : List SpanE) (qs : List Nat) (e : Ent) : Bool := qs.any fun q => seesE l L q e
def bareStep (e : Ent) (r : List Ent) : List Ent := if isPut e = true ∨ r.head?.any (fun x => x.key.user == e.key.user) = true then e :: r else r
/-- Without deletes below which nothing lies. -/
def bareE (l : List Ent) : List Ent := l.foldr bareStep []
def keepE (l : List Ent) (L : List SpanE) (bottom : Bool) (qs : List Nat) : List Ent := if bottom then bareE (l.filter (staysE l L qs)) else l.filter (staysE l L qs)
def needsE (out : List Ent) (s : SpanE) : Bool := out.any fun e => decide (e.key.seq.toNat < s.seq.toNat) && coversB s e.key.user
def leftE (out : List Ent) (L : List SpanE) (bottom : Bool) : List SpanE := if bottom then L.filter (needsE out) else L

theorem SortedE.nodup {l : List Ent} (h : SortedE l) : l.Nodup := List.Pairwise.imp (R := fun a b : Ent => kcmp a.key b.key < 0) (S := fun a b => a ≠ b) (fun {a b} hab e => kcmp_irrefl a.key (by rw [← e] at hab; exact hab)) h
theorem SortedE.sub {l k : List Ent} (h : SortedE l) (hs : k.Sublist l) : SortedE k := List.Pairwise.sublist hs h
/-- The first that fits. -/
theorem find_first {l : List Ent} (h : SortedE l) {p : Ent → Bool} {e : Ent} : l.find? p = some e ↔ e ∈ l ∧ p e = true ∧ ∀ y ∈ l, p y = true → y = e ∨ kcmp e.key y.key < 0 := by
  constructor
  · intro hf
    refine ⟨List.mem_of_find?_eq_some hf, List.find?_some hf, fun y hy hp => ?_⟩
    rw [List.find?_eq_some_iff_append] at hf
    obtain ⟨-, a, b, rfl, ha⟩ := hf
    rcases List.mem_append.1 hy with hy | hy
    · have := ha y hy
      rw [hp] at this; cases this
    · rcases List.mem_cons.1 hy with rfl | hy
      · exact .inl rfl
      · exact .inr ((List.pairwise_cons.1 (List.pairwise_append.1 h).2.1).1 y hy)
  · rintro ⟨he, hp, hall⟩
    obtain ⟨a, b, rfl⟩ := List.append_of_mem he
    rw [List.find?_eq_some_iff_append]
    refine ⟨hp, a, b, rfl, fun y hy => ?_⟩
    cases hpy : p y with
    | false => rfl
    | true =>
      exfalso
      have h1 := (List.pairwise_append.1 h).2.2 y hy e List.mem_cons_self
      rcases hall y (List.mem_append_left _ hy) hpy with rfl | h2
      · exact kcmp_irrefl _ h1
      · exact kcmp_irrefl _ (kcmp_trans h1 h2)
theorem find_sub {l k : List Ent} (h : SortedE l) (hs : k.Sublist l) {p : Ent → Bool} {e : Ent} (hf : l.find? p = some e) (he : e ∈ k) : k.find? p = some e := by
  obtain ⟨-, h2, h3⟩ := (find_first h).1 hf
  exact (find_first (h.sub hs)).2 ⟨he, h2, fun y hy => h3 y (hs.subset hy)⟩
theorem coverE_mono {L t : List SpanE} {k : List UInt8} {q : Nat} (h : ∀ s ∈ t, s ∈ L) : coverE t k q ≤ coverE L k q := by
  have := coverE_lt (k := k) (q := q) (n := coverE L k q + 1) (by omega) (l := t) fun s hs h1 h2 => Nat.lt_succ_of_le (coverE_ge (h s hs) h1 h2)
  omega
theorem coverE_ex {L : List SpanE} {k : List UInt8} {q n : Nat} (h : n < coverE L k q) : ∃ s ∈ L, s.seq.toNat ≤ q ∧ coversB s k = true ∧ n < s.seq.toNat := by
  apply Classical.byContradiction
  intro hn
  have := coverE_lt (k := k) (q := q) (n := coverE L k q) (by omega) (l := L) fun s hs h1 h2 => by
    apply Classical.byContradiction
    intro h3
    exact hn ⟨s, hs, h1, h2, by omega⟩
  omega

/-! ### bare -/
theorem bareE_cons (e : Ent) (l : List Ent) : bareE (e :: l) = bareStep e (bareE l) := rfl
theorem bareE_sub : ∀ l : List Ent, (bareE l).Sublist l
  | [] => .slnil
  | e :: l => by
    rw [bareE_cons]
    unfold bareStep
    split
    · exact (bareE_sub l).cons_cons e
    · exact (bareE_sub l).cons e
theorem bareE_put : ∀ {l : List Ent} {e : Ent}, e ∈ l → isPut e = true → e ∈ bareE l
  | y :: l, e, he, hp => by
    rw [bareE_cons]
    unfold bareStep
    rcases List.mem_cons.1 he with rfl | he
    · rw [if_pos (.inl hp)]; exact List.mem_cons_self
    · have := bareE_put he hp
      split
      · exact List.mem_cons_of_mem _ this
      · exact this
theorem bareE_idem : ∀ l : List Ent, bareE (bareE l) = bareE l
  | [] => rfl
  | e :: l => by
    rw [bareE_cons]
    by_cases h : isPut e = true ∨ (bareE l).head?.any (fun x => x.key.user == e.key.user) = true
    · have h1 : bareStep e (bareE l) = e :: bareE l := if_pos h
      rw [h1, bareE_cons, bareE_idem l, h1]
    · have h1 : bareStep e (bareE l) = bareE l := if_neg h
      rw [h1, bareE_idem l]
/-- Below a delete that was dropped nothing of its key is kept. -/
theorem bareE_below : ∀ {l : List Ent}, SortedE l → ∀ {e : Ent}, e ∈ l → e ∉ bareE l → ∀ y ∈ bareE l, y.key.user = e.key.user → kcmp y.key e.key < 0
  | x :: l, h, e, he, hn, y, hy, hu => by
    have hl := (List.pairwise_cons.1 h).2
    have hx := (List.pairwise_cons.1 h).1
    rw [bareE_cons] at hn hy
    rcases List.mem_cons.1 he with rfl | hel
    · by_cases hc : isPut e = true ∨ (bareE l).head?.any (fun x => x.key.user == e.key.user) = true
      · have h1 : bareStep e (bareE l) = e :: bareE l := if_pos hc
        rw [h1] at hn
        exact absurd List.mem_cons_self hn
      · have h1 : bareStep e (bareE l) = bareE l := if_neg hc
        rw [h1] at hy
        exfalso
        cases hb : bareE l with
        | nil => rw [hb] at hy; cases hy
        | cons z r =>
          have hz : z ∈ l := (bareE_sub l).subset (by rw [hb]; exact List.mem_cons_self)
          have hsb : SortedE (bareE l) := SortedE.sub hl (bareE_sub l)
          rw [hb] at hsb hy hc
          have hzu : ¬ z.key.user = e.key.user := fun hzu => hc (.inr (by simpa using hzu))
          have h1 := hx z hz
          rcases List.mem_cons.1 hy with rfl | hy
          · exact hzu hu
          · have h2 := (List.pairwise_cons.1 hsb).1 y hy
            rw [kcmp_neg] at h1 h2
            rcases h1 with h1 | ⟨h1, -⟩
            · rcases h2 with h2 | ⟨h2, -⟩
              · have := bcmp_trans _ _ _ h1 h2
                rw [hu, (bcmp_zero e.key.user e.key.user).2 rfl] at this
                omega
              · exact hzu (h2.trans hu)
            · exact hzu h1.symm
    · have hn' : e ∉ bareE l := fun hc => hn (by
        unfold bareStep
        split
        · exact List.mem_cons_of_mem _ hc
        · exact hc)
      have hy' : y = x ∨ y ∈ bareE l := by
        unfold bareStep at hy
        split at hy
        · exact List.mem_cons.1 hy
        · exact .inr hy
      rcases hy' with rfl | hy'
      · exact hx e hel
      · exact bareE_below hl hel hn' y hy' hu

/-! ### what is kept -/
section
variable {l : List Ent} {L : List SpanE} {bottom : Bool} {qs : List Nat}
theorem keepE_sub : (keepE l L bottom qs).Sublist l := by
  unfold keepE
  split
  · exact (bareE_sub _).trans List.filter_sublist
  · exact List.filter_sublist
theorem keepE_stays {e : Ent} (h : e ∈ keepE l L bottom qs) : staysE l L qs e = true := by
  have : e ∈ l.filter (staysE l L qs) := by
    unfold keepE at h
    split at h
    · exact (bareE_sub _).subset h
    · exact h
  exact (List.mem_filter.1 this).2
theorem keepE_put {e : Ent} (h : e ∈ l) (hs : staysE l L qs e = true) (hp : isPut e = true) : e ∈ keepE l L bottom qs := by
  have h1 : e ∈ l.filter (staysE l L qs) := List.mem_filter.2 ⟨h, hs⟩
  unfold keepE
  split
  · exact bareE_put h1 hp
  · exact h1
theorem keepE_below (hl : SortedE l) {e : Ent} (h : e ∈ l) (hs : staysE l L qs e = true) (hn : e ∉ keepE l L bottom qs) : ∀ y ∈ keepE l L bottom qs, y.key.user = e.key.user → kcmp y.key e.key < 0 := by
  have h1 : e ∈ l.filter (staysE l L qs) := List.mem_filter.2 ⟨h, hs⟩
  unfold keepE at hn ⊢
  split
  · rename_i hb
    rw [if_pos hb] at hn
    exact bareE_below (hl.sub List.filter_sublist) h1 hn
  · rename_i hb
    rw [if_neg hb] at hn
    exact absurd h1 hn
theorem leftE_sub {out : List Ent} : ∀ s ∈ leftE out L bottom, s ∈ L := by
  unfold leftE
  intro s hs
  split at hs
  · exact (List.mem_filter.1 hs).1
  · exact hs
theorem leftE_mem {out : List Ent} {s : SpanE} {e : Ent} (hs : s ∈ L) (he : e ∈ out) (h1 : e.key.seq.toNat < s.seq.toNat) (h2 : coversB s e.key.user = true) : s ∈ leftE out L bottom := by
  unfold leftE
  split
  · refine List.mem_filter.2 ⟨hs, ?_⟩
    unfold needsE
    rw [List.any_eq_true]
    exact ⟨e, he, by simp [h1, h2]⟩
  · exact hs
theorem seesE_iff {q : Nat} {e : Ent} : seesE l L q e = true ↔ l.find? (fitsK e.key.user q) = some e ∧ coverE L e.key.user q ≤ e.key.seq.toNat := by
  unfold seesE; simp
theorem staysE_of {q : Nat} {e : Ent} (hq : q ∈ qs) (h : seesE l L q e = true) : staysE l L qs e = true := by
  unfold staysE; rw [List.any_eq_true]; exact ⟨q, hq, h⟩
theorem fitsK_self {e : Ent} {u : List UInt8} {q : Nat} (h : fitsK u q e = true) : e.key.user = u ∧ e.key.seq.toNat ≤ q := by simpa [fitsK] using h
theorem kcmp_seq {a b : Key} (h : kcmp a b < 0) (hu : a.user = b.user) : b.seq.toNat ≤ a.seq.toNat := by
  rw [kcmp_neg] at h
  rcases h with h | ⟨-, h | ⟨h, -⟩⟩
  · rw [hu, (bcmp_zero _ _).2 rfl] at h; omega
  · omega
  · rw [h]; omega

/-- What is kept is seen as it was seen. -/
theorem sees_keep (hl : SortedE l) {q : Nat} (hq : q ∈ qs) {e : Ent} (he : e ∈ l) :
    (seesE l L q e && isPut e) = true ↔ e ∈ keepE l L bottom qs ∧ (seesE (keepE l L bottom qs) (leftE (keepE l L bottom qs) L bottom) q e && isPut e) = true := by
  rw [Bool.and_eq_true, Bool.and_eq_true, seesE_iff, seesE_iff]
  constructor
  · rintro ⟨⟨h1, h2⟩, h3⟩
    have hk : e ∈ keepE l L bottom qs := keepE_put he (staysE_of hq (seesE_iff.2 ⟨h1, h2⟩)) h3
    exact ⟨hk, ⟨find_sub hl keepE_sub h1 hk, Nat.le_trans (coverE_mono leftE_sub) h2⟩, h3⟩
  · rintro ⟨hk, ⟨h1, h2⟩, h3⟩
    refine ⟨?_, h3⟩
    have hfe : fitsK e.key.user q e = true := List.find?_some h1
    have hno : ∀ n, n < coverE L e.key.user q → e.key.seq.toNat ≤ n → False := fun n hn hle => by
      obtain ⟨s, hs, h4, h5, h6⟩ := coverE_ex hn
      have hst : s ∈ leftE (keepE l L bottom qs) L bottom := leftE_mem hs hk (by omega) h5
      have := coverE_ge hst h4 h5
      omega
    cases hf : l.find? (fitsK e.key.user q) with
    | none =>
      have := List.find?_eq_none.1 hf e he
      exact absurd hfe this
    | some e0 =>
      obtain ⟨g1, g2, g3⟩ := (find_first hl).1 hf
      have hu0 := (fitsK_self g2).1
      rcases g3 e he hfe with rfl | hlt
      · exact ⟨rfl, by apply Classical.byContradiction; intro hc; exact hno e.key.seq.toNat (by omega) (Nat.le_refl _)⟩
      · exfalso
        have hs0 := kcmp_seq hlt hu0
        by_cases hc : coverE L e.key.user q ≤ e0.key.seq.toNat
        · have hst : staysE l L qs e0 = true := staysE_of hq (seesE_iff.2 (by rw [hu0]; exact ⟨hf, hc⟩))
          have hn0 : e0 ∉ keepE l L bottom qs := fun hm => by
            rcases ((find_first (hl.sub keepE_sub)).1 h1).2.2 e0 hm g2 with h | h
            · rw [h] at hlt; exact kcmp_irrefl _ hlt
            · exact kcmp_irrefl _ (kcmp_trans h hlt)
          exact kcmp_irrefl _ (kcmp_trans (keepE_below hl g1 hst hn0 e hk hu0.symm) hlt)
        · exact hno _ (by omega) hs0
theorem filter_sub {k : List Ent} (hl : SortedE l) (hs : k.Sublist l) : k = l.filter (fun e => decide (e ∈ k)) := by
  have key : ∀ (l k : List Ent), l.Nodup → k.Sublist l → k = l.filter (fun e => decide (e ∈ k)) := by
    intro l k hn hs
    induction hs with
    | slnil => rfl
    | cons a hs ih =>
      rename_i k l
      obtain ⟨ha, hn⟩ := List.nodup_cons.1 hn
      rw [List.filter_cons, if_neg (by simpa using fun h => ha (hs.subset h))]
      exact ih hn
    | cons_cons a hs ih =>
      rename_i k l
      obtain ⟨ha, hn⟩ := List.nodup_cons.1 hn
      rw [List.filter_cons, if_pos (by simp)]
      congr 1
      rw [ih hn]
      refine List.filter_congr fun x hx => ?_
      have hxa : x ≠ a := fun h => ha (h ▸ hx)
      have := ih hn
      rw [← this]
      simp [hxa]
  exact key l k hl.nodup hs
theorem seen_keep (hl : SortedE l) {q : Nat} (hq : q ∈ qs) : seenE (keepE l L bottom qs) (leftE (keepE l L bottom qs) L bottom) q = seenE l L q := by
  unfold seenE
  congr 1
  generalize hk : keepE l L bottom qs = k
  have hsub : k.Sublist l := by rw [← hk]; exact keepE_sub
  conv => lhs; rw [filter_sub hl hsub, List.filter_filter]
  refine List.filter_congr fun e he => ?_
  have h1 := sees_keep (bottom := bottom) (L := L) hl hq he
  rw [hk] at h1
  rw [Bool.eq_iff_iff, h1, Bool.and_eq_true, decide_eq_true_eq]
  rw [← filter_sub hl hsub]
  exact And.comm
/-- Kept once more it is the same. -/
theorem keep_keep (hl : SortedE l) : keepE (keepE l L bottom qs) (leftE (keepE l L bottom qs) L bottom) bottom qs = keepE l L bottom qs := by
  have hall : (keepE l L bottom qs).filter (staysE (keepE l L bottom qs) (leftE (keepE l L bottom qs) L bottom) qs) = keepE l L bottom qs := by
    rw [List.filter_eq_self]
    intro e he
    have h1 := keepE_stays he
    unfold staysE at h1 ⊢
    rw [List.any_eq_true] at h1 ⊢
    obtain ⟨q, hq, hs⟩ := h1
    rw [seesE_iff] at hs
    exact ⟨q, hq, seesE_iff.2 ⟨find_sub hl keepE_sub hs.1 he, Nat.le_trans (coverE_mono leftE_sub) hs.2⟩⟩
  rw [show keepE (keepE l L bottom qs) (leftE (keepE l L bottom qs) L bottom) bottom qs = if bottom then bareE ((keepE l L bottom qs).filter (staysE (keepE l L bottom qs) (leftE (keepE l L bottom qs) L bottom) qs)) else (keepE l L bottom qs).filter (staysE (keepE l L bottom qs) (leftE (keepE l L bottom qs) L bottom) qs) from rfl, hall]
  cases bottom with
  | false => rfl
  | true =>
    rw [if_pos rfl]
    unfold keepE
    rw [if_pos rfl, bareE_idem]
theorem left_left (out : List Ent) : leftE out (leftE out L bottom) bottom = leftE out L bottom := by
  unfold leftE
  cases bottom with
  | false => rfl
  | true => simp [List.filter_filter]
end
end Go.Proofs.Yteaanagljmcidaa
