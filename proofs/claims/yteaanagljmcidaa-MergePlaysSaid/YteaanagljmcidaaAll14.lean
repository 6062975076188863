/- ref14: All. -/
import Derived.Test.YteaanagljmcidaaSort12
import Derived.Test.YteaanagljmcidaaMeNew
namespace Go.Proofs.Yteaanagljmcidaa
open Go.RowKit

attribute [local go_sem ↓] Go.wp_at_zero Go.wp_at_succ

theorem addAll_take_succ {P L : List Ent} {i : Nat} (hi : i < L.length) : addAll P (L.take (i + 1)) = addE (addAll P (L.take i)) L[i] := by
  rw [take_succ_get hi, addAll_snoc]
theorem allE_take_succ {ls : List (List Ent)} {j : Nat} (hj : j < ls.length) : allE (ls.take (j + 1)) = addAll (allE (ls.take j)) ls[j] := by
  rw [List.take_succ_eq_append_getElem hj, allE_snoc]
theorem sum_le {ls : List (List Ent)} {n : Nat} (h : ∀ l ∈ ls, l.length ≤ n) : ls.flatten.length ≤ ls.length * n := by
  induction ls with
  | nil => simp
  | cons l ls ih =>
    have h1 := h l List.mem_cons_self
    have h2 := ih fun x hx => h x (List.mem_cons_of_mem _ hx)
    simp only [List.flatten_cons, List.length_append, List.length_cons, Nat.add_mul, Nat.one_mul] at h2 ⊢
    omega
theorem allE_le {ls : List (List Ent)} (hls : ls.length ≤ 1000) (hll : ∀ l ∈ ls, l.length ≤ 1000) (j : Nat) : (allE (ls.take j)).length ≤ 1000000 := by
  have h1 := allE_length (ls.take j)
  have h2 := sum_le (ls := ls.take j) (n := 1000) fun l hl => hll l (List.mem_of_mem_take hl)
  have h3 : (ls.take j).length ≤ 1000 := by rw [List.length_take]; omega
  omega

set_option maxRecDepth 100000 in
set_option maxHeartbeats 8000000 in
theorem r14_all (w : World) {F0 : Nat → Prop} {x : Value} (ls : List (List Ent)) (hx0 : Sl lstC w F0 x ls) (hls : ls.length ≤ 1000) (hll : ∀ l ∈ ls, l.length ≤ 1000) :
    Calls Try.prog 48 #[x] w fun r w' => Ext w w' ∧ ((∀ l ∈ ls, SortedE l) → ∃ v, r = .returned (.tuple #[v, .int .i64 0]) ∧ Sl entC w' (fun b => F0 b ∧ b < w.heap.size ∨ w.heap.size ≤ b) v (allE ls)) ∧
      ((¬ ∀ l ∈ ls, SortedE l) → r = .returned (.tuple #[.slice none 0 0, .int .i64 10])) := by
  obtain ⟨F, hF⟩ : ∃ F : Nat → Prop, F = fun b => F0 b ∧ b < w.heap.size := ⟨_, rfl⟩
  have hx : Sl lstC w F x ls := by rw [hF]; exact hx0.mono (fun b hb hlt => ⟨hb, hlt⟩) (.inl (by decide))
  have HFl : Hid (∀ b, F b → b < w.heap.size) := Lib.hid (by rw [hF]; exact fun b hb => hb.2)
  have hgoal : (fun b => F0 b ∧ b < w.heap.size ∨ w.heap.size ≤ b) = fun b => F b ∨ w.heap.size ≤ b := by rw [hF]
  rw [hgoal]
  clear hF hgoal hx0
  obtain ⟨A, cap, rfl, -⟩ := hx.form
  have Hx := Lib.hid hx
  have Hll := Lib.hid hll
  have Hle := Lib.hid (allE_le hls hll)
  clear hx hll
  obtain ⟨B0, hB⟩ : ∃ B0, w.heap.size = B0 := ⟨_, rfl⟩
  have HB := Lib.hid hB
  rw [hB]
  go_enter Try.func48, Try.ntmps48
  go_wp2
  clear hB
  go_loopw [4, 15] (fun s4 s15 wr => ∃ j : Nat, j ≤ ls.length ∧ s15 = .int .i64 j ∧ Ext w wr ∧ (∀ l ∈ ls.take j, SortedE l) ∧ Own entC 32 wr B0 (fun b => F b ∨ B0 ≤ b) s4 (allE (ls.take j))) (fun _ s15 _ => ls.length - (intOf s15).toNat)
  case atStart => exact ⟨0, Nat.zero_le _, rfl, Out.refl _ _, fun l hl => (by simp at hl), Own.nil _ _ _ _ _⟩
  case round =>
    obtain ⟨wj, rfl⟩ : ∃ x : World, x = wr := ⟨_, rfl⟩
    obtain ⟨j, hj, rfl, hxj, hso, hownj⟩ := hrel
    have HXJ := Lib.hid hxj
    have Hso := Lib.hid hso
    have Hownj := Lib.hid hownj
    clear hxj hso
    by_cases hltJ : j < ls.length
    · obtain ⟨b0, o0, x0, hA, -, c0, hl⟩ := (Hx.out.ext HXJ.out).listAt j hltJ
      subst hA
      have hlj : ls[j].length ≤ 1000 := Hll.out _ (List.getElem_mem hltJ)
      have Hno : Hid (¬ SortedE ls[j] → ¬ ∀ l ∈ ls, SortedE l) := Lib.hid fun h h2 => h (h2 _ (List.getElem_mem hltJ))
      have HAl := Lib.hid (allE_take_succ hltJ)
      have hPl := Hle.out j
      generalize hP : allE (ls.take j) = P at *
      generalize hL : ls[j] = L at *
      have HL := Lib.hid hL
      have HP := Lib.hid hP
      obtain ⟨X, xc, rfl, -⟩ := hl.form
      have Hl := Lib.hid hl
      obtain ⟨A4, n4, c4, rfl⟩ := hownj.form0
      clear hl hL hP hownj
      go_wp2
      go_loopw [4, 21] (fun s4 s21 wr => ∃ i : Nat, i ≤ L.length ∧ s21 = .int .i64 i ∧ Ext wj wr ∧ SortedE (L.take i) ∧ Own entC 32 wr B0 (fun b => F b ∨ B0 ≤ b) s4 (addAll P (L.take i))) (fun _ s21 _ => L.length - (intOf s21).toNat)
      case atStart => exact ⟨0, Nat.zero_le _, rfl, Out.refl _ _, .nil, Hownj.out⟩
      case round =>
        obtain ⟨wo, rfl⟩ : ∃ x : World, x = wr := ⟨_, rfl⟩
        obtain ⟨i, hi, rfl, hxi, hsort, hown⟩ := hrel
        have HX := Lib.hid hxi
        have Hsort := Lib.hid hsort
        clear hxi hsort
        by_cases hlti : i < L.length
        · obtain ⟨b1, o1, u1, v1, hA1, -, e0, e1, e2, e3, hu, hv⟩ := (Hl.out.ext HX.out).ent i hlti
          subst hA1
          obtain ⟨U, N1, n1, rfl⟩ := hu.form0
          obtain ⟨V, N2, n2, rfl⟩ := hv.form0
          have hes0 : (addAll P (L.take i)).length ≤ 1001000 := by have h1 := addAll_length (L.take i) P; rw [List.length_take] at h1; omega
          have Hsucc := Lib.hid (addAll_take_succ (P := P) hlti)
          have x1 := Ext.alloc1 wo (.cells #[.slice U N1 n1, u64V L[i].key.seq, byteV L[i].key.kind, .slice V N2 n2] 32)
          have hz := blk_new wo (.cells #[.slice U N1 n1, u64V L[i].key.seq, byteV L[i].key.kind, .slice V N2 n2] 32)
          obtain ⟨z0, z1, z2, z3, -⟩ := cells4 hz
          have Hz0 := Lib.hid hz
          have Hu0 := Lib.hid (hu.ext x1)
          have Hv0 := Lib.hid (hv.ext x1)
          have HX1 := Lib.hid ((HXJ.out.ext HX.out).ext x1)
          have HXo := Lib.hid (HX.out.ext x1)
          have hown0 := hown.ext x1
          obtain ⟨A3, c3', e3', hcap3⟩ := hown0.form
          subst e3'
          have Hown0 := Lib.hid hown0
          have hBw : B0 ≤ wo.heap.size := by have h1 := HXJ.out.size; have h2 := HX.out.size; have := HB.out; omega
          clear hu hv hz hown hown0
          go_wp2
          go_cut [39] (fun s39 wx => ∃ bad : Bool, s39 = .bool bad ∧ (bad = true → ¬ SortedE L) ∧ (bad = false → SortedE (L.take (i + 1))) ∧ Ext (wo.alloc (.cells #[.slice U N1 n1, u64V L[i].key.seq, byteV L[i].key.kind, .slice V N2 n2] 32)) wx)
          case first =>
            by_cases hi0 : i = 0
            · have hi1 : ¬ (0 < i) := by omega
              have hi2 : ¬ ((0 : Int) < (i : Int)) := by omega
              have hsn := Lib.hid (Hsort.out.snoc hlti (fun h => absurd h hi1))
              clear hi0 x1
              go_region
              go_wp2
              go_meet
              exact ⟨false, rfl, fun h => (by cases h), fun _ => hsn.out, (Out.refl _ _).drew⟩
            · obtain ⟨q, rfl⟩ : ∃ q, i = q + 1 := ⟨i - 1, by omega⟩
              have hltq : q < L.length := by omega
              obtain ⟨b2, o2, u2, v2, hA2, -, d0, d1, d2, d3, hu2, hv2⟩ := (Hl.out.ext HX.out).ent q hltq
              injection hA2 with hA2
              injection hA2 with hb2 ho2
              subst hb2 ho2
              obtain ⟨U2, P1, p1, rfl⟩ := hu2.form0
              have f0 := x1.cell d0 (fun f => f)
              have f1 := x1.cell d1 (fun f => f)
              have f2 := x1.cell d2 (fun f => f)
              have Hu2 := Lib.hid (hu2.ext x1).drew
              have HuE := Lib.hid Hu0.out.drew
              have hw1 : IntKind.i64.wrap (((q + 1 : Nat) : Int) - 1) = (q : Int) := by rw [IntKind.wrap_i64]; omega
              have hw2 : IntKind.i64.wrap ((q : Int) + 1 - 1) = (q : Int) := by rw [IntKind.wrap_i64]; omega
              have hw3 : IntKind.i64.wrap (q : Int) = (q : Int) := by rw [IntKind.wrap_i64]; omega
              have HS1 : Hid (kless L[q].key L[q + 1].key = true → SortedE (L.take (q + 1 + 1))) := Lib.hid fun h => Hsort.out.snoc hlti fun _ => by simpa [kless_eq] using h
              have HS2 : Hid (kless L[q].key L[q + 1].key = false → ¬ SortedE L) := Lib.hid fun h h2 => by
                have h3 := h2.lt hltq hlti (Nat.lt_succ_self q)
                rw [kless_eq] at h
                simp at h
                omega
              generalize hkb : kless L[q].key L[q + 1].key = kb at *
              have Hkb := Lib.hid hkb
              clear hu2 hv2 x1 hkb
              go_region_held3 (fun w' => w'.cell? ⟨b1, o1 + q * 4, none⟩ = some (.slice U2 P1 p1) ∧ w'.cell? ⟨b1, o1 + q * 4 + 1, none⟩ = some (u64V L[q].key.seq) ∧ w'.cell? ⟨b1, o1 + q * 4 + 2, none⟩ = some (byteV L[q].key.kind) ∧ w'.cell? ⟨wo.heap.size, 0, none⟩ = some (.slice U N1 n1) ∧ w'.cell? ⟨wo.heap.size, 1, none⟩ = some (u64V L[q + 1].key.seq) ∧ w'.cell? ⟨wo.heap.size, 2, none⟩ = some (byteV L[q + 1].key.kind) ∧ w'.cell? ⟨wo.heap.size, 3, none⟩ = some (.slice V N2 n2)) (first | go_keep | exact ⟨hx2.cell f0 (fun f => f), hx2.cell f1 (fun f => f), hx2.cell f2 (fun f => f), hx2.cell z0 (fun f => f), hx2.cell z1 (fun f => f), hx2.cell z2 (fun f => f), hx2.cell z3 (fun f => f)⟩) (first | (go_at_call 60; refine (r3_less _ L[q].key L[q + 1].key Hu2.out HuE.out).mono ?_; rw [Hkb.out]; rintro e w2 ⟨rfl, hx2⟩))
              go_wp2
              go_meet
              exact ⟨!kb, by simp, fun h => HS2.out (by simpa using h), fun h => HS1.out (by simpa using h), (Out.refl _ _).drew.ext hx2⟩
          case rest =>
            obtain ⟨wk, rfl⟩ : ∃ x : World, x = wc := ⟨_, rfl⟩
            obtain ⟨bad, rfl, hb1, hb2, hxk⟩ := hcut
            have HXk := Lib.hid hxk
            have Hb1 := Lib.hid hb1
            have Hb2 := Lib.hid hb2
            clear hb1 hb2 x1 z0 z1 z2 z3
            cases bad with
            | true =>
              go_wp2
              refine bodyPost_ret (v := .tuple #[.slice none 0 0, .int .i64 10]) (by simp [results, Try.results48, go_sem]) rfl ?_
              exact ⟨HX1.out.ext HXk.out, fun h => absurd h (Hno.out (Hb1.out (by simp))), by intros; rfl⟩
            | false =>
              have hsz0 := HXk.out.size
              have hsz1 : wo.heap.size + 1 ≤ wk.heap.size := by simpa using hsz0
              have Hz := Lib.hid (HXk.out.blk Hz0.out (fun f => f))
              have Hu := Lib.hid (Hu0.out.ext HXk.out)
              have Hv := Lib.hid (Hv0.out.ext HXk.out)
              have hown1 := Hown0.out.ext HXk.out
              have Hsl := Lib.hid (hown1.sl (G := fun b => (F b ∨ B0 ≤ b) ∧ b < wk.heap.size) (by decide) (by show _ ≤ 140737488355328; omega) (fun b hb h2 => ⟨hb, h2⟩) (fun b hb h2 => ⟨.inr hb, h2⟩))
              have Hown := Lib.hid hown1
              generalize hE : L[i] = E at *
              have HE := Lib.hid hE
              generalize hS : addAll P (L.take i) = es at *
              have HS := Lib.hid hS
              have HXo1 := Lib.hid (HXo.out.ext HXk.out)
              clear hown1 hE hS hsz0 hxk
              obtain ⟨wa, rfl⟩ : ∃ x : World, x = wk := ⟨_, rfl⟩
              go_wp2
              go_loopw [42, 9, 10] (fun s18 s6 s7 wr => ∃ j : Nat, j ≤ es.length ∧ s18 = .int .i64 j ∧ s6 = .int .i64 (aheadN (es.take j) E.key : Nat) ∧ s7 = .bool (twiceE (es.take j) E.key) ∧ Ext wa wr) (fun s18 _ _ _ => es.length - (intOf s18).toNat)
              case atStart => exact ⟨0, Nat.zero_le _, rfl, rfl, rfl, Out.refl _ _⟩
              case round =>
                obtain ⟨wr, rfl⟩ : ∃ x : World, x = wr := ⟨_, rfl⟩
                obtain ⟨j, hj, rfl, rfl, rfl, hxj⟩ := hrel
                have HXj := Lib.hid hxj
                obtain ⟨g0, g1, g2, g3, -⟩ := cells4 (hxj.blk Hz.out (fun f => f))
                have hal := aheadN_le (es.take j) E.key
                rw [List.length_take] at hal
                clear hxj
                by_cases hltj : j < es.length
                · obtain ⟨b2, o2, u2, v2, hA2, -, d0, d1, d2, d3, hu2, hv2⟩ := (Hsl.out.ext HXj.out).ent j hltj
                  subst hA2
                  obtain ⟨U2, P1, p1, rfl⟩ := hu2.form0
                  obtain ⟨V2, P2, p2, rfl⟩ := hv2.form0
                  have x2 := Ext.alloc1 wr (.cells #[.slice U2 P1 p1, u64V es[j].key.seq, byteV es[j].key.kind, .slice V2 P2 p2] 32)
                  have hz2 := blk_new wr (.cells #[.slice U2 P1 p1, u64V es[j].key.seq, byteV es[j].key.kind, .slice V2 P2 p2] 32)
                  obtain ⟨z0, z1, z2, z3, -⟩ := cells4 hz2
                  obtain ⟨k0, k1, k2, k3, -⟩ := cells4 ((HXj.out.ext x2).blk Hz.out (fun f => f))
                  have Hz2 := Lib.hid hz2
                  have Hu2 := Lib.hid (hu2.ext x2)
                  have HuE := Lib.hid ((Hu.out.ext HXj.out).ext x2)
                  have HX2 := Lib.hid (HXj.out.ext x2)
                  have Hah := Lib.hid (aheadN_succ hltj E.key)
                  have Htw := Lib.hid (twiceE_succ hltj E.key)
                  clear hu2 hv2 hz2 x2
                  cases hkl : kless es[j].key E.key with
                  | true =>
                    rw [hkl, if_pos rfl] at Hah
                    generalize aheadN (es.take j) E.key = cnt at *
                    cases htw : twiceE (es.take j) E.key with
                    | true =>
                      rw [htw, Bool.true_or] at Htw
                      go_wp2_with (go_at_call 60; refine (r3_less _ es[j].key E.key Hu2.out HuE.out).mono ?_; rw [hkl]; rintro r w6 ⟨rfl, hx6⟩)
                      go_roundw
                      case rel => exact ⟨j + 1, by omega, by go_num, by rw [Hah.out]; go_num, by rw [Htw.out], HX2.out.ext hx6⟩
                      case measure => simp [intOf]; omega
                    | false =>
                      rw [htw, Bool.false_or] at Htw
                      go_wp2_with (first | (go_at_call 60; refine (r3_less _ es[j].key E.key Hu2.out HuE.out).mono ?_; rw [hkl]; rintro r w6 ⟨rfl, hx6⟩; obtain ⟨f0, f1, f2, f3, -⟩ := cells4 (hx6.blk Hz2.out (fun f => f)); obtain ⟨h0, h1, h2, h3, -⟩ := cells4 ((HX2.out.ext hx6).blk Hz.out (fun f => f))) | (go_at_call 31; refine (r3_same _ es[j].key E.key (Hu2.out.ext hx6) (HuE.out.ext hx6)).mono ?_; rintro r w7 ⟨rfl, hx7⟩))
                      go_roundw
                      case rel => exact ⟨j + 1, by omega, by go_num, by rw [Hah.out]; go_num, by rw [Htw.out], (HX2.out.ext hx6).ext hx7⟩
                      case measure => simp [intOf]; omega
                  | false =>
                    rw [hkl, if_neg (by decide)] at Hah
                    generalize aheadN (es.take j) E.key = cnt at *
                    cases htw : twiceE (es.take j) E.key with
                    | true =>
                      rw [htw, Bool.true_or] at Htw
                      go_wp2_with (go_at_call 60; refine (r3_less _ es[j].key E.key Hu2.out HuE.out).mono ?_; rw [hkl]; rintro r w6 ⟨rfl, hx6⟩)
                      go_roundw
                      case rel => exact ⟨j + 1, by omega, by go_num, by rw [Hah.out]; go_num, by rw [Htw.out], HX2.out.ext hx6⟩
                      case measure => simp [intOf]; omega
                    | false =>
                      rw [htw, Bool.false_or] at Htw
                      go_wp2_with (first | (go_at_call 60; refine (r3_less _ es[j].key E.key Hu2.out HuE.out).mono ?_; rw [hkl]; rintro r w6 ⟨rfl, hx6⟩; obtain ⟨f0, f1, f2, f3, -⟩ := cells4 (hx6.blk Hz2.out (fun f => f)); obtain ⟨h0, h1, h2, h3, -⟩ := cells4 ((HX2.out.ext hx6).blk Hz.out (fun f => f))) | (go_at_call 31; refine (r3_same _ es[j].key E.key (Hu2.out.ext hx6) (HuE.out.ext hx6)).mono ?_; rintro r w7 ⟨rfl, hx7⟩))
                      go_roundw
                      case rel => exact ⟨j + 1, by omega, by go_num, by rw [Hah.out]; go_num, by rw [Htw.out], (HX2.out.ext hx6).ext hx7⟩
                      case measure => simp [intOf]; omega
                · obtain rfl : j = es.length := by omega
                  rw [List.take_length] at hal ⊢
                  simp only [Nat.min_self] at hal
                  cases htw : twiceE es E.key with
                  | true =>
                    have Hsame : Hid (addAll P (L.take (i + 1)) = es) := Lib.hid (by rw [Hsucc.out, addE_in htw])
                    go_wp2
                    go_roundw
                    case rel => exact ⟨i + 1, by omega, by go_num, HXo1.out.ext HXj.out, Hb2.out (by simp), by rw [Hsame.out]; exact Hown.out.ext HXj.out⟩
                    case measure => simp [intOf]; omega
                  | false =>
                    have Hout := Lib.hid (addE_out htw)
                    generalize hcn : aheadN es E.key = cnt at *
                    clear hcn
                    have Hnew : Hid (addAll P (L.take (i + 1)) = es.take cnt ++ E :: es.drop cnt) := Lib.hid (by rw [Hsucc.out, Hout.out])
                    have hi1 : (0 : Int) ≤ (cnt : Int) := by omega
                    have hi2 : (cnt : Int) ≤ (c3' : Int) := by omega
                    have hi3 : (cnt : Int) ≤ (es.length : Int) := by omega
                    clear htw
                    have hwr : wa.heap.size ≤ wr.heap.size := by have := HXj.out.size; omega
                    have HT := Lib.hid (((Hsl.out.ext HXj.out).mono (G := fun b => (F b ∨ B0 ≤ b) ∧ b < wr.heap.size) (fun b hb _ => ⟨hb.1, by have := hb.2; omega⟩) (.inl (by decide))).take cnt hal)
                    have HD := Lib.hid (((Hsl.out.ext HXj.out).mono (G := fun b => (F b ∨ B0 ≤ b) ∧ b < wr.heap.size) (fun b hb _ => ⟨hb.1, by have := hb.2; omega⟩) (.inl (by decide))).dropM cnt hal)
                    have HO := Lib.hid (Own.empty entC 32 wr (fun b => F b ∨ B0 ≤ b))
                    have hOb := Own.empty entC 32 (wr.alloc (.cells #[.slice U N1 n1, u64V E.key.seq, byteV E.key.kind, .slice V N2 n2] 32)) (fun b => F b ∨ B0 ≤ b)
                    simp only [World.size_alloc] at hOb
                    have HOb := Lib.hid (hOb.baseM (B' := wr.heap.size) (Nat.le_succ _))
                    have HZ := Lib.hid (HXj.out.blk Hz.out (fun f => f))
                    have htl : (es.take cnt).length = cnt := List.length_take_of_le hal
                    have hdl : (es.drop cnt).length = es.length - cnt := List.length_drop
                    have Htl := Lib.hid htl
                    have Hdl := Lib.hid hdl
                    have Hu := Lib.hid ((Hu.out.ext HXj.out).mono (G := fun b => (F b ∨ B0 ≤ b) ∧ b < wr.heap.size) (fun b hb _ => ⟨.inl hb, by have := HFl.out b hb; have := HB.out; omega⟩) (.inl (by decide)))
                    have Hv := Lib.hid ((Hv.out.ext HXj.out).mono (G := fun b => (F b ∨ B0 ≤ b) ∧ b < wr.heap.size) (fun b hb _ => ⟨.inl hb, by have := HFl.out b hb; have := HB.out; omega⟩) (.inl (by decide)))
                    have hB0 : B0 ≤ wr.heap.size := by omega
                    clear htl hdl hOb
                    go_wp2
                    refine region_B 12 (fun w' => w'.cell? ⟨wo.heap.size, 0, none⟩ = some (.slice U N1 n1) ∧ w'.cell? ⟨wo.heap.size, 1, none⟩ = some (u64V E.key.seq) ∧ w'.cell? ⟨wo.heap.size, 2, none⟩ = some (byteV E.key.kind) ∧ w'.cell? ⟨wo.heap.size, 3, none⟩ = some (.slice V N2 n2)) (by kernel_rfl) ?q48_19S (fun hHeld0 => ?_)
                    case q48_19S => ((first | go_keep | ((try dsimp only); exact ⟨by assumption, by assumption, by assumption, by assumption⟩)))
                    refine anyB_take (i := 1) (oi := _) (v := ?q48_19v1) rfl (by kernel_rfl) (by kernel_rfl) (by kernel_rfl) (by kernel_rfl) (fun _ _ _ h => h) (Or.inl ⟨by rfl, ?q48_19h1⟩) (by assumption) ?q48_19r1
                    case q48_19h1 => (intro w hSw; (try dsimp only at hSw); go_simp; try with_reducible rfl)
                    (try simp only [List.getElem_toArray, List.getElem_cons_succ, List.getElem_cons_zero, Act.put, List.setIfInBounds_toArray, List.set_cons_zero, List.set_cons_succ])
                    refine anyB_take (i := 2) (oi := _) (v := ?q48_19v2) rfl (by kernel_rfl) (by kernel_rfl) (by kernel_rfl) (by kernel_rfl) (fun _ _ _ h => h) (Or.inl ⟨by rfl, ?q48_19h2⟩) (by assumption) ?q48_19r2
                    case q48_19h2 => (intro w hSw; (try dsimp only at hSw); go_simp; try with_reducible rfl)
                    (try simp only [List.getElem_toArray, List.getElem_cons_succ, List.getElem_cons_zero, Act.put, List.setIfInBounds_toArray, List.set_cons_zero, List.set_cons_succ])
                    refine anyB_take (i := 3) (oi := _) (v := ?q48_19v3) rfl (by kernel_rfl) (by kernel_rfl) (by kernel_rfl) (by kernel_rfl) (fun _ _ _ h => h) (Or.inl ⟨by rfl, ?q48_19h3⟩) (by assumption) ?q48_19r3
                    case q48_19h3 => (intro w hSw; (try dsimp only at hSw); go_simp; try with_reducible rfl)
                    (try simp only [List.getElem_toArray, List.getElem_cons_succ, List.getElem_cons_zero, Act.put, List.setIfInBounds_toArray, List.set_cons_zero, List.set_cons_succ])
                    refine anyB_take (i := 5) (oi := _) (v := ?q48_19v4) rfl (by kernel_rfl) (by kernel_rfl) (by kernel_rfl) (by kernel_rfl) (fun _ _ _ h => h) (Or.inl ⟨by rfl, ?q48_19h4⟩) (by assumption) ?q48_19r4
                    case q48_19h4 => (intro w hSw; (try dsimp only at hSw); go_simp; try with_reducible rfl)
                    (try simp only [List.getElem_toArray, List.getElem_cons_succ, List.getElem_cons_zero, Act.put, List.setIfInBounds_toArray, List.set_cons_zero, List.set_cons_succ])
                    refine anyB_take (i := 8) (oi := _) (v := ?q48_19v5) rfl (by kernel_rfl) (by kernel_rfl) (by kernel_rfl) (by kernel_rfl) (fun _ _ _ h => h) (Or.inl ⟨by rfl, ?q48_19h5⟩) (by assumption) ?q48_19r5
                    case q48_19h5 => (intro w hSw; (try dsimp only at hSw); go_simp; try with_reducible rfl)
                    (try simp only [List.getElem_toArray, List.getElem_cons_succ, List.getElem_cons_zero, Act.put, List.setIfInBounds_toArray, List.set_cons_zero, List.set_cons_succ])
                    refine anyB_take (i := 9) (oi := _) (v := ?q48_19v6) rfl (by kernel_rfl) (by kernel_rfl) (by kernel_rfl) (by kernel_rfl) (fun _ _ _ h => h) (Or.inl ⟨by rfl, ?q48_19h6⟩) (by assumption) ?q48_19r6
                    case q48_19h6 => (intro w hSw; (try dsimp only at hSw); go_simp; try with_reducible rfl)
                    (try simp only [List.getElem_toArray, List.getElem_cons_succ, List.getElem_cons_zero, Act.put, List.setIfInBounds_toArray, List.set_cons_zero, List.set_cons_succ])
                    refine anyB_take (i := 10) (oi := _) (v := ?q48_19v7) rfl (by kernel_rfl) (by kernel_rfl) (by kernel_rfl) (by kernel_rfl) (fun _ _ _ h => h) (Or.inl ⟨by rfl, ?q48_19h7⟩) (by assumption) ?q48_19r7
                    case q48_19h7 => (intro w hSw; (try dsimp only at hSw); go_simp; try with_reducible rfl)
                    (try simp only [List.getElem_toArray, List.getElem_cons_succ, List.getElem_cons_zero, Act.put, List.setIfInBounds_toArray, List.set_cons_zero, List.set_cons_succ])
                    refine anyB_two (i := 0) (j := 6) (oi := _) (oj := _) (by kernel_rfl) (by rfl) (by rfl) (by (simp only [List.getElem?_toArray, List.getElem?_cons_succ, List.getElem?_cons_zero] <;> rfl)) (by (simp only [List.getElem?_toArray, List.getElem?_cons_succ, List.getElem?_cons_zero] <;> rfl)) (fun K hK => ?q48_19x8) (fun K hK => ?q48_19y8)
                    case q48_19x8 =>
                      go_simp
                      refine hK.out _ _ ?q48_19S9 (fun hHeld1 => ?_)
                      case q48_19S9 => ((first | go_keep | ((try dsimp only); exact ⟨by assumption, by assumption, by assumption, by assumption⟩)))
                      clear hK K hHeld0
                      (try simp only [List.getElem_toArray, List.getElem_cons_succ, List.getElem_cons_zero, Act.put, List.setIfInBounds_toArray, List.set_cons_zero, List.set_cons_succ])
                      refine anyB_two (i := 4) (j := 6) (oi := _) (oj := _) (by kernel_rfl) (by rfl) (by rfl) (by (simp only [List.getElem?_toArray, List.getElem?_cons_succ, List.getElem?_cons_zero] <;> rfl)) (by (simp only [List.getElem?_toArray, List.getElem?_cons_succ, List.getElem?_cons_zero] <;> rfl)) (fun K hK => ?q48_19x10) (fun K hK => ?q48_19y10)
                      case q48_19x10 =>
                        refine stp_append_sl (by rfl) (.tmp 64) (.tmp 67) 43 (by rfl) fits32 (HO.out.ext (by repeat' (first | exact Out.refl _ _ | refine Out.drew ?_ | refine Out.alloc ?_ _))) (by rfl) (by simp <;> omega) (HT.out.ext (by repeat' (first | exact Out.refl _ _ | refine Out.drew ?_ | refine Out.alloc ?_ _))) (by rfl) (fun i hi cs hc => entC.mono hc (fun b hb hlb => ⟨hb.1, fun e => by simp [Value.ownBlock] at e; have := hb.2; omega⟩)) (by rw [Htl.out, List.length_nil]; omega) (by decide) ?_; intro v7 w7 g1 g2 g3; (rw [List.nil_append] at g1); obtain ⟨A7, k7, m7, rfl⟩ := g1.form0; have G1 := Lib.hid g1; have HX7 : Hid (Ext wr w7) := Lib.hid (Out.then (by repeat' (first | exact Out.refl _ _ | refine Out.drew ?_ | refine Out.alloc ?_ _)) g2 (fun i hi e => by simp [Value.ownBlock] at e; omega)); obtain ⟨y0, y1, y2, y3, -⟩ := cells4 (HX7.out.blk HZ.out (fun f => f)); clear g1 g2 g3
                        refine hK.out _ _ ?q48_19S11 (fun hHeld2 => ?_)
                        case q48_19S11 => ((first | go_keep | ((try dsimp only); exact ⟨by assumption, by assumption, by assumption, by assumption⟩)))
                        clear hK K hHeld1
                        (try simp only [List.getElem_toArray, List.getElem_cons_succ, List.getElem_cons_zero, Act.put, List.setIfInBounds_toArray, List.set_cons_zero, List.set_cons_succ])
                        refine anyB_step (i := 6) (o := _) (by kernel_rfl) (by rfl) (by (simp only [List.getElem?_toArray, List.getElem?_cons_succ, List.getElem?_cons_zero] <;> rfl)) (fun K hK => ?_)
                        go_simp
                        refine hK.out _ _ ?q48_19S12 (fun hHeld3 => ?_)
                        case q48_19S12 => ((first | go_keep | ((try dsimp only); exact ⟨by assumption, by assumption, by assumption, by assumption⟩)))
                        clear hK K hHeld2
                        (try simp only [List.getElem_toArray, List.getElem_cons_succ, List.getElem_cons_zero, Act.put, List.setIfInBounds_toArray, List.set_cons_zero, List.set_cons_succ])
                        refine anyB_step (i := 7) (o := _) (by kernel_rfl) (by rfl) (by (simp only [List.getElem?_toArray, List.getElem?_cons_succ, List.getElem?_cons_zero] <;> rfl)) (fun K hK => ?_)
                        have hz7 := HX7.out.size; refine step_append_one (by rfl) (.tmp 68) (.tmp 70) 43 (by rfl) fits32 (G1.out.ext (Ext.alloc1 _ _)) (by rfl) (by (try simp only [World.size_alloc]); omega) (blk_new _ _) (by rfl) E ⟨_, _, rfl, (Hu.out.ext (HX7.out.alloc _)).mono (fun b hb _ => ⟨hb.1, (fun e => by have := (G1.out.lt b e).1; have := hb.2; omega)⟩) (.inl (by decide)), (Hv.out.ext (HX7.out.alloc _)).mono (fun b hb _ => ⟨hb.1, (fun e => by have := (G1.out.lt b e).1; have := hb.2; omega)⟩) (.inl (by decide))⟩ (by rw [Htl.out]; omega) (by decide) ?_; intro v9 w9 g1 g2 g3; obtain ⟨A9, k9, m9, rfl⟩ := g1.form0; have G9 := Lib.hid g1; have HX9 : Hid (Ext wr w9) := Lib.hid (Out.then (HX7.out.alloc _) g2 (fun i hi e => by have := (G1.out.lt i e).1; omega)); obtain ⟨x0, x1, x2, x3, -⟩ := cells4 (HX9.out.blk HZ.out (fun f => f)); clear g1 g2 g3
                        refine hK.out _ _ ?q48_19S13 (fun hHeld4 => ?_)
                        case q48_19S13 => ((first | go_keep | ((try dsimp only); exact ⟨by assumption, by assumption, by assumption, by assumption⟩)))
                        clear hK K hHeld3
                        (try simp only [List.getElem_toArray, List.getElem_cons_succ, List.getElem_cons_zero, Act.put, List.setIfInBounds_toArray, List.set_cons_zero, List.set_cons_succ])
                        refine anyB_step (i := 11) (o := _) (by kernel_rfl) (by rfl) (by (simp only [List.getElem?_toArray, List.getElem?_cons_succ, List.getElem?_cons_zero] <;> rfl)) (fun K hK => ?_)
                        refine stp_append_sl (by rfl) (.tmp 71) (.tmp 74) 43 (by rfl) fits32 G9.out (by rfl) HX9.out.size (HD.out.ext HX9.out) (by rfl) (fun i hi cs hc => entC.mono hc (fun b hb hlb => ⟨hb.1, fun e => by have := (G9.out.lt b e).1; have := hb.2; omega⟩)) (by rw [List.length_append, Htl.out, Hdl.out]; simp; omega) (by decide) ?_; intro v10 w10 g1 g2 g3; obtain ⟨A10, k10, m10, rfl⟩ := g1.form0; have G10 := Lib.hid g1; have HX10 : Hid (Ext wr w10) := Lib.hid (HX9.out.then g2 (fun i hi e => by have := (G9.out.lt i e).1; omega)); obtain ⟨p0, p1, p2, p3, -⟩ := cells4 (HX10.out.blk HZ.out (fun f => f)); clear g1 g2 g3
                        refine hK.out _ _ ?q48_19S14 (fun hHeld5 => ?_)
                        case q48_19S14 => ((first | go_keep | ((try dsimp only); exact ⟨by assumption, by assumption, by assumption, by assumption⟩)))
                        clear hK K hHeld4
                        (try simp only [List.getElem_toArray, List.getElem_cons_succ, List.getElem_cons_zero, Act.put, List.setIfInBounds_toArray, List.set_cons_zero, List.set_cons_succ])
                        refine anyB_last (i := 12) (o := _) (by kernel_rfl) (by rfl) (by (simp only [List.getElem?_toArray, List.getElem?_cons_succ, List.getElem?_cons_zero] <;> rfl)) (fun K hK => ?_)
                        go_simp
                        refine hK.out _ _ ?_
                        clear hK K
                        (try simp only [List.getElem_toArray, List.getElem_cons_succ, List.getElem_cons_zero, Act.put, List.setIfInBounds_toArray, List.set_cons_zero, List.set_cons_succ])
                        refine anyB_done (by kernel_rfl) ?_ _
                        go_wp2
                        go_roundw
                        case rel => exact ⟨i + 1, by omega, by go_num, (HXo1.out.ext HXj.out).ext HX10.out, Hb2.out (by simp), by rw [Hnew.out]; have h := G10.out.baseM hB0; rw [List.append_assoc] at h; exact h⟩
                        case measure => simp [intOf]; omega
                      case q48_19y10 =>
                        go_simp
                        refine hK.out _ _ ?q48_19S15 (fun hHeld2 => ?_)
                        case q48_19S15 => ((first | go_keep | ((try dsimp only); exact ⟨by assumption, by assumption, by assumption, by assumption⟩)))
                        clear hK K hHeld1
                        (try simp only [List.getElem_toArray, List.getElem_cons_succ, List.getElem_cons_zero, Act.put, List.setIfInBounds_toArray, List.set_cons_zero, List.set_cons_succ])
                        refine anyB_step (i := 4) (o := _) (by kernel_rfl) (by rfl) (by (simp only [List.getElem?_toArray, List.getElem?_cons_succ, List.getElem?_cons_zero] <;> rfl)) (fun K hK => ?_)
                        refine stp_append_sl (by rfl) (.tmp 64) (.tmp 67) 43 (by rfl) fits32 (HO.out.ext (by repeat' (first | exact Out.refl _ _ | refine Out.drew ?_ | refine Out.alloc ?_ _))) (by rfl) (by simp <;> omega) (HT.out.ext (by repeat' (first | exact Out.refl _ _ | refine Out.drew ?_ | refine Out.alloc ?_ _))) (by rfl) (fun i hi cs hc => entC.mono hc (fun b hb hlb => ⟨hb.1, fun e => by simp [Value.ownBlock] at e; have := hb.2; omega⟩)) (by rw [Htl.out, List.length_nil]; omega) (by decide) ?_; intro v7 w7 g1 g2 g3; have HEC := Lib.hid (g2.blk (o := (.cells #[.slice U N1 n1, u64V E.key.seq, byteV E.key.kind, .slice V N2 n2] 32)) (g := wr.heap.size + 1) (blk_atD (by simp)) (fun e => by have e2 := Option.some.inj e; dsimp only at e2; omega)); (rw [List.nil_append] at g1); obtain ⟨A7, k7, m7, rfl⟩ := g1.form0; have G1 := Lib.hid g1; have HX7 : Hid (Ext wr w7) := Lib.hid (Out.then (by repeat' (first | exact Out.refl _ _ | refine Out.drew ?_ | refine Out.alloc ?_ _)) g2 (fun i hi e => by simp [Value.ownBlock] at e; omega)); obtain ⟨y0, y1, y2, y3, -⟩ := cells4 (HX7.out.blk HZ.out (fun f => f)); clear g1 g2 g3
                        refine hK.out _ _ ?q48_19S16 (fun hHeld3 => ?_)
                        case q48_19S16 => ((first | go_keep | ((try dsimp only); exact ⟨by assumption, by assumption, by assumption, by assumption⟩)))
                        clear hK K hHeld2
                        (try simp only [List.getElem_toArray, List.getElem_cons_succ, List.getElem_cons_zero, Act.put, List.setIfInBounds_toArray, List.set_cons_zero, List.set_cons_succ])
                        refine anyB_step (i := 7) (o := _) (by kernel_rfl) (by rfl) (by (simp only [List.getElem?_toArray, List.getElem?_cons_succ, List.getElem?_cons_zero] <;> rfl)) (fun K hK => ?_)
                        have hz7 := HX7.out.size; refine step_append_one (by rfl) (.tmp 68) (.tmp 70) 43 (by rfl) fits32 G1.out (by rfl) (by (try simp only [World.size_alloc]); omega) HEC.out (by rfl) E ⟨_, _, rfl, (Hu.out.ext HX7.out).mono (fun b hb _ => ⟨hb.1, (fun e => by have := (G1.out.lt b e).1; have := hb.2; omega)⟩) (.inl (by decide)), (Hv.out.ext HX7.out).mono (fun b hb _ => ⟨hb.1, (fun e => by have := (G1.out.lt b e).1; have := hb.2; omega)⟩) (.inl (by decide))⟩ (by rw [Htl.out]; omega) (by decide) ?_; intro v9 w9 g1 g2 g3; obtain ⟨A9, k9, m9, rfl⟩ := g1.form0; have G9 := Lib.hid g1; have HX9 : Hid (Ext wr w9) := Lib.hid (Out.then HX7.out g2 (fun i hi e => by have := (G1.out.lt i e).1; omega)); obtain ⟨x0, x1, x2, x3, -⟩ := cells4 (HX9.out.blk HZ.out (fun f => f)); clear g1 g2 g3
                        refine hK.out _ _ ?q48_19S17 (fun hHeld4 => ?_)
                        case q48_19S17 => ((first | go_keep | ((try dsimp only); exact ⟨by assumption, by assumption, by assumption, by assumption⟩)))
                        clear hK K hHeld3
                        (try simp only [List.getElem_toArray, List.getElem_cons_succ, List.getElem_cons_zero, Act.put, List.setIfInBounds_toArray, List.set_cons_zero, List.set_cons_succ])
                        refine anyB_step (i := 11) (o := _) (by kernel_rfl) (by rfl) (by (simp only [List.getElem?_toArray, List.getElem?_cons_succ, List.getElem?_cons_zero] <;> rfl)) (fun K hK => ?_)
                        refine stp_append_sl (by rfl) (.tmp 71) (.tmp 74) 43 (by rfl) fits32 G9.out (by rfl) HX9.out.size (HD.out.ext HX9.out) (by rfl) (fun i hi cs hc => entC.mono hc (fun b hb hlb => ⟨hb.1, fun e => by have := (G9.out.lt b e).1; have := hb.2; omega⟩)) (by rw [List.length_append, Htl.out, Hdl.out]; simp; omega) (by decide) ?_; intro v10 w10 g1 g2 g3; obtain ⟨A10, k10, m10, rfl⟩ := g1.form0; have G10 := Lib.hid g1; have HX10 : Hid (Ext wr w10) := Lib.hid (HX9.out.then g2 (fun i hi e => by have := (G9.out.lt i e).1; omega)); obtain ⟨p0, p1, p2, p3, -⟩ := cells4 (HX10.out.blk HZ.out (fun f => f)); clear g1 g2 g3
                        refine hK.out _ _ ?q48_19S18 (fun hHeld5 => ?_)
                        case q48_19S18 => ((first | go_keep | ((try dsimp only); exact ⟨by assumption, by assumption, by assumption, by assumption⟩)))
                        clear hK K hHeld4
                        (try simp only [List.getElem_toArray, List.getElem_cons_succ, List.getElem_cons_zero, Act.put, List.setIfInBounds_toArray, List.set_cons_zero, List.set_cons_succ])
                        refine anyB_last (i := 12) (o := _) (by kernel_rfl) (by rfl) (by (simp only [List.getElem?_toArray, List.getElem?_cons_succ, List.getElem?_cons_zero] <;> rfl)) (fun K hK => ?_)
                        go_simp
                        refine hK.out _ _ ?_
                        clear hK K
                        (try simp only [List.getElem_toArray, List.getElem_cons_succ, List.getElem_cons_zero, Act.put, List.setIfInBounds_toArray, List.set_cons_zero, List.set_cons_succ])
                        refine anyB_done (by kernel_rfl) ?_ _
                        go_wp2
                        go_roundw
                        case rel => exact ⟨i + 1, by omega, by go_num, (HXo1.out.ext HXj.out).ext HX10.out, Hb2.out (by simp), by rw [Hnew.out]; have h := G10.out.baseM hB0; rw [List.append_assoc] at h; exact h⟩
                        case measure => simp [intOf]; omega
                    case q48_19y8 =>
                      go_simp
                      refine hK.out _ _ ?q48_19S19 (fun hHeld1 => ?_)
                      case q48_19S19 => ((first | go_keep | ((try dsimp only); exact ⟨by assumption, by assumption, by assumption, by assumption⟩)))
                      clear hK K hHeld0
                      (try simp only [List.getElem_toArray, List.getElem_cons_succ, List.getElem_cons_zero, Act.put, List.setIfInBounds_toArray, List.set_cons_zero, List.set_cons_succ])
                      refine anyB_step (i := 0) (o := _) (by kernel_rfl) (by rfl) (by (simp only [List.getElem?_toArray, List.getElem?_cons_succ, List.getElem?_cons_zero] <;> rfl)) (fun K hK => ?_)
                      go_simp
                      refine hK.out _ _ ?q48_19S20 (fun hHeld2 => ?_)
                      case q48_19S20 => ((first | go_keep | ((try dsimp only); exact ⟨by assumption, by assumption, by assumption, by assumption⟩)))
                      clear hK K hHeld1
                      (try simp only [List.getElem_toArray, List.getElem_cons_succ, List.getElem_cons_zero, Act.put, List.setIfInBounds_toArray, List.set_cons_zero, List.set_cons_succ])
                      refine anyB_step (i := 4) (o := _) (by kernel_rfl) (by rfl) (by (simp only [List.getElem?_toArray, List.getElem?_cons_succ, List.getElem?_cons_zero] <;> rfl)) (fun K hK => ?_)
                      refine stp_append_sl (by rfl) (.tmp 64) (.tmp 67) 43 (by rfl) fits32 (HOb.out.ext (by repeat' (first | exact Out.refl _ _ | refine Out.drew ?_ | refine Out.alloc ?_ _))) (by rfl) (by simp <;> omega) (HT.out.ext (by repeat' (first | exact Out.refl _ _ | refine Out.drew ?_ | refine Out.alloc ?_ _))) (by rfl) (fun i hi cs hc => entC.mono hc (fun b hb hlb => ⟨hb.1, fun e => by simp [Value.ownBlock] at e; have := hb.2; omega⟩)) (by rw [Htl.out, List.length_nil]; omega) (by decide) ?_; intro v7 w7 g1 g2 g3; have HEC := Lib.hid (g2.blk (o := (.cells #[.slice U N1 n1, u64V E.key.seq, byteV E.key.kind, .slice V N2 n2] 32)) (g := wr.heap.size) (show (World.drew _).heap[_]? = _ from blk_alloc (blk_new _ _) _) (fun e => by have e2 := Option.some.inj e; dsimp only at e2; omega)); (rw [List.nil_append] at g1); obtain ⟨A7, k7, m7, rfl⟩ := g1.form0; have G1 := Lib.hid g1; have HX7 : Hid (Ext wr w7) := Lib.hid (Out.then (by repeat' (first | exact Out.refl _ _ | refine Out.drew ?_ | refine Out.alloc ?_ _)) g2 (fun i hi e => by simp [Value.ownBlock] at e; omega)); obtain ⟨y0, y1, y2, y3, -⟩ := cells4 (HX7.out.blk HZ.out (fun f => f)); clear g1 g2 g3
                      refine hK.out _ _ ?q48_19S21 (fun hHeld3 => ?_)
                      case q48_19S21 => ((first | go_keep | ((try dsimp only); exact ⟨by assumption, by assumption, by assumption, by assumption⟩)))
                      clear hK K hHeld2
                      (try simp only [List.getElem_toArray, List.getElem_cons_succ, List.getElem_cons_zero, Act.put, List.setIfInBounds_toArray, List.set_cons_zero, List.set_cons_succ])
                      refine anyB_step (i := 7) (o := _) (by kernel_rfl) (by rfl) (by (simp only [List.getElem?_toArray, List.getElem?_cons_succ, List.getElem?_cons_zero] <;> rfl)) (fun K hK => ?_)
                      have hz7 := HX7.out.size; refine step_append_one (by rfl) (.tmp 68) (.tmp 70) 43 (by rfl) fits32 G1.out (by rfl) (by (try simp only [World.size_alloc]); omega) HEC.out (by rfl) E ⟨_, _, rfl, (Hu.out.ext HX7.out).mono (fun b hb _ => ⟨hb.1, (fun e => by have := (G1.out.lt b e).1; have := hb.2; omega)⟩) (.inl (by decide)), (Hv.out.ext HX7.out).mono (fun b hb _ => ⟨hb.1, (fun e => by have := (G1.out.lt b e).1; have := hb.2; omega)⟩) (.inl (by decide))⟩ (by rw [Htl.out]; omega) (by decide) ?_; intro v9 w9 g1 g2 g3; obtain ⟨A9, k9, m9, rfl⟩ := g1.form0; have G9 := Lib.hid g1; have HX9 : Hid (Ext wr w9) := Lib.hid (Out.then HX7.out g2 (fun i hi e => by have := (G1.out.lt i e).1; omega)); obtain ⟨x0, x1, x2, x3, -⟩ := cells4 (HX9.out.blk HZ.out (fun f => f)); clear g1 g2 g3
                      refine hK.out _ _ ?q48_19S22 (fun hHeld4 => ?_)
                      case q48_19S22 => ((first | go_keep | ((try dsimp only); exact ⟨by assumption, by assumption, by assumption, by assumption⟩)))
                      clear hK K hHeld3
                      (try simp only [List.getElem_toArray, List.getElem_cons_succ, List.getElem_cons_zero, Act.put, List.setIfInBounds_toArray, List.set_cons_zero, List.set_cons_succ])
                      refine anyB_step (i := 11) (o := _) (by kernel_rfl) (by rfl) (by (simp only [List.getElem?_toArray, List.getElem?_cons_succ, List.getElem?_cons_zero] <;> rfl)) (fun K hK => ?_)
                      refine stp_append_sl (by rfl) (.tmp 71) (.tmp 74) 43 (by rfl) fits32 G9.out (by rfl) HX9.out.size (HD.out.ext HX9.out) (by rfl) (fun i hi cs hc => entC.mono hc (fun b hb hlb => ⟨hb.1, fun e => by have := (G9.out.lt b e).1; have := hb.2; omega⟩)) (by rw [List.length_append, Htl.out, Hdl.out]; simp; omega) (by decide) ?_; intro v10 w10 g1 g2 g3; obtain ⟨A10, k10, m10, rfl⟩ := g1.form0; have G10 := Lib.hid g1; have HX10 : Hid (Ext wr w10) := Lib.hid (HX9.out.then g2 (fun i hi e => by have := (G9.out.lt i e).1; omega)); obtain ⟨p0, p1, p2, p3, -⟩ := cells4 (HX10.out.blk HZ.out (fun f => f)); clear g1 g2 g3
                      refine hK.out _ _ ?q48_19S23 (fun hHeld5 => ?_)
                      case q48_19S23 => ((first | go_keep | ((try dsimp only); exact ⟨by assumption, by assumption, by assumption, by assumption⟩)))
                      clear hK K hHeld4
                      (try simp only [List.getElem_toArray, List.getElem_cons_succ, List.getElem_cons_zero, Act.put, List.setIfInBounds_toArray, List.set_cons_zero, List.set_cons_succ])
                      refine anyB_last (i := 12) (o := _) (by kernel_rfl) (by rfl) (by (simp only [List.getElem?_toArray, List.getElem?_cons_succ, List.getElem?_cons_zero] <;> rfl)) (fun K hK => ?_)
                      go_simp
                      refine hK.out _ _ ?_
                      clear hK K
                      (try simp only [List.getElem_toArray, List.getElem_cons_succ, List.getElem_cons_zero, Act.put, List.setIfInBounds_toArray, List.set_cons_zero, List.set_cons_succ])
                      refine anyB_done (by kernel_rfl) ?_ _
                      go_wp2
                      go_roundw
                      case rel => exact ⟨i + 1, by omega, by go_num, (HXo1.out.ext HXj.out).ext HX10.out, Hb2.out (by simp), by rw [Hnew.out]; have h := G10.out.baseM hB0; rw [List.append_assoc] at h; exact h⟩
                      case measure => simp [intOf]; omega
        · obtain rfl : i = L.length := by omega
          rw [List.take_length] at hown
          have hsl := Hsort.out
          rw [List.take_length] at hsl
          have HsL := Lib.hid hsl
          have Hown := Lib.hid hown
          obtain ⟨A5, n5, c5, rfl⟩ := hown.form0
          clear hown hsl
          go_wp2
          go_roundw
          case rel => exact ⟨j + 1, by omega, by go_num, HXJ.out.ext HX.out, fun l hl => (mem_take_succ hltJ hl).elim (Hso.out l) (fun h => by rw [h, HL.out]; exact HsL.out), by rw [HAl.out]; exact Hown.out⟩
          case measure => simp [intOf]; omega
    · obtain rfl : j = ls.length := by omega
      rw [List.take_length] at Hownj Hso
      obtain ⟨A4, n4, c4, rfl⟩ := Hownj.out.form0
      have hle := Hle.out ls.length
      rw [List.take_length] at hle
      go_wp2
      refine bodyPost_ret (v := .tuple #[.slice A4 n4 c4, .int .i64 0]) (by simp [results, Try.results48, go_sem]) rfl ?_
      exact ⟨HXJ.out, fun _ => ⟨_, rfl, Hownj.out.sl (by decide) (by show _ ≤ 140737488355328; omega) (fun b hb _ => hb) (fun b hb _ => .inr hb)⟩, fun h => absurd Hso.out h⟩
end Go.Proofs.Yteaanagljmcidaa
