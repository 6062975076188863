/- law08: SkipRows. -/
import Derived.Test.YteaanagljmcidaaLawIns
namespace Go.Proofs.Yteaanagljmcidaa
open Go.RowKit

attribute [local go_sem ↓] Go.wp_at_zero Go.wp_at_succ

theorem meet_succ (row below : List Key) (i : Nat) (hi : i < below.length) : meet row 0 (below.take (i + 1)) = if meet row 0 (below.take i) < row.length ∧ row[meet row 0 (below.take i)]? = some below[i] then meet row 0 (below.take i) + 1 else meet row 0 (below.take i) := by
  rw [List.take_succ_eq_append_getElem hi, meet_append]
  rw [meet]; split <;> rfl

theorem rowM_le (m : List (Ent × Nat)) (h : Nat) : (rowM m h).length ≤ m.length := by unfold rowM; rw [List.length_map]; exact List.length_filter_le _ _
theorem all_le (fl : List PutE) (h : fl.length ≤ 60) : (insAll [] fl).length ≤ 60 := by have := insAll_length fl []; simp at this; omega
/-- An owned list of keys, wherever it lies. -/
theorem Owned.keys {w w' : World} {l : List Key} {v : Value} (h : Own keyC 30 w' w.heap.size (fun b => w.heap.size ≤ b) v l) (hl : l.length ≤ 1000) : Sl keyC w' (fun _ => True) v l :=
  (Owned.toSl h (by decide) (by show _ ≤ 140737488355328; omega)).mono (fun _ _ _ => trivial) (.inl (by decide))

/-- What stays from the insertions on. -/
structure Rest (w w3 wr : World) (B c d L : Nat) (m : List (Ent × Nat)) : Prop where
  ext : Ext w wr
  sk : SkM wr (FootP B c d) L m

theorem Rest.step {w w3 wr w1 : World} {B c d L : Nat} {m : List (Ent × Nat)} (h : Rest w w3 wr B c d L m) (hx : Ext wr w1) : Rest w w3 w1 B c d L m := ⟨h.ext.ext hx, h.sk.ext hx⟩

set_option maxRecDepth 100000 in
set_option maxHeartbeats 2000000 in
theorem skipRows_walk (w : World) {F : Nat → Prop} {x : Value} (l : List PutE) (hx : Sl putCA w F x l) :
    Calls Try.prog 3 #[x] w fun e w' => e = .returned (.bool true) ∧ Ext w w' := by
  obtain ⟨A, N, n, rfl⟩ := hx.form0
  have Hx := Lib.hid hx
  clear hx
  go_enter Try.func3, Try.ntmps3
  go_wp2_with (first
    | (go_at_call 25; refine (law08_awake _).mono ?_; rintro r w1 ⟨rfl, hx1⟩)
    | (go_at_call 26; refine (sk_newM _).mono ?_; rintro r w2 ⟨L, rfl, hx2, hs2⟩)
    | (go_at_call 27; refine (law08_few _ l ((Hx.out.ext hx1).ext hx2)).mono ?_; rintro r w3 ⟨v3, rfl, hx3, hs3⟩; have hI := Lib.hid (InsRel.start hs2 hx2.size hx3 hs3); obtain ⟨A3, n3, rfl, -⟩ := hs3.form; have hlen3 := hI.out.few; clear hs2 hs3))
  generalize fewP l = fl at *
  go_loopw [18] (fun s18 wr => ∃ k : Nat, k ≤ fl.length ∧ s18 = .int .i64 k ∧ InsRel w2 w3 wr w1.heap.size L fl (.slice A3 fl.length n3) k) (fun s18 _ => fl.length - (intOf s18).toNat)
  case atStart => exact ⟨0, Nat.zero_le _, rfl, hI.out⟩
  case round =>
    obtain ⟨k, hk, rfl, hI⟩ := hrel
    by_cases hlt : k < fl.length
    · obtain ⟨b1, o1, u1, v1, rfl, -, c0, c1, c2, c3, c4, hu, hv, -, -⟩ := hI.sl.put k hlt
      obtain ⟨U, N1, n1, rfl⟩ := hu.form0
      obtain ⟨V, N2, n2, rfl⟩ := hv.form0
      have HI := Lib.hid (hI.step (Ext.alloc1 wr (.cells #[.slice U N1 n1, u64V fl[k].e.key.seq, byteV fl[k].e.key.kind, .slice V N2 n2, .int .i64 fl[k].h] 34)))
      have Hu := Lib.hid (hu.alloc (.cells #[.slice U N1 n1, u64V fl[k].e.key.seq, byteV fl[k].e.key.kind, .slice V N2 n2, .int .i64 fl[k].h] 34))
      have Hv := Lib.hid (hv.alloc (.cells #[.slice U N1 n1, u64V fl[k].e.key.seq, byteV fl[k].e.key.kind, .slice V N2 n2, .int .i64 fl[k].h] 34))
      obtain ⟨z0, z1, z2, z3, z4, -⟩ := cells5 (blk_new wr (.cells #[.slice U N1 n1, u64V fl[k].e.key.seq, byteV fl[k].e.key.kind, .slice V N2 n2, .int .i64 fl[k].h] 34))
      clear hI hu hv
      go_wp2_with (first | (go_at_call 28; refine (HI.out.call hlt Hu.out Hv.out).mono ?_; rintro r w4 ⟨⟨c, rfl⟩, hI4⟩))
      go_roundw
      case rel => exact ⟨k + 1, by omega, by go_num, hI4⟩
      case measure => simp [intOf]; omega
    · obtain rfl : k = fl.length := by omega
      have hR := Lib.hid (⟨hI.out.footp ((hx1.ext hx2).ext hx3) (by have := hx1.size; omega), hI.done⟩ : Rest w w3 wr w1.heap.size w2.heap.size w3.heap.size L (insAll [] fl))
      clear hI
      have hok := okM_all fl
      have hone := rowM_one hok
      have hm60 := all_le fl hlen3
      have hrl := rowM_le (insAll [] fl)
      have Hrl := Lib.hid hrl
      have hsub := rowM_sub (insAll [] fl)
      have Hsub := Lib.hid hsub
      have Hone := Lib.hid hone
      generalize insAll [] fl = m at *
      clear hok hone hsub hrl
      go_wp2_with (first
        | (go_at_call 29; refine (sk_rowI hR.out.sk 0 (by decide) 1 rfl (rowM m 1) rfl).mono ?_; rintro r w4 ⟨v4, rfl, hx4, ho4⟩; have hR4 := Lib.hid (hR.out.step hx4); have hsl4 := Lib.hid (Owned.keys ho4 (Nat.le_trans (Hrl.out 1) (Nat.le_trans hm60 (by decide)))); obtain ⟨A4, n4, rfl, -⟩ := hsl4.out.form; have hone' := Hone.out; clear hR ho4)
        | (go_at_call 30; refine (sk_lenM _ hR4.out.sk).mono ?_; rintro r w5 ⟨rfl, rfl⟩))
      have hb1 : (rowM m 1).length ≤ 60 := by have := Hrl.out 1; omega
      clear hone'
      go_loopw [7, 6] (fun s7 s6 wr => ∃ q : Nat, q ≤ 7 ∧ s7 = .int .i64 ((q : Int) + 2) ∧ Rest w w3 wr w1.heap.size w2.heap.size w3.heap.size L m ∧ Sl keyC wr (fun _ => True) s6 (rowM m (q + 1))) (fun s7 _ _ => 9 - (intOf s7).toNat)
      case atStart => exact ⟨0, by omega, rfl, hR4.out, by have := hsl4.out; rw [Hone.out] at this; exact this⟩
      case round =>
        obtain ⟨q, hq, rfl, hR, hsl⟩ := hrel
        by_cases hlt : q < 7
        · obtain ⟨A5, n5, rfl, -⟩ := hsl.form
          have HR := Lib.hid hR
          have HS := Lib.hid hsl
          have hbl : (rowM m (q + 1)).length ≤ 60 := by have := Hrl.out (q + 1); omega
          have HSub := Lib.hid (Hsub.out (q + 1))
          clear hR hsl
          go_wp2_with (first
            | (go_at_call 29; refine (sk_rowI HR.out.sk (q + 1) (by omega) ((q : Int) + 2) (by omega) (rowM m (q + 1 + 1)) rfl).mono ?_; rintro r w5 ⟨v5, rfl, hx5, ho5⟩; have hR5 := Lib.hid (HR.out.step hx5); have hsl5 := Lib.hid (Owned.keys ho5 (Nat.le_trans (Hrl.out (q + 1 + 1)) (Nat.le_trans hm60 (by decide)))); obtain ⟨A6, n6, rfl, -⟩ := hsl5.out.form; have hs0 := Lib.hid (HS.out.ext hx5); clear ho5))
          have hrl : (rowM m (q + 1 + 1)).length ≤ 60 := by have := Hrl.out (q + 1 + 1); omega
          generalize hbel : rowM m (q + 1) = below at *
          generalize hrow : rowM m (q + 1 + 1) = row at *
          have Hbel := Lib.hid hbel
          have Hrow := Lib.hid hrow
          clear hbel hrow
          go_loopw [45, 9] (fun s45 s9 wr => ∃ i : Nat, i ≤ below.length ∧ s45 = .int .i64 i ∧ s9 = .int .i64 (meet row 0 (below.take i) : Nat) ∧ Ext w5 wr) (fun s45 _ _ => below.length - (intOf s45).toNat)
          case atStart => exact ⟨0, by omega, rfl, rfl, Out.refl _ _⟩
          case round =>
            obtain ⟨i, hi, rfl, rfl, hx⟩ := hrel
            have Hx5 := Lib.hid hx
            by_cases hlt2 : i < below.length
            · have hms := meet_succ row below i hlt2
              have hml := meet_le row (below.take i) 0 (Nat.zero_le _)
              obtain ⟨b1, o1, u1, hA1, -, c0, c1, c2, hu⟩ := (hs0.out.ext hx).keyAt i hlt2
              subst hA1
              obtain ⟨U, N1, n1, rfl⟩ := hu.form0
              obtain ⟨z0, z1, z2, -⟩ := cells3 (blk_new wr (.cells #[.slice U N1 n1, u64V below[i].seq, byteV below[i].kind] 30))
              have Hu := Lib.hid (hu.alloc (.cells #[.slice U N1 n1, u64V below[i].seq, byteV below[i].kind] 30))
              have Hms := Lib.hid hms
              clear hms hu hx
              generalize meet row 0 (below.take i) = k at *
              by_cases hkr : k < row.length
              · obtain ⟨b2, o2, u2, hA2, -, d0, d1, d2, hu2⟩ := ((hsl5.out.ext Hx5.out).alloc (.cells #[.slice U N1 n1, u64V below[i].seq, byteV below[i].kind] 30)).keyAt k hkr
                subst hA2
                obtain ⟨V, N2, n2, rfl⟩ := hu2.form0
                have Hu2 := Lib.hid hu2
                clear hu2
                by_cases he : row[k] = below[i]
                · have hd : decide (row[k] = below[i]) = true := by simpa using he
                  have hnx : (if k < row.length ∧ row[k]? = some below[i] then k + 1 else k) = k + 1 := by rw [if_pos ⟨hkr, by rw [List.getElem?_eq_getElem hkr, he]⟩]
                  rw [hnx] at Hms
                  clear he hnx
                  go_wp2
                  go_region_held3 (fun w' => w'.cell? ⟨wr.heap.size, 0, none⟩ = some (.slice U N1 n1) ∧ w'.cell? ⟨wr.heap.size, 1, none⟩ = some (u64V below[i].seq) ∧ w'.cell? ⟨wr.heap.size, 2, none⟩ = some (byteV below[i].kind) ∧ w'.cell? ⟨b2, o2 + k * 3, none⟩ = some (.slice V N2 n2) ∧ w'.cell? ⟨b2, o2 + k * 3 + 1, none⟩ = some (u64V row[k].seq) ∧ w'.cell? ⟨b2, o2 + k * 3 + 2, none⟩ = some (byteV row[k].kind)) (first | (exact ⟨hx6.cell z0 (fun f => f), hx6.cell z1 (fun f => f), hx6.cell z2 (fun f => f), hx6.cell d0 (fun f => f), hx6.cell d1 (fun f => f), hx6.cell d2 (fun f => f)⟩) | go_keep) (first | (go_at_call 31; refine (r3_same _ row[k] below[i] (Hu2.out.drewN _) (Hu.out.drewN _)).mono ?_; rintro r w6 ⟨rfl, hx6⟩))
                  go_wp2
                  go_roundw
                  case rel => exact ⟨i + 1, by omega, by go_num, by rw [Hms.out]; go_num, by refine Out.trans ?_ hx6; repeat' (first | exact Hx5.out | refine Out.drew ?_ | refine Out.drewN ?_ _ | refine Out.alloc ?_ _)⟩
                  case measure => simp [intOf]; omega
                · have hd : decide (row[k] = below[i]) = false := by simpa using he
                  have hnx : (if k < row.length ∧ row[k]? = some below[i] then k + 1 else k) = k := by rw [if_neg (fun h => he (by have := h.2; rw [List.getElem?_eq_getElem hkr] at this; injection this))]
                  rw [hnx] at Hms
                  clear he hnx
                  go_wp2
                  go_region_held3 (fun w' => w'.cell? ⟨wr.heap.size, 0, none⟩ = some (.slice U N1 n1) ∧ w'.cell? ⟨wr.heap.size, 1, none⟩ = some (u64V below[i].seq) ∧ w'.cell? ⟨wr.heap.size, 2, none⟩ = some (byteV below[i].kind) ∧ w'.cell? ⟨b2, o2 + k * 3, none⟩ = some (.slice V N2 n2) ∧ w'.cell? ⟨b2, o2 + k * 3 + 1, none⟩ = some (u64V row[k].seq) ∧ w'.cell? ⟨b2, o2 + k * 3 + 2, none⟩ = some (byteV row[k].kind)) (first | (exact ⟨hx6.cell z0 (fun f => f), hx6.cell z1 (fun f => f), hx6.cell z2 (fun f => f), hx6.cell d0 (fun f => f), hx6.cell d1 (fun f => f), hx6.cell d2 (fun f => f)⟩) | go_keep) (first | (go_at_call 31; refine (r3_same _ row[k] below[i] (Hu2.out.drewN _) (Hu.out.drewN _)).mono ?_; rintro r w6 ⟨rfl, hx6⟩))
                  go_wp2
                  go_roundw
                  case rel => exact ⟨i + 1, by omega, by go_num, by rw [Hms.out], by refine Out.trans ?_ hx6; repeat' (first | exact Hx5.out | refine Out.drew ?_ | refine Out.drewN ?_ _ | refine Out.alloc ?_ _)⟩
                  case measure => simp [intOf]; omega
              · have hnx : (if k < row.length ∧ row[k]? = some below[i] then k + 1 else k) = k := by rw [if_neg (fun h => hkr h.1)]
                rw [hnx] at Hms
                clear hnx
                go_wp2
                go_quiet (fail)
                go_wp2
                go_roundw
                case rel => exact ⟨i + 1, by omega, by go_num, by rw [Hms.out], by repeat' (first | exact Hx5.out | refine Out.drew ?_ | refine Out.drewN ?_ _ | refine Out.alloc ?_ _)⟩
                case measure => simp [intOf]; omega
            · obtain rfl : i = below.length := by omega
              have hall : meet row 0 below = row.length := meet_all (by rw [List.drop_zero]; exact HSub.out) (Nat.zero_le _)
              rw [List.take_length]
              clear hx
              go_wp2
              go_roundw
              case rel => exact ⟨q + 1, by omega, by go_num, hR5.out.step Hx5.out, by rw [Hrow.out]; exact hsl5.out.ext Hx5.out⟩
              case measure => simp [intOf]; omega
        · obtain rfl : q = 7 := by omega
          go_wp2
          go_ret
          exact ⟨rfl, hR.ext⟩
end Go.Proofs.Yteaanagljmcidaa
