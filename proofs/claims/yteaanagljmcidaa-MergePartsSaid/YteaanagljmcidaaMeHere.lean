/- merge: Here. -/
import Derived.Test.YteaanagljmcidaaMeOpsB
namespace Go.Proofs.Yteaanagljmcidaa
open Go.RowKit

attribute [local go_sem ↓] Go.wp_at_zero Go.wp_at_succ
variable {w w' : World} {F G : Nat → Prop} {C : Nat} {v u q n : Value} {ls : List (List Ent)} {ss : List (List Ent × Int)} {st : Bool} {o : Option Key} {k : Key}

theorem nil_here : Calls Try.prog 57 #[.pointer none] w (ToldM w none) := by
  go_enter Try.func57, Try.ntmps57
  go_wp2
  refine bodyPost_ret (v := .tuple #[.agg #[.slice none 0 0, .int .u64 0, .int .u8 0, .slice none 0 0], .bool false]) (by simp [results, Try.results57, go_sem]) rfl (toldM_none _ _ ?_)
  exact (Out.refl _ w).alloc _
theorem me_hereNo (h : Cur w F C v ls none) : Calls Try.prog 57 #[.pointer (some ⟨C, 0, none⟩)] w (ToldM w none) := by
  obtain ⟨ss, hss, u, q, n, hc, -⟩ := h
  simp only [Option.isSome_none] at hc
  obtain ⟨r0, r1, r2, r3, r4, rf⟩ := cells5C (hc.ext (Ext.alloc1 w (.cells #[.slice none 0 0, .int .u64 0, .int .u8 0, .slice none 0 0] 32)))
  clear hc
  go_enter Try.func57, Try.ntmps57
  go_wp2
  refine bodyPost_ret (v := .tuple #[.agg #[.slice none 0 0, .int .u64 0, .int .u8 0, .slice none 0 0], .bool false]) (by simp [results, Try.results57, go_sem]) rfl (toldM_none _ _ ?_)
  exact (Out.refl _ w).alloc _

theorem find_step {l : List Ent} {i : Nat} (hi : i < ls.length) (hl : ls[i] = l) : (ls.take (i + 1)).flatten.find? (hasK k) = ((ls.take i).flatten.find? (hasK k)).or (l.find? (hasK k)) := by
  rw [List.take_succ_eq_append_getElem hi, List.flatten_append, List.find?_append, hl]; simp
theorem find_found {l : List Ent} {e : Ent} {i : Nat} (hi : i < ls.length) (hl : ls[i] = l) (h0 : (ls.take i).flatten.find? (hasK k) = none) (h1 : l.find? (hasK k) = some e) : ls.flatten.find? (hasK k) = some e := by
  have h2 := find_step (k := k) hi hl
  rw [h0, h1] at h2
  rw [← List.take_append_drop (i + 1) ls, List.flatten_append, List.find?_append, h2]; rfl

set_option maxRecDepth 100000 in
set_option maxHeartbeats 4000000 in
/-- Here, where it stands: who stands there, of the first list that has it. -/
theorem me_here (h : Cur w F C v ls (some k)) (hs : ∀ l ∈ ls, SortedE l) : Calls Try.prog 57 #[.pointer (some ⟨C, 0, none⟩)] w (ToldM w (ls.flatten.find? (hasK k))) := by
  obtain ⟨ss, hss, u, q, n, hc, hk⟩ := h
  obtain ⟨rfl, rfl, hu⟩ := hk k rfl
  obtain ⟨U, N1, n1, rfl⟩ := hu.form0
  obtain ⟨A, cap, rfl, -⟩ := hc.own.form
  simp only [Option.isSome_some] at hc
  have hmax' : ss.length ≤ 9223372036854775807 := hc.own.len_le
  have x0 := Ext.alloc1 w (.cells #[.slice none 0 0, .int .u64 0, .int .u8 0, .slice none 0 0] 32)
  obtain ⟨r0, r1, r2, r3, r4, rf⟩ := cells5C (hc.ext x0)
  have H := Lib.hid (hc.ext x0)
  have HU := Lib.hid (hu.ext x0)
  have X0 := Lib.hid x0
  have HCl := Lib.hid (blk_lt hc.blk)
  have Z := Lib.hid (blk_new w (.cells #[.slice none 0 0, .int .u64 0, .int .u8 0, .slice none 0 0] 32))
  have hlen : ss.length = ls.length := by rw [← hss, List.length_map]
  have Hlen := Lib.hid hlen
  have Hss := Lib.hid hss
  clear hc hu hk x0 hlen hss
  go_enter Try.func57, Try.ntmps57
  go_wp2
  go_loopw [21] (fun s21 wr => ∃ i : Nat, i ≤ ss.length ∧ s21 = .int .i64 i ∧ Hid (Ext (w.alloc (.cells #[.slice none 0 0, .int .u64 0, .int .u8 0, .slice none 0 0] 32)) wr) ∧ Hid ((ls.take i).flatten.find? (hasK k) = none)) (fun s21 _ => ss.length - (intOf s21).toNat)
  case atStart => exact ⟨0, Nat.zero_le _, rfl, Lib.hid (Out.refl _ _), Lib.hid (by simp)⟩
  case round =>
    obtain ⟨wo, rfl⟩ : ∃ wo : World, wo = wr := ⟨_, rfl⟩
    obtain ⟨i, hi, rfl, Hx, Hno⟩ := hrel
    have hwo : w.heap.size < wo.heap.size := by have := Hx.out.size; simp at this; omega
    by_cases hlt : i < ss.length
    · have hcu := H.out.ext Hx.out
      obtain ⟨g, cap', cs, t, x, hv, hb, y0, y1, yf, hsl⟩ := hcu.own.srcAt i hlt
      injection hv with hA hn hcp
      subst hA hcp
      clear hn
      have hli : i < ls.length := by have := Hlen.out; omega
      have hl : ls[i] = ss[i].1 := by simp only [← Hss.out, List.getElem_map]
      have hsort : SortedE ss[i].1 := hs _ (by rw [← hl]; exact List.getElem_mem hli)
      have Hl := Lib.hid hl
      have Hsort := Lib.hid hsort
      clear hl hsort
      obtain ⟨X, xc, rfl, -, -, hbig, -⟩ := hsl.form
      have hbig' : ss[i].1.length ≤ 140737488355328 := hbig
      have x1 := Ext.alloc1 wo (.cells #[.slice X ss[i].1.length xc, .int .i64 ss[i].2] 160)
      have hz := blk_new wo (.cells #[.slice X ss[i].1.length xc, .int .i64 ss[i].2] 160)
      obtain ⟨z0, z1, zf⟩ := cells2 hz
      have Hz := Lib.hid hz
      obtain ⟨k0, k1, k2, k3, k4, kf⟩ := cells5C (hcu.ext x1)
      have Hsl := Lib.hid hsl
      have Hsl1 := Lib.hid (hsl.ext x1)
      have Hu0 := Lib.hid (HU.out.ext Hx.out)
      have Hu1 := Lib.hid ((HU.out.ext Hx.out).ext x1)
      have Hcu := Lib.hid hcu
      clear hcu hsl hbig hz hb
      have hle := aheadN_le ss[i].1 k
      have Hfind := Lib.hid (Hsort.out.find k)
      by_cases hal : aheadN ss[i].1 k < ss[i].1.length
      · obtain ⟨b1, o1, u2, v2, rfl, hFb, e0, e1, e2, e3, hu2, hv2⟩ := Hsl.out.ent _ hal
        obtain ⟨U2, N2, n2, rfl⟩ := hu2.form0
        obtain ⟨V2, M2, m2, rfl⟩ := hv2.form0
        have Hu2 := Lib.hid hu2
        have Hv2 := Lib.hid hv2
        clear hu2 hv2
        go_wp2_with (go_at_call 111; refine (me_seek _ (g := wo.heap.size) (off := 0) z0 z1 zf Hsl1.out Hu1.out Hsort.out).mono ?_; rintro e w1 ⟨rfl, hsa⟩; have hX2 : Ext wo w1 := x1.then hsa.out (fun i hi e => by omega); have hb1 : w1.heap[wo.heap.size]? = some (.cells #[.slice (some ⟨b1, o1, none⟩) ss[i].1.length xc, .int .i64 (aheadN ss[i].1 k)] 160) := (by simpa using hsa.blk _ _ Hz.out); obtain ⟨t0, t1, tf⟩ := cells2 hb1; obtain ⟨j0, j1, j2, j3, j4, jf⟩ := cells5C (Hcu.out.ext hX2); have f0 := hX2.cell e0 (fun f => f); have f1 := hX2.cell e1 (fun f => f); have f2 := hX2.cell e2 (fun f => f); have f3 := hX2.cell e3 (fun f => f); have X2 := Lib.hid hX2; have Hu3 := Lib.hid (Hu2.out.ext hX2).drew; have Hu4 := Lib.hid (Hu0.out.ext hX2).drew; clear hX2 hsa hb1 e0 e1 e2 e3 z0 z1 zf k0 k1 k2 k3 k4 kf x1)
        go_region_held3 (fun w' => w'.cell? ⟨wo.heap.size, 0, none⟩ = some (.slice (some ⟨b1, o1, none⟩) ss[i].1.length xc) ∧ w'.cell? ⟨wo.heap.size, 1, none⟩ = some (.int .i64 (aheadN ss[i].1 k)) ∧ w'.cell? ⟨C, 1, none⟩ = some (.slice U N1 n1) ∧ w'.cell? ⟨C, 2, none⟩ = some (u64V k.seq) ∧ w'.cell? ⟨C, 3, none⟩ = some (byteV k.kind) ∧ w'.cell? ⟨b1, o1 + aheadN ss[i].1 k * 4, none⟩ = some (.slice U2 N2 n2) ∧ w'.cell? ⟨b1, o1 + aheadN ss[i].1 k * 4 + 1, none⟩ = some (u64V ss[i].1[aheadN ss[i].1 k].key.seq) ∧ w'.cell? ⟨b1, o1 + aheadN ss[i].1 k * 4 + 2, none⟩ = some (byteV ss[i].1[aheadN ss[i].1 k].key.kind))
          (first | go_keep | exact ⟨hx2.cell t0 (fun f => f), hx2.cell t1 (fun f => f), hx2.cell j1 (fun f => f), hx2.cell j2 (fun f => f), hx2.cell j3 (fun f => f), hx2.cell f0 (fun f => f), hx2.cell f1 (fun f => f), hx2.cell f2 (fun f => f)⟩) (first | (go_at_call 98; refine (ikey_compare _ ss[i].1[aheadN ss[i].1 k].key k Hu3.out Hu4.out).mono ?_; rintro e w2 ⟨rfl, hx2⟩))
        have hx3 := Out.ext (Out.refl (fun _ => False) w1).drew hx2
        have X3 := Lib.hid (X2.out.ext hx3)
        have g0 := hx3.cell t0 (fun f => f)
        have g1 := hx3.cell t1 (fun f => f)
        have p0 := hx3.cell f0 (fun f => f)
        have p1 := hx3.cell f1 (fun f => f)
        have p2 := hx3.cell f2 (fun f => f)
        have p3 := hx3.cell f3 (fun f => f)
        have Hu5 := Lib.hid (Hu2.out.ext X3.out)
        have Hv5 := Lib.hid (Hv2.out.ext X3.out)
        clear hx3 t0 t1 tf f0 f1 f2 f3
        have hz : (kcmp ss[i].1[aheadN ss[i].1 k].key k = 0) ↔ (ss[i].1[aheadN ss[i].1 k]?).map (·.key) = some k := by rw [kcmp_zero, List.getElem?_eq_getElem hal]; simp
        by_cases heq : kcmp ss[i].1[aheadN ss[i].1 k].key k = 0
        · rw [if_pos (hz.1 heq), List.getElem?_eq_getElem hal] at Hfind
          have Hgot := Lib.hid (find_found hli Hl.out Hno.out Hfind.out)
          clear hz
          go_wp2_with (go_at_call 104; refine (merge_one _ ss[i].1[aheadN ss[i].1 k] Hu5.out Hv5.out).mono ?_; rintro r w3 ⟨a3, b3, rfl, hx4, ha3, hb3⟩; obtain ⟨A3, p3', q3, rfl⟩ := ha3.form0; obtain ⟨B3, r3', s3, rfl⟩ := hb3.form0; have hR := hx4.blk (X3.out.blk (Hx.out.blk Z.out (fun f => f)) (fun f => f)) (fun f => f); obtain ⟨y0, y1, y2, y3, yf⟩ := cells4 hR; have HR := Lib.hid hR; clear hR)
          obtain ⟨r0, r1, r2, r3, -⟩ := cells4 (blk_set4 HR.out (.slice A3 p3' q3) (u64V ss[i].1[aheadN ss[i].1 k].key.seq) (byteV ss[i].1[aheadN ss[i].1 k].key.kind) (.slice B3 r3' s3))
          have hsz := X3.out.size
          have ho := out_set4 (S := fun b => b = w.heap.size) (Out.refl _ w3) (g := w.heap.size) (fun _ => rfl) (.slice A3 p3' q3) (u64V ss[i].1[aheadN ss[i].1 k].key.seq) (byteV ss[i].1[aheadN ss[i].1 k].key.kind) (.slice B3 r3' s3)
          refine bodyPost_ret (v := .tuple #[.agg #[.slice A3 p3' q3, u64V ss[i].1[aheadN ss[i].1 k].key.seq, byteV ss[i].1[aheadN ss[i].1 k].key.kind, .slice B3 r3' s3], .bool true]) (by simp [results, Try.results57, go_sem, r0, r1, r2, r3]) rfl ?_
          rw [Hgot.out]
          have hxx : Ext w w3 := ((X0.out.ext Hx.out).ext X3.out).ext hx4
          exact ⟨_, _, rfl, hxx.then ho (fun b hb e => by omega), (ha3.out ho (fun b _ hb e => by omega)).mono (fun b hb _ => by omega) (.inl (by decide)), (hb3.out ho (fun b _ hb e => by omega)).mono (fun b hb _ => by omega) (.inl (by decide))⟩
        · rw [if_neg (fun h => heq (hz.2 h))] at Hfind
          have Hnext := Lib.hid (find_step (k := k) hli Hl.out)
          clear hz
          go_wp2
          go_roundw
          case rel => exact ⟨i + 1, by omega, by go_num, Lib.hid (Hx.out.ext X3.out), Lib.hid (by rw [Hnext.out, Hno.out, Hfind.out]; rfl)⟩
          case measure => simp [intOf]; omega
      · have hn : ¬ (ss[i].1[aheadN ss[i].1 k]?).map (·.key) = some k := by rw [List.getElem?_eq_none (by omega)]; simp
        rw [if_neg hn] at Hfind
        have Hnext := Lib.hid (find_step (k := k) hli Hl.out)
        have hge : ss[i].1.length ≤ aheadN ss[i].1 k := by omega
        clear hn
        go_wp2_with (go_at_call 111; refine (me_seek _ (g := wo.heap.size) (off := 0) z0 z1 zf Hsl1.out Hu1.out Hsort.out).mono ?_; rintro e w1 ⟨rfl, hsa⟩; have hX2 : Ext wo w1 := x1.then hsa.out (fun i hi e => by omega); have hb1 : w1.heap[wo.heap.size]? = some (.cells #[.slice X ss[i].1.length xc, .int .i64 (aheadN ss[i].1 k)] 160) := (by simpa using hsa.blk _ _ Hz.out); obtain ⟨t0, t1, tf⟩ := cells2 hb1; have X2 := Lib.hid hX2; clear hX2 hsa hb1 z0 z1 zf k0 k1 k2 k3 k4 kf x1)
        go_region
        go_wp2
        go_roundw
        case rel => exact ⟨i + 1, by omega, by go_num, Lib.hid (Hx.out.ext X2.out.drew), Lib.hid (by rw [Hnext.out, Hno.out, Hfind.out]; rfl)⟩
        case measure => simp [intOf]; omega
    · obtain rfl : i = ss.length := by omega
      have hR := Hx.out.blk Z.out (fun f => f)
      obtain ⟨y0, y1, y2, y3, yf⟩ := cells4 hR
      go_wp2
      have hno := Hno.out
      rw [Hlen.out, List.take_length] at hno
      rw [hno]
      refine bodyPost_ret (v := .tuple #[.agg #[.slice none 0 0, .int .u64 0, .int .u8 0, .slice none 0 0], .bool false]) ?_ rfl (toldM_none _ _ ?_)
      · obtain ⟨r0, r1, r2, r3, -⟩ := cells4 (blk_set4 hR (.slice none 0 0) (.int .u64 0) (.int .u8 0) (.slice none 0 0))
        simp [results, Try.results57, go_sem, r0, r1, r2, r3]
      · exact out_set4 (X0.out.ext Hx.out) (by omega) _ _ _ _
end Go.Proofs.Yteaanagljmcidaa
