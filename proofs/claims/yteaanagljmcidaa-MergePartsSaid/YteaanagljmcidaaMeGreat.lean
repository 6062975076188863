/- merge: greatest. -/
import Derived.Test.YteaanagljmcidaaMeLeast
namespace Go.Proofs.Yteaanagljmcidaa
open Go.RowKit

attribute [local go_sem ↓] Go.wp_at_zero Go.wp_at_succ

variable {w w' : World} {F : Nat → Prop} {C : Nat} {v u q n : Value} {ss : List (List Ent × Int)} {st : Bool}

set_option maxRecDepth 100000 in
set_option maxHeartbeats 4000000 in
theorem me_greatest (h : Cu w F C v ss u q n st) (hp : ∀ s ∈ ss, 0 ≤ s.2 ∧ s.2 ≤ s.1.length) :
    Calls Try.prog 109 #[.pointer (some ⟨C, 0, none⟩)] w fun e w' => e = .returned (.bool (greatestK ss).isSome) ∧ Out (fun b => b = C) w w' ∧ CuK w' F C v ss (greatestK ss) := by
  obtain ⟨A, cap, rfl, -⟩ := h.own.form
  have hmax := h.own.len_le
  have hmax' : ss.length ≤ 9223372036854775807 := hmax
  obtain ⟨r0, r1, r2, r3, r4, rf⟩ := cells5C h
  have H := Lib.hid h
  have Hp := Lib.hid hp
  clear h hp hmax
  go_enter Try.func109, Try.ntmps109
  go_wp2
  go_loopw [13] (fun s13 wr => ∃ i : Nat, i ≤ ss.length ∧ s13 = .int .i64 i ∧ Out (fun b => b = C) w wr ∧ CuK wr F C (.slice A ss.length cap) ss (greatestK (ss.take i))) (fun s13 _ => ss.length - (intOf s13).toNat)
  case atStart =>
    obtain ⟨h1, h2⟩ := H.out.fall false
    exact ⟨0, Nat.zero_le _, rfl, h2, _, _, _, h1, fun k hk => by cases hk⟩
  case round =>
    obtain ⟨wo, rfl⟩ : ∃ wo : World, wo = wr := ⟨_, rfl⟩
    obtain ⟨i, hi, rfl, hx, ho⟩ := hrel
    have Ho := Lib.hid ho
    have Hx := Lib.hid hx
    obtain ⟨u1, q1, n1, hcu, hkey⟩ := ho
    clear hx
    by_cases hlt : i < ss.length
    · obtain ⟨g, cap', cs, t, x, hv, hb, y0, y1, yf, hsl⟩ := hcu.own.srcAt i hlt
      injection hv with hA hn hcp
      subst hA hcp
      clear hn
      by_cases hz : ss[i].2 = 0
      · have Hs := Lib.hid (greatestK_succ (ss := ss) hlt)
        have Hak : Hid (priorK ss[i] = none) := Lib.hid (by unfold priorK; rw [hz, if_pos (by decide)])
        rw [hz] at y1
        obtain ⟨X, xc, rfl, -, -, hbig, -⟩ := hsl.form
        have x1 := Ext.alloc1 wo (.cells #[.slice X ss[i].1.length xc, .int .i64 0] 160)
        obtain ⟨z0, z1, zf⟩ := cells2 (blk_new wo (.cells #[.slice X ss[i].1.length xc, .int .i64 0] 160))
        have X1 := Lib.hid (Hx.out.ext x1)
        have HO1 := Lib.hid (Ho.out.ext x1)
        clear hcu hsl hbig hb
        go_wp2
        go_region
        go_wp2
        go_roundw
        case rel => exact ⟨i + 1, by omega, by go_num, X1.out.drew, by rw [Hs.out, Hak.out]; exact HO1.out.ext (Out.refl _ _).drew⟩
        case measure => simp [intOf]; omega
      have hpi := Hp.out _ (List.getElem_mem hlt)
      obtain ⟨a, ha⟩ : ∃ a : Nat, ss[i].2 = (a : Int) + 1 := ⟨(ss[i].2 - 1).toNat, by omega⟩
      have hal : a < ss[i].1.length := by omega
      have hbig0 : ss[i].1.length ≤ 140737488355328 := by obtain ⟨_, _, _, _, _, h5, _⟩ := hsl.form; exact h5
      have hw1 : IntKind.i64.wrap ((a : Int) + 1 - 1) = (a : Int) := by rw [IntKind.wrap_i64]; omega
      have hw2 : IntKind.i64.wrap (a : Int) = (a : Int) := by rw [IntKind.wrap_i64]; omega
      have hw3 : (0 : Int) ≤ (a : Int) ∧ (a : Int) < (ss[i].1.length : Int) := by omega
      have Hs := Lib.hid (greatestK_succ (ss := ss) hlt)
      have hat : priorK ss[i] = (ss[i].1[a]?).map (·.key) := by unfold priorK; rw [ha, if_neg (by omega)]; congr 2
      rw [ha] at y1
      obtain ⟨X, xc, rfl, -, -, hbig, -⟩ := hsl.form
      have hbig' : ss[i].1.length ≤ 140737488355328 := hbig
      have x1 := Ext.alloc1 wo (.cells #[.slice X ss[i].1.length xc, .int .i64 ((a : Int) + 1)] 160)
      obtain ⟨z0, z1, zf⟩ := cells2 (blk_new wo (.cells #[.slice X ss[i].1.length xc, .int .i64 ((a : Int) + 1)] 160))
      obtain ⟨k0, k1, k2, k3, k4, kf⟩ := cells5C (hcu.ext x1)
      have Hcu := Lib.hid (hcu.ext x1)
      have Hsl := Lib.hid (hsl.ext x1)
      have Hat := Lib.hid hat
      have X1 := Lib.hid (Hx.out.ext x1)
      have HO1 := Lib.hid (Ho.out.ext x1)
      clear hcu hsl hbig hat hb
      obtain ⟨b1, o1, u2, v2, rfl, hFb, e0, e1, e2, e3, hu2, hv2⟩ := Hsl.out.ent a hal
      obtain ⟨U2, N2, n2, rfl⟩ := hu2.form0
      have Hu2 := Lib.hid (hu2.mono (G := F) (fun b hb _ => hb.1) (.inl (by decide)))
      clear hu2 hv2
      have Hak : Hid (priorK ss[i] = some ss[i].1[a].key) := Lib.hid (by rw [Hat.out, List.getElem?_eq_getElem hal]; rfl)
      cases hl : greatestK (ss.take i) with
      | none =>
        rw [hl] at k4 HO1 hkey Hs
        simp only [Option.isSome_none] at k4
        have Hn : Hid (greatestK (ss.take (i + 1)) = some ss[i].1[a].key) := Lib.hid (by rw [Hs.out, Hak.out]; rfl)
        clear hl hkey x1
        go_wp2
        go_region
        go_wp2
        go_roundw
        case rel =>
          obtain ⟨c1, c2⟩ := (Hcu.out.ext (Out.refl _ _).drew).put (.slice U2 N2 n2) (u64V ss[i].1[a].key.seq) (byteV ss[i].1[a].key.kind) true
          exact ⟨i + 1, by omega, by go_num, X1.out.drew.trans c2, by rw [Hn.out]; exact ⟨_, _, _, c1, fun k hk => by injection hk with hk; subst hk; exact ⟨rfl, rfl, Hu2.out.drew.out c2 (fun b _ hb e => Hcu.out.coldC (e ▸ hb))⟩⟩⟩
        case measure => simp [intOf]; omega
      | some h =>
        rw [hl] at k4 HO1 hkey Hs
        simp only [Option.isSome_some] at k4
        obtain ⟨rfl, rfl, hu1⟩ := hkey h rfl
        obtain ⟨U1, N1, m1, rfl⟩ := hu1.form0
        have Hu1 := Lib.hid (hu1.ext x1).drew
        have Hu2d := Lib.hid Hu2.out.drew
        have hCl : C < wo.heap.size := by have := blk_lt Hcu.out.blk; have h2 := blk_lt Ho.out.choose_spec.choose_spec.choose_spec.1.blk; exact h2
        clear hl hkey x1 hu1
        go_wp2
        go_region_held3 (fun w' => w'.cell? ⟨wo.heap.size, 0, none⟩ = some (.slice (some ⟨b1, o1, none⟩) ss[i].1.length xc) ∧ w'.cell? ⟨wo.heap.size, 1, none⟩ = some (.int .i64 ((a : Int) + 1)) ∧ w'.cell? ⟨C, 1, none⟩ = some (.slice U1 N1 m1) ∧ w'.cell? ⟨C, 2, none⟩ = some (u64V h.seq) ∧ w'.cell? ⟨C, 3, none⟩ = some (byteV h.kind) ∧ w'.cell? ⟨C, 4, none⟩ = some (.bool true) ∧ w'.cell? ⟨b1, o1 + a * 4, none⟩ = some (.slice U2 N2 n2) ∧ w'.cell? ⟨b1, o1 + a * 4 + 1, none⟩ = some (u64V ss[i].1[a].key.seq) ∧ w'.cell? ⟨b1, o1 + a * 4 + 2, none⟩ = some (byteV ss[i].1[a].key.kind))
          (first | go_keep | exact ⟨hx2.cell z0 (fun f => f), hx2.cell z1 (fun f => f), hx2.cell k1 (fun f => f), hx2.cell k2 (fun f => f), hx2.cell k3 (fun f => f), hx2.cell k4 (fun f => f), hx2.cell e0 (fun f => f), hx2.cell e1 (fun f => f), hx2.cell e2 (fun f => f)⟩) (first | (go_at_call 98; refine (ikey_compare _ ss[i].1[a].key h Hu2d.out Hu1.out).mono ?_; rintro e w2 ⟨rfl, hx2⟩))
        have hx3 := Out.ext (Out.refl (fun _ => False) _).drew hx2
        have Hcu2 := Lib.hid (Hcu.out.ext hx3)
        have HX2 := Lib.hid (X1.out.ext hx3)
        have Hu2' := Lib.hid (Hu2.out.ext hx3)
        have HO2 := Lib.hid (HO1.out.ext hx3)
        obtain ⟨j0, j1, j2, j3, j4, jf⟩ := cells5C Hcu2.out
        clear hx3
        by_cases hk : 0 < kcmp ss[i].1[a].key h
        · have Hn : Hid (greatestK (ss.take (i + 1)) = some ss[i].1[a].key) := Lib.hid (by rw [Hs.out, Hak.out]; unfold moreK; exact if_pos hk)
          go_wp2
          go_roundw
          case rel =>
            obtain ⟨c1, c2⟩ := Hcu2.out.put (.slice U2 N2 n2) (u64V ss[i].1[a].key.seq) (byteV ss[i].1[a].key.kind) true
            exact ⟨i + 1, by omega, by go_num, HX2.out.trans c2, by rw [Hn.out]; exact ⟨_, _, _, c1, fun k hk => by injection hk with hk; subst hk; exact ⟨rfl, rfl, Hu2'.out.out c2 (fun b _ hb e => Hcu.out.coldC (e ▸ hb))⟩⟩⟩
          case measure => simp [intOf]; omega
        · have Hn : Hid (greatestK (ss.take (i + 1)) = some h) := Lib.hid (by rw [Hs.out, Hak.out]; unfold moreK; exact if_neg hk)
          go_wp2
          go_roundw
          case rel => exact ⟨i + 1, by omega, by go_num, HX2.out, by rw [Hn.out]; exact HO2.out⟩
          case measure => simp [intOf]; omega
    · obtain rfl : i = ss.length := by omega
      rw [List.take_length] at Ho
      obtain ⟨r0, r1, r2, r3, r4, rf⟩ := cells5C hcu
      go_wp2
      go_ret
      exact ⟨rfl, Hx.out, Ho.out⟩
end Go.Proofs.Yteaanagljmcidaa
