/- tomb: Cover, All. -/
import Derived.Test.YteaanagljmcidaaTomb
namespace Go.Proofs.Yteaanagljmcidaa
open Go.RowKit

attribute [local go_sem ↓] Go.wp_at_zero Go.wp_at_succ
variable {w w' : World} {F G H : Nat → Prop} {T : Nat} {v : Value} {l : List SpanE}

def coversB (s : SpanE) (k : List UInt8) : Bool := !Op.bytesLess k s.frm && Op.bytesLess k s.til
def coverStep (k : List UInt8) (q : Nat) (best : Nat) (s : SpanE) : Nat := if s.seq.toNat ≤ q ∧ coversB s k = true then max best s.seq.toNat else best
/-- The greatest number over a key. -/
def coverE (l : List SpanE) (k : List UInt8) (q : Nat) : Nat := l.foldl (coverStep k q) 0
theorem coverE_succ {l : List SpanE} {i : Nat} (hi : i < l.length) (k : List UInt8) (q : Nat) : coverE (l.take (i + 1)) k q = coverStep k q (coverE (l.take i) k q) l[i] := by
  unfold coverE
  rw [List.take_succ_eq_append_getElem hi, List.foldl_append]; rfl
theorem Own.spanAt {B : Nat} (h : Own spanC 92 w B F v l) (i : Nat) (hi : i < l.length) : ∃ R cap x y, v = .slice (some ⟨R, 0, none⟩) l.length cap ∧ R < w.heap.size ∧
    w.cell? ⟨R, i * 3, none⟩ = some x ∧ w.cell? ⟨R, i * 3 + 1, none⟩ = some y ∧ w.cell? ⟨R, i * 3 + 2, none⟩ = some (u64V l[i].seq) ∧ Bs w (fun b => F b ∧ b ≠ R) x l[i].frm ∧ Bs w (fun b => F b ∧ b ≠ R) y l[i].til := by
  obtain ⟨xs, ho, he⟩ := h
  obtain ⟨cs', hc', x, y, rfl, hb1, hb2⟩ := he i hi
  rcases ho.2 with ⟨rfl, h0⟩ | ⟨R, cap, cur, rfl, hb, hg, hnc, _⟩
  · omega
  · have key : ∀ j u, j < 3 → [x, y, u64V l[i].seq][j]? = some u → w.cell? ⟨R, i * 3 + j, none⟩ = some u := by
      intro j u hj hu
      have h1 := hc' j hj
      rw [hu] at h1
      have h2 := ho.cells (g := R) rfl (i * 3 + j) u h1
      rwa [show (⟨R, 0, none⟩ : Addr).add (i * 3 + j) = ⟨R, i * 3 + j, none⟩ from by unfold Addr.add; split <;> simp_all] at h2
    exact ⟨R, cap, x, y, rfl, blk_lt hg, key 0 _ (by omega) rfl, key 1 _ (by omega) rfl, key 2 _ (by omega) rfl,
      hb1.mono (fun b hb _ => ⟨hb.1, fun e => hb.2 (by rw [e]; rfl)⟩) (.inl (by decide)), hb2.mono (fun b hb _ => ⟨hb.1, fun e => hb.2 (by rw [e]; rfl)⟩) (.inl (by decide))⟩

set_option maxRecDepth 100000 in
set_option maxHeartbeats 4000000 in
theorem tomb_cover (h : Tb w F T v l) {x : Value} (k : List UInt8) (hx : Bs w H x k) (q : Nat) :
    Calls Try.prog 139 #[.pointer (some ⟨T, 0, none⟩), x, .int .u64 (q : Int)] w fun e w' => e = .returned (.int .u64 (coverE l k q : Nat)) ∧ Ext w w' := by
  obtain ⟨X, M, m, rfl⟩ := hx.form0
  obtain ⟨V, c, rfl, -⟩ := h.own.form
  have hmax' : l.length ≤ 9223372036854775807 := by obtain ⟨xs, ho, -⟩ := h.own; rcases ho.2 with ⟨-, h0⟩ | ⟨g, cap, cur, -, -, -, h1, h2, -⟩ <;> (try unfold maxLen at *) <;> omega
  obtain ⟨r0, rf⟩ := cells1 h.blk
  have H0 := Lib.hid h
  have Hk := Lib.hid hx
  clear h hx
  go_enter Try.func139, Try.ntmps139
  go_wp2
  go_loopw [7, 17] (fun s7 s17 wr => ∃ i : Nat, i ≤ l.length ∧ s17 = .int .i64 i ∧ s7 = .int .u64 (coverE (l.take i) k q : Nat) ∧ Ext w wr) (fun _ s17 _ => l.length - (intOf s17).toNat)
  case atStart => exact ⟨0, Nat.zero_le _, rfl, rfl, Out.refl _ _⟩
  case round =>
    obtain ⟨wo, rfl⟩ : ∃ x : World, x = wr := ⟨_, rfl⟩
    obtain ⟨i, hi, rfl, rfl, hxi⟩ := hrel
    have HX := Lib.hid hxi
    clear hxi
    by_cases hlt : i < l.length
    · obtain ⟨R, rc, ux, uy, hv, hR, e0, e1, e2, hu, hv2⟩ := (H0.out.ext HX.out).own.spanAt i hlt
      injection hv with hV _ hc
      subst hV hc
      obtain ⟨U, N1, n1, rfl⟩ := hu.form0
      obtain ⟨V2, N2, n2, rfl⟩ := hv2.form0
      have x1 := Ext.alloc1 wo (.cells #[.slice U N1 n1, .slice V2 N2 n2, u64V l[i].seq] 92)
      have hz := blk_new wo (.cells #[.slice U N1 n1, .slice V2 N2 n2, u64V l[i].seq] 92)
      obtain ⟨z0, z1, z2, -⟩ := cells3 hz
      have Hz := Lib.hid hz
      have HC := Lib.hid (tomb_covers (wo.alloc (.cells #[.slice U N1 n1, .slice V2 N2 n2, u64V l[i].seq] 92)) l[i] k (hu.ext x1) (hv2.ext x1) ((Hk.out.ext HX.out).ext x1))
      have X1 := Lib.hid (HX.out.ext x1)
      have Hs := Lib.hid (coverE_succ hlt k q)
      have hlim : ((l[i].seq.toNat : Int)) ≤ 18446744073709551615 := by have := l[i].seq.toNat_lt; omega
      clear hu hv2 hz x1
      generalize coverE (l.take i) k q = best at *
      by_cases hq : l[i].seq.toNat ≤ q
      · cases hcv : (!Op.bytesLess k l[i].frm && Op.bytesLess k l[i].til) with
        | true =>
          rw [hcv] at HC
          have Hs' : Hid (coverE (l.take (i + 1)) k q = max best l[i].seq.toNat) := Lib.hid (by rw [Hs.out]; unfold coverStep; exact if_pos ⟨hq, hcv⟩)
          clear hcv
          go_wp2_with (go_at_call 164; refine HC.out.mono ?_; rintro r w1 ⟨rfl, hx1⟩; obtain ⟨y0, y1, y2, -⟩ := cells3 (hx1.blk Hz.out (fun f => f)))
          go_roundw
          case rel => exact ⟨i + 1, by omega, by go_num, by rw [Hs'.out]; congr 1; omega, X1.out.ext hx1⟩
          case measure => simp [intOf]; omega
        | false =>
          rw [hcv] at HC
          have Hs' : Hid (coverE (l.take (i + 1)) k q = best) := Lib.hid (by rw [Hs.out]; unfold coverStep; exact if_neg (fun h => by have h2 := h.2; unfold coversB at h2; rw [hcv] at h2; cases h2))
          clear hcv
          go_wp2_with (go_at_call 164; refine HC.out.mono ?_; rintro r w1 ⟨rfl, hx1⟩)
          go_roundw
          case rel => exact ⟨i + 1, by omega, by go_num, by rw [Hs'.out], X1.out.ext hx1⟩
          case measure => simp [intOf]; omega
      · have Hs' : Hid (coverE (l.take (i + 1)) k q = best) := Lib.hid (by rw [Hs.out]; unfold coverStep; exact if_neg (fun h => hq h.1))
        go_wp2
        go_roundw
        case rel => exact ⟨i + 1, by omega, by go_num, by rw [Hs'.out], X1.out⟩
        case measure => simp [intOf]; omega
    · obtain rfl : i = l.length := by omega
      rw [List.take_length]
      go_wp2
      go_ret
      exact ⟨rfl, HX.out⟩

set_option maxRecDepth 100000 in
set_option maxHeartbeats 4000000 in
theorem tomb_all (h : Tb w F T v l) (hl : l.length ≤ 1000000) : Calls Try.prog 123 #[.pointer (some ⟨T, 0, none⟩)] w (OwnedM spanC 92 w l) := by
  obtain ⟨V, c, rfl, -⟩ := h.own.form
  obtain ⟨r0, rf⟩ := cells1 h.blk
  have H0 := Lib.hid h
  clear h
  go_enter Try.func123, Try.ntmps123
  go_wp2
  go_loopw [3, 13] (fun s3 s13 wr => ∃ i : Nat, i ≤ l.length ∧ s13 = .int .i64 i ∧ Own spanC 92 wr w.heap.size (fun b => w.heap.size ≤ b) s3 (l.take i) ∧ Ext w wr) (fun _ s13 _ => l.length - (intOf s13).toNat)
  case atStart => exact ⟨0, Nat.zero_le _, rfl, Own.nil _ _ _ _ _, Out.refl _ _⟩
  case round =>
    obtain ⟨wo, rfl⟩ : ∃ x : World, x = wr := ⟨_, rfl⟩
    obtain ⟨i, hi, rfl, hown, hxi⟩ := hrel
    obtain ⟨A3, n3, c3, rfl⟩ := hown.form0
    have HX := Lib.hid hxi
    have HFl := Lib.hid hown.lt
    have Hown := Lib.hid hown
    have hsz := hxi.size
    clear hxi hown
    by_cases hlt : i < l.length
    · obtain ⟨R, rc, ux, uy, hv, hR, e0, e1, e2, hu, hv2⟩ := (H0.out.ext HX.out).own.spanAt i hlt
      injection hv with hV _ hc
      subst hV hc
      obtain ⟨U, N1, n1, rfl⟩ := hu.form0
      obtain ⟨V2, N2, n2, rfl⟩ := hv2.form0
      have x1 := Ext.alloc1 wo (.cells #[.slice U N1 n1, .slice V2 N2 n2, u64V l[i].seq] 92)
      obtain ⟨z0, z1, z2, -⟩ := cells3 (blk_new wo (.cells #[.slice U N1 n1, .slice V2 N2 n2, u64V l[i].seq] 92))
      have Hu := Lib.hid (hu.ext x1)
      have Hv := Lib.hid (hv2.ext x1)
      have X1 := Lib.hid (HX.out.ext x1)
      have Hown1 := Lib.hid (Hown.out.ext x1)
      clear hu hv2 x1
      go_wp2_with (first
        | (go_at_call 161; refine (tomb_one _ l[i] Hu.out Hv.out).mono ?_; rintro r w2 ⟨u2, x2, rfl, hx2, hu2, hv2⟩; obtain ⟨U2, N2', n2', rfl⟩ := hu2.form0; obtain ⟨X2, M2, m2, rfl⟩ := hv2.form0; have HX2 := Lib.hid hx2; have Hu2 := Lib.hid hu2; have Hv2 := Lib.hid hv2; have hs2 := hx2.size; simp only [World.size_alloc] at hs2; clear hx2 hu2 hv2)
        | (at_builtin; refine wpList_append_one rfl (.tmp 17) (.tmp 20) 82 rfl fits92 ((Hown1.out.ext HX2.out).ext (Ext.alloc1 _ _)) rfl (by (try simp only [World.size_alloc]); omega) (blk_new _ _) rfl l[i] ⟨_, _, rfl, (Hu2.out.alloc _).mono (fun b hb _ => ⟨by simp at hb; omega, fun e => by have := (HFl.out _ e).2; simp at hb; omega⟩) (.inl (by decide)), (Hv2.out.alloc _).mono (fun b hb _ => ⟨by simp at hb; omega, fun e => by have := (HFl.out _ e).2; simp at hb; omega⟩) (.inl (by decide))⟩ (by rw [List.length_take]; omega) (by decide) ?_; intro v' w3 g1 g2 g3; obtain ⟨A6, n6, c6, rfl⟩ := g1.form0; have G1 := Lib.hid g1; have G2 := Lib.hid g2; clear g1 g2 g3))
      go_roundw
      case rel => exact ⟨i + 1, by omega, by go_num, by rw [List.take_succ_eq_append_getElem hlt]; exact G1.out, ((X1.out.ext HX2.out).alloc _).then G2.out (fun b hb e => by have := (HFl.out _ e).1; omega)⟩
      case measure => simp [intOf]; omega
    · obtain rfl : i = l.length := by omega
      rw [List.take_length] at Hown
      go_wp2
      go_ret
      exact ⟨_, rfl, HX.out, Hown.out⟩
end Go.Proofs.Yteaanagljmcidaa
